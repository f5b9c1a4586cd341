/- A group's state behind a pointer: its own, and what it says. No statement of the seat is proved here. -/
import Derived.Test.YtfllmhjjfapnmaaGreatVZRaftCheck
import Derived.Test.YtfllmhjjfapnmaaGreatVZTells2
import Derived.Test.YtfllmhjjfapnmaaGreatVZVE
namespace Go.Proofs.YtfllmhjjfapnmaaGreat
open Go Go.VI
set_option linter.unusedSimpArgs false
attribute [local irreducible] Ws Wp W C
set_option maxHeartbeats 4000000
def gD (g : Nat) (ov : AV) (s : Mem) (q : Nat) : Prop := q < s.next ∧ q ≠ g ∧ ∀ i n z, ov ≠ .own q i n z
def grpRow (r : Raft) (d w vv pv ov : AV) : Row := ⟨78, 15, [[.int .i64 r.node, .int .u64 r.term, .int .i64 r.vote, .int .u64 r.log.base.index, .int .u64 r.log.base.term, .int .i64 r.log.base.kind, d, w, .int .u64 r.commit, .int .i64 r.role, .int .i64 r.leads, .int .i64 r.elapsed, vv, pv, ov]]⟩
structure Grp (g : Nat) (s : Mem) (r : Raft) (out : List Msg) (d w vv pv ov : AV) : Prop where
  row : s.get g = some (grpRow r d w vv pv ov)
  d : Byt s (gD g ov s) d r.log.base.data
  w : Ents s (gD g ov s) w r.log.l
  vv : Sl s (gD g ov s) vv 1 (intsA .i64 r.votes)
  pv : Sl s (gD g ov s) pv 3 (peersC r.peers)
  lt : g < s.next
  fl : s.floor ≤ g
  out : ∃ xs, OwnL s (g + 1) ov 45 14 xs ∧ MsgsC s (gD g ov s) xs out
structure Went (g : Nat) (ov : AV) (s : Mem) (ov' : AV) (s' : Mem) : Prop where
  next : s.next ≤ s'.next
  floor : s'.floor = s.floor
  get : ∀ q, q < s.next → q ≠ g → (∀ i n z, ov ≠ .own q i n z) → s'.get q = s.get q
  new : ∀ q i n z, ov' = .own q i n z → (∃ i n z, ov = .own q i n z) ∨ s.next ≤ q
section
variable {g : Nat} {s s' s'' : Mem} {r : Raft} {out : List Msg} {d w vv pv ov ov' ov'' : AV}
theorem Went.refl (g : Nat) (ov : AV) (s : Mem) : Went g ov s ov s := ⟨Nat.le_refl _, rfl, fun _ _ _ _ => rfl, fun _ i n z h => .inl ⟨i, n, z, h⟩⟩
theorem Went.trans (h : Went g ov s ov' s') (k : Went g ov' s' ov'' s'') : Went g ov s ov'' s'' := by
  refine ⟨Nat.le_trans h.next k.next, k.floor.trans h.floor, fun q hq hne hno => ?_, fun q i n z e => ?_⟩
  · rw [k.get q (Nat.lt_of_lt_of_le hq h.next) hne ?_, h.get q hq hne hno]
    intro i n z e
    rcases h.new q i n z e with ⟨i, n, z, h⟩ | h
    · exact hno i n z h
    · omega
  · rcases k.new q i n z e with ⟨i, n, z, e2⟩ | e2
    · exact h.new q i n z e2
    · exact .inr (Nat.le_trans h.next e2)
theorem Went.of_keep (ov : AV) (h : Keep s.next s s') : Went g ov s ov s' := ⟨h.next, h.floor, fun q hq _ _ => h.get q hq, fun _ i n z h => .inl ⟨i, n, z, h⟩⟩
theorem Went.then_keep (h : Went g ov s ov' s') (k : Keep s'.next s' s'') : Went g ov s ov' s'' := h.trans (Went.of_keep ov' k)
theorem Went.gd (h : Went g ov s ov' s') {q : Nat} (hq : gD g ov s q) : s'.get q = s.get q := h.get q hq.1 hq.2.1 hq.2.2
theorem Went.gd' (h : Went g ov s ov' s') {q : Nat} (hq : gD g ov s q) : gD g ov' s' q := by
  refine ⟨Nat.lt_of_lt_of_le hq.1 h.next, hq.2.1, fun i n z e => ?_⟩
  rcases h.new q i n z e with ⟨i, n, z, h⟩ | h
  · exact hq.2.2 i n z h
  · have := hq.1; omega
theorem Went.box (h : Went g ov s ov' s') {q : Nat} (hq : gD g ov s q) {x : Row} (hx : s.get q = some x) : s'.get q = some x := (h.gd hq).trans hx
theorem Grp.In (_h : Grp g s r out d w vv pv ov) : In (gD g ov s) s := fun _ hq => hq.1
theorem Grp.ok (h : Grp g s r out d w vv pv ov) : s.floor ≤ s.next := by have := h.fl; have := h.lt; omega
theorem Grp.keep (h : Grp g s r out d w vv pv ov) (k : Keep s.next s s') : Grp g s' r out d w vv pv ov := by
  have hg : ∀ q, gD g ov s q → s'.get q = s.get q := fun q hq => k.get q hq.1
  have hm : ∀ q, gD g ov s q → gD g ov s' q := fun q hq => ⟨Nat.lt_of_lt_of_le hq.1 k.next, hq.2⟩
  obtain ⟨xs, h1, h2⟩ := h.out
  refine ⟨by rw [k.get _ h.lt]; exact h.row, (h.d.keep hg).mono hm, (h.w.keep hg).mono hm, (h.vv.keep hg).mono hm, (h.pv.keep hg).mono hm, Nat.lt_of_lt_of_le h.lt k.next, by rw [k.floor]; exact h.fl, xs, ?_, (h2.keep hg).mono hm⟩
  rcases h1 with h1 | ⟨q, h3, h4, h5, h6, h7⟩
  · exact .inl h1
  · exact .inr ⟨q, h3, by rw [k.get _ h7]; exact h4, by rw [k.floor]; exact h5, h6, Nat.lt_of_lt_of_le h7 k.next⟩
theorem Grp.log (h : Grp g s r out d w vv pv ov) : LogV s (gD g ov s) (.agg [.int .u64 r.log.base.index, .int .u64 r.log.base.term, .int .i64 r.log.base.kind, d, w]) r.log := ⟨d, w, rfl, h.d, h.w⟩
theorem Grp.cellO (h : Grp g s r out d w vv pv ov) : isCell ov = true := by
  obtain ⟨xs, h1, _⟩ := h.out
  rcases h1 with ⟨rfl | rfl, _⟩ | ⟨r, rfl, _⟩ <;> rfl
theorem Grp.fresh (h : Grp g s r out d w vv pv ov) {q : Nat} (hq : s.next ≤ q) : ∀ i n z, ov ≠ .own q i n z := by
  obtain ⟨xs, h1, _⟩ := h.out
  rcases h1 with ⟨rfl | rfl, _⟩ | ⟨p, rfl, _, _, _, h7⟩
  · intro i n z e; cases e
  · intro i n z e; cases e
  · intro i n z e; cases e; omega
end
def stamp (r : Raft) (m : Msg) : Msg := { m with frm := r.node, term := r.term }
theorem say_tail {g : Nat} {s M : Mem} {r : Raft} {out : List Msg} {d w vv pv ov : AV} {ew sd : AV} {m : Msg} {xs : List (List AV)} {K : AV → Mem → Prop} {E : Env} {Kx : AV → Mem → Prop} (hG : Grp g s r out d w vv pv ov) (he : Ents s (gD g ov s) ew m.entries) (hd : Byt s (gD g ov s) sd m.snap.data) (ho : out.length < 1000000)
    (hx : OwnL s (g + 1) ov 45 14 xs) (hxm : MsgsC s (gD g ov s) xs out) (hog : ∀ i n z, ov ≠ .own g i n z)
    (m1 : ∀ q, q < s.next → M.get q = s.get q) (m2 : M.next = s.next + 1) (m3 : M.floor = s.floor) (e1 : ev E (.t 20) = ov) (e2 : ev E (.t 22) = .own M.next 0 1 14)
    (hKx : ∀ v s', s'.get g = some (grpRow r d w vv pv ov) → s'.floor ≤ g → isCell v = true → (∀ u, K u (s'.put g (some (grpRow r d w vv pv v)))) → Kx v s')
    (hK : ∀ ov' s' v, Grp g s' r (out ++ [stamp r m]) d w vv pv ov' → Went g ov s ov' s' → K v s') :
    Wp tab (.app 45 14 144 (.t 20) (.t 22)) E (M.push ⟨45, 14, [[.int .i64 m.kind, .int .i64 r.node, .int .i64 m.to, .int .u64 r.term, .int .u64 m.index, .int .u64 m.prev, ew, .int .u64 m.commit, .bool m.ok, .int .u64 m.mtch, .int .u64 m.snap.index, .int .u64 m.snap.term, .int .i64 m.snap.kind, sd]]⟩) Kx := by
  have hlt := hG.lt
  have hfl := hG.fl
  have hxM : OwnL M (g + 1) ov 45 14 xs := by
    rcases hx with h1 | ⟨q, h3, h4, h5, h6, h7⟩
    · exact .inl h1
    · exact .inr ⟨q, h3, by rw [m1 q h7]; exact h4, by rw [m3]; exact h5, h6, by omega⟩
  have hlen := hxm.1
  refine app_lit (v := ov) (k := 1) (b := g + 1) (xs := xs) (by omega) (by omega) hxM e1 e2 rfl rfl (room (by rw [List.length_singleton]; omega) (by rw [List.length_singleton]; omega)) ?_
  intro v' s2 ho2 hx2 hfr _
  have old : ∀ q, gD g ov s q → s2.get q = s.get q := fun q hq => by
    rw [hx2.get q (by have := hq.1; omega) hq.2.2, m1 q hq.1]
  have oldp : ∀ x q, gD g ov s q → (s2.put g x).get q = s.get q := fun x q hq => by
    rw [Mem.get_put, if_neg hq.2.1, old q hq]
  have n2 := hx2.next
  have mv : ∀ x q, gD g ov s q → gD g v' (s2.put g x) q := fun x q hq => ⟨by simp only [next_put']; have := hq.1; omega, hq.2.1, fun i n z e => by have := hfr q i n z e; have := hq.1; omega⟩
  have g2 : s2.get g = some (grpRow r d w vv pv ov) := by rw [hx2.get g (by omega) hog, m1 g hlt]; exact hG.row
  refine hKx v' s2 g2 (by rw [hx2.floor, m3]; exact hfl) (by rcases ho2 with ⟨h1 | h1, _⟩ | ⟨q, h1, _⟩ <;> rw [h1] <;> rfl) (fun u => hK v' _ _ ?_ ?_)
  · refine ⟨by rw [Mem.get_put, if_pos rfl], (hG.d.keep (oldp _)).mono (mv _), (hG.w.keep (oldp _)).mono (mv _), (hG.vv.keep (oldp _)).mono (mv _), (hG.pv.keep (oldp _)).mono (mv _), by simp only [next_put']; omega, by simp only [floor_put']; rw [hx2.floor, m3]; exact hfl, _, ?_, MsgsC.snoc ((hxm.keep (oldp _)).mono (mv _)) ⟨ew, sd, rfl, (he.keep (oldp _)).mono (mv _), (hd.keep (oldp _)).mono (mv _)⟩⟩
    rcases ho2 with h1 | ⟨q, h3, h4, h5, h6, h7⟩
    · exact .inl h1
    · exact .inr ⟨q, h3, by rw [Mem.get_put, if_neg (by omega)]; exact h4, h5, h6, h7⟩
  · refine ⟨by simp only [next_put']; omega, by simp only [floor_put']; rw [hx2.floor, m3], fun q hq hne hno => ?_, fun q i n z e => .inr (by have := hfr q i n z e; omega)⟩
    rw [Mem.get_put, if_neg hne, hx2.get q (by omega) hno, m1 q hq]
theorem say_c {g : Nat} {s : Mem} {r : Raft} {out : List Msg} {d w vv pv ov : AV} {c : List AV} {m : Msg} {K : AV → Mem → Prop} (hG : Grp g s r out d w vv pv ov) (hm : MsgC s (gD g ov s) c m) (ho : out.length < 1000000)
    (hK : ∀ ov' s' v, Grp g s' r (out ++ [stamp r m]) d w vv pv ov' → Went g ov s ov' s' → K v s') : C tab 100 [.ptr g 0 0, .agg c] s K := by
  obtain ⟨ew, sd, rfl, he, hd⟩ := hm
  obtain ⟨xs, hx, hxm⟩ := hG.out
  refine C_enter (cf := cf100) rfl (Nat.le_of_ble_eq_true rfl) ?_
  simp only [cf100, oo, on, om, og, oc, ou]
  have hrow := hG.row
  simp only [grpRow] at hrow
  have hne := nat_ne hG.lt
  have hne' := nat_ne' hG.lt
  have hlt := hG.lt
  have hf : (s.floor ≤ s.next) = True := by simp [hG.ok]
  (repeat' (with_reducible first|refine w_1 ?_|refine w_2 ?_|refine w_3 ?_|refine w_4 ?_|refine w_5 ?_|refine w_6 ?_|refine w_7 ?_|(refine w_8 (fun hb=>?_) (fun hb=>?_)<;>try simp only [hb])|refine w_9 ?_|simp (maxDischargeDepth:=12) only [viz,↓reduceIte,Nat.reduceEqDiff,reduceCtorEq,Int.reduceEq,Int.reduceNeg,Nat.reduceAdd,Nat.reduceLeDiff,he.cell,hd.cell,hrow,hne,hne',hf,hG.cellO]))
  have hog : ∀ i n z, ov ≠ .own g i n z := by
    rcases hx with ⟨h1 | h1, _⟩ | ⟨q, h1, _, _, h2, _⟩ <;> rw [h1] <;> intro i n z e <;> cases e
    omega
  refine say_tail hG he hd ho hx hxm hog ?_ ?_ ?_ (by simp only [ev, Env.get_set, ↓reduceIte, Nat.reduceEqDiff]) (by simp only [ev, Env.get_set, ↓reduceIte, Nat.reduceEqDiff, next_put', next_push']) (fun v s' h1 h2 h3 h4 => ?_) hK
  · intro q hq
    have a1 : q ≠ s.next := by omega
    simp only [Mem.get_put, if_neg a1, Mem.get_push]
    split
    · rename_i e; rw [e, hrow]
    · rfl
  · simp only [next_put', next_push']
  · simp only [floor_put', floor_push']
  · simp only [grpRow] at h1
    (repeat' (with_reducible first|refine w_1 ?_|refine w_2 ?_|refine w_3 ?_|refine w_4 ?_|refine w_5 ?_|refine w_6 ?_|refine w_7 ?_|(refine w_8 (fun hb=>?_) (fun hb=>?_)<;>try simp only [hb])|refine w_9 ?_|simp (maxDischargeDepth:=12) only [viz,↓reduceIte,Nat.reduceEqDiff,reduceCtorEq,Int.reduceEq,Int.reduceNeg,Nat.reduceAdd,Nat.reduceLeDiff,h1,h2,h3,cells_cell h3]))
    exact h4 _
end Go.Proofs.YtfllmhjjfapnmaaGreat

