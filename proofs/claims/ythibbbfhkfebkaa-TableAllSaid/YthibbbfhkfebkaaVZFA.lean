/- Holds and marks that are dropped. No statement of the seat is proved here. -/
import Derived.Test.YthibbbfhkfebkaaVZTI
import Derived.Test.YthibbbfhkfebkaaVZVE
namespace Go.Proofs.Ythibbbfhkfebkaa
open Go Go.VI
set_option linter.unusedSimpArgs false
theorem take_set_next {α : Type} {l : List α} {i : Nat} {x : α} (h : i < l.length) : (l.set i x).take (i + 1) = l.take i ++ [x] := by
  rw [List.take_add_one, List.getElem?_set_self (by omega), Option.toList_some, List.take_set_of_le (Nat.le_refl _)]
theorem clr_own {s : Mem} {r i n ty sz : Nat} {els : List (List AV)} {z : List AV} (h : s.get r = some ⟨ty, sz, els⟩) (hn : i + n ≤ els.length) (hz : z.length = sz) (hf : s.floor ≤ r) :
    ∃ s' els', clrA s sz z (.own r i n sz) = some s' ∧ s'.get r = some ⟨ty, sz, els'⟩ ∧ els'.take i = els.take i ∧ els'.length = els.length ∧ Turn r s s' := by
  by_cases h0 : n = 0
  · exact ⟨s, els, by simp [clrA, h0], h, rfl, rfl, Turn.refl _ _⟩
  · refine ⟨_, els.take i ++ List.replicate n z ++ els.drop (i + n), ?_, by rw [Mem.get_put, if_pos rfl], ?_, ?_, Turn.put r s _⟩
    · simp [clrA, h0, h, hn, hz, hf]
    · rw [List.append_assoc, List.take_append_of_le_length (by rw [List.length_take]; omega), List.take_take, Nat.min_self]
    · simp only [List.length_append, List.length_take, List.length_replicate, List.length_drop]; omega
theorem load_own {M : Mem} {r i ty sz : Nat} {els : List (List AV)} {c z : List AV} (h : M.get r = some ⟨ty, sz, els⟩) (hc : els[i]? = some c) (hx : (slice1 c 0 sz).bind (pickCells true) = some (.agg z)) : loadA M true sz (.ptr r i 0) = some (.agg z) := by
  simp only [loadA, h, Option.bind_eq_bind, Option.bind_some, hc]
  exact hx
theorem store_own {M : Mem} {r i ty sz : Nat} {els : List (List AV)} {c d : List AV} (h : M.get r = some ⟨ty, sz, els⟩) (hc : els[i]? = some c) (hx : c.length = sz) (hy : d.length = sz) (hd : d.all isCell = true) (hf : M.floor ≤ r) :
    storeA M sz (.ptr r i 0) (.agg d) = some (M.put r (some ⟨ty, sz, els.set i d⟩)) := by
  have e : putCells c 0 d = d := by simp [putCells, hx, hy]
  simp only [storeA, h, hc, Option.bind_eq_bind, Option.bind_some, cells_agg, hx, hy, hd, hf, Nat.zero_add, Nat.le_refl, and_self, if_true, e]
theorem pre_filter {α : Type} {l : List α} {p : α → Bool} {k0 : Nat} (hklt : k0 < l.length) (hpk : p l[k0] = true) (hpn : ∀ (j : Nat) (h : j < k0), ¬p (l[j]'(by omega)) = true) : (l.take (k0 + 1)).filter (fun x => !p x) = l.take k0 := by
  rw [List.take_add_one, List.getElem?_eq_getElem hklt, Option.toList_some, List.filter_append]
  have e1 : [l[k0]].filter (fun x => !p x) = [] := by simp [hpk]
  rw [e1, List.append_nil, List.filter_eq_self]
  intro a ha
  obtain ⟨q, hq⟩ := List.mem_iff_getElem?.mp ha
  rw [List.getElem?_take] at hq
  split at hq
  · rename_i hqk
    obtain ⟨hql, rfl⟩ := List.getElem?_eq_some_iff.mp hq
    have := hpn q hqk
    simpa using this
  · cases hq
attribute [local irreducible] Ws Wp W C
set_option maxHeartbeats 4000000
theorem hoDel_c {l : List Hold} {v : AV} {b f : Nat} {cp : List AV} {p : Hold → Bool} {G : Mem → Prop} {s : Mem} {K : AV → Mem → Prop} (hfl : s.floor ≤ s.next) (hb : s.floor ≤ b) (hbn : b ≤ s.next) (hv : OwnL s b v 70 3 (l.map holdC)) (h64 : l.length < 5000)
    (hG : ∀ M, (∀ q, q < b → M.get q = s.get q) → s.next ≤ M.next → G M) (hp : FnP holdA G f cp p)
    (hK : ∀ v' s', Keep b s s' → Sl s' (fun q => b ≤ q ∧ q < s'.next) v' 3 ((l.filter fun x => !p x).map holdC) → K v' s') : C tab 74 [v, .fn f cp] s K := by
  refine C_enter (cf := cf74) rfl (Nat.le_of_ble_eq_true rfl) ?_
  simp only [cf74, oo, on, om, og, oc, ou]
  (repeat' (with_reducible first|refine w_1 ?_|refine w_2 ?_|refine w_3 ?_|refine w_4 ?_|refine w_5 ?_|refine w_6 ?_|refine w_7 ?_|(refine w_8 (fun hb=>?_) (fun hb=>?_)<;>(try simp only [Bool.not_eq_true',Bool.not_eq_false'] at hb)<;>try simp only [hb])|refine w_13 (fun hc=>(by (try simp only [Bool.and_eq_true] at hc);simp (maxDischargeDepth:=12) only [viz,↓reduceIte,Nat.reduceEqDiff,reduceCtorEq,Int.reduceEq,Int.reduceNeg,Nat.reduceAdd,Nat.reduceLeDiff,cond_true,cond_false,hc];first|exact ⟨rfl,rfl⟩|exact rfl)) ?_|refine w_12 ?_|((try refine w_9 ?_);simp (maxDischargeDepth:=12) only [viz,↓reduceIte,Nat.reduceEqDiff,reduceCtorEq,Int.reduceEq,Int.reduceNeg,Nat.reduceAdd,Nat.reduceLeDiff])))
  have hcl : ∀ c ∈ l.map holdC, c.length = 3 := fun c hc => by
    obtain ⟨y, _, rfl⟩ := List.mem_map.mp hc; rfl
  have hsl : Sl s (fun q => b ≤ q ∧ q < s.next) v 3 (l.map holdC) := hv.sl hcl fun q n h => hv.row q _ _ _ h
  refine hoIx_c (G := G) (p := p) (fun q hq => hq.2) hsl (by omega) (fun M hM => hG M (fun q hq => hM.get q (by omega)) hM.next) hp fun s1 h1 => ?_
  rcases hE : l.findIdx? p with _ | k0
  · rw [idx_none hE]
    (repeat' (with_reducible first|refine w_1 ?_|refine w_2 ?_|refine w_3 ?_|refine w_4 ?_|refine w_5 ?_|refine w_6 ?_|refine w_7 ?_|(refine w_8 (fun hb=>?_) (fun hb=>?_)<;>(try simp only [Bool.not_eq_true',Bool.not_eq_false'] at hb)<;>try simp only [hb])|refine w_13 (fun hc=>(by (try simp only [Bool.and_eq_true] at hc);simp (maxDischargeDepth:=12) only [viz,↓reduceIte,Nat.reduceEqDiff,reduceCtorEq,Int.reduceEq,Int.reduceNeg,Nat.reduceAdd,Nat.reduceLeDiff,bne_self_eq_false, Int.reduceBEq, Int.reduceBNe, Int.reduceLT, Int.reduceLE, Int.reduceGT, Int.reduceGE,cond_true,cond_false,hc];first|exact ⟨rfl,rfl⟩|exact rfl)) ?_|refine w_12 ?_|((try refine w_9 ?_);simp (maxDischargeDepth:=12) only [viz,↓reduceIte,Nat.reduceEqDiff,reduceCtorEq,Int.reduceEq,Int.reduceNeg,Nat.reduceAdd,Nat.reduceLeDiff,bne_self_eq_false, Int.reduceBEq, Int.reduceBNe, Int.reduceLT, Int.reduceLE, Int.reduceGT, Int.reduceGE])))
    have : l.filter (fun x => !p x) = l := by
      rw [List.filter_eq_self]
      intro a ha
      have := List.findIdx?_eq_none_iff.mp hE a ha
      simp [this]
    rw [this] at hK
    refine hK v s1 (h1.le hbn) ?_
    exact (hsl.keep fun q hq => h1.get q hq.2).mono fun q hq => ⟨hq.1, Nat.lt_of_lt_of_le hq.2 h1.next⟩
  · rw [idx_some hE]
    have hk0 : ((k0 : Int) == -1) = false := by rw [beq_eq_false_iff_ne]; omega
    have hw0 : IntKind.i64.wrap ((k0 : Int) + 1) = ((k0 + 1 : Nat) : Int) := succ_cast (by have := (List.findIdx?_eq_some_iff_getElem.mp hE).1; omega)
    (repeat' (with_reducible first|refine w_1 ?_|refine w_2 ?_|refine w_3 ?_|refine w_4 ?_|refine w_5 ?_|refine w_6 ?_|refine w_7 ?_|(refine w_8 (fun hb=>?_) (fun hb=>?_)<;>(try simp only [Bool.not_eq_true',Bool.not_eq_false'] at hb)<;>try simp only [hb])|refine w_13 (fun hc=>(by (try simp only [Bool.and_eq_true] at hc);simp (maxDischargeDepth:=12) only [viz,↓reduceIte,Nat.reduceEqDiff,reduceCtorEq,Int.reduceEq,Int.reduceNeg,Nat.reduceAdd,Nat.reduceLeDiff,hk0,hw0,cond_true,cond_false,hc];first|exact ⟨rfl,rfl⟩|exact rfl)) ?_|refine w_12 ?_|((try refine w_9 ?_);simp (maxDischargeDepth:=12) only [viz,↓reduceIte,Nat.reduceEqDiff,reduceCtorEq,Int.reduceEq,Int.reduceNeg,Nat.reduceAdd,Nat.reduceLeDiff,hk0,hw0])))
    obtain ⟨hklt, hpk, hpn⟩ := List.findIdx?_eq_some_iff_getElem.mp hE
    obtain ⟨r, rfl, hr, hbr, hrn⟩ : ∃ r, v = .own r 0 l.length 3 ∧ s.get r = some ⟨70, 3, l.map holdC⟩ ∧ b ≤ r ∧ r < s.next := by
      rcases hv with ⟨_, h⟩ | ⟨r, h0, g1, _, g3, g4⟩
      · have : l = [] := by simpa using h
        rw [this] at hklt; simp at hklt
      · exact ⟨r, by rw [h0, List.length_map], g1, g3, g4⟩
    have hpre := pre_filter hklt hpk hpn
    refine W_inv (l.length - (k0 + 1)) (fun m E s' => ∃ cur i, Keep b s s' ∧ s.next ≤ s'.next ∧ s'.get r = some ⟨70, 3, cur⟩ ∧ cur.length = l.length ∧ (∀ c ∈ cur, c.length = 3) ∧ i ≤ k0 + m ∧ cur.take i = ((l.take (k0 + 1 + m)).filter fun x => !p x).map holdC ∧ (∀ q, k0 + 1 + m ≤ q → cur[q]? = (l.map holdC)[q]?) ∧ E.get 0 = .own r 0 l.length 3 ∧ E.get 1 = .fn f cp ∧ E.get 5 = .int .i64 i ∧ E.get 6 = .int .i64 ((k0 + 1 + m : Nat) : Int)) (by delta cf74l0 oo on om og oc ou; exact rfl) ?_ ?_
    · refine ⟨l.map holdC, k0, h1.le hbn, h1.next, by rw [h1.get r hrn, hr], List.length_map .., hcl, by omega, ?_, fun _ _ => rfl, (by simp only [ev, Env.get_set, ↓reduceIte, Nat.reduceEqDiff]), (by simp only [ev, Env.get_set, ↓reduceIte, Nat.reduceEqDiff]), (by simp only [ev, Env.get_set, ↓reduceIte, Nat.reduceEqDiff]), (by simp only [ev, Env.get_set, ↓reduceIte, Nat.reduceEqDiff])⟩
      rw [Nat.add_zero, hpre, List.map_take]
    rintro m E s' hmle _ ⟨cur, i, hk, hn, hg, hcl2, hcz, him, hls, hcur, g0, g1, g5, g6⟩
    by_cases hlt : k0 + 1 + m < l.length
    · obtain ⟨x, hx⟩ := get_of hlt
      have hc' : cur[k0 + 1 + m]? = some (holdC x) := (hcur _ (Nat.le_refl _)).trans (by rw [List.getElem?_map, hx]; rfl)
      have hat : atA 3 (.own r 0 l.length 3) (.int .i64 ((k0 + 1 + m : Nat) : Int)) = some (.ptr r (k0 + 1 + m) 0) := at0 hlt
      have hld := load_own hg hc' (z := holdC x) rfl
      have hfl2 := hk.ok hfl
      obtain ⟨c2, hc2⟩ := get_of (l := cur) (i := i) (by omega)
      have hz2 := hcz c2 (List.mem_of_getElem? hc2)
      have hrn' : r < s'.next := by omega
      have hfn : s'.floor ≤ r := by rw [hk.floor]; omega
      have hne : (r = s'.next) = False := by simp; omega
      have ht1 : k0 + 1 + (m + 1) = k0 + 1 + m + 1 := rfl
      have htk : (l.take (k0 + 1 + m + 1)).filter (fun x => !p x) = (l.take (k0 + 1 + m)).filter (fun x => !p x) ++ (if p x then [] else [x]) := by
        rw [List.take_add_one, hx, Option.toList_some, List.filter_append]
        congr 1
        cases hq : p x <;> simp [hq]
      have hp1 := pushes s' ⟨70, 3, [holdC x]⟩
      simp only [holdC] at hld hp1
      (repeat' (with_reducible first|refine w_1 ?_|refine w_2 ?_|refine w_3 ?_|refine w_4 ?_|refine w_5 ?_|refine w_6 ?_|refine w_7 ?_|(refine w_8 (fun hb=>?_) (fun hb=>?_)<;>(try simp only [Bool.not_eq_true',Bool.not_eq_false'] at hb)<;>try simp only [hb])|refine w_13 (fun hc=>(by (try simp only [Bool.and_eq_true] at hc);simp (maxDischargeDepth:=12) only [viz,↓reduceIte,Nat.reduceEqDiff,reduceCtorEq,Int.reduceEq,Int.reduceNeg,Nat.reduceAdd,Nat.reduceLeDiff,g0,g1,g5,g6,lt_true hlt,hat,hld,hfl2,cond_true,cond_false,hc];first|exact ⟨rfl,rfl⟩|exact rfl)) ?_|refine w_12 ?_|((try refine w_9 ?_);simp (maxDischargeDepth:=12) only [viz,↓reduceIte,Nat.reduceEqDiff,reduceCtorEq,Int.reduceEq,Int.reduceNeg,Nat.reduceAdd,Nat.reduceLeDiff,g0,g1,g5,g6,lt_true hlt,hat,hld,hfl2])))
      refine hp x _ _ (hG _ (fun q hq => ?_) ?_) fun s2 h2 => ?_
      · rw [hp1.get q (by omega), hk.get q hq]
      · have := hp1.next; omega
      have hk2 := hp1.then h2
      have hg2 : s2.get r = some ⟨70, 3, cur⟩ := by rw [hk2.get r hrn']; exact hg
      have hg7 := (h2.get s'.next (by simp only [next_push']; omega)).trans (by simp only [Mem.get_push]; rw [if_pos trivial])
      have hat2 : atA 3 (.own r 0 l.length 3) (.int .i64 (i : Int)) = some (.ptr r i 0) := at0 (by omega)
      have hst := store_own (d := holdC x) hg2 hc2 hz2 rfl rfl (by rw [hk2.floor]; exact hfn)
      simp only [holdC] at hst
      have hkb : Keep b s s2 := hk.trans (hk2.le (by omega))
      have hn2 := hk2.next
      cases hpx : p x
      · rw [hpx] at htk
        (repeat' (with_reducible first|refine w_1 ?_|refine w_2 ?_|refine w_3 ?_|refine w_4 ?_|refine w_5 ?_|refine w_6 ?_|refine w_7 ?_|(refine w_8 (fun hb=>?_) (fun hb=>?_)<;>(try simp only [Bool.not_eq_true',Bool.not_eq_false'] at hb)<;>try simp only [hb])|refine w_13 (fun hc=>(by (try simp only [Bool.and_eq_true] at hc);simp (maxDischargeDepth:=12) only [vis,↓reduceIte,Nat.reduceEqDiff,reduceCtorEq,Int.reduceEq,Int.reduceNeg,Nat.reduceAdd,Nat.reduceLeDiff,g0,g1,g5,g6,hg7,hat2,hst,loadA_ptr,cond_true,cond_false,hc];first|exact ⟨rfl,rfl⟩|exact rfl)) ?_|refine w_12 ?_|((try refine w_9 ?_);simp (maxDischargeDepth:=12) only [vis,↓reduceIte,Nat.reduceEqDiff,reduceCtorEq,Int.reduceEq,Int.reduceNeg,Nat.reduceAdd,Nat.reduceLeDiff,g0,g1,g5,g6,hg7,hat2,hst,loadA_ptr])))
        refine ⟨by omega, cur.set i (holdC x), i + 1, ?_, ?_, ?_, ?_, ?_, ?_, ?_, ?_, ?_⟩
        · exact hkb.trans (Keep.put hbr _)
        · omega
        · rfl
        · rw [List.length_set]; exact hcl2
        · intro c hc
          rcases List.mem_or_eq_of_mem_set hc with h | rfl
          · exact hcz c h
          · rfl
        · omega
        · rw [ht1, htk, take_set_next (by omega), hls, List.map_append]; rfl
        · intro q hq
          rw [List.getElem?_set, if_neg (by omega)]
          exact hcur q (by omega)
        · exact ⟨succ_av (by omega), succ_av (by omega)⟩
      · rw [hpx] at htk
        (repeat' (with_reducible first|refine w_1 ?_|refine w_2 ?_|refine w_3 ?_|refine w_4 ?_|refine w_5 ?_|refine w_6 ?_|refine w_7 ?_|(refine w_8 (fun hb=>?_) (fun hb=>?_)<;>(try simp only [Bool.not_eq_true',Bool.not_eq_false'] at hb)<;>try simp only [hb])|refine w_13 (fun hc=>(by (try simp only [Bool.and_eq_true] at hc);simp (maxDischargeDepth:=12) only [viz,↓reduceIte,Nat.reduceEqDiff,reduceCtorEq,Int.reduceEq,Int.reduceNeg,Nat.reduceAdd,Nat.reduceLeDiff,g0,g1,g5,g6,cond_true,cond_false,hc];first|exact ⟨rfl,rfl⟩|exact rfl)) ?_|refine w_12 ?_|((try refine w_9 ?_);simp (maxDischargeDepth:=12) only [viz,↓reduceIte,Nat.reduceEqDiff,reduceCtorEq,Int.reduceEq,Int.reduceNeg,Nat.reduceAdd,Nat.reduceLeDiff,g0,g1,g5,g6])))
        refine ⟨by omega, cur, i, hkb, by omega, hg2, hcl2, hcz, by omega, by rw [ht1, htk]; simpa using hls, fun q hq => hcur q (by omega), rfl, succ_av (by omega)⟩
    · have hi : i ≤ l.length := by omega
      obtain ⟨s2, els', hclr, hg2, htk, hln, htn⟩ := clr_own (i := i) (n := l.length - i) (z := [.str [], .int .u64 0, .int .i64 0]) hg (by omega) rfl (by rw [hk.floor]; omega)
      have hc1 : cutA 3 (.own r 0 l.length 3) (some i) none = some (.own r i (l.length - i) 3) := by simp [cutA]; omega
      have hc2 : cutA 3 (.own r 0 l.length 3) none (some i) = some (.own r 0 i 3) := by simp [cutA]; omega
      (repeat' (with_reducible first|refine w_1 ?_|refine w_2 ?_|refine w_3 ?_|refine w_4 ?_|refine w_5 ?_|refine w_6 ?_|refine w_7 ?_|(refine w_8 (fun hb=>?_) (fun hb=>?_)<;>(try simp only [Bool.not_eq_true',Bool.not_eq_false'] at hb)<;>try simp only [hb])|refine w_13 (fun hc=>(by (try simp only [Bool.and_eq_true] at hc);simp (maxDischargeDepth:=12) only [viz,↓reduceIte,Nat.reduceEqDiff,reduceCtorEq,Int.reduceEq,Int.reduceNeg,Nat.reduceAdd,Nat.reduceLeDiff,g0,g1,g5,g6,lt_false hlt,bdA_some,bdV_nat,hc1,hc2,hclr,cond_true,cond_false,hc];first|exact ⟨rfl,rfl⟩|exact rfl)) ?_|refine w_12 ?_|((try refine w_9 ?_);simp (maxDischargeDepth:=12) only [viz,↓reduceIte,Nat.reduceEqDiff,reduceCtorEq,Int.reduceEq,Int.reduceNeg,Nat.reduceAdd,Nat.reduceLeDiff,g0,g1,g5,g6,lt_false hlt,bdA_some,bdV_nat,hc1,hc2,hclr])))
      have hall : l.take (k0 + 1 + m) = l := List.take_of_length_le (by omega)
      rw [hall] at hls
      refine hK _ s2 (hk.trans (htn.keep hbr)) ?_
      rw [← hls]
      exact ⟨fun c hc => hcz c (List.mem_of_mem_take hc), .inr (.inr (.inr ⟨r, 0, i, _, rfl, ⟨hbr, by have := htn.next; omega⟩, hg2, by simp only [hln]; omega, by simp only [List.drop_zero, htk]⟩))⟩
theorem maDel_c {l : List Mark} {v : AV} {b f : Nat} {cp : List AV} {p : Mark → Bool} {G : Mem → Prop} {s : Mem} {K : AV → Mem → Prop} (hfl : s.floor ≤ s.next) (hb : s.floor ≤ b) (hbn : b ≤ s.next) (hv : OwnL s b v 86 2 (l.map markC)) (h64 : l.length < 5000)
    (hG : ∀ M, (∀ q, q < b → M.get q = s.get q) → s.next ≤ M.next → G M) (hp : FnP markA G f cp p)
    (hK : ∀ v' s', Keep b s s' → Sl s' (fun q => b ≤ q ∧ q < s'.next) v' 2 ((l.filter fun x => !p x).map markC) → K v' s') : C tab 71 [v, .fn f cp] s K := by
  refine C_enter (cf := cf71) rfl (Nat.le_of_ble_eq_true rfl) ?_
  simp only [cf71, oo, on, om, og, oc, ou]
  (repeat' (with_reducible first|refine w_1 ?_|refine w_2 ?_|refine w_3 ?_|refine w_4 ?_|refine w_5 ?_|refine w_6 ?_|refine w_7 ?_|(refine w_8 (fun hb=>?_) (fun hb=>?_)<;>(try simp only [Bool.not_eq_true',Bool.not_eq_false'] at hb)<;>try simp only [hb])|refine w_13 (fun hc=>(by (try simp only [Bool.and_eq_true] at hc);simp (maxDischargeDepth:=12) only [viz,↓reduceIte,Nat.reduceEqDiff,reduceCtorEq,Int.reduceEq,Int.reduceNeg,Nat.reduceAdd,Nat.reduceLeDiff,cond_true,cond_false,hc];first|exact ⟨rfl,rfl⟩|exact rfl)) ?_|refine w_12 ?_|((try refine w_9 ?_);simp (maxDischargeDepth:=12) only [viz,↓reduceIte,Nat.reduceEqDiff,reduceCtorEq,Int.reduceEq,Int.reduceNeg,Nat.reduceAdd,Nat.reduceLeDiff])))
  have hcl : ∀ c ∈ l.map markC, c.length = 2 := fun c hc => by
    obtain ⟨y, _, rfl⟩ := List.mem_map.mp hc; rfl
  have hsl : Sl s (fun q => b ≤ q ∧ q < s.next) v 2 (l.map markC) := hv.sl hcl fun q n h => hv.row q _ _ _ h
  refine maIx_c (G := G) (p := p) (fun q hq => hq.2) hsl (by omega) (fun M hM => hG M (fun q hq => hM.get q (by omega)) hM.next) hp fun s1 h1 => ?_
  rcases hE : l.findIdx? p with _ | k0
  · rw [idx_none hE]
    (repeat' (with_reducible first|refine w_1 ?_|refine w_2 ?_|refine w_3 ?_|refine w_4 ?_|refine w_5 ?_|refine w_6 ?_|refine w_7 ?_|(refine w_8 (fun hb=>?_) (fun hb=>?_)<;>(try simp only [Bool.not_eq_true',Bool.not_eq_false'] at hb)<;>try simp only [hb])|refine w_13 (fun hc=>(by (try simp only [Bool.and_eq_true] at hc);simp (maxDischargeDepth:=12) only [viz,↓reduceIte,Nat.reduceEqDiff,reduceCtorEq,Int.reduceEq,Int.reduceNeg,Nat.reduceAdd,Nat.reduceLeDiff,bne_self_eq_false, Int.reduceBEq, Int.reduceBNe, Int.reduceLT, Int.reduceLE, Int.reduceGT, Int.reduceGE,cond_true,cond_false,hc];first|exact ⟨rfl,rfl⟩|exact rfl)) ?_|refine w_12 ?_|((try refine w_9 ?_);simp (maxDischargeDepth:=12) only [viz,↓reduceIte,Nat.reduceEqDiff,reduceCtorEq,Int.reduceEq,Int.reduceNeg,Nat.reduceAdd,Nat.reduceLeDiff,bne_self_eq_false, Int.reduceBEq, Int.reduceBNe, Int.reduceLT, Int.reduceLE, Int.reduceGT, Int.reduceGE])))
    have : l.filter (fun x => !p x) = l := by
      rw [List.filter_eq_self]
      intro a ha
      have := List.findIdx?_eq_none_iff.mp hE a ha
      simp [this]
    rw [this] at hK
    refine hK v s1 (h1.le hbn) ?_
    exact (hsl.keep fun q hq => h1.get q hq.2).mono fun q hq => ⟨hq.1, Nat.lt_of_lt_of_le hq.2 h1.next⟩
  · rw [idx_some hE]
    have hk0 : ((k0 : Int) == -1) = false := by rw [beq_eq_false_iff_ne]; omega
    have hw0 : IntKind.i64.wrap ((k0 : Int) + 1) = ((k0 + 1 : Nat) : Int) := succ_cast (by have := (List.findIdx?_eq_some_iff_getElem.mp hE).1; omega)
    (repeat' (with_reducible first|refine w_1 ?_|refine w_2 ?_|refine w_3 ?_|refine w_4 ?_|refine w_5 ?_|refine w_6 ?_|refine w_7 ?_|(refine w_8 (fun hb=>?_) (fun hb=>?_)<;>(try simp only [Bool.not_eq_true',Bool.not_eq_false'] at hb)<;>try simp only [hb])|refine w_13 (fun hc=>(by (try simp only [Bool.and_eq_true] at hc);simp (maxDischargeDepth:=12) only [viz,↓reduceIte,Nat.reduceEqDiff,reduceCtorEq,Int.reduceEq,Int.reduceNeg,Nat.reduceAdd,Nat.reduceLeDiff,hk0,hw0,cond_true,cond_false,hc];first|exact ⟨rfl,rfl⟩|exact rfl)) ?_|refine w_12 ?_|((try refine w_9 ?_);simp (maxDischargeDepth:=12) only [viz,↓reduceIte,Nat.reduceEqDiff,reduceCtorEq,Int.reduceEq,Int.reduceNeg,Nat.reduceAdd,Nat.reduceLeDiff,hk0,hw0])))
    obtain ⟨hklt, hpk, hpn⟩ := List.findIdx?_eq_some_iff_getElem.mp hE
    obtain ⟨r, rfl, hr, hbr, hrn⟩ : ∃ r, v = .own r 0 l.length 2 ∧ s.get r = some ⟨86, 2, l.map markC⟩ ∧ b ≤ r ∧ r < s.next := by
      rcases hv with ⟨_, h⟩ | ⟨r, h0, g1, _, g3, g4⟩
      · have : l = [] := by simpa using h
        rw [this] at hklt; simp at hklt
      · exact ⟨r, by rw [h0, List.length_map], g1, g3, g4⟩
    have hpre := pre_filter hklt hpk hpn
    refine W_inv (l.length - (k0 + 1)) (fun m E s' => ∃ cur i, Keep b s s' ∧ s.next ≤ s'.next ∧ s'.get r = some ⟨86, 2, cur⟩ ∧ cur.length = l.length ∧ (∀ c ∈ cur, c.length = 2) ∧ i ≤ k0 + m ∧ cur.take i = ((l.take (k0 + 1 + m)).filter fun x => !p x).map markC ∧ (∀ q, k0 + 1 + m ≤ q → cur[q]? = (l.map markC)[q]?) ∧ E.get 0 = .own r 0 l.length 2 ∧ E.get 1 = .fn f cp ∧ E.get 5 = .int .i64 i ∧ E.get 6 = .int .i64 ((k0 + 1 + m : Nat) : Int)) (by delta cf71l0 oo on om og oc ou; exact rfl) ?_ ?_
    · refine ⟨l.map markC, k0, h1.le hbn, h1.next, by rw [h1.get r hrn, hr], List.length_map .., hcl, by omega, ?_, fun _ _ => rfl, (by simp only [ev, Env.get_set, ↓reduceIte, Nat.reduceEqDiff]), (by simp only [ev, Env.get_set, ↓reduceIte, Nat.reduceEqDiff]), (by simp only [ev, Env.get_set, ↓reduceIte, Nat.reduceEqDiff]), (by simp only [ev, Env.get_set, ↓reduceIte, Nat.reduceEqDiff])⟩
      rw [Nat.add_zero, hpre, List.map_take]
    rintro m E s' hmle _ ⟨cur, i, hk, hn, hg, hcl2, hcz, him, hls, hcur, g0, g1, g5, g6⟩
    by_cases hlt : k0 + 1 + m < l.length
    · obtain ⟨x, hx⟩ := get_of hlt
      have hc' : cur[k0 + 1 + m]? = some (markC x) := (hcur _ (Nat.le_refl _)).trans (by rw [List.getElem?_map, hx]; rfl)
      have hat : atA 2 (.own r 0 l.length 2) (.int .i64 ((k0 + 1 + m : Nat) : Int)) = some (.ptr r (k0 + 1 + m) 0) := at0 hlt
      have hld := load_own hg hc' (z := markC x) rfl
      have hfl2 := hk.ok hfl
      obtain ⟨c2, hc2⟩ := get_of (l := cur) (i := i) (by omega)
      have hz2 := hcz c2 (List.mem_of_getElem? hc2)
      have hrn' : r < s'.next := by omega
      have hfn : s'.floor ≤ r := by rw [hk.floor]; omega
      have hne : (r = s'.next) = False := by simp; omega
      have ht1 : k0 + 1 + (m + 1) = k0 + 1 + m + 1 := rfl
      have htk : (l.take (k0 + 1 + m + 1)).filter (fun x => !p x) = (l.take (k0 + 1 + m)).filter (fun x => !p x) ++ (if p x then [] else [x]) := by
        rw [List.take_add_one, hx, Option.toList_some, List.filter_append]
        congr 1
        cases hq : p x <;> simp [hq]
      have hp1 := pushes s' ⟨86, 2, [markC x]⟩
      simp only [markC] at hld hp1
      (repeat' (with_reducible first|refine w_1 ?_|refine w_2 ?_|refine w_3 ?_|refine w_4 ?_|refine w_5 ?_|refine w_6 ?_|refine w_7 ?_|(refine w_8 (fun hb=>?_) (fun hb=>?_)<;>(try simp only [Bool.not_eq_true',Bool.not_eq_false'] at hb)<;>try simp only [hb])|refine w_13 (fun hc=>(by (try simp only [Bool.and_eq_true] at hc);simp (maxDischargeDepth:=12) only [viz,↓reduceIte,Nat.reduceEqDiff,reduceCtorEq,Int.reduceEq,Int.reduceNeg,Nat.reduceAdd,Nat.reduceLeDiff,g0,g1,g5,g6,lt_true hlt,hat,hld,hfl2,cond_true,cond_false,hc];first|exact ⟨rfl,rfl⟩|exact rfl)) ?_|refine w_12 ?_|((try refine w_9 ?_);simp (maxDischargeDepth:=12) only [viz,↓reduceIte,Nat.reduceEqDiff,reduceCtorEq,Int.reduceEq,Int.reduceNeg,Nat.reduceAdd,Nat.reduceLeDiff,g0,g1,g5,g6,lt_true hlt,hat,hld,hfl2])))
      refine hp x _ _ (hG _ (fun q hq => ?_) ?_) fun s2 h2 => ?_
      · rw [hp1.get q (by omega), hk.get q hq]
      · have := hp1.next; omega
      have hk2 := hp1.then h2
      have hg2 : s2.get r = some ⟨86, 2, cur⟩ := by rw [hk2.get r hrn']; exact hg
      have hg7 := (h2.get s'.next (by simp only [next_push']; omega)).trans (by simp only [Mem.get_push]; rw [if_pos trivial])
      have hat2 : atA 2 (.own r 0 l.length 2) (.int .i64 (i : Int)) = some (.ptr r i 0) := at0 (by omega)
      have hst := store_own (d := markC x) hg2 hc2 hz2 rfl rfl (by rw [hk2.floor]; exact hfn)
      simp only [markC] at hst
      have hkb : Keep b s s2 := hk.trans (hk2.le (by omega))
      have hn2 := hk2.next
      cases hpx : p x
      · rw [hpx] at htk
        (repeat' (with_reducible first|refine w_1 ?_|refine w_2 ?_|refine w_3 ?_|refine w_4 ?_|refine w_5 ?_|refine w_6 ?_|refine w_7 ?_|(refine w_8 (fun hb=>?_) (fun hb=>?_)<;>(try simp only [Bool.not_eq_true',Bool.not_eq_false'] at hb)<;>try simp only [hb])|refine w_13 (fun hc=>(by (try simp only [Bool.and_eq_true] at hc);simp (maxDischargeDepth:=12) only [vis,↓reduceIte,Nat.reduceEqDiff,reduceCtorEq,Int.reduceEq,Int.reduceNeg,Nat.reduceAdd,Nat.reduceLeDiff,g0,g1,g5,g6,hg7,hat2,hst,loadA_ptr,cond_true,cond_false,hc];first|exact ⟨rfl,rfl⟩|exact rfl)) ?_|refine w_12 ?_|((try refine w_9 ?_);simp (maxDischargeDepth:=12) only [vis,↓reduceIte,Nat.reduceEqDiff,reduceCtorEq,Int.reduceEq,Int.reduceNeg,Nat.reduceAdd,Nat.reduceLeDiff,g0,g1,g5,g6,hg7,hat2,hst,loadA_ptr])))
        refine ⟨by omega, cur.set i (markC x), i + 1, ?_, ?_, ?_, ?_, ?_, ?_, ?_, ?_, ?_⟩
        · exact hkb.trans (Keep.put hbr _)
        · omega
        · rfl
        · rw [List.length_set]; exact hcl2
        · intro c hc
          rcases List.mem_or_eq_of_mem_set hc with h | rfl
          · exact hcz c h
          · rfl
        · omega
        · rw [ht1, htk, take_set_next (by omega), hls, List.map_append]; rfl
        · intro q hq
          rw [List.getElem?_set, if_neg (by omega)]
          exact hcur q (by omega)
        · exact ⟨succ_av (by omega), succ_av (by omega)⟩
      · rw [hpx] at htk
        (repeat' (with_reducible first|refine w_1 ?_|refine w_2 ?_|refine w_3 ?_|refine w_4 ?_|refine w_5 ?_|refine w_6 ?_|refine w_7 ?_|(refine w_8 (fun hb=>?_) (fun hb=>?_)<;>(try simp only [Bool.not_eq_true',Bool.not_eq_false'] at hb)<;>try simp only [hb])|refine w_13 (fun hc=>(by (try simp only [Bool.and_eq_true] at hc);simp (maxDischargeDepth:=12) only [viz,↓reduceIte,Nat.reduceEqDiff,reduceCtorEq,Int.reduceEq,Int.reduceNeg,Nat.reduceAdd,Nat.reduceLeDiff,g0,g1,g5,g6,cond_true,cond_false,hc];first|exact ⟨rfl,rfl⟩|exact rfl)) ?_|refine w_12 ?_|((try refine w_9 ?_);simp (maxDischargeDepth:=12) only [viz,↓reduceIte,Nat.reduceEqDiff,reduceCtorEq,Int.reduceEq,Int.reduceNeg,Nat.reduceAdd,Nat.reduceLeDiff,g0,g1,g5,g6])))
        refine ⟨by omega, cur, i, hkb, by omega, hg2, hcl2, hcz, by omega, by rw [ht1, htk]; simpa using hls, fun q hq => hcur q (by omega), rfl, succ_av (by omega)⟩
    · have hi : i ≤ l.length := by omega
      obtain ⟨s2, els', hclr, hg2, htk, hln, htn⟩ := clr_own (i := i) (n := l.length - i) (z := [.str [], .int .u64 0]) hg (by omega) rfl (by rw [hk.floor]; omega)
      have hc1 : cutA 2 (.own r 0 l.length 2) (some i) none = some (.own r i (l.length - i) 2) := by simp [cutA]; omega
      have hc2 : cutA 2 (.own r 0 l.length 2) none (some i) = some (.own r 0 i 2) := by simp [cutA]; omega
      (repeat' (with_reducible first|refine w_1 ?_|refine w_2 ?_|refine w_3 ?_|refine w_4 ?_|refine w_5 ?_|refine w_6 ?_|refine w_7 ?_|(refine w_8 (fun hb=>?_) (fun hb=>?_)<;>(try simp only [Bool.not_eq_true',Bool.not_eq_false'] at hb)<;>try simp only [hb])|refine w_13 (fun hc=>(by (try simp only [Bool.and_eq_true] at hc);simp (maxDischargeDepth:=12) only [viz,↓reduceIte,Nat.reduceEqDiff,reduceCtorEq,Int.reduceEq,Int.reduceNeg,Nat.reduceAdd,Nat.reduceLeDiff,g0,g1,g5,g6,lt_false hlt,bdA_some,bdV_nat,hc1,hc2,hclr,cond_true,cond_false,hc];first|exact ⟨rfl,rfl⟩|exact rfl)) ?_|refine w_12 ?_|((try refine w_9 ?_);simp (maxDischargeDepth:=12) only [viz,↓reduceIte,Nat.reduceEqDiff,reduceCtorEq,Int.reduceEq,Int.reduceNeg,Nat.reduceAdd,Nat.reduceLeDiff,g0,g1,g5,g6,lt_false hlt,bdA_some,bdV_nat,hc1,hc2,hclr])))
      have hall : l.take (k0 + 1 + m) = l := List.take_of_length_le (by omega)
      rw [hall] at hls
      refine hK _ s2 (hk.trans (htn.keep hbr)) ?_
      rw [← hls]
      exact ⟨fun c hc => hcz c (List.mem_of_mem_take hc), .inr (.inr (.inr ⟨r, 0, i, _, rfl, ⟨hbr, by have := htn.next; omega⟩, hg2, by simp only [hln]; omega, by simp only [List.drop_zero, htk]⟩))⟩
def dropH (l : List Hold) (k : Txt) : List Hold := l.filter fun x => !(x.key == k)
def dropM (l : List Mark) (k : Txt) : List Mark := l.filter fun x => !(x.key == k)
theorem dropF (k : Txt) (r t : Nat) : FnP holdA (fun M => M.get r = some ⟨t, 1, [[.str k]]⟩ ∧ r < M.next) 75 [.ptr r 0 0] (fun x => x.key == k) := by
  rintro x M K ⟨hg, hr⟩ hK
  refine C_enter (cf := cf75) rfl (Nat.le_of_ble_eq_true rfl) ?_
  simp only [cf75, oo, on, om, og, oc, ou, holdA, holdC]
  have hne : (r = M.next) = False := by simp; omega
  (repeat' (with_reducible first|refine w_1 ?_|refine w_2 ?_|refine w_3 ?_|refine w_4 ?_|refine w_5 ?_|refine w_6 ?_|refine w_7 ?_|(refine w_8 (fun hb=>?_) (fun hb=>?_)<;>(try simp only [Bool.not_eq_true',Bool.not_eq_false'] at hb)<;>try simp only [hb])|refine w_13 (fun hc=>(by (try simp only [Bool.and_eq_true] at hc);simp (maxDischargeDepth:=12) only [viz,↓reduceIte,Nat.reduceEqDiff,reduceCtorEq,Int.reduceEq,Int.reduceNeg,Nat.reduceAdd,Nat.reduceLeDiff,hg,hne,cond_true,cond_false,hc];first|exact ⟨rfl,rfl⟩|exact rfl)) ?_|refine w_12 ?_|((try refine w_9 ?_);simp (maxDischargeDepth:=12) only [viz,↓reduceIte,Nat.reduceEqDiff,reduceCtorEq,Int.reduceEq,Int.reduceNeg,Nat.reduceAdd,Nat.reduceLeDiff,hg,hne])))
  exact hK _ (pushes _ _)
theorem unmarkF (k : Txt) (r t : Nat) : FnP markA (fun M => M.get r = some ⟨t, 1, [[.str k]]⟩ ∧ r < M.next) 72 [.ptr r 0 0] (fun x => x.key == k) := by
  rintro x M K ⟨hg, hr⟩ hK
  refine C_enter (cf := cf72) rfl (Nat.le_of_ble_eq_true rfl) ?_
  simp only [cf72, oo, on, om, og, oc, ou, markA, markC]
  have hne : (r = M.next) = False := by simp; omega
  (repeat' (with_reducible first|refine w_1 ?_|refine w_2 ?_|refine w_3 ?_|refine w_4 ?_|refine w_5 ?_|refine w_6 ?_|refine w_7 ?_|(refine w_8 (fun hb=>?_) (fun hb=>?_)<;>(try simp only [Bool.not_eq_true',Bool.not_eq_false'] at hb)<;>try simp only [hb])|refine w_13 (fun hc=>(by (try simp only [Bool.and_eq_true] at hc);simp (maxDischargeDepth:=12) only [viz,↓reduceIte,Nat.reduceEqDiff,reduceCtorEq,Int.reduceEq,Int.reduceNeg,Nat.reduceAdd,Nat.reduceLeDiff,hg,hne,cond_true,cond_false,hc];first|exact ⟨rfl,rfl⟩|exact rfl)) ?_|refine w_12 ?_|((try refine w_9 ?_);simp (maxDischargeDepth:=12) only [viz,↓reduceIte,Nat.reduceEqDiff,reduceCtorEq,Int.reduceEq,Int.reduceNeg,Nat.reduceAdd,Nat.reduceLeDiff,hg,hne])))
  exact hK _ (pushes _ _)
theorem ldrop_c {l : List Hold} {k : Txt} {v : AV} {D : Nat → Prop} {s : Mem} {K : AV → Mem → Prop} (hf : s.floor ≤ s.next) (hI : In D s) (hv : Holds s D v l) (hl : l.length < 5000)
    (hK : ∀ v' s', Keep s.next s s' → Holds s' (fun q => s.next ≤ q ∧ q < s'.next) v' (dropH l k) → K v' s') : C tab 52 [v, .str k] s K := by
  refine C_enter (cf := cf52) rfl (Nat.le_of_ble_eq_true rfl) ?_
  simp only [cf52, oo, on, om, og, oc, ou]
  (repeat' (with_reducible first|refine w_1 ?_|refine w_2 ?_|refine w_3 ?_|refine w_4 ?_|refine w_5 ?_|refine w_6 ?_|refine w_7 ?_|(refine w_8 (fun hb=>?_) (fun hb=>?_)<;>(try simp only [Bool.not_eq_true',Bool.not_eq_false'] at hb)<;>try simp only [hb])|refine w_13 (fun hc=>(by (try simp only [Bool.and_eq_true] at hc);simp (maxDischargeDepth:=12) only [viz,↓reduceIte,Nat.reduceEqDiff,reduceCtorEq,Int.reduceEq,Int.reduceNeg,Nat.reduceAdd,Nat.reduceLeDiff,cond_true,cond_false,hc];first|exact ⟨rfl,rfl⟩|exact rfl)) ?_|refine w_12 ?_|((try refine w_9 ?_);simp (maxDischargeDepth:=12) only [viz,↓reduceIte,Nat.reduceEqDiff,reduceCtorEq,Int.reduceEq,Int.reduceNeg,Nat.reduceAdd,Nat.reduceLeDiff])))
  have hp := Kp.of_push s ⟨9, 1, [[.str k]]⟩
  refine hoclone_c (D := D) (hp.k.ok hf) (hI.keep hp.k) (hv.keep fun r hr => hp.k.get r (hI r hr)) hl fun w s1 ho h1 => ?_
  have q := hp.then h1
  have hn := h1.next
  simp only [next_push'] at hn ho
  (repeat' (with_reducible first|refine w_1 ?_|refine w_2 ?_|refine w_3 ?_|refine w_4 ?_|refine w_5 ?_|refine w_6 ?_|refine w_7 ?_|(refine w_8 (fun hb=>?_) (fun hb=>?_)<;>(try simp only [Bool.not_eq_true',Bool.not_eq_false'] at hb)<;>try simp only [hb])|refine w_13 (fun hc=>(by (try simp only [Bool.and_eq_true] at hc);simp (maxDischargeDepth:=12) only [viz,↓reduceIte,Nat.reduceEqDiff,reduceCtorEq,Int.reduceEq,Int.reduceNeg,Nat.reduceAdd,Nat.reduceLeDiff,cond_true,cond_false,hc];first|exact ⟨rfl,rfl⟩|exact rfl)) ?_|refine w_12 ?_|((try refine w_9 ?_);simp (maxDischargeDepth:=12) only [viz,↓reduceIte,Nat.reduceEqDiff,reduceCtorEq,Int.reduceEq,Int.reduceNeg,Nat.reduceAdd,Nat.reduceLeDiff])))
  refine hoDel_c (b := s.next + 1) (p := fun x => x.key == k) (G := fun M => M.get s.next = some ⟨9, 1, [[.str k]]⟩ ∧ s.next < M.next) (q.k.ok hf) (by rw [q.k.floor]; omega) hn ho hl (fun M hM hMn => ⟨by rw [hM _ (by omega)]; exact q.g, by omega⟩) (dropF k s.next 9) fun v' s2 h2 hs => ?_
  (repeat' (with_reducible first|refine w_1 ?_|refine w_2 ?_|refine w_3 ?_|refine w_4 ?_|refine w_5 ?_|refine w_6 ?_|refine w_7 ?_|(refine w_8 (fun hb=>?_) (fun hb=>?_)<;>(try simp only [Bool.not_eq_true',Bool.not_eq_false'] at hb)<;>try simp only [hb])|refine w_13 (fun hc=>(by (try simp only [Bool.and_eq_true] at hc);simp (maxDischargeDepth:=12) only [viz,↓reduceIte,Nat.reduceEqDiff,reduceCtorEq,Int.reduceEq,Int.reduceNeg,Nat.reduceAdd,Nat.reduceLeDiff,cond_true,cond_false,hc];first|exact ⟨rfl,rfl⟩|exact rfl)) ?_|refine w_12 ?_|((try refine w_9 ?_);simp (maxDischargeDepth:=12) only [viz,↓reduceIte,Nat.reduceEqDiff,reduceCtorEq,Int.reduceEq,Int.reduceNeg,Nat.reduceAdd,Nat.reduceLeDiff])))
  exact hK _ _ (q.k.trans (h2.le (by omega))) (hs.mono fun r hr => ⟨by omega, hr.2⟩)
theorem unmark_c {l : List Mark} {k : Txt} {v : AV} {D : Nat → Prop} {s : Mem} {K : AV → Mem → Prop} (hf : s.floor ≤ s.next) (hI : In D s) (hv : Marks s D v l) (hl : l.length < 5000)
    (hK : ∀ v' s', Keep s.next s s' → Marks s' (fun q => s.next ≤ q ∧ q < s'.next) v' (dropM l k) → K v' s') : C tab 50 [v, .str k] s K := by
  refine C_enter (cf := cf50) rfl (Nat.le_of_ble_eq_true rfl) ?_
  simp only [cf50, oo, on, om, og, oc, ou]
  (repeat' (with_reducible first|refine w_1 ?_|refine w_2 ?_|refine w_3 ?_|refine w_4 ?_|refine w_5 ?_|refine w_6 ?_|refine w_7 ?_|(refine w_8 (fun hb=>?_) (fun hb=>?_)<;>(try simp only [Bool.not_eq_true',Bool.not_eq_false'] at hb)<;>try simp only [hb])|refine w_13 (fun hc=>(by (try simp only [Bool.and_eq_true] at hc);simp (maxDischargeDepth:=12) only [viz,↓reduceIte,Nat.reduceEqDiff,reduceCtorEq,Int.reduceEq,Int.reduceNeg,Nat.reduceAdd,Nat.reduceLeDiff,cond_true,cond_false,hc];first|exact ⟨rfl,rfl⟩|exact rfl)) ?_|refine w_12 ?_|((try refine w_9 ?_);simp (maxDischargeDepth:=12) only [viz,↓reduceIte,Nat.reduceEqDiff,reduceCtorEq,Int.reduceEq,Int.reduceNeg,Nat.reduceAdd,Nat.reduceLeDiff])))
  have hp := Kp.of_push s ⟨9, 1, [[.str k]]⟩
  refine maclone_c (D := D) (hp.k.ok hf) (hI.keep hp.k) (hv.keep fun r hr => hp.k.get r (hI r hr)) hl fun w s1 ho h1 => ?_
  have q := hp.then h1
  have hn := h1.next
  simp only [next_push'] at hn ho
  (repeat' (with_reducible first|refine w_1 ?_|refine w_2 ?_|refine w_3 ?_|refine w_4 ?_|refine w_5 ?_|refine w_6 ?_|refine w_7 ?_|(refine w_8 (fun hb=>?_) (fun hb=>?_)<;>(try simp only [Bool.not_eq_true',Bool.not_eq_false'] at hb)<;>try simp only [hb])|refine w_13 (fun hc=>(by (try simp only [Bool.and_eq_true] at hc);simp (maxDischargeDepth:=12) only [viz,↓reduceIte,Nat.reduceEqDiff,reduceCtorEq,Int.reduceEq,Int.reduceNeg,Nat.reduceAdd,Nat.reduceLeDiff,cond_true,cond_false,hc];first|exact ⟨rfl,rfl⟩|exact rfl)) ?_|refine w_12 ?_|((try refine w_9 ?_);simp (maxDischargeDepth:=12) only [viz,↓reduceIte,Nat.reduceEqDiff,reduceCtorEq,Int.reduceEq,Int.reduceNeg,Nat.reduceAdd,Nat.reduceLeDiff])))
  refine maDel_c (b := s.next + 1) (p := fun x => x.key == k) (G := fun M => M.get s.next = some ⟨9, 1, [[.str k]]⟩ ∧ s.next < M.next) (q.k.ok hf) (by rw [q.k.floor]; omega) hn ho hl (fun M hM hMn => ⟨by rw [hM _ (by omega)]; exact q.g, by omega⟩) (unmarkF k s.next 9) fun v' s2 h2 hs => ?_
  (repeat' (with_reducible first|refine w_1 ?_|refine w_2 ?_|refine w_3 ?_|refine w_4 ?_|refine w_5 ?_|refine w_6 ?_|refine w_7 ?_|(refine w_8 (fun hb=>?_) (fun hb=>?_)<;>(try simp only [Bool.not_eq_true',Bool.not_eq_false'] at hb)<;>try simp only [hb])|refine w_13 (fun hc=>(by (try simp only [Bool.and_eq_true] at hc);simp (maxDischargeDepth:=12) only [viz,↓reduceIte,Nat.reduceEqDiff,reduceCtorEq,Int.reduceEq,Int.reduceNeg,Nat.reduceAdd,Nat.reduceLeDiff,cond_true,cond_false,hc];first|exact ⟨rfl,rfl⟩|exact rfl)) ?_|refine w_12 ?_|((try refine w_9 ?_);simp (maxDischargeDepth:=12) only [viz,↓reduceIte,Nat.reduceEqDiff,reduceCtorEq,Int.reduceEq,Int.reduceNeg,Nat.reduceAdd,Nat.reduceLeDiff])))
  exact hK _ _ (q.k.trans (h2.le (by omega))) (hs.mono fun r hr => ⟨by omega, hr.2⟩)
end Go.Proofs.Ythibbbfhkfebkaa

