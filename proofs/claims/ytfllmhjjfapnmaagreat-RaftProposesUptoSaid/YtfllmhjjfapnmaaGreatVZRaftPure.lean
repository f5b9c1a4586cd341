/- What comes of a state, plainly. No statement of the seat is proved here. -/
import Derived.Test.YtfllmhjjfapnmaaGreatVZRaftIdx
import Derived.Test.YtfllmhjjfapnmaaGreatVZLC
import Derived.Test.YtfllmhjjfapnmaaGreatVZKeeps
import Derived.Test.YtfllmhjjfapnmaaGreatVZVE
namespace Go.Proofs.YtfllmhjjfapnmaaGreat
open Go Go.VI
set_option linter.unusedSimpArgs false
theorem logOk_good {l : Log} (h : logOk l = true) (hw : l.Wf) : LogGood l := ⟨hw, (logOk_cons h).1, (logOk_cons h).2, logOk_len h⟩
theorem beh_ok : ∀ (es : List Entry) (b t : Int), beh b t es = true → ∀ e ∈ es, entOk e = true := by
  intro es
  induction es with
  | nil => intro b t _ e he; cases he
  | cons x es ih =>
    intro b t h e he
    simp only [beh, Bool.and_eq_true] at h
    rcases List.mem_cons.mp he with rfl | he
    · exact h.1.2
    · exact ih _ _ h.2 e he
theorem cfgT_ok {base : List UInt8} {es : List Entry} (hb : okV (nodes base) = true) (he : ∀ e ∈ es, entOk e = true) : ∀ k, okV (nodes (cfgT base es k)) = true := by
  intro k
  induction k with
  | zero => exact hb
  | succ k ih =>
    unfold cfgT
    split
    · rename_i e hx
      split
      · rename_i h2
        have := he e (List.mem_of_getElem? hx)
        simp [entOk, h2] at this
        exact this.2
      · exact ih
    · exact ih
theorem logOk_vot {l : Log} (h : logOk l = true) : okV (vot l) = true := by
  have h2 := h
  simp only [logOk, Bool.and_eq_true, decide_eq_true_eq] at h2
  exact cfgT_ok h2.1.1.1.2 (beh_ok _ _ _ h2.2) _
theorem lastE_end (l : Log) : endOf l.base.index l.base.term l.l = ((lastE l).index, (lastE l).term) := by
  unfold lastE
  rcases List.eq_nil_or_concat l.l with h | ⟨ys, y, h⟩
  · rw [h]; rfl
  · rw [h, List.concat_eq_append, endOf_last]; simp
theorem appOut_ok {l : Log} {tm k : Int} {bs : List UInt8} (hA : AppIn l tm k bs) (h : (appOut l tm k bs).2 = 0) : (appOut l tm k bs).1 = ⟨l.base, l.l ++ [newE l tm k bs]⟩ ∧ logOk l = true ∧ (lastE l).term ≤ tm ∧ logOk (appOut l tm k bs).1 = true ∧ (appOut l tm k bs).1.Wf := by
  unfold appOut at h ⊢
  split at h
  · cases h
  split at h
  · cases h
  rename_i h1 h2
  rw [if_neg h1, if_neg h2]
  simp only [Bool.or_eq_true, decide_eq_true_eq, Bool.not_eq_true', not_or, Bool.not_eq_false] at h1 h2
  obtain ⟨⟨g1, g2⟩, g3⟩ := h1
  have hlen := logOk_len g1
  have hw := hA.w
  have hlw := lastE_wf hw
  refine ⟨rfl, g1, by omega, ?_, hw.base, ?_, ?_⟩
  · have g4 := g1
    simp only [logOk, Bool.and_eq_true, decide_eq_true_eq] at g4 ⊢
    refine ⟨⟨g4.1.1, by simp; omega⟩, ?_⟩
    rw [beh_append, g4.2, lastE_end, Bool.true_and]
    simp only [beh, Bool.and_true, Bool.and_eq_true, decide_eq_true_eq]
    refine ⟨⟨?_, by show _ ≤ tm; omega⟩, g3⟩
    have := hlw.index
    simp only [newE]
    rw [wrap_u64 (by omega)]
  · intro e he
    rcases List.mem_append.mp he with he | he
    · exact hw.all e he
    · rw [List.mem_singleton] at he; subst he; exact hA.e
  · rw [List.length_append, List.length_singleton]; show _ < 1000000000000; omega
theorem vot_len {l : Log} (h : logOk l = true) : (vot l).length ≤ 7 := (okV_len (logOk_vot h)).2
def commitR (r : Raft) : Raft :=
  if (termO r.log.base.index r.log.base.term r.log.l (major (vot r.log) r.peers)).2 = true ∧ r.commit < major (vot r.log) r.peers ∧ (termO r.log.base.index r.log.base.term r.log.l (major (vot r.log) r.peers)).1 = r.term then { r with commit := major (vot r.log) r.peers } else r
def peerFor (r : Raft) (n : Int) : Peer :=
  if n = r.node then (n, IntKind.u64.wrap ((lastE r.log).index + 1), (lastE r.log).index)
  else match r.peers.find? (fun p => p.1 == n) with
    | some p => p
    | none => (n, (lastE r.log).index, 0)
def settleR (r : Raft) : Raft := commitR { r with peers := (vot r.log).map (peerFor r) }
def leadS (r : Raft) : Raft := { r with log := (appOut r.log r.term 0 []).1, role := 2, leads := r.node, votes := [], elapsed := 0, peers := [] }
def leadR (r : Raft) : Raft := if (appOut r.log r.term 0 []).2 = 0 then settleR (leadS r) else r
def leadO (r : Raft) : List Msg := if (appOut r.log r.term 0 []).2 = 0 then tellAllM (settleR (leadS r)) (settleR (leadS r)).peers else []
def followR (r : Raft) (t : Int) : Raft := { r with term := t, vote := 0, role := 0, leads := 0, votes := [], peers := [] }
def askS (r : Raft) : Raft := { r with term := IntKind.u64.wrap (r.term + 1), vote := r.node, role := 1, leads := 0, elapsed := 0, votes := [r.node], peers := [] }
def wonV (vs l : List Int) : Bool := okV vs && decide (vs.length < 2 * Q.cnt vs l)
def askM (r : Raft) (n : Int) : Msg := stamp r { kind := 1, to := n, index := (lastE r.log).index, prev := (lastE r.log).term }
def asksM (r : Raft) (vs : List Int) : List Msg := (vs.filter (· != r.node)).map (askM r)
def askR (r : Raft) : Raft := if wonV (vot r.log) [r.node] = true then leadR (askS r) else askS r
def askO (r : Raft) : List Msg := if wonV (vot r.log) [r.node] = true then leadO (askS r) else asksM (askS r) (vot r.log)
theorem commitR_same (r : Raft) : (commitR r).log = r.log ∧ (commitR r).peers = r.peers ∧ (commitR r).node = r.node ∧ (commitR r).term = r.term ∧ (commitR r).votes = r.votes := by
  unfold commitR; split <;> exact ⟨rfl, rfl, rfl, rfl, rfl⟩
theorem peerFor_inU {r : Raft} (hw : r.log.Wf) (hp : ∀ p ∈ r.peers, InU p.2.1 ∧ InU p.2.2) (n : Int) : InU (peerFor r n).2.1 ∧ InU (peerFor r n).2.2 := by
  have := (lastE_wf hw).index
  unfold peerFor
  split
  · exact ⟨wrap_inU _, this⟩
  split
  · rename_i p h; exact hp p (List.mem_of_find?_eq_some h)
  · exact ⟨this, by show InU 0; unfold InU; omega⟩
theorem peers_inU {r : Raft} (hw : r.log.Wf) (hp : ∀ p ∈ r.peers, InU p.2.1 ∧ InU p.2.2) (vs : List Int) : ∀ p ∈ vs.map (peerFor r), InU p.2.1 ∧ InU p.2.2 := by
  intro p h
  obtain ⟨n, _, rfl⟩ := List.mem_map.mp h
  exact peerFor_inU hw hp n
end Go.Proofs.YtfllmhjjfapnmaaGreat

