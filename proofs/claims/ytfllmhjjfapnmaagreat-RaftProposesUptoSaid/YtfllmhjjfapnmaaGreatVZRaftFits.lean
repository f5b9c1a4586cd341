/- Lists that are not too long. No statement of the seat is proved here. -/
import Derived.Test.YtfllmhjjfapnmaaGreatVZRaftTell
import Derived.Test.YtfllmhjjfapnmaaGreatVZRaftPure
import Derived.Test.YtfllmhjjfapnmaaGreatVZVE
namespace Go.Proofs.YtfllmhjjfapnmaaGreat
open Go Go.VI
set_option linter.unusedSimpArgs false
structure Fits (r : Raft) (o : List Msg) : Prop where
  log : Fit r.log.l.length
  votes : Fit r.votes.length
  peers : Fit r.peers.length
  out : Fit o.length
  ms : ∀ m ∈ o, Fit m.entries.length
theorem sliceE_len (b : Int) (es : List Entry) (f m : Int) : (sliceE b es f m).length ≤ es.length := by
  unfold sliceE
  split
  · simp
  · exact Nat.le_trans (List.length_take_le' _ _) (List.length_filter_le _ _)
theorem tellAllM_fits {r : Raft} {ps : List Peer} (h : Fit r.log.l.length) (hp : Fit ps.length) : Fit (tellAllM r ps).length ∧ ∀ m ∈ tellAllM r ps, Fit m.entries.length := by
  constructor
  · have := tellAllM_len r ps ps.length
    rw [List.take_length] at this
    unfold Fit at *; omega
  · intro m hm
    obtain ⟨p, _, rfl⟩ := List.mem_map.mp hm
    have : (stamp r (tellM r p)).entries.length ≤ r.log.l.length := by
      show (tellM r p).entries.length ≤ _
      unfold tellM
      split
      · simp
      · exact sliceE_len _ _ _ _
    unfold Fit at *; omega
theorem settleR_fits {r : Raft} (hL : logOk r.log = true) (hl : Fit r.log.l.length) (hv : Fit r.votes.length) : Fits (settleR r) (tellAllM (settleR r) (settleR r).peers) := by
  have hsr : settleR r = commitR { r with peers := (vot r.log).map (peerFor r) } := rfl
  obtain ⟨c1, c2, _, _, c5⟩ := commitR_same { r with peers := (vot r.log).map (peerFor r) }
  have h1 : Fit (settleR r).log.l.length := by rw [hsr, c1]; exact hl
  have h2 : Fit (settleR r).peers.length := by
    rw [hsr, c2]
    show ((vot r.log).map (peerFor r)).length < _
    rw [List.length_map]
    have := vot_len hL
    omega
  obtain ⟨t1, t2⟩ := tellAllM_fits h1 h2
  exact ⟨h1, by rw [hsr, c5]; exact hv, h2, t1, t2⟩
end Go.Proofs.YtfllmhjjfapnmaaGreat

