/- States of a group's node and their messages, as values. No statement of the seat is proved here. -/
import Derived.Test.YtfllmhjjfapnmaaGreatVZTells3
import Derived.Test.YtfllmhjjfapnmaaGreatVZVE
namespace Go.Proofs.YtfllmhjjfapnmaaGreat
open Go Go.VI
set_option linter.unusedSimpArgs false
abbrev Peer := Int × Int × Int
def peerC (p : Peer) : List AV := [.int .i64 p.1, .int .u64 p.2.1, .int .u64 p.2.2]
def peersC (ps : List Peer) : List (List AV) := ps.map peerC
theorem peersC_len (ps : List Peer) : (peersC ps).length = ps.length := by simp [peersC]
theorem peersC_sz (ps : List Peer) : ∀ c ∈ peersC ps, c.length = 3 := by
  intro c hc
  obtain ⟨p, _, rfl⟩ := List.mem_map.mp hc
  rfl
theorem peersC_get {ps : List Peer} {i : Nat} {p : Peer} (h : ps[i]? = some p) : (peersC ps)[i]? = some (peerC p) := by simp [peersC, h]
def InU (n : Int) : Prop := 0 ≤ n ∧ n ≤ 18446744073709551615
structure Raft where
  node : Int
  term : Int
  vote : Int
  log : Log
  commit : Int
  role : Int
  leads : Int
  elapsed : Int
  votes : List Int
  peers : List Peer
structure Msg where
  kind : Int := 0
  frm : Int := 0
  to : Int := 0
  term : Int := 0
  index : Int := 0
  prev : Int := 0
  entries : List Entry := []
  commit : Int := 0
  ok : Bool := false
  mtch : Int := 0
  snap : Entry := ⟨0, 0, 0, []⟩
structure Raft.Wf (r : Raft) : Prop where
  log : r.log.Wf
  votes : Fit r.votes.length
  peers : Fit r.peers.length
  peer : ∀ p ∈ r.peers, InU p.2.1 ∧ InU p.2.2
  term : InU r.term
  commit : InU r.commit
structure Msg.Wf (m : Msg) : Prop where
  entries : ∀ e ∈ m.entries, e.Wf
  len : Fit m.entries.length
  snap : m.snap.Wf
section
variable {s s' : Mem} {D D' : Nat → Prop} {c : List AV} {v : AV} {r : Raft} {m : Msg}
def RaftC (s : Mem) (D : Nat → Prop) (c : List AV) (r : Raft) : Prop :=
  ∃ d w vv pv, c = [.int .i64 r.node, .int .u64 r.term, .int .i64 r.vote, .int .u64 r.log.base.index, .int .u64 r.log.base.term, .int .i64 r.log.base.kind, d, w, .int .u64 r.commit, .int .i64 r.role, .int .i64 r.leads, .int .i64 r.elapsed, vv, pv] ∧
    Byt s D d r.log.base.data ∧ Ents s D w r.log.l ∧ Sl s D vv 1 (intsA .i64 r.votes) ∧ Sl s D pv 3 (peersC r.peers)
theorem RaftC.keep (h : RaftC s D c r) (hD : ∀ r, D r → s'.get r = s.get r) : RaftC s' D c r :=
  let ⟨d, w, vv, pv, h1, h2, h3, h4, h5⟩ := h; ⟨d, w, vv, pv, h1, h2.keep hD, h3.keep hD, h4.keep hD, h5.keep hD⟩
theorem RaftC.mono (h : RaftC s D c r) (hD : ∀ r, D r → D' r) : RaftC s D' c r :=
  let ⟨d, w, vv, pv, h1, h2, h3, h4, h5⟩ := h; ⟨d, w, vv, pv, h1, h2.mono hD, h3.mono hD, h4.mono hD, h5.mono hD⟩
def RaftV (s : Mem) (D : Nat → Prop) (v : AV) (r : Raft) : Prop := ∃ c, v = .agg c ∧ RaftC s D c r
theorem RaftV.keep (h : RaftV s D v r) (hD : ∀ r, D r → s'.get r = s.get r) : RaftV s' D v r := let ⟨c, h1, h2⟩ := h; ⟨c, h1, h2.keep hD⟩
theorem RaftV.mono (h : RaftV s D v r) (hD : ∀ r, D r → D' r) : RaftV s D' v r := let ⟨c, h1, h2⟩ := h; ⟨c, h1, h2.mono hD⟩
def MsgC (s : Mem) (D : Nat → Prop) (c : List AV) (m : Msg) : Prop :=
  ∃ ev sd, c = [.int .i64 m.kind, .int .i64 m.frm, .int .i64 m.to, .int .u64 m.term, .int .u64 m.index, .int .u64 m.prev, ev, .int .u64 m.commit, .bool m.ok, .int .u64 m.mtch, .int .u64 m.snap.index, .int .u64 m.snap.term, .int .i64 m.snap.kind, sd] ∧
    Ents s D ev m.entries ∧ Byt s D sd m.snap.data
theorem MsgC.keep (h : MsgC s D c m) (hD : ∀ r, D r → s'.get r = s.get r) : MsgC s' D c m :=
  let ⟨d, w, h1, h2, h3⟩ := h; ⟨d, w, h1, h2.keep hD, h3.keep hD⟩
theorem MsgC.mono (h : MsgC s D c m) (hD : ∀ r, D r → D' r) : MsgC s D' c m :=
  let ⟨d, w, h1, h2, h3⟩ := h; ⟨d, w, h1, h2.mono hD, h3.mono hD⟩
theorem MsgC.len (h : MsgC s D c m) : c.length = 14 := by obtain ⟨d, w, rfl, _⟩ := h; rfl
theorem MsgC.cell (h : MsgC s D c m) : c.all isCell = true := by
  obtain ⟨d, w, rfl, h1, h2⟩ := h
  simp only [List.all_cons, List.all_nil, cell_int, cell_bool, h1.cell, h2.cell, Bool.and_self]
def MsgsC (s : Mem) (D : Nat → Prop) (xs : List (List AV)) (ms : List Msg) : Prop := xs.length = ms.length ∧ ∀ (i : Nat) (c : List AV) (m : Msg), xs[i]? = some c → ms[i]? = some m → MsgC s D c m
theorem MsgsC.keep {xs : List (List AV)} {ms : List Msg} (h : MsgsC s D xs ms) (hD : ∀ r, D r → s'.get r = s.get r) : MsgsC s' D xs ms := ⟨h.1, fun i c e h1 h2 => (h.2 i c e h1 h2).keep hD⟩
theorem MsgsC.mono {xs : List (List AV)} {ms : List Msg} (h : MsgsC s D xs ms) (hD : ∀ r, D r → D' r) : MsgsC s D' xs ms := ⟨h.1, fun i c e h1 h2 => (h.2 i c e h1 h2).mono hD⟩
theorem MsgsC.nil (s : Mem) (D : Nat → Prop) : MsgsC s D [] [] := ⟨rfl, by intro i c e h; simp at h⟩
theorem MsgsC.sizes {xs : List (List AV)} {ms : List Msg} (h : MsgsC s D xs ms) : ∀ c ∈ xs, c.length = 14 := by
  intro c hc
  obtain ⟨i, hi⟩ := List.getElem?_of_mem hc
  have hl : i < ms.length := by rw [← h.1]; exact (List.getElem?_eq_some_iff.mp hi).1
  exact (h.2 i c _ hi (List.getElem?_eq_getElem hl)).len
theorem MsgsC.snoc {xs : List (List AV)} {ms : List Msg} (h : MsgsC s D xs ms) (h1 : MsgC s D c m) : MsgsC s D (xs ++ [c]) (ms ++ [m]) := by
  refine ⟨by simp [h.1], fun i c' m' g1 g2 => ?_⟩
  by_cases hi : i < xs.length
  · rw [List.getElem?_append_left hi] at g1
    rw [List.getElem?_append_left (by rw [← h.1]; exact hi)] at g2
    exact h.2 i c' m' g1 g2
  · rw [List.getElem?_append_right (by omega)] at g1
    rw [List.getElem?_append_right (by rw [← h.1]; omega), ← h.1] at g2
    match hk : i - xs.length with
    | 0 => rw [hk] at g1 g2; simp at g1 g2; subst g1; subst g2; exact h1
    | k + 1 => rw [hk] at g1; simp at g1
def Msgs (s : Mem) (D : Nat → Prop) (v : AV) (ms : List Msg) : Prop := ∃ xs, Sl s D v 14 xs ∧ MsgsC s D xs ms
theorem Msgs.keep {ms : List Msg} (h : Msgs s D v ms) (hD : ∀ r, D r → s'.get r = s.get r) : Msgs s' D v ms := let ⟨xs, h1, h2⟩ := h; ⟨xs, h1.keep hD, h2.keep hD⟩
theorem Msgs.mono {ms : List Msg} (h : Msgs s D v ms) (hD : ∀ r, D r → D' r) : Msgs s D' v ms := let ⟨xs, h1, h2⟩ := h; ⟨xs, h1.mono hD, h2.mono hD⟩
theorem Msgs.len {ms : List Msg} (h : Msgs s D v ms) : lenA false v = some ms.length := by obtain ⟨xs, h1, h2⟩ := h; rw [h1.len, h2.1]
theorem Msgs.cell {ms : List Msg} (h : Msgs s D v ms) : isCell v = true := by obtain ⟨xs, h1, _⟩ := h; exact h1.cell
theorem Msgs.atk {ms : List Msg} (h : Msgs s D v ms) (hI : In D s) {i : Nat} {e : Msg} (he : ms[i]? = some e) : ∃ c p, (∀ j, atA 14 v (.int j (i : Int)) = some p) ∧ Ptk s p c ∧ MsgC s D c e := by
  obtain ⟨xs, h1, h2⟩ := h
  have hl : i < xs.length := by rw [h2.1]; exact (List.getElem?_eq_some_iff.mp he).1
  obtain ⟨p, hp, P⟩ := h1.atk hI (List.getElem?_eq_getElem hl)
  exact ⟨_, p, hp, P, h2.2 i _ e (List.getElem?_eq_getElem hl) he⟩
def StV (s : Mem) (D : Nat → Prop) (v : AV) (r : Raft) (out : List Msg) : Prop := ∃ c ov, v = .agg (c ++ [ov]) ∧ RaftC s D c r ∧ Msgs s D ov out
theorem StV.keep {out : List Msg} (h : StV s D v r out) (hD : ∀ r, D r → s'.get r = s.get r) : StV s' D v r out := let ⟨c, ov, h1, h2, h3⟩ := h; ⟨c, ov, h1, h2.keep hD, h3.keep hD⟩
theorem StV.mono {out : List Msg} (h : StV s D v r out) (hD : ∀ r, D r → D' r) : StV s D' v r out := let ⟨c, ov, h1, h2, h3⟩ := h; ⟨c, ov, h1, h2.mono hD, h3.mono hD⟩
end
end Go.Proofs.YtfllmhjjfapnmaaGreat

