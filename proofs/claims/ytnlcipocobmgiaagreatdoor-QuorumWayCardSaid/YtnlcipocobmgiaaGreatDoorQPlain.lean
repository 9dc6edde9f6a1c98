/- What ticks, messages and commands make of a node over a disk with room, plainly, as far as a run needs it. -/
import Derived.Test.YtnlcipocobmgiaaGreatDoorQNetB
import Derived.Test.YtnlcipocobmgiaaGreatDoorRaftD
import Derived.Test.YtnlcipocobmgiaaGreatDoorRaft14
import Derived.Test.YtnlcipocobmgiaaGreatDoorRaft10
import Derived.Test.YtnlcipocobmgiaaGreatDoorHolds
namespace Go.Proofs.YtnlcipocobmgiaaGreatDoor
open Go.RowKit
attribute [local go_sem] size_bs bs_append bs_extract

/-- Small numbers. -/
def SmP (N : Rn) : Prop := N.n ≤ 5 ∧ N.id < N.n ∧ N.st.term ≤ 1000 ∧ N.st.base ≤ 1000 ∧ N.st.baseTerm ≤ 1000 ∧ N.st.snap.length ≤ 1000 ∧ N.st.log.length ≤ 100 ∧ (∀ e ∈ N.st.log, e.index ≤ 1000 ∧ e.term ≤ 1000 ∧ e.cmd.length ≤ 100) ∧ N.commit ≤ 1000 ∧ N.applied ≤ 1000 ∧ N.timer ≤ 1000 ∧ N.out.length ≤ 100 ∧
  (N.mt.length = N.n ∨ N.mt.length = 0) ∧ (N.nx.length = N.n ∨ N.nx.length = 0) ∧ (N.votes.length = N.n ∨ N.votes.length = 0) ∧ (∀ x ∈ N.nx, 1 ≤ x ∧ x ≤ 1000) ∧ (∀ x ∈ N.mt, x ≤ 1000) ∧ N.broken = 0
instance (N : Rn) : Decidable (SmP N) := by unfold SmP; infer_instance
section
variable {N N' : Rn} {D D' : Dk} {k : Nat} {y : Mg}
theorem SmP.sm (h : SmP N) : N.Sm := by
  obtain ⟨h1, h2, h3, h4, h5, h6, h7, h8, h9, h10, h11, h12, h13, h14, h15, h16, h17, -⟩ := h
  refine ⟨h1, h2, by omega, by omega, by omega, by omega, by omega, fun e he => ?_, by omega, by omega, by omega, by omega, ?_, ?_, ?_, fun x hx => ?_, fun x hx => ?_⟩
  · have := h8 e he; omega
  · exact h13.imp_right List.length_eq_zero_iff.1
  · exact h14.imp_right List.length_eq_zero_iff.1
  · exact h15.imp_right List.length_eq_zero_iff.1
  · have := h16 x hx; omega
  · have := h17 x hx; omega
theorem SmP.b (h : SmP N) : N.broken = 0 := h.2.2.2.2.2.2.2.2.2.2.2.2.2.2.2.2.2
theorem SmP.out (h : SmP N) : N.out.length ≤ 100 := h.2.2.2.2.2.2.2.2.2.2.2.1
theorem SmP.log (h : SmP N) : N.st.log.length ≤ 100 := h.2.2.2.2.2.2.1
theorem SmP.term (h : SmP N) : N.st.term ≤ 1000 := h.2.2.1
theorem SmP.n (h : SmP N) : N.n ≤ 5 := h.1
theorem SmP.id (h : SmP N) : N.id < N.n := h.2.1
theorem SmP.last (h : SmP N) : N.st.last.1 ≤ 1000 := Ts.last_le h.2.2.2.1 fun e he => (h.2.2.2.2.2.2.2.1 e he).1
theorem SmP.newEn (h : SmP N) (cmd : List UInt8) (hc : cmd.length ≤ 100) : (N.newEn cmd).Fit := ⟨by have := h.last; show N.st.last.1 + 1 ≤ _; omega, by have := h.term; show N.st.term ≤ _; omega, by show cmd.length ≤ _; omega⟩

def tickP (N : Rn) : Option Rn :=
  if SmP N then
    if N.role = 2 then (if N.nx.length = N.n then some N.sendAll else none)
    else if N.timer + 1 < 4 + 2 * N.id then some { N with timer := N.timer + 1 }
    else if 2 ≤ N.n then some (({ N with timer := N.timer + 1 } : Rn).stands.asked N.n)
    else none
  else none
theorem tick_of (h : tickP N = some N') (hD : Holds D k N.st) (hk : 200 ≤ k) : ∃ D', Holds D' (k - 200) N'.st ∧ TickTo N D N' D' := by
  unfold tickP at h
  split at h
  · rename_i hs
    have hS := hs.sm
    split at h
    · rename_i hr
      split at h
      · rename_i hx
        obtain rfl := Option.some.inj h
        exact ⟨D, hD.mono (by omega), fun V W hn => tick_leader hn hS hs.b hr hx (by have := hs.out; omega)⟩
      · cases h
    · rename_i hr
      split at h
      · rename_i ht
        obtain rfl := Option.some.inj h
        refine ⟨D, hD.mono (by omega), fun V W hn => ?_⟩
        refine (tick_wait hn hS hs.b hr ht).mono ?_
        rintro e w' ⟨rfl, h1, h2⟩
        exact ⟨rfl, V, h1, h2⟩
      · rename_i ht
        split at h
        · rename_i h2
          obtain rfl := Option.some.inj h
          obtain ⟨D1, hd, hD1⟩ := hD.saveTerm (N.st.term + 1) (N.id + 1) (by have := hs.term; omega) (by have := hs.n; have := hs.id; omega) (by omega)
          have hS' : ({ N with timer := N.timer + 1 } : Rn).Sm := ⟨hS.n, hS.id, hS.term, hS.base, hS.baseTerm, hS.snap, hS.log, hS.ents, hS.commit, hS.applied, (by have := hs.2.2.2.2.2.2.2.2.2.2.1; show N.timer + 1 ≤ _; omega), hS.out, hS.mt, hS.nx, hS.votes, hS.nxs, hS.mts⟩
          refine ⟨D1, hD1.mono (by omega), fun V W hn => ?_⟩
          refine tick_elect hn hS hs.b hr (by omega) _ fun W1 hW hT => ?_
          have := elect_many hW hD.good hS' (by have := hs.out; show N.out.length ≤ _; omega) hd h2
          refine this.mono ?_
          rintro e w' ⟨rfl, V', h3, h4⟩
          exact ⟨rfl, V', h3, hT.trans h4⟩
        · cases h
  · cases h

def propP (N : Rn) (cmd : List UInt8) : Option Rn := if SmP N ∧ N.role = 2 ∧ N.mt.length = N.n ∧ N.nx.length = N.n ∧ cmd.length ≤ 100 then some (N.appended cmd) else none
theorem prop_of {cmd : List UInt8} (h : propP N cmd = some N') (hD : Holds D k N.st) (hk : 200 ≤ k) : ∃ D' a b, Holds D' (k - 200) N'.st ∧ PropTo N D cmd (.tuple #[.int .i64 a, .int .i64 b, .int .i64 0]) N' D' := by
  unfold propP at h
  split at h
  · rename_i hs
    obtain ⟨hs, hr, hm, hx, hc⟩ := hs
    obtain rfl := Option.some.inj h
    obtain ⟨D1, hd, hD1⟩ := hD.append (N.newEn cmd) (hs.newEn cmd hc) (by show cmd.length + 50 ≤ k; omega)
    refine ⟨D1, ((N.st.last.1 + 1 : Nat) : Int), (N.st.term : Int), hD1.mono (by show k - 200 ≤ k - (cmd.length + 50); omega), fun V W hn => ?_⟩
    exact propose_calls hn hD.good hs.sm hs.b hr hm hx (by have := hs.out; omega) cmd (by have := hs.last; omega) (by have := hs.log; omega) (by omega) hd
  · cases h

def askP (N : Rn) (y : Mg) (i T ix lt : Nat) : Option Rn := if y.term = (T : Int) ∧ y.index = (ix : Int) ∧ y.logTerm = (lt : Int) ∧ y.commit = 0 ∧ y.ok = false ∧ y.ents.length = 0 ∧ N.st.term < T ∧ T ≤ 1000 ∧ (N.st.last.2 < lt ∨ lt = N.st.last.2 ∧ N.st.last.1 ≤ ix) then some (N.askedBy i T) else none
def voteP (N : Rn) (y : Mg) (i : Nat) : Option Rn := if y.term = (N.st.term : Int) ∧ y.index = 0 ∧ y.logTerm = 0 ∧ y.commit = 0 ∧ y.ok = true ∧ y.ents.length = 0 then (if N.role = 2 then some N else if N.role = 1 ∧ N.votes.length = N.n ∧ N.n < 2 * trues (N.votes.set i true) then some ({ N with votes := N.votes.set i true } : Rn).won else none) else none
def haveP (N : Rn) (y : Mg) (i ix : Nat) : Option Rn := if y.term = (N.st.term : Int) ∧ y.index = (ix : Int) ∧ y.logTerm = 0 ∧ y.commit = 0 ∧ y.ok = true ∧ y.ents.length = 0 ∧ N.role = 2 ∧ N.mt.length = N.n ∧ N.nx.length = N.n ∧ ix ≤ N.st.last.1 then some (N.has i ix) else none
def moreP (N : Rn) (y : Mg) (i ix lt cm : Nat) (pre post : List En) : Option Rn := if y.term = (N.st.term : Int) ∧ y.index = (ix : Int) ∧ y.logTerm = (lt : Int) ∧ y.commit = (cm : Int) ∧ y.ok = false ∧ (ix ≤ N.st.base ∨ N.st.termAt ix = some lt) ∧ ix ≤ 1000 ∧ y.ents.length ≤ 100 ∧ (∀ e ∈ y.ents, e.index ≤ 1000 ∧ e.term ≤ 1000 ∧ e.cmd.length ≤ 100) ∧ (∀ e ∈ pre, N.st.base < e.index ∧ N.st.termAt e.index = some e.term) ∧ (post = [] ∨ ∃ x, x ∈ post ∧ post.length = 1 ∧ x.index = N.st.base + N.st.log.length + 1) then some ((N.heard i).more i ix cm y.ents post) else none
/-- What a message makes of a node, where it is one of those of a quiet run. -/
def stepP (N : Rn) (y : Mg) : Option Rn :=
  if SmP N ∧ y.frm = (y.frm.toNat : Int) ∧ y.frm.toNat < N.n ∧ y.frm.toNat ≠ N.id ∧ y.to_ = (N.id : Int) ∧ y.snap.length = 0 then
    if y.kind = 1 then askP N y y.frm.toNat y.term.toNat y.index.toNat y.logTerm.toNat
    else if y.kind = 2 then voteP N y y.frm.toNat
    else if y.kind = 4 then haveP N y y.frm.toNat y.index.toNat
    else if y.kind = 3 then moreP N y y.frm.toNat y.index.toNat y.logTerm.toNat y.commit.toNat (y.ents.take (N.st.last.1 - y.index.toNat)) (y.ents.drop (N.st.last.1 - y.index.toNat))
    else none
  else none
theorem bs_nil : bs [] = ⟨#[]⟩ := rfl
theorem ask_of {i T ix lt : Nat} (hs : SmP N) (h : askP N y i T ix lt = some N') (h1 : y.frm = (i : Int)) (h2 : i < N.n) (h3 : i ≠ N.id) (h4 : y.to_ = (N.id : Int)) (h5 : y.snap = []) (hkd : y.kind = 1) (hD : Holds D k N.st) (hk : 200 ≤ k) : ∃ D', Holds D' (k - 200) N'.st ∧ StepTo N D y N' D' := by
  unfold askP at h
  split at h
  · rename_i hc
    obtain ⟨q1, q2, q3, q4, q5, q6, q7, q8, q9⟩ := hc
    obtain rfl := Option.some.inj h
    obtain ⟨D1, hd1, hD1⟩ := hD.saveTerm T 0 (by omega) (by omega) (by omega)
    obtain ⟨D2, hd2, hD2⟩ := hD1.saveTerm T (i + 1) (by omega) (by have := hs.n; omega) (by omega)
    refine ⟨D2, hD2.mono (by omega), fun V W A c hn hE hO hR => ?_⟩
    have := step_ask (eA := A) (en := y.ents.length) (ec := c) hn hD.good hs.sm hs.b i h2 h3 T ix lt q7 (by omega) q9 (by have := hs.out; omega) hd1 hD1.good hd2
    rw [h1, h4, h5, hkd, q1, q2, q3, q4, q5]
    exact this
  · cases h
theorem vote_of {i : Nat} (hs : SmP N) (h : voteP N y i = some N') (h1 : y.frm = (i : Int)) (h2 : i < N.n) (h3 : i ≠ N.id) (h4 : y.to_ = (N.id : Int)) (h5 : y.snap = []) (hkd : y.kind = 2) (hD : Holds D k N.st) (hk : 200 ≤ k) : ∃ D', Holds D' (k - 200) N'.st ∧ StepTo N D y N' D' := by
  unfold voteP at h
  split at h
  · rename_i hc
    obtain ⟨q1, q2, q3, q4, q5, q6⟩ := hc
    split at h
    · rename_i hr
      obtain rfl := Option.some.inj h
      refine ⟨D, hD.mono (by omega), fun V W A c hn hE hO hR => ?_⟩
      have := step_vote_late (eA := A) (en := y.ents.length) (ec := c) hn hs.b hr i h2 h3
      rw [h1, h4, h5, hkd, q1, q2, q3, q4, q5]
      refine this.mono ?_
      rintro e w' ⟨rfl, h6, h7⟩
      exact ⟨rfl, V, h6, h7⟩
    · split at h
      · rename_i hv
        obtain ⟨hr, hv, ht⟩ := hv
        obtain rfl := Option.some.inj h
        have hS := hs.sm
        have hS' : ({ N with votes := N.votes.set i true } : Rn).Sm := ⟨hS.n, hS.id, hS.term, hS.base, hS.baseTerm, hS.snap, hS.log, hS.ents, hS.commit, hS.applied, hS.timer, hS.out, hS.mt, hS.nx, .inl (by show (N.votes.set i true).length = _; rw [List.length_set]; exact hv), hS.nxs, hS.mts⟩
        obtain ⟨D1, hd, hD1⟩ := hD.append (N.newEn []) (hs.newEn [] (by simp)) (by show 0 + 50 ≤ k; omega)
        refine ⟨D1, hD1.mono (by show k - 200 ≤ k - (0 + 50); omega), fun V W A c hn hE hO hR => ?_⟩
        rw [h1, h4, h5, hkd, q1, q2, q3, q4, q5]
        refine step_vote (eA := A) (en := y.ents.length) (ec := c) hn hs.b hr hv i h2 h3 _ fun W1 hW hT => ?_
        have := count_yes hW hD.good hS' (by show (N.votes.set i true).length = _; rw [List.length_set]; exact hv) ht (by have := hs.out; show N.out.length ≤ _; omega) (by have := hs.last; show N.st.last.1 < _; omega) (by have := hs.log; show N.st.log.length < _; omega) hd
        refine this.mono ?_
        rintro e w' ⟨rfl, V', h6, h7⟩
        exact ⟨rfl, V', h6, hT.trans h7⟩
      · cases h
  · cases h
theorem have_of {i ix : Nat} (hs : SmP N) (h : haveP N y i ix = some N') (h1 : y.frm = (i : Int)) (h2 : i < N.n) (h3 : i ≠ N.id) (h4 : y.to_ = (N.id : Int)) (h5 : y.snap = []) (hkd : y.kind = 4) (hD : Holds D k N.st) (hk : 200 ≤ k) : ∃ D', Holds D' (k - 200) N'.st ∧ StepTo N D y N' D' := by
  unfold haveP at h
  split at h
  · rename_i hc
    obtain ⟨q1, q2, q3, q4, q5, q6, q7, q8, q9, q10⟩ := hc
    obtain rfl := Option.some.inj h
    have hst : (N.has i ix).st = N.st := by unfold Rn.has; split <;> rfl
    refine ⟨D, by rw [hst]; exact hD.mono (by omega), fun V W A c hn hE hO hR => ?_⟩
    rw [h1, h4, h5, hkd, q1, q2, q3, q4, q5]
    refine step_have (eA := A) (en := y.ents.length) (ec := c) hn hs.b q7 i h2 h3 ix true _ fun W1 hW => ?_
    refine (onHave_yes (eA := A) (en := y.ents.length) (ec := c) (hn.grow hW) hs.sm q8 q9 i h2 ix q10 (by have := hs.last; omega) (by have := hs.out; omega) _ _ _ _ _).mono ?_
    rintro e w' ⟨rfl, V', h6, h7⟩
    exact ⟨rfl, V', h6, (NodeTo.grow V hW).trans h7⟩
  · cases h
theorem more_of {i ix lt cm : Nat} {pre post : List En} (hs : SmP N) (hl : y.ents = pre ++ post) (h : moreP N y i ix lt cm pre post = some N') (h1 : y.frm = (i : Int)) (h2 : i < N.n) (h3 : i ≠ N.id) (h4 : y.to_ = (N.id : Int)) (h5 : y.snap = []) (hkd : y.kind = 3) (hD : Holds D k N.st) (hk : 200 ≤ k) : ∃ D', Holds D' (k - 200) N'.st ∧ StepTo N D y N' D' := by
  unfold moreP at h
  split at h
  · rename_i hc
    obtain ⟨q1, q2, q3, q4, q5, q6, q7, q8, q9, q10, q11⟩ := hc
    obtain rfl := Option.some.inj h
    have hfit : ∀ e ∈ y.ents, e.Fit := fun e he => by
      have := q9 e he
      exact ⟨by omega, by omega, by omega⟩
    have hok : EnsOk y.ents := ⟨by omega, fun e he => (hfit e he).ok⟩
    have hpost : ∀ x r, post = x :: r → x.index = N.st.base + N.st.log.length + 1 := fun x r e => by
      rcases q11 with rfl | ⟨z, hz, hz1, hz2⟩
      · cases e
      · rw [e] at hz hz1
        obtain rfl : r = [] := List.length_eq_zero_iff.1 (by simpa using hz1)
        simp at hz
        rw [← hz]
        exact hz2
    obtain ⟨D1, hd, hD1⟩ : ∃ D1, ((post = [] ∧ D1 = D) ∨ (post ≠ [] ∧ D.appendLog post = (D1, 0))) ∧ Holds D1 (k - 200) { N.st with log := N.st.log ++ post } := by
      rcases q11 with rfl | ⟨z, hz, hz1, hz2⟩
      · exact ⟨D, .inl ⟨rfl, rfl⟩, by rw [List.append_nil]; exact hD.mono (by omega)⟩
      · obtain ⟨x, rfl⟩ := List.length_eq_one_iff.1 hz1
        have hx : x ∈ y.ents := by rw [hl]; simp
        obtain ⟨D1, hd, hD1⟩ := hD.append x (hfit x hx) (by have := q9 x hx; omega)
        exact ⟨D1, .inr ⟨by simp, hd⟩, hD1.mono (by have := q9 x hx; omega)⟩
    refine ⟨D1, hD1, fun V W A c hn hE hO hR => ?_⟩
    rw [h1, h4, h5, hkd, q1, q2, q3, q4, q5]
    exact step_more hn hD.good hs.sm hs.b i h2 h3 ix lt cm A c y.ents pre post hl hE hO (hR _ _ _ rfl) (by omega) hok q6 (by omega) q10 hpost (by have := hs.out; omega) hd
  · cases h
theorem step_of (h : stepP N y = some N') (hD : Holds D k N.st) (hk : 200 ≤ k) : y.to_ = (N.id : Int) ∧ ∃ D', Holds D' (k - 200) N'.st ∧ StepTo N D y N' D' := by
  unfold stepP at h
  split at h
  · rename_i hc
    obtain ⟨hs, h1, h2, h3, h4, h5⟩ := hc
    have h5 := List.length_eq_zero_iff.1 h5
    refine ⟨h4, ?_⟩
    split at h
    · rename_i hkd; exact ask_of hs h h1 h2 h3 h4 h5 hkd hD hk
    · split at h
      · rename_i hkd; exact vote_of hs h h1 h2 h3 h4 h5 hkd hD hk
      · split at h
        · rename_i hkd; exact have_of hs h h1 h2 h3 h4 h5 hkd hD hk
        · split at h
          · rename_i hkd; exact more_of hs (List.take_append_drop _ _).symm h h1 h2 h3 h4 h5 hkd hD hk
          · cases h
  · cases h
end

/-- A net of nodes that are all up, and a room that each disk has. -/
structure Sn where
  ns : List Rn
  way : List Mg
  k : Nat
def Sn.put (s : Sn) (i : Nat) (N : Rn) (way : List Mg) : Option Sn := if N.broken = 0 ∧ way.length + N.out.length ≤ 200 ∧ s.way.length ≤ 200 ∧ 200 ≤ s.k ∧ s.way.length + N.out.length ≤ 200 then some ⟨s.ns.set i { N with out := [] }, way ++ N.out, s.k - 200⟩ else none
def Sn.tick (i : Nat) (s : Sn) : Option Sn := (s.ns[i]?.bind tickP).bind fun N => s.put i N s.way
def Sn.prop (i : Nat) (cmd : List UInt8) (s : Sn) : Option Sn := (s.ns[i]?.bind fun N => propP N cmd).bind fun N => s.put i N s.way
def Sn.del (s : Sn) : Option Sn := s.way[0]?.bind fun y => (s.ns[y.to_.toNat]?.bind fun N => if N.id = y.to_.toNat then stepP N y else none).bind fun N => s.put y.to_.toNat N (s.way.eraseIdx 0)
def Sn.dels : Nat → Sn → Option Sn
  | 0, s => some s
  | m + 1, s => s.del.bind (Sn.dels m)
def Sn.ticks : Nat → Nat → Sn → Option Sn
  | 0, _, s => some s
  | m + 1, i, s => (s.tick i).bind (Sn.ticks m (i + 1))
def Sn.round (s : Sn) : Option Sn := (Sn.dels s.way.length s).bind (Sn.ticks s.ns.length 0)
def Sn.rounds : Nat → Sn → Option Sn
  | 0, s => some s
  | m + 1, s => s.round.bind (Sn.rounds m)
def startN (n : Nat) : List Rn := (List.range n).map fun i => Rn.opened i n Ts.zero
/-- The run of awake. -/
def awakeN : Option Sn := ((Sn.rounds 6 ⟨startN 3, [], 90000⟩).bind (Sn.prop 0 [120])).bind (Sn.rounds 3)
/-- A net's node leads alone. -/
def Sn.leads (s : Sn) (i : Nat) : Prop := ∀ j, j < s.ns.length → ((s.ns[j]?.map Rn.role) = some 2 ↔ j = i)
def awakeOk : Bool := match awakeN with
  | none => false
  | some s => s.ns.map Rn.role == [2, 0, 0] && s.ns.map Rn.commit == [2, 2, 2]
theorem awakeOk_true : awakeOk = true := by decide +kernel
end Go.Proofs.YtnlcipocobmgiaaGreatDoor
