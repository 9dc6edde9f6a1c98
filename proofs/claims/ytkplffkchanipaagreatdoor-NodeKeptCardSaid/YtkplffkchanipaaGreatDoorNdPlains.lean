/- Plain: a store over a disk of whatever luck: what Put, Drop, Sync, Compact and a crash make of both. -/
import Derived.Test.YtkplffkchanipaaGreatDoorChQuiet
namespace Go.Proofs.YtkplffkchanipaaGreatDoor
open Go.RowKit
variable {C C' : Ck} {D D' : Dk} {X : List (Nat × List UInt8)}

/-- A disk of another luck. -/
def Dk.arm (D : Dk) (a : Int) : Dk := { D with armed := a }
theorem Dk.put_arm (D : Dk) (a : Int) (n : List UInt8) (f : Fil) : (D.arm a).put n f = ((D.put n f).1.arm a, (D.put n f).2) := by
  by_cases h : D.room - D.used < f.weight - (lookF n D.files).weight
  · have h2 : (D.arm a).room - (D.arm a).used < f.weight - (lookF n (D.arm a).files).weight := h
    unfold Dk.put
    rw [if_pos h, if_pos h2]
  · have h2 : ¬ ((D.arm a).room - (D.arm a).used < f.weight - (lookF n (D.arm a).files).weight) := h
    unfold Dk.put
    rw [if_neg h, if_neg h2]
    rfl
/-- A try: the call fails, or luck is left. -/
theorem Dk.tries_two (h : D.lost = false) : (D.armed = 1 ∧ D.tries = (D.arm 0, 8)) ∨ ∃ a, (D.armed ≤ 0 → a = D.armed) ∧ a ≤ D.armed ∧ D.tries = (D.arm a, 0) := by
  have e : D.tries = if 0 < D.armed then ({ D with armed := D.armed - 1 }, if D.armed = 1 then 8 else 0) else (D, 0) := by
    unfold Dk.tries
    rw [if_neg (by rw [h]; simp)]
  rw [e]
  by_cases h0 : 0 < D.armed
  · by_cases h1 : D.armed = 1
    · exact .inl ⟨h1, by rw [if_pos h0, if_pos h1]; simp [Dk.arm, h1]⟩
    · exact .inr ⟨D.armed - 1, by omega, by omega, by rw [if_pos h0, if_neg h1]; rfl⟩
  · exact .inr ⟨D.armed, fun _ => rfl, Int.le_refl _, by rw [if_neg h0]; rfl⟩
theorem Dk.tries_calm (h : D.lost = false) : (D.arm 0).tries = (D.arm 0, 0) := by
  have h2 : (D.arm 0).lost = false := h
  unfold Dk.tries
  rw [h2]
  rfl
theorem Dk.append_luck (h : D.lost = false) (n x : List UInt8) : (D.armed = 1 ∧ D.append n x = (D.arm 0, 8)) ∨
    ∃ a, (D.armed ≤ 0 → a = D.armed) ∧ a ≤ D.armed ∧ D.append n x = (((D.arm 0).append n x).1.arm a, ((D.arm 0).append n x).2) := by
  rcases Dk.tries_two h with ⟨h1, h2⟩ | ⟨a, h1, h2, h3⟩
  · refine .inl ⟨h1, ?_⟩
    unfold Dk.append Dk.change
    rw [h2]
    simp
  · refine .inr ⟨a, h1, h2, ?_⟩
    unfold Dk.append Dk.change
    rw [h3, Dk.tries_calm h]
    simp only [ne_eq, not_true_eq_false, if_false]
    by_cases hn : n = []
    · rw [if_pos hn, if_pos hn]; rfl
    · rw [if_neg hn, if_neg hn]
      exact Dk.put_arm (D.arm 0) a n _
theorem Dk.sync_luck (h : D.lost = false) (n : List UInt8) : (D.armed = 1 ∧ D.sync n = (D.arm 0, 8)) ∨
    ∃ a, (D.armed ≤ 0 → a = D.armed) ∧ a ≤ D.armed ∧ D.sync n = (((D.arm 0).sync n).1.arm a, ((D.arm 0).sync n).2) := by
  rcases Dk.tries_two h with ⟨h1, h2⟩ | ⟨a, h1, h2, h3⟩
  · refine .inl ⟨h1, ?_⟩
    unfold Dk.sync
    rw [h2]
    simp
  · refine .inr ⟨a, h1, h2, ?_⟩
    unfold Dk.sync
    rw [h3, Dk.tries_calm h]
    simp only [ne_eq, not_true_eq_false, if_false]
    exact congrArg (fun q : Dk × Int => (q.1, (0 : Int))) (Dk.put_arm (D.arm 0) a n ⟨(lookF n D.files).now, (lookF n D.files).now⟩)
theorem Ck.put_luck (h : D.lost = false) (C : Ck) (f : List UInt8) : (D.armed = 1 ∧ C.put D f = (C, D.arm 0, zeroPl, 8)) ∨
    ∃ a, (D.armed ≤ 0 → a = D.armed) ∧ a ≤ D.armed ∧ C.put D f = ((C.put (D.arm 0) f).1, (C.put (D.arm 0) f).2.1.arm a, (C.put (D.arm 0) f).2.2) := by
  rcases Dk.append_luck h (segName C.seg) f with ⟨h1, h2⟩ | ⟨a, h1, h2, h3⟩
  · refine .inl ⟨h1, ?_⟩
    unfold Ck.put
    rw [h2]
    simp
  · refine .inr ⟨a, h1, h2, ?_⟩
    unfold Ck.put
    rw [h3]
    by_cases e : ((D.arm 0).append (segName C.seg) f).2 = 0
    · simp only [e, if_true]
    · simp only [e, if_false]
theorem Ck.sync_clean (h : C.dirty = false) (D : Dk) : C.sync D = (C, D, 0) := by
  unfold Ck.sync
  rw [h]
  simp
theorem Ck.add_luck (h : D.lost = false) (hc : C.dirty = false) (f : List UInt8) : (D.armed = 1 ∧ ∃ C1, C.add D f = (C1, D.arm 0, zeroPl, 8)) ∨
    ∃ a, (D.armed ≤ 0 → a = D.armed) ∧ a ≤ D.armed ∧ C.add D f = ((C.add (D.arm 0) f).1, (C.add (D.arm 0) f).2.1.arm a, (C.add (D.arm 0) f).2.2) := by
  unfold Ck.add
  rw [Ck.sync_clean hc, Ck.sync_clean hc]
  simp only [if_true]
  split
  · rcases Ck.put_luck h C.next f with ⟨h1, h2⟩ | h2
    · exact .inl ⟨h1, _, h2⟩
    · exact .inr h2
  · rcases Ck.put_luck h C f with ⟨h1, h2⟩ | h2
    · exact .inl ⟨h1, _, h2⟩
    · exact .inr h2
/-- What add leaves of the store's numbers. -/
theorem Ck.add_nums (hc : C.dirty = false) (D : Dk) (f : List UInt8) :
    ((C.add D f).2.2.2 ≠ 0 → (C.add D f).1.dirty = false) ∧ ((C.size : Int) + f.length ≤ C.limit → (C.add D f).1.seg = C.seg ∧ (C.add D f).1.size ≤ C.size + f.length) ∧
      (C.add D f).2.1.lost = D.lost := by
  have hl : ∀ C1 : Ck, (C1.put D f).2.1.lost = D.lost := fun C1 => by
    have h1 : (D.append (segName C1.seg) f).1.lost = D.lost := by
      unfold Dk.append Dk.change
      split
      · exact D.tries_alike.lost
      · split
        · exact D.tries_alike.lost
        · unfold Dk.put Dk.store
          split <;> exact D.tries_alike.lost
    unfold Ck.put
    split <;> exact h1
  have hp : ∀ C1 : Ck, C1.dirty = false → (C1.put D f).2.2.2 ≠ 0 → (C1.put D f).1.dirty = false := fun C1 h1 h2 => by
    unfold Ck.put at h2 ⊢
    split at h2
    · exact absurd rfl h2
    · rename_i e
      rw [if_neg e]
      exact h1
  have hq : ∀ C1 : Ck, (C1.put D f).1.seg = C1.seg ∧ (C1.put D f).1.size ≤ C1.size + f.length := fun C1 => by
    unfold Ck.put
    split
    · exact ⟨rfl, Nat.le_refl _⟩
    · exact ⟨rfl, Nat.le_add_right _ _⟩
  unfold Ck.add
  rw [Ck.sync_clean hc]
  simp only [if_true]
  split
  · rename_i hf
    refine ⟨hp C.next hc, fun h => ?_, hl _⟩
    exfalso
    simp only [Ck.full, Bool.and_eq_true, decide_eq_true_eq] at hf
    omega
  · exact ⟨hp C hc, fun _ => hq C, hl _⟩
theorem Ck.add_sure (h : D.Still) (hc : C.dirty = false) (f n : List UInt8) : (lookF n (C.add D f).2.1.files).sure = (lookF n D.files).sure := by
  have hput : ∀ C1 : Ck, (lookF n (C1.put D f).2.1.files).sure = (lookF n D.files).sure := fun C1 => by
    have : (lookF n (D.append (segName C1.seg) f).1.files).sure = (lookF n D.files).sure := by
      rcases h.append (segName C1.seg) (segName_ne _) f with ⟨_, h2⟩ | ⟨D', h1, _, _, _, h5, h6⟩
      · rw [h2]
      · rw [h1]
        by_cases e : n = segName C1.seg
        · subst e; simp only; rw [h5]
        · simp only; rw [h6 n e]
    unfold Ck.put
    split <;> exact this
  unfold Ck.add
  rw [Ck.sync_clean hc]
  simp only [if_true]
  split
  · exact hput _
  · exact hput _

/-- A store that has told its disk all, and the disk, of whatever luck. -/
structure Hot (C : Ck) (D : Dk) (X : List (Nat × List UInt8)) : Prop where
  inv : Inv C (D.arm 0) X
  clean : C.dirty = false
  armed : D.armed ≤ 4294967296
theorem Hot.sure (h : Hot C D X) : Sure C D X := (h.inv.sure h.clean).arm h.armed
theorem Hot.lost (h : Hot C D X) : D.lost = false := h.inv.dk.still.lost
theorem Hot.arm (h : Hot C D X) {a : Int} (ha : a ≤ 4294967296) : Hot C (D.arm a) X := ⟨h.inv, h.clean, ha⟩
/-- A disk as it lies when the node is down. -/
structure Cold (D : Dk) (X : List (Nat × List UInt8)) (k : Nat) : Prop where
  here : D.Here
  safe : D.Safe
  segs : ∀ i ∈ D.segs, i < k
  rep : D.replay 100 = X
theorem Cold.arm {k : Nat} (h : Cold D X k) {a : Int} (ha : a ≤ 4294967296) : Cold (D.arm a) X k :=
  ⟨⟨⟨⟨h.here.good.ok.room, h.here.good.ok.used, h.here.good.ok.fits, ha⟩, h.here.good.clean⟩, ⟨h.here.names.nodup, h.here.names.mem⟩, h.here.lost⟩, h.safe, h.segs, by rw [← h.rep]; exact Dk.replay_congr _ fun _ _ => rfl⟩
theorem Cold.mono {k k' : Nat} (h : Cold D X k) (hk : k ≤ k') : Cold D X k' := ⟨h.here, h.safe, fun i hi => Nat.lt_of_lt_of_le (h.segs i hi) hk, h.rep⟩
/-- What a step may make of a store's numbers and its disk's. -/
structure Grown (C : Ck) (D : Dk) (C' : Ck) (D' : Dk) (n : Nat) : Prop where
  limit : C'.limit = C.limit
  room : D'.room = D.room
  seg : C'.seg ≤ C.seg + 1
  luck : D.armed = 0 → D'.armed = 0
  used : D'.used ≤ D.used + n
  size : (C.size : Int) + n ≤ C.limit → C'.seg = C.seg ∧ C'.size ≤ C.size + n
/-- A store's disk, of which a crash leaves just what was durable. -/
theorem Hot.crash_sure (h : Hot C D X) (hs : C.seg + 1 < 100) (hg : D'.Good) (hN : D'.Names segNames) (hl : D'.lost = false) (hsu : ∀ n, (lookF n D'.files).sure = (lookF n D.files).sure) :
    Cold (D'.crash []) X (C.seg + 1) ∧ (D'.crash []).room = D'.room ∧ (D'.crash []).armed = D'.armed := by
  obtain ⟨a1, a2, a3, a4, a5, _, a7⟩ := Dk.crash_look hg hN []
  have hS := h.sure
  have hnow : ∀ i, (D'.crash []).now i = D.now i := fun i => by
    obtain ⟨st, h1, _, h3⟩ := a7 (segName i)
    unfold Dk.now
    rw [h1, h3 rfl, hsu, hS.safe]
  refine ⟨⟨⟨a1, a2, a3.trans hl⟩, fun n => ?_, fun i hi => ?_, ?_⟩, a5, a4⟩
  · obtain ⟨st, h1, _⟩ := a7 n
    rw [h1]
  · have h1 := segs_lt hi
    rw [hnow] at h1
    refine Decidable.byContradiction fun hge => ?_
    have := hS.above i (by omega) h1.1
    rw [this] at h1
    exact absurd h1.2 (by simp)
  · rw [Dk.replay_congr (D := D) 100 fun i _ => hnow i]
    exact hS.rep100 (by omega)
theorem Hot.crash (h : Hot C D X) (hs : C.seg + 1 < 100) (ch : List Int) : D.crash ch = D ∧ Cold D X (C.seg + 1) := by
  have hS := h.sure
  refine ⟨hS.safe.crash ch, hS.here, hS.safe, fun i hi => ?_, hS.rep100 (by omega)⟩
  have h1 := segs_lt hi
  refine Decidable.byContradiction fun hge => ?_
  have := hS.above i (by omega) h1.1
  rw [this] at h1
  exact absurd h1.2 (by simp)
/-- What Sync makes of a store that is not told yet. -/
theorem Inv.sync_luck (hI : Inv C D X) (a : Int) (ha : a ≤ 4294967296) :
    (a = 1 ∧ C.sync (D.arm a) = (C, D.arm 0, 8)) ∨ ∃ (D2 : Dk) (b : Int), (a ≤ 0 → b = a) ∧ b ≤ a ∧ C.sync (D.arm a) = ({ C with dirty := false }, D2.arm b, 0) ∧ Hot { C with dirty := false } (D2.arm b) X ∧ D2.room = D.room ∧ D2.used ≤ D.used := by
  have hl : (D.arm a).lost = false := hI.dk.still.lost
  obtain ⟨D2, h1, h2, h3, h4, h5⟩ := hI.sync
  have hD : D.arm 0 = D := by
    have := hI.dk.still.armed
    cases D
    simp only at this
    subst this
    rfl
  have e2 : ∀ (E : Dk) (b : Int), E.Still → (E.arm b).arm 0 = E := fun E b hE => by
    have := hE.armed
    cases E
    simp only at this
    subst this
    rfl
  cases hd : C.dirty with
  | false =>
    rw [Ck.sync_clean hd] at h1 ⊢
    simp only [Prod.mk.injEq] at h1
    refine .inr ⟨D2, a, fun _ => rfl, Int.le_refl _, by rw [← h1.1, h1.2.1], ⟨by rw [e2 _ _ h2.dk.still]; exact h2, rfl, ha⟩, h3, h4⟩
  | true =>
  unfold Ck.sync at h1 ⊢
  rw [if_pos hd] at h1 ⊢
  rcases Dk.sync_luck hl (segName C.seg) with ⟨b1, b2⟩ | ⟨b, b1, b2, b3⟩
  · rw [b2]
    exact .inl ⟨b1, by simp; rfl⟩
  · have e1 : (D.arm a).arm 0 = D := hD
    rw [e1] at b3
    rw [b3]
    refine .inr ⟨D2, b, b1, b2, ?_⟩
    by_cases e : (D.sync (segName C.seg)).2 = 0
    · rw [if_pos e] at h1
      simp only [Prod.mk.injEq] at h1
      rw [h1.2.1, e]
      refine ⟨by simp, ⟨?_, rfl, Int.le_trans b2 ha⟩, h3, h4⟩
      rw [e2 _ _ h2.dk.still]
      exact h2
    · rw [if_neg e] at h1
      simp only [Prod.mk.injEq] at h1
      exact absurd h1.2.2 e

end Go.Proofs.YtkplffkchanipaaGreatDoor
/- Plain: Put, Drop, Get, Compact of a store over a disk of whatever luck. -/
namespace Go.Proofs.YtkplffkchanipaaGreatDoor
open Go.RowKit
variable {C C' : Ck} {D D' : Dk} {X : List (Nat × List UInt8)}

theorem Dk.Still.arm0 (h : D.Still) (a : Int) : (D.arm a).arm 0 = D := by
  have := h.armed
  cases D
  simp only at this
  subst this
  rfl
theorem Dk.Good.arm (h : D.Good) {a : Int} (ha : a ≤ 4294967296) : (D.arm a).Good := ⟨⟨h.ok.room, h.ok.used, h.ok.fits, ha⟩, h.clean⟩
set_option maxHeartbeats 400000 in
theorem Ck.putK_luck (h : D.lost = false) (hc : C.dirty = false) (i : Nat) (d : List UInt8) : (D.armed = 1 ∧ ∃ C1, C.putK D i d = (C1, D.arm 0, 8)) ∨
    ∃ a, (D.armed ≤ 0 → a = D.armed) ∧ a ≤ D.armed ∧ C.putK D i d = ((C.putK (D.arm 0) i d).1, (C.putK (D.arm 0) i d).2.1.arm a, (C.putK (D.arm 0) i d).2.2) := by
  unfold Ck.putK
  rcases Ck.add_luck h hc (frame (encRec 1 i d)) with ⟨h1, C1, h2⟩ | ⟨a, h1, h2, h3⟩
  · rw [h2]
    split
    · exact .inr ⟨D.armed, fun _ => rfl, Int.le_refl _, rfl⟩
    · split
      · exact .inr ⟨D.armed, fun _ => rfl, Int.le_refl _, rfl⟩
      · exact .inl ⟨h1, C1, by simp⟩
  · rw [h3]
    split
    · exact .inr ⟨D.armed, fun _ => rfl, Int.le_refl _, rfl⟩
    · split
      · exact .inr ⟨D.armed, fun _ => rfl, Int.le_refl _, rfl⟩
      · refine .inr ⟨a, h1, h2, ?_⟩
        simp only
        split <;> rfl
set_option maxHeartbeats 400000 in
theorem Ck.dropK_luck (h : D.lost = false) (hc : C.dirty = false) (i : Nat) : (D.armed = 1 ∧ ∃ C1, C.dropK D i = (C1, D.arm 0, 8)) ∨
    ∃ a, (D.armed ≤ 0 → a = D.armed) ∧ a ≤ D.armed ∧ C.dropK D i = ((C.dropK (D.arm 0) i).1, (C.dropK (D.arm 0) i).2.1.arm a, (C.dropK (D.arm 0) i).2.2) := by
  unfold Ck.dropK
  rcases Ck.add_luck h hc (frame (encRec 2 i [])) with ⟨h1, C1, h2⟩ | ⟨a, h1, h2, h3⟩
  · rw [h2]
    split
    · exact .inr ⟨D.armed, fun _ => rfl, Int.le_refl _, rfl⟩
    · exact .inl ⟨h1, C1, by simp⟩
  · rw [h3]
    split
    · exact .inr ⟨D.armed, fun _ => rfl, Int.le_refl _, rfl⟩
    · refine .inr ⟨a, h1, h2, ?_⟩
      simp only
      split <;> rfl
set_option maxHeartbeats 400000 in
theorem Ck.putK_nums (h : D.Still) (hc : C.dirty = false) (i : Nat) (d : List UInt8) :
    ((C.putK D i d).2.2 ≠ 0 → (C.putK D i d).1.dirty = false) ∧ ((C.size : Int) + (frame (encRec 1 i d)).length ≤ C.limit → (C.putK D i d).1.seg = C.seg ∧ (C.putK D i d).1.size ≤ C.size + (frame (encRec 1 i d)).length) ∧
      ∀ n, (lookF n (C.putK D i d).2.1.files).sure = (lookF n D.files).sure := by
  obtain ⟨a1, a2, _⟩ := Ck.add_nums hc D (frame (encRec 1 i d))
  have a3 := fun n => Ck.add_sure h hc (frame (encRec 1 i d)) n
  unfold Ck.putK
  split
  · exact ⟨fun _ => hc, fun _ => ⟨rfl, Nat.le_add_right _ _⟩, fun _ => rfl⟩
  · split
    · exact ⟨fun _ => hc, fun _ => ⟨rfl, Nat.le_add_right _ _⟩, fun _ => rfl⟩
    · split
      · exact ⟨fun e => absurd rfl e, a2, a3⟩
      · exact ⟨a1, a2, a3⟩
set_option maxHeartbeats 400000 in
theorem Ck.dropK_nums (h : D.Still) (hc : C.dirty = false) (i : Nat) :
    ((C.dropK D i).2.2 ≠ 0 → (C.dropK D i).1.dirty = false) ∧ ((C.size : Int) + (frame (encRec 2 i [])).length ≤ C.limit → (C.dropK D i).1.seg = C.seg ∧ (C.dropK D i).1.size ≤ C.size + (frame (encRec 2 i [])).length) ∧
      ∀ n, (lookF n (C.dropK D i).2.1.files).sure = (lookF n D.files).sure := by
  obtain ⟨a1, a2, _⟩ := Ck.add_nums hc D (frame (encRec 2 i []))
  have a3 := fun n => Ck.add_sure h hc (frame (encRec 2 i [])) n
  unfold Ck.dropK
  split
  · exact ⟨fun _ => hc, fun _ => ⟨rfl, Nat.le_add_right _ _⟩, fun _ => rfl⟩
  · split
    · exact ⟨fun e => absurd rfl e, a2, a3⟩
    · exact ⟨a1, a2, a3⟩

/-- What a change of a store leaves: nothing; a disk that failed; a change that is told; one that could not be told. -/
def Steps (C : Ck) (D : Dk) (X X1 : List (Nat × List UInt8)) (n : Nat) (r : Ck × Dk × Int) : Prop :=
  (r.2.2 = 8 ∧ D.armed = 1 ∧ r.2.1.Here ∧ Cold (r.2.1.crash []) X (C.seg + 1) ∧ (r.2.1.crash []).room = D.room) ∨
  (r.2.2 = 7 ∧ Hot r.1 r.2.1 X ∧ Grown C D r.1 r.2.1 n ∧ D.room < D.used + n) ∨
  (r.2.2 = 0 ∧ r.2.1.Good ∧ 1 ≤ r.1.seg ∧ r.1.seg < 100 ∧
    (((r.1.sync r.2.1).2.2 = 8 ∧ 1 ≤ D.armed ∧ (r.1.sync r.2.1).2.1.Here ∧ Cold ((r.1.sync r.2.1).2.1.crash []) X (C.seg + 1) ∧ ((r.1.sync r.2.1).2.1.crash []).room = D.room) ∨
      ((r.1.sync r.2.1).2.2 = 0 ∧ Hot (r.1.sync r.2.1).1 (r.1.sync r.2.1).2.1 X1 ∧ Grown C D (r.1.sync r.2.1).1 (r.1.sync r.2.1).2.1 n)))
theorem Hot.steps (h : Hot C D X) (hs : C.seg + 1 < 100) {X1 : List (Nat × List UInt8)} {n : Nat} {f : Dk → Ck × Dk × Int} {F : List UInt8} (hF : F.length ≤ n)
    (hl : (D.armed = 1 ∧ ∃ C1, f D = (C1, D.arm 0, 8)) ∨ ∃ a, (D.armed ≤ 0 → a = D.armed) ∧ a ≤ D.armed ∧ f D = ((f (D.arm 0)).1, (f (D.arm 0)).2.1.arm a, (f (D.arm 0)).2.2))
    (hn : ((f (D.arm 0)).2.2 ≠ 0 → (f (D.arm 0)).1.dirty = false) ∧ ((C.size : Int) + F.length ≤ C.limit → (f (D.arm 0)).1.seg = C.seg ∧ (f (D.arm 0)).1.size ≤ C.size + F.length) ∧
      ∀ n, (lookF n (f (D.arm 0)).2.1.files).sure = (lookF n (D.arm 0).files).sure)
    (hf : ∃ C' D' e, f (D.arm 0) = (C', D', e) ∧ C.seg ≤ C'.seg ∧ C'.seg ≤ C.seg + 1 ∧ C'.limit = C.limit ∧ D'.room = (D.arm 0).room ∧
      ((e = 7 ∧ Inv C' D' X ∧ (D.arm 0).room < (D.arm 0).used + (n : Int) ∧ D'.used ≤ (D.arm 0).used) ∨ (e = 0 ∧ Inv C' D' X1 ∧ D'.used ≤ (D.arm 0).used + (n : Int)))) :
    Steps C D X X1 n (f D) := by
  have hH := h.sure.here
  have hA : ∀ a, (D.arm a).room = D.room ∧ (D.arm a).used = D.used := fun a => ⟨rfl, rfl⟩
  rcases hl with ⟨h1, C1, h2⟩ | ⟨a, h1, h2, h3⟩
  · left
    rw [h2]
    have hg : (D.arm 0).Good := hH.good.arm (by decide)
    have hN : (D.arm 0).Names segNames := ⟨hH.names.nodup, hH.names.mem⟩
    obtain ⟨c1, c2, _⟩ := h.crash_sure hs hg hN hH.lost fun _ => rfl
    exact ⟨rfl, h1, ⟨hg, hN, hH.lost⟩, c1, c2⟩
  · obtain ⟨C', D', e, p1, p2, p3, p4, p5, p6⟩ := hf
    rw [p1] at h3 hn
    rw [h3]
    obtain ⟨n1, n2, n3⟩ := hn
    have ha : a ≤ 4294967296 := Int.le_trans h2 h.armed
    have hlk : D.armed = 0 → a = 0 := fun e => by rw [h1 (by omega), e]
    have hsz : (C.size : Int) + n ≤ C.limit → C'.seg = C.seg ∧ C'.size ≤ C.size + n := fun e => by
      obtain ⟨m1, m2⟩ := n2 (by omega)
      have m2' : C'.size ≤ C.size + F.length := m2
      exact ⟨m1, by omega⟩
    have hr : D'.room = D.room := p5
    rcases p6 with ⟨rfl, q1, q2, q3⟩ | ⟨rfl, q1, q2⟩
    · right; left
      have q2' : D.room < D.used + (n : Int) := q2
      have q3' : D'.used ≤ D.used := q3
      exact ⟨rfl, ⟨by rw [q1.dk.still.arm0]; exact q1, n1 (show ¬ ((7 : Int) = 0) by decide), ha⟩, ⟨p4, hr, p3, hlk, by show D'.used ≤ _; omega, hsz⟩, q2'⟩
    · right; right
      have q2' : D'.used ≤ D.used + (n : Int) := q2
      refine ⟨rfl, q1.dk.still.good.arm ha, q1.dk.seg, by simp only; omega, ?_⟩
      rcases q1.sync_luck a ha with ⟨s1, s2⟩ | ⟨D2, b, s1, s2, s3, s4, s5, s6⟩
      · left
        simp only
        rw [s2]
        have hg : (D'.arm 0).Good := q1.dk.still.good.arm (by decide)
        have hN : (D'.arm 0).Names segNames := ⟨q1.dk.names.nodup, q1.dk.names.mem⟩
        obtain ⟨c1, c2, _⟩ := h.crash_sure hs hg hN q1.dk.still.lost fun n => n3 n
        exact ⟨rfl, by omega, ⟨hg, hN, q1.dk.still.lost⟩, c1, c2.trans hr⟩
      · right
        simp only
        rw [s3]
        refine ⟨rfl, s4, p4, (show D2.room = _ by rw [s5, hr]), p3, fun e => ?_, (show D2.used ≤ _ by omega), hsz⟩
        show b = 0
        rw [s1 (by rw [hlk e]; decide), hlk e]
/-- Put of a chunk that isn't there. -/
theorem Hot.putK (h : Hot C D X) (hs : C.seg + 1 < 100) {i : Nat} (hi : i < 18446744073709551616) {d : List UInt8} (hd : d.length ≤ 4000) (hn : lookX i X = none) :
    Steps C D X (putX (i, d) X) (d.length + 50) (C.putK D i d) := by
  obtain ⟨r1, r2⟩ := recs_enc (k := 1) (.inl rfl) hi hd
  obtain ⟨C', D', e, p1, p2, p3, p4, p5, p6⟩ := h.inv.putK hs hi hd
  refine h.steps hs (f := fun E => C.putK E i d) r2 (Ck.putK_luck h.lost h.clean i d) (Ck.putK_nums h.inv.dk.still h.clean i d) ⟨C', D', e, p1, p2, p3, p4, p5, ?_⟩
  rcases p6 with ⟨_, b1, _⟩ | ⟨rfl, b1, b2, b3, b4⟩ | ⟨rfl, b1, b2, b3⟩
  · rw [hn] at b1; cases b1
  · exact .inl ⟨rfl, b2, by omega, b4⟩
  · exact .inr ⟨rfl, b2, by omega⟩
/-- Drop of a chunk that is there. -/
theorem Hot.dropK (h : Hot C D X) (hs : C.seg + 1 < 100) {i : Nat} (hi : i < 18446744073709551616) (hn : (lookX i X).isSome = true) :
    Steps C D X (dropX i X) 50 (C.dropK D i) := by
  obtain ⟨r1, r2⟩ := recs_enc (k := 2) (d := []) (.inr rfl) hi (by simp)
  simp only [List.length_nil, Nat.zero_add] at r2
  obtain ⟨C', D', e, p1, p2, p3, p4, p5, p6⟩ := h.inv.dropK hs hi
  refine h.steps hs (f := fun E => C.dropK E i) r2 (Ck.dropK_luck h.lost h.clean i) (Ck.dropK_nums h.inv.dk.still h.clean i) ⟨C', D', e, p1, p2, p3, p4, p5, ?_⟩
  rcases p6 with ⟨_, b1, _⟩ | ⟨rfl, b1, b2, b3, b4⟩ | ⟨rfl, b1, b2, b3⟩
  · rw [b1] at hn; cases hn
  · exact .inl ⟨rfl, b2, by omega, b4⟩
  · exact .inr ⟨rfl, b2, by omega⟩
/-- Drop of a chunk that isn't there. -/
theorem Hot.dropK_none (h : Hot C D X) {i : Nat} (hn : lookX i X = none) : C.dropK D i = (C, D, 5) := by
  have hh := h.inv.has i
  rw [hn] at hh
  unfold Ck.dropK
  rw [hh]
  rfl
/-- Get of a chunk that is there. -/
theorem Hot.get (h : Hot C D X) {i : Nat} {d : List UInt8} (hi : lookX i X = some d) :
    (C.get D i = ([], 8) ∧ D.armed = 1 ∧ C.got D i = D.arm 0) ∨ ∃ a, C.get D i = (d, 0) ∧ C.got D i = D.arm a ∧ (D.armed = 0 → a = 0) ∧ a ≤ D.armed ∧ Hot C (D.arm a) X := by
  have hS := h.sure
  have hh := h.inv.has i
  rw [hi] at hh
  have hg : C.got D i = D.tries.1 := by
    unfold Ck.got
    rw [hh]
    rfl
  rw [hg]
  rcases Dk.tries_two h.lost with ⟨h1, h2⟩ | ⟨a, h1, h2, h3⟩
  · rcases hS.says.get_luck h.lost hi with ⟨_, k2⟩ | ⟨k1, _⟩
    · rw [h2] at k2; cases k2
    · exact .inl ⟨k1, h1, by rw [h2]⟩
  · rcases hS.says.get_luck h.lost hi with ⟨k1, _⟩ | ⟨_, k2⟩
    · exact .inr ⟨a, k1, by rw [h3], fun e => by rw [h1 (by omega), e], h2, h.arm (Int.le_trans h2 h.armed)⟩
    · rw [h3] at k2; cases k2
theorem Hot.get_none (h : Hot C D X) {i : Nat} (hi : lookX i X = none) : C.get D i = ([], 5) ∧ C.got D i = D := by
  have hh := h.inv.has i
  rw [hi] at hh
  refine ⟨Ck.get_none hh, ?_⟩
  unfold Ck.got
  rw [hh]
  rfl

theorem gatherL_alike {seg : Nat} : ∀ (is : List Nat) (D : Dk) (T : List UInt8) (M : List (Int × Pl)), D.Alike (gatherL C seg is D T M).2.2.1
  | [], D, _, _ => Dk.Alike.refl D
  | i :: is, D, T, M => by
    simp only [gatherL]
    split
    · exact C.got_alike D i
    · exact (C.got_alike D i).trans (gatherL_alike is _ _ _)
theorem Dk.tries_ne7 (D : Dk) : D.tries.2 ≠ 7 := by
  unfold Dk.tries
  split
  · exact (show ¬ ((14 : Int) = 7) by decide)
  · split
    · simp only
      split <;> decide
    · exact (show ¬ ((0 : Int) = 7) by decide)
theorem Dk.write_full (D : Dk) (n x : List UInt8) (h : (D.write n x).2 ≠ 0) : D.Alike (D.write n x).1 := by
  unfold Dk.write Dk.change at h ⊢
  split
  · exact D.tries_alike
  · rename_i h1
    rw [if_neg h1] at h
    split
    · exact D.tries_alike
    · rename_i h2
      rw [if_neg h2] at h
      unfold Dk.put at h ⊢
      split
      · exact D.tries_alike
      · rename_i h3
        rw [if_neg h3] at h
        exact absurd rfl h
theorem Dk.sync_ne7 (D : Dk) (n : List UInt8) : (D.sync n).2 ≠ 7 := by
  unfold Dk.sync
  split
  · exact D.tries_ne7
  · simp
theorem Dk.remove_ne7 (D : Dk) (ns : List (List UInt8)) : (D.remove ns).2 ≠ 7 := by
  unfold Dk.remove
  split
  · exact D.tries_ne7
  · simp
theorem Dk.syncs_ne7 (D : Dk) (ns : List (List UInt8)) : (D.syncs ns).2 ≠ 7 := by
  unfold Dk.syncs
  split
  · exact D.tries_ne7
  · simp
/-- A Compact that finds no room changes nothing. -/
theorem Sure.compact_full (h : Sure C D X) (h7 : (C.compact D).2.2 = 7) : D.Alike (C.compact D).2.1 := by
  unfold Ck.compact at h7 ⊢
  rw [h.sync_same] at h7 ⊢
  simp only [ne_eq, not_true_eq_false, if_false] at h7 ⊢
  have hga : D.Alike (C.gather (C.seg + 1) D).2.2.1 := gatherL_alike _ _ _ _
  split
  · exact hga
  · rename_i h0
    rw [if_neg h0] at h7
    generalize (C.gather (C.seg + 1) D).2.2.1 = E at *
    refine hga.trans ?_
    unfold Ck.finish at h7 ⊢
    split
    · exact E.tries_alike
    · rename_i h1
      rw [if_neg h1] at h7
      split
      · rename_i h2
        exact E.tries_alike.trans (Dk.write_full _ _ _ h2)
      · rename_i h2
        rw [if_neg h2] at h7
        split
        · rename_i h3
          rw [if_pos h3] at h7
          exact absurd h7 (Dk.sync_ne7 _ _)
        · rename_i h3
          rw [if_neg h3] at h7
          split
          · rename_i h4
            rw [if_pos h4] at h7
            cases h7
          · rename_i h4
            rw [if_neg h4] at h7
            split
            · rename_i h5
              rw [if_pos h5] at h7
              exact absurd h7 (Dk.remove_ne7 _ _)
            · rename_i h5
              rw [if_neg h5] at h7
              exact absurd h7 (Dk.syncs_ne7 _ _)
/-- A crash of a disk that keeps some chunks. -/
theorem Cold.of_keeps {k : Nat} (hH : D.Here) (hK : D.Keeps X) (hn : ∀ i, k < i → i < 100 → lookF (segName i) D.files = Fil.none_) (ch : List Int) :
    Cold (D.crash ch) X (k + 1) ∧ (D.crash ch).room = D.room ∧ (D.crash ch).armed = D.armed := by
  obtain ⟨a1, a2, a3, a4, a5, _, a7⟩ := Dk.crash_look hH.good hH.names ch
  refine ⟨⟨⟨a1, a2, a3.trans hH.lost⟩, fun n => ?_, fun i hi => ?_, hK _ fun n => ?_⟩, a5, a4⟩
  · obtain ⟨st, h1, _⟩ := a7 n
    rw [h1]
  · have h1 := segs_lt hi
    refine Decidable.byContradiction fun hge => ?_
    obtain ⟨st, h2, h3, _⟩ := a7 (segName i)
    rw [hn i (by omega) h1.1] at h3
    have h4 := may_safe (f := Fil.none_) rfl h3
    have h5 := h1.2
    unfold Dk.now at h5
    rw [h2, h4] at h5
    cases h5
  · obtain ⟨st, h2, h3, _⟩ := a7 n
    exact ⟨st, h2, h3⟩
/-- Compact. -/
theorem Hot.compact (h : Hot C D X) (hf : FitX X) (hb : X.length ≤ 1000) (hs : C.seg + 2 < 100) :
    (C.compact D).2.1.Here ∧ ((C.compact D).2.2 = 8 ∧ D.armed ≠ 0 ∧ Cold ((C.compact D).2.1.crash []) X (C.seg + 2) ∧ ((C.compact D).2.1.crash []).room = D.room ∨
      ((C.compact D).2.2 = 7 ∨ (C.compact D).2.2 = 0) ∧ Hot (C.compact D).1 (C.compact D).2.1 X ∧ (C.compact D).1.seg ≤ C.seg + 2 ∧ (C.compact D).1.limit = C.limit ∧ (C.compact D).2.1.room = D.room ∧ (D.armed = 0 → (C.compact D).2.1.armed = 0)) := by
  have hS := h.sure
  obtain ⟨c1, c2, c3, c4, c5⟩ := hS.compact hf hb hs
  have hq : D.armed = 0 → (C.compact D).2.1.Quiet ∧ (C.compact D).2.2 ≠ 8 := fun e => hS.quiet ⟨h.lost, e⟩
  have hne := fun i => hS.compact_ne (i := i)
  have h7 := hS.compact_full
  generalize C.compact D = r at *
  refine ⟨c1, ?_⟩
  have hlk : D.armed = 0 → r.2.1.armed = 0 := fun e => (hq e).1.armed
  rcases c5 with c5 | ⟨e1, e2, e3, e4⟩ | ⟨e1, e2, e3, e4, e5, e6, e7⟩
  · obtain ⟨k1, k2, _⟩ := Cold.of_keeps (k := C.seg + 1) c1 c3 (fun i p q => hne i p q) []
    exact .inl ⟨c5, fun e => (hq e).2 c5, k1, k2.trans c2⟩
  · right
    have hal := h7 e1
    have hD : r.2.1.arm 0 = D.arm 0 := by
      have a1 := hal.files
      have a2 := hal.room
      have a3 := hal.used
      have a4 := hal.lost
      unfold Dk.arm
      rw [a1, a2, a3, a4]
    exact ⟨.inl e1, ⟨by rw [e2, hD]; exact h.inv, by rw [e2]; exact h.clean, c1.good.ok.armed⟩, by rw [e2]; omega, by rw [e2], c2, hlk⟩
  · right
    have hS2 : Sure r.1 (r.2.1.arm 0) X := e2.arm (by decide)
    refine ⟨.inr e1, ⟨hS2.inv ⟨c1.lost, rfl⟩ e4 ?_, e2.clean, c1.good.ok.armed⟩, by omega, e5, c2, hlk⟩
    cases ht : ((r.2.1.arm 0).now r.1.seg).there
    · rfl
    · have hm : r.1.seg ∈ r.2.1.segs := List.mem_filter.2 ⟨List.mem_range.2 (by omega), ht⟩
      rw [e6] at hm
      simp only [List.mem_cons, List.not_mem_nil, or_false] at hm
      omega
/-- Compact, with room enough, of a store of a disk that doesn't fail. -/
theorem Hot.compact_ok (h : Hot C D X) (ha : D.armed = 0) (hf : FitX X) (hb : X.length ≤ 1000) (hs : C.seg + 2 < 100) (hr : D.used + (frames (exactC X)).length ≤ D.room) :
    (C.compact D).2.2 = 0 ∧ (C.compact D).1.seg = C.seg + 2 ∧ (C.compact D).1.size = 0 ∧ (C.compact D).2.1.used = (frames (exactC X)).length := by
  obtain ⟨a1, _, a3, a4, _, _, a7, _⟩ := h.sure.compact_ok ⟨h.lost, ha⟩ hf hb hs hr
  exact ⟨a1, a3, a4, a7⟩

end Go.Proofs.YtkplffkchanipaaGreatDoor
