/- glacierlaw22.awake: a closed run. -/
import Derived.Test.YtpnoiagjgkajdaaGreatDoorWTold0
import Derived.Below
import Derived.KernelRfl
set_option linter.unusedVariables false
noncomputable section
namespace Go.Proofs.YtpnoiagjgkajdaaGreatDoor.Av
open Go Go.RowKit
/-- The two tables' numbers. -/
def tab0 : List Nat := [0, 498536548, 997073096, 651767980, 1994146192, 1802195444, 1303535960, 1342533948, 3988292384, 4027552580, 3604390888, 3412177804, 2607071920, 2262029012, 2685067896, 3183342108]
def tab1 : List Nat := [1, 10, 100, 1000, 10000, 100000, 1000000, 10000000, 100000000, 1000000000, 10000000000, 100000000000, 1000000000000, 10000000000000, 100000000000000, 1000000000000000, 10000000000000000, 100000000000000000, 1000000000000000000, 10000000000000000000]
def tabO (k : IntKind) (l : List Nat) (t : Nat) : AO := .cells (l.map fun n => .int k (.ofNat n)) t true none
/-- The heap at the start: the tables (their blocks' types are known to nobody). -/
def h0 (ty : Nat → Nat) : Tr AO := Tr.put (Tr.put .nil 0 (some (tabO .u32 tab0 (ty 0)))) 1 (some (tabO .u64 tab1 (ty 1)))
def s0 (ty : Nat → Nat) : AH := .mk (h0 ty) 16 1 .nil
def T : AV := .bool true
def ttN : TT := ⟨tT, none⟩
/-- The program's tables. -/
structure Tabs (w : World) (ty : Nat → Nat) : Prop where
  a : ∃ rest fr, w.heap[0]? = some (.cells ((tab0.map fun (n : Nat) => Value.int .u32 (n : Int)) ++ rest).toArray (ty 0) fr)
  b : ∃ rest fr, w.heap[1]? = some (.cells ((tab1.map fun (n : Nat) => Value.int .u64 (n : Int)) ++ rest).toArray (ty 1) fr)
  sz : 4 ≤ w.heap.size
theorem Tabs.below {w w' : World} {ty : Nat → Nat} (h : Tabs w ty) (hb : Below w.heap.size w w') : Tabs w' ty := by
  have hs := h.sz
  obtain ⟨⟨r0, f0, h0⟩, ⟨r1, f1, h1⟩, _⟩ := h
  exact ⟨⟨r0, f0, (hb.block 0 (by omega)).trans h0⟩, ⟨r1, f1, (hb.block 1 (by omega)).trans h1⟩, Nat.le_trans hs hb.size⟩
theorem tab_or {k : IntKind} {l : List Nat} {t b : Nat} {w : World} {e : Env} (h : ∃ rest fr, w.heap[b]? = some (.cells ((l.map fun (n : Nat) => Value.int k (n : Int)) ++ rest).toArray t fr)) : OR e w b (tabO k l t) := by
  obtain ⟨rest, fr, h⟩ := h
  refine ⟨l.map fun (n : Nat) => Value.int k (n : Int), rest, fr, h, ?_, fun x hx => ?_, fun hf => (by cases hf), fun c s hc => by cases hc⟩
  · clear h
    induction l with
    | nil => exact .nil
    | cons n l ih => exact .cons _ _ _ _ (.int k _) ih
  · obtain ⟨n, _, rfl⟩ := List.mem_map.1 hx
    rfl
theorem s0_get (ty : Nat → Nat) (l : Nat) : (s0 ty).hp.get l = if l = 1 then some (tabO .u64 tab1 (ty 1)) else if l = 0 then some (tabO .u32 tab0 (ty 0)) else none := by
  show (h0 ty).get l = _
  unfold h0
  rw [Tr.get_put, Tr.get_put]
  rfl
theorem s0_lt {ty : Nat → Nat} {l : Nat} (hl : ((s0 ty).hp.get l).isSome = true) : l < 2 := by
  rw [s0_get] at hl
  rcases Nat.lt_or_ge l 2 with h1 | h1
  · exact h1
  · rw [if_neg (by omega), if_neg (by omega)] at hl
    cases hl
def e0 (I : SX → Value → Prop) : Env := ⟨fun l => if l < 4 then some l else none, fun _ => none, I⟩
theorem start_rel {W : World} {ty : Nat → Nat} (h : Tabs W ty) (I : SX → Value → Prop) : Rel (e0 I) (s0 ty) W ∧ Glob 4 I (e0 I) := by
  have hs := h.sz
  refine ⟨⟨fun l o ho => ?_, fun l l' b hl1 hl2 hb hb' => ?_, fun l hn => ?_, fun q _ => rfl, fun q x hx => (by cases hx), fun l b hb => ?_, Nat.le_refl 16⟩, ⟨fun n hn => if_pos hn, rfl⟩⟩
  · have h4 := s0_lt (ty := ty) (l := l) (by rw [ho]; rfl)
    refine ⟨l, if_pos (by omega), ?_⟩
    rw [s0_get] at ho
    have h5 : l = 0 ∨ l = 1 := by omega
    rcases h5 with rfl | rfl
    · injection ho with ho; subst ho; exact tab_or h.a
    · injection ho with ho; subst ho; exact tab_or h.b
  · have h1 := s0_lt hl1
    have h2 := s0_lt hl2
    have hb : (if l < 4 then some l else none) = some b := hb
    have hb' : (if l' < 4 then some l' else none) = some b := hb'
    rw [if_pos (by omega)] at hb hb'
    injection hb with hb
    injection hb' with hb'
    omega
  · have hn : 16 ≤ l := hn
    exact if_neg (by omega)
  · have hb : (if l < 4 then some l else none) = some b := hb
    split at hb
    · injection hb with hb; omega
    · cases hb
/-- A run from the start leaves all old blocks alone. -/
theorem start_below {W w' : World} {ty : Nat → Nat} {I : SX → Value → Prop} {e' : Env} {σ' : AH} (k : Step (e0 I) (s0 ty) W e' σ' w') : Below W.heap.size W w' :=
  ⟨k.os, k.tape, k.output, k.size, fun b hb => k.frame b hb fun l hl hs _ => by have := s0_lt hs; omega⟩
def okV {α : Type} (d : α) (r : RV) (k : AV → AH → α) : α := RV.rec (motive := fun _ => α) (fun v σ => k v σ) (fun _ _ _ => d) r
theorem okV_eq {α : Type} {d y : α} {r : RV} {k : AV → AH → α} (h : okV d r k = y) (hd : d ≠ y) : ∃ v σ, r = .ok v σ ∧ k v σ = y := by
  cases r with
  | ok v σ => exact ⟨v, σ, rfl, h⟩
  | bad => exact absurd h hd
theorem awake_run (ty : Nat → Nat) : okV false (evF told0 ttN ft 3000 5 [] (s0 ty)) (fun v _ => v.eqb T) = true := by kernel_rfl
theorem tsN_ok (I : SX → Value → Prop) : TSok P I ttN := ⟨fun t i h => tt_ok t i h, fun h hh => by cases hh⟩
theorem awake_calls {w : World} {ty : Nat → Nat} (h : Tabs w ty) : Calls P 5 #[] w fun x w' => x = .returned (.bool true) ∧ Below w.heap.size w w' := by
  obtain ⟨h1, h2⟩ := start_rel h fun _ _ => False
  obtain ⟨v, σ, h3, h4⟩ := okV_eq (awake_run ty) (by simp)
  obtain rfl := AV.eqb_eq h4
  refine (evF_ok (tsN_ok _) ft_ok (told0_ok _) mixed_ok h3 h1 h2 .nil).mono fun x w' hx => ?_
  cases x with
  | returned v' =>
    obtain ⟨e', q1, q2⟩ := hx
    cases q1
    exact ⟨rfl, start_below q2⟩
  | panicked => exact hx.elim
  | outgrown => exact hx.elim
end Go.Proofs.YtpnoiagjgkajdaaGreatDoor.Av
end
