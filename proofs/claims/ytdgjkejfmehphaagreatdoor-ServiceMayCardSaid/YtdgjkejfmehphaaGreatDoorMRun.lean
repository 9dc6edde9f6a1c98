/- ServiceMay's runs: what operations give at its unknown values. -/
import Derived.Test.YtdgjkejfmehphaaGreatDoorMTold4
set_option linter.unusedVariables false
noncomputable section
namespace Go.Proofs.YtdgjkejfmehphaaGreatDoor.Av
open Go Go.RowKit
/-- Is it a comparison of a blob's number with 0? -/
def isId (o : Op) (vals : List AV) : Bool := match o with
  | .binOp .eql _ _ _ _ => (match vals with
    | [.sp (.a n), .int .u64 (.ofNat m)] => cnd (Nat.beq n 0) (Nat.beq m 0) false
    | _ => false)
  | _ => false
/-- What operations give: besides, a blob's number isn't 0. -/
noncomputable def hX (bd : Bds) (o : Op) (vals : List AV) : Option AV := cnd (isId o vals) (some (.bool false)) (spH tT bd o vals)
noncomputable def ttM (bd : Bds) : TT := ⟨tT, some (hX bd)⟩
theorem tsM_ok {p : Mp} {bd : Bds} (hb : BdOk (fun n => (p.A n).length) bd) : TSok P (spM p) (ttM bd) := by
  refine ⟨fun t i h => tt_ok t i h, fun h hh o vals v hv => ?_⟩
  injection hh with hh
  subst hh
  unfold hX at hv
  rcases cnd_eq hv with ⟨h1, h2⟩ | ⟨_, h2⟩
  · injection h2 with h2
    subst h2
    obtain ⟨dst, op, ty, pos, after, guard⟩ := o
    simp only at h1
    unfold isId at h1
    split at h1
    · rename_i t1 x y t2
      refine ⟨rfl, fun ρ e w hI hvs => ?_⟩
      split at h1
      · rename_i n m
        obtain ⟨h3, h4⟩ := and_cnd h1
        obtain rfl := Nat.eq_of_beq_eq_true h3
        obtain rfl := Nat.eq_of_beq_eq_true h4
        have hvs : VRs e [_, _] [ρ x, ρ y] := hvs
        cases hvs with
        | cons _ _ _ _ k1 k2 => cases k2 with
          | cons _ _ _ _ k3 k4 =>
          have hx := O_id (oth_val hI k1)
          have hna : ∀ l, ρ x ≠ .agg l := by
            rintro l hl
            rw [hl] at hx
            cases hx
          have hg := guard_ok (P := P) (w := w) (op := .eql) (t := t1) (ox := x) (oy := y) (y' := ρ y) k1 (fun hn => by cases hn) hna
          refine ⟨.bool false, ?_, .bool _⟩
          have r1 : (binOp .eql t1 (ρ x) (ρ y)).run P w = .ok (.bool false) w := by
            have hy : ρ y = .int .u64 0 := by
              generalize ρ y = z at k3
              cases k3
              rfl
            have hne : ((p.id : Int) == 0) = false := by
              rw [beq_eq_false_iff_ne]
              unfold Mp.id
              omega
            rw [hx, hy]
            simp [binOp, Op.intCmp, hne]
          show (do let v ← (do eqGuard .eql t1 x y (ρ x) (ρ y); binOp .eql t1 (ρ x) (ρ y) : Sem Value); pure (Next.value v)).run P w = _
          simp only [Sem.run_bind, hg, Result.andThen_ok, r1, Sem.run_pure]
      · cases h1
    · cases h1
  · exact (spH_ok (t := tT) (bd := bd) (fun t i h => tt_ok t i h) hb) _ rfl o vals v h2
/-- The bounds: name, its cut, data, its cut, the chunk's frame, the command, the entry's frame, the client, a number. -/
def bdsM (n1 n2 d1 d2 c1 c2 k1 k2 : Nat) : Bds := [(0, 140737488351232), (n1, n2), (0, 140737488351232), (d1, d2), (8, 5100), (1, 110), (1, 200), (c1, c2), (k1, k2)]
noncomputable def law (bd : Bds) (fs : List AV) (put : Bool) (args : List AV) (ty : Nat → Nat) : RV := evF (told fs put) (ttM bd) ft 3000 3 args (s0 ty)
/-- Does the law say true? -/
noncomputable def says (bd : Bds) (fs : List AV) (put : Bool) (args : List AV) (ty : Nat → Nat) : Bool := okV false (law bd fs put args ty) fun v _ => v.eqb T
theorem may_of_run {p : Mp} {bd : Bds} {fs : List AV} {put : Bool} {args : List AV} {args' : List Value} {W : World} {ty : Nat → Nat} (hp : p.Ok) (hf : FldOk p fs put) (hb : BdOk (fun n => (p.A n).length) bd) (hT : Tabs W ty)
    (hv : ∀ e, e.I = spM p → VRs e args args') (h : says bd fs put args ty = true) : Calls P 3 args'.toArray W fun x w' => x = .returned (.bool true) ∧ Below W.heap.size W w' := by
  obtain ⟨h1, h2⟩ := start_rel hT (spM p)
  obtain ⟨v, σ, h3, h4⟩ := okV_eq (show okV false (law bd fs put args ty) (fun v _ => v.eqb T) = true from h) (by simp)
  obtain rfl := AV.eqb_eq h4
  refine (evF_ok (tsM_ok hb) ft_ok (told_ok hp hf) mixed_ok h3 h1 h2 (hv _ rfl)).mono fun x w' hx => ?_
  cases x with
  | returned v' =>
    obtain ⟨e', q1, q2⟩ := hx
    cases q1
    exact ⟨rfl, start_below q2⟩
  | panicked => exact hx.elim
  | outgrown => exact hx.elim
/-- What the client, the number, name and data are to the evaluator. -/
def aC : AV := .sp (.i 0 [0, 0, 0, 0, 0, 0, 0, 1])
def aK (c n : Int) : AV := .sp (.i c [0, 0, 0, 0, 0, 0, 0, 0, n])
def aN : AV := .sp (.s [.at 0])
def aNc : AV := .sp (.s [.at 1])
def aD : AV := .sp (.s [.at 2])
def u0 : AV := .int .u64 (.ofNat 0)
def w0 : AV := .int .u32 (.ofNat 0)
def fldO (k : Nat) (nm : AV) : List AV := [.int .i64 (.ofNat k), aC, i1, nm, u0, i0, w0]
def fldP : List AV := [i1, aC, i1, aNc, .sp (.a 0), .sp (.i 0 [0, 0, 0, 1]), .sp (.a 1)]
theorem lin8 {p : Mp} (c : Int) (n : Int) : linV (fun n => (p.A n).length) c [0, 0, 0, 0, 0, 0, 0, 0, n] = c + n * (p.k : Int) := by
  have h2 : (p.A 8).length = p.k := by show (List.replicate p.k 0).length = p.k; simp
  show c + 0 * ((p.A 0).length : Int) + 0 * ((p.A 1).length : Int) + 0 * ((p.A 2).length : Int) + 0 * ((p.A 3).length : Int) + 0 * ((p.A 4).length : Int) + 0 * ((p.A 5).length : Int) + 0 * ((p.A 6).length : Int) + 0 * ((p.A 7).length : Int) + n * ((p.A 8).length : Int) = _
  rw [h2]
  simp
theorem lin3 {p : Mp} : linV (fun n => (p.A n).length) 0 [0, 0, 0, 1] = (p.datc.length : Int) := by
  have h := linV_unit 0 3 fun n => (p.A n).length
  have h2 : (p.A 3).length = p.datc.length := by show (p.datc.map UInt8.toNat).length = _; simp
  rw [h2, Int.zero_add] at h
  exact h
theorem bd_ok {p : Mp} (hp : p.Ok) (hn : p.nm.length ≤ 140737488351232) (hd : p.dat.length ≤ 140737488351232) {n1 n2 d1 d2 c1 c2 k1 k2 : Nat} (h1 : n1 ≤ (p.nm.take 40).length ∧ (p.nm.take 40).length ≤ n2) (h2 : d1 ≤ p.datc.length ∧ p.datc.length ≤ d2) (h3 : c1 ≤ p.c ∧ p.c ≤ c2) (h4 : k1 ≤ p.k ∧ p.k ≤ k2) :
    BdOk (fun n => (p.A n).length) (bdsM n1 n2 d1 d2 c1 c2 k1 k2) := fun i b hb => by
  have hi : i < 9 := by
    rcases Nat.lt_or_ge i 9 with h | h
    · exact h
    · rw [List.getElem?_eq_none (by simpa [bdsM] using h)] at hb; cases hb
  have e1 := encC1_len hp.cm
  have e2 := encC2_len hp.cm
  have e3 := List.length_pos_iff.2 (encC_ne p.cm)
  have e4 : (encC p.cm).length = (encC1 p.cm).length + (encC2 p.cm).length := by simp [encC]
  match i, hi with
  | 0, _ => injection hb with hb; subst hb; exact ⟨Nat.zero_le _, by show (p.nm.map UInt8.toNat).length ≤ _; rw [List.length_map]; exact hn⟩
  | 1, _ => injection hb with hb; subst hb; show n1 ≤ ((p.nm.take 40).map UInt8.toNat).length ∧ ((p.nm.take 40).map UInt8.toNat).length ≤ n2; rw [List.length_map]; exact h1
  | 2, _ => injection hb with hb; subst hb; exact ⟨Nat.zero_le _, by show (p.dat.map UInt8.toNat).length ≤ _; rw [List.length_map]; exact hd⟩
  | 3, _ => injection hb with hb; subst hb; show d1 ≤ (p.datc.map UInt8.toNat).length ∧ (p.datc.map UInt8.toNat).length ≤ d2; rw [List.length_map]; exact h2
  | 4, _ =>
    injection hb with hb
    subst hb
    show 8 ≤ (p.fr.map UInt8.toNat).length ∧ (p.fr.map UInt8.toNat).length ≤ 5100
    rw [List.length_map]
    refine ⟨fr_len p, ?_⟩
    have q1 := encU_len 1 (by omega)
    have q2 := encU_len p.id (id_lt hp)
    have q3 : p.datc.length ≤ 5000 := by unfold Mp.datc; rw [List.length_take]; omega
    have q4 := encU_len p.datc.length (by omega)
    unfold Mp.fr
    rw [frame_len]
    simp only [encRec, encS, List.length_append]
    omega
  | 5, _ =>
    injection hb with hb
    subst hb
    show 1 ≤ ((encC p.cm).map UInt8.toNat).length ∧ ((encC p.cm).map UInt8.toNat).length ≤ 110
    rw [List.length_map]
    omega
  | 6, _ =>
    injection hb with hb
    subst hb
    show 1 ≤ ((frs [p.ent]).map UInt8.toNat).length ∧ ((frs [p.ent]).map UInt8.toNat).length ≤ 200
    have q0 : (frs [p.ent]).length = (encE p.ent).length + 8 := by simp [frs, frame_len]
    have q1 := encU_len 2 (by omega)
    have q2 := encU_len 1 (by omega)
    have q3 := encU_len (encC p.cm).length (by omega)
    rw [List.length_map, q0]
    simp only [encE, encS, Mp.ent, List.length_append]
    omega
  | 7, _ => injection hb with hb; subst hb; show c1 ≤ (List.replicate p.c 0).length ∧ (List.replicate p.c 0).length ≤ c2; rw [List.length_replicate]; exact h3
  | 8, _ => injection hb with hb; subst hb; show k1 ≤ (List.replicate p.k 0).length ∧ (List.replicate p.k 0).length ≤ k2; rw [List.length_replicate]; exact h4
end Go.Proofs.YtdgjkejfmehphaaGreatDoor.Av
end
