/- The contract of chunk.parse. -/
import Derived.Test.YtkplffkchanipaaGreatDoorChRec
import Derived.Test.YtkplffkchanipaaGreatDoorCodecs
import Derived.Deep.RegionHeld3
import Derived.Deep.RegionWith
namespace Go.Proofs.YtkplffkchanipaaGreatDoor
open Go.RowKit
attribute [local go_sem] size_bs bs_append

/-- What contents say: the record; false: they are none. -/
def parseF (s : List UInt8) : Nat × Nat × List UInt8 × Bool :=
  let a := (Ds.mk s 0 0).u
  let b := a.2.u
  let c := b.2.str s.length
  (a.1, b.1, c.1, decide (c.2.done.err = 0) && (decide (1 ≤ a.1) && decide (a.1 ≤ 3)))

set_option maxRecDepth 100000 in
set_option linter.unusedSimpArgs false in
set_option maxHeartbeats 800000 in
theorem parse_calls (s : List UInt8) (hs : s.length ≤ 1000000000) (w : World) :
    Calls Tryz.prog 63 #[.string (bs s)] w fun e w' => e = .returned (.tuple #[.agg #[.int .u64 ((parseF s).1 : Int), .int .u64 ((parseF s).2.1 : Int), .string (bs (parseF s).2.2.1)], .bool (parseF s).2.2.2]) ∧ Keep [] w w' := by
  have hr : parseF s = ((Ds.mk s 0 0).u.1, (Ds.mk s 0 0).u.2.u.1, ((Ds.mk s 0 0).u.2.u.2.str s.length).1, decide (((Ds.mk s 0 0).u.2.u.2.str s.length).2.done.err = 0) && (decide (1 ≤ (Ds.mk s 0 0).u.1) && decide ((Ds.mk s 0 0).u.1 ≤ 3))) := rfl
  have C1 := fun (W : World) (g : Nat) (hW : DecAt W g ⟨s, 0, 0⟩) => du_calls hW (Nat.zero_le _) (by simp only; omega)
  obtain ⟨a1, a2, a3⟩ := Ds.u_at (d := ⟨s, 0, 0⟩) (Nat.zero_le _)
  generalize Ds.u ⟨s, 0, 0⟩ = q1 at *
  obtain ⟨n1, d1⟩ := q1
  simp only at C1 a1 a2 a3 hr
  have hl1 : d1.s.length ≤ 4611686018427387904 := by rw [a2]; omega
  have C2 := fun (W : World) (g : Nat) (hW : DecAt W g d1) => du_calls hW a1 hl1
  obtain ⟨b1, b2, b3⟩ := Ds.u_at (d := d1) a1
  generalize d1.u = q2 at *
  obtain ⟨n2, d2⟩ := q2
  simp only at C2 b1 b2 b3 hr
  have hl2 : d2.s.length ≤ 4611686018427387904 := by rw [b2]; exact hl1
  have C3 := fun (W : World) (g : Nat) (hW : DecAt W g d2) => ds_calls hW b1 hl2 s.length (by omega)
  obtain ⟨e1, e2⟩ := Ds.str_at (d := d2) b1 s.length
  generalize d2.str s.length = q3 at *
  obtain ⟨n3, d3⟩ := q3
  simp only at C3 e1 e2 hr
  have hl3 : d3.s.length ≤ 4611686018427387904 := by rw [e2]; exact hl2
  have C4 := fun (W : World) (g : Nat) (hW : DecAt W g d3) => done_calls hW e1 hl3
  generalize d3.done = d4 at *
  have HC1 := Lib.hid C1
  have HC2 := Lib.hid C2
  have HC3 := Lib.hid C3
  have HC4 := Lib.hid C4
  have HR := Lib.hid hr
  clear C1 C2 C3 C4 hr a2 b2 e2
  have tok1 : True := trivial
  go_enter Tryz.func63, Tryz.ntmps63
  go_wp2_with (first
    | (go_at_call 93; refine (from_calls s _).mono ?_; rintro e w2 ⟨rfl, hF, hk2⟩; rw [World.size_alloc] at hF; have HF := Lib.hid hF; have HK2 := Lib.hid hk2; clear hF hk2)
    | (go_at_call 94; have _t := tok1; refine (HC1.out _ _ HF.out).mono ?_; rintro e w3 ⟨rfl, hD3, hk3⟩; have HD3 := Lib.hid hD3; have HK3 := Lib.hid hk3; clear hD3 hk3 tok1)
    | (go_at_call 94; refine (HC2.out _ _ HD3.out).mono ?_; rintro e w4 ⟨rfl, hD4, hk4⟩; have HD4 := Lib.hid hD4; have HK4 := Lib.hid hk4; clear hD4 hk4))
  go_at_call 95
  have k4 : Keep [w.heap.size + 1] (w.alloc (.cells #[.int .u64 0, .int .u64 0, .string (bs [])] 105)) w4 := (HK2.out.nil_.trans HK3.out).trans HK4.out
  have hw4 : w.heap.size + 1 < w4.heap.size := by
    have h2 := HD4.out.blk.lt
    omega
  refine (HC3.out _ _ ⟨HD4.out.blk.alloc _⟩).mono ?_
  rintro e w5 ⟨rfl, hD5, hk5⟩
  have k5 : Keep [w.heap.size + 1] (w.alloc (.cells #[.int .u64 0, .int .u64 0, .string (bs [])] 105)) w5 := (k4.alloc _).trans hk5
  have hR5 : Blk w5 w.heap.size 105 #[.int .u64 0, .int .u64 0, .string (bs [])] := (Blk.new _ _ _).keep k5 (by simp)
  have hB5 : Blk w5 w4.heap.size 105 #[.int .u64 (n1 : Int), .int .u64 (n2 : Int), .string (bs [])] := Blk.keep (Blk.new _ _ _) hk5 (by simp; omega)
  have c2 : w5.cell? ⟨w4.heap.size, 2, none⟩ = some (.string (bs [])) := hB5.cell 2
  have f2 : w5.frozen? ⟨w4.heap.size, 2, none⟩ = false := hB5.frozen 2
  have HD6 : Hid (DecAt (w5.setCell ⟨w4.heap.size, 2, none⟩ (.string (bs n3))) (w.heap.size + 1) d3) := ⟨hD5.blk.far (by simp; omega) _⟩
  have HB6 : Hid (Blk (w5.setCell ⟨w4.heap.size, 2, none⟩ (.string (bs n3))) w4.heap.size 105 #[.int .u64 (n1 : Int), .int .u64 (n2 : Int), .string (bs n3)]) := hB5.set_ 2 _
  have HR6 : Hid (Blk (w5.setCell ⟨w4.heap.size, 2, none⟩ (.string (bs n3))) w.heap.size 105 #[.int .u64 0, .int .u64 0, .string (bs [])]) := hR5.far (by simp; omega) _
  have HK6 : Hid (Keep [] w (w5.setCell ⟨w4.heap.size, 2, none⟩ (.string (bs n3)))) := Keep.setCell (Keep.trans' (M := []) ((Keep.refl [] w).alloc _) k5 (by simp)) (.inr (by simp; omega)) _
  clear hD5 hk5 k5 hR5 hB5 k4 HD4 HK2 HK3 HK4 HC1 HC2 HC3 HD3 HF
  go_upto_region 4 with fail
  clear c2 f2
  generalize w5.setCell ⟨w4.heap.size, 2, none⟩ (.string (bs n3)) = W at *
  generalize hpb : w4.heap.size = pb at *
  generalize hdb : w.heap.size + 1 = db at *
  have hrd : w.heap.size ≠ db := by omega
  have hpd : pb ≠ db := by omega
  have hdl : w.heap.size ≤ db := by omega
  have hrp : w.heap.size ≠ pb := by omega
  clear hpb hdb hw4
  have HS : Hid (∀ X, Keep [db] W X → X.cell? ⟨pb, 0, none⟩ = some (.int .u64 (n1 : Int)) ∧ X.cell? ⟨pb, 1, none⟩ = some (.int .u64 (n2 : Int)) ∧ X.cell? ⟨pb, 2, none⟩ = some (.string (bs n3)) ∧ X.cell? ⟨w.heap.size, 0, none⟩ = some (.int .u64 0) ∧ X.cell? ⟨w.heap.size, 1, none⟩ = some (.int .u64 0) ∧ X.cell? ⟨w.heap.size, 2, none⟩ = some (.string (bs []))) := fun X hX => by
    have h1 := HB6.out.keep hX (by simpa using hpd)
    have h2 := HR6.out.keep hX (by simpa using hrd)
    exact ⟨h1.cell 0, h1.cell 1, h1.cell 2, h2.cell 0, h2.cell 1, h2.cell 2⟩
  have HE : Hid (∀ X, Keep [db] W X → Blk X w.heap.size 105 #[.int .u64 0, .int .u64 0, .string (bs [])]) := fun X hX => HR6.out.keep hX (by simpa using hrd)
  obtain ⟨er, her⟩ : ∃ er, er = d4.err := ⟨_, rfl⟩
  rw [← her] at HC4 HR
  clear her
  have HX : Hid (∀ X, Keep [db] W X → (X.cell? ⟨pb, 0, none⟩ = some (.int .u64 (n1 : Int)) ∧ X.cell? ⟨pb, 1, none⟩ = some (.int .u64 (n2 : Int)) ∧ X.cell? ⟨pb, 2, none⟩ = some (.string (bs n3)) ∧ X.cell? ⟨w.heap.size, 0, none⟩ = some (.int .u64 0) ∧ X.cell? ⟨w.heap.size, 1, none⟩ = some (.int .u64 0) ∧ X.cell? ⟨w.heap.size, 2, none⟩ = some (.string (bs []))) ∧ ∀ i, X.frozen? ⟨w.heap.size, i, none⟩ = false) := fun X hX => ⟨HS.out X hX, fun i => (HE.out X hX).frozen i⟩
  have HP : Hid (∀ X, Keep [db, w.heap.size] W X → X.cell? ⟨pb, 0, none⟩ = some (.int .u64 (n1 : Int)) ∧ X.cell? ⟨pb, 1, none⟩ = some (.int .u64 (n2 : Int)) ∧ X.cell? ⟨pb, 2, none⟩ = some (.string (bs n3))) := fun X hX => by
    have h1 := HB6.out.keep hX (by simp; omega)
    exact ⟨h1.cell 0, h1.cell 1, h1.cell 2⟩
  clear HS
  refine wp_region_held_drew (S := fun W => W.cell? ⟨pb, 0, none⟩ = some (.int .u64 (n1 : Int)) ∧ W.cell? ⟨pb, 1, none⟩ = some (.int .u64 (n2 : Int)) ∧ W.cell? ⟨pb, 2, none⟩ = some (.string (bs n3))) (by kernel_rfl) (HP.out _ (Keep.refl _ _).drew) (fun hHeld => ?_)
  refine wpAnyH_take (i := 0) (v := ?_) (by simp only [List.getElem?_toArray, List.getElem?_cons_succ, List.getElem?_cons_zero]; rfl) (by kernel_rfl) (by kernel_rfl) (by kernel_rfl) (by exact fun _ _ _ h => h) ?_ hHeld ?_
  rotate_left
  · refine Or.inl ⟨by rfl, ?_⟩
    rintro W ⟨s0, s1, s2⟩
    go_simp
    with_reducible rfl
  try simp only [Act.put, List.setIfInBounds_toArray, List.set_cons_zero, List.set_cons_succ]
  refine wpAnyH_take (i := 1) (v := ?_) (by simp only [List.getElem?_toArray, List.getElem?_cons_succ, List.getElem?_cons_zero]; rfl) (by kernel_rfl) (by kernel_rfl) (by kernel_rfl) (by exact fun _ _ _ h => h) ?_ hHeld ?_
  rotate_left
  · refine Or.inl ⟨by rfl, ?_⟩
    rintro W ⟨s0, s1, s2⟩
    go_simp
    with_reducible rfl
  try simp only [Act.put, List.setIfInBounds_toArray, List.set_cons_zero, List.set_cons_succ]
  refine wpAnyH_ready (rs := [2]) (by kernel_rfl) (by simp) (AllReadyH.cons rfl (fun K hK => ?_) AllReadyH.nil)
  go_simp
  go_at_call 96
  refine (HC4.out _ _ ⟨Blk.keep HD6.out.blk (M := []) (by repeat (first | exact Keep.refl _ _ | refine Keep.drew ?_ | refine Keep.drewN ?_ _)) (by simp)⟩).mono ?_
  rintro e w7 ⟨rfl, hD7, hk7⟩
  have HK7 : Hid (Keep [db] W w7) := Keep.trans' (M := [db]) (by repeat (first | exact Keep.refl _ _ | refine Keep.drew ?_ | refine Keep.drewN ?_ _)) hk7 (by simp)
  clear hD7 hk7 hHeld
  have hHeld := HP.out _ (HK7.out.mono (by simp))
  go_simp
  refine hK.out _ _ hHeld (fun _ => ?_)
  clear hK K
  try simp only [Act.put]
  have hE7 : Blk w7 w.heap.size 105 #[.int .u64 0, .int .u64 0, .string (bs [])] := HE.out _ HK7.out
  have r0 : w7.cell? ⟨w.heap.size, 0, none⟩ = some (.int .u64 0) := hE7.cell 0
  have r1 : w7.cell? ⟨w.heap.size, 1, none⟩ = some (.int .u64 0) := hE7.cell 1
  have r2 : w7.cell? ⟨w.heap.size, 2, none⟩ = some (.string (bs [])) := hE7.cell 2
  have rf0 : w7.frozen? ⟨w.heap.size, 0, none⟩ = false := hE7.frozen 0
  have rf1 : w7.frozen? ⟨w.heap.size, 1, none⟩ = false := hE7.frozen 1
  have rf2 : w7.frozen? ⟨w.heap.size, 2, none⟩ = false := hE7.frozen 2
  by_cases h0 : er = 0
  · have q0 : decide (er = 0) = true := by simpa using h0
    have q0' : (er == 0) = true := by simpa using h0
    clear h0
    refine wpAnyH_take (i := 3) (v := ?_) (by simp only [List.getElem?_toArray, List.getElem?_cons_succ, List.getElem?_cons_zero]; rfl) (by kernel_rfl) (by kernel_rfl) (by kernel_rfl) (by exact fun _ _ _ h => h) ?_ hHeld ?_
    rotate_left
    · refine Or.inl ⟨by rfl, ?_⟩
      rintro W ⟨s0, s1, s2⟩
      go_simp
      with_reducible rfl
    try simp only [Act.put, List.setIfInBounds_toArray, List.set_cons_zero, List.set_cons_succ]
    refine wpAnyH_take (i := 4) (v := ?_) (by simp only [List.getElem?_toArray, List.getElem?_cons_succ, List.getElem?_cons_zero]; rfl) (by kernel_rfl) (by kernel_rfl) (by kernel_rfl) (by exact fun _ _ _ h => h) ?_ hHeld ?_
    rotate_left
    · refine Or.inl ⟨by rfl, ?_⟩
      rintro W ⟨s0, s1, s2⟩
      go_simp
      with_reducible rfl
    try simp only [Act.put, List.setIfInBounds_toArray, List.set_cons_zero, List.set_cons_succ]
    refine wpAnyH_take (i := 5) (v := ?_) (by simp only [List.getElem?_toArray, List.getElem?_cons_succ, List.getElem?_cons_zero]; rfl) (by kernel_rfl) (by kernel_rfl) (by kernel_rfl) (by exact fun _ _ _ h => h) ?_ hHeld ?_
    rotate_left
    · refine Or.inl ⟨by rfl, ?_⟩
      rintro W ⟨s0, s1, s2⟩
      go_simp
      with_reducible rfl
    try simp only [Act.put, List.setIfInBounds_toArray, List.set_cons_zero, List.set_cons_succ]
    refine wpAnyH_take (i := 6) (v := ?_) (by simp only [List.getElem?_toArray, List.getElem?_cons_succ, List.getElem?_cons_zero]; rfl) (by kernel_rfl) (by kernel_rfl) (by kernel_rfl) (by exact fun _ _ _ h => h) ?_ hHeld ?_
    rotate_left
    · refine Or.inl ⟨by rfl, ?_⟩
      rintro W ⟨s0, s1, s2⟩
      go_simp
      with_reducible rfl
    try simp only [Act.put, List.setIfInBounds_toArray, List.set_cons_zero, List.set_cons_succ]
    refine wpAnyH_take (i := 7) (v := ?_) (by simp only [List.getElem?_toArray, List.getElem?_cons_succ, List.getElem?_cons_zero]; rfl) (by kernel_rfl) (by kernel_rfl) (by kernel_rfl) (by exact fun _ _ _ h => h) ?_ hHeld ?_
    rotate_left
    · refine Or.inl ⟨by rfl, ?_⟩
      rintro W ⟨s0, s1, s2⟩
      go_simp
      with_reducible rfl
    try simp only [Act.put, List.setIfInBounds_toArray, List.set_cons_zero, List.set_cons_succ]
    by_cases h1 : 1 ≤ n1
    · have q1 : decide ((1 : Int) ≤ (n1 : Int)) = true := by simp; omega
      have q1n : decide (1 ≤ n1) = true := by simpa using h1
      clear h1
      refine wpAnyH_take (i := 8) (v := ?_) (by simp only [List.getElem?_toArray, List.getElem?_cons_succ, List.getElem?_cons_zero]; rfl) (by kernel_rfl) (by kernel_rfl) (by kernel_rfl) (by exact fun _ _ _ h => h) ?_ hHeld ?_
      rotate_left
      · refine Or.inl ⟨by rfl, ?_⟩
        rintro W ⟨s0, s1, s2⟩
        go_simp
        with_reducible rfl
      try simp only [Act.put, List.setIfInBounds_toArray, List.set_cons_zero, List.set_cons_succ]
      refine wpAnyH_take (i := 9) (v := ?_) (by simp only [List.getElem?_toArray, List.getElem?_cons_succ, List.getElem?_cons_zero]; rfl) (by kernel_rfl) (by kernel_rfl) (by kernel_rfl) (by exact fun _ _ _ h => h) ?_ hHeld ?_
      rotate_left
      · refine Or.inl ⟨by rfl, ?_⟩
        rintro W ⟨s0, s1, s2⟩
        go_simp
        with_reducible rfl
      try simp only [Act.put, List.setIfInBounds_toArray, List.set_cons_zero, List.set_cons_succ]
      refine wpAnyH_take (i := 10) (v := ?_) (by simp only [List.getElem?_toArray, List.getElem?_cons_succ, List.getElem?_cons_zero]; rfl) (by kernel_rfl) (by kernel_rfl) (by kernel_rfl) (by exact fun _ _ _ h => h) ?_ hHeld ?_
      rotate_left
      · refine Or.inl ⟨by rfl, ?_⟩
        rintro W ⟨s0, s1, s2⟩
        go_simp
        with_reducible rfl
      try simp only [Act.put, List.setIfInBounds_toArray, List.set_cons_zero, List.set_cons_succ]
      refine wpAnyH_take (i := 11) (v := ?_) (by simp only [List.getElem?_toArray, List.getElem?_cons_succ, List.getElem?_cons_zero]; rfl) (by kernel_rfl) (by kernel_rfl) (by kernel_rfl) (by exact fun _ _ _ h => h) ?_ hHeld ?_
      rotate_left
      · refine Or.inl ⟨by rfl, ?_⟩
        rintro W ⟨s0, s1, s2⟩
        go_simp
        with_reducible rfl
      try simp only [Act.put, List.setIfInBounds_toArray, List.set_cons_zero, List.set_cons_succ]
      refine wpAnyH_take (i := 12) (v := ?_) (by simp only [List.getElem?_toArray, List.getElem?_cons_succ, List.getElem?_cons_zero]; rfl) (by kernel_rfl) (by kernel_rfl) (by kernel_rfl) (by exact fun _ _ _ h => h) ?_ hHeld ?_
      rotate_left
      · refine Or.inl ⟨by rfl, ?_⟩
        rintro W ⟨s0, s1, s2⟩
        go_simp
        with_reducible rfl
      try simp only [Act.put, List.setIfInBounds_toArray, List.set_cons_zero, List.set_cons_succ]
      refine wpAnyH_take (i := 13) (v := ?_) (by simp only [List.getElem?_toArray, List.getElem?_cons_succ, List.getElem?_cons_zero]; rfl) (by kernel_rfl) (by kernel_rfl) (by kernel_rfl) (by exact fun _ _ _ h => h) ?_ hHeld ?_
      rotate_left
      · refine Or.inl ⟨by rfl, ?_⟩
        rintro W ⟨s0, s1, s2⟩
        go_simp
        with_reducible rfl
      try simp only [Act.put, List.setIfInBounds_toArray, List.set_cons_zero, List.set_cons_succ]
      refine wpAnyH_ready (rs := [14]) (by kernel_rfl) (by simp) (AllReadyH.cons rfl (fun K hK => ?_) AllReadyH.nil)
      go_simp
      have hk8 : Keep [db, w.heap.size] W (((w7.setCell ⟨w.heap.size, 0, none⟩ (.int .u64 (n1 : Int))).setCell ⟨w.heap.size, 1, none⟩ (.int .u64 (n2 : Int))).setCell ⟨w.heap.size, 2, none⟩ (.string (bs n3))) := Keep.setCell (Keep.setCell (Keep.setCell (HK7.out.mono (by simp)) (.inl (by simp)) _) (.inl (by simp)) _) (.inl (by simp)) _
      have hE8 : Blk (((w7.setCell ⟨w.heap.size, 0, none⟩ (.int .u64 (n1 : Int))).setCell ⟨w.heap.size, 1, none⟩ (.int .u64 (n2 : Int))).setCell ⟨w.heap.size, 2, none⟩ (.string (bs n3))) w.heap.size 105 #[.int .u64 (n1 : Int), .int .u64 (n2 : Int), .string (bs n3)] := ((hE7.set_ 0 _).set_ 1 _).set_ 2 _
      have hHeld := HP.out _ hk8
      refine hK.out _ _ hHeld (fun _ => ?_)
      clear hK K
      try simp only [Act.put, List.setIfInBounds_toArray, List.set_cons_zero, List.set_cons_succ]
      refine wpAnyH_take (i := 15) (v := ?_) (by simp only [List.getElem?_toArray, List.getElem?_cons_succ, List.getElem?_cons_zero]; rfl) (by kernel_rfl) (by kernel_rfl) (by kernel_rfl) (by exact fun _ _ _ h => h) ?_ hHeld ?_
      rotate_left
      · refine Or.inl ⟨by rfl, ?_⟩
        rintro W ⟨s0, s1, s2⟩
        go_simp
        with_reducible rfl
      try simp only [Act.put, List.setIfInBounds_toArray, List.set_cons_zero, List.set_cons_succ]
      refine wpAnyH_done (by kernel_rfl) ?_ _
      generalize ((w7.setCell ⟨w.heap.size, 0, none⟩ (.int .u64 (n1 : Int))).setCell ⟨w.heap.size, 1, none⟩ (.int .u64 (n2 : Int))).setCell ⟨w.heap.size, 2, none⟩ (.string (bs n3)) = w8 at *
      clear r0 r1 r2 rf0 rf1 rf2 hE7
      have y0 : w8.cell? ⟨w.heap.size, 0, none⟩ = some (.int .u64 (n1 : Int)) := hE8.cell 0
      have y1 : w8.cell? ⟨w.heap.size, 1, none⟩ = some (.int .u64 (n2 : Int)) := hE8.cell 1
      have y2 : w8.cell? ⟨w.heap.size, 2, none⟩ = some (.string (bs n3)) := hE8.cell 2
      have hk9 : Keep [] w w8 := HK6.out.trans' (M := []) hk8 (by simp; omega)
      go_wp2_with fail
      have HR' := HR.out
      refine bodyPost_ret (v := .tuple #[.agg #[.int .u64 (n1 : Int), .int .u64 (n2 : Int), .string (bs n3)], .bool (parseF s).2.2.2]) (by rw [HR']; simp [results, Tryz.results63, go_sem, y0, y1, y2, q0, q1n] <;> omega) rfl ⟨?_, hk9⟩
      rw [HR']
    · have q1 : decide ((1 : Int) ≤ (n1 : Int)) = false := by simp; omega
      have q1n : decide (1 ≤ n1) = false := by simpa using h1
      clear h1
      refine wpAnyH_take (i := 8) (v := ?_) (by simp only [List.getElem?_toArray, List.getElem?_cons_succ, List.getElem?_cons_zero]; rfl) (by kernel_rfl) (by kernel_rfl) (by kernel_rfl) (by exact fun _ _ _ h => h) ?_ hHeld ?_
      rotate_left
      · refine Or.inl ⟨by rfl, ?_⟩
        rintro W ⟨s0, s1, s2⟩
        go_simp
        with_reducible rfl
      try simp only [Act.put, List.setIfInBounds_toArray, List.set_cons_zero, List.set_cons_succ]
      refine wpAnyH_take (i := 9) (v := ?_) (by simp only [List.getElem?_toArray, List.getElem?_cons_succ, List.getElem?_cons_zero]; rfl) (by kernel_rfl) (by kernel_rfl) (by kernel_rfl) (by exact fun _ _ _ h => h) ?_ hHeld ?_
      rotate_left
      · refine Or.inl ⟨by rfl, ?_⟩
        rintro W ⟨s0, s1, s2⟩
        go_simp
        with_reducible rfl
      try simp only [Act.put, List.setIfInBounds_toArray, List.set_cons_zero, List.set_cons_succ]
      refine wpAnyH_take (i := 10) (v := _) (by simp only [List.getElem?_toArray, List.getElem?_cons_succ, List.getElem?_cons_zero]; rfl) (by kernel_rfl) (by kernel_rfl) (by kernel_rfl) (by exact fun _ _ _ h => h) (Or.inr ⟨by rfl, by rfl⟩) hHeld ?_
      try simp only [Act.put, List.setIfInBounds_toArray, List.set_cons_zero, List.set_cons_succ]
      refine wpAnyH_take (i := 11) (v := _) (by simp only [List.getElem?_toArray, List.getElem?_cons_succ, List.getElem?_cons_zero]; rfl) (by kernel_rfl) (by kernel_rfl) (by kernel_rfl) (by exact fun _ _ _ h => h) (Or.inr ⟨by rfl, by rfl⟩) hHeld ?_
      try simp only [Act.put, List.setIfInBounds_toArray, List.set_cons_zero, List.set_cons_succ]
      refine wpAnyH_take (i := 12) (v := _) (by simp only [List.getElem?_toArray, List.getElem?_cons_succ, List.getElem?_cons_zero]; rfl) (by kernel_rfl) (by kernel_rfl) (by kernel_rfl) (by exact fun _ _ _ h => h) (Or.inr ⟨by rfl, by rfl⟩) hHeld ?_
      try simp only [Act.put, List.setIfInBounds_toArray, List.set_cons_zero, List.set_cons_succ]
      refine wpAnyH_take (i := 13) (v := ?_) (by simp only [List.getElem?_toArray, List.getElem?_cons_succ, List.getElem?_cons_zero]; rfl) (by kernel_rfl) (by kernel_rfl) (by kernel_rfl) (by exact fun _ _ _ h => h) ?_ hHeld ?_
      rotate_left
      · refine Or.inl ⟨by rfl, ?_⟩
        rintro W ⟨s0, s1, s2⟩
        go_simp
        with_reducible rfl
      try simp only [Act.put, List.setIfInBounds_toArray, List.set_cons_zero, List.set_cons_succ]
      refine wpAnyH_ready (rs := [14]) (by kernel_rfl) (by simp) (AllReadyH.cons rfl (fun K hK => ?_) AllReadyH.nil)
      go_simp
      have hk8 : Keep [db, w.heap.size] W (((w7.setCell ⟨w.heap.size, 0, none⟩ (.int .u64 (n1 : Int))).setCell ⟨w.heap.size, 1, none⟩ (.int .u64 (n2 : Int))).setCell ⟨w.heap.size, 2, none⟩ (.string (bs n3))) := Keep.setCell (Keep.setCell (Keep.setCell (HK7.out.mono (by simp)) (.inl (by simp)) _) (.inl (by simp)) _) (.inl (by simp)) _
      have hE8 : Blk (((w7.setCell ⟨w.heap.size, 0, none⟩ (.int .u64 (n1 : Int))).setCell ⟨w.heap.size, 1, none⟩ (.int .u64 (n2 : Int))).setCell ⟨w.heap.size, 2, none⟩ (.string (bs n3))) w.heap.size 105 #[.int .u64 (n1 : Int), .int .u64 (n2 : Int), .string (bs n3)] := ((hE7.set_ 0 _).set_ 1 _).set_ 2 _
      have hHeld := HP.out _ hk8
      refine hK.out _ _ hHeld (fun _ => ?_)
      clear hK K
      try simp only [Act.put, List.setIfInBounds_toArray, List.set_cons_zero, List.set_cons_succ]
      refine wpAnyH_take (i := 15) (v := ?_) (by simp only [List.getElem?_toArray, List.getElem?_cons_succ, List.getElem?_cons_zero]; rfl) (by kernel_rfl) (by kernel_rfl) (by kernel_rfl) (by exact fun _ _ _ h => h) ?_ hHeld ?_
      rotate_left
      · refine Or.inl ⟨by rfl, ?_⟩
        rintro W ⟨s0, s1, s2⟩
        go_simp
        with_reducible rfl
      try simp only [Act.put, List.setIfInBounds_toArray, List.set_cons_zero, List.set_cons_succ]
      refine wpAnyH_done (by kernel_rfl) ?_ _
      generalize ((w7.setCell ⟨w.heap.size, 0, none⟩ (.int .u64 (n1 : Int))).setCell ⟨w.heap.size, 1, none⟩ (.int .u64 (n2 : Int))).setCell ⟨w.heap.size, 2, none⟩ (.string (bs n3)) = w8 at *
      clear r0 r1 r2 rf0 rf1 rf2 hE7
      have y0 : w8.cell? ⟨w.heap.size, 0, none⟩ = some (.int .u64 (n1 : Int)) := hE8.cell 0
      have y1 : w8.cell? ⟨w.heap.size, 1, none⟩ = some (.int .u64 (n2 : Int)) := hE8.cell 1
      have y2 : w8.cell? ⟨w.heap.size, 2, none⟩ = some (.string (bs n3)) := hE8.cell 2
      have hk9 : Keep [] w w8 := HK6.out.trans' (M := []) hk8 (by simp; omega)
      go_wp2_with fail
      have HR' := HR.out
      refine bodyPost_ret (v := .tuple #[.agg #[.int .u64 (n1 : Int), .int .u64 (n2 : Int), .string (bs n3)], .bool (parseF s).2.2.2]) (by rw [HR']; simp [results, Tryz.results63, go_sem, y0, y1, y2, q0, q1n] <;> omega) rfl ⟨?_, hk9⟩
      rw [HR']
  · have q0 : decide (er = 0) = false := by simpa using h0
    have q0' : (er == 0) = false := by simpa using h0
    clear h0
    refine wpAnyH_take (i := 3) (v := ?_) (by simp only [List.getElem?_toArray, List.getElem?_cons_succ, List.getElem?_cons_zero]; rfl) (by kernel_rfl) (by kernel_rfl) (by kernel_rfl) (by exact fun _ _ _ h => h) ?_ hHeld ?_
    rotate_left
    · refine Or.inl ⟨by rfl, ?_⟩
      rintro W ⟨s0, s1, s2⟩
      go_simp
      with_reducible rfl
    try simp only [Act.put, List.setIfInBounds_toArray, List.set_cons_zero, List.set_cons_succ]
    refine wpAnyH_take (i := 4) (v := ?_) (by simp only [List.getElem?_toArray, List.getElem?_cons_succ, List.getElem?_cons_zero]; rfl) (by kernel_rfl) (by kernel_rfl) (by kernel_rfl) (by exact fun _ _ _ h => h) ?_ hHeld ?_
    rotate_left
    · refine Or.inl ⟨by rfl, ?_⟩
      rintro W ⟨s0, s1, s2⟩
      go_simp
      with_reducible rfl
    try simp only [Act.put, List.setIfInBounds_toArray, List.set_cons_zero, List.set_cons_succ]
    refine wpAnyH_take (i := 5) (v := _) (by simp only [List.getElem?_toArray, List.getElem?_cons_succ, List.getElem?_cons_zero]; rfl) (by kernel_rfl) (by kernel_rfl) (by kernel_rfl) (by exact fun _ _ _ h => h) (Or.inr ⟨by rfl, by rfl⟩) hHeld ?_
    try simp only [Act.put, List.setIfInBounds_toArray, List.set_cons_zero, List.set_cons_succ]
    refine wpAnyH_take (i := 6) (v := _) (by simp only [List.getElem?_toArray, List.getElem?_cons_succ, List.getElem?_cons_zero]; rfl) (by kernel_rfl) (by kernel_rfl) (by kernel_rfl) (by exact fun _ _ _ h => h) (Or.inr ⟨by rfl, by rfl⟩) hHeld ?_
    try simp only [Act.put, List.setIfInBounds_toArray, List.set_cons_zero, List.set_cons_succ]
    refine wpAnyH_take (i := 7) (v := _) (by simp only [List.getElem?_toArray, List.getElem?_cons_succ, List.getElem?_cons_zero]; rfl) (by kernel_rfl) (by kernel_rfl) (by kernel_rfl) (by exact fun _ _ _ h => h) (Or.inr ⟨by rfl, by rfl⟩) hHeld ?_
    try simp only [Act.put, List.setIfInBounds_toArray, List.set_cons_zero, List.set_cons_succ]
    refine wpAnyH_take (i := 8) (v := ?_) (by simp only [List.getElem?_toArray, List.getElem?_cons_succ, List.getElem?_cons_zero]; rfl) (by kernel_rfl) (by kernel_rfl) (by kernel_rfl) (by exact fun _ _ _ h => h) ?_ hHeld ?_
    rotate_left
    · refine Or.inl ⟨by rfl, ?_⟩
      rintro W ⟨s0, s1, s2⟩
      go_simp
      with_reducible rfl
    try simp only [Act.put, List.setIfInBounds_toArray, List.set_cons_zero, List.set_cons_succ]
    refine wpAnyH_take (i := 9) (v := ?_) (by simp only [List.getElem?_toArray, List.getElem?_cons_succ, List.getElem?_cons_zero]; rfl) (by kernel_rfl) (by kernel_rfl) (by kernel_rfl) (by exact fun _ _ _ h => h) ?_ hHeld ?_
    rotate_left
    · refine Or.inl ⟨by rfl, ?_⟩
      rintro W ⟨s0, s1, s2⟩
      go_simp
      with_reducible rfl
    try simp only [Act.put, List.setIfInBounds_toArray, List.set_cons_zero, List.set_cons_succ]
    refine wpAnyH_take (i := 10) (v := _) (by simp only [List.getElem?_toArray, List.getElem?_cons_succ, List.getElem?_cons_zero]; rfl) (by kernel_rfl) (by kernel_rfl) (by kernel_rfl) (by exact fun _ _ _ h => h) (Or.inr ⟨by rfl, by rfl⟩) hHeld ?_
    try simp only [Act.put, List.setIfInBounds_toArray, List.set_cons_zero, List.set_cons_succ]
    refine wpAnyH_take (i := 11) (v := _) (by simp only [List.getElem?_toArray, List.getElem?_cons_succ, List.getElem?_cons_zero]; rfl) (by kernel_rfl) (by kernel_rfl) (by kernel_rfl) (by exact fun _ _ _ h => h) (Or.inr ⟨by rfl, by rfl⟩) hHeld ?_
    try simp only [Act.put, List.setIfInBounds_toArray, List.set_cons_zero, List.set_cons_succ]
    refine wpAnyH_take (i := 12) (v := _) (by simp only [List.getElem?_toArray, List.getElem?_cons_succ, List.getElem?_cons_zero]; rfl) (by kernel_rfl) (by kernel_rfl) (by kernel_rfl) (by exact fun _ _ _ h => h) (Or.inr ⟨by rfl, by rfl⟩) hHeld ?_
    try simp only [Act.put, List.setIfInBounds_toArray, List.set_cons_zero, List.set_cons_succ]
    refine wpAnyH_take (i := 13) (v := ?_) (by simp only [List.getElem?_toArray, List.getElem?_cons_succ, List.getElem?_cons_zero]; rfl) (by kernel_rfl) (by kernel_rfl) (by kernel_rfl) (by exact fun _ _ _ h => h) ?_ hHeld ?_
    rotate_left
    · refine Or.inl ⟨by rfl, ?_⟩
      rintro W ⟨s0, s1, s2⟩
      go_simp
      with_reducible rfl
    try simp only [Act.put, List.setIfInBounds_toArray, List.set_cons_zero, List.set_cons_succ]
    refine wpAnyH_ready (rs := [14]) (by kernel_rfl) (by simp) (AllReadyH.cons rfl (fun K hK => ?_) AllReadyH.nil)
    go_simp
    have hk8 : Keep [db, w.heap.size] W (((w7.setCell ⟨w.heap.size, 0, none⟩ (.int .u64 (n1 : Int))).setCell ⟨w.heap.size, 1, none⟩ (.int .u64 (n2 : Int))).setCell ⟨w.heap.size, 2, none⟩ (.string (bs n3))) := Keep.setCell (Keep.setCell (Keep.setCell (HK7.out.mono (by simp)) (.inl (by simp)) _) (.inl (by simp)) _) (.inl (by simp)) _
    have hE8 : Blk (((w7.setCell ⟨w.heap.size, 0, none⟩ (.int .u64 (n1 : Int))).setCell ⟨w.heap.size, 1, none⟩ (.int .u64 (n2 : Int))).setCell ⟨w.heap.size, 2, none⟩ (.string (bs n3))) w.heap.size 105 #[.int .u64 (n1 : Int), .int .u64 (n2 : Int), .string (bs n3)] := ((hE7.set_ 0 _).set_ 1 _).set_ 2 _
    have hHeld := HP.out _ hk8
    refine hK.out _ _ hHeld (fun _ => ?_)
    clear hK K
    try simp only [Act.put, List.setIfInBounds_toArray, List.set_cons_zero, List.set_cons_succ]
    refine wpAnyH_take (i := 15) (v := ?_) (by simp only [List.getElem?_toArray, List.getElem?_cons_succ, List.getElem?_cons_zero]; rfl) (by kernel_rfl) (by kernel_rfl) (by kernel_rfl) (by exact fun _ _ _ h => h) ?_ hHeld ?_
    rotate_left
    · refine Or.inl ⟨by rfl, ?_⟩
      rintro W ⟨s0, s1, s2⟩
      go_simp
      with_reducible rfl
    try simp only [Act.put, List.setIfInBounds_toArray, List.set_cons_zero, List.set_cons_succ]
    refine wpAnyH_done (by kernel_rfl) ?_ _
    generalize ((w7.setCell ⟨w.heap.size, 0, none⟩ (.int .u64 (n1 : Int))).setCell ⟨w.heap.size, 1, none⟩ (.int .u64 (n2 : Int))).setCell ⟨w.heap.size, 2, none⟩ (.string (bs n3)) = w8 at *
    clear r0 r1 r2 rf0 rf1 rf2 hE7
    have y0 : w8.cell? ⟨w.heap.size, 0, none⟩ = some (.int .u64 (n1 : Int)) := hE8.cell 0
    have y1 : w8.cell? ⟨w.heap.size, 1, none⟩ = some (.int .u64 (n2 : Int)) := hE8.cell 1
    have y2 : w8.cell? ⟨w.heap.size, 2, none⟩ = some (.string (bs n3)) := hE8.cell 2
    have hk9 : Keep [] w w8 := HK6.out.trans' (M := []) hk8 (by simp; omega)
    go_wp2_with fail
    have HR' := HR.out
    refine bodyPost_ret (v := .tuple #[.agg #[.int .u64 (n1 : Int), .int .u64 (n2 : Int), .string (bs n3)], .bool (parseF s).2.2.2]) (by rw [HR']; simp [results, Tryz.results63, go_sem, y0, y1, y2, q0, q0'] <;> omega) rfl ⟨?_, hk9⟩
    rw [HR']

end Go.Proofs.YtkplffkchanipaaGreatDoor
