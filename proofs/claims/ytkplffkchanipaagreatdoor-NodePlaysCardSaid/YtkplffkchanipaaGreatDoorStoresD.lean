/- A chunk store: gather. -/
import Derived.Test.YtkplffkchanipaaGreatDoorStoresC
import Derived.Test.YtkplffkchanipaaGreatDoorBuilders
namespace Go.Proofs.YtkplffkchanipaaGreatDoor
open Go.RowKit
attribute [local go_sem] size_bs bs_append
variable {w w' : World} {s b m g : Nat} {C C' : Ck} {D D' : Dk}

theorem NumsAt.others {v : Value} {l : List Int} (h : NumsAt w v l) (ho : OthersU w w') : NumsAt w' v l := by
  obtain ⟨A, c, rfl, h⟩ := h
  refine ⟨A, c, rfl, fun hne => ?_⟩
  obtain ⟨g, rfl, h2⟩ := h hne
  have hpos := List.length_pos_iff.2 hne
  exact ⟨g, rfl, fun j hj => (World.cell?_of_block (ho g _ (h2 0 hpos))).trans (h2 j hj)⟩
theorem othersU_keep {M : List Nat} (hk : Keep M w w') (hM : ∀ k ∈ M, ∀ x, w.cell? ⟨k, 0, none⟩ ≠ some (.int .u64 x)) : OthersU w w' := fun k x hx =>
  hk.block k (World.block_lt_of_cell? _ _ hx) fun hm => hM k hm x hx
theorem mapN_cell {q : IntKind} {k : Nat} {L : List (Int × Value)} (h : MapN q w k L) (i : Nat) : w.cell? ⟨k, i, none⟩ = none := by
  obtain ⟨es, c, hm, _⟩ := h
  simp [World.cell?, hm]
theorem mapIs_cell {k : Nat} {L : List (List UInt8 × Value)} (h : MapIs w k L) (i : Nat) : w.cell? ⟨k, i, none⟩ = none := by
  obtain ⟨es, c, hm, _⟩ := h
  simp [World.cell?, hm]
theorem othersU_disk (hd : DiskAt w b m D) (hk : Keep [b, m] w w') : OthersU w w' := othersU_keep hk fun k hm x => by
  simp only [List.mem_cons, List.not_mem_nil, or_false] at hm
  rcases hm with rfl | rfl
  · rw [hd.blk.cell]; simp
  · rw [mapIs_cell hd.map]; simp
theorem OthersU.trans {w'' : World} (h : OthersU w w') (k : OthersU w' w'') : OthersU w w'' := fun j x hx => by
  have h1 := h j x hx
  exact (k j x ((World.cell?_of_block h1).trans hx)).trans h1
theorem othersU_nil (hk : Keep [] w w') : OthersU w w' := othersU_keep hk (by simp)
theorem isBuilder_keepM {T e : TypeId} {B bb : Nat} {xs : List Value} {M : List Nat} (h : Lib.IsBuilder T e B bb xs w) (hk : Keep M w w') (hM : ∀ x ∈ M, x < B) : Lib.IsBuilder T e B bb xs w' := by
  have aux : ∀ p, Lib.BuilderAt T e B bb p xs w → Lib.BuilderAt T e B bb p xs w' := fun p ⟨hB, v, hbk, hown, hne⟩ =>
    ⟨hB, v, (hk.block bb (Blk.lt (cs := #[p, v]) hbk) (fun hm => by have := hM bb hm; omega)).trans hbk, hk.owns hown (fun k hk' hm => by have h1 := (hown.lt k hk').1; have := hM k hm; omega), hne⟩
  rcases h with h | h
  · exact Or.inl (aux _ h)
  · exact Or.inr (aux _ h)
theorem Keep.below_ {M : List Nat} {a b c : World} {B : Nat} (h : Keep M a b) (k : Below B b c) (hB : a.heap.size ≤ B) : Keep M a c :=
  ⟨k.os.trans h.os, k.tape.trans h.tape, k.output.trans h.output, Nat.le_trans h.size k.size, fun i hi hm => (k.block i (Nat.lt_of_lt_of_le hi hB)).trans (h.block i hi hm)⟩
theorem Ck.got_good {C : Ck} {D : Dk} (h : D.Good) (i : Nat) : (C.got D i).Good := by
  unfold Ck.got
  split
  · exact h.tries
  · exact h
theorem StoreAt.below {B : Nat} (h : StoreAt w s b m g C D) (hb : Below B w w') (hs : s < B) (hbb : b < B) (hm : m < B) (hg : g < B) (hT : 0 < B) : StoreAt w' s b m g C D := by
  have e : ∀ k, k < B → w'.heap[k]? = w.heap[k]? := fun k hk => hb.block k hk
  refine ⟨(e s hs).trans h.blk, ⟨(e b hbb).trans h.disk.blk, ?_⟩, ?_, h.gm, fun i hi => (World.cell?_of_block (e _ hT)).trans (h.tab i hi), h.tn⟩
  · obtain ⟨es, c, h1, h2⟩ := h.disk.map
    exact ⟨es, c, (e m hm).trans h1, h2⟩
  · obtain ⟨es, c, h1, h2⟩ := h.map
    exact ⟨es, c, (e g hg).trans h1, h2⟩
theorem MapN.below {q : IntKind} {B k : Nat} {L : List (Int × Value)} (h : MapN q w k L) (hb : Below B w w') (hk : k < B) : MapN q w' k L := by
  obtain ⟨es, c, h1, h2⟩ := h
  exact ⟨es, c, (hb.block k hk).trans h1, h2⟩
def GathRel (X : List (Nat × List UInt8)) (C : Ck) (D : Dk) (seg : Nat) (R : List UInt8 × List (Int × Pl) × Dk × Int) (w : World) (s b m g : Nat) (v x : Value) (wr : World) : Prop :=
  ∃ (k : Nat) (D' : Dk) (T : List UInt8) (M : List (Int × Pl)), k ≤ X.length ∧ x = .int .i64 (k : Int) ∧ gatherL C seg ((X.drop k).map (·.1)) D' T M = R ∧ D.Alike D' ∧ D'.Good ∧ 8 ≤ T.length ∧ T.length ≤ 100 + k * 4060 ∧
    Lib.IsBuilder 145 5 (w.heap.size + 1) (w.heap.size + 1) (Lib.byteCells T) wr ∧ StoreAt wr s b m g C D' ∧ MapN .u64 wr w.heap.size (pairs M) ∧ NumsAt wr v (X.map fun p => (p.1 : Int)) ∧ Keep [b, m] w wr

set_option maxRecDepth 100000 in
set_option maxHeartbeats 4000000 in
theorem gather_calls (h : StoreAt w s b m g C D) (hC : C.Ok) (hD : D.Good) (hl : D.lost = false) {X : List (Nat × List UInt8)} (hsay : Says D C.map X) (hf : FitX X) (ha : Asc X) (hX : X.length ≤ 100000) (seg : Nat) :
    Calls Tryz.prog 64 #[.pointer (some ⟨s, 0, none⟩), .int .i64 (seg : Int)] w fun e w' => ∃ q, e = .returned (.tuple #[.string (bs (C.gather seg D).1), .map q, .int .i64 (C.gather seg D).2.2.2]) ∧
      ((C.gather seg D).2.2.2 = 0 → q = some w.heap.size ∧ MapN .u64 w' w.heap.size (pairs (C.gather seg D).2.1)) ∧ StoreAt w' s b m g C (C.gather seg D).2.2.1 ∧ Keep [b, m] w w' := by
  have hids := hsay.ids hC.map ha
  have hcast : rising (C.map.map (·.1)) = X.map fun p => (p.1 : Int) := by
    have h := Ck.ids_cast hC.map
    rw [hids, List.map_map] at h
    exact h
  have hlen : C.map.length = X.length := by
    have h2 := C.ids_len
    rw [hids, List.length_map] at h2
    exact h2.symm
  have hga : C.gather seg D = gatherL C seg (X.map (·.1)) D (frame (encRec 3 X.length [])) [] := by
    unfold Ck.gather
    rw [hids, hlen]
  have hfl : 8 ≤ (frame (encRec 3 X.length [])).length ∧ (frame (encRec 3 X.length [])).length ≤ 100 := by
    have h1 := encU_len 3 (by omega)
    have h2 := encU_len X.length (by omega)
    have h3 := encU_len 0 (by omega)
    rw [frame_len]
    simp only [encRec, encS, List.length_append, List.length_nil]
    omega
  have z2 : w.cell? ⟨s, 2, none⟩ = some (.map (some g)) := h.blk.cell 2
  have hml := h.map.len_ (P := Tryz.prog) Tryz.underlying92
  have hpl : (pairs C.map).length = X.length := by simp [pairs, hlen]
  rw [hpl] at hml
  have wu : IntKind.u64.wrap (X.length : Int) = (X.length : Int) := IntWalk.u64_in _ (by omega)
  have TF := fun (W : World) (hT : Tab W) => recFrame_calls 3 X.length [] (by omega) (by omega) (by simp) W hT
  have TI := fun (W : World) (hW : StoreAt W s b m g C D) => ids_calls hW hC (by omega)
  have hb9 := h.blk.lt
  have hd9 := h.disk.blk.lt
  have hm9 := h.disk.map.lt
  have hg9 := h.map.lt
  have ht9 : 0 < w.heap.size := World.block_lt_of_cell? _ _ (h.tab 0 (by omega))
  have H := Lib.hid h
  have HSAY := Lib.hid hsay
  have HF := Lib.hid hf
  have HA := Lib.hid ha
  have HTF := Lib.hid TF
  have HTI := Lib.hid TI
  have HGD := Lib.hid hD
  have hmm := @run_makeMap Tryz.prog
  have e0 : bs [] = { data := #[] } := rfl
  obtain ⟨R, hR⟩ : ∃ R, R = C.gather seg D := ⟨_, rfl⟩
  rw [← hR] at hga ⊢
  obtain ⟨F0, hF0⟩ : ∃ F0, F0 = frame (encRec 3 X.length []) := ⟨_, rfl⟩
  rw [← hF0] at hga hfl HTF
  rw [e0] at HTF
  have HGA := Lib.hid hga
  rw [hcast] at HTI
  have HPL := Lib.hid hpl
  clear h hsay hf ha TF TI hids hlen hpl hR hF0 hga hcast
  go_enter Tryz.func64, Tryz.ntmps64
  go_upto_region 3 with fail
  have hsz1 : ((w.alloc (Obj.map #[] 0)).alloc (.cells #[.pointer none, .slice none 0 0] 145)).heap.size = w.heap.size + 2 := by simp
  have HB1 : Hid (Lib.IsBuilder 145 5 (w.heap.size + 1) (w.heap.size + 1) (Lib.byteCells []) ((w.alloc (Obj.map #[] 0)).alloc (.cells #[.pointer none, .slice none 0 0] 145))) := by
    have h := Lib.fresh_isBuilder 145 5 (w.alloc (Obj.map #[] 0))
    rw [World.size_alloc] at h
    exact h
  have HM1 : Hid (MapN .u64 ((w.alloc (Obj.map #[] 0)).alloc (.cells #[.pointer none, .slice none 0 0] 145)) w.heap.size (pairs [])) := (MapN.made w).alloc _
  have HS1 : Hid (StoreAt ((w.alloc (Obj.map #[] 0)).alloc (.cells #[.pointer none, .slice none 0 0] 145)) s b m g C D) := H.out.grow (((Keep.refl [] w).alloc _).alloc _)
  have HK1 : Hid (Keep [] w ((w.alloc (Obj.map #[] 0)).alloc (.cells #[.pointer none, .slice none 0 0] 145))) := ((Keep.refl [] w).alloc _).alloc _
  have y2 : ((w.alloc (Obj.map #[] 0)).alloc (.cells #[.pointer none, .slice none 0 0] 145)).cell? ⟨s, 2, none⟩ = some (.map (some g)) := HS1.out.blk.cell 2
  have hml1 := hml 3
  have hml2 : (Builtin.len_ #[92] 3 #[.map (some g)]).run Tryz.prog ((w.alloc (Obj.map #[] 0)).alloc (.cells #[.pointer none, .slice none 0 0] 145)) = .ok (.int .i64 (X.length : Int)) ((w.alloc (Obj.map #[] 0)).alloc (.cells #[.pointer none, .slice none 0 0] 145)) := by
    have h := HS1.out.map.len_ (P := Tryz.prog) Tryz.underlying92 3
    rw [HPL.out] at h
    exact h
  clear z2 hml hml1 hmm
  generalize ((w.alloc (Obj.map #[] 0)).alloc (.cells #[.pointer none, .slice none 0 0] 145)) = W1 at *
  go_wp2_with (first
    | (go_at_call 80; refine (HTF.out _ HS1.out.tab).mono ?_; rintro e w2 ⟨rfl, hk2⟩; have HK2 := Lib.hid hk2; clear hk2)
    | (go_at_call 89; refine (wstr_calls (w.heap.size + 1) (w.heap.size + 1) [] F0 _ (isBuilder_keep HB1.out HK2.out) (by simp; omega) (by have := HK2.out.size; omega)).mono ?_; rintro e w3 ⟨⟨rr, rfl⟩, hB3, hb3, -⟩; have HB3 := Lib.hid hB3; have Hb3 := Lib.hid hb3; clear hB3 hb3)
    | (go_at_call 22; refine (HTI.out _ ((HS1.out.grow HK2.out).below Hb3.out (by omega) (by omega) (by omega) (by omega) (by omega))).mono ?_; rintro e w4 ⟨v, rfl, hv, hk4⟩; have HV4 := Lib.hid hv; have HK4 := Lib.hid hk4; obtain ⟨A, c, rfl, -⟩ := hv; clear hk4))
  go_loopw [27] (fun x wr => GathRel X C D seg R w s b m g (.slice A (X.map fun p => (p.1 : Int)).length c) x wr) (fun x _ => X.length - (intOf x).toNat)
  case atStart =>
    exact ⟨0, D, F0, [], Nat.zero_le _, rfl, HGA.out.symm, Dk.Alike.refl D, HGD.out, hfl.1, by omega, isBuilder_keepM HB3.out HK4.out (by simp), ((HS1.out.grow HK2.out).below Hb3.out (by omega) (by omega) (by omega) (by omega) (by omega)).grow HK4.out, ((HM1.out.keep HK2.out (by simp)).below Hb3.out (by omega)).keep HK4.out (by simp), HV4.out, (((HK1.out.trans HK2.out).nil_).below_ Hb3.out (by omega)).trans HK4.out.nil_⟩
  case round =>
    obtain ⟨k, D', T, M, hk, rfl, hga, hal, hgd, hT1, hT2, hB, hS, hM, hV, hK⟩ := hrel
    have HB := Lib.hid hB
    have HS := Lib.hid hS
    have HM := Lib.hid hM
    have HV := Lib.hid hV
    have HK := Lib.hid hK
    have HAL := Lib.hid hal
    have HGD' := Lib.hid hgd
    by_cases hlt : k < X.length
    · have d1 : decide ((k : Int) < (X.length : Int)) = true := by simp; omega
      have hdrop : X.drop k = X[k] :: X.drop (k + 1) := List.drop_eq_getElem_cons hlt
      have hlook := look_ofX HA.out (List.getElem_mem hlt)
      have hfit := HF.out _ (List.getElem_mem hlt)
      rw [hdrop, List.map_cons] at hga
      simp only [gatherL] at hga
      obtain ⟨A', c', hv', hcc⟩ := hV
      injection hv' with hA hz1' hz2'
      clear hz1' hz2'
      subst hA
      obtain ⟨gi, rfl, hcc2⟩ := hcc (by intro h0; rw [List.map_eq_nil_iff] at h0; rw [h0] at hlt; simp at hlt)
      have cx := hcc2 k (by rw [List.length_map]; exact hlt)
      rw [List.getElem_map] at cx
      have hluck := (HSAY.out.alike hal).get_luck (by rw [hal.lost]; exact hl) hlook
      have hBs := HK.out.size
      have hgm := HM.out.lt
      clear hcc hcc2 hdrop hB hS hM hK hal hlook
      generalize X[k] = pr at *
      obtain ⟨i, d⟩ := pr
      simp only at hga cx hfit hluck
      obtain ⟨hi, hd⟩ := hfit
      have TG := fun (W : World) (hW : StoreAt W s b m g C D') => sget_calls hW hC HGD'.out i
      have hgg := Ck.got_good (C := C) hgd i
      have hga2 := HAL.out.trans (C.got_alike D' i)
      generalize C.got D' i = D2 at *
      have HG2 := Lib.hid hgg
      have HAL2 := Lib.hid hga2
      clear hgd hgg hga2
      rcases hluck with ⟨q1, -⟩ | ⟨q1, -⟩
      · rw [q1] at hga TG
        simp only [ne_eq, not_true_eq_false, if_false] at hga TG
        have hfr := recs_enc (k := 1) (d := d) (.inl rfl) hi hd
        have TF := fun (W : World) (hT : Tab W) => recFrame_calls 1 i d (by omega) hi (by omega) W hT
        have h8 : 8 ≤ (frame (encRec 1 i d)).length := by rw [frame_len]; omega
        have hf2 := hfr.2
        obtain ⟨c0, c1, c2, c3, c4, c5, c6, c7, hf8⟩ := eightL (l := (frame (encRec 1 i d)).take 8) (by rw [List.length_take]; omega)
        generalize frame (encRec 1 i d) = f at *
        have TH := fun (W : World) => headOf_calls f h8 W
        rw [hf8] at TH hga
        simp only [headV, List.map_cons, List.map_nil] at TH
        have TL := fun (W : World) (hW : Lib.IsBuilder 145 5 (w.heap.size + 1) (w.heap.size + 1) (Lib.byteCells T) W) => Tryz.Builder_Len (w.heap.size + 1) (w.heap.size + 1) (Lib.byteCells T) W hW
        simp only [Lib.byteCells_length] at TL
        have e1 : ((1 : Nat) : Int) = 1 := rfl
        simp only [e1] at TF
        have HTG := Lib.hid TG
        have HTF1 := Lib.hid TF
        have HTH := Lib.hid TH
        have HTL := Lib.hid TL
        have HGR := Lib.hid hga
        have hTne : T ≠ [] := by intro h0; rw [h0] at hT1; simp at hT1
        clear TG TF TH TL hga q1 hfr hf8 e1
        go_wp2_with (first
          | (go_at_call 25; refine (HTG.out _ HS.out).mono ?_; rintro e w5 ⟨rfl, hS5, hk5⟩; have HS5 := Lib.hid hS5; have HK5 := Lib.hid hk5; have HB5 := Lib.hid (isBuilder_keepM HB.out hk5 (by simp; omega)); have HM5 := Lib.hid (HM.out.keep hk5 (by simp; omega)); have HV5 := Lib.hid (HV.out.others (othersU_disk HS.out.disk hk5)); clear hS5 hk5)
          | (go_at_call 80; refine (HTF1.out _ HS5.out.tab).mono ?_; rintro e w6 ⟨rfl, hk6⟩; have HK6 := Lib.hid hk6; clear hk6)
          | (go_at_call 90; refine (HTL.out _ (isBuilder_keepM HB5.out HK6.out (by simp))).mono ?_; rintro e w7 ⟨rfl, rfl⟩)
          | (go_at_call 62; refine (HTH.out _).mono ?_; rintro e w7 ⟨rfl, hk7⟩; have HK7 : Hid (Keep [] w5 w7) := HK6.out.trans hk7; clear hk7; obtain ⟨w8, hmu, hM8, hK8, -⟩ := (HM5.out.keep HK7.out (by simp)).put (P := Tryz.prog) Tryz.underlying92 Tryz.underlying30 (i : Int) (.agg #[.int .i64 (seg : Int), .int .i64 (T.length : Int), .int .i64 (f.length : Int), .int .u8 (c0.toNat : Int), .int .u8 (c1.toNat : Int), .int .u8 (c2.toNat : Int), .int .u8 (c3.toNat : Int), .int .u8 (c4.toNat : Int), .int .u8 (c5.toNat : Int), .int .u8 (c6.toNat : Int), .int .u8 (c7.toNat : Int)]); have HM8 := Lib.hid hM8; have HK8 := Lib.hid hK8; clear hM8 hK8)
          | (go_at_call 89; refine (wstr_calls2 (w.heap.size + 1) (w.heap.size + 1) T f _ (isBuilder_keepM (isBuilder_keepM HB5.out HK7.out (by simp)) HK8.out (by simp)) hTne (by omega) (by have := HK5.out.size; have := HK7.out.size; have := HK8.out.size; omega)).mono ?_; rintro e w9 ⟨⟨rr, rfl⟩, hB9, hb9', hX9⟩; have HB9 := Lib.hid hB9; have Hb9 := Lib.hid hb9'; have HX9 := Lib.hid hX9; clear hB9 hb9' hX9))
        have hpp := put_pairs (i : Int) ⟨seg, T.length, f.length, [c0, c1, c2, c3, c4, c5, c6, c7]⟩ M
        simp only [Pl.val, Pl.cells, List.map_cons, List.map_nil] at hpp
        have hM8 := HM8.out
        rw [hpp] at hM8
        have HM8' := Lib.hid hM8
        clear hpp hM8
        go_roundw
        case rel =>
          refine ⟨k + 1, D2, T ++ f, _, by omega, by go_num, HGR.out, HAL2.out, HG2.out, by rw [List.length_append]; omega, by rw [List.length_append]; omega, HB9.out, ?_, HM8'.out.below Hb9.out (by omega), ((HV5.out.others (othersU_nil HK7.out)).others (othersU_keep HK8.out ?_)).others HX9.out, ?_⟩
          · refine ((HS5.out.grow HK7.out).keep HK8.out ?_).below Hb9.out (by omega) (by omega) (by omega) (by omega) (by omega)
            intro x hx
            simp only [List.mem_singleton] at hx
            subst hx
            simp only [List.mem_cons, List.not_mem_nil, or_false, not_or]
            omega
          · intro x hx y
            simp only [List.mem_singleton] at hx
            subst hx
            rw [mapN_cell (HM5.out.keep HK7.out (by simp))]
            simp
          · exact (((HK.out.trans HK5.out).trans HK7.out.nil_).trans' HK8.out (by simp)).below_ Hb9.out (by omega)
        case measure => simp [intOf]; omega
      · rw [q1] at hga TG
        rw [if_pos (by simp)] at hga
        subst hga
        have HTG := Lib.hid TG
        clear TG q1
        go_wp2_with (go_at_call 25; refine (HTG.out _ HS.out).mono ?_; rintro e w5 ⟨rfl, hS5, hk5⟩; have HS5 := Lib.hid hS5; have HK5 := Lib.hid hk5; clear hS5 hk5)
        go_ret3
        exact ⟨⟨none, rfl⟩, HS5.out, HK.out.trans HK5.out⟩
    · obtain rfl : k = X.length := by omega
      have d1 : decide ((X.length : Int) < (X.length : Int)) = false := by simp
      rw [List.drop_of_length_le (Nat.le_refl _)] at hga
      simp only [List.map_nil, gatherL] at hga
      subst hga
      have hBs := HK.out.size
      have hgm := HM.out.lt
      clear hB hS hM hV hK hal hgd
      go_wp2_with (go_at_call 91; refine (Tryz.Builder_String_any (w.heap.size + 1) (w.heap.size + 1) T wr HB.out (by omega)).mono ?_; rintro e w5 ⟨rfl, hb5⟩; have Hb5 := Lib.hid hb5; clear hb5)
      go_ret3
      exact ⟨some w.heap.size, rfl, ⟨rfl, HM.out.below Hb5.out (by omega)⟩, HS.out.below Hb5.out (by omega) (by omega) (by omega) (by omega) (by omega), HK.out.below_ Hb5.out (by omega)⟩

end Go.Proofs.YtkplffkchanipaaGreatDoor
/- A chunk store: Compact. -/
namespace Go.Proofs.YtkplffkchanipaaGreatDoor
open Go.RowKit
attribute [local go_sem] size_bs bs_append
variable {w w' : World} {s b m g : Nat} {C C' : Ck} {D D' : Dk}

theorem look_del_ne {n s : List UInt8} (h : n ≠ s) : ∀ l : List (List UInt8 × Fil), lookF n (delF s l) = lookF n l
  | [] => rfl
  | p :: l => by
    by_cases hs : s = p.1
    · subst hs
      simp [delF, lookF, h]
    · simp only [delF, if_neg hs, lookF, look_del_ne h l]
theorem Dk.put_ne {D : Dk} {n name : List UInt8} (h : n ≠ name) (f : Fil) : lookF n (D.put name f).1.files = lookF n D.files := by
  unfold Dk.put
  split
  · rfl
  · simp only [Dk.store]
    split
    · rw [look_put, if_neg h]
    · exact look_del_ne h _
theorem Dk.write_ne {D : Dk} {n name : List UInt8} (h : n ≠ name) (x : List UInt8) : lookF n (D.write name x).1.files = lookF n D.files := by
  have hf := D.tries_alike.files
  unfold Dk.write Dk.change
  split
  · rw [hf]
  · split
    · rw [hf]
    · rw [Dk.put_ne h, hf]
theorem Dk.sync_ne {D : Dk} {n name : List UInt8} (h : n ≠ name) : lookF n (D.sync name).1.files = lookF n D.files := by
  have hf := D.tries_alike.files
  unfold Dk.sync
  split
  · rw [hf]
  · rw [Dk.put_ne h, hf]
theorem Dk.Good.removeL : ∀ (ns : List (List UInt8)) {D : Dk}, D.Good → (Dk.removeL ns D).Good
  | [], _, h => h
  | x :: ns, D, h => by
    rw [removeL_step]
    exact Dk.Good.removeL ns (h.put x ⟨fun _ => rfl, (h.clean.look x).2⟩)
theorem Dk.Good.remove {D : Dk} (h : D.Good) (ns : List (List UInt8)) : (D.remove ns).1.Good := by
  unfold Dk.remove
  split
  · exact h.tries
  · exact h.tries.removeL ns
theorem gatherL_good {C : Ck} {seg : Nat} : ∀ (is : List Nat) (D : Dk) (T : List UInt8) (M : List (Int × Pl)), D.Good → (gatherL C seg is D T M).2.2.1.Good
  | [], _, _, _, h => h
  | i :: is, D, T, M, h => by
    simp only [gatherL]
    split
    · exact Ck.got_good h i
    · exact gatherL_good is _ _ _ (Ck.got_good h i)
theorem Dk.Names.files_len {D : Dk} (h : D.Names segNames) : D.files.length ≤ 99 := by
  have := nodup_le _ _ h.nodup h.mem
  rw [List.length_map, segNames_len] at this
  exact this
/-- gather over a store that is sure. -/
theorem Sure.gather {C : Ck} {D : Dk} {X : List (Nat × List UInt8)} (h : Sure C D X) (hf : FitX X) (hb : X.length ≤ 1000) (hs : C.seg + 1 < 100) :
    ((C.gather (C.seg + 1) D).2.2.2 = 8 ∧ D.Alike (C.gather (C.seg + 1) D).2.2.1) ∨
    ∃ T' M' D', C.gather (C.seg + 1) D = (T', M', D', 0) ∧ D.Alike D' ∧ T'.length ≤ 100 + X.length * 4050 := by
  have hasc := h.asc
  have hlen : C.map.length = X.length := by
    have h1 := h.says.ids h.ok.map hasc
    have h2 := C.ids_len
    rw [h1, List.length_map] at h2
    exact h2.symm
  have hgp := gather_plain (C := C) (seg := C.seg + 1) ⟨by omega, by omega⟩ hf (by omega) X [] D (frame (encRec 3 X.length [])) [] rfl hasc h.says h.here.lost (by simp [frames]) (by
    have h1 := encU_len 3 (by omega)
    have h2 := encU_len X.length (by omega)
    have h3 := encU_len 0 (by omega)
    rw [frame_len]
    simp only [encRec, encS, List.length_append, List.length_nil]
    omega) (Says.nil _) MapOk.nil (by simp)
  have hga : C.gather (C.seg + 1) D = gatherL C (C.seg + 1) (X.map (·.1)) D (frame (encRec 3 X.length [])) [] := by
    unfold Ck.gather
    rw [h.says.ids h.ok.map hasc, hlen]
  rw [← hga] at hgp
  rcases hgp with h1 | ⟨T', M', D', h1, h2, _, _, _, _, h7⟩
  · exact .inl h1
  · exact .inr ⟨T', M', D', h1, h2, h7⟩
theorem before_len (D : Dk) (k : Nat) : (D.before k).length ≤ 100 := by
  unfold Dk.before Dk.segs
  rw [List.length_map]
  refine Nat.le_trans (List.length_filter_le _ _) (Nat.le_trans (List.length_filter_le _ _) ?_)
  simp
theorem before_mem {D : Dk} {k : Nat} {n : List UInt8} (h : n ∈ D.before k) : ∃ i, i < k ∧ i < 100 ∧ n = segName i ∧ (lookF n D.files).now.there = true := by
  unfold Dk.before at h
  obtain ⟨i, hi, rfl⟩ := List.mem_map.1 h
  obtain ⟨h1, h2⟩ := List.mem_filter.1 hi
  simp only [decide_eq_true_eq] at h2
  have h3 := segs_lt h1
  exact ⟨i, h2, h3.1, rfl, h3.2⟩

set_option maxRecDepth 100000 in
set_option maxHeartbeats 4000000 in
theorem compact_calls (h : StoreAt w s b m g C D) {X : List (Nat × List UInt8)} (hS : Sure C D X) (hf : FitX X) (hX : X.length ≤ 1000) (hs : C.seg + 2 < 100) :
    Calls Tryz.prog 26 #[.pointer (some ⟨s, 0, none⟩)] w fun e w' => ∃ g', e = .returned (.int .i64 (C.compact D).2.2) ∧ StoreAt w' s b m g' (C.compact D).1 (C.compact D).2.1 ∧ (g' = g ∨ w.heap.size ≤ g') ∧ Keep [s, b, m] w w' := by
  have hcs : C.sync D = (C, D, 0) := by
    unfold Ck.sync
    rw [hS.clean]
    simp
  have hcomp : C.compact D = if (C.gather (C.seg + 1) D).2.2.2 ≠ 0 then (C, (C.gather (C.seg + 1) D).2.2.1, (C.gather (C.seg + 1) D).2.2.2) else C.finish (C.gather (C.seg + 1) D).1 (C.gather (C.seg + 1) D).2.1 (C.gather (C.seg + 1) D).2.2.1 := by
    unfold Ck.compact
    rw [hcs]
    simp
  have hgq := hS.gather hf hX (by omega)
  have T1 := ssync_calls h hS.here.good.ok hS.seg (by omega)
  rw [hcs] at T1
  have T2 := fun (W : World) (hW : StoreAt W s b m g C D) => gather_calls hW hS.ok hS.here.good hS.here.lost hS.says hf hS.asc (by omega) (C.seg + 1)
  have hg1 : (C.gather (C.seg + 1) D).2.2.1.Good := gatherL_good _ _ _ _ hS.here.good
  have hseg1 := hS.seg
  have hnm := hS.here.names
  have H := Lib.hid h
  obtain ⟨R, hR⟩ : ∃ R, R = C.compact D := ⟨_, rfl⟩
  rw [← hR] at hcomp ⊢
  generalize C.gather (C.seg + 1) D = q at *
  obtain ⟨T, M, D1, e1⟩ := q
  simp only at hcomp hgq T2 hg1
  have HCP := Lib.hid hcomp
  have HT1 := Lib.hid T1
  have HT2 := Lib.hid T2
  have hb9 := h.blk.lt
  have hd9 := h.disk.blk.lt
  have hm9 := h.disk.map.lt
  have hg9 := h.map.lt
  have ht9 : 0 < w.heap.size := World.block_lt_of_cell? _ _ (h.tab 0 (by omega))
  have wr1 : IntKind.i64.wrap ((C.seg : Int) + 1) = ((C.seg + 1 : Nat) : Int) := by rw [IntWalk.i64_in _ (by omega)]; omega
  clear h hcomp T1 T2 hcs hR
  go_enter Tryz.func26, Tryz.ntmps26
  go_upto_region 6 with (first
    | (go_at_call 21; refine HT1.out.mono ?_; rintro e w1 ⟨rfl, hS1, hk1⟩; have HS1 := Lib.hid hS1; have HK1 := Lib.hid hk1; have z3 : w1.cell? ⟨s, 3, none⟩ = some (.int .i64 (C.seg : Int)) := hS1.blk.cell 3; clear hS1 hk1)
    | (go_at_call 64; refine (HT2.out _ HS1.out).mono ?_; rintro e w2 ⟨qm, rfl, hM2, hS2, hk2⟩; have HM2 := Lib.hid hM2; have HS2 := Lib.hid hS2; have HK2 := Lib.hid hk2; clear hM2 hS2 hk2))
  by_cases he1 : e1 = 0
  rotate_left
  · have b1 : (e1 != 0) = true := by simpa using he1
    go_wp2
    go_ret
    rw [HCP.out, if_pos he1]
    exact ⟨g, rfl, HS2.out, .inl rfl, (HK1.out.trans (HK2.out.mono (by simp)))⟩
  obtain ⟨hTl, hal⟩ : T.length ≤ 100 + X.length * 4050 ∧ D.Alike D1 := by
    rcases hgq with ⟨q1, -⟩ | ⟨T', M', D', q1, q2, q3⟩
    · omega
    · simp only [Prod.mk.injEq] at q1
      obtain ⟨rfl, rfl, rfl, -⟩ := q1
      exact ⟨q3, q2⟩
  obtain ⟨rfl, hM2⟩ := HM2.out he1
  have HMM := Lib.hid hM2
  have fin := HCP.out
  rw [if_neg (by simpa using he1)] at fin
  unfold Ck.finish at fin
  have b1 : (e1 != 0) = false := by simpa using he1
  clear hM2 HM2 HCP hgq he1 HT1 HT2
  have hN1 : D1.Names segNames := ⟨by rw [hal.files]; exact hnm.nodup, by rw [hal.files]; exact hnm.mem⟩
  have hnames := Dk.names_segs hN1
  have TN := fun (W : World) (hW : DiskAt W b m D1) => names_calls hW hg1.ok (by have := hN1.files_len; omega) (fun p hp => by
    obtain ⟨i, _, _, h3⟩ := mem_segNames.1 (hN1.mem p.1 (List.mem_map.2 ⟨p, hp, rfl⟩))
    rw [h3]
    exact Nat.le_of_ble_eq_true rfl)
  rw [hnames] at TN
  have his : ∀ i ∈ D1.segs, 1 ≤ i ∧ i < 100 := fun i hi => by
    have h3 := segs_lt hi
    refine ⟨?_, h3.1⟩
    rcases Nat.eq_zero_or_pos i with rfl | hp
    · have := Dk.now_out hN1 (i := 0) (by omega) rfl; rw [this] at h3; exact absurd h3.2 (by simp)
    · exact hp
  have hsl : D1.segs.length ≤ 1000 := by
    unfold Dk.segs
    refine Nat.le_trans (List.length_filter_le _ _) ?_
    simp
  have TB : ∀ (W : World) (v : Value), StrsAt W v (D1.segs.map segName) → Calls Tryz.prog 66 #[v, .int .i64 ((C.seg : Int) + 1)] W fun e w' => ∃ v', e = .returned v' ∧ OwnS w' W.heap.size v' ((D1.segs.filter fun i => decide (i < C.seg + 1)).map segName) ∧ Keep [] W w' := fun W v hv => by
    have h := before_calls v D1.segs his hv (C.seg + 1) hsl
    rw [show ((C.seg + 1 : Nat) : Int) = (C.seg : Int) + 1 from by omega] at h
    exact h
  have hbdef : (D1.segs.filter fun i => decide (i < C.seg + 1)).map segName = D1.before (C.seg + 1) := rfl
  rw [hbdef] at TB
  have hbm : ∀ n ∈ D1.before (C.seg + 1), n ≠ segName (C.seg + 1) ∧ (lookF n D1.files).now.there = true := fun n hn => by
    obtain ⟨i, q1, q2, rfl, q4⟩ := before_mem hn
    exact ⟨fun e => by have := segName_inj q2 (by omega) e; omega, q4⟩
  have hbl := before_len D1 (C.seg + 1)
  have hEf : D1.tries.1.files = D1.files := D1.tries_alike.files
  have hEg : D1.tries.1.Good := hg1.tries
  generalize D1.before (C.seg + 1) = ns at *
  generalize D1.tries = t at *
  obtain ⟨E, e2⟩ := t
  simp only at TN fin hEf hEg
  have TW := fun (W : World) (hW : DiskAt W b m E) => write_calls hW hEg.ok (segName (C.seg + 1)) (segName_ne _) T (by omega)
  have hFg : (E.write (segName (C.seg + 1)) T).1.Good := hEg.change _ _
  have hFf : ∀ n, n ≠ segName (C.seg + 1) → lookF n (E.write (segName (C.seg + 1)) T).1.files = lookF n E.files := fun n h => Dk.write_ne h T
  generalize E.write (segName (C.seg + 1)) T = t at *
  obtain ⟨F, e3⟩ := t
  simp only at TW fin hFg hFf
  have TY := fun (W : World) (p : Nat) (hW : DiskAt W b m F) (hp : Blk W p 9 #[.string (bs (segName (C.seg + 1)))]) => sync_calls hW hFg.ok (segName (C.seg + 1)) hp
  have hGg := hFg.sync (segName (C.seg + 1))
  have hGf : ∀ n, n ≠ segName (C.seg + 1) → lookF n (F.sync (segName (C.seg + 1))).1.files = lookF n F.files := fun n h => Dk.sync_ne h
  generalize F.sync (segName (C.seg + 1)) = t at *
  obtain ⟨G, e4⟩ := t
  simp only at TY fin hGg hGf
  have hth : ∀ n ∈ ns, (lookF n G.files).now.there = true := fun n hn => by
    obtain ⟨q1, q2⟩ := hbm n hn
    rw [hGf n q1, hFf n q1, hEf]
    exact q2
  have TR := fun (W : World) (v : Value) (hW : DiskAt W b m G) (hv : ∀ V, Keep [b, m] W V → StrsAt V v ns) => remove_calls hW hGg v ns hv hth (by omega)
  have hHg := hGg.remove ns
  generalize G.remove ns = t at *
  obtain ⟨H5, e5⟩ := t
  simp only at TR fin hHg
  have TZ := fun (W : World) (v : Value) (hW : DiskAt W b m H5) (hv : ∀ V, Keep [b, m] W V → StrsAt V v ns) (hne : ns ≠ []) => syncs_calls hW hHg v ns hv hne (by omega)
  generalize H5.syncs ns = t at *
  obtain ⟨H6, e6⟩ := t
  simp only at TZ fin
  have HTN := Lib.hid TN
  have HTB := Lib.hid TB
  have HTW := Lib.hid TW
  have HTY := Lib.hid TY
  have HTR := Lib.hid TR
  have HTZ := Lib.hid TZ
  have HFIN := Lib.hid fin
  clear TN TB TW TY TR TZ fin hN1 hnames his hbdef hbm hEf hEg hFg hFf hGg hGf hth hHg hg1 hal hnm hS hf
  have hsz1 := HK1.out.size
  have hsz2 := HK2.out.size
  have hns := HS2.out.ne_
  have HNS := Lib.hid hns
  have wr2 : IntKind.i64.wrap (((C.seg + 1 : Nat) : Int) + 1) = ((C.seg + 2 : Nat) : Int) := by rw [IntWalk.i64_in _ (by omega)]; omega
  have y0 : w2.cell? ⟨s, 0, none⟩ = some (.pointer (some ⟨b, 0, none⟩)) := HS2.out.blk.cell 0
  clear hns z3
  go_upto_region 9 with (go_at_call 27; refine (HTN.out _ HS2.out.disk).mono ?_; rintro e w3 ⟨v, rfl, hO3, hD3, hk3⟩; have HO3 := Lib.hid hO3; have HD3 := Lib.hid hD3; have HK3 := Lib.hid hk3; clear hO3 hD3 hk3)
  clear y0
  by_cases he2 : e2 = 0
  rotate_left
  · have b2 : (e2 != 0) = true := by simpa using he2
    go_wp2
    go_ret
    rw [HFIN.out, if_pos he2]
    exact ⟨g, rfl, HS2.out.setDisk (HK3.out.mono (by simp)) HD3.out, .inl rfl, (HK1.out.trans (HK2.out.mono (by simp))).trans (HK3.out.mono (by simp))⟩
  have b2 : (e2 != 0) = false := by simpa using he2
  have fin := HFIN.out
  rw [if_neg (by simpa using he2)] at fin
  have HO3' := Lib.hid (HO3.out he2)
  have HFIN3 := Lib.hid fin
  clear fin HFIN he2 HO3
  have HS3 := Lib.hid (HS2.out.setDisk (HK3.out.mono (by simp)) HD3.out)
  have HM3 : Hid (MapN .u64 w3 w1.heap.size (pairs M)) := HMM.out.keep HK3.out (by simp; omega)
  have HKA : Hid (Keep [s, b, m] w w3) := (HK1.out.trans (HK2.out.mono (by simp))).trans (HK3.out.mono (by simp))
  have HC3 : Hid (∀ W, Keep [b, m] w3 W → W.cell? ⟨s, 0, none⟩ = some (.pointer (some ⟨b, 0, none⟩))) := fun W hW => (HS3.out.blk.keep hW (by simp; exact ⟨HNS.out.1, HNS.out.2.1⟩)).cell 0
  go_upto_region 11 with fail
  go_region_held3 (fun w' => w'.cell? ⟨s, 0, none⟩ = some (.pointer (some ⟨b, 0, none⟩)))
    (first
      | (exact (HC3.out _ (by repeat (first | exact Keep.refl _ _ | exact HKN.out.nil_ | exact HK4.out | refine Keep.drew ?_ | refine Keep.drewN ?_ _ | refine Keep.alloc ?_ _))))
      | fail)
    (first
      | (go_at_call 24; refine (name_calls (C.seg + 1) (by omega) (by omega) _).mono ?_; rintro e wn ⟨rfl, hkn⟩; have HKN : Hid (Keep [] w3 wn) := Keep.trans' (M := []) (by repeat (first | exact Keep.refl _ _ | exact HKN.out | refine Keep.drew ?_ | refine Keep.drewN ?_ _ | refine Keep.alloc ?_ _)) hkn (by simp); clear hkn)
      | (go_at_call 65; refine (HTW.out _ (HS3.out.disk.keep (M := []) (by repeat (first | exact Keep.refl _ _ | exact HKN.out | refine Keep.drew ?_ | refine Keep.drewN ?_ _ | refine Keep.alloc ?_ _)) (by simp) (by simp))).mono ?_; rintro e w4 ⟨rfl, hD4, hk4⟩; have HK4 : Hid (Keep [b, m] w3 w4) := Keep.trans' (M := [b, m]) (by repeat (first | exact Keep.refl _ _ | exact HKN.out.nil_ | exact HK4.out | refine Keep.drew ?_ | refine Keep.drewN ?_ _ | refine Keep.alloc ?_ _)) hk4 (fun x hx => .inl hx); have HD4 := Lib.hid hD4; clear hD4 hk4)
      | fail)
  all_goals
    by_cases he3 : e3 = 0
    rotate_left
    · have b3 : (e3 != 0) = true := by simpa using he3
      go_wp2
      go_ret
      rw [HFIN3.out, if_pos he3]
      exact ⟨g, rfl, HS3.out.setDisk HK4.out HD4.out, .inl rfl, HKA.out.trans (HK4.out.mono (by simp))⟩
    have b3 : (e3 != 0) = false := by simpa using he3
    have fin := HFIN3.out
    rw [if_neg (by simpa using he3)] at fin
    have HFIN4 := Lib.hid fin
    clear fin HFIN3 he3
    have HS4 := Lib.hid (HS3.out.setDisk HK4.out HD4.out)
    have HKB : Hid (Keep [s, b, m] w w4) := HKA.out.trans (HK4.out.mono (by simp))
    have HC4 : Hid (∀ W, Keep [b, m] w4 W → W.cell? ⟨s, 0, none⟩ = some (.pointer (some ⟨b, 0, none⟩))) := fun W hW => (HS4.out.blk.keep hW (by simp; exact ⟨HNS.out.1, HNS.out.2.1⟩)).cell 0
    go_upto_region 14 with fail
    go_region_held3 (fun w' => w'.cell? ⟨s, 0, none⟩ = some (.pointer (some ⟨b, 0, none⟩)))
      (first
        | (exact (HC4.out _ (by repeat (first | exact Keep.refl _ _ | exact HKM.out.nil_ | exact HK5.out | refine Keep.drew ?_ | refine Keep.drewN ?_ _ | refine Keep.alloc ?_ _))))
        | fail)
      (first
        | (go_at_call 24; refine (name_calls (C.seg + 1) (by omega) (by omega) _).mono ?_; rintro e wm ⟨rfl, hkm⟩; have HKM : Hid (Keep [] w4 wm) := Keep.trans' (M := []) (by repeat (first | exact Keep.refl _ _ | exact HKM.out | refine Keep.drew ?_ | refine Keep.drewN ?_ _ | refine Keep.alloc ?_ _)) hkm (by simp); clear hkm)
        | (go_at_call 56; refine (HTY.out _ _ (HS4.out.disk.keep (M := []) (by repeat (first | exact Keep.refl _ _ | exact HKM.out | refine Keep.drew ?_ | refine Keep.drewN ?_ _ | refine Keep.alloc ?_ _)) (by simp) (by simp)) (Blk.new _ _ _)).mono ?_; rintro e w5 ⟨rfl, hD5, hk5⟩; have HK5 : Hid (Keep [b, m] w4 w5) := Keep.trans' (M := [b, m]) (by repeat (first | exact Keep.refl _ _ | exact HKM.out.nil_ | exact HK5.out | refine Keep.drew ?_ | refine Keep.drewN ?_ _ | refine Keep.alloc ?_ _)) hk5 (fun x hx => .inl hx); have HD5 := Lib.hid hD5; clear hD5 hk5)
        | fail)
    all_goals
      by_cases he4 : e4 = 0
      rotate_left
      · have b4 : (e4 != 0) = true := by simpa using he4
        go_wp2
        go_ret
        rw [HFIN4.out, if_pos he4]
        exact ⟨g, rfl, HS4.out.setDisk HK5.out HD5.out, .inl rfl, HKB.out.trans (HK5.out.mono (by simp))⟩
      have b4 : (e4 != 0) = false := by simpa using he4
      have fin := HFIN4.out
      rw [if_neg (by simpa using he4)] at fin
      have HFIN5 := Lib.hid fin
      clear fin HFIN4 he4
      have HS5 := Lib.hid (HS4.out.setDisk HK5.out HD5.out)
      have HKC : Hid (Keep [s, b, m] w w5) := HKB.out.trans (HK5.out.mono (by simp))
      have HM5 : Hid (MapN .u64 w5 w1.heap.size (pairs M)) := (HM3.out.keep HK4.out (by simp; omega)).keep HK5.out (by simp; omega)
      have HO5 := Lib.hid ((HO3'.out.keep HK4.out (by simp; omega)).keep HK5.out (by simp; omega))
      have yf : ∀ i, w5.frozen? ⟨s, i, none⟩ = false := fun i => HS5.out.blk.frozen i
      have y2 : w5.cell? ⟨s, 2, none⟩ = some (.map (some g)) := HS5.out.blk.cell 2
      have y3 : w5.cell? ⟨s, 3, none⟩ = some (.int .i64 (C.seg : Int)) := HS5.out.blk.cell 3
      have y4 : w5.cell? ⟨s, 4, none⟩ = some (.int .i64 (C.size : Int)) := HS5.out.blk.cell 4
      go_upto_region 18 with fail
      clear yf y2 y3 y4
      have hk6 : Keep [s] w5 (((w5.setCell ⟨s, 2, none⟩ (.map (some w1.heap.size))).setCell ⟨s, 3, none⟩ (.int .i64 ((C.seg : Int) + 1 + 1))).setCell ⟨s, 4, none⟩ (.int .i64 0)) := (((Keep.refl _ _).setCell (.inl (by simp)) _).setCell (.inl (by simp)) _).setCell (.inl (by simp)) _
      have hS6 : StoreAt (((w5.setCell ⟨s, 2, none⟩ (.map (some w1.heap.size))).setCell ⟨s, 3, none⟩ (.int .i64 ((C.seg : Int) + 1 + 1))).setCell ⟨s, 4, none⟩ (.int .i64 0)) s b m w1.heap.size { C with map := M, seg := C.seg + 2, size := 0 } G := by
        have hbk : Blk (((w5.setCell ⟨s, 2, none⟩ (.map (some w1.heap.size))).setCell ⟨s, 3, none⟩ (.int .i64 ((C.seg : Int) + 1 + 1))).setCell ⟨s, 4, none⟩ (.int .i64 0)) s 94 (({ C with map := M, seg := C.seg + 2, size := 0 } : Ck).cells b w1.heap.size) := by
          have h := ((HS5.out.blk.set_ 2 (.map (some w1.heap.size))).set_ 3 (.int .i64 ((C.seg : Int) + 1 + 1))).set_ 4 (.int .i64 0)
          unfold Ck.cells
          rw [show ((C.seg + 2 : Nat) : Int) = (C.seg : Int) + 1 + 1 from by omega]
          exact h
        refine ⟨hbk, HS5.out.disk.keep hk6 (by simp; exact fun e => HNS.out.1 e.symm) (by simp; exact fun e => HNS.out.2.1 e.symm), HM5.out.keep hk6 (by simp; omega), by omega, HS5.out.tab.keep hk6 (by have := HS5.out.tn; simp at this ⊢; omega), ?_⟩
        have := HS5.out.tn
        simp only [List.mem_cons, List.not_mem_nil, or_false, not_or] at this ⊢
        omega
      have HS6 := Lib.hid hS6
      have HK6 := Lib.hid hk6
      have HO6 := Lib.hid (HO5.out.keep hk6 (by simp; omega))
      have HKD : Hid (Keep [s, b, m] w (((w5.setCell ⟨s, 2, none⟩ (.map (some w1.heap.size))).setCell ⟨s, 3, none⟩ (.int .i64 ((C.seg : Int) + 1 + 1))).setCell ⟨s, 4, none⟩ (.int .i64 0))) := HKC.out.trans (hk6.mono (by simp))
      clear hS6 hk6
      generalize (((w5.setCell ⟨s, 2, none⟩ (.map (some w1.heap.size))).setCell ⟨s, 3, none⟩ (.int .i64 ((C.seg : Int) + 1 + 1))).setCell ⟨s, 4, none⟩ (.int .i64 0)) = W6 at *
      by_cases hnil : ns = []
      · subst hnil
        rw [if_pos rfl] at HFIN5
        go_wp2_with (go_at_call 66; refine (HTB.out _ _ HO6.out.at_).mono ?_; rintro e w7 ⟨v', rfl, hown7, hk7⟩; obtain ⟨A, c, rfl⟩ := hown7.slice; have HK7 := Lib.hid hk7; clear hown7 hk7)
        go_ret
        rw [HFIN5.out]
        exact ⟨w1.heap.size, rfl, HS6.out.grow HK7.out, .inr hsz1, HKD.out.trans HK7.out.nil_⟩
      · have hpos : 0 < ns.length := List.length_pos_iff.2 hnil
        have b0 : ((ns.length : Int) == 0) = false := by rw [beq_eq_false_iff_ne]; omega
        have fin := HFIN5.out
        rw [if_neg hnil] at fin
        have HFIN6 := Lib.hid fin
        have HNIL := Lib.hid hnil
        clear fin HFIN5 hnil
        go_upto_region 22 with (first
          | (go_at_call 66; refine (HTB.out _ _ HO6.out.at_).mono ?_; rintro e w7 ⟨v', rfl, hown7, hk7⟩; have HO7 := Lib.hid hown7; obtain ⟨A, c, rfl⟩ := hown7.slice; have HK7 := Lib.hid hk7; have HS7 := Lib.hid (HS6.out.grow hk7); have q0 : w7.cell? ⟨s, 0, none⟩ = some (.pointer (some ⟨b, 0, none⟩)) := HS7.out.blk.cell 0; clear hown7 hk7)
          | (go_at_call 67; refine (HTR.out _ _ HS7.out.disk (fun V hV => (HO7.out.keep hV (by have := HS6.out.disk.blk.lt; have := HS6.out.disk.map.lt; simp; omega)).at_)).mono ?_; rintro e w8 ⟨rfl, hD8, hk8⟩; have HS8 := Lib.hid (HS7.out.setDisk hk8 hD8); have HK8 := Lib.hid hk8; have q8 : w8.cell? ⟨s, 0, none⟩ = some (.pointer (some ⟨b, 0, none⟩)) := HS8.out.blk.cell 0; clear hD8 hk8))
        have HKE : Hid (Keep [s, b, m] w w8) := (HKD.out.trans HK7.out.nil_).trans (HK8.out.mono (by simp))
        by_cases he5 : e5 = 0
        rotate_left
        · have b5 : (e5 != 0) = true := by simpa using he5
          go_wp2
          go_ret
          rw [HFIN6.out, if_pos he5]
          exact ⟨w1.heap.size, rfl, HS8.out, .inr hsz1, HKE.out⟩
        have b5 : (e5 != 0) = false := by simpa using he5
        go_wp2_with (go_at_call 56; refine (HTZ.out _ _ HS8.out.disk (fun V hV => (HO7.out.keep (HK8.out.trans hV) (by have := HS6.out.disk.blk.lt; have := HS6.out.disk.map.lt; simp; omega)).at_) HNIL.out).mono ?_; rintro e w9 ⟨rfl, hD9, hk9⟩; have HS9 := Lib.hid (HS8.out.setDisk hk9 hD9); have HK9 := Lib.hid hk9; clear hD9 hk9)
        go_ret
        rw [HFIN6.out, if_neg (by simpa using he5)]
        exact ⟨w1.heap.size, rfl, HS9.out, .inr hsz1, HKE.out.trans (HK9.out.mono (by simp))⟩

end Go.Proofs.YtkplffkchanipaaGreatDoor
