/- Plain: what gather makes, and what any beginning of it says. -/
import Derived.Test.YtkplffkchanipaaGreatDoorChPlains
import Derived.Test.YtkplffkchanipaaGreatDoorRising
namespace Go.Proofs.YtkplffkchanipaaGreatDoor
open Go.RowKit

/-- Texts that hold no whole frame at their beginning. -/
theorem openF_part (c : List UInt8) (hc : c.length ≤ 1048576) (k : Nat) (hk : k < (frame c).length) : (openF ((frame c).take k)).2.2 ≠ 0 := by
  by_cases h8 : k < 8
  · rw [openF_short (by rw [List.length_take]; omega)]
    simp
  · rw [frame_len] at hk
    obtain ⟨a, b, c', d, h1, h2⟩ := be4_val (c.length : Int) (by omega) (by omega)
    have hcb := crc_bd (be4 (c.length : Int) ++ c)
    obtain ⟨e, f, g, h, h3, h4⟩ := be4_val (crc (be4 (c.length : Int) ++ c)) hcb.1 hcb.2
    have hfr : (frame c).take k = a :: b :: c' :: d :: e :: f :: g :: h :: c.take (k - 8) := by
      unfold frame
      rw [h3, h1]
      obtain ⟨j, rfl⟩ : ∃ j, k = j + 8 := ⟨k - 8, by omega⟩
      simp
    rw [hfr]
    simp only [openF, h2]
    rw [if_neg (by omega), if_pos (by rw [List.length_take]; omega)]
    simp
theorem frames_take : ∀ (cs : List (List UInt8)) (k : Nat), (∀ c ∈ cs, c.length ≤ 1048576) → ∃ j r, (frames cs).take k = frames (cs.take j) ++ r ∧ (openF r).2.2 ≠ 0
  | [], k, _ => ⟨0, [], by simp [frames], openF_nil⟩
  | c :: cs, k, h => by
    have hf : frames (c :: cs) = frame c ++ frames cs := by simp [frames]
    rw [hf]
    by_cases hk : k < (frame c).length
    · refine ⟨0, (frame c).take k, ?_, openF_part c (h c (by simp)) k hk⟩
      rw [List.take_append_of_le_length (by omega)]
      simp [frames]
    · obtain ⟨j, r, h1, h2⟩ := frames_take cs (k - (frame c).length) fun x hx => h x (by simp [hx])
      refine ⟨j + 1, r, ?_, h2⟩
      rw [List.take_append, List.take_of_length_le (by omega), h1]
      simp [frames]
theorem scan_take (cs : List (List UInt8)) (k : Nat) (h : ∀ c ∈ cs, c.length ≤ 1048576) : ∃ j, (scan ((frames cs).take k)).1 = cs.take j := by
  obtain ⟨j, r, h1, h2⟩ := frames_take cs k h
  refine ⟨j, ?_⟩
  rw [h1, scan_frames _ _ h2 fun c hc => h c (List.mem_of_mem_take hc)]

/-- The contents of a file with exactly these chunks. -/
def exactC (X : List (Nat × List UInt8)) : List (List UInt8) := encRec 3 X.length [] :: X.map fun p => encRec 1 p.1 p.2
/-- Chunks whose numbers and bytes are as they may be. -/
def FitX (X : List (Nat × List UInt8)) : Prop := ∀ p ∈ X, p.1 < 18446744073709551616 ∧ p.2.length ≤ 4000
theorem ins_last {p : Nat × List UInt8} : ∀ {l : List (Nat × List UInt8)}, (∀ q ∈ l, q.1 < p.1) → insX p l = l ++ [p]
  | [], _ => rfl
  | q :: l, h => by
    have hq := h q (by simp)
    unfold insX
    rw [if_neg (by omega), ins_last fun x hx => h x (by simp [hx])]
    rfl
theorem put_last {p : Nat × List UInt8} {l : List (Nat × List UInt8)} (h : ∀ q ∈ l, q.1 < p.1) : putX p l = l ++ [p] := by
  unfold putX dropX
  rw [List.filter_eq_self.2 fun q hq => by have := h q hq; simp; omega, ins_last h]
theorem abs_puts : ∀ (X Y : List (Nat × List UInt8)), FitX X → Asc (Y ++ X) → absF (X.map fun p => encRec 1 p.1 p.2) Y = Y ++ X
  | [], Y, _, _ => by simp [absF]
  | p :: X, Y, hf, ha => by
    have h1 := hf p (by simp)
    have hp := parse_enc (k := 1) (n := p.1) (x := p.2) (by omega) h1.1 (by omega)
    have hlt : ∀ q ∈ Y, q.1 < p.1 := fun q hq => (List.pairwise_append.1 ha).2.2 q hq p (by simp)
    simp only [List.map_cons, absF]
    rw [if_neg (by unfold stopsF; simp [hp])]
    have ho : absOne (encRec 1 p.1 p.2) Y = Y ++ [p] := by
      unfold absOne
      rw [hp]
      simp only [if_true]
      exact put_last hlt
    rw [ho, abs_puts X (Y ++ [p]) (fun x hx => hf x (by simp [hx])) (by simpa using ha)]
    simp
theorem exact_len {X : List (Nat × List UInt8)} (hf : FitX X) (hl : X.length < 18446744073709551616) : ∀ c ∈ exactC X, c.length ≤ 1048576 := by
  intro c hc
  unfold exactC at hc
  rcases List.mem_cons.1 hc with rfl | hc
  · have h1 := encU_len 3 (by omega)
    have h2 := encU_len X.length hl
    have h3 := encU_len 0 (by omega)
    simp only [encRec, encS, List.length_append, List.length_nil]
    omega
  · obtain ⟨p, hp, rfl⟩ := List.mem_map.1 hc
    have h0 := hf p hp
    have h1 := encU_len 1 (by omega)
    have h2 := encU_len p.1 h0.1
    have h3 := encU_len p.2.length (by omega)
    simp only [encRec, encS, List.length_append]
    omega
theorem abs_exact {X : List (Nat × List UInt8)} (hf : FitX X) (ha : Asc X) (hl : X.length < 18446744073709551616) (Z : List (Nat × List UInt8)) : absF (exactC X) Z = X := by
  have hp := parse_enc (k := 3) (n := X.length) (x := []) (by omega) hl (by simp)
  simp only [exactC, absF]
  rw [if_neg (by unfold stopsF; simp [hp])]
  have ho : absOne (encRec 3 X.length []) Z = [] := by unfold absOne; rw [hp]; simp
  rw [ho, abs_puts X [] hf (by simpa using ha)]
  rfl
/-- A beginning of such a file says nothing, or all. -/
theorem abs_exact_take {X : List (Nat × List UInt8)} (hf : FitX X) (ha : Asc X) (hl : X.length < 18446744073709551616) (j : Nat) : absF ((exactC X).take j) X = X := by
  by_cases hj : (exactC X).length ≤ j
  · rw [List.take_of_length_le hj, abs_exact hf ha hl]
  · match j, hj with
    | 0, _ => rfl
    | j + 1, hj =>
      have hp := parse_enc (k := 3) (n := X.length) (x := []) (by omega) hl (by simp)
      simp only [exactC, List.length_cons, List.length_map] at hj
      simp only [exactC, List.take_succ_cons, absF]
      rw [if_pos]
      refine .inr ⟨by rw [hp], ?_⟩
      rw [hp]
      simp only [List.length_take, List.length_map]
      omega

/-- Gather. -/
def gatherL (C : Ck) (seg : Nat) : List Nat → Dk → List UInt8 → List (Int × Pl) → List UInt8 × List (Int × Pl) × Dk × Int
  | [], D, T, M => (T, M, D, 0)
  | i :: is, D, T, M => if (C.get D i).2 ≠ 0 then ([], [], C.got D i, (C.get D i).2) else
    gatherL C seg is (C.got D i) (T ++ frame (encRec 1 i (C.get D i).1)) (putC (i : Int) ⟨seg, T.length, (frame (encRec 1 i (C.get D i).1)).length, (frame (encRec 1 i (C.get D i).1)).take 8⟩ M)
def Ck.ids (C : Ck) : List Nat := (rising (C.map.map (·.1))).map Int.toNat
def Ck.gather (C : Ck) (seg : Nat) (D : Dk) : List UInt8 × List (Int × Pl) × Dk × Int := gatherL C seg C.ids D (frame (encRec 3 C.map.length [])) []
theorem Ck.ids_cast {C : Ck} (h : MapOk C.map) : rising (C.map.map (·.1)) = C.ids.map fun i : Nat => (i : Int) := by
  unfold Ck.ids
  rw [List.map_map]
  symm
  have : ∀ x ∈ rising (C.map.map (·.1)), ((fun i : Nat => (i : Int)) ∘ Int.toNat) x = x := fun x hx => by
    have hx2 : x ∈ C.map.map (·.1) := (List.mergeSort_perm _ _).mem_iff.1 hx
    obtain ⟨p, hp, rfl⟩ := List.mem_map.1 hx2
    have := h.key p hp
    simp only [Function.comp]
    omega
  rw [List.map_congr_left this, List.map_id']
theorem Ck.ids_len {C : Ck} : C.ids.length = C.map.length := by unfold Ck.ids; rw [List.length_map, rising_len, List.length_map]
theorem Says.ids {C : Ck} {D : Dk} {X : List (Nat × List UInt8)} (h : Says D C.map X) (hM : MapOk C.map) (ha : Asc X) : C.ids = X.map (·.1) := by
  have e : rising (C.map.map (·.1)) = X.map fun p => (p.1 : Int) := by
    have tr : ∀ a b c : Int, decide (a ≤ b) = true → decide (b ≤ c) = true → decide (a ≤ c) = true := fun a b c h1 h2 => by simp only [decide_eq_true_eq] at *; omega
    have ttl : ∀ a b : Int, (decide (a ≤ b) || decide (b ≤ a)) = true := fun a b => by simp only [Bool.or_eq_true, decide_eq_true_eq]; omega
    refine List.Perm.eq_of_pairwise (le := fun a b : Int => decide (a ≤ b) = true) (fun a b _ _ h1 h2 => by simp only [decide_eq_true_eq] at h1 h2; omega) (List.pairwise_mergeSort tr ttl _) (List.pairwise_map.2 (ha.imp fun {p q : Nat × List UInt8} (h : p.1 < q.1) => by simp only [decide_eq_true_eq]; omega)) ((List.mergeSort_perm _ _).trans ((List.perm_ext_iff_of_nodup hM.nodup (List.pairwise_map.2 (ha.imp fun {p q : Nat × List UInt8} (h : p.1 < q.1) => by omega))).2 fun x => ?_))
    rw [← lookC_mem]
    constructor
    · intro hx
      cases hl : lookC x C.map with
      | none => rw [hl] at hx; cases hx
      | some p =>
        have hk := hM.key _ (look_mem _ _ _ hl)
        simp only at hk
        obtain ⟨i, rfl⟩ : ∃ i : Nat, x = (i : Int) := ⟨x.toNat, by omega⟩
        obtain ⟨d, h1, _⟩ := h.one i p hl
        exact List.mem_map.2 ⟨_, look_memX h1, rfl⟩
    · intro hx
      obtain ⟨p, hp, rfl⟩ := List.mem_map.1 hx
      cases hl : lookC (p.1 : Int) C.map with
      | none => have := h.none_ p.1 hl; rw [look_ofX ha hp] at this; cases this
      | some _ => rfl
  unfold Ck.ids
  rw [e, List.map_map]
  exact List.map_congr_left fun p _ => by simp

/-- A disk with one file alone. -/
def Dk.one (seg : Nat) (T : List UInt8) : Dk := ⟨0, 0, false, 0, [(segName seg, ⟨⟨true, T⟩, ⟨true, T⟩⟩)]⟩
theorem Dk.one_now (seg : Nat) (T : List UInt8) : (Dk.one seg T).now seg = ⟨true, T⟩ := by simp [Dk.now, Dk.one, lookF]
/-- Two disks with the same files, of one room. -/
structure Dk.Alike (D D' : Dk) : Prop where
  files : D'.files = D.files
  room : D'.room = D.room
  used : D'.used = D.used
  lost : D'.lost = D.lost
theorem Dk.Alike.refl (D : Dk) : D.Alike D := ⟨rfl, rfl, rfl, rfl⟩
theorem Dk.Alike.trans {a b c : Dk} (h : a.Alike b) (k : b.Alike c) : a.Alike c := ⟨k.files.trans h.files, k.room.trans h.room, k.used.trans h.used, k.lost.trans h.lost⟩
theorem Dk.tries_alike (D : Dk) : D.Alike D.tries.1 := by
  unfold Dk.tries
  split
  · exact .refl D
  · split <;> exact ⟨rfl, rfl, rfl, rfl⟩
theorem Dk.tries_or {D : Dk} (h : D.lost = false) : D.tries.2 = 0 ∨ D.tries.2 = 8 := by
  unfold Dk.tries
  rw [h]
  simp only [Bool.false_eq_true, if_false]
  split
  · simp only
    split <;> simp
  · simp
theorem Dk.Alike.now {D D' : Dk} (h : D.Alike D') (i : Nat) : D'.now i = D.now i := by unfold Dk.now; rw [h.files]
/-- Get, whatever the luck. -/
theorem Says.get_luck {C : Ck} {D : Dk} {X : List (Nat × List UInt8)} (h : Says D C.map X) (hl : D.lost = false) {i : Nat} {d : List UInt8} (hi : lookX i X = some d) : (C.get D i = (d, 0) ∧ D.tries.2 = 0) ∨ (C.get D i = ([], 8) ∧ D.tries.2 = 8) := by
  unfold Ck.get
  cases hc : lookC (i : Int) C.map with
  | none => rw [h.none_ i hc] at hi; cases hi
  | some p =>
    obtain ⟨d', h1, h2⟩ := h.one i p hc
    rw [h1] at hi
    injection hi with hi
    subst hi
    have hn := D.tries_alike.now p.seg
    rcases Dk.tries_or hl with ht | ht
    · have hr : D.read (segName p.seg) = ((D.now p.seg).text, 0) := by
        have := h2.there
        unfold Dk.read
        rw [if_neg (by simp [ht])]
        rw [← hn] at this ⊢
        unfold Dk.now at this ⊢
        simp [this]
      simp only [hr]
      rw [if_neg (by simp), atF_placed h2]
      exact .inl ⟨rfl, ht⟩
    · have hr : D.read (segName p.seg) = ([], 8) := by
        unfold Dk.read
        rw [if_pos (by simp [ht]), ht]
      simp only [hr]
      exact .inr ⟨by simp, ht⟩
theorem Ck.got_alike (C : Ck) (D : Dk) (i : Nat) : D.Alike (C.got D i) := by
  unfold Ck.got
  split
  · exact D.tries_alike
  · exact .refl D
theorem Says.alike {D D' : Dk} {L : List (Int × Pl)} {X : List (Nat × List UInt8)} (h : Says D L X) (ha : D.Alike D') : Says D' L X :=
  h.mono fun i p _ ht => ⟨by rw [ha.now]; exact ht, [], by rw [ha.now]; simp⟩
theorem gather_plain {C : Ck} {seg : Nat} (hs : 1 ≤ seg ∧ seg < 100) {X : List (Nat × List UInt8)} (hf : FitX X) (hbig : X.length ≤ 1000000) : ∀ (R Y : List (Nat × List UInt8)) (D : Dk) (T : List UInt8) (M : List (Int × Pl)), Y ++ R = X → Asc X → Says D C.map X → D.lost = false →
    T = frames (encRec 3 X.length [] :: Y.map fun p => encRec 1 p.1 p.2) → T.length ≤ 100 + Y.length * 4050 → Says (Dk.one seg T) M Y → MapOk M → (∀ q ∈ M, q.2.seg = seg) →
    ((gatherL C seg (R.map (·.1)) D T M).2.2.2 = 8 ∧ D.Alike (gatherL C seg (R.map (·.1)) D T M).2.2.1) ∨
    ∃ T' M' D', gatherL C seg (R.map (·.1)) D T M = (T', M', D', 0) ∧ D.Alike D' ∧ T' = frames (exactC X) ∧ Says (Dk.one seg T') M' X ∧ MapOk M' ∧ (∀ q ∈ M', q.2.seg = seg) ∧ T'.length ≤ 100 + X.length * 4050
  | [], Y, D, T, M, he, _, _, _, hT, hTl, hM, hOk, hq => by
    rw [List.append_nil] at he
    subst he
    exact .inr ⟨T, M, D, rfl, .refl D, hT, hM, hOk, hq, hTl⟩
  | p :: R, Y, D, T, M, he, ha, hsay, hl, hT, hTl, hM, hOk, hq => by
    have hp : p ∈ X := by rw [← he]; simp
    have hlook := look_ofX ha hp
    simp only [List.map_cons, gatherL]
    have hal := C.got_alike D p.1
    rcases hsay.get_luck hl hlook with ⟨g1, g2⟩ | ⟨g1, g2⟩
    · rw [g1]
      simp only [ne_eq, not_true_eq_false, if_false]
      have hfp := hf p hp
      obtain ⟨r1, r2⟩ := recs_enc (k := 1) (.inl rfl) hfp.1 hfp.2
      have hpe := parse_enc (k := 1) (n := p.1) (x := p.2) (by omega) hfp.1 (by omega)
      have hlt : ∀ q ∈ Y, q.1 < p.1 := fun q hq => by
        rw [← he] at ha
        exact (List.pairwise_append.1 ha).2.2 q hq p (by simp)
      have hYl : Y.length ≤ 1000000 := by
        have : (Y ++ p :: R).length ≤ 1000000 := by rw [he]; exact hbig
        rw [List.length_append] at this
        omega
      have hn : (Dk.one seg (T ++ frame (encRec 1 p.1 p.2))).now seg = ⟨true, T ++ frame (encRec 1 p.1 p.2)⟩ := Dk.one_now _ _
      have h8 : 8 ≤ (frame (encRec 1 p.1 p.2)).length := by rw [frame_len]; omega
      have hpl : Placed (Dk.one seg (T ++ frame (encRec 1 p.1 p.2))) ⟨seg, T.length, (frame (encRec 1 p.1 p.2)).length, (frame (encRec 1 p.1 p.2)).take 8⟩ p.1 p.2 :=
        ⟨by simp only [hn], by simp only [hn, List.length_append]; omega, h8, by simp only [hn, List.drop_left], encRec 1 p.1 p.2, by simp only [hn, List.drop_left]; rw [List.take_of_length_le (Nat.le_refl _), OnlyF_frame _ (r1 _ (by simp)).1], hpe⟩
      have hM2 : Says (Dk.one seg (T ++ frame (encRec 1 p.1 p.2))) M Y := hM.mono fun i q hq' _ => by
        have := hq _ (look_mem _ _ _ hq')
        simp only at this
        rw [this, hn, Dk.one_now]
        exact ⟨rfl, _, rfl⟩
      have hM3 := hM2.put hpl
      rw [put_last hlt] at hM3
      have hY2 : (Y ++ [p]) ++ R = X := by simpa using he
      rcases gather_plain hs hf hbig R (Y ++ [p]) (C.got D p.1) (T ++ frame (encRec 1 p.1 p.2)) (putC (p.1 : Int) ⟨seg, T.length, (frame (encRec 1 p.1 p.2)).length, (frame (encRec 1 p.1 p.2)).take 8⟩ M) hY2 ha (hsay.alike hal) (by rw [hal.lost]; exact hl)
        (by rw [hT, frames_snoc]; simp) (by rw [List.length_append, List.length_append]; simp only [List.length_cons, List.length_nil]; omega) hM3 (hOk.put hfp.1 (by simp only [List.length_take]; omega) ⟨hs.1, hs.2, by simp only; omega, by simp only; omega⟩)
        (fun q hq' => by rcases mem_putC hq' with rfl | hq'; rfl; exact hq q hq') with ⟨a1, a2⟩ | ⟨T', M', D', a1, a2, a3⟩
      · exact .inl ⟨a1, hal.trans a2⟩
      · exact .inr ⟨T', M', D', a1, hal.trans a2, a3⟩
    · rw [g1, if_pos (by simp)]
      exact .inl ⟨rfl, hal⟩

end Go.Proofs.YtkplffkchanipaaGreatDoor
/- Plain: what a crash leaves of each file. -/
namespace Go.Proofs.YtkplffkchanipaaGreatDoor
open Go.RowKit

theorem look_del (n s : List UInt8) : ∀ l : List (List UInt8 × Fil), (l.map (·.1)).Nodup → lookF n (delF s l) = if n = s then Fil.none_ else lookF n l
  | [], _ => by simp [delF, lookF]
  | p :: l, hn => by
    simp only [List.map_cons, List.nodup_cons] at hn
    by_cases h : s = p.1
    · subst h
      by_cases hx : n = p.1
      · subst hx
        simp only [delF, if_true]
        exact look_none hn.1
      · simp [delF, lookF, hx]
    · simp only [delF, h, if_false, lookF, look_del n s l hn.2]
      by_cases hx : n = p.1
      · subst hx
        simp [Ne.symm h]
      · simp [hx]
/-- A file is put that weighs no more than the one there was. -/
theorem Dk.put_light {D : Dk} (h : D.Good) {ns : List (List UInt8)} (hN : D.Names ns) {name : List UInt8} (hn : name ∈ ns) {f : Fil} (hc : f.Clean) (hw : f.weight ≤ (lookF name D.files).weight) :
    ∃ D', D.put name f = (D', 0) ∧ D'.Good ∧ D'.Names ns ∧ D'.lost = D.lost ∧ D'.armed = D.armed ∧ D'.room = D.room ∧ D'.used ≤ D.used ∧ lookF name D'.files = f ∧ ∀ n, n ≠ name → lookF n D'.files = lookF n D.files := by
  have hf := h.ok.fits
  have hg := h.put name hc
  have hm := hN.put hn f
  have hp : D.put name f = (D.store name f, 0) := by unfold Dk.put; rw [if_neg (by omega)]
  rw [hp] at hg hm
  refine ⟨_, hp, hg, hm, rfl, rfl, rfl, by simp only [Dk.store]; omega, ?_, fun n hx => ?_⟩
  · simp only [Dk.store]
    split
    · rw [look_put, if_pos rfl]
    · rename_i hth
      rw [look_del _ _ _ hN.nodup, if_pos rfl]
      have h1 : f.now.there = false := by revert hth; cases f.now.there <;> simp
      have h2 : f.sure.there = false := by revert hth; cases f.sure.there <;> simp
      obtain ⟨⟨a, s⟩, ⟨c, t⟩⟩ := f
      simp only at h1 h2
      subst h1
      subst h2
      have e1 : s = [] := hc.1 rfl
      have e2 : t = [] := hc.2 rfl
      subst e1
      subst e2
      rfl
  · simp only [Dk.store]
    split
    · rw [look_put, if_neg hx]
    · rw [look_del _ _ _ hN.nodup, if_neg hx]
/-- The states that a crash can leave of a file. -/
def Fil.May (f : Fil) (s : St) : Prop := s = f.sure ∨ s = f.now ∨ (f.now.there = true ∧ f.sure.text <+: f.now.text ∧ ∃ k, s = ⟨true, f.now.text.take k⟩ ∧ f.sure.text.length < k)
theorem Fil.left_may (f : Fil) (ch : List Int) (k : Nat) : f.May (f.left ch k) := by
  unfold Fil.left
  split
  · rename_i h
    split
    · exact .inl rfl
    · rename_i hp
      exact .inr (.inr ⟨h.1, List.isPrefixOf_iff_prefix.1 h.2.2, _, rfl, by omega⟩)
  · split
    · exact .inl rfl
    · exact .inr (.inl rfl)
theorem pick_nil (k n : Nat) : pick [] k n = 0 := by simp [pick]
theorem Fil.left_nil (f : Fil) (k : Nat) : f.left [] k = f.sure := by
  unfold Fil.left
  simp [pick_nil]
theorem Fil.weight_both (s : St) (f : Fil) (h : (s.text.length : Int) ≤ f.weight) : Fil.weight ⟨s, s⟩ ≤ f.weight := by
  simp only [Fil.weight] at h ⊢
  split <;> split at h <;> omega
theorem crashL_look (ch : List Int) {ns : List (List UInt8)} : ∀ (l : List (List UInt8)) (k : Nat) (D : Dk), D.Good → D.Names ns → l.Nodup → (∀ n ∈ l, n ∈ ns) →
    (crashL ch l k D).Good ∧ (crashL ch l k D).Names ns ∧ (crashL ch l k D).lost = D.lost ∧ (crashL ch l k D).armed = D.armed ∧ (crashL ch l k D).room = D.room ∧ (crashL ch l k D).used ≤ D.used ∧
    (∀ n, n ∉ l → lookF n (crashL ch l k D).files = lookF n D.files) ∧ ∀ n, n ∈ l → ∃ s, lookF n (crashL ch l k D).files = ⟨s, s⟩ ∧ (lookF n D.files).May s ∧ (ch = [] → s = (lookF n D.files).sure)
  | [], _, D, hg, hN, _, _ => ⟨hg, hN, rfl, rfl, rfl, Int.le_refl _, fun _ _ => rfl, fun n hn => by simp at hn⟩
  | x :: l, k, D, hg, hN, hnd, hm => by
    obtain ⟨hx, hnd⟩ := List.nodup_cons.1 hnd
    have hm' : ∀ n ∈ l, n ∈ ns := fun n hn => hm n (by simp [hn])
    unfold crashL
    split
    · rename_i hs
      obtain ⟨a1, a2, a3, a4, a5, a6, a7, a8⟩ := crashL_look ch l k D hg hN hnd hm'
      refine ⟨a1, a2, a3, a4, a5, a6, fun n hn => a7 n fun h => hn (by simp [h]), fun n hn => ?_⟩
      rcases List.mem_cons.1 hn with rfl | hn
      · rw [a7 n hx]
        have e : (lookF n D.files).now = (lookF n D.files).sure := by
          revert hs
          generalize lookF n D.files = f
          obtain ⟨⟨a, s⟩, ⟨c, t⟩⟩ := f
          rintro ⟨h1, h2⟩
          simp only at h1 h2
          rw [h1, h2]
        refine ⟨(lookF n D.files).sure, ?_, .inl rfl, fun _ => rfl⟩
        revert e
        generalize lookF n D.files = f
        obtain ⟨a, c⟩ := f
        intro e
        simp only at e
        rw [e]
      · exact a8 n hn
    · have hcl := (hg.clean.look x).left ch k
      have hle := (lookF x D.files).left_le ch k
      obtain ⟨D1, p0, p1, p2, p3, p4, p5, p6, p7, p8⟩ := Dk.put_light hg hN (hm x (by simp)) (f := ⟨(lookF x D.files).left ch k, (lookF x D.files).left ch k⟩) ⟨hcl, hcl⟩ (Fil.weight_both _ _ hle)
      rw [p0]
      obtain ⟨a1, a2, a3, a4, a5, a6, a7, a8⟩ := crashL_look ch l (k + 1) D1 p1 p2 hnd hm'
      refine ⟨a1, a2, a3.trans p3, a4.trans p4, a5.trans p5, Int.le_trans a6 p6, fun n hn => ?_, fun n hn => ?_⟩
      · simp only [List.mem_cons, not_or] at hn
        rw [a7 n hn.2, p8 n hn.1]
      · rcases List.mem_cons.1 hn with rfl | hn2
        · exact ⟨_, by rw [a7 n hx, p7], Fil.left_may _ ch k, fun e => by subst e; exact Fil.left_nil _ k⟩
        · obtain ⟨s, b1, b2, b3⟩ := a8 n hn2
          have hne : n ≠ x := fun e => hx (e ▸ hn2)
          rw [p8 n hne] at b2 b3
          exact ⟨s, b1, b2, b3⟩
/-- A crash: each file is safe, and is as it may be left. -/
theorem Dk.crash_look {D : Dk} (hg : D.Good) {ns : List (List UInt8)} (hN : D.Names ns) (ch : List Int) :
    (D.crash ch).Good ∧ (D.crash ch).Names ns ∧ (D.crash ch).lost = D.lost ∧ (D.crash ch).armed = D.armed ∧ (D.crash ch).room = D.room ∧ (D.crash ch).used ≤ D.used ∧
    ∀ n, ∃ s, lookF n (D.crash ch).files = ⟨s, s⟩ ∧ (lookF n D.files).May s ∧ (ch = [] → s = (lookF n D.files).sure) := by
  have hp := sorted_perm (D.files.map (·.1))
  obtain ⟨a1, a2, a3, a4, a5, a6, a7, a8⟩ := crashL_look ch D.all 0 D hg hN (hp.nodup_iff.2 hN.nodup) (fun n hn => hN.mem n (hp.mem_iff.1 hn))
  refine ⟨a1, a2, a3, a4, a5, a6, fun n => ?_⟩
  by_cases hn : n ∈ D.all
  · exact a8 n hn
  · have e : lookF n D.files = Fil.none_ := look_none fun h => hn (hp.mem_iff.2 h)
    refine ⟨St.none_, ?_, by rw [e]; exact .inl rfl, fun _ => by rw [e]; rfl⟩
    show lookF n (crashL ch D.all 0 D).files = _
    rw [a7 n hn, e]
    rfl

end Go.Proofs.YtkplffkchanipaaGreatDoor
/- Plain: Compact, whatever the disk's luck is. -/
namespace Go.Proofs.YtkplffkchanipaaGreatDoor
open Go.RowKit

def Dk.removeL : List (List UInt8) → Dk → Dk
  | [], D => D
  | n :: ns, D => Dk.removeL ns (D.put n ⟨St.none_, (lookF n D.files).sure⟩).1
def Dk.syncL : List (List UInt8) → Dk → Dk
  | [], D => D
  | n :: ns, D => Dk.syncL ns (D.put n ⟨(lookF n D.files).now, (lookF n D.files).now⟩).1
/-- Remove of files that are there; Sync of some files. -/
def Dk.remove (D : Dk) (ns : List (List UInt8)) : Dk × Int := if D.tries.2 ≠ 0 then D.tries else (Dk.removeL ns D.tries.1, 0)
def Dk.syncs (D : Dk) (ns : List (List UInt8)) : Dk × Int := if D.tries.2 ≠ 0 then D.tries else (Dk.syncL ns D.tries.1, 0)
/-- The names of the files with smaller numbers. -/
def Dk.before (D : Dk) (k : Nat) : List (List UInt8) := (D.segs.filter fun i => decide (i < k)).map segName
/-- Compact behind gather. -/
def Ck.finish (C : Ck) (T : List UInt8) (M : List (Int × Pl)) (D : Dk) : Ck × Dk × Int :=
  if D.tries.2 ≠ 0 then (C, D.tries.1, D.tries.2) else
  if (D.tries.1.write (segName (C.seg + 1)) T).2 ≠ 0 then (C, (D.tries.1.write (segName (C.seg + 1)) T).1, (D.tries.1.write (segName (C.seg + 1)) T).2) else
  if ((D.tries.1.write (segName (C.seg + 1)) T).1.sync (segName (C.seg + 1))).2 ≠ 0 then (C, ((D.tries.1.write (segName (C.seg + 1)) T).1.sync (segName (C.seg + 1))).1, ((D.tries.1.write (segName (C.seg + 1)) T).1.sync (segName (C.seg + 1))).2) else
  if D.before (C.seg + 1) = [] then ({ C with map := M, seg := C.seg + 2, size := 0 }, ((D.tries.1.write (segName (C.seg + 1)) T).1.sync (segName (C.seg + 1))).1, 0) else
  if (((D.tries.1.write (segName (C.seg + 1)) T).1.sync (segName (C.seg + 1))).1.remove (D.before (C.seg + 1))).2 ≠ 0 then ({ C with map := M, seg := C.seg + 2, size := 0 }, (((D.tries.1.write (segName (C.seg + 1)) T).1.sync (segName (C.seg + 1))).1.remove (D.before (C.seg + 1))).1, (((D.tries.1.write (segName (C.seg + 1)) T).1.sync (segName (C.seg + 1))).1.remove (D.before (C.seg + 1))).2) else
  ({ C with map := M, seg := C.seg + 2, size := 0 }, ((((D.tries.1.write (segName (C.seg + 1)) T).1.sync (segName (C.seg + 1))).1.remove (D.before (C.seg + 1))).1.syncs (D.before (C.seg + 1))).1, ((((D.tries.1.write (segName (C.seg + 1)) T).1.sync (segName (C.seg + 1))).1.remove (D.before (C.seg + 1))).1.syncs (D.before (C.seg + 1))).2)
def Ck.compact (C : Ck) (D : Dk) : Ck × Dk × Int :=
  if (C.sync D).2.2 ≠ 0 then C.sync D else
  if ((C.sync D).1.gather (C.seg + 1) (C.sync D).2.1).2.2.2 ≠ 0 then ((C.sync D).1, ((C.sync D).1.gather (C.seg + 1) (C.sync D).2.1).2.2.1, ((C.sync D).1.gather (C.seg + 1) (C.sync D).2.1).2.2.2) else
  (C.sync D).1.finish ((C.sync D).1.gather (C.seg + 1) (C.sync D).2.1).1 ((C.sync D).1.gather (C.seg + 1) (C.sync D).2.1).2.1 ((C.sync D).1.gather (C.seg + 1) (C.sync D).2.1).2.2.1

/-- A disk in order that is there, with files of a store. -/
structure Dk.Here (D : Dk) : Prop where
  good : D.Good
  names : D.Names segNames
  lost : D.lost = false
theorem Dk.Here.tries {D : Dk} (h : D.Here) : D.tries.1.Here := ⟨h.good.tries, h.names.tries, by rw [D.tries_alike.lost]; exact h.lost⟩
theorem Dk.Here.write {D : Dk} (h : D.Here) {i : Nat} (hi : 1 ≤ i ∧ i < 100) (s : List UInt8) (hn : lookF (segName i) D.files = Fil.none_) :
    (((D.write (segName i) s).2 = 8 ∨ (D.write (segName i) s).2 = 7 ∧ D.room < D.used + s.length) ∧ D.Alike (D.write (segName i) s).1 ∧ (D.write (segName i) s).1.Here) ∨
    ((D.write (segName i) s).2 = 0 ∧ (D.write (segName i) s).1.Here ∧ (D.write (segName i) s).1.room = D.room ∧ (D.write (segName i) s).1.used = D.used + s.length ∧ lookF (segName i) (D.write (segName i) s).1.files = ⟨⟨true, s⟩, St.none_⟩ ∧ ∀ n, n ≠ segName i → lookF n (D.write (segName i) s).1.files = lookF n D.files) := by
  have hm : segName i ∈ segNames := mem_segNames.2 ⟨i, hi.1, hi.2, rfl⟩
  have hg := h.good.change (segName i) (fun _ => s)
  have hN := h.names.change hm (fun _ => s)
  have hal := D.tries_alike
  unfold Dk.write
  rcases Dk.tries_or h.lost with ht | ht
  · have hc : D.change (segName i) (fun _ => s) = D.tries.1.put (segName i) ⟨⟨true, s⟩, St.none_⟩ := by
      unfold Dk.change
      rw [if_neg (by simp [ht]), if_neg (segName_ne i), hal.files, hn]
      rfl
    have hw : Fil.weight ⟨⟨true, s⟩, St.none_⟩ = s.length := by simp [Fil.weight, St.none_]
    have hw0 : (lookF (segName i) D.tries.1.files).weight = 0 := by rw [hal.files, hn]; rfl
    rw [hc] at hg hN ⊢
    have hp : D.tries.1.put (segName i) ⟨⟨true, s⟩, St.none_⟩ = if D.room - D.used < s.length then (D.tries.1, 7) else (D.tries.1.store (segName i) ⟨⟨true, s⟩, St.none_⟩, 0) := by
      unfold Dk.put
      rw [hw, hw0, hal.room, hal.used, Int.sub_zero]
    rw [hp] at hg hN ⊢
    split at hg
    · rename_i hf
      rw [if_pos hf] at hN ⊢
      exact .inl ⟨.inr ⟨rfl, by omega⟩, hal, h.tries⟩
    · rename_i hf
      rw [if_neg hf] at hN ⊢
      refine .inr ⟨rfl, ⟨hg, hN, by simp only [Dk.store]; rw [hal.lost]; exact h.lost⟩, by simp only [Dk.store]; exact hal.room, by simp only [Dk.store]; rw [hw, hw0, hal.used]; omega, by simp [Dk.store, look_put], fun n hx => ?_⟩
      simp only [Dk.store, Bool.true_or, if_true, look_put, if_neg hx, hal.files]
  · have hc : D.change (segName i) (fun _ => s) = (D.tries.1, 8) := by
      unfold Dk.change
      rw [if_pos (by simp [ht])]
      rw [← ht]
    rw [hc]
    exact .inl ⟨.inl rfl, hal, h.tries⟩
theorem Dk.Here.sync {D : Dk} (h : D.Here) {i : Nat} (hi : 1 ≤ i ∧ i < 100) :
    ((D.sync (segName i)).2 = 8 ∧ D.Alike (D.sync (segName i)).1 ∧ (D.sync (segName i)).1.Here) ∨
    ((D.sync (segName i)).2 = 0 ∧ (D.sync (segName i)).1.Here ∧ (D.sync (segName i)).1.room = D.room ∧ (D.sync (segName i)).1.used ≤ D.used ∧ lookF (segName i) (D.sync (segName i)).1.files = ⟨(lookF (segName i) D.files).now, (lookF (segName i) D.files).now⟩ ∧ ∀ n, n ≠ segName i → lookF n (D.sync (segName i)).1.files = lookF n D.files) := by
  have hm : segName i ∈ segNames := mem_segNames.2 ⟨i, hi.1, hi.2, rfl⟩
  have hal := D.tries_alike
  have ht' := h.tries
  unfold Dk.sync
  rcases Dk.tries_or h.lost with ht | ht
  · rw [if_neg (by simp [ht])]
    have hc := (ht'.good.clean.look (segName i)).1
    have hw : (Fil.weight ⟨(lookF (segName i) D.tries.1.files).now, (lookF (segName i) D.tries.1.files).now⟩) ≤ (lookF (segName i) D.tries.1.files).weight := Fil.weight_both _ _ (Fil.weight_now _)
    obtain ⟨D', p0, p1, p2, p3, p4, p5, p6, p7, p8⟩ := Dk.put_light ht'.good ht'.names hm (f := ⟨(lookF (segName i) D.tries.1.files).now, (lookF (segName i) D.tries.1.files).now⟩) ⟨hc, hc⟩ hw
    rw [p0]
    exact .inr ⟨rfl, ⟨p1, p2, p3.trans ht'.lost⟩, p5.trans hal.room, by rw [← hal.used]; exact p6, by rw [p7, hal.files], fun n hx => by rw [p8 n hx, hal.files]⟩
  · rw [if_pos (by simp [ht])]
    exact .inl ⟨ht, hal, ht'⟩
theorem Dk.Here.removeL : ∀ (ns : List (List UInt8)) {D : Dk}, D.Here → (∀ n ∈ ns, n ∈ segNames) →
    (Dk.removeL ns D).Here ∧ (Dk.removeL ns D).room = D.room ∧ (Dk.removeL ns D).used ≤ D.used ∧ (∀ n, n ∈ ns → lookF n (Dk.removeL ns D).files = ⟨St.none_, (lookF n D.files).sure⟩) ∧ ∀ n, n ∉ ns → lookF n (Dk.removeL ns D).files = lookF n D.files
  | [], D, h, _ => ⟨h, rfl, Int.le_refl _, fun n hn => by simp at hn, fun _ _ => rfl⟩
  | x :: ns, D, h, hm => by
    have hc := (h.good.clean.look x).2
    obtain ⟨D', p0, p1, p2, p3, p4, p5, p6, p7, p8⟩ := Dk.put_light h.good h.names (hm x (by simp)) (f := ⟨St.none_, (lookF x D.files).sure⟩) ⟨fun _ => rfl, hc⟩ (by
      have h1 := (lookF x D.files).weight_sure
      have h2 : Fil.weight ⟨St.none_, (lookF x D.files).sure⟩ = ((lookF x D.files).sure.text.length : Int) := by
        by_cases h0 : 0 < (lookF x D.files).sure.text.length
        · simp [Fil.weight, St.none_, h0]
        · have h3 : (lookF x D.files).sure.text = [] := List.length_eq_zero_iff.1 (by omega)
          simp [Fil.weight, St.none_, h3]
      rw [h2]
      exact h1)
    obtain ⟨a1, a2, a3, a4, a5⟩ := Dk.Here.removeL ns (D := D') ⟨p1, p2, p3.trans h.lost⟩ fun n hn => hm n (by simp [hn])
    simp only [Dk.removeL, p0]
    refine ⟨a1, a2.trans p5, Int.le_trans a3 p6, fun n hn => ?_, fun n hn => ?_⟩
    · by_cases hx : n ∈ ns
      · rw [a4 n hx]
        by_cases e : n = x
        · subst e; rw [p7]
        · rw [p8 n e]
      · rw [a5 n hx]
        have e : n = x := by simpa [hx] using hn
        subst e
        rw [p7]
    · simp only [List.mem_cons, not_or] at hn
      rw [a5 n hn.2, p8 n hn.1]
theorem Dk.Here.syncL : ∀ (ns : List (List UInt8)) {D : Dk}, D.Here → (∀ n ∈ ns, n ∈ segNames) →
    (Dk.syncL ns D).Here ∧ (Dk.syncL ns D).room = D.room ∧ (Dk.syncL ns D).used ≤ D.used ∧ (∀ n, n ∈ ns → lookF n (Dk.syncL ns D).files = ⟨(lookF n D.files).now, (lookF n D.files).now⟩) ∧ ∀ n, n ∉ ns → lookF n (Dk.syncL ns D).files = lookF n D.files
  | [], D, h, _ => ⟨h, rfl, Int.le_refl _, fun n hn => by simp at hn, fun _ _ => rfl⟩
  | x :: ns, D, h, hm => by
    have hc := (h.good.clean.look x).1
    obtain ⟨D', p0, p1, p2, p3, p4, p5, p6, p7, p8⟩ := Dk.put_light h.good h.names (hm x (by simp)) (f := ⟨(lookF x D.files).now, (lookF x D.files).now⟩) ⟨hc, hc⟩ (Fil.weight_both _ _ (Fil.weight_now _))
    obtain ⟨a1, a2, a3, a4, a5⟩ := Dk.Here.syncL ns (D := D') ⟨p1, p2, p3.trans h.lost⟩ fun n hn => hm n (by simp [hn])
    simp only [Dk.syncL, p0]
    refine ⟨a1, a2.trans p5, Int.le_trans a3 p6, fun n hn => ?_, fun n hn => ?_⟩
    · by_cases hx : n ∈ ns
      · rw [a4 n hx]
        by_cases e : n = x
        · subst e; rw [p7]
        · rw [p8 n e]
      · rw [a5 n hx]
        have e : n = x := by simpa [hx] using hn
        subst e
        rw [p7]
    · simp only [List.mem_cons, not_or] at hn
      rw [a5 n hn.2, p8 n hn.1]
theorem may_safe {f : Fil} (h : f.now = f.sure) {s : St} (hs : f.May s) : s = f.now := by
  rcases hs with rfl | rfl | ⟨h1, h2, k, rfl, h3⟩
  · exact h.symm
  · rfl
  · rw [← h] at h3
    rw [List.take_of_length_le (by omega), ← h1]

/-- What a crash leaves of a disk says these chunks. -/
def Dk.Keeps (D : Dk) (X : List (Nat × List UInt8)) : Prop := ∀ D'' : Dk, (∀ n, ∃ s, lookF n D''.files = ⟨s, s⟩ ∧ (lookF n D.files).May s) → D''.replay 100 = X
theorem Dk.Safe.keeps {D : Dk} (h : D.Safe) {X : List (Nat × List UInt8)} (hr : D.replay 100 = X) : D.Keeps X := fun D'' hD => by
  rw [Dk.replay_congr (D := D) 100 fun i _ => ?_, hr]
  obtain ⟨s, h1, h2⟩ := hD (segName i)
  have := may_safe (h _) h2
  unfold Dk.now
  rw [h1, this]
theorem replay_exact {D : Dk} {i : Nat} (hi : i < 100) {X : List (Nat × List UInt8)} (hf : FitX X) (ha : Asc X) (hl : X.length < 18446744073709551616) (hn : D.now i = ⟨true, frames (exactC X)⟩) (hab : ∀ j, i < j → j < 100 → (D.now j).there = false) : D.replay 100 = X := by
  have h1 : D.replay (i + 1) = X := by
    rw [Dk.replay_succ]
    rw [hn, if_pos rfl, scan_recs (exact_len hf hl), abs_exact hf ha hl]
  have h2 := Dk.replay_above (D := D) (k := i + 1) (fun j a b => hab j (by omega) b) (100 - (i + 1)) (by omega)
  rw [show i + 1 + (100 - (i + 1)) = 100 by omega] at h2
  rw [h2, h1]

/-- A store, its disk, of whatever luck, and the chunks: what it has is what its disk says, for sure. -/
structure Sure (C : Ck) (D : Dk) (X : List (Nat × List UInt8)) : Prop where
  here : D.Here
  ok : C.Ok
  seg : 1 ≤ C.seg
  above : ∀ i, C.seg < i → i < 100 → (D.now i).there = false
  says : Says D C.map X
  rep : D.replay (C.seg + 1) = X
  safe : D.Safe
  clean : C.dirty = false
theorem Inv.sure {C : Ck} {D : Dk} {X : List (Nat × List UInt8)} (h : Inv C D X) (hd : C.dirty = false) : Sure C D X :=
  ⟨⟨h.dk.still.good, h.dk.names, h.dk.still.lost⟩, h.dk.ok, h.dk.seg, h.dk.above, h.says, h.rep, h.dk.clean hd, hd⟩
theorem Sure.asc {C : Ck} {D : Dk} {X : List (Nat × List UInt8)} (h : Sure C D X) : Asc X := by rw [← h.rep]; exact D.replay_asc _
theorem Sure.rep100 {C : Ck} {D : Dk} {X : List (Nat × List UInt8)} (h : Sure C D X) (hs : C.seg < 100) : D.replay 100 = X := by
  have h2 := Dk.replay_above (D := D) (k := C.seg + 1) (fun j a b => h.above j (by omega) b) (100 - (C.seg + 1)) (by omega)
  rw [show C.seg + 1 + (100 - (C.seg + 1)) = 100 by omega] at h2
  rw [h2, h.rep]
theorem Dk.Safe.files {D D' : Dk} (h : D.Safe) (e : D'.files = D.files) : D'.Safe := fun n => by rw [e]; exact h n
theorem Sure.alike {C : Ck} {D D' : Dk} {X : List (Nat × List UInt8)} (h : Sure C D X) (ha : D.Alike D') (hh : D'.Here) : Sure C D' X :=
  ⟨hh, h.ok, h.seg, fun i a b => by rw [ha.now]; exact h.above i a b, h.says.alike ha, by rw [Dk.replay_congr _ fun i _ => ha.now i]; exact h.rep, h.safe.files ha.files, h.clean⟩
theorem Sure.files {C : Ck} {D : Dk} {X : List (Nat × List UInt8)} (h : Sure C D X) {i : Nat} (h1 : C.seg < i) (h2 : i < 100) : lookF (segName i) D.files = Fil.none_ := by
  have h3 := h.above i h1 h2
  have h4 := (h.here.good.clean.look (segName i)).1
  have h5 := h.safe (segName i)
  unfold Dk.now at h3
  generalize lookF (segName i) D.files = f at *
  obtain ⟨⟨a, s⟩, g⟩ := f
  simp only at h3 h5
  subst h3
  have : s = [] := h4 rfl
  subst this
  subst h5
  rfl
theorem segs_lt {D : Dk} {i : Nat} (h : i ∈ D.segs) : i < 100 ∧ (D.now i).there = true := ⟨List.mem_range.1 (List.mem_filter.1 h).1, (List.mem_filter.1 h).2⟩
theorem wsum_one {name : List UInt8} : ∀ {l : List (List UInt8 × Fil)}, (l.map (·.1)).Nodup → (∀ n, n ≠ name → (lookF n l).weight = 0) → wsum l = (lookF name l).weight
  | [], _, _ => rfl
  | p :: l, hn, h => by
    simp only [List.map_cons, List.nodup_cons] at hn
    have key : ∀ n, n ≠ p.1 → lookF n (p :: l) = lookF n l := fun n hx => by simp only [lookF]; rw [if_neg hx]
    have hz : (lookF p.1 l).weight = 0 := by rw [look_none hn.1]; rfl
    have ih := wsum_one (name := name) hn.2 fun n hx => by
      by_cases e : n = p.1
      · subst e; exact hz
      · rw [← key n e]; exact h n hx
    simp only [wsum, ih]
    by_cases e : name = p.1
    · subst e
      simp only [lookF, if_true]
      omega
    · rw [key name e]
      have h1 := h p.1 (fun e2 => e e2.symm)
      simp only [lookF, if_true] at h1
      omega

/-- Compact: what it answers; what it leaves. -/
theorem Sure.compact {C : Ck} {D : Dk} {X : List (Nat × List UInt8)} (h : Sure C D X) (hf : FitX X) (hb : X.length ≤ 1000) (hs : C.seg + 2 < 100) :
    (C.compact D).2.1.Here ∧ (C.compact D).2.1.room = D.room ∧ (C.compact D).2.1.Keeps X ∧ (C.compact D).2.1.used ≤ D.used + (frames (exactC X)).length ∧
    (((C.compact D).2.2 = 8) ∨ ((C.compact D).2.2 = 7 ∧ (C.compact D).1 = C ∧ Sure C (C.compact D).2.1 X ∧ D.room < D.used + (frames (exactC X)).length) ∨
      ((C.compact D).2.2 = 0 ∧ Sure (C.compact D).1 (C.compact D).2.1 X ∧ (C.compact D).1.seg = C.seg + 2 ∧ (C.compact D).1.size = 0 ∧ (C.compact D).1.limit = C.limit ∧ (C.compact D).2.1.segs = [C.seg + 1] ∧ (C.compact D).2.1.used = (frames (exactC X)).length)) := by
  have hasc := h.asc
  have hX : D.replay 100 = X := h.rep100 (by omega)
  have hcs : C.sync D = (C, D, 0) := by
    unfold Ck.sync
    rw [h.clean]
    simp
  have hlen : C.map.length = X.length := by
    have h1 := h.says.ids h.ok.map hasc
    have h2 := C.ids_len
    rw [h1, List.length_map] at h2
    exact h2.symm
  unfold Ck.compact
  rw [hcs]
  simp only [ne_eq, not_true_eq_false, if_false]
  have hgp := gather_plain (C := C) (seg := C.seg + 1) ⟨by omega, by omega⟩ hf (by omega) X [] D (frame (encRec 3 X.length [])) [] rfl hasc h.says h.here.lost (by simp [frames]) (by
    have h1 := encU_len 3 (by omega)
    have h2 := encU_len X.length (by omega)
    have h3 := encU_len 0 (by omega)
    rw [frame_len]
    simp only [encRec, encS, List.length_append, List.length_nil]
    omega) (Says.nil _) MapOk.nil (by simp)
  have hga : C.gather (C.seg + 1) D = gatherL C (C.seg + 1) (X.map (·.1)) D (frame (encRec 3 X.length [])) [] := by
    unfold Ck.gather
    rw [h.says.ids h.ok.map hasc, hlen]
  rw [← hga] at hgp
  have hkeepA : ∀ D1, D.Alike D1 → D1.Here → D1.Keeps X ∧ D1.replay 100 = X := fun D1 a b => by
    have hr : D1.replay 100 = X := by rw [Dk.replay_congr _ fun i _ => a.now i]; exact hX
    exact ⟨(h.safe.files a.files).keeps hr, hr⟩
  have hgood : ∀ (is : List Nat) (D : Dk) (T : List UInt8) (M : List (Int × Pl)), D.Here → (gatherL C (C.seg + 1) is D T M).2.2.1.Here := by
    intro is
    induction is with
    | nil => intro D T M hD; exact hD
    | cons i is ih =>
      intro D T M hD
      have hgot : (C.got D i).Here := by unfold Ck.got; split; exact hD.tries; exact hD
      simp only [gatherL]
      split
      · exact hgot
      · exact ih _ _ _ hgot
  rcases hgp with ⟨g1, g2⟩ | ⟨T, M, D1, g1, g2, g3, g4, g5, g6, g7⟩
  · have hh : (C.gather (C.seg + 1) D).2.2.1.Here := hgood _ _ _ _ h.here
    rw [g1, if_pos (show ¬ ((8 : Int) = 0) by decide)]
    exact ⟨hh, g2.room, (hkeepA _ g2 hh).1, by rw [g2.used]; omega, .inl rfl⟩
  · have hh1 : D1.Here := by have := hgood C.ids D (frame (encRec 3 C.map.length [])) [] h.here; unfold Ck.gather at g1; rw [g1] at this; exact this
    rw [g1]
    simp only [not_true_eq_false, if_false]
    have hS1 := h.alike g2 hh1
    obtain ⟨hk1, hr1⟩ := hkeepA _ g2 hh1
    have hTu : D1.used = D.used := g2.used
    have hTr : D1.room = D.room := g2.room
    have hbef : D.before (C.seg + 1) = D1.before (C.seg + 1) := by unfold Dk.before Dk.segs; simp only [g2.now]
    rw [← g3]
    clear hga g1 hgood hkeepA hcs hX g2
    unfold Ck.finish
    have hal := D1.tries_alike
    have hh2 := hh1.tries
    rcases Dk.tries_or hh1.lost with ht | ht
    rotate_left
    · rw [if_pos (by simp [ht])]
      have hS2 := hS1.alike hal hh2
      exact ⟨hh2, hal.room.trans hTr, hS2.safe.keeps (hS2.rep100 (by omega)), by rw [hal.used, hTu]; omega, .inl ht⟩
    rw [if_neg (by simp [ht])]
    have hS2 := hS1.alike hal hh2
    have hn0 := hS2.files (i := C.seg + 1) (by omega) (by omega)
    have hbef2 : D1.before (C.seg + 1) = D1.tries.1.before (C.seg + 1) := by unfold Dk.before Dk.segs; simp only [hal.now]
    rw [hbef2]
    have hu2 : D1.tries.1.used = D.used := hal.used.trans hTu
    have hm2 : D1.tries.1.room = D.room := hal.room.trans hTr
    clear hal hbef hbef2 ht hk1 hr1 hS1 hh1 hTu hTr
    generalize D1.tries.1 = E at *
    have hr2 : E.replay 100 = X := hS2.rep100 (by omega)
    have hi : 1 ≤ C.seg + 1 ∧ C.seg + 1 < 100 := ⟨by omega, by omega⟩
    have hle : 0 ≤ (T.length : Int) := by omega
    rcases hh2.write hi T hn0 with ⟨w1, w2, w3⟩ | ⟨w1, w2, w3, w4, w5, w6⟩
    · have hS3 := hS2.alike w2 w3
      have hkk := hS3.safe.keeps (hS3.rep100 (by omega))
      rw [if_pos (by rcases w1 with w1 | ⟨w1, _⟩ <;> rw [w1] <;> simp)]
      refine ⟨w3, w2.room.trans hm2, hkk, by rw [w2.used, hu2]; omega, ?_⟩
      rcases w1 with w1 | ⟨w1, w1'⟩
      · exact .inl w1
      · exact .inr (.inl ⟨w1, rfl, hS3, by omega⟩)
    rw [if_neg (by simp [w1])]
    have hE := hS2
    clear hS2
    generalize (E.write (segName (C.seg + 1)) T).1 = F at *
    have hFn : ∀ i, i < 100 → i ≠ C.seg + 1 → lookF (segName i) F.files = lookF (segName i) E.files := fun i a b => w6 _ fun e => b (segName_inj a hi.2 e)
    have hFtop : ∀ i, C.seg + 1 < i → i < 100 → lookF (segName i) F.files = Fil.none_ := fun i a b => by rw [hFn i b (by omega)]; exact hE.files (by omega) b
    have hrl : X.length < 18446744073709551616 := by omega
    -- a crash of the file that is written, not synced
    have hkF : F.Keeps X := fun D'' hD => by
      have hlow : ∀ i, i < C.seg + 1 → D''.now i = E.now i := fun i a => by
        obtain ⟨s, h1, h2⟩ := hD (segName i)
        rw [hFn i (by omega) (by omega)] at h2
        have := may_safe (hE.safe _) h2
        unfold Dk.now
        rw [h1, this]
      have hhi : ∀ i, C.seg + 1 < i → i < 100 → (D''.now i).there = false := fun i a b => by
        obtain ⟨s, h1, h2⟩ := hD (segName i)
        rw [hFtop i a b] at h2
        have := may_safe (f := Fil.none_) rfl h2
        unfold Dk.now
        rw [h1, this]
        rfl
      have e1 : D''.replay (C.seg + 1) = X := by rw [Dk.replay_congr _ hlow]; exact hE.rep
      have e2 : D''.replay (C.seg + 1 + 1) = X := by
        obtain ⟨s, h1, h2⟩ := hD (segName (C.seg + 1))
        have hn : D''.now (C.seg + 1) = s := by unfold Dk.now; rw [h1]
        rw [w5] at h2
        rw [Dk.replay_succ]
        rw [hn, e1]
        rcases h2 with rfl | rfl | ⟨_, _, k, rfl, _⟩
        · rfl
        · simp only [if_true]
          rw [g3, scan_recs (exact_len hf hrl), abs_exact hf hasc hrl]
        · simp only [if_true]
          obtain ⟨j, hj⟩ := scan_take (exactC X) k (exact_len hf hrl)
          rw [g3, hj, abs_exact_take hf hasc hrl]
      have h2 := Dk.replay_above (D := D'') (k := C.seg + 1 + 1) (fun j a b => hhi j (by omega) b) (100 - (C.seg + 1 + 1)) (by omega)
      rw [show C.seg + 1 + 1 + (100 - (C.seg + 1 + 1)) = 100 by omega] at h2
      rw [h2, e2]
    rcases w2.sync hi with ⟨y1, y2, y3⟩ | ⟨y1, y2, y3, y4, y5, y6⟩
    · rw [if_pos (by rw [y1]; simp)]
      refine ⟨y3, by rw [y2.room, w3, hm2], fun D'' hD => hkF D'' fun n => ?_, by rw [y2.used]; omega, .inl y1⟩
      have := hD n
      rw [y2.files] at this
      exact this
    rw [if_neg (by simp [y1])]
    generalize (F.sync (segName (C.seg + 1))).1 = G at *
    rw [w5] at y5
    simp only at y5
    have hGn : ∀ i, i < 100 → i ≠ C.seg + 1 → lookF (segName i) G.files = lookF (segName i) E.files := fun i a b => by rw [y6 _ fun e => b (segName_inj a hi.2 e), hFn i a b]
    have hGs : G.Safe := fun n => by
      by_cases e : n = segName (C.seg + 1)
      · subst e; rw [y5]
      · rw [y6 n e, w6 n e]; exact hE.safe n
    have hGtop : ∀ i, C.seg + 1 < i → i < 100 → (G.now i).there = false := fun i a b => by
      unfold Dk.now
      rw [hGn i b (by omega), hE.files (by omega) b]
      rfl
    have hGr : G.replay 100 = X := replay_exact (i := C.seg + 1) (by omega) hf hasc hrl (by unfold Dk.now; rw [y5, g3]) hGtop
    have hbm : ∀ n ∈ E.before (C.seg + 1), n ∈ segNames ∧ n ≠ segName (C.seg + 1) := fun n hn => by
      unfold Dk.before at hn
      obtain ⟨i, hi', rfl⟩ := List.mem_map.1 hn
      obtain ⟨h1, h2⟩ := List.mem_filter.1 hi'
      simp only [decide_eq_true_eq] at h2
      have h3 := segs_lt h1
      have h4 : 1 ≤ i := by
        rcases Nat.eq_zero_or_pos i with rfl | hp
        · have := Dk.now_out hE.here.names (i := 0) (by omega) rfl; rw [this] at h3; exact absurd h3.2 (by simp)
        · exact hp
      exact ⟨mem_segNames.2 ⟨i, h4, h3.1, rfl⟩, fun e => by have := segName_inj h3.1 hi.2 e; omega⟩
    have hbi : ∀ i, i < C.seg + 1 → (E.now i).there = true → segName i ∈ E.before (C.seg + 1) := fun i a b => List.mem_map.2 ⟨i, List.mem_filter.2 ⟨List.mem_filter.2 ⟨List.mem_range.2 (by omega), b⟩, by simpa using a⟩, rfl⟩
    -- what is left in the end
    have hend : ∀ H : Dk, H.Here → (lookF (segName (C.seg + 1)) H.files = ⟨⟨true, T⟩, ⟨true, T⟩⟩) → (∀ n, n ≠ segName (C.seg + 1) → lookF n H.files = Fil.none_) →
        Sure { C with map := M, seg := C.seg + 2, size := 0 } H X ∧ H.segs = [C.seg + 1] ∧ H.used = T.length := fun H a1 a2 a3 => by
      have b0 : H.now (C.seg + 1) = ⟨true, T⟩ := by unfold Dk.now; rw [a2]
      have b1 : ∀ i, i < 100 → i ≠ C.seg + 1 → H.now i = St.none_ := fun i c1 c2 => by unfold Dk.now; rw [a3 _ fun e => c2 (segName_inj c1 hi.2 e)]; rfl
      have b2 : H.Safe := fun n => by
        by_cases e : n = segName (C.seg + 1)
        · subst e; rw [a2]
        · rw [a3 n e]; rfl
      have b3 : H.segs = [C.seg + 1] := by
        unfold Dk.segs
        have c1 : (List.range 100).filter (fun i => (H.now i).there) = (List.range 100).filter (fun i => decide (i = C.seg + 1)) := List.filter_congr fun i hi' => by
          by_cases e : i = C.seg + 1
          · subst e; rw [b0]; simp
          · rw [b1 i (List.mem_range.1 hi') e]; simp [e, St.none_]
        rw [c1]
        have c2 : ∀ k : Fin 100, (List.range 100).filter (fun i => decide (i = k.val)) = [k.val] := by decide +kernel
        exact c2 ⟨C.seg + 1, hi.2⟩
      have b4 : H.used = T.length := by
        rw [a1.good.ok.used, wsum_one (name := segName (C.seg + 1)) a1.names.nodup fun n hn => by rw [a3 n hn]; rfl, a2]
        simp [Fil.weight]
      refine ⟨⟨a1, ⟨g5, h.ok.lim⟩, by simp only; omega, fun i c1 c2 => by simp only at c1; rw [b1 i c2 (by omega)]; rfl, ?_, ?_, b2, h.clean⟩, b3, b4⟩
      · refine g4.mono fun i p hp _ => ?_
        have := g6 _ (look_mem _ _ _ hp)
        simp only at this
        rw [this, Dk.one_now, b0]
        exact ⟨rfl, [], by simp⟩
      · simp only
        have c3 := replay_exact (i := C.seg + 1) hi.2 hf hasc hrl (by rw [b0, g3]) fun j c1 c2 => by rw [b1 j c2 (by omega)]; rfl
        have c4 := Dk.replay_above (D := H) (k := C.seg + 2 + 1) (fun j c1 c2 => by rw [b1 j c2 (by omega)]; rfl) (100 - (C.seg + 2 + 1)) (by omega)
        rw [show C.seg + 2 + 1 + (100 - (C.seg + 2 + 1)) = 100 by omega] at c4
        rw [← c4, c3]
    have hEn : ∀ n, n ∉ E.before (C.seg + 1) → n ≠ segName (C.seg + 1) → lookF n E.files = Fil.none_ := fun n a b => by
      by_cases hk : n ∈ E.files.map (·.1)
      · obtain ⟨i, c1, c2, rfl⟩ := mem_segNames.1 (hE.here.names.mem _ hk)
        by_cases c3 : C.seg < i
        · exact hE.files c3 c2
        · have c4 : (E.now i).there = false := by
            cases c5 : (E.now i).there
            · rfl
            · exact absurd (hbi i (by omega) c5) a
          have c6 := (hE.here.good.clean.look (segName i)).1
          have c7 := hE.safe (segName i)
          unfold Dk.now at c4
          generalize lookF (segName i) E.files = f at *
          obtain ⟨⟨a, s⟩, g⟩ := f
          simp only at c4 c7
          subst c4
          have : s = [] := c6 rfl
          subst this
          subst c7
          rfl
      · exact look_none hk
    have hGu : G.used ≤ D.used + T.length := by omega
    have hGm : G.room = D.room := by rw [y3, w3, hm2]
    by_cases hnil : E.before (C.seg + 1) = []
    · rw [if_pos hnil]
      obtain ⟨e1, e2, e3⟩ := hend G y2 y5 fun n hn => by rw [y6 n hn, w6 n hn]; exact hEn n (by rw [hnil]; simp) hn
      exact ⟨y2, hGm, hGs.keeps hGr, hGu, .inr (.inr ⟨rfl, e1, rfl, rfl, rfl, e2, e3⟩)⟩
    rw [if_neg hnil]
    have hal := G.tries_alike
    have hG2 := y2.tries
    rcases Dk.tries_or y2.lost with ht | ht
    rotate_left
    · have hrem : G.remove (E.before (C.seg + 1)) = G.tries := by unfold Dk.remove; rw [if_pos (by simp [ht])]
      rw [hrem, if_pos (by simp [ht])]
      have hr' : G.tries.1.replay 100 = X := by rw [Dk.replay_congr _ fun i _ => hal.now i]; exact hGr
      exact ⟨hG2, hal.room.trans hGm, (hGs.files hal.files).keeps hr', by rw [hal.used]; exact hGu, .inl ht⟩
    have hrem : G.remove (E.before (C.seg + 1)) = (Dk.removeL (E.before (C.seg + 1)) G.tries.1, 0) := by unfold Dk.remove; rw [if_neg (by simp [ht])]
    rw [hrem]
    simp only [ne_eq, not_true_eq_false, if_false]
    clear hrem
    obtain ⟨q1, q2, q3, q4, q5⟩ := Dk.Here.removeL (E.before (C.seg + 1)) hG2 fun n hn => (hbm n hn).1
    rw [hal.files] at q4 q5
    rw [hal.room] at q2
    rw [hal.used] at q3
    clear hal hG2 ht
    generalize Dk.removeL (E.before (C.seg + 1)) G.tries.1 = H at *
    have hHk : H.Keeps X := fun D'' hD => by
      refine replay_exact (i := C.seg + 1) hi.2 hf hasc hrl ?_ fun j c1 c2 => ?_
      · obtain ⟨s, h1, h2⟩ := hD (segName (C.seg + 1))
        rw [q5 _ fun hm => (hbm _ hm).2 rfl, y5] at h2
        have := may_safe (f := ⟨⟨true, T⟩, ⟨true, T⟩⟩) rfl h2
        unfold Dk.now
        rw [h1, this, g3]
      · obtain ⟨s, h1, h2⟩ := hD (segName j)
        have hnm : segName j ∉ E.before (C.seg + 1) := fun hm => by
          obtain ⟨i, hi', e⟩ := List.mem_map.1 hm
          obtain ⟨h3, h4⟩ := List.mem_filter.1 hi'
          simp only [decide_eq_true_eq] at h4
          have := segName_inj (segs_lt h3).1 c2 e
          omega
        rw [q5 _ hnm, hGn j c2 (by omega), hE.files (by omega) c2] at h2
        have := may_safe (f := Fil.none_) rfl h2
        unfold Dk.now
        rw [h1, this]
        rfl
    have hal := H.tries_alike
    have hH2 := q1.tries
    rcases Dk.tries_or q1.lost with ht | ht
    rotate_left
    · have hsy : H.syncs (E.before (C.seg + 1)) = H.tries := by unfold Dk.syncs; rw [if_pos (by simp [ht])]
      rw [hsy]
      refine ⟨hH2, by rw [hal.room]; omega, fun D'' hD => hHk D'' fun n => ?_, by rw [hal.used]; omega, .inl ht⟩
      have := hD n
      rw [hal.files] at this
      exact this
    have hsy : H.syncs (E.before (C.seg + 1)) = (Dk.syncL (E.before (C.seg + 1)) H.tries.1, 0) := by unfold Dk.syncs; rw [if_neg (by simp [ht])]
    rw [hsy]
    obtain ⟨r1, r2, r3, r4, r5⟩ := Dk.Here.syncL (E.before (C.seg + 1)) hH2 fun n hn => (hbm n hn).1
    rw [hal.files] at r4 r5
    rw [hal.room] at r2
    rw [hal.used] at r3
    obtain ⟨e1, e2, e3⟩ := hend _ r1 (by rw [r5 _ fun hm => (hbm _ hm).2 rfl, q5 _ fun hm => (hbm _ hm).2 rfl, y5]) fun n hn => by
      by_cases hm : n ∈ E.before (C.seg + 1)
      · rw [r4 n hm, q4 n hm]; rfl
      · rw [r5 n hm, q5 n hm, y6 n hn, w6 n hn, hEn n hm hn]
    refine ⟨r1, ?_, e1.safe.keeps (e1.rep100 (by simp only; omega)), ?_, .inr (.inr ⟨by first | rfl | trivial, e1, by first | rfl | trivial, by first | rfl | trivial, by first | rfl | trivial, e2, e3⟩)⟩
    · show (Dk.syncL (E.before (C.seg + 1)) H.tries.1).room = D.room
      rw [r2, q2, hGm]
    · show (Dk.syncL (E.before (C.seg + 1)) H.tries.1).used ≤ D.used + (T.length : Int)
      omega

end Go.Proofs.YtkplffkchanipaaGreatDoor
/- Plain: a store that is opened. -/
namespace Go.Proofs.YtkplffkchanipaaGreatDoor
open Go.RowKit

/-- The number behind the last file's. -/
def nextSeg (l : List Nat) : Nat := match l.getLast? with
  | none => 1
  | some i => i + 1
def Dk.opens (D : Dk) (lim : Int) : Ck := ⟨if lim < 1 then 1 else lim, D.places 100, nextSeg D.segs, 0, false⟩
theorem nextSeg_lt {l : List Nat} (hp : l.Pairwise (· < ·)) {i : Nat} (hi : i ∈ l) : i < nextSeg l := by
  unfold nextSeg
  cases hl : l.getLast? with
  | none => rw [List.getLast?_eq_none_iff] at hl; subst hl; simp at hi
  | some k =>
    simp only
    rw [List.getLast?_eq_some_iff] at hl
    obtain ⟨l', rfl⟩ := hl
    rcases List.mem_append.1 hi with hi | hi
    · have := (List.pairwise_append.1 hp).2.2 i hi k (by simp)
      omega
    · simp only [List.mem_singleton] at hi
      omega
theorem nextSeg_le {l : List Nat} {k : Nat} (h1 : 1 ≤ k) (h : ∀ i ∈ l, i < k) : nextSeg l ≤ k := by
  unfold nextSeg
  cases hl : l.getLast? with
  | none => exact h1
  | some i =>
    rw [List.getLast?_eq_some_iff] at hl
    obtain ⟨l', rfl⟩ := hl
    exact h i (by simp)
theorem nextSeg_pos (l : List Nat) : 1 ≤ nextSeg l := by unfold nextSeg; split <;> omega
theorem Dk.segs_asc (D : Dk) : D.segs.Pairwise (· < ·) := List.pairwise_lt_range.sublist List.filter_sublist
/-- A disk that is safe is opened: the store has what the disk says. -/
theorem Dk.opened {D : Dk} (hD : D.Still) (hN : D.Names segNames) (hS : D.Safe) {k : Nat} (hk1 : 1 ≤ k) (hk : k < 100) (hs : ∀ i ∈ D.segs, i < k) (lim : Int) (hl : lim < 9223372036854775808) :
    Inv (D.opens lim) D (D.replay 100) ∧ (D.opens lim).seg ≤ k ∧ (D.opens lim).limit = (if lim < 1 then 1 else lim) ∧ (D.opens lim).dirty = false := by
  have h0 := Dk.now_out hN (i := 0) (by omega) rfl
  obtain ⟨p1, p2⟩ := Dk.places_says h0 (fun i => by have := Dk.now_len' hD.good i; omega) 100 (Nat.le_refl _)
  have hle := nextSeg_le hk1 hs
  have hab : ∀ i, nextSeg D.segs ≤ i → i < 100 → (D.now i).there = false := fun i a b => by
    cases ht : (D.now i).there
    · rfl
    · have := nextSeg_lt D.segs_asc (i := i) (List.mem_filter.2 ⟨List.mem_range.2 b, ht⟩)
      omega
  have hr : D.replay (nextSeg D.segs + 1) = D.replay 100 := by
    have h2 := Dk.replay_above (D := D) (k := nextSeg D.segs + 1) (fun j a b => hab j (by omega) b) (100 - (nextSeg D.segs + 1)) (by omega)
    rw [show nextSeg D.segs + 1 + (100 - (nextSeg D.segs + 1)) = 100 by omega] at h2
    exact h2.symm
  refine ⟨⟨⟨hD, hN, ⟨p2, ?_⟩, nextSeg_pos _, fun i a b => hab i (Nat.le_of_lt a) b, .inl ⟨hab (nextSeg D.segs) (Nat.le_refl _) (by omega), rfl⟩, fun n _ => hS n, fun _ => hS, fun e => by cases e⟩, p1, hr⟩, hle, rfl, rfl⟩
  simp only [Dk.opens]
  split <;> omega

end Go.Proofs.YtkplffkchanipaaGreatDoor
