/- A map's keys, sorted; the contract of (*Disk).all. -/
import Derived.Test.YtnlcipocobmgiaaGreatDoorDisks
import Derived.Test.YtnlcipocobmgiaaGreatDoorArrsAt
import Derived.Test.YtnlcipocobmgiaaGreatDoorIter
import Derived.Test.YtnlcipocobmgiaaGreatDoorCrash0
namespace Go.Proofs.YtnlcipocobmgiaaGreatDoor
open Go.RowKit

theorem insert_perm {H : Type} (x : Lit × DataW H) : ∀ l, (DataW.insert x l).Perm (x :: l)
  | [] => List.Perm.refl _
  | y :: r => by
    unfold DataW.insert
    split
    · exact List.Perm.refl _
    · exact ((insert_perm x r).cons y).trans (List.Perm.swap x y r)
theorem foldr_insert_perm {H : Type} : ∀ l : List (Lit × DataW H), (l.foldr DataW.insert []).Perm l
  | [] => List.Perm.refl _
  | x :: l => (insert_perm x _).trans ((foldr_insert_perm l).cons x)

/-- A map that holds these keys, as the shelf wants it. -/
theorem MapIs.owns {P : Program} {k : TypeId} {w : World} {m : Nat} {L : List (List UInt8 × Value)} (h : MapIs w m L) (hP : P.underlying k = some .string) (hn : L.length ≤ maxLen) (hk : ∀ p ∈ L, p.1.length ≤ maxLen) :
    ∃ D0 : DataW Unit, w.ownsMap P k (fun _ => some (.nil, [])) m L.length D0 ∧ (strKeys D0).Perm (L.map (·.1)) ∧ Maps.size D0 = L.length := by
  obtain ⟨es, c, hb, hes, hst⟩ := h
  have hlen : es.size = L.length := by
    have := congrArg List.length hes
    simpa using this
  have hrd : ∀ (l : List MapEntry) (M : List (List UInt8 × Value)), (∀ p ∈ M, p.1.length ≤ maxLen) → l.map (fun e => (e.key, e.val)) = M.map (fun p => (Value.string (bs p.1), p.2)) →
      (∀ x ∈ l, ∃ y, WideElems.rd P k (fun _ => some (DataW.nil (H := Unit), [])) x = some y) ∧ (l.map (WideElems.rg P k (fun _ => some (DataW.nil (H := Unit), [])))) = M.map (fun p => (Lit.string p.1, DataW.nil)) := by
    intro l
    induction l with
    | nil => intro M _ h; cases M with
      | nil => exact ⟨by simp, rfl⟩
      | cons => simp at h
    | cons x l ih =>
      intro M hM h
      cases M with
      | nil => simp at h
      | cons p M =>
        simp only [List.map_cons, List.cons.injEq, Prod.mk.injEq] at h
        obtain ⟨i1, i2⟩ := ih M (fun q hq => hM q (by simp [hq])) h.2
        have hp := hM p (by simp)
        have hx : WideElems.rd P k (fun _ => some (DataW.nil (H := Unit), [])) x = some (.string p.1, .nil) := by
          have hl : (bs p.1).data.toList = p.1 := lst_bs p.1
          simp [WideElems.rd, h.1.1, keyOf, hP, mapKey, hp, hl]
        refine ⟨fun y hy => ?_, ?_⟩
        · rcases List.mem_cons.1 hy with rfl | hy
          · exact ⟨_, hx⟩
          · exact i1 y hy
        · simp only [List.map_cons, i2, WideElems.rg_of hx]
  obtain ⟨r1, r2⟩ := hrd es.toList L hk hes
  refine ⟨_, ⟨es, c, hb, ⟨by omega, hst, r1⟩, by omega, rfl⟩, ?_, ?_⟩
  · have := (foldr_insert_perm (es.toList.map (WideElems.rg P k (fun _ => some (DataW.nil (H := Unit), []))))).map (fun p => strOf p.1)
    refine List.Perm.trans this ?_
    rw [r2, List.map_map]
    exact List.Perm.of_eq (List.map_congr_left fun p _ => rfl)
  · have := (foldr_insert_perm (es.toList.map (WideElems.rg P k (fun _ => some (DataW.nil (H := Unit), []))))).length_eq
    simp only [Maps.size, this, List.length_map]
    simpa using hlen

theorem own_strs {w : World} {B : Nat} {v : Value} {l : List (List UInt8)} (h : w.ownsRow B 9 1 v l.length (l.map encStr)) : StrsAt w v l := by
  rcases h.2 with ⟨rfl, h0⟩ | ⟨g, cap, cur, rfl, _, hh, _, _, _, h6⟩
  · have : l = [] := List.length_eq_zero_iff.1 h0
    subst this
    exact ⟨none, 0, rfl, fun h => absurd rfl h⟩
  · refine ⟨_, _, rfl, fun _ => ⟨g, 0, rfl, fun j hj => ?_⟩⟩
    rw [cell_of_row w g _ cur _ _ hh, Nat.zero_add]
    have h7 : (l.map encStr)[j]? = some (.string (bs l[j])) := by simp [hj, encStr, bs]
    rw [← h6, List.getElem?_take] at h7
    split at h7
    · simpa using h7
    · cases h7

theorem own_mono_ {w : World} {B B' : Nat} {e : TypeId} {size n : Nat} {v : Value} {xs : List Value} (h : w.ownsRow B e size v n xs) (hB : B' ≤ B) : w.ownsRow B' e size v n xs := by
  refine ⟨h.1, ?_⟩
  rcases h.2 with h2 | ⟨g, cap, cur, hv, hg, r⟩
  · exact .inl h2
  · exact .inr ⟨g, cap, cur, hv, Nat.le_trans hB hg, r⟩
theorem own_slice_ {w : World} {B : Nat} {e : TypeId} {size n : Nat} {v : Value} {xs : List Value} (h : w.ownsRow B e size v n xs) : ∃ A c, v = .slice A n c := by
  rcases h.2 with ⟨rfl, rfl⟩ | ⟨g, cap, cur, rfl, _⟩
  · exact ⟨_, _, rfl⟩
  · exact ⟨_, _, rfl⟩

set_option maxRecDepth 100000 in
set_option maxHeartbeats 1000000 in
theorem all_calls {w : World} {b m : Nat} {D : Dk} (h : DiskAt w b m D) (hn : D.files.length ≤ 1000000000) (hk : ∀ p ∈ D.files, p.1.length ≤ 1000000000) :
    Calls Tryz.prog 94 #[.pointer (some ⟨b, 0, none⟩)] w fun e w' => ∃ A c, e = .returned (.slice A D.all.length c) ∧ w'.ownsRow w.heap.size 9 1 (.slice A D.all.length c) D.all.length (D.all.map encStr) ∧ Keep [] w w' := by
  have hn' : (vals D.files).length ≤ 1000000000 := by simpa [vals] using hn
  obtain ⟨D0, h1, h2, h3⟩ := h.map.owns (P := Tryz.prog) (k := 9) Tryz.underlying9 (by unfold maxLen; omega) (by
    intro p hp
    simp only [vals, List.mem_map] at hp
    obtain ⟨q, hq, rfl⟩ := hp
    have := hk q hq
    unfold maxLen
    simp only
    omega)
  have h4 : (vals D.files).map (·.1) = D.files.map (·.1) := by simp [vals]
  rw [h4] at h2
  have c4 := h.c4
  have T := callsIn_wide.1 (Tryz.slices_Sorted_keys_111_112 m _ D0 _ w h1 (by rw [h3]; unfold maxLen; omega) (by rw [h3]; omega))
  have HT := Lib.hid T
  have T2 := Lib.hid (fun mb W => callsIn_wide.1 (Tryz.maps_Keys_112 mb W))
  have H2 := Lib.hid h2
  clear h h1 h2 h3 h4 T hn' hn hk
  go_enter Tryz.func94, Tryz.ntmps94
  go_wp2_with (first
    | (go_at_call 112; refine (T2.out _ _).mono ?_; rintro e w' ⟨rfl, rfl⟩)
    | (go_at_call 111; refine HT.out.mono ?_; rintro e w1 ⟨v, ss, rfl, hS, hrow, hnil, hb⟩; have HS := Lib.hid hS; have HR := Lib.hid hrow; have HB := Lib.hid hb; clear hS hrow hnil hb))
  go_ret
  have hp : ss.Perm (D.files.map (·.1)) := HS.out.trans H2.out
  have hs : (ss.mergeSort fun x y => decide (x ≤ y)) = D.all := mergeSort_of_perm hp
  have hl : ss.length = D.all.length := by rw [← hs, List.length_mergeSort]
  have hr := HR.out
  rw [hs, hl] at hr
  obtain ⟨A, c, rfl⟩ := own_slice_ hr
  exact ⟨A, c, rfl, own_mono_ hr (by simp), ((Keep.refl [] w).alloc _).trans (Keep.of_below HB.out)⟩

end Go.Proofs.YtnlcipocobmgiaaGreatDoor
