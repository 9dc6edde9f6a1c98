/- A slice of whole numbers whose block is known; an encoder's I and List over it. -/
import Derived.Test.YtpnoiagjgkajdaaGreatDoorEncChain3
import Derived.Test.YtpnoiagjgkajdaaGreatDoorAppend
namespace Go.Proofs.YtpnoiagjgkajdaaGreatDoor
open Go.RowKit
attribute [local go_sem] size_bs bs_append

/-- A slice that says these numbers: none, or part of a block of numbers. -/
def IntSl (w : World) (v : Value) (l : List Nat) : Prop :=
  (l = [] ∧ v = .slice none 0 0) ∨ ∃ g o c cs, v = .slice (some ⟨g, o, none⟩) l.length c ∧ Blk w g 3 cs ∧ ∀ j (h : j < l.length), cs[o + j]? = some (.int .i64 (l[j] : Int))
section
variable {w w' : World} {v : Value} {l : List Nat} {M : List Nat}
theorem IntSl.nil (w : World) : IntSl w (.slice none 0 0) [] := .inl ⟨rfl, rfl⟩
/-- Its block, if it has one. -/
theorem IntSl.blk (h : IntSl w v l) {k : Nat} (hk : v.ownBlock = some k) : ∃ cs, Blk w k 3 cs := by
  rcases h with ⟨rfl, rfl⟩ | ⟨g, o, c, cs, rfl, hb, hcc⟩
  · cases hk
  · obtain rfl : g = k := Option.some.inj hk
    exact ⟨cs, hb⟩
theorem IntSl.lt (h : IntSl w v l) {k : Nat} (hk : v.ownBlock = some k) : k < w.heap.size := by
  obtain ⟨cs, hb⟩ := h.blk hk
  exact hb.lt
theorem IntSl.ne_ (h : IntSl w v l) {g : Nat} {t : TypeId} {cs : Array Value} (hg : Blk w g t cs) (ht : t ≠ 3) : v.ownBlock ≠ some g := fun e => by
  obtain ⟨cs', hb⟩ := h.blk e
  exact hb.ne_ hg (Ne.symm ht) rfl
theorem IntSl.keep (h : IntSl w v l) (hk : Keep M w w') (hM : ∀ k ∈ M, v.ownBlock ≠ some k) : IntSl w' v l := by
  rcases h with ⟨rfl, rfl⟩ | ⟨g, o, c, cs, rfl, hb, hcc⟩
  · exact .inl ⟨rfl, rfl⟩
  · exact .inr ⟨g, o, c, cs, rfl, hb.keep hk (fun hm => hM g hm rfl), hcc⟩
theorem IntSl.grow (h : IntSl w v l) (hk : Keep [] w w') : IntSl w' v l := h.keep hk (by simp)
theorem IntSl.alloc (h : IntSl w v l) (o : Obj) : IntSl (w.alloc o) v l := h.grow ((Keep.refl _ _).alloc o)
theorem IntSl.others (h : IntSl w v l) (hO : OthersE w w') : IntSl w' v l := by
  rcases h with ⟨rfl, rfl⟩ | ⟨g, o, c, cs, rfl, hb, hcc⟩
  · exact .inl ⟨rfl, rfl⟩
  · exact .inr ⟨g, o, c, cs, rfl, hO _ _ _ hb (by decide) (by decide), hcc⟩
/-- The cells, one by one. -/
theorem IntSl.at_ (h : IntSl w v l) : ∃ A c, v = .slice A l.length c ∧ ∀ k (hk : k < l.length), ∃ g o, A = some ⟨g, o, none⟩ ∧ w.cell? ⟨g, o + k, none⟩ = some (.int .i64 (l[k] : Int)) ∧ g < w.heap.size := by
  rcases h with ⟨rfl, rfl⟩ | ⟨g, o, c, cs, rfl, hb, hcc⟩
  · exact ⟨none, 0, rfl, fun k hk => by simp at hk⟩
  · exact ⟨_, c, rfl, fun k hk => ⟨g, o, rfl, by rw [hb.cell, hcc k hk], hb.lt⟩⟩
theorem IntSl.sl (h : IntSl w v l) : SlAt w v l.length (ints l) := by
  rcases h with ⟨rfl, rfl⟩ | ⟨g, o, c, cs, rfl, hb, hcc⟩
  · exact ⟨none, 0, rfl, fun hne => absurd rfl hne⟩
  · refine ⟨_, c, rfl, fun _ => ⟨g, o, rfl, fun j u hu => ?_⟩⟩
    have hj : j < l.length := by
      rcases Nat.lt_or_ge j l.length with h | h
      · exact h
      · rw [List.getElem?_eq_none (by simpa [ints] using h)] at hu; cases hu
    rw [hb.cell, hcc j hj]
    simp only [ints, List.getElem?_map, List.getElem?_eq_getElem hj, Option.map_some] at hu
    exact hu
theorem IntSl.of_blk {g : Nat} (hb : Blk w g 3 (ints l).toArray) (c : Nat) : IntSl w (.slice (some ⟨g, 0, none⟩) l.length c) l :=
  .inr ⟨g, 0, c, _, rfl, hb, fun j hj => by simp [ints, hj]⟩
theorem IntSl.of_own {base : Nat} (h : w.ownsRow base 3 1 v l.length (ints l)) : IntSl w v l := by
  rcases h.2 with ⟨rfl, h2⟩ | ⟨g, cap, cur, rfl, _, h3, h4, h5, h6, h7⟩
  · exact .inl ⟨List.length_eq_zero_iff.1 h2, rfl⟩
  · refine .inr ⟨g, 0, cap, cur, rfl, h3, fun j hj => ?_⟩
    have h8 : (cur.toList.take (l.length * 1))[j]? = (ints l)[j]? := by rw [h7]
    rw [List.getElem?_take_of_lt (by omega)] at h8
    rw [Nat.zero_add, ← Array.getElem?_toList, h8]
    simp [ints, hj]
theorem IntSl.apart {t : TypeId} {r : Nat} {cs : Array Value} (h : IntSl w v l) (hk : Keep [r] w w') (hr : Blk w r t cs) (ht : t ≠ 3) : IntSl w' v l :=
  h.keep hk (fun k hm => by simp only [List.mem_singleton] at hm; exact hm ▸ h.ne_ hr ht)

set_option maxRecDepth 100000 in
set_option maxHeartbeats 1000000 in
theorem i_sl (l : List Nat) (hl : l.length ≤ 1000) (hx : ∀ n ∈ l, n ≤ 4611686018427387904) (L : List UInt8) (hL : L.length ≤ 549755813888) (b : Nat) (v dv : Value) (w : World) (h : EncAt w b v L) (hd : IntSl w dv l) :
    Calls Tryz.prog 110 #[.pointer (some ⟨b, 0, none⟩), dv] w fun e w' => e = .returned (.pointer (some ⟨b, 0, none⟩)) ∧ ∃ v', EncAt w' b v' (L ++ encIs l) ∧ EncTo b v v' w w' := by
  have HC : Hid (∃ A c, dv = .slice A l.length c ∧ ∀ k (hk : k < l.length), ∃ g o, A = some ⟨g, o, none⟩ ∧ ∀ W vv, EncTo b v vv w W → W.cell? ⟨g, o + k, none⟩ = some (.int .i64 (l[k] : Int))) := by
    rcases hd with ⟨rfl, rfl⟩ | ⟨g, o, c, cs, rfl, hb, hcc⟩
    · exact Lib.hid ⟨none, 0, rfl, fun k hk => by simp at hk⟩
    · have hgb : g ≠ b := hb.ne_ h.blk (by decide)
      have hgv : v.ownBlock ≠ some g := own_blk_ne h.own hb (by decide)
      refine Lib.hid ⟨_, c, rfl, fun k hk => ⟨g, o, rfl, fun W vv hW => ?_⟩⟩
      rw [(hb.keep hW.keep (by simp [hgb]; exact fun e => hgv e)).cell, hcc k hk]
  obtain ⟨A, c, rfl, hc⟩ := HC.out
  clear HC
  have HC := Lib.hid hc
  have H := Lib.hid h
  have HX := Lib.hid hx
  clear h hc hx hd
  go_enter Tryz.func110, Tryz.ntmps110
  go_wp2
  go_loopw [6, 9] (fun _ a wr => IRel l L b v w a wr) (fun _ a _ => l.length - (intOf a).toNat)
  case atStart => exact ⟨0, v, Nat.zero_le _, rfl, by simpa [encIs] using H.out, EncTo.refl _ _ _⟩
  case round =>
    obtain ⟨k, v1, hk, rfl, hE, hto⟩ := hrel
    have HE := Lib.hid hE
    have HTO := Lib.hid hto
    clear hE hto
    by_cases hlt : k < l.length
    · obtain ⟨g, o, rfl, hcell⟩ := HC.out k hlt
      have hc := hcell wr _ HTO.out
      have hli : (k : Int) < (l.length : Int) := by omega
      have hxk : l[k] ≤ 4611686018427387904 := HX.out _ (List.getElem_mem hlt)
      have hsn : l.take (k + 1) = l.take k ++ [l[k]] := by rw [List.take_succ_eq_append_getElem hlt]
      have HSN := Lib.hid hsn
      have hlen : (L ++ encIs (l.take k)).length ≤ 1099511627776 := by
        have h1 := encIs_len (l.take k) (fun n hn => by have := HX.out n (List.mem_of_mem_take hn); omega)
        rw [List.length_append]
        simp only [List.length_take] at h1
        omega
      clear hsn hcell
      generalize l[k] = x at *
      go_wp2_with (go_at_call 112; refine (u_calls x (by omega) (L ++ encIs (l.take k)) hlen b _ v1 _ (HE.out.alloc _) (Blk.new _ _ _)).mono ?_; rintro e w1 ⟨rfl, v2, hE2, hto2⟩; have HE2 := Lib.hid hE2; have HTO2 := Lib.hid hto2; clear hE2 hto2)
      go_roundw
      case rel =>
        refine ⟨k + 1, v2, by omega, by go_num, ?_, HTO.out.trans ((EncTo.of_keep v1 ((Keep.refl _ _).alloc _)).trans HTO2.out)⟩
        have h1 := HE2.out
        rw [List.append_assoc] at h1
        rw [HSN.out]
        simpa [encIs] using h1
      case measure => simp [intOf]; omega
    · have hli : ¬ (k : Int) < (l.length : Int) := by omega
      go_wp2
      go_ret
      refine ⟨rfl, v1, ?_, HTO.out⟩
      have h1 := HE.out
      rw [List.take_of_length_le (by omega)] at h1
      exact h1
theorem i_sl_new {wr : World} {b : Nat} {L : List UInt8} {dv : Value} (l : List Nat) (hl : l.length ≤ 1000) (hx : ∀ n ∈ l, n ≤ 4611686018427387904) (hL : L.length ≤ 274877906944) (h : EncNew wr w b L) (hd : IntSl w dv l) :
    Calls Tryz.prog 110 #[.pointer (some ⟨b, 0, none⟩), dv] w fun e w' => e = .returned (.pointer (some ⟨b, 0, none⟩)) ∧ EncNew wr w' b (L ++ encIs l) ∧ OthersE w w' := by
  obtain ⟨v, hv, _⟩ := h.enc
  refine (i_sl l hl hx L (by omega) b v dv w hv hd).mono ?_
  rintro e w' ⟨rfl, v', h5, h6⟩
  exact ⟨rfl, h.step_one hv h5 h6⟩
theorem i1_new {wr : World} {b p : Nat} {L : List UInt8} (x : Nat) (hx : x ≤ 4611686018427387904) (hL : L.length ≤ 274877906944) (h : EncNew wr w b L) (hp : Blk w p 3 #[.int .i64 (x : Int)]) :
    Calls Tryz.prog 110 #[.pointer (some ⟨b, 0, none⟩), .slice (some ⟨p, 0, none⟩) 1 1] w fun e w' => e = .returned (.pointer (some ⟨b, 0, none⟩)) ∧ EncNew wr w' b (L ++ encIs [x]) ∧ OthersE w w' := in_new [x] (by simp) (by simpa using hx) hL h hp
set_option maxRecDepth 100000 in
set_option maxHeartbeats 1000000 in
theorem list_new {wr : World} {b : Nat} {L : List UInt8} {dv : Value} (l : List Nat) (hl : l.length ≤ 1000) (hx : ∀ n ∈ l, n ≤ 4611686018427387904) (hL : L.length ≤ 274877906900) (h : EncNew wr w b L) (hd : IntSl w dv l) :
    Calls Tryz.prog 113 #[.pointer (some ⟨b, 0, none⟩), dv] w fun e w' => e = .returned (.pointer (some ⟨b, 0, none⟩)) ∧ EncNew wr w' b (L ++ (encIs [l.length] ++ encIs l)) ∧ OthersE w w' := by
  have H1 := Lib.hid h
  have HD1 := Lib.hid hd
  have hlen : (L ++ encIs [l.length]).length ≤ 274877906944 := by
    have := encIs_len [l.length] (by simp; omega)
    rw [List.length_append]
    simp only [List.length_cons, List.length_nil] at this
    omega
  have HL := Lib.hid hlen
  have HX := Lib.hid hx
  obtain ⟨A, c, rfl, -⟩ := hd.at_
  clear h hx hlen hd
  go_enter Tryz.func113, Tryz.ntmps113
  go_wp2_with (first
    | (go_at_call 110; with_reducible refine (i1_new l.length (by omega) (by omega) (H1.out.alloc _) (Blk.new _ _ _)).mono ?_; rintro e w1 ⟨rfl, h2, o2⟩; have H2 := Lib.hid h2; have O2 := Lib.hid o2; clear h2 o2)
    | (go_at_call 110; refine (i_sl_new l hl HX.out HL.out H2.out ((HD1.out.alloc _).others O2.out)).mono ?_; rintro e w2 ⟨rfl, h3, o3⟩; have H3 := Lib.hid h3; have O3 := Lib.hid o3; clear h3 o3)
    | fail)
  go_ret
  refine ⟨rfl, by rw [← List.append_assoc]; exact H3.out, fun g t cs hb t1 t2 => O3.out _ _ _ (O2.out _ _ _ (hb.alloc _) t1 t2) t1 t2⟩
end
end Go.Proofs.YtpnoiagjgkajdaaGreatDoor
