/- The service's Expire. -/
import Derived.Test.YtpnoiagjgkajdaaGreatDoorWBegin
import Derived.Laws.MakeOwn
import Derived.Test.YtpnoiagjgkajdaaGreatDoorBase
set_option linter.unusedVariables false
namespace Go.Proofs.YtpnoiagjgkajdaaGreatDoor
open Go.RowKit
open Av (Same)
attribute [local go_sem] size_bs bs_append
section
variable {w w' W : World} {s b lm om n r k : Nat} {L : List (Int × Value)} {O : List (Int × Nat)} {ov : Value} {xs : List Value} {F M : List Nat}
set_option maxRecDepth 100000 in
set_option maxHeartbeats 1000000 in
theorem op_calls {cs : Array Value} {nm : ByteArray} {st : Int} (hb : Blk w k 92 cs) (h0 : cs[0]? = some (.int .i64 4)) (h3 : cs[3]? = some (.string nm)) (h11 : cs[11]? = some (.int .i64 st)) : Calls Tryz.prog 34 #[.pointer (some ⟨k, 0, none⟩)] w fun e w' => e = .returned (.agg #[.int .i64 4, .string nm, .int .u64 0, .int .i64 st, .int .i64 (-1), .int .i64 0, .int .u64 0, .slice none 0 0]) ∧ Keep [] w w' := by
  have HS : Hid (∀ W, Keep [] w W → World.cell? W ⟨k, 0, none⟩ = some (.int .i64 4) ∧ World.cell? W ⟨k, 3, none⟩ = some (.string nm) ∧ World.cell? W ⟨k, 11, none⟩ = some (.int .i64 st)) := Lib.hid fun W hW => ⟨(hb.keep hW (by simp)).cell 0 ▸ h0, (hb.keep hW (by simp)).cell 3 ▸ h3, (hb.keep hW (by simp)).cell 11 ▸ h11⟩
  clear hb h0 h3 h11
  go_enter Tryz.func34, Tryz.ntmps34
  go_upto_region 1 with fail
  have HR : Hid (Blk (w.alloc (.cells #[.int .i64 0, .string ⟨#[]⟩, .int .u64 0, .int .i64 0, .int .i64 0, .int .i64 0, .int .u64 0, .slice none 0 0] 96)) w.heap.size 96 #[.int .i64 0, .string ⟨#[]⟩, .int .u64 0, .int .i64 0, .int .i64 0, .int .i64 0, .int .u64 0, .slice none 0 0]) := Lib.hid (Blk.new _ _ _)
  have HK : Hid (Keep [] w (w.alloc (.cells #[.int .i64 0, .string ⟨#[]⟩, .int .u64 0, .int .i64 0, .int .i64 0, .int .i64 0, .int .u64 0, .slice none 0 0] 96))) := Lib.hid ((Keep.refl _ _).alloc _)
  have HRS : Hid (w.heap.size < (w.alloc (.cells #[.int .i64 0, .string ⟨#[]⟩, .int .u64 0, .int .i64 0, .int .i64 0, .int .i64 0, .int .u64 0, .slice none 0 0] 96)).heap.size) := Lib.hid HR.out.lt
  generalize hW0 : w.alloc (.cells #[.int .i64 0, .string ⟨#[]⟩, .int .u64 0, .int .i64 0, .int .i64 0, .int .i64 0, .int .u64 0, .slice none 0 0] 96) = W0 at *
  have HRG : Hid (∃ R, R = w.heap.size) := Lib.hid ⟨_, rfl⟩
  obtain ⟨R, hR⟩ := HRG.out
  rw [← hR] at HR HRS
  simp only [← hR]
  have HRE := Lib.hid hR
  clear hR HRG hW0
  have hHeld := HS.out _ (HK.out.trans (Keep.refl _ _).drew)
  refine wp_region_K (S := fun W => World.cell? W ⟨k, 0, none⟩ = some (.int .i64 4) ∧ World.cell? W ⟨k, 3, none⟩ = some (.string nm) ∧ World.cell? W ⟨k, 11, none⟩ = some (.int .i64 st)) (z := 16) (by kernel_rfl) ?_
  refine tk 0 hHeld ?_
  refine tk 1 hHeld ?_
  refine tk 2 hHeld ?_
  refine tk 3 hHeld ?_
  refine tk 4 hHeld ?_
  refine tk 5 hHeld ?_
  refine tk 6 hHeld ?_
  refine tk 7 hHeld ?_
  refine tk 8 hHeld ?_
  refine tk 9 hHeld ?_
  refine tk 10 hHeld ?_
  refine tk 11 hHeld ?_
  refine tk 12 hHeld ?_
  refine tk 13 hHeld ?_
  refine tk 14 hHeld ?_
  clear hHeld
  refine wpAnyK_one (k := 15) (by kernel_rfl) rfl (fun K hK => ?_)
  go_simp
  refine hK.out _ _ (fun _ => HS.out _ (HK.out.trans ((Keep.refl _ _).alloc _).drew)) ?_
  clear hK K
  try simp only [Act.put, List.setIfInBounds_toArray, List.set_cons_zero, List.set_cons_succ]
  refine wpAnyK_one (k := 16) (by kernel_rfl) rfl (fun K hK => ?_)
  go_simp
  refine hK.out _ _ (fun h => absurd rfl h) ?_
  clear hK K
  try simp only [Act.put, List.setIfInBounds_toArray, List.set_cons_zero, List.set_cons_succ]
  refine wpAnyK_done (by kernel_rfl) ?_
  have HX : Hid (Blk (W0.alloc (.cells #[.int .i64 4, .string nm, .int .u64 0, .int .i64 st, .int .i64 (-1), .int .i64 0, .int .u64 0, .slice none 0 0] 96)).drew W0.heap.size 96 #[.int .i64 4, .string nm, .int .u64 0, .int .i64 st, .int .i64 (-1), .int .i64 0, .int .u64 0, .slice none 0 0]) := Lib.hid (Blk.new _ _ _).drew
  have HR1 := Lib.hid (HR.out.keep (((Keep.refl [] W0).alloc (.cells #[.int .i64 4, .string nm, .int .u64 0, .int .i64 st, .int .i64 (-1), .int .i64 0, .int .u64 0, .slice none 0 0] 96)).drew) (by simp))
  have HK1 : Hid (Keep [] w (W0.alloc (.cells #[.int .i64 4, .string nm, .int .u64 0, .int .i64 st, .int .i64 (-1), .int .i64 0, .int .u64 0, .slice none 0 0] 96)).drew) := Lib.hid (HK.out.trans ((Keep.refl _ _).alloc _).drew)
  have HS1 := HS.out _ HK1.out
  have HRN : Hid (w.heap.size ≤ R) := Lib.hid (by have := HRE.out; omega)
  clear HR HK HRS HRE HS
  generalize (W0.alloc (.cells #[.int .i64 4, .string nm, .int .u64 0, .int .i64 st, .int .i64 (-1), .int .i64 0, .int .u64 0, .slice none 0 0] 96)).drew = W1 at *
  generalize W0.heap.size = X at *
  obtain ⟨k0, k3, k11⟩ := HS1
  have x0 : World.cell? W1 ⟨X, 0, none⟩ = some (.int .i64 4) := HX.out.cell 0
  have x1 : World.cell? W1 ⟨X, 1, none⟩ = some (.string nm) := HX.out.cell 1
  have x2 : World.cell? W1 ⟨X, 2, none⟩ = some (.int .u64 0) := HX.out.cell 2
  have x3 : World.cell? W1 ⟨X, 3, none⟩ = some (.int .i64 st) := HX.out.cell 3
  have x4 : World.cell? W1 ⟨X, 4, none⟩ = some (.int .i64 (-1)) := HX.out.cell 4
  have x5 : World.cell? W1 ⟨X, 5, none⟩ = some (.int .i64 0) := HX.out.cell 5
  have x6 : World.cell? W1 ⟨X, 6, none⟩ = some (.int .u64 0) := HX.out.cell 6
  have x7 : World.cell? W1 ⟨X, 7, none⟩ = some (.slice none 0 0) := HX.out.cell 7
  have z0 : World.cell? W1 ⟨R, 0, none⟩ = some (.int .i64 0) := HR1.out.cell 0
  have z1 : World.cell? W1 ⟨R, 1, none⟩ = some (.string ⟨#[]⟩) := HR1.out.cell 1
  have z2 : World.cell? W1 ⟨R, 2, none⟩ = some (.int .u64 0) := HR1.out.cell 2
  have z3 : World.cell? W1 ⟨R, 3, none⟩ = some (.int .i64 0) := HR1.out.cell 3
  have z4 : World.cell? W1 ⟨R, 4, none⟩ = some (.int .i64 0) := HR1.out.cell 4
  have z5 : World.cell? W1 ⟨R, 5, none⟩ = some (.int .i64 0) := HR1.out.cell 5
  have z6 : World.cell? W1 ⟨R, 6, none⟩ = some (.int .u64 0) := HR1.out.cell 6
  have z7 : World.cell? W1 ⟨R, 7, none⟩ = some (.slice none 0 0) := HR1.out.cell 7
  have zf := HR1.out.frozen
  go_wp2_with fail
  refine bodyPost_ret (v := .agg #[.int .i64 4, .string nm, .int .u64 0, .int .i64 st, .int .i64 (-1), .int .i64 0, .int .u64 0, .slice none 0 0]) (by simp [results, Tryz.results34, go_sem, z0, z1, z2, z3, z4, z5, z6, z7]) rfl ⟨rfl, HK1.out.fin2 HRN.out (by repeat (first | refine Keep.setCell ?_ (.inl (by simp)) _ | exact Keep.refl _ _))⟩
set_option maxRecDepth 100000 in
set_option maxHeartbeats 1000000 in
theorem find_calls (h3 : w.cell? ⟨s, 3, none⟩ = some (.slice none 0 0)) (c : Int) : Calls Tryz.prog 115 #[.pointer (some ⟨s, 3, none⟩), .int .i64 c] w fun e w' => e = .returned (.int .i64 (-1)) ∧ w = w' := by
  go_enter Tryz.func115, Tryz.ntmps115
  go_wp2_with fail
  go_loopw [12] (fun x wr => x = .int .i64 0 ∧ wr = w) (fun _ _ => 0)
  case atStart => exact ⟨rfl, rfl⟩
  case round =>
    obtain ⟨rfl, rfl⟩ := hrel
    go_wp2_with fail
    go_ret
    exact ⟨rfl, rfl⟩
set_option maxRecDepth 100000 in
set_option maxHeartbeats 1000000 in
theorem qdrop_calls (h3 : w.cell? ⟨s, 3, none⟩ = some (.slice none 0 0)) (c : Int) : Calls Tryz.prog 62 #[.pointer (some ⟨s, 3, none⟩), .int .i64 c] w fun e w' => e = .returned (.bool false) ∧ w = w' := by
  have HQ := Lib.hid (find_calls h3 c)
  clear h3
  go_enter Tryz.func62, Tryz.ntmps62
  go_wp2_with (go_at_call 115; refine HQ.out.mono ?_; rintro e w1 ⟨rfl, rfl⟩)
  go_ret
  exact ⟨rfl, rfl⟩
/-- A call is over. -/
theorem SvcAt.close {c : Int} (h : SvcAt w s b lm om L O n ov r xs F) (hk : Keep [om] w w') (hm : MapN .i64 w' om (ptrs (delO c O))) : SvcAt w' s b lm om L (delO c O) n ov r xs F := by
  refine ⟨h.blk.keep hk (by simpa using Ne.symm (h.opn.ne_ h.blk)), h.last.keep hk (by simpa using h.ne), hm, fun p hp => ?_, hk.owns h.over fun k hk' hm => ?_, h.ne, h.mem, fun p hp => h.memC p (delO_mem hp), h.memO⟩
  · obtain ⟨cs, h1, h2⟩ := h.calls p (delO_mem hp)
    exact ⟨cs, h1.keep hk (by simpa using Ne.symm (h.opn.ne_ h1)), h2⟩
  · simp only [List.mem_singleton] at hm
    subst hm
    obtain ⟨cs, hb⟩ := row_blk h.over hk'
    exact h.opn.ne_ hb rfl
set_option maxRecDepth 100000 in
set_option maxHeartbeats 1000000 in
theorem end_calls (h : SvcAt w s b lm om L O n ov r xs F) (c : Int) : Calls Tryz.prog 35 #[.pointer (some ⟨s, 0, none⟩), .int .i64 c] w fun e w' => e = .returned (.tuple #[]) ∧ SvcAt w' s b lm om L (delO c O) n ov r xs F ∧ Keep [om] w w' := by
  have s2 : w.cell? ⟨s, 2, none⟩ = some (.map (some om)) := h.blk.cell 2
  obtain ⟨w1, hdel, hm1, hk1, -⟩ := h.opn.del (P := Tryz.prog) (t := 72) (k := 3) (e := 87) Tryz.underlying72 Tryz.underlying3 c
  rw [ptrs_del] at hm1
  have HV := Lib.hid (h.close hk1 hm1)
  have HK := Lib.hid hk1
  have HQ := Lib.hid (qdrop_calls (w := w1) (s := s) (HV.out.blk.cell 3) c)
  clear h hm1 hk1
  go_enter Tryz.func35, Tryz.ntmps35
  go_wp2_with (go_at_call 62; refine HQ.out.mono ?_; rintro e w2 ⟨rfl, rfl⟩)
  go_end0
  exact ⟨rfl, HV.out, HK.out⟩
end
end Go.Proofs.YtpnoiagjgkajdaaGreatDoor
/- The service's Expire. -/
set_option linter.unusedVariables false
namespace Go.Proofs.YtpnoiagjgkajdaaGreatDoor
open Go.RowKit
open Av (Same)
attribute [local go_sem] size_bs bs_append
theorem infoOp : (Tryz.prog.info? 96).map (fun i => (i.zero, i.size, i.bytes)) = some (some (.agg #[.int .i64 0, .string ⟨#[]⟩, .int .u64 0, .int .i64 0, .int .i64 0, .int .i64 0, .int .u64 0, .slice none 0 0]), 8, 88) := by kernel_rfl
/-- What an Expire leaves. -/
def ExpTo (C : Nat → Cm) (z : Int) (W w : World) (s b lm om m j n r : Nat) (c : Int) (L : List (Int × Value)) (O : List (Int × Nat)) (ov : Value) (F : List Nat) (e : Ending) (w' : World) : Prop :=
  e = .returned (.tuple #[.agg #[.int .i64 17, .int .u64 0, .string ⟨#[]⟩, .int .i64 0, .slice none 0 0], .int .i64 0]) ∧ ∃ ov' xs' F', Av.NowAt C z W F' b m j w' ∧ SvcAt w' s b lm om L (delO c O) (n + 1) ov' (r + 1) xs' F' ∧ (∀ y ∈ F, y ∈ F') ∧ (∀ y ∈ F', y < w'.heap.size ∧ W.heap.size ≤ y) ∧ Off (s :: lm :: om :: ov.ownBlock.toList) F w w'
section
variable {C : Nat → Cm} {z : Int} {w w' W : World} {s b lm om n r m j : Nat} {L : List (Int × Value)} {O : List (Int × Nat)} {ov : Value} {xs : List Value} {F M : List Nat}
theorem SvcAt.over_ne (h : SvcAt w s b lm om L O n ov r xs F) {g : Nat} (hg : ov.ownBlock = some g) : g ≠ s ∧ g ≠ lm ∧ g ≠ om ∧ ∀ p ∈ O, g ≠ p.2 := by
  obtain ⟨cs, hb⟩ := row_blk h.over hg
  refine ⟨hb.ne_ h.blk (by decide), Ne.symm (h.last.ne_ hb), Ne.symm (h.opn.ne_ hb), fun p hp => ?_⟩
  obtain ⟨cs', hc, _⟩ := h.calls p hp
  exact hb.ne_ hc (by decide)
/-- What is over is one more. -/
theorem SvcAt.setOver {w3 : World} {ov' : Value} {r' : Nat} {xs' : List Value} {G : List Nat} (h : SvcAt w s b lm om L O n ov r xs F) (hk : Keep ov.ownBlock.toList w w3) (ho : w3.ownsRow 0 96 8 ov' r' xs') (hG : ∀ y ∈ F, y ∈ G) (hg : ∀ g, ov'.ownBlock = some g → g ∈ G) :
    SvcAt (w3.setCell ⟨s, 5, none⟩ ov') s b lm om L O n ov' r' xs' G ∧ Keep (s :: ov.ownBlock.toList) w (w3.setCell ⟨s, 5, none⟩ ov') := by
  have hne : ∀ x, x ∈ ov.ownBlock.toList → ov.ownBlock = some x := fun x hx => by simpa using hx
  have hs : s ∉ ov.ownBlock.toList := fun hx => (h.over_ne (hne _ hx)).1 rfl
  have hl : lm ∉ ov.ownBlock.toList := fun hx => (h.over_ne (hne _ hx)).2.1 rfl
  have hm : om ∉ ov.ownBlock.toList := fun hx => (h.over_ne (hne _ hx)).2.2.1 rfl
  have hb3 := h.blk.keep hk hs
  have hk5 : Keep [s] w3 (w3.setCell ⟨s, 5, none⟩ ov') := (Keep.refl _ _).setCell (.inl (by simp)) _
  have hkk : Keep (s :: ov.ownBlock.toList) w (w3.setCell ⟨s, 5, none⟩ ov') := (hk.mono fun x hx => .inl (List.mem_cons_of_mem _ hx)).trans (hk5.mono fun x hx => .inl (by simp only [List.mem_singleton] at hx; simp [hx]))
  have hl3 := h.last.keep hk hl
  have ho3 := h.opn.keep hk hm
  refine ⟨⟨hb3.set_ 5 ov', hl3.keep hk5 (by simpa using hl3.ne_ hb3), ho3.keep hk5 (by simpa using ho3.ne_ hb3), fun p hp => ?_, hk5.owns ho fun x hx hmx => ?_, h.ne, ⟨hG _ h.mem.1, hG _ h.mem.2.1, hG _ h.mem.2.2⟩, fun p hp => hG _ (h.memC p hp), hg⟩, hkk⟩
  · obtain ⟨cs, h1, h2⟩ := h.calls p hp
    have h3 := h1.keep hk fun hx => (h.over_ne (hne _ hx)).2.2.2 p hp rfl
    exact ⟨cs, h3.keep hk5 (by simpa using h3.ne_ hb3 (by decide)), h2⟩
  · simp only [List.mem_singleton] at hmx
    subst hmx
    exact own_blk_ne ho hb3 (by decide) hx
set_option maxRecDepth 100000 in
set_option maxHeartbeats 4000000 in
theorem expire_calls (hF : ∀ y ∈ F, y < w.heap.size ∧ W.heap.size ≤ y) (hn : Av.NowAt C z W F b m j w) (h : SvcAt w s b lm om L O n ov r xs F) (c : Int) (hc : c ∈ keys O) (hn1 : n ≤ 100) (hr : r ≤ 100) :
    Calls Tryz.prog 10 #[.pointer (some ⟨s, 0, none⟩), .int .i64 c] w (ExpTo C z W w s b lm om m j n r c L O ov F) := by
  obtain ⟨i0, hi, hz0, hz1, hz2⟩ := info_parts infoOp
  have hg := h.grow ((Keep.refl [] w).alloc (.cells #[.int .i64 0, .int .u64 0, .string ⟨#[]⟩, .int .i64 0, .slice none 0 0] 42))
  have h4 : (w.alloc (.cells #[.int .i64 0, .int .u64 0, .string ⟨#[]⟩, .int .i64 0, .slice none 0 0] 42)).cell? ⟨s, 4, none⟩ = some (.int .i64 (n : Int)) := hg.blk.cell 4
  have hf : (w.alloc (.cells #[.int .i64 0, .int .u64 0, .string ⟨#[]⟩, .int .i64 0, .slice none 0 0] 42)).frozen? ⟨s, 4, none⟩ = false := hg.blk.frozen 4
  have hw : IntKind.i64.wrap ((n : Int) + 1) = (n : Int) + 1 := IntWalk.i64_in _ (by omega)
  obtain ⟨ht0, hkt0⟩ := h.tick
  have ht := ht0.grow ((Keep.refl [] _).alloc (.cells #[.int .i64 0, .int .u64 0, .string ⟨#[]⟩, .int .i64 0, .slice none 0 0] 42))
  have hl := ht.look c
  have s2 : World.cell? ((w.setCell ⟨s, 4, none⟩ (.int .i64 ((n : Int) + 1))).alloc (.cells #[.int .i64 0, .int .u64 0, .string ⟨#[]⟩, .int .i64 0, .slice none 0 0] 42)) ⟨s, 2, none⟩ = some (.map (some om)) := ht.blk.cell 2
  obtain ⟨k, hk, hlk, -⟩ : ∃ k, (c, k) ∈ O ∧ lookN c (ptrs O) = some (.pointer (some ⟨k, 0, none⟩)) ∧ True := by
    rcases ptrs_look c O with ⟨_, q⟩ | ⟨k, q1, q2, _⟩
    · exact absurd hc q
    · exact ⟨k, q1, q2, trivial⟩
  rw [hlk] at hl
  simp only [Option.getD_some] at hl
  have hs : s < w.heap.size := h.blk.lt
  have HKK : Hid ((c, k) ∈ O) := Lib.hid hk
  have HKT : Hid (Keep [s] w ((w.setCell ⟨s, 4, none⟩ (.int .i64 ((n : Int) + 1))).alloc (.cells #[.int .i64 0, .int .u64 0, .string ⟨#[]⟩, .int .i64 0, .slice none 0 0] 42))) := Lib.hid (hkt0.alloc _)
  have HR0 : Hid (Blk ((w.setCell ⟨s, 4, none⟩ (.int .i64 ((n : Int) + 1))).alloc (.cells #[.int .i64 0, .int .u64 0, .string ⟨#[]⟩, .int .i64 0, .slice none 0 0] 42)) w.heap.size 42 #[.int .i64 0, .int .u64 0, .string ⟨#[]⟩, .int .i64 0, .slice none 0 0]) := Lib.hid (Blk.here _ _ _ _ (World.size_setCell _ _ _).symm)
  have hRF : ∀ y ∈ [w.heap.size] ++ F, W.heap.size ≤ y := fun y hy => by
    rcases List.mem_append.1 hy with hy | hy
    · simp only [List.mem_singleton] at hy; subst hy; exact hn.below.size
    · exact (hF y hy).2
  have HN0 : Hid (Av.NowAt C z W ([w.heap.size] ++ F) b m j ((w.setCell ⟨s, 4, none⟩ (.int .i64 ((n : Int) + 1))).alloc (.cells #[.int .i64 0, .int .u64 0, .string ⟨#[]⟩, .int .i64 0, .slice none 0 0] 42))) := Lib.hid ((Av.Stage.more hn (N := [w.heap.size]) (by simp)).keep HKT.out (by simpa using .inr h.mem.1) hRF)
  have HRW : Hid (W.heap.size ≤ w.heap.size) := Lib.hid hn.below.size
  have HV0 := Lib.hid ht
  have HF := Lib.hid hF
  have HF0 : Hid (∀ y ∈ F, y < (((w.setCell ⟨s, 4, none⟩ (.int .i64 ((n : Int) + 1))).alloc (.cells #[.int .i64 0, .int .u64 0, .string ⟨#[]⟩, .int .i64 0, .slice none 0 0] 42))).heap.size ∧ W.heap.size ≤ y) := Lib.hid fun y hy => ⟨Nat.lt_of_lt_of_le (hF y hy).1 HKT.out.size, (hF y hy).2⟩
  have HO0 : Hid (Off (s :: lm :: om :: ov.ownBlock.toList) F w ((w.setCell ⟨s, 4, none⟩ (.int .i64 ((n : Int) + 1))).alloc (.cells #[.int .i64 0, .int .u64 0, .string ⟨#[]⟩, .int .i64 0, .slice none 0 0] 42))) := Lib.hid (Off.wide (Off.of_keep HKT.out fun y hy => (hF y hy).1) (by simp))
  have HRF : Hid (w.heap.size ∉ F) := Lib.hid fun hm => by have := (hF _ hm).1; omega
  have HRR := Lib.hid hr
  clear h hn ht ht0 hkt0 hg hRF hc hF hk hlk hr hn1
  go_enter Tryz.func10, Tryz.ntmps10
  go_upto_region 5 with fail
  have HRG : Hid (∃ R, R = w.heap.size) := Lib.hid ⟨_, rfl⟩
  obtain ⟨R, hR⟩ := HRG.out
  rw [← hR] at HR0 HRF HN0 HRW
  simp only [← hR]
  have HRN : Hid (w.heap.size ≤ R) := Lib.hid (by omega)
  clear hR HRG s2 hl h4 hf hw
  obtain ⟨A, cp, hov⟩ := HV0.out.ov_slice
  subst hov
  generalize ((w.setCell ⟨s, 4, none⟩ (.int .i64 ((n : Int) + 1))).alloc (.cells #[.int .i64 0, .int .u64 0, .string ⟨#[]⟩, .int .i64 0, .slice none 0 0] 42)) = W0 at *
  obtain ⟨cs, hb, h0, ⟨nm, h3⟩, st, h11⟩ := HV0.out.calls (c, k) HKK.out
  have HOP : Hid (∀ w, Keep [] W0 w → Calls Tryz.prog 34 #[.pointer (some ⟨k, 0, none⟩)] w fun e w' => e = .returned (.agg #[.int .i64 4, .string nm, .int .u64 0, .int .i64 st, .int .i64 (-1), .int .i64 0, .int .u64 0, .slice none 0 0]) ∧ Keep [] w w') := Lib.hid fun w hW => op_calls (hb.keep hW (by simp)) h0 h3 h11
  have HSE : Hid (∀ W, Keep [] W0 W → World.cell? W ⟨s, 5, none⟩ = some (.slice A r cp)) := Lib.hid fun W hW => (HV0.out.grow hW).blk.cell 5
  clear hb h0 h3 h11
  have hHeld := HSE.out _ (Keep.refl _ _).drew
  refine wp_region_K (S := fun W => World.cell? W ⟨s, 5, none⟩ = some (.slice A r cp)) (z := 11) (by kernel_rfl) ?_
  refine tk 0 hHeld ?_
  refine tk 1 hHeld ?_
  refine tk 2 hHeld ?_
  refine tk 3 hHeld ?_
  refine tk 4 hHeld ?_
  refine tk 5 hHeld ?_
  clear hHeld
  refine wpAnyK_one (k := 6) (by kernel_rfl) rfl (fun K hK => ?_)
  go_simp
  go_at_call 34
  refine (HOP.out _ (Keep.refl _ _).drew).mono ?_
  rintro e w1 ⟨rfl, hk1⟩
  have HK1 : Hid (Keep [] W0 w1) := Lib.hid ((Keep.refl _ _).drew.trans hk1)
  clear hk1 HOP
  go_simp
  refine hK.out _ _ (fun _ => HSE.out _ HK1.out) ?_
  clear hK K
  try simp only [Act.put, List.setIfInBounds_toArray, List.set_cons_zero, List.set_cons_succ]
  refine wpAnyK_one (k := 7) (by kernel_rfl) rfl (fun K hK => ?_)
  go_simp
  refine hK.out _ _ (fun _ => HSE.out _ (HK1.out.alloc _)) ?_
  clear hK K
  try simp only [Act.put, List.setIfInBounds_toArray, List.set_cons_zero, List.set_cons_succ]
  refine wpAnyK_one (k := 8) (by kernel_rfl) rfl (fun K hK => ?_)
  refine step_append1 (n := r) (xs := xs) (news := [.int .i64 4, .string nm, .int .u64 0, .int .i64 st, .int .i64 (-1), .int .i64 0, .int .u64 0, .slice none 0 0]) rfl (.tmp 27) (.tmp 30) rfl Tryz.underlying76 hi hz0 hz1 hz2 rfl (by omega) rfl rfl (Keep.owns (M := []) (HK1.out.alloc _) HV0.out.over (by simp)) (Blk.new _ _ _) rfl (by simp [Value.oneCell']) (by unfold maxLen; have := HRR.out; omega) (by have := HRR.out; omega) ?_
  intro g cap w3 hown3 hk3 hat3
  have HK3 : Hid (Keep (Value.slice A r cp).ownBlock.toList W0 w3) := Lib.hid ((HK1.out.alloc _).nil_.trans hk3)
  have hG : ∃ G, (∀ y ∈ F, y ∈ G) ∧ g ∈ G ∧ Av.NowAt C z W ([R] ++ G) b m j w3 ∧ (∀ y ∈ G, y < w3.heap.size ∧ W.heap.size ≤ y) ∧ R ∉ G := by
    obtain ⟨cs4, hb4⟩ := row_blk (k := g) hown3 (by rfl)
    have hMF : ∀ y ∈ (Value.slice A r cp).ownBlock.toList, y ∈ [R] ++ F := fun y hy => List.mem_append_right _ (HV0.out.memO y (by simpa using hy))
    have hRF : ∀ y ∈ [R] ++ F, W.heap.size ≤ y := fun y hy => by
      rcases List.mem_append.1 hy with hy | hy
      · simp only [List.mem_singleton] at hy; subst hy; exact HRW.out
      · exact (HF.out y hy).2
    rcases hat3 with hat | hat
    · exact ⟨F, fun y hy => hy, HV0.out.memO g hat, Av.Stage.keep (Av.Stage.grow HN0.out (HK1.out.alloc _)) hk3 hMF hRF, fun y hy => ⟨Nat.lt_of_lt_of_le (HF0.out y hy).1 HK3.out.size, (HF.out y hy).2⟩, HRF.out⟩
    · have hzz : W0.heap.size ≤ g := by rw [hat]; exact (HK1.out.alloc _).size
      have hzW : W.heap.size ≤ g := Nat.le_trans (Av.Stage.below HN0.out).size hzz
      have hall : ∀ y ∈ [g] ++ ([R] ++ F), W.heap.size ≤ y := fun y hy => by
        rcases List.mem_append.1 hy with hy | hy
        · simp only [List.mem_singleton] at hy; subst hy; exact hzW
        · exact hRF y hy
      have hst := Av.Stage.keep ((Av.Stage.grow HN0.out (HK1.out.alloc _)).more (N := [g]) (by simp only [List.mem_singleton]; rintro y rfl; exact Nat.le_of_eq hat.symm)) hk3 (fun y hy => List.mem_append_right _ (hMF y hy)) hall
      refine ⟨[g] ++ F, fun y hy => List.mem_append_right _ hy, by simp, hst.sub fun y hy => ?_, fun y hy => ⟨?_, ?_⟩, fun hm => ?_⟩
      · simp only [List.mem_append, List.mem_singleton] at hy ⊢
        rcases hy with hy | hy | hy
        · exact .inr (.inl hy)
        · exact .inl hy
        · exact .inr (.inr hy)
      · rcases List.mem_append.1 hy with hy | hy
        · simp only [List.mem_singleton] at hy; subst hy; exact hb4.lt
        · exact Nat.lt_of_lt_of_le (HF0.out y hy).1 HK3.out.size
      · rcases List.mem_append.1 hy with hy | hy
        · simp only [List.mem_singleton] at hy; subst hy; exact hzW
        · exact (HF.out y hy).2
      · rcases List.mem_append.1 hm with hm | hm
        · simp only [List.mem_singleton] at hm
          have := HR0.out.lt
          omega
        · exact HRF.out hm
  obtain ⟨G, hG1, hG2, hG3, hG4, hG5⟩ := hG
  have HG5 := Lib.hid hG5
  clear hG5
  have hgx : ∀ x, (Value.slice (some ⟨g, 0, none⟩) (r + 1) cap).ownBlock = some x → x ∈ G := fun x hx => by
    have : g = x := by simpa [Value.ownBlock] using hx
    exact this ▸ hG2
  have hso := HV0.out.setOver (G := G) HK3.out hown3 hG1 hgx
  have HMO : Hid (om ∈ F) := Lib.hid HV0.out.mem.2.2
  have HV4 := Lib.hid hso.1
  have HK4 := Lib.hid hso.2
  have hRG : ∀ y ∈ [R] ++ G, W.heap.size ≤ y := fun y hy => by
    rcases List.mem_append.1 hy with hy | hy
    · simp only [List.mem_singleton] at hy; subst hy; exact HRW.out
    · exact (hG4 y hy).2
  have HRG := Lib.hid hRG
  have HN4 : Hid (Av.NowAt C z W ([R] ++ G) b m j (w3.setCell ⟨s, 5, none⟩ (.slice (some ⟨g, 0, none⟩) (r + 1) cap))) := Lib.hid (Av.Stage.keep hG3 (M := [s]) ((Keep.refl _ _).setCell (.inl (by simp)) _) (by simpa using .inr (hG1 _ HV0.out.mem.1)) hRG)
  have hb3 : Blk w3 s _ _ := HV0.out.blk.keep HK3.out fun hx => (HV0.out.over_ne (by simpa using hx)).1 rfl
  have z5 : w3.cell? ⟨s, 5, none⟩ = some (.slice A r cp) := hb3.cell 5
  have zf : w3.frozen? ⟨s, 5, none⟩ = false := hb3.frozen 5
  have HG1 := Lib.hid hG1
  have HG4 := Lib.hid hG4
  clear hG1 hG2 hG3 hG4 hRG hgx hso hb3 hown3 hk3 hat3 HSE
  go_simp
  refine hK.out _ _ (fun _ => z5) ?_
  clear hK K
  try simp only [Act.put, List.setIfInBounds_toArray, List.set_cons_zero, List.set_cons_succ]
  refine tk 9 z5 ?_
  refine tk 10 z5 ?_
  refine wpAnyK_one (k := 11) (by kernel_rfl) rfl (fun K hK => ?_)
  go_simp
  refine hK.out _ _ (fun h => absurd rfl h) ?_
  clear hK K z5 zf
  try simp only [Act.put, List.setIfInBounds_toArray, List.set_cons_zero, List.set_cons_succ]
  refine wpAnyK_done (by kernel_rfl) ?_
  have HF4 : Hid (∀ y ∈ G, y < (w3.setCell ⟨s, 5, none⟩ (.slice (some ⟨g, 0, none⟩) (r + 1) cap)).heap.size ∧ W.heap.size ≤ y) := Lib.hid fun y hy => by rw [World.size_setCell]; exact HG4.out y hy
  have HR4 : Hid (Blk (w3.setCell ⟨s, 5, none⟩ (.slice (some ⟨g, 0, none⟩) (r + 1) cap)) R 42 #[.int .i64 0, .int .u64 0, .string ⟨#[]⟩, .int .i64 0, .slice none 0 0]) := Lib.hid (HR0.out.keep HK4.out fun hx => by
    rcases List.mem_cons.1 hx with hx | hx
    · exact HRF.out (hx ▸ HV0.out.mem.1)
    · exact HRF.out (HV0.out.memO R (by simpa using hx)))
  have HO4 : Hid (Off (s :: lm :: om :: (Value.slice A r cp).ownBlock.toList) F w (w3.setCell ⟨s, 5, none⟩ (.slice (some ⟨g, 0, none⟩) (r + 1) cap))) := Lib.hid (HO0.out.trans (Off.wide (Off.of_keep HK4.out fun y hy => (HF0.out y hy).1) fun y hy => by
    rcases List.mem_cons.1 hy with hy | hy
    · simp [hy]
    · simp only [List.mem_cons]; exact .inr (.inr (.inr hy))))
  have HZ4 : Hid (w.heap.size ≤ (w3.setCell ⟨s, 5, none⟩ (.slice (some ⟨g, 0, none⟩) (r + 1) cap)).heap.size) := Lib.hid (Nat.le_trans HKT.out.size HK4.out.size)
  clear HG4 HK3 HK4 HR0 HO0 HF0 HN0 HV0 HK1 HKT HKK
  generalize w3.setCell ⟨s, 5, none⟩ (.slice (some ⟨g, 0, none⟩) (r + 1) cap) = W4 at *
  have HE := Lib.hid (end_calls HV4.out c)
  go_wp2_with (go_at_call 35; refine HE.out.mono ?_; rintro e w5 ⟨rfl, hv5, hk5⟩; have HV5 := Lib.hid hv5; have HK5 := Lib.hid hk5; have HR5 := Lib.hid (HR4.out.keep hk5 (by simpa using fun hx : R = om => HRF.out (hx ▸ HMO.out))); have z0 : World.cell? w5 ⟨R, 0, none⟩ = some (.int .i64 0) := HR5.out.cell 0; have z1 : World.cell? w5 ⟨R, 1, none⟩ = some (.int .u64 0) := HR5.out.cell 1; have z2 : World.cell? w5 ⟨R, 2, none⟩ = some (.string ⟨#[]⟩) := HR5.out.cell 2; have z3 : World.cell? w5 ⟨R, 3, none⟩ = some (.int .i64 0) := HR5.out.cell 3; have z4 : World.cell? w5 ⟨R, 4, none⟩ = some (.slice none 0 0) := HR5.out.cell 4; have zf := HR5.out.frozen; clear hv5 hk5)
  have HK6 : Hid (∀ W6, Keep [R] w5 W6 → ExpTo C z W w s b lm om m j n r c L O (.slice A r cp) F (.returned (.tuple #[.agg #[.int .i64 17, .int .u64 0, .string ⟨#[]⟩, .int .i64 0, .slice none 0 0], .int .i64 0])) W6) := Lib.hid fun W6 hk6 => by
    have hn5 : Av.NowAt C z W ([R] ++ G) b m j w5 := Av.Stage.keep HN4.out HK5.out (by simpa using .inr (HG1.out _ HMO.out)) HRG.out
    have hsz : ∀ y ∈ G, y < W6.heap.size := fun y hy => Nat.lt_of_lt_of_le (HF4.out y hy).1 (Nat.le_trans HK5.out.size hk6.size)
    refine ⟨rfl, _, _, [R] ++ G, Av.Stage.keep hn5 hk6 (by simp) HRG.out, (HV5.out.keep hk6 (by simpa using HG5.out)).more fun y hy => List.mem_append_right _ hy, fun y hy => List.mem_append_right _ (HG1.out y hy), fun y hy => ⟨?_, HRG.out y hy⟩, ?_⟩
    · rcases List.mem_append.1 hy with hy | hy
      · simp only [List.mem_singleton] at hy; subst hy; exact Nat.lt_of_lt_of_le HR5.out.lt hk6.size
      · exact hsz y hy
    · refine (HO4.out.trans (Off.wide (Off.of_keep HK5.out fun y hy => (HF4.out y (HG1.out y hy)).1) (by simp))).trans fun y hy hm => ?_
      exact hk6.block y (Nat.lt_of_lt_of_le (HF4.out y (HG1.out y hy)).1 HK5.out.size) (by simpa using fun hx : y = R => HRF.out (hx ▸ hy))
  refine bodyPost_ret (v := .tuple #[.agg #[.int .i64 17, .int .u64 0, .string ⟨#[]⟩, .int .i64 0, .slice none 0 0], .int .i64 0]) (by simp [results, Tryz.results10, go_sem, z0, z1, z2, z3, z4]) rfl (HK6.out _ ?_)
  repeat (first | refine Keep.setCell ?_ (.inl (by simp)) _ | exact Keep.refl _ _)
end
end Go.Proofs.YtpnoiagjgkajdaaGreatDoor
/- A service of a new cluster; begin. -/
set_option linter.unusedVariables false
namespace Go.Proofs.YtpnoiagjgkajdaaGreatDoor
open Go.RowKit
open Av (Same)
attribute [local go_sem] size_bs bs_append
def f3 (s lm om : Nat) : List Nat := [s, lm, om]
/-- A new service. -/
def NewTo (C : Nat → Cm) (z : Int) (W w : World) (G : List Nat) (e : Ending) (w' : World) : Prop := ∃ s b lm om, e = .returned (.tuple #[.pointer (some ⟨s, 0, none⟩), .int .i64 0]) ∧ Av.BkAt C z W (f3 s lm om ++ G) b 3 0 w' ∧ SvcAt w' s b lm om [] [] 0 (.slice none 0 0) 0 [] (f3 s lm om) ∧ (∀ y ∈ f3 s lm om, y < w'.heap.size ∧ W.heap.size ≤ y) ∧ Keep [] w w'
section
variable {C : Nat → Cm} {z : Int} {w w' W : World} {s b lm om n r m j : Nat} {F M : List Nat}
set_option maxRecDepth 100000 in
set_option maxHeartbeats 1000000 in
theorem snew_calls {ty : Nat → Nat} {G : List Nat} (hC : Av.CsOk C) (hT : Av.Tabs W ty) (hw : Keep [] W w) (hG : ∀ y ∈ G, y < w.heap.size) : Calls Tryz.prog 21 #[Av.cfgV (nOf z)] w (NewTo C z W w G) := by
  have hmm := @run_makeMap Tryz.prog
  have HN := Lib.hid (fun w1 (h : Keep [] W w1) (hg : ∀ y ∈ G, y < w1.heap.size) => Av.cnew_calls (z := z) hC hT h hg)
  have HG : Hid (∀ w1, Keep [] w w1 → ∀ y ∈ G, y < w1.heap.size) := Lib.hid fun w1 hk y hy => Nat.lt_of_lt_of_le (hG y hy) hk.size
  have HW := Lib.hid hw
  simp only [Av.cfgV, Av.ptrV] at HN ⊢
  clear hC hT hw hG
  go_enter Tryz.func21, Tryz.ntmps21
  go_wp2_with (go_at_call 45; refine (HN.out _ (HW.out.alloc _) (HG.out _ ((Keep.refl _ _).alloc _))).mono ?_; rintro e w1 ⟨b, rfl, hb, hkw⟩; have HB := Lib.hid hb; have HKW := Lib.hid hkw; clear hb hkw)
  refine bodyPost_ret (by simp [results, Tryz.results21, go_sem]; try rfl) rfl ?_
  have hk : Keep [] w1 (((w1.alloc (.map #[] 0)).alloc (.map #[] 0)).alloc (.cells #[.pointer (some ⟨b, 0, none⟩), .map (some w1.heap.size), .map (some (w1.heap.size + 1)), .slice none 0 0, .int .i64 0, .slice none 0 0] 78)) := (((Keep.refl _ _).alloc _).alloc _).alloc _
  have hz : (((w1.alloc (.map #[] 0)).alloc (.map #[] 0)).alloc (.cells #[.pointer (some ⟨b, 0, none⟩), .map (some w1.heap.size), .map (some (w1.heap.size + 1)), .slice none 0 0, .int .i64 0, .slice none 0 0] 78)).heap.size = w1.heap.size + 3 := by simp [World.size_alloc]
  obtain ⟨ty, cc, hst⟩ := HB.out
  have hW1 := hst.below.size
  refine ⟨w1.heap.size + 1 + 1, b, w1.heap.size, w1.heap.size + 1, rfl, ⟨ty, cc, ?_⟩, ⟨Blk.here _ _ _ _ (by simp [World.size_alloc]), ?_, ?_, fun p hp => (by cases hp), World.ownsRow_nil _ _ _ _, by omega, ⟨by simp [f3], by simp [f3], by simp [f3]⟩, fun p hp => (by cases hp), fun g hg => (by cases hg)⟩, fun y hy => ?_, (((Keep.refl _ _).alloc _).trans HKW.out).trans hk⟩
  · exact (hst.more (N := f3 (w1.heap.size + 1 + 1) w1.heap.size (w1.heap.size + 1)) (by simp [f3]; omega)).grow hk
  · exact (((MapN.made w1).alloc _).alloc _)
  · have := (MapN.made (q := .i64) (w1.alloc (.map #[] 0))).alloc (.cells #[.pointer (some ⟨b, 0, none⟩), .map (some w1.heap.size), .map (some (w1.heap.size + 1)), .slice none 0 0, .int .i64 0, .slice none 0 0] 78)
    rwa [World.size_alloc] at this
  · simp only [f3, List.mem_cons, List.not_mem_nil, or_false] at hy
    rw [hz]
    rcases hy with rfl | rfl | rfl <;> omega
end
end Go.Proofs.YtpnoiagjgkajdaaGreatDoor
/- heal: drives mended, all up, a hundred rounds. -/
set_option linter.unusedVariables false
namespace Go.Proofs.YtpnoiagjgkajdaaGreatDoor
open Go.RowKit
open Av (Same)
attribute [local go_sem] size_bs bs_append
/-- What heal leaves. -/
def HealTo (C : Nat → Cm) (z : Int) (W w : World) (s b lm om : Nat) (F : List Nat) (e : Ending) (w' : World) : Prop :=
  e = .returned (.tuple #[]) ∧ Av.NowAt C z W F b 14 0 w' ∧ SvcAt w' s b lm om [] [] 0 (.slice none 0 0) 0 [] F ∧ Same F w w'
section
variable {C : Nat → Cm} {z : Int} {w w' W : World} {s b lm om n r m j : Nat} {F M : List Nat} {v1 v2 v3 v4 v5 v6 v7 v8 v9 : Value}
set_option maxRecDepth 100000 in
set_option maxHeartbeats 2000000 in
theorem heal_calls {x y g : Nat} (hC : Av.CsOk C) (hF : ∀ y ∈ F, y < w.heap.size ∧ W.heap.size ≤ y) (hb : Av.BkAt C z W F b 3 0 w) (h : SvcAt w s b lm om [] [] 0 (.slice none 0 0) 0 [] F) :
    Calls Tryz.prog 7 #[.agg #[.pointer (some ⟨s, 0, none⟩), .pointer (some ⟨b, 0, none⟩), .map (some x), .int .i64 0, .int .i64 0, .int .i64 0, .int .i64 0, .map (some y), .slice (some ⟨g, 0, none⟩) 5 5, .int .i64 0]] w (HealTo C z W w s b lm om F) := by
  have HC := Lib.hid hC
  have HL : Hid (∀ w', Same F w w' → ∀ y ∈ F, y < w'.heap.size) := Lib.hid fun w' hs => hs.lt fun y hy => (hF y hy).1
  have HLA : Hid (∀ w', Keep [] w w' → Same F w w') := Lib.hid fun w' hk => Same.of_keep hk fun y hy => (hF y hy).1
  have HB : Hid (∀ w', Keep [] w w' → Av.BkAt C z W F b 3 0 w') := Lib.hid fun w' hk => by
    obtain ⟨ty, c, hst⟩ := hb
    exact ⟨ty, c, Av.Stage.grow hst hk⟩
  have HV := Lib.hid h
  have HCL := Lib.hid (fun w' (hk : Keep [] w w') => cluster_calls (h.grow hk))
  clear hC hF hb h
  go_enter Tryz.func7, Tryz.ntmps7
  go_wp2_with (go_at_call 13; refine (HCL.out _ ((Keep.refl _ _).alloc _)).mono ?_; rintro e w1 ⟨rfl, rfl⟩)
  go_loopw [3] (fun x wr => ∃ i : Nat, i ≤ 3 ∧ x = .int .i64 (i : Int) ∧ Av.BkAt C z W F b (3 - i) (i : Int) wr ∧ Same F w wr) (fun x _ => 4 - (intOf x).toNat)
  case atStart => exact ⟨0, by omega, rfl, HB.out _ ((Keep.refl _ _).alloc _), HLA.out _ ((Keep.refl _ _).alloc _)⟩
  case round =>
    obtain ⟨i, hi, rfl, hbk, hsm⟩ := hrel
    have HBK := Lib.hid hbk
    have HSM := Lib.hid hsm
    clear hbk hsm
    by_cases h3 : i < 3
    · have hlt : (i : Int) < 3 := by omega
      have hw : IntKind.i64.wrap ((i : Int) + 1) = (i : Int) + 1 := IntWalk.i64_in _ (by omega)
      have HB1 : Hid (Av.BkAt C z W F b (2 - i + 1) (i : Int) wr) := Lib.hid (by rw [show 2 - i + 1 = 3 - i by omega]; exact HBK.out)
      go_wp2_with (first
        | (go_at_call 23; refine (Av.site_calls HC.out (HL.out _ HSM.out) HB1.out).mono ?_; rintro e w2 ⟨vs, rfl, hs2, hm2⟩; have HS2 := Lib.hid hs2; have HM2 := Lib.hid (HSM.out.trans hm2); clear hs2 hm2)
        | (go_at_call 24; refine (Av.lib_calls HC.out (HL.out _ HM2.out) HS2.out).mono ?_; rintro e w3 ⟨vl, rfl, hs3, hm3⟩; have HS3 := Lib.hid hs3; have HM3 := Lib.hid (HM2.out.trans hm3); clear hs3 hm3)
        | (go_at_call 25; refine (Av.break_calls HC.out (HL.out _ HM3.out) HS3.out).mono ?_; rintro e w4 ⟨rfl, hb4, hm4⟩; have HB4 := Lib.hid hb4; have HM4 := Lib.hid (HM3.out.trans hm4); clear hb4 hm4))
      go_roundw
      case rel => exact ⟨i + 1, by omega, by go_num, by rw [show 3 - (i + 1) = 2 - i by omega]; exact HB4.out, HM4.out⟩
      case measure => simp [intOf]; omega
    · have hlt : ¬ (i : Int) < 3 := by omega
      have HB0 : Hid (Av.BkAt C z W F b 0 (i : Int) wr) := Lib.hid (by have := HBK.out; rwa [show 3 - i = 0 by omega] at this)
      clear h3 hi
      go_wp2_with (go_at_call 26; refine (Av.heal_calls HC.out (HL.out _ HSM.out) HB0.out).mono ?_; rintro e w2 ⟨rfl, hr2, hm2⟩; have HR2 := Lib.hid hr2; have HM2 := Lib.hid (HSM.out.trans hm2); clear hr2 hm2)
      go_loopw [4] (fun x wr => ∃ i : Nat, i ≤ 100 ∧ x = .int .i64 (i : Int) ∧ Av.RdAt C z W F b (Av.rds (nOf z) - i) wr ∧ Same F w wr) (fun x _ => 101 - (intOf x).toNat)
      case atStart => exact ⟨0, by omega, rfl, HR2.out, HM2.out⟩
      case round =>
        obtain ⟨q, hq, rfl, hrd, hsm⟩ := hrel
        have HRD := Lib.hid hrd
        have HSR := Lib.hid hsm
        clear hrd hsm
        by_cases h100 : q < 100
        · have hlt2 : (q : Int) < 100 := by omega
          have hw : IntKind.i64.wrap ((q : Int) + 1) = (q : Int) + 1 := IntWalk.i64_in _ (by omega)
          go_wp2_with (go_at_call 14; refine (Av.round_calls HC.out (HL.out _ HSR.out) HRD.out).mono ?_; rintro e w3 ⟨rfl, hr3, hm3⟩; have HR3 := Lib.hid hr3; have HM3 := Lib.hid (HSR.out.trans hm3); clear hr3 hm3)
          go_roundw
          case rel => exact ⟨q + 1, by omega, by go_num, by rw [show Av.rds (nOf z) - (q + 1) = Av.rds (nOf z) - q - 1 by omega]; exact HR3.out, HM3.out⟩
          case measure => simp [intOf]; omega
        · have hlt2 : ¬ (q : Int) < 100 := by omega
          have HR0 : Hid (Av.RdAt C z W F b 0 wr) := Lib.hid (by
            have h1 := HRD.out
            have h2 : Av.rds (nOf z) ≤ 10 := by unfold Av.rds; split <;> omega
            rwa [show Av.rds (nOf z) - q = 0 by omega] at h1)
          clear h100 hq
          go_wp2_with fail
          go_end0
          exact ⟨rfl, HR0.out.now, HV.out.same HSR.out, HSR.out⟩
end
end Go.Proofs.YtpnoiagjgkajdaaGreatDoor
/- ServiceExpires in plain words: which Lists begin, whose calls are open. -/
set_option linter.unusedVariables false
namespace Go.Proofs.YtpnoiagjgkajdaaGreatDoor
/-- A client's number. -/
def cN (x : Int) : Nat := (1 + Int.tmod (Int.tmod x 12 + 12) 12).toNat
theorem cN_rem (x : Int) : ∃ k : Int, 0 ≤ k ∧ k < 12 ∧ Int.tmod (Int.tmod x 12 + 12) 12 = k ∧ -12 < Int.tmod x 12 ∧ Int.tmod x 12 < 12 ∧ ((cN x : Nat) : Int) = 1 + k := by
  have h1 := Int.tmod_lt_of_pos x (show (0 : Int) < 12 by decide)
  have h2 : -12 < Int.tmod x 12 := by
    have := Int.tmod_lt_of_pos (-x) (show (0 : Int) < 12 by decide)
    rw [Int.neg_tmod] at this
    omega
  have h4 : Int.tmod (Int.tmod x 12 + 12) 12 = (Int.tmod x 12 + 12) % 12 := Int.tmod_eq_emod_of_nonneg (by omega)
  refine ⟨_, by omega, by omega, h4, h2, h1, ?_⟩
  unfold cN
  rw [h4]
  omega
theorem cN_in (x : Int) : 1 ≤ cN x ∧ cN x ≤ 12 := by
  obtain ⟨k, h1, h2, _, _, _, h3⟩ := cN_rem x
  omega
/-- Open clients, the clients' numbers, the Lists that began. -/
structure Mx where
  O : List Int
  Ln : List (Int × Nat)
  acc : List (Nat × Nat)
def Mx.busy (s : Mx) (c : Nat) : Prop := (c : Int) ∈ s.O ∨ 8 ≤ s.O.length
instance (s : Mx) (c : Nat) : Decidable (s.busy c) := by unfold Mx.busy; infer_instance
def Mx.beg (s : Mx) (c : Nat) : Mx := if s.busy c then s else ⟨s.O ++ [(c : Int)], putO (c : Int) (seqI (c : Int) s.Ln + 1) s.Ln, s.acc ++ [(c, seqI (c : Int) s.Ln + 1)]⟩
def Mx.exp (s : Mx) (i c : Nat) : Mx := if i % 3 = 2 ∧ (c : Int) ∈ s.O then ⟨s.O.erase (c : Int), s.Ln, s.acc⟩ else s
def runM (l : List Int) : Nat → Mx
  | 0 => ⟨[], [], []⟩
  | i + 1 => match l[i]? with
    | some x => ((runM l i).beg (cN x)).exp i (cN x)
    | none => runM l i
theorem runM_succ {l : List Int} {i : Nat} {x : Int} (h : l[i]? = some x) : runM l (i + 1) = ((runM l i).beg (cN x)).exp i (cN x) := by simp only [runM, h]
theorem seqI_put (c x : Int) (v : Nat) : ∀ l, seqI x (putO c v l) = if x = c then v else seqI x l
  | [] => by
    by_cases h : x = c <;> simp [putO, seqI, h]
  | p :: l => by
    have ih := seqI_put c x v l
    by_cases h : c = p.1
    · simp only [putO, if_pos h, seqI]
      by_cases hx : x = c
      · rw [if_pos hx, if_pos hx]
      · rw [if_neg hx, if_neg hx, if_neg (by rw [← h]; exact hx)]
    · simp only [putO, if_neg h, seqI, ih]
      by_cases hp : x = p.1
      · rw [if_pos hp, if_pos hp, if_neg (by rw [hp]; exact Ne.symm h)]
      · rw [if_neg hp, if_neg hp]
structure Mx.Ok (i : Nat) (s : Mx) : Prop where
  len : s.O.length ≤ 8
  num : s.acc.length ≤ s.O.length + i / 3
  seq : ∀ c, seqI c s.Ln ≤ i
  acc : ∀ p ∈ s.acc, p.1 ≤ 12 ∧ p.2 ≤ i
  nd : s.O.Nodup
theorem Mx.Ok.next {i : Nat} {s : Mx} (h : s.Ok i) (x : Int) : ((s.beg (cN x)).exp i (cN x)).Ok (i + 1) := by
  have hc := cN_in x
  have h1 : (s.beg (cN x)).O.length ≤ 8 ∧ (s.beg (cN x)).acc.length ≤ (s.beg (cN x)).O.length + i / 3 ∧ (∀ c, seqI c (s.beg (cN x)).Ln ≤ i + 1) ∧ (∀ p ∈ (s.beg (cN x)).acc, p.1 ≤ 12 ∧ p.2 ≤ i + 1) ∧ (s.beg (cN x)).O.Nodup := by
    unfold Mx.beg
    split
    · exact ⟨h.len, h.num, fun c => Nat.le_succ_of_le (h.seq c), fun p hp => ⟨(h.acc p hp).1, Nat.le_succ_of_le (h.acc p hp).2⟩, h.nd⟩
    · rename_i hb
      unfold Mx.busy at hb
      rw [not_or] at hb
      have hn := h.num
      refine ⟨by simp only [List.length_append, List.length_singleton]; omega, by simp only [List.length_append, List.length_singleton]; omega, fun c => ?_, fun p hp => ?_, ?_⟩
      · simp only [seqI_put]
        have h2 := h.seq c
        have h3 := h.seq (cN x : Int)
        split <;> omega
      · rcases List.mem_append.1 hp with hp | hp
        · exact ⟨(h.acc p hp).1, Nat.le_succ_of_le (h.acc p hp).2⟩
        · simp only [List.mem_singleton] at hp
          subst hp
          exact ⟨hc.2, Nat.succ_le_succ (h.seq _)⟩
      · rw [List.nodup_append]
        refine ⟨h.nd, by simp, fun a ha b hb' => ?_⟩
        simp only [List.mem_singleton] at hb'
        subst hb'
        rintro rfl
        exact hb.1 ha
  obtain ⟨k1, k2, k3, k4, k5⟩ := h1
  generalize s.beg (cN x) = t at *
  unfold Mx.exp
  split
  · rename_i hi
    have hl := List.length_erase_of_mem hi.2
    have hp := List.length_pos_of_mem hi.2
    exact ⟨by simp only [hl]; omega, by simp only [hl]; omega, k3, k4, k5.erase _⟩
  · exact ⟨k1, by omega, k3, k4, k5⟩
theorem runM_ok (l : List Int) : ∀ i, (runM l i).Ok i
  | 0 => ⟨by simp [runM], by simp [runM], fun c => by simp [runM, seqI], fun p hp => by simp [runM] at hp, by simp [runM]⟩
  | i + 1 => by
    cases h : l[i]? with
    | none =>
      have e : runM l (i + 1) = runM l i := by simp only [runM, h]
      have h1 := runM_ok l i
      rw [e]
      exact ⟨h1.len, by have := h1.num; omega, fun c => Nat.le_succ_of_le (h1.seq c), fun p hp => ⟨(h1.acc p hp).1, Nat.le_succ_of_le (h1.acc p hp).2⟩, h1.nd⟩
    | some x =>
      rw [runM_succ h]
      exact (runM_ok l i).next x
theorem exp_acc (s : Mx) (i c : Nat) : (s.exp i c).acc = s.acc := by unfold Mx.exp; split <;> rfl
theorem beg_pre (s : Mx) (c : Nat) : s.acc <+: (s.beg c).acc := by
  unfold Mx.beg
  split
  · exact List.prefix_refl _
  · exact List.prefix_append _ _
theorem runM_pre (l : List Int) (i : Nat) : ∀ k, (runM l i).acc <+: (runM l (i + k)).acc
  | 0 => List.prefix_refl _
  | k + 1 => by
    refine (runM_pre l i k).trans ?_
    show (runM l (i + k)).acc <+: (runM l (i + k + 1)).acc
    cases h : l[i + k]? with
    | none => simp only [runM, h]; exact List.prefix_refl _
    | some x => rw [runM_succ h, exp_acc]; exact beg_pre _ _
/-- The j-th List that begins. -/
def comW (l : List Int) (j : Nat) : Cm := match (runM l 20).acc[j]? with
  | some p => lsC p.1 p.2
  | none => lsC 1 1
theorem comW_ok (l : List Int) : Av.CsOk (comW l) := fun j => by
  unfold comW
  cases h : (runM l 20).acc[j]? with
  | none => exact ⟨1, 1, rfl, by omega, by omega⟩
  | some p =>
    have := (runM_ok l 20).acc p (List.mem_of_getElem? h)
    exact ⟨p.1, p.2, rfl, by omega, by omega⟩
theorem comW_at {l : List Int} {i : Nat} {x : Int} (hi : i < 20) (hx : l[i]? = some x) (hb : ¬ (runM l i).busy (cN x)) : comW l (runM l i).acc.length = lsC (cN x) (seqI (cN x : Int) (runM l i).Ln + 1) := by
  have h1 : (runM l (i + 1)).acc[(runM l i).acc.length]? = some (cN x, seqI (cN x : Int) (runM l i).Ln + 1) := by
    rw [runM_succ hx, exp_acc]
    unfold Mx.beg
    rw [if_neg hb]
    simp
  obtain ⟨t, ht⟩ := runM_pre l (i + 1) (20 - (i + 1))
  have h2 : (runM l 20).acc[(runM l i).acc.length]? = some (cN x, seqI (cN x : Int) (runM l i).Ln + 1) := by
    rw [show (20 : Nat) = i + 1 + (20 - (i + 1)) by omega, ← ht, List.getElem?_append_left]
    · exact h1
    · rcases Nat.lt_or_ge (runM l i).acc.length (runM l (i + 1)).acc.length with h | h
      · exact h
      · rw [List.getElem?_eq_none h] at h1; cases h1
  unfold comW
  rw [h2]
theorem acc_le {l : List Int} {i : Nat} (hi : i ≤ 20) : (runM l i).acc.length ≤ 14 := by
  have h := runM_ok l i
  have h1 := h.len
  have h2 := h.num
  omega
/-- One more begins: then there were fewer than fourteen. -/
theorem acc_lt {l : List Int} {i : Nat} {x : Int} (hi : i < 20) (hx : l[i]? = some x) (hb : ¬ (runM l i).busy (cN x)) : (runM l i).acc.length < 14 := by
  have h := acc_le (l := l) (i := i + 1) (by omega)
  rw [runM_succ hx, exp_acc] at h
  unfold Mx.beg at h
  rw [if_neg hb, List.length_append, List.length_singleton] at h
  omega
/-- The law's own map. -/
def bvs (O : List Int) : List (Int × Value) := O.map fun c => (c, .bool true)
theorem bvs_len (O : List Int) : (bvs O).length = O.length := by simp [bvs]
theorem bvs_look (c : Int) : ∀ O, (lookN c (bvs O)).getD (.bool false) = .bool (decide (c ∈ O))
  | [] => rfl
  | d :: O => by
    have ih := bvs_look c O
    simp only [bvs, List.map_cons, lookN] at ih ⊢
    by_cases h : c = d
    · rw [if_pos h]; simp [h]
    · rw [if_neg h, ih]; simp [h]
theorem bvs_put (c : Int) : ∀ O, c ∉ O → putN c (.bool true) (bvs O) = bvs (O ++ [c])
  | [], _ => rfl
  | d :: O, h => by
    simp only [List.mem_cons, not_or] at h
    have ih := bvs_put c O h.2
    simp only [bvs, List.map_cons, putN, if_neg h.1, List.cons_append] at ih ⊢
    rw [ih]
theorem bvs_del (c : Int) : ∀ O, delN c (bvs O) = bvs (O.erase c)
  | [] => rfl
  | d :: O => by
    have ih := bvs_del c O
    simp only [bvs, List.map_cons, delN] at ih ⊢
    by_cases h : c = d
    · rw [if_pos h, h, List.erase_cons_head]
    · rw [if_neg h, List.erase_cons_tail (by simpa using Ne.symm h), List.map_cons, ih]
end Go.Proofs.YtpnoiagjgkajdaaGreatDoor
/- Slices of ints. -/
namespace Go.Proofs.YtpnoiagjgkajdaaGreatDoor
open Go.RowKit

/-- A slice value reads as ints. -/
def IntsAt (w : World) (v : Value) (l : List Int) : Prop :=
  ∃ A c, v = .slice A l.length c ∧ (l ≠ [] → ∃ g o, A = some ⟨g, o, none⟩ ∧ ∀ j (h : j < l.length), w.cell? ⟨g, o + j, none⟩ = some (.int .i64 l[j]))
theorem IntsAt.keep {w w' : World} {v : Value} {l : List Int} (h : IntsAt w v l) (hk : Keep [] w w') : IntsAt w' v l := by
  obtain ⟨A, c, rfl, h2⟩ := h
  refine ⟨A, c, rfl, fun hne => ?_⟩
  obtain ⟨g, o, rfl, hc⟩ := h2 hne
  refine ⟨g, o, rfl, fun j hj => ?_⟩
  have h0 := hc j hj
  exact (hk.cell (World.block_lt_of_cell? _ _ h0) (by simp)).trans h0

end Go.Proofs.YtpnoiagjgkajdaaGreatDoor
/- The walk of glacierlaw22.ServiceExpires. -/
set_option linter.unusedVariables false
namespace Go.Proofs.YtpnoiagjgkajdaaGreatDoor
open Go.RowKit
open Av (Same)
attribute [local go_sem] size_bs bs_append
/-- The service behind the law's own map. -/
theorem SvcAt.keepMap {w w' : World} {s b lm om n r lo : Nat} {L X : List (Int × Value)} {O : List (Int × Nat)} {ov : Value} {xs : List Value} {F : List Nat} (h : SvcAt w s b lm om L O n ov r xs F) (hl : MapN .i64 w lo X) (h1 : lo ≠ lm) (h2 : lo ≠ om) (hk : Keep [lo] w w') : SvcAt w' s b lm om L O n ov r xs F := by
  refine ⟨h.blk.keep hk (by simpa using Ne.symm (hl.ne_ h.blk)), h.last.keep hk (by simpa using Ne.symm h1), h.opn.keep hk (by simpa using Ne.symm h2), fun p hp => ?_, hk.owns h.over fun k hk' hm => ?_, h.ne, h.mem, h.memC, h.memO⟩
  · obtain ⟨cs, q1, q2⟩ := h.calls p hp
    exact ⟨cs, q1.keep hk (by simpa using Ne.symm (hl.ne_ q1)), q2⟩
  · simp only [List.mem_singleton] at hm
    subst hm
    obtain ⟨cs, hb⟩ := row_blk h.over hk'
    exact hl.ne_ hb rfl
/-- What the law knows: the service has come to M, its own map has OM. -/
structure LawI (l : List Int) (z : Int) (W : World) (s b lm om lo R x y g : Nat) (M : Mx) (OM : List Int) (n r : Nat) (wr : World) : Prop where
  ex : ∃ (O' : List (Int × Nat)) (ov : Value) (xs : List Value) (F : List Nat), keys O' = M.O ∧ Av.NowAt (comW l) z W F b (14 - M.acc.length) M.acc.length wr ∧ SvcAt wr s b lm om (ivs M.Ln) O' n ov r xs F ∧ (∀ y ∈ F, y < wr.heap.size ∧ W.heap.size ≤ y) ∧ lo ∈ F ∧ R ∈ F
  map : MapN .i64 wr lo (bvs OM)
  run : Blk wr R 31 #[.pointer (some ⟨s, 0, none⟩), .pointer (some ⟨b, 0, none⟩), .map (some x), .int .i64 0, .int .i64 0, .int .i64 0, .int .i64 0, .map (some y), .slice (some ⟨g, 0, none⟩) 5 5, .int .i64 0]
  ne : lo ≠ lm ∧ lo ≠ om
section
variable {l : List Int} {z xx : Int} {W wr w' : World} {s b lm om lo R x y g i n r : Nat} {M : Mx} {OM : List Int}
theorem LawI.grow (h : LawI l z W s b lm om lo R x y g M OM n r wr) (hk : Keep [] wr w') : LawI l z W s b lm om lo R x y g M OM n r w' := by
  obtain ⟨⟨O', ov, xs, F, h1, h2, h3, h4, h5, h6⟩, hm, hr, hn⟩ := h
  exact ⟨⟨O', ov, xs, F, h1, Av.Stage.grow h2 hk, h3.grow hk, fun y hy => ⟨Nat.lt_of_lt_of_le (h4 y hy).1 hk.size, (h4 y hy).2⟩, h5, h6⟩, hm.keep hk (by simp), hr.keep hk (by simp), hn⟩
theorem LawI.below (h : LawI l z W s b lm om lo R x y g M OM n r wr) : Below W.heap.size W wr := by
  obtain ⟨⟨O', ov, xs, F, h1, h2, h3, h4, h5, h6⟩, hm, hr, hn⟩ := h
  exact Av.Stage.below h2
/-- The law's own map is turned. -/
theorem LawI.setMap {O2 : List Int} (h : LawI l z W s b lm om lo R x y g M OM n r wr) (hk : Keep [lo] wr w') (hm' : MapN .i64 w' lo (bvs O2)) : LawI l z W s b lm om lo R x y g M O2 n r w' := by
  obtain ⟨⟨O', ov, xs, F, h1, h2, h3, h4, h5, h6⟩, hm, hr, hn⟩ := h
  exact ⟨⟨O', ov, xs, F, h1, Av.Stage.keep h2 hk (by simpa using h5) (fun y hy => (h4 y hy).2), h3.keepMap hm hn.1 hn.2 hk, fun y hy => ⟨Nat.lt_of_lt_of_le (h4 y hy).1 hk.size, (h4 y hy).2⟩, h5, h6⟩, hm', hr.keep hk (by simpa using Ne.symm (hm.ne_ hr)), hn⟩
theorem LawI.put (h : LawI l z W s b lm om lo R x y g M OM n r wr) {c : Int} (hc : c ∉ OM) : ∃ w', (Instr.mapUpdate 35 (.map (some lo)) (.int .i64 c) (.bool true)).run Tryz.prog wr = .ok () w' ∧ LawI l z W s b lm om lo R x y g M (OM ++ [c]) n r w' := by
  obtain ⟨w1, h1, h2, h3, -⟩ := h.map.put (P := Tryz.prog) (t := 35) (k := 3) (e := 4) Tryz.underlying35 Tryz.underlying3 c (.bool true)
  rw [bvs_put c OM hc] at h2
  exact ⟨w1, h1, h.setMap h3 h2⟩
theorem LawI.del (h : LawI l z W s b lm om lo R x y g M OM n r wr) (c : Int) : ∃ w', (∀ ty, (Builtin.delete_ #[35, 3] ty #[.map (some lo), .int .i64 c]).run Tryz.prog wr = .ok (.tuple #[]) w') ∧ LawI l z W s b lm om lo R x y g M (OM.erase c) n r w' := by
  obtain ⟨w1, h1, h2, h3, -⟩ := h.map.del (P := Tryz.prog) (t := 35) (k := 3) (e := 4) Tryz.underlying35 Tryz.underlying3 c
  rw [bvs_del c OM] at h2
  exact ⟨w1, h1, h.setMap h3 h2⟩
theorem LawI.look (h : LawI l z W s b lm om lo R x y g M OM n r wr) (c : Int) : (Instr.lookup 35 (.map (some lo)) (.int .i64 c) false).run Tryz.prog wr = .ok (.bool (decide (c ∈ OM))) wr := by
  have := h.map.look (P := Tryz.prog) (t := 35) (k := 3) (e := 4) Tryz.underlying35 Tryz.underlying3 (z := .bool false) (by go_simp) c
  rwa [bvs_look] at this
theorem LawI.len (h : LawI l z W s b lm om lo R x y g M OM n r wr) (ty : TypeId) : (Builtin.len_ #[35] ty #[.map (some lo)]).run Tryz.prog wr = .ok (.int .i64 (OM.length : Int)) wr := by
  have := h.map.len_ (P := Tryz.prog) (t := 35) Tryz.underlying35 ty
  rwa [bvs_len] at this
theorem keys_len {O' : List (Int × Nat)} (h : keys O' = M.O) : O'.length = M.O.length := by rw [← h]; simp [keys]
theorem law_waits (h : LawI l z W s b lm om lo R x y g M OM n r wr) : Calls Tryz.prog 9 #[.pointer (some ⟨s, 0, none⟩)] wr fun e w' => e = .returned (.int .i64 0) ∧ wr = w' := by
  obtain ⟨⟨O', ov, xs, F, h1, h2, h3, h4, h5, h6⟩, hm, hr, hn⟩ := h
  exact waits_calls h3
theorem law_open (h : LawI l z W s b lm om lo R x y g M OM n r wr) : Calls Tryz.prog 12 #[.pointer (some ⟨s, 0, none⟩)] wr fun e w' => e = .returned (.int .i64 (M.O.length : Int)) ∧ wr = w' := by
  obtain ⟨⟨O', ov, xs, F, h1, h2, h3, h4, h5, h6⟩, hm, hr, hn⟩ := h
  rw [← keys_len h1]
  exact open_calls h3
theorem law_isOpen (h : LawI l z W s b lm om lo R x y g M OM n r wr) (c : Int) : Calls Tryz.prog 11 #[.pointer (some ⟨s, 0, none⟩), .int .i64 c] wr fun e w' => e = .returned (.bool (decide (c ∈ M.O))) ∧ wr = w' := by
  obtain ⟨⟨O', ov, xs, F, h1, h2, h3, h4, h5, h6⟩, hm, hr, hn⟩ := h
  rw [← h1]
  exact isOpen_calls h3 c
/-- Behind a call that leaves all but the service's blocks. -/
theorem off_map {ov : Value} {F : List Nat} {Ln : List (Int × Value)} {O' : List (Int × Nat)} {xs : List Value} (h3 : SvcAt wr s b lm om Ln O' n ov r xs F) (hm : MapN .i64 wr lo (bvs OM)) (hn : lo ≠ lm ∧ lo ≠ om) : lo ∉ s :: lm :: om :: ov.ownBlock.toList := by
  simp only [List.mem_cons, not_or]
  refine ⟨hm.ne_ h3.blk, hn.1, hn.2, fun hx => ?_⟩
  obtain ⟨cs, hb⟩ := row_blk h3.over (k := lo) (by simpa using hx)
  exact hm.ne_ hb rfl
theorem off_run {ov : Value} {F : List Nat} {Ln : List (Int × Value)} {O' : List (Int × Nat)} {xs : List Value} {cs : Array Value} (h3 : SvcAt wr s b lm om Ln O' n ov r xs F) (hr : Blk wr R 31 cs) : R ∉ s :: lm :: om :: ov.ownBlock.toList := by
  simp only [List.mem_cons, not_or]
  refine ⟨hr.ne_ h3.blk (by decide), Ne.symm (h3.last.ne_ hr), Ne.symm (h3.opn.ne_ hr), fun hx => ?_⟩
  exact own_blk_ne h3.over hr (by decide) (by simpa using hx)
theorem map_of_heap {q : IntKind} {m : Nat} {L : List (Int × Value)} {a c : World} (h : MapN q a m L) (hh : c.heap[m]? = a.heap[m]?) : MapN q c m L := by
  obtain ⟨es, ck, h1, h2⟩ := h
  exact ⟨es, ck, hh.trans h1, h2⟩
theorem law_begin (h : LawI l z W s b lm om lo R x y g M OM n r wr) (hi : i < 20) (hx : l[i]? = some xx) (hM : M = runM l i) (hn : n ≤ 60) :
    Calls Tryz.prog 8 #[.pointer (some ⟨s, 0, none⟩), .int .i64 (cN xx : Int), .int .i64 4, .string (bs []), .string (bs [])] wr fun e w' => e = .returned (.int .i64 (if M.busy (cN xx) then 10 else 0)) ∧ LawI l z W s b lm om lo R x y g (M.beg (cN xx)) OM (n + 1) r w' := by
  obtain ⟨⟨O', ov, xs, F, h1, h2, h3, h4, h5, h6⟩, hm, hr, hne⟩ := h
  have hc := cN_in xx
  by_cases hb : M.busy (cN xx)
  · have hb' : (cN xx : Int) ∈ keys O' ∨ 8 ≤ O'.length := by rw [h1, keys_len h1]; exact hb
    refine (begin_busy h3 (c := (cN xx : Int)) (by omega) hb' (by omega)).mono fun e w' ⟨he, hv, hk⟩ => ⟨by rw [if_pos hb]; exact he, ?_⟩
    unfold Mx.beg
    rw [if_pos hb]
    have hq1 := off_map h3 hm hne
    have hq2 := off_run h3 hr
    exact ⟨⟨O', ov, xs, F, h1, Av.Stage.keep h2 hk (by simpa using h3.mem.1) (fun y hy => (h4 y hy).2), hv, fun y hy => ⟨Nat.lt_of_lt_of_le (h4 y hy).1 hk.size, (h4 y hy).2⟩, h5, h6⟩, hm.keep hk (by simp only [List.mem_singleton]; exact fun hx => hq1 (by simp [hx])), hr.keep hk (by simp only [List.mem_singleton]; exact fun hx => hq2 (by simp [hx])), hne⟩
  · have hlt := acc_lt (l := l) hi hx (by rw [← hM]; exact hb)
    have hcm := comW_at (l := l) hi hx (by rw [← hM]; exact hb)
    rw [← hM] at hlt hcm
    have hsq : seqI (cN xx : Int) M.Ln ≤ i := by rw [hM]; exact (runM_ok l i).seq _
    have hnb : ¬ ((cN xx : Int) ∈ M.O ∨ 8 ≤ M.O.length) := hb
    rw [not_or] at hnb
    have h2' : Av.NowAt (comW l) z W F b (13 - M.acc.length + 1) M.acc.length wr := by rw [show 13 - M.acc.length + 1 = 14 - M.acc.length by omega]; exact h2
    refine (begin_ok (comW_ok l) h4 h2' h3 (cn := cN xx) hc rfl (by omega) hcm (by rw [h1]; exact hnb.1) (by rw [keys_len h1]; omega) (by omega)).mono fun e w' ⟨he, K, F', q1, q2, q3, q4, q5⟩ => ⟨by rw [if_neg hb]; exact he, ?_⟩
    have hq1 := off_map h3 hm hne
    have hq2 := off_run h3 hr
    have hs1 : lo ∉ [s, lm, om] := fun hx => hq1 (by simp only [List.mem_cons, List.not_mem_nil, or_false] at hx ⊢; rcases hx with hx | hx | hx <;> simp [hx])
    have hs2 : R ∉ [s, lm, om] := fun hx => hq2 (by simp only [List.mem_cons, List.not_mem_nil, or_false] at hx ⊢; rcases hx with hx | hx | hx <;> simp [hx])
    unfold Mx.beg
    rw [if_neg hb]
    refine ⟨⟨putO (cN xx : Int) K O', ov, xs, F', ?_, ?_, q2, q4, q3 _ h5, q3 _ h6⟩, map_of_heap hm (q5 lo h5 hs1), (q5 R h6 hs2).trans hr, hne⟩
    · rw [putO_keys (by rw [h1]; exact hnb.1), h1]
    · simp only [List.length_append, List.length_singleton]
      rw [show 14 - (M.acc.length + 1) = 13 - M.acc.length by omega]
      exact q1
theorem law_expire (h : LawI l z W s b lm om lo R x y g M OM n r wr) {c : Int} (hc : c ∈ M.O) (hn : n ≤ 60) (hrr : r ≤ 60) :
    Calls Tryz.prog 10 #[.pointer (some ⟨s, 0, none⟩), .int .i64 c] wr fun e w' => e = .returned (.tuple #[.agg #[.int .i64 17, .int .u64 0, .string ⟨#[]⟩, .int .i64 0, .slice none 0 0], .int .i64 0]) ∧ LawI l z W s b lm om lo R x y g ⟨M.O.erase c, M.Ln, M.acc⟩ OM (n + 1) (r + 1) w' := by
  obtain ⟨⟨O', ov, xs, F, h1, h2, h3, h4, h5, h6⟩, hm, hr, hne⟩ := h
  refine (expire_calls h4 h2 h3 c (by rw [h1]; exact hc) (by omega) (by omega)).mono fun e w' ⟨he, ov', xs', F', q1, q2, q3, q4, q5⟩ => ⟨he, ?_⟩
  exact ⟨⟨delO c O', ov', xs', F', by rw [delO_keys, h1], q1, q2, q4, q3 _ h5, q3 _ h6⟩, map_of_heap hm (q5 lo h5 (off_map h3 hm hne)), (q5 R h6 (off_run h3 hr)).trans hr, hne⟩
end
end Go.Proofs.YtpnoiagjgkajdaaGreatDoor
