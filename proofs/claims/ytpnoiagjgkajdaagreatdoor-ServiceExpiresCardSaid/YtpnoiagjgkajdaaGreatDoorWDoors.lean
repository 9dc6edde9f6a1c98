/- From the row's condition to the walk: the four tables; the row's last step where only the old blocks are known. -/
import Derived.Test.YtpnoiagjgkajdaaGreatDoorRows
import Derived.Test.YtpnoiagjgkajdaaGreatDoorWAwk
import Derived.ProofKit
import Derived.LaidMore
import Derived.OpenShut
import Derived.Below
import Derived.ChangeSame
import Derived.SliceStrings
import Derived.Stop.Joined
import Derived.Test.YtpnoiagjgkajdaaGreatDoorWLaws
import Derived.Test.YtpnoiagjgkajdaaGreatDoorCards
import Derived.SevenTiedAt
import Derived.KernelRfl
namespace Go.Proofs.YtpnoiagjgkajdaaGreatDoor
open Go.ChangeShapes Go.WideShapes Go.ChangeAt Go.WideMaps Go.WideElems Go.RowKit

theorem doorOwn : ownKnob Tryz.prog.godebug = none := by kernel_rfl
/-- The door's own heap meets the condition. -/
theorem door_met (os : Os) (args : Array Value) : laidMetH Tryz.prog [("math/bits.deBruijn32tab", Rows.laid_math_bits_deBruijn32tab), ("math/bits.deBruijn64tab", Rows.laid_math_bits_deBruijn64tab), ("internal/strconv.uint64pow10", Rows.laid_internal_strconv_uint64pow10), ("glacier/seal.steps", Rows.laid_glacier_seal_steps)] ((World.doorLaid Tryz.prog 400 os).forCall (fun _ _ => 0) ⟨#[], args, []⟩).memory :=
  laidMetH_of_parts3 (fuel := 8) (laidMet_of_run' 8 (by kernel_rfl) (by kernel_rfl)) (by kernel_rfl) (by kernel_rfl)
/-- A variable that reads as a list of numbers. -/
theorem tab_of {H : Type} {enc : TypeId × Value → H} {P : Program} {W : World} {name : String} {g T E fuel base : Nat} {spare : Nat → Bool} {held : Bool} {q : IntKind} {L : List Nat} {cs : Array Value} {ps : List MemPlace} (hg : P.globalNamed name = some g) (hv : W.var? P name = some cs)
    (hT : P.underlying T = some (.array L.length E)) (hE : P.underlying E = some (.int q)) (h1 : P.cellsOf E = 1) (h2 : P.cellsOf T = L.length)
    (hd : DataW.trod enc P W base spare held fuel T cs.toList = some (.agg (L.map fun (n : Nat) => .lit (.int q (n : Int))), ps)) :
    ∃ t fr, W.heap[g]? = some (.cells (L.map fun (n : Nat) => Value.int q (n : Int)).toArray t fr) := by
  obtain ⟨xs, m1, rfl, hx1, hlen, hn, hel⟩ := DataW.trod_array hT hd
  simp only [Prod.mk.injEq, DataW.agg.injEq] at hx1
  have hcs : cs.toList = L.map fun (n : Nat) => Value.int q (n : Int) := by
    apply List.ext_getElem?
    intro i
    rcases Nat.lt_or_ge i L.length with hi | hi
    · have h0 := hel i hi
      rw [h1, List.getElem?_eq_getElem (by omega)] at h0
      obtain ⟨k, e1, e2, _⟩ := DataW.trod_int hE h0
      have hk : some (DataW.lit (.int q k)) = (L.map fun (n : Nat) => (DataW.lit (.int q (n : Int)) : DataW H))[i]? := by
        rw [hx1.1, List.getElem?_map, List.getElem?_eq_getElem (by omega), e2]
        rfl
      rw [List.getElem?_map, List.getElem?_eq_getElem hi] at hk
      simp only [Option.map_some, Option.some.injEq, DataW.lit.injEq, Lit.int.injEq, true_and] at hk
      subst hk
      have h3 : (cs.toList.drop (i * 1)).take 1 = [.int q (L[i] : Int)] := e1
      rw [Nat.mul_one] at h3
      have h4 : cs.toList[i]? = some (.int q (L[i] : Int)) := by
        have := congrArg (fun l => l[0]?) h3
        simpa using this
      rw [h4, List.getElem?_map, List.getElem?_eq_getElem hi]
      rfl
    · rw [List.getElem?_eq_none (by rw [hlen, h2]; exact hi), List.getElem?_eq_none (by simpa using hi)]
  unfold World.var? at hv
  rw [hg, Option.bind_some] at hv
  split at hv
  · rename_i cs' t fr hh
    injection hv with hv
    subst hv
    exact ⟨t, fr, by rw [hh, ← hcs]⟩
  · cases hv
theorem gn0 : Tryz.prog.globalNamed "glacier/seal.steps" = some 0 := by kernel_rfl
theorem gn1 : Tryz.prog.globalNamed "internal/strconv.uint64pow10" = some 1 := by kernel_rfl
theorem gn3 : Tryz.prog.globalNamed "math/bits.deBruijn32tab" = some 3 := by kernel_rfl
theorem gt0 : (Tryz.prog.globals[0]?).map (·.type) = some 170 := by kernel_rfl
theorem gt1 : (Tryz.prog.globals[1]?).map (·.type) = some 436 := by kernel_rfl
theorem tabs_of_laid {W : World} (h : laidMetH Tryz.prog [("math/bits.deBruijn32tab", Rows.laid_math_bits_deBruijn32tab), ("math/bits.deBruijn64tab", Rows.laid_math_bits_deBruijn64tab), ("internal/strconv.uint64pow10", Rows.laid_internal_strconv_uint64pow10), ("glacier/seal.steps", Rows.laid_glacier_seal_steps)] W) : ∃ ty, Av.Tabs W ty := by
  rw [MakeChecks.laidMetH_plain _ _ _ (by kernel_rfl)] at h
  obtain ⟨ps, ⟨g2, t2, cs2, f2, p2, q2, hg2, ht2, hv2, hd2, ⟨g3, t3, cs3, f3, p3, q3, hg3, ht3, hv3, hd3, ⟨g1, t1, cs1, f1, p1, q1, hg1, ht1, hv1, hd1, ⟨g0, t0, cs0, f0, p0, q0, hg0, ht0, hv0, hd0, _, _⟩, -⟩, -⟩, -⟩, _, _⟩ := h
  obtain rfl := Option.some.inj (gn0.symm.trans hg0)
  obtain rfl := Option.some.inj (gn1.symm.trans hg1)
  obtain rfl := Option.some.inj (gn3.symm.trans hg2)
  obtain rfl := Option.some.inj (gt0.symm.trans ht0)
  obtain rfl := Option.some.inj (gt1.symm.trans ht1)
  obtain ⟨a0, b0, k0⟩ := tab_of (L := Av.tab0) (q := .u32) gn0 hv0 Tryz.underlying170 Tryz.underlying79 (by kernel_rfl) (by kernel_rfl) hd0
  obtain ⟨a1, b1, k1⟩ := tab_of (L := Av.tab1) (q := .u64) gn1 hv1 Tryz.underlying436 Tryz.underlying39 (by kernel_rfl) (by kernel_rfl) hd1
  have hz : 4 ≤ W.heap.size := by
    unfold World.var? at hv2
    rw [gn3, Option.bind_some] at hv2
    rcases Nat.lt_or_ge 3 W.heap.size with h | h
    · omega
    · rw [Array.getElem?_eq_none h] at hv2
      cases hv2
  exact ⟨fun | 0 => a0 | _ => a1, ⟨[], b0, by rw [List.append_nil]; exact k0⟩, ⟨[], b1, by rw [List.append_nil]; exact k1⟩, hz⟩
section
variable {H : Type} {enc : TypeId × Value → H} {P : Program}
theorem post_of_keep {f : Func} {s : ChangeSpec} {apart fresh handsOn again : Bool} {W W' : World} {args : Array Value} {v : Value} {ds gs : List (DataW H)} {before pa pv : List MemPlace}
    (hW : DataW.Whole enc P f.params.toList s.vars apart W args.toList ds gs before)
    (hres : ∀ (b : Nat) (sp : Nat → Bool) (hd : Bool), DataW.TrodAll enc P W' b sp hd f.resultTypes.toList (v.resultList f.resultTypes.size) (s.fn H (ds ++ gs)).results [])
    (hargs : ∀ sp : Nat → Bool, (∀ p ∈ before, sp p.block = true) → DataW.TrodAll enc P W' 0 sp true f.params.toList args.toList (s.fn H (ds ++ gs)).args pa)
    (hvars : ∀ sp : Nat → Bool, (∀ p ∈ before, sp p.block = true) → DataW.TrodVars enc P W' sp s.vars (s.fn H (ds ++ gs)).vars pv)
    (hps : before = pa ++ pv) (hb : Below W.heap.size W W')
    (hok : ∀ (j : Nat) (t : TypeId) (r : Value), f.resultTypes[j]? = some t → (v.resultList f.resultTypes.size)[j]? = some r → Value.okWide P W' .any 0 t r) :
    s.post enc P f apart fresh handsOn again W args v W' := by
  have hlt : ∀ p ∈ before, p.block < W.heap.size := fun p hp => hW.lt p hp
  have hold : ∀ p ∈ before, (fun b => decide (b < W.heap.size)) p.block = true := fun p hp => by simpa using hlt p hp
  refine ⟨ds, gs, before, [], pa, pv, hW, hres _ _ _, hargs _ hold, hvars _ hold, World.keptBut_mono (fun p hp => ⟨hp, ?_⟩) (hb.frame (· ∈ before)), fun _ => ?_⟩
  · rw [hps, List.mem_append] at hp
    exact Or.inr hp
  · obtain ⟨_, _, _, _, _, hz, hn⟩ := hW
    refine ⟨hok, _, _, ([] ++ pa) ++ pv, ⟨[] ++ pa, pv, trodAll_append (hargs _ (fun _ _ => rfl)) (hres _ _ _), hvars _ (fun _ _ => rfl), rfl, ?_, ?_⟩, ?_⟩
    · intro b off hp
      have hin : MemPlace.cell b off ∈ before := by rw [hps]; simpa using hp
      rw [hb.frozen (hlt _ hin)]
      exact hz b off hin
    · intro ha
      have := hn ha
      rw [hps] at this
      simpa using this
    · intro p hp _
      rw [hps]
      simpa using hp

theorem trodAll_stays (hl : laidOutB P = true) {W W' : World} {sp : Nat → Bool} (hb : Below W.heap.size W W') : ∀ {ts : List TypeId} {vs : List Value} {ds : List (DataW H)} {ps : List MemPlace}, (ts.all fun t => P.readableRec t && decide (t < P.types.size)) = true →
    DataW.TrodAll enc P W 0 (fun _ => true) true ts vs ds ps → (∀ x ∈ ps, x.block < W.heap.size) → (∀ x ∈ ps, sp x.block = true) → DataW.TrodAll enc P W' 0 sp true ts vs ds ps
  | [], [], [], _, _, h, _, _ => h
  | [], [], _ :: _, _, _, h, _, _ => h.elim
  | [], _ :: _, _, _, _, h, _, _ => h.elim
  | _ :: _, [], _, _, _, h, _, _ => h.elim
  | _ :: _, _ :: _, [], _, _, h, _, _ => h.elim
  | t :: ts, v :: vs, d :: ds, ps, hr, ⟨p, q, h1, h2, e⟩, hlt, hs => by
    simp only [List.all_cons, Bool.and_eq_true, decide_eq_true_eq] at hr
    subst e
    exact ⟨p, q, WideElems.Trod_stays hl hr.1.1 hr.1.2 h1 (fun x hx => hb.same (hlt x (List.mem_append_left _ hx))) (fun x hx => hs x (List.mem_append_left _ hx)),
      trodAll_stays hl hb hr.2 h2 (fun x hx => hlt x (List.mem_append_right _ hx)) (fun x hx => hs x (List.mem_append_right _ hx)), rfl⟩

/-- A law's last step: it answered true, and left every old block alone. -/
theorem law_post {f : Func} {s : ChangeSpec} {apart fresh handsOn again : Bool} {W W' : World} {args : Array Value} {ds : List (DataW H)} {before : List MemPlace} {tb : TypeId} (hl : laidOutB P = true) (htb : P.underlying tb = some .bool) (hf : f.resultTypes = #[tb])
    (hp : (f.params.toList.all fun t => P.readableRec t && decide (t < P.types.size)) = true) (hv : s.vars = [])
    (hW : DataW.Whole enc P f.params.toList s.vars apart W args.toList ds [] before)
    (hfn : s.fn H (ds ++ []) = { results := [.lit (.bool true)], args := ds }) (hb : Below W.heap.size W W') : s.post enc P f apart fresh handsOn again W args (.bool true) W' := by
  have hW' := hW
  obtain ⟨p, q, hA, hV, rfl, hfz, hnd⟩ := hW
  have hq : q = [] := by
    rw [hv] at hV
    exact (trodVars_none hV).2
  subst hq
  refine post_of_keep (pa := p) (pv := []) hW' (fun _ _ _ => ?_) (fun sp hsp => ?_) (fun _ _ => ?_) rfl hb (ok_one hf rfl (okWide_bool_mk htb _))
  · rw [hfn, hf]
    exact trodAll_mk1 (shut_bool htb true)
  · rw [hfn]
    exact trodAll_stays hl hb hp hA (fun x hx => hW'.lt x (List.mem_append_left _ hx)) (fun x hx => hsp x (List.mem_append_left _ hx))
  · rw [hfn, hv]
    rfl
end
theorem doorLaidOut : laidOutB Tryz.prog = true := by kernel_rfl

end Go.Proofs.YtpnoiagjgkajdaaGreatDoor
/- A slice of ints that came in, as the walks want it. -/
namespace Go.Proofs.YtpnoiagjgkajdaaGreatDoor
open Go.ChangeShapes Go.WideShapes Go.ChangeAt Go.RowKit
set_option maxRecDepth 100000

theorem ints_at_ {H : Type} {enc : TypeId × Value → H} {W : World} {v : Value} {d : DataW H} {p : List MemPlace} {base : Nat} (hv : Value.okWide Tryz.prog W .any base 22 v)
    (h : DataW.Trod enc Tryz.prog W 0 (fun _ => true) true 22 v d p) : ∃ l : List Int, IntsAt W v l ∧ ∀ x ∈ l, -9223372036854775808 ≤ x ∧ x ≤ 9223372036854775807 := by
  obtain ⟨a0, len, cap, rfl⟩ := okWide_slice Tryz.underlying22 hv
  obtain ⟨fuel, hf⟩ := h
  have c1 : Tryz.prog.cellsOf 3 = 1 := by kernel_rfl
  rcases open_ints Tryz.underlying22 Tryz.underlying3 c1 hf with ⟨hcs, hx⟩ | ⟨a, len', cap', ss, hcs, _, hl, hm, hz, hx, hcell, hws⟩
  · simp [Value.cells] at hcs
    obtain ⟨rfl, rfl, rfl⟩ := hcs
    exact ⟨[], ⟨none, 0, rfl, fun h => absurd rfl h⟩, by simp⟩
  · simp [Value.cells] at hcs
    obtain ⟨rfl, rfl, rfl⟩ := hcs
    simp only [if_true] at hz
    have hlen : (ss.take len).length = len := by rw [List.length_take]; omega
    refine ⟨ss.take len, ⟨some a, cap, by rw [hlen], fun hne => ?_⟩, fun x hx => bounds_i64 (hws x (List.mem_of_mem_take hx))⟩
    have hpos : 0 < len := by rw [← hlen]; exact List.length_pos_iff.2 hne
    obtain ⟨b, off, spot⟩ := a
    have hspot : spot = none := by simpa [Addr.add] using World.cell?_spot (hcell 0 (by omega))
    subst hspot
    refine ⟨b, off, rfl, fun j hj => ?_⟩
    rw [hlen] at hj
    have h1 := hcell j (by omega)
    rw [Go.WideShapes.add_plain] at h1
    rw [h1]
    simp [List.getD, show j < ss.length by omega]

end Go.Proofs.YtpnoiagjgkajdaaGreatDoor
/- The card's closed facts on the program, each by itself. -/
namespace Go.Proofs.YtpnoiagjgkajdaaGreatDoor
open Go
theorem fLo : false = Tryz.prog.looks [] := by kernel_rfl
theorem fGo : false = Rows.serviceExpiresRow.goesBy Tryz.prog := by kernel_rfl
end Go.Proofs.YtpnoiagjgkajdaaGreatDoor
