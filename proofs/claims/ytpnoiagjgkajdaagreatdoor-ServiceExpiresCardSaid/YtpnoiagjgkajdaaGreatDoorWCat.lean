/- catalog.Apply at a List of a catalog that has no names: a run of the evaluator. -/
import Derived.Test.YtpnoiagjgkajdaaGreatDoorWTold0
import Derived.Test.YtpnoiagjgkajdaaGreatDoorGCmd1
import Derived.KernelRfl
set_option linter.unusedVariables false
noncomputable section
namespace Go.Proofs.YtpnoiagjgkajdaaGreatDoor.Av
open Go Go.RowKit
/-- A number as the length of an unknown string. -/
def repA (c s : Nat) (n : Nat) : List Nat := if n = 0 then List.replicate c 0 else if n = 1 then List.replicate s 0 else []
def aL0 : AV := .sp (.i 0 [1])
def aL1 : AV := .sp (.i 0 [0, 1])
def cmdA : AV := .agg [.int .i64 4, aL0, aL1, .str [], .int .u64 0, .int .i64 0, .int .u32 0, .sl none 0 (.k 0), .int .i64 0, .int .i64 0, .int .i64 0]
def bdL : Bds := [(0, 1000), (0, 1000)]
noncomputable def ttL : TT := ⟨tT, some (spH tT bdL)⟩
def catH (tc ck : Nat) : Tr AO := Tr.put (Tr.put .nil 5 (some (.cells [.map (some 6), .map (some 7)] tc true none))) 7 (some (.map [] ck))
def catS (tc ck : Nat) : AH := .mk (catH tc ck) 16 1 .nil
def lstA : AV := .agg [.int .i64 (.ofNat 0), .int .u64 (.ofNat 0), .int .i64 (.ofNat 0), .int .u32 (.ofNat 0), .sl none 0 (.k 0)]
def okB (r : RV) (k : AV → Bool) : Bool := RV.rec (motive := fun _ => Bool) (fun v _ => k v) (fun _ _ _ => false) r
theorem okB_eq {r : RV} {k : AV → Bool} (h : okB r k = true) : ∃ v σ, r = .ok v σ ∧ k v = true := by
  cases r with
  | ok v σ => exact ⟨v, σ, rfl, h⟩
  | bad => cases h
theorem cat_run (tc ck : Nat) : okB (evF told0 ttL ft 3000 126 [.ptr (some (5, 0)), cmdA] (catS tc ck)) (fun v => v.eqb lstA) = true := by kernel_rfl
/-- What is said of a List: nothing, and no error. -/
def okV0 : Value := .agg #[.int .i64 0, .int .u64 0, .int .i64 0, .int .u32 0, .slice none 0 0]
def cmdV (c s : Nat) : Value := .agg #[.int .i64 4, .int .i64 (c : Int), .int .i64 (s : Int), .string (bs []), .int .u64 0, .int .i64 0, .int .u32 0, .slice none 0 0, .int .i64 0, .int .i64 0, .int .i64 0]
theorem val_L {e : Env} {c s : Nat} (hI : e.I = spI (repA c s) fun _ _ => False) : VR e aL0 (.int .i64 (c : Int)) ∧ VR e aL1 (.int .i64 (s : Int)) := by
  constructor
  · refine .spi _ _ _ ?_
    rw [hI]
    show Value.int .i64 (c : Int) = .int .i64 (0 + 1 * ((List.replicate c 0).length : Int))
    simp
  · refine .spi _ _ _ ?_
    rw [hI]
    show Value.int .i64 (s : Int) = .int .i64 (0 + 0 * ((List.replicate c 0).length : Int) + 1 * ((List.replicate s 0).length : Int))
    simp
theorem wcat_calls {w : World} {c mb mn ck t : Nat} {rest : List Value} {fr : Nat × Nat} (h0 : w.heap[c]? = some (.cells (.map (some mb) :: .map (some mn) :: rest).toArray t fr)) (hm : w.heap[mn]? = some (.map #[] ck)) (hb : mb < w.heap.size) (h4 : 4 ≤ w.heap.size) (cl sq : Nat) (h1 : cl ≤ 1000) (h2 : sq ≤ 1000) :
    Calls P 126 #[.pointer (some ⟨c, 0, none⟩), cmdV cl sq] w fun x w' => x = .returned okV0 ∧ Below w.heap.size w w' := by
  have hcl : c < w.heap.size := by
    rcases Nat.lt_or_ge c w.heap.size with h | h
    · exact h
    · rw [Array.getElem?_eq_none h] at h0; cases h0
  have hml : mn < w.heap.size := by
    rcases Nat.lt_or_ge mn w.heap.size with h | h
    · exact h
    · rw [Array.getElem?_eq_none h] at hm; cases hm
  have hne : c ≠ mn := fun h => by subst h; rw [h0] at hm; cases hm
  obtain ⟨e, he⟩ : ∃ e : Env, e = ⟨fun l => if l < 4 then some l else if l = 5 then some c else if l = 6 then some mb else if l = 7 then some mn else none, fun _ => none, spI (repA cl sq) fun _ _ => False⟩ := ⟨_, rfl⟩
  have hr : ∀ l, e.ρ l = if l < 4 then some l else if l = 5 then some c else if l = 6 then some mb else if l = 7 then some mn else none := fun l => by rw [he]
  have hI : e.I = spI (repA cl sq) fun _ _ => False := by rw [he]
  have hg : ∀ l, (catS t ck).hp.get l = if l = 7 then some (.map [] ck) else if l = 5 then some (.cells [.map (some 6), .map (some 7)] t true none) else none := fun l => by
    show (catH t ck).get l = _
    unfold catH
    rw [Tr.get_put, Tr.get_put]
    rfl
  have hr5 : e.ρ 5 = some c := by rw [hr]; rfl
  have hr6 : e.ρ 6 = some mb := by rw [hr]; rfl
  have hr7 : e.ρ 7 = some mn := by rw [hr]; rfl
  have hrel : Rel e (catS t ck) w := by
    refine ⟨fun l o ho => ?_, fun l l' b hl1 hl2 hb1 hb2 => ?_, fun l hn => ?_, fun q _ => by rw [he], fun q x hx => (by cases hx), fun l b hb' => ?_, Nat.le_refl 16⟩
    · rw [hg] at ho
      split at ho
      · rename_i h
        subst h
        injection ho with ho
        subst ho
        exact ⟨mn, hr7, [], by simpa using hm, .nil⟩
      · split at ho
        · rename_i h
          subst h
          injection ho with ho
          subst ho
          refine ⟨c, hr5, [.map (some mb), .map (some mn)], rest, fr, h0, .cons _ _ _ _ (.map _ _ hr6) (.cons _ _ _ _ (.map _ _ hr7) .nil), by simp [AV.one], fun h => (by cases h), fun _ _ h => by cases h⟩
        · cases ho
    · rw [hg] at hl1 hl2
      have k1 : l = 7 ∨ l = 5 := by
        split at hl1
        · exact .inl (by assumption)
        · split at hl1
          · exact .inr (by assumption)
          · cases hl1
      have k2 : l' = 7 ∨ l' = 5 := by
        split at hl2
        · exact .inl (by assumption)
        · split at hl2
          · exact .inr (by assumption)
          · cases hl2
      rcases k1 with rfl | rfl <;> rcases k2 with rfl | rfl
      · rfl
      · rw [hr7] at hb1; rw [hr5] at hb2; injection hb1 with hb1; injection hb2 with hb2; omega
      · rw [hr5] at hb1; rw [hr7] at hb2; injection hb1 with hb1; injection hb2 with hb2; omega
      · rfl
    · have hn : 16 ≤ l := hn
      rw [hr, if_neg (by omega), if_neg (by omega), if_neg (by omega), if_neg (by omega)]
    · rw [hr] at hb'
      repeat (split at hb'; (· injection hb' with hb'; omega))
      cases hb'
  have hgl : Glob 4 (spI (repA cl sq) fun _ _ => False) e := ⟨fun n hn => by rw [hr, if_pos hn], hI⟩
  obtain ⟨v1, v2⟩ := val_L hI
  have hv : VRs e [.ptr (some (5, 0)), cmdA] [.pointer (some ⟨c, 0, none⟩), cmdV cl sq] := by
    refine .cons _ _ _ _ (.ptr _ _ _ hr5) (.cons _ _ _ _ ?_ .nil)
    have hs : VR e (.str []) (.string (bs [])) := .str [] (by simp)
    exact .agg _ [_, _, _, _, _, _, _, _, _, _, _] (fun x hx => by
      simp only [List.mem_cons, List.not_mem_nil, or_false] at hx
      rcases hx with rfl | rfl | rfl | rfl | rfl | rfl | rfl | rfl | rfl | rfl | rfl <;> rfl) (.cons _ _ _ _ (.int _ _) (.cons _ _ _ _ v1 (.cons _ _ _ _ v2 (.cons _ _ _ _ hs (.cons _ _ _ _ (.int _ _) (.cons _ _ _ _ (.int _ _) (.cons _ _ _ _ (.int _ _) (.cons _ _ _ _ .nilsl (.cons _ _ _ _ (.int _ _) (.cons _ _ _ _ (.int _ _) (.cons _ _ _ _ (.int _ _) .nil)))))))))))
  have hbd : BdOk (fun n => (repA cl sq n).length) bdL := fun i b hb => by
    have hi : i = 0 ∨ i = 1 := by
      rcases Nat.lt_or_ge i 2 with h | h
      · omega
      · rw [List.getElem?_eq_none (by simpa [bdL] using h)] at hb; cases hb
    rcases hi with rfl | rfl
    · injection hb with hb; subst hb; show 0 ≤ (List.replicate cl 0).length ∧ (List.replicate cl 0).length ≤ 1000; rw [List.length_replicate]; omega
    · injection hb with hb; subst hb; show 0 ≤ (List.replicate sq 0).length ∧ (List.replicate sq 0).length ≤ 1000; rw [List.length_replicate]; omega
  have hts : TSok P (spI (repA cl sq) fun _ _ => False) ttL := ⟨fun t i h => tt_ok t i h, spH_ok (t := tT) (bd := bdL) (fun t i h => tt_ok t i h) hbd⟩
  obtain ⟨v, σ, h3, h5⟩ := okB_eq (cat_run t ck)
  obtain rfl := AV.eqb_eq h5
  refine (evF_ok hts ft_ok (told0_ok _) mixed_ok h3 hrel hgl hv).mono fun x w' hx => ?_
  cases x with
  | returned v' =>
    obtain ⟨e', q1, q2⟩ := hx
    refine ⟨?_, q2.os, q2.tape, q2.output, q2.size, fun b hb => q2.frame b hb fun l hl hs _ => ?_⟩
    · cases q1 with
      | agg _ l _ hl =>
      cases hl with
      | cons _ x0 _ l0 g0 hl =>
      cases hl with
      | cons _ x1 _ l1 g1 hl =>
      cases hl with
      | cons _ x2 _ l2 g2 hl =>
      cases hl with
      | cons _ x3 _ l3 g3 hl =>
      cases hl with
      | cons _ x4 _ l4 g4 hl =>
      cases hl
      cases g0
      cases g1
      cases g2
      cases g3
      cases g4
      rfl
    · rw [hg] at hs
      rw [if_neg (by omega), if_neg (by omega)] at hs
      cases hs
  | panicked => exact hx.elim
  | outgrown => exact hx.elim
end Go.Proofs.YtpnoiagjgkajdaaGreatDoor.Av
end
