/- The evaluator's tables of this program: types, functions. -/
import Derived.Test.YtpnoiagjgkajdaaGreatDoorGEvSd
import Derived.Test.YtpnoiagjgkajdaaGreatDoorProg
import Derived.KernelRfl
set_option linter.unusedVariables false
noncomputable section
namespace Go.Proofs.YtpnoiagjgkajdaaGreatDoor.Av
open Go
noncomputable def Tr.ofO {α : Type} : Nat → List (Option α) → Tr α
  | 0, _ => .nil
  | _ + 1, [] => .nil
  | f + 1, x :: l => .node (Tr.ofO f (odds l)) x (Tr.ofO f (odds l.tail))
theorem Tr.get_ofO {α : Type} : ∀ (f : Nat) (l : List (Option α)), l.length < 2 ^ f → ∀ n, (Tr.ofO f l).get n = l[n]?.join
  | 0, l, h, n => by
    have : l = [] := List.length_eq_zero_iff.1 (by simpa using h)
    subst this; rfl
  | f + 1, [], _, n => rfl
  | f + 1, x :: l, h, n => by
    rw [Nat.pow_succ] at h
    simp only [List.length_cons] at h
    cases n with
    | zero => rfl
    | succ n =>
      show (Tr.node (Tr.ofO f (odds l)) x (Tr.ofO f (odds l.tail))).get (n + 1) = _
      rw [Tr.get_succ, Tr.get_ofO f (odds l) (by rw [odds_len]; omega), Tr.get_ofO f (odds l.tail) (by rw [odds_len, List.length_tail]; omega), odds_get, odds_get, List.getElem?_cons_succ]
      split
      · congr 2; omega
      · rw [List.getElem?_tail]; congr 2; omega
noncomputable def mkTO (P : Program) (t : TypeId) : Option TI := opt none (P.info? t) fun i => opt none (P.underlying t) fun d => cnd (Nat.ble i.bytes 1048576) (some ⟨i.size, agT d, clsT P d, opt none i.zero cvV⟩) none
theorem mapM_two {P : Program} : ∀ {F : List Field} {l : List (Nat × Nat × Nat)}, F.mapM (fun f => (P.info? f.type).map fun i => (f.offset, i.size, f.type)) = some l →
    F.mapM (fun f => (P.info? f.type).map fun i => (f.offset, i.size)) = some (l.map fun f => (f.1, f.2.1)) ∧ ∀ (k : Nat) f, l[k]? = some f → ∃ fd : Field, F[k]? = some fd ∧ f.1 = fd.offset ∧ f.2.2 = fd.type ∧ ∃ i, P.info? fd.type = some i ∧ i.size = f.2.1
  | [], l, h => by
    have h : some [] = some l := h
    injection h with h
    subst h
    exact ⟨rfl, fun k f hk => by simp at hk⟩
  | x :: F, l, h => by
    simp only [List.mapM_cons, Option.pure_def, Option.bind_eq_bind, Option.bind_eq_some_iff] at h
    obtain ⟨a, h1, b, h2, h3⟩ := h
    injection h3 with h3
    subst h3
    obtain ⟨i, h4, h5⟩ := Option.map_eq_some_iff.1 h1
    subst h5
    obtain ⟨k1, k2⟩ := mapM_two h2
    refine ⟨?_, fun k f hk => ?_⟩
    · simp only [List.mapM_cons, h4, k1]
      rfl
    · cases k with
      | zero =>
        rw [List.getElem?_cons_zero] at hk
        injection hk with hk
        subst hk
        exact ⟨x, rfl, rfl, rfl, i, h4, rfl⟩
      | succ k =>
        rw [List.getElem?_cons_succ] at hk
        obtain ⟨fd, q1, q2⟩ := k2 k f hk
        exact ⟨fd, by rw [List.getElem?_cons_succ]; exact q1, q2⟩
theorem clsT_ok (P : Program) (d : TypeDesc) : CR P d (clsT P d) := by
  cases d <;> try trivial
  case struct fs =>
    show CR P (.struct fs) (opt .other (fs.toList.mapM fun f => (P.info? f.type).map fun i => (f.offset, i.size, f.type)) fun l => .struct l)
    cases h : fs.toList.mapM fun f => (P.info? f.type).map fun i => (f.offset, i.size, f.type) with
    | none => trivial
    | some l =>
      obtain ⟨h1, h2⟩ := mapM_two h
      show CR P (.struct fs) (.struct l)
      refine ⟨fs, rfl, h1, fun k f hk => ?_⟩
      obtain ⟨fd, q1, q2⟩ := h2 k f hk
      exact ⟨fd, by rw [← Array.getElem?_toList]; exact q1, q2⟩
  case map k e =>
    show CR P (.map k e) (match P.underlying k with
      | some (.int _) => .map (some false) e
      | some .string => .map (some true) e
      | _ => .map none e)
    split
    · rename_i q hq
      exact ⟨k, rfl, q, hq⟩
    · rename_i hq
      exact ⟨k, rfl, hq⟩
    · exact ⟨k, rfl, trivial⟩
  all_goals first | rfl | exact ⟨_, _, _, rfl⟩ | exact ⟨_, rfl⟩
theorem mkTO_ok {P : Program} {t : TypeId} {i : TI} (h : mkTO P t = some i) : TIok P t i := by
  obtain ⟨info, h1, h2⟩ := opt_some h
  obtain ⟨d, h3, h4⟩ := opt_some h2
  rcases cnd_eq h4 with ⟨h5, h6⟩ | ⟨_, h6⟩
  · injection h6 with h6
    subst h6
    refine ⟨info, d, h1, rfl, h3, rfl, clsT_ok P d, fun z hz => ?_, Nat.le_of_ble_eq_true h5⟩
    obtain ⟨zv, q1, q2⟩ := opt_some hz
    exact ⟨zv, q1, fun e => cvV_ok q2⟩
  · cases h6
theorem types_ok {P : Program} {sp : Option (Op → List AV → Option AV)} (n : Nat) (hn : n < 2 ^ 20) : TTok P ⟨Tr.ofO 20 ((List.range n).map (mkTO P)), sp⟩ := fun t i h => by
  replace h : (Tr.ofO 20 ((List.range n).map (mkTO P))).get t = some i := h
  rw [Tr.get_ofO 20 _ (by simpa using hn)] at h
  rw [List.getElem?_map] at h
  rcases Nat.lt_or_ge t n with hlt | hge
  · rw [List.getElem?_eq_getElem (by simpa using hlt), List.getElem_range] at h
    exact mkTO_ok h
  · rw [List.getElem?_eq_none (by simpa using hge)] at h
    cases h
noncomputable def fnO (B : Nat) (f : Func) : Option Func := opt none f.body fun c => cnd (okC B f.ntmps c) (some f) none
theorem funcs_ok {P : Program} {B : Nat} (hn : P.funcs.toList.length < 2 ^ 20) (h0 : ∀ (f : Nat) (fn : Func), P.funcs[f]? = some fn → (fn.name == "runtime.NumGoroutine") = false) : FTok P B (Tr.ofO 20 (P.funcs.toList.map (fnO B))) := fun f fn c h hc => by
  rw [Tr.get_ofO 20 _ (by simpa using hn), List.getElem?_map] at h
  cases h1 : P.funcs.toList[f]? with
  | none => rw [h1] at h; cases h
  | some fn' =>
    rw [h1] at h
    have h : fnO B fn' = some fn := h
    obtain ⟨c', h2, h3⟩ := opt_some h
    rcases cnd_eq h3 with ⟨h4, h5⟩ | ⟨_, h5⟩
    · injection h5 with h5
      subst h5
      rw [hc] at h2
      injection h2 with h2
      subst h2
      rw [Array.getElem?_toList] at h1
      exact ⟨h1, h4, h0 _ _ h1⟩
    · cases h5
/-! This program. -/
noncomputable abbrev P : Program := Tryz.prog
noncomputable def tT : Tr TI := Tr.ofO 20 ((List.range P.types.size).map (mkTO P))
/-- The bounds of the unknown strings' lengths: the commands, their frames. -/
def bds : Bds := [(1, 110), (1, 200), (1, 110), (1, 200), (1, 110), (1, 200), (1, 110), (1, 200), (1, 110), (1, 200), (1, 110), (1, 200), (1, 110), (1, 200), (1, 110), (1, 200), (1, 110), (1, 200), (1, 110), (1, 200), (1, 110), (1, 200), (1, 110), (1, 200), (1, 110), (1, 200), (1, 110), (1, 200)]
noncomputable def tt : TT := ⟨tT, some (spH tT bds)⟩
noncomputable def ft : Tr Func := Tr.ofO 20 (P.funcs.toList.map (fnO 4))
theorem tt_ok : TTok P tt := types_ok _ (of_decide_eq_true (by kernel_rfl))
theorem ts_ok {A : Nat → List Nat} {O : Nat → Value → Prop} (hA : BdOk (fun n => (A n).length) bds) : TSok P (spI A O) tt := ⟨tt_ok, spH_ok tt_ok hA⟩
theorem names_ok : (P.funcs.toList.all fun fn => !(fn.name == "runtime.NumGoroutine")) = true := by kernel_rfl
theorem ft_ok : FTok P 4 ft := funcs_ok (of_decide_eq_true (by kernel_rfl)) fun f fn h => by
  have h1 := List.all_eq_true.1 names_ok fn (Array.mem_toList_iff.2 (Array.mem_of_getElem? h))
  simpa using h1
theorem mixed_ok : P.follows .mixedOrders = true := by kernel_rfl
end Go.Proofs.YtpnoiagjgkajdaaGreatDoor.Av
end
