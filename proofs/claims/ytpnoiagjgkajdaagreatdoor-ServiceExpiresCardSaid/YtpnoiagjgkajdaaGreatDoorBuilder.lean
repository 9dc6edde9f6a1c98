/- The contracts of strings.Builder: copyCheck, WriteString. -/
import Derived.Test.YtpnoiagjgkajdaaGreatDoorEncI
import Derived.Lib.Builder
namespace Go.Proofs.YtpnoiagjgkajdaaGreatDoor
open Go.RowKit
attribute [local go_sem] size_bs bs_append

theorem Tryz.info346 : (Tryz.prog.info? 346).map (fun i => (i.zero, i.size, i.bytes)) = some (some (.agg #[.pointer none, .slice none 0 0]), 2, 32) := by kernel_rfl
theorem lies_builder : liesAt Tryz.prog Tryz.prog.depth 346 (2 / Tryz.prog.cellsOf 346) 0 346 1 = true := by kernel_rfl
theorem Blk.shape {w : World} {g : Nat} {t : TypeId} {cs : Array Value} (h : Blk w g t cs) : w.shape? g = some (t, cs.size) := by
  unfold Blk at h
  simp [World.shape?, h]

set_option maxRecDepth 100000 in
set_option maxHeartbeats 1000000 in
theorem copyCheck_fresh (b : Nat) (v : Value) (w : World) (h : Blk w b 346 #[.pointer none, v]) :
    Calls Tryz.prog 295 #[.pointer (some ⟨b, 0, none⟩)] w fun e w' => e = .returned (.tuple #[]) ∧ w' = w.setCell ⟨b, 0, none⟩ (.pointer (some ⟨b, 0, none⟩)) := by
  obtain ⟨i0, hi, hz0, hz1, hz2⟩ := info_parts Tryz.info346
  have c0 : w.cell? ⟨b, 0, none⟩ = some (.pointer none) := h.cell 0
  have f0 := h.frozen 0
  have hsh := h.shape
  have hto := Lib.run_to_unsafe (P := Tryz.prog) w ⟨b, 0, none⟩ Tryz.underlying344 Tryz.underlying420 hi (by omega) hsh (by simp)
  have hfr := Lib.run_from_unsafe (P := Tryz.prog) w ⟨b, 0, none⟩ Tryz.underlying420 Tryz.underlying344 hi hsh lies_builder
  have hne := fun W => Lib.run_neq_ptr_same (P := Tryz.prog) W ⟨b, 0, none⟩ Tryz.underlying344 hi
  clear hsh h
  go_enter Tryz.func295, Tryz.ntmps295
  go_wp2
  rw [run_callFunc_extern Tryz.func322 (by kernel_rfl) (by kernel_rfl) (by kernel_rfl) (e := Extern.AbiNoEscape.same) (by kernel_rfl), Lib.run_noEscape]
  simp only [Result.andThen]
  rw [Oper.upon_value]
  go_wp2
  go_end0
  exact ⟨rfl, rfl⟩

set_option maxRecDepth 100000 in
set_option maxHeartbeats 1000000 in
theorem copyCheck_used (b : Nat) (v : Value) (w : World) (h : Blk w b 346 #[.pointer (some ⟨b, 0, none⟩), v]) :
    Calls Tryz.prog 295 #[.pointer (some ⟨b, 0, none⟩)] w fun e w' => e = .returned (.tuple #[]) ∧ w = w' := by
  obtain ⟨i0, hi, hz0, hz1, hz2⟩ := info_parts Tryz.info346
  have c0 : w.cell? ⟨b, 0, none⟩ = some (.pointer (some ⟨b, 0, none⟩)) := h.cell 0
  have hne := fun W => Lib.run_neq_ptr_same (P := Tryz.prog) W ⟨b, 0, none⟩ Tryz.underlying344 hi
  clear h
  go_enter Tryz.func295, Tryz.ntmps295
  go_wp2
  go_end0
  exact ⟨rfl, rfl⟩

/-- Every block but b that is no row of bytes stands as it stood. -/
def Others (b : Nat) (w w' : World) : Prop := ∀ g t cs, Blk w g t cs → g ≠ b → t ≠ 5 → Blk w' g t cs
theorem Others.refl (b : Nat) (w : World) : Others b w w := fun _ _ _ h _ _ => h
theorem Others.trans {b : Nat} {w w' w'' : World} (h : Others b w w') (k : Others b w' w'') : Others b w w'' := fun g t cs hg hb ht => k g t cs (h g t cs hg hb ht) hb ht
theorem Others.setCell (b i : Nat) (u : Value) (w : World) : Others b w (w.setCell ⟨b, i, none⟩ u) := fun _ _ _ hg hb _ => hg.far hb u
theorem copyCheck_calls (B b : Nat) (xs : List Value) (w : World) (h : Lib.IsBuilder 346 5 B b xs w) :
    Calls Tryz.prog 295 #[.pointer (some ⟨b, 0, none⟩)] w fun e w' => e = .returned (.tuple #[]) ∧ Lib.BuilderAt 346 5 B b (.pointer (some ⟨b, 0, none⟩)) xs w' ∧ Below B w w' ∧ Others b w w' := by
  rcases h with h | h
  · obtain ⟨hB, v, hbk, _⟩ := id h
    refine (copyCheck_fresh b v w hbk).mono ?_
    rintro e w' ⟨rfl, rfl⟩
    exact ⟨rfl, h.used _, (Below.refl B w).setCell (p := ⟨b, 0, none⟩) hB _, Others.setCell _ _ _ _⟩
  · obtain ⟨hB, v, hbk, _⟩ := id h
    refine (copyCheck_used b v w hbk).mono ?_
    rintro e w' ⟨rfl, rfl⟩
    exact ⟨rfl, h, Below.refl B _, Others.refl _ _⟩

theorem isBuilder_keep {T e : TypeId} {B b : Nat} {xs : List Value} {w w' : World} (h : Lib.IsBuilder T e B b xs w) (hk : Keep [] w w') : Lib.IsBuilder T e B b xs w' := by
  have aux : ∀ p, Lib.BuilderAt T e B b p xs w → Lib.BuilderAt T e B b p xs w' := fun p ⟨hB, v, hbk, hown, hne⟩ =>
    ⟨hB, v, (hk.block b (Blk.lt (cs := #[p, v]) hbk) (by simp)).trans hbk, hk.owns hown (by simp), hne⟩
  rcases h with h | h
  · exact Or.inl (aux _ h)
  · exact Or.inr (aux _ h)
theorem bld_append_str {ops : Array Oper} {rest : List Oper} {o : Oper} {a : Act} {Q : Exit → Act → World → Prop} {wr : World} {B b : Nat} {v p : Value} {L t : List UInt8}
    (hgd : o.guard = none) (s x : Operand) (ho : o.op = .call { callee := .builtin .append, args := #[s, x], argTypes := #[228, 9] })
    (hs : a.eval s = v) (hx : a.eval x = .string (bs t)) (hBb : B ≤ b) (hbk : wr.heap[b]? = some (.cells #[p, v] 346 (0, 0))) (hown : wr.ownsRow B 5 1 v (Lib.byteCells L).length (Lib.byteCells L))
    (hne : v.ownBlock ≠ some b) (hn : (Lib.byteCells L).length + t.length ≤ 140737488355328) (hBw : B ≤ wr.heap.size)
    (h : ∀ A n c w', w'.cell? ⟨b, 1, none⟩ = some v → w'.frozen? ⟨b, 1, none⟩ = false → Lib.BuilderAt 346 5 B b p (Lib.byteCells (L ++ t)) (w'.setCell ⟨b, 1, none⟩ (.slice A n c)) → Below B wr (w'.setCell ⟨b, 1, none⟩ (.slice A n c)) → Others b wr (w'.setCell ⟨b, 1, none⟩ (.slice A n c)) → wpList Tryz.prog ops Q rest (a.put o.dst (.slice A n c)) w') :
    wpList Tryz.prog ops Q (o :: rest) a wr := by
  obtain ⟨i0, hi, hz0, hz1, hz2⟩ := info_parts Tryz.info5
  refine Lib.wpList_append_own_string wr hgd s x 228 9 ho B 5 i0 Tryz.underlying228 Tryz.underlying9 hi hz0 hz1 hz2 v _ _ hs hown (bs t) hx (by rw [size_bs]; unfold maxLen; omega) (by rw [size_bs]; omega) hBw ?_
  intro v' w' h2 h3 _
  obtain ⟨A, n, c, rfl⟩ : ∃ A n c, v' = .slice A n c := by
    rcases h2.2 with ⟨rfl, _⟩ | ⟨g, cap, cur, rfl, _, _⟩
    · exact ⟨_, _, _, rfl⟩
    · exact ⟨_, _, _, rfl⟩
  have hbk' : w'.heap[b]? = some (.cells #[p, v] 346 (0, 0)) := (h3.block b (Blk.lt (cs := #[p, v]) hbk) (fun e => hne e.symm)).trans hbk
  have e1 : Lib.byteCells (L ++ t) = Lib.byteCells L ++ Lib.strCells (bs t) := by simp [Lib.byteCells, Lib.strCells, bs]
  have e2 : (Lib.byteCells (L ++ t)).length = (Lib.byteCells L).length + (bs t).size := by rw [e1]; simp [Lib.strCells_length]
  refine h A n c w' (Blk.cell (cs := #[p, v]) hbk' 1) (Blk.frozen (cs := #[p, v]) hbk' 1) (Lib.BuilderAt.put hBb hbk' (by rw [e2, e1]; exact h2) (by decide)) ?_ (fun g t cs hg hb ht => (hg.grown h3 (fun e => own_blk_ne hown hg (fun e' => ht e'.symm) e.symm)).far hb _)
  exact (Below.grown (Below.refl B wr) h3 hBw (fun k hk => (hown.lt k hk).1)).setCell (p := ⟨b, 1, none⟩) hBb _

set_option maxRecDepth 100000 in
set_option maxHeartbeats 1000000 in
theorem wstr_calls (B b : Nat) (L t : List UInt8) (w : World) (h : Lib.IsBuilder 346 5 B b (Lib.byteCells L) w) (hlen : L.length + t.length ≤ 140737488355328) (hBw : B ≤ w.heap.size) :
    Calls Tryz.prog 235 #[.pointer (some ⟨b, 0, none⟩), .string (bs t)] w fun e w' => (∃ r, e = .returned r) ∧ Lib.IsBuilder 346 5 B b (Lib.byteCells (L ++ t)) w' ∧ Below B w w' ∧ Others b w w' := by
  have H := Lib.hid h
  clear h
  go_enter Tryz.func235, Tryz.ntmps235
  go_wp2_with (first | (go_at_call 295; refine (copyCheck_calls B b _ _ H.out).mono ?_; rintro e w1 ⟨rfl, h1, hb1, ho1⟩; have HO1 := Lib.hid ho1; clear ho1; obtain ⟨hB, v, hbk, hown, hne⟩ := h1; have c1 : w1.cell? ⟨b, 1, none⟩ = some v := Lib.cell_of_heap hbk 1; have hBw1 : B ≤ w1.heap.size := Nat.le_trans hBw hb1.size; have HBK := Lib.hid hbk; have HOWN := Lib.hid hown; have HNE := Lib.hid hne; have HB1 := Lib.hid hb1; clear hbk hown hne hb1) | (at_builtin; refine bld_append_str (v := v) rfl (.tmp 12) (.tmp 13) rfl rfl rfl hB HBK.out HOWN.out HNE.out (by rw [Lib.byteCells_length]; omega) hBw1 ?_; intro A n c w3 hc3 hf3 hE3 hto3 ho3; have HO3 := Lib.hid ho3; clear ho3; have HE3 := Lib.hid hE3; have HTO3 := Lib.hid hto3; clear hE3 hto3))
  go_ret2
  exact ⟨⟨_, rfl⟩, Or.inr HE3.out, HB1.out.trans HTO3.out, HO1.out.trans HO3.out⟩

end Go.Proofs.YtpnoiagjgkajdaaGreatDoor
