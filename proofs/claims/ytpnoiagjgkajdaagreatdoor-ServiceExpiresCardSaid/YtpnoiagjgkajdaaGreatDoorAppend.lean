/- append of one element to a row of its own, whatever its type; a slice that is read. No program in sight. -/
import Derived.Test.YtpnoiagjgkajdaaGreatDoorTo
import Derived.Deep.AppendLies
namespace Go.Proofs.YtpnoiagjgkajdaaGreatDoor
open Go.RowKit

theorem step_append1 {P : Program} {ops : Array Oper} {o : Oper} {a : Act} {K : Act → World → Prop} {Q : Exit → Act → World → Prop} {E : Prop} {W : World} {p n : Nat} {v : Value} {t e : TypeId} {i : TypeInfo} {z : Value} {size bytes : Nat} {xs news : List Value}
    (hgd : o.guard = none) (s1 x1 : Operand) (ho : o.op = .call { callee := .builtin .append, args := #[s1, x1], argTypes := #[t, t] }) (ht : P.underlying t = some (.slice e)) (hi : P.info? e = some i) (hz : i.zero = some z) (hsize : i.size = size) (hby : i.bytes = bytes) (hzs : z.cells.size = size) (hsz : 0 < size)
    (hs : a.eval s1 = v) (hx : a.eval x1 = .slice (some ⟨p, 0, none⟩) 1 1) (hown : W.ownsRow 0 e size v n xs) (hlit : Blk W p e news.toArray) (hl : news.length = size) (h1 : ∀ u ∈ news, u.oneCell' = true) (h63 : n + 1 ≤ maxLen) (hb : (n + 1) * bytes ≤ 140737488355328)
    (h : ∀ g cap w', w'.ownsRow 0 e size (.slice (some ⟨g, 0, none⟩) (n + 1) cap) (n + 1) (xs ++ news) → Keep v.ownBlock.toList W w' → (v.ownBlock = some g ∨ g = W.heap.size) → K (a.put o.dst (.slice (some ⟨g, 0, none⟩) (n + 1) cap)) w') :
    if Region.wanted o (yielded ops a.tmps) = true then Oper.wp P o a W K Q else E := by
  refine step_append_lies W hgd s1 x1 t ho 0 e i z size bytes ht hi hz hsize hby hzs hsz v n xs hs hown ⟨p, 0, none⟩ 1 1 news hx (by omega) (fun j u hu => ?_) h1 (by omega) h63 hb (Nat.zero_le _) W.heap.size rfl ?_
  · rw [Go.WideShapes.add_plain, hlit.cell, Nat.zero_add]
    simpa using hu
  · intro g cap w' h2 h3 h4 _
    exact h g cap w' h2 ((Keep.refl _ _).grown h3 (fun k hk => .inl (by simp [hk]))) h4
theorem list_append1 {P : Program} {ops : Array Oper} {rest : List Oper} {o : Oper} {a : Act} {Q : Exit → Act → World → Prop} {W : World} {p n : Nat} {v : Value} {t e : TypeId} {i : TypeInfo} {z : Value} {size bytes : Nat} {xs news : List Value}
    (hgd : o.guard = none) (s1 x1 : Operand) (ho : o.op = .call { callee := .builtin .append, args := #[s1, x1], argTypes := #[t, t] }) (ht : P.underlying t = some (.slice e)) (hi : P.info? e = some i) (hz : i.zero = some z) (hsize : i.size = size) (hby : i.bytes = bytes) (hzs : z.cells.size = size) (hsz : 0 < size)
    (hs : a.eval s1 = v) (hx : a.eval x1 = .slice (some ⟨p, 0, none⟩) 1 1) (hown : W.ownsRow 0 e size v n xs) (hlit : Blk W p e news.toArray) (hl : news.length = size) (h1 : ∀ u ∈ news, u.oneCell' = true) (h63 : n + 1 ≤ maxLen) (hb : (n + 1) * bytes ≤ 140737488355328)
    (h : ∀ g cap w', w'.ownsRow 0 e size (.slice (some ⟨g, 0, none⟩) (n + 1) cap) (n + 1) (xs ++ news) → Keep v.ownBlock.toList W w' → (v.ownBlock = some g ∨ g = W.heap.size) → wpList P ops Q rest (a.put o.dst (.slice (some ⟨g, 0, none⟩) (n + 1) cap)) w') :
    wpList P ops Q (o :: rest) a W := by
  refine wpList_append_lies W hgd s1 x1 t ho 0 e i z size bytes ht hi hz hsize hby hzs hsz v n xs hs hown ⟨p, 0, none⟩ 1 1 news hx (by omega) (fun j u hu => ?_) h1 (by omega) h63 hb (Nat.zero_le _) W.heap.size rfl ?_
  · rw [Go.WideShapes.add_plain, hlit.cell, Nat.zero_add]
    simpa using hu
  · intro g cap w' h2 h3 h4 _
    exact h g cap w' h2 ((Keep.refl _ _).grown h3 (fun k hk => .inl (by simp [hk]))) h4

/-- A slice of n elements whose cells are xs. -/
def SlAt (w : World) (v : Value) (n : Nat) (xs : List Value) : Prop :=
  ∃ A c, v = .slice A n c ∧ (xs ≠ [] → ∃ g o, A = some ⟨g, o, none⟩ ∧ ∀ j u, xs[j]? = some u → w.cell? ⟨g, o + j, none⟩ = some u)
section
variable {w w' : World} {v : Value} {n : Nat} {xs : List Value} {M : List Nat}
theorem SlAt.keep (h : SlAt w v n xs) (hk : Keep M w w') (hM : ∀ k ∈ M, v.ownBlock ≠ some k) : SlAt w' v n xs := by
  obtain ⟨A, c, rfl, hc⟩ := h
  refine ⟨A, c, rfl, fun hne => ?_⟩
  obtain ⟨g, o, rfl, hcc⟩ := hc hne
  refine ⟨g, o, rfl, fun j u hu => ?_⟩
  have h1 := hcc j u hu
  rw [hk.cell (p := ⟨g, o + j, none⟩) (World.block_lt_of_cell? _ _ h1) (fun hm => hM g hm rfl)]
  exact h1
theorem SlAt.grow (h : SlAt w v n xs) (hk : Keep [] w w') : SlAt w' v n xs := h.keep hk (by simp)
theorem SlAt.lt (h : SlAt w v n xs) (hx : xs ≠ []) {k : Nat} (hk : v.ownBlock = some k) : k < w.heap.size := by
  obtain ⟨A, c, rfl, hc⟩ := h
  obtain ⟨g, o, rfl, hcc⟩ := hc hx
  simp [Value.ownBlock] at hk
  subst hk
  cases xs with
  | nil => exact absurd rfl hx
  | cons u l => exact World.block_lt_of_cell? _ _ (hcc 0 u rfl)
theorem SlAt.nil : SlAt w (.slice none 0 0) 0 [] := ⟨none, 0, rfl, fun h => absurd rfl h⟩
theorem SlAt.of_own {e : TypeId} {size base : Nat} (h : w.ownsRow base e size v n xs) : SlAt w v n xs := by
  rcases h.2 with ⟨rfl, h2⟩ | ⟨g, cap, cur, e, _, h3, h4, h5, h6, h7⟩
  · have hx := h.1
    rw [h2, Nat.zero_mul] at hx
    exact ⟨none, 0, by rw [h2], fun hne => absurd (List.length_eq_zero_iff.1 hx) hne⟩
  · refine ⟨_, _, e, fun _ => ⟨g, 0, rfl, fun j u hu => ?_⟩⟩
    have := h.cells (g := g) (by rw [e]; rfl) j u hu
    rwa [show (⟨g, 0, none⟩ : Addr).add j = ⟨g, 0 + j, none⟩ by unfold Addr.add; split <;> simp_all] at this
/-- A whole block as a slice. -/
theorem SlAt.of_blk {t : TypeId} {g : Nat} (h : Blk w g t xs.toArray) (c : Nat) : SlAt w (.slice (some ⟨g, 0, none⟩) n c) n xs :=
  ⟨_, _, rfl, fun _ => ⟨g, 0, rfl, fun j u hu => by rw [h.cell, Nat.zero_add]; simpa using hu⟩⟩
end

end Go.Proofs.YtpnoiagjgkajdaaGreatDoor
