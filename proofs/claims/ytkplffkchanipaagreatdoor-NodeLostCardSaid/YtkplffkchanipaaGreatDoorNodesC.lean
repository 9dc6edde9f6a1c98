/- A node with its chunks, up or down, as a law walks with it. -/
import Derived.Test.YtkplffkchanipaaGreatDoorNodesB
import Derived.Test.YtkplffkchanipaaGreatDoorNacts
import Derived.Test.YtkplffkchanipaaGreatDoorRefSums
namespace Go.Proofs.YtkplffkchanipaaGreatDoor
open Go.RowKit
variable {w w' w0 : World} {n s b m g c k : Nat} {C C' : Ck} {D D' : Dk} {X : List (Nat × List UInt8)} {u : Bool}

/-- What is a law's own stays as it is: a list of chunks, a block of a kind that no node has. -/
structure Stay (w w' : World) : Prop where
  own : ∀ (base : Nat) (v : Value) (l : List (Nat × List UInt8)), OwnX w base v l → OwnX w' base v l
  blk : ∀ (p : Nat) (t : TypeId) (cs : Array Value), t ≠ 69 → t ≠ 94 → t ≠ 44 → Blk w p t cs → Blk w' p t cs
theorem Stay.trans {w1 w2 w3 : World} (h : Stay w1 w2) (h2 : Stay w2 w3) : Stay w1 w3 := ⟨fun b v l hO => h2.own b v l (h.own b v l hO), fun p t cs t1 t2 t3 hB => h2.blk p t cs t1 t2 t3 (h.blk p t cs t1 t2 t3 hB)⟩
theorem Stay.refl (w : World) : Stay w w := ⟨fun _ _ _ h => h, fun _ _ _ _ _ _ h => h⟩
theorem Stay.keep (hk : Keep [] w w') : Stay w w' := ⟨fun _ _ _ h => h.keep2 hk (by simp), fun _ _ _ _ _ _ h => h.keep hk (by simp)⟩
theorem NdUp.stay (h : NdUp w0 w n s b m g c C D) (hk : Keep [n, s, b, m, g] w w') : Stay w w' := by
  constructor
  · intro base v l hO
    refine hO.keep2 hk fun x e hm => ?_
    simp only [List.mem_cons, List.not_mem_nil, or_false] at hm
    rcases hm with rfl | rfl | rfl | rfl | rfl
    · exact own_blk_ne hO.own h.blk (by decide) e
    · exact own_blk_ne hO.own h.at_.blk (by decide) e
    · exact own_blk_ne hO.own h.at_.disk.blk (by decide) e
    · exact hO.ne_map h.at_.disk.map e
    · exact hO.ne_mapN h.at_.map e
  · intro p t cs t1 t2 t3 hB
    have e1 : p ≠ n := hB.ne_ h.blk t1
    have e2 : p ≠ s := hB.ne_ h.at_.blk t2
    have e3 : p ≠ b := hB.ne_ h.at_.disk.blk t3
    have e4 : p ≠ m := fun e => h.at_.disk.map.ne_ hB e.symm
    have e5 : p ≠ g := fun e => h.at_.map.ne_ hB e.symm
    exact hB.keep hk (by simp [e1, e2, e3, e4, e5])
theorem NdDown.stay (h : NdDown w0 w n b m c D) (hk : Keep [n, b, m] w w') : Stay w w' := by
  constructor
  · intro base v l hO
    refine hO.keep2 hk fun x e hm => ?_
    simp only [List.mem_cons, List.not_mem_nil, or_false] at hm
    rcases hm with rfl | rfl | rfl
    · exact own_blk_ne hO.own h.blk (by decide) e
    · exact own_blk_ne hO.own h.disk.blk (by decide) e
    · exact hO.ne_map h.disk.map e
  · intro p t cs t1 _ t3 hB
    have e1 : p ≠ n := hB.ne_ h.blk t1
    have e3 : p ≠ b := hB.ne_ h.disk.blk t3
    have e4 : p ≠ m := fun e => h.disk.map.ne_ hB e.symm
    exact hB.keep hk (by simp [e1, e3, e4])

/-- Two rising lists that say the same are the same. -/
theorem asc_ext : ∀ {l l' : List (Nat × List UInt8)}, Asc l → Asc l' → (∀ j, lookX j l = lookX j l') → l = l'
  | [], [], _, _, _ => rfl
  | [], q :: l', _, _, h => by have := h q.1; simp [lookX] at this
  | p :: l, [], _, _, h => by have := h p.1; simp [lookX] at this
  | p :: l, q :: l', h1, h2, h => by
    have a1 := List.pairwise_cons.1 h1
    have a2 := List.pairwise_cons.1 h2
    have n1 : ∀ {x : Nat} {r : List (Nat × List UInt8)}, (∀ y ∈ r, x < y.1) → lookX x r = none := fun hr => look_noneX.2 fun y hy => by have := hr y hy; omega
    have e : p.1 = q.1 := by
      rcases Nat.lt_trichotomy p.1 q.1 with hlt | he | hlt
      · have h3 := h p.1
        simp only [lookX, if_true] at h3
        rw [if_neg (by omega), n1 fun y hy => by have := a2.1 y hy; omega] at h3
        cases h3
      · exact he
      · have h3 := h q.1
        simp only [lookX, if_true] at h3
        rw [if_neg (by omega), n1 fun y hy => by have := a1.1 y hy; omega] at h3
        cases h3
    have e2 : p.2 = q.2 := by
      have h3 := h p.1
      simp only [lookX, if_true] at h3
      rw [if_pos e] at h3
      exact Option.some.inj h3
    have e3 : l = l' := asc_ext a1.2 a2.2 fun j => by
      by_cases hj : j = p.1
      · rw [hj, n1 a1.1, n1 fun y hy => by have := a2.1 y hy; omega]
      · have h3 := h j
        simp only [lookX] at h3
        rw [if_neg hj, if_neg (by omega)] at h3
        exact h3
    rw [e3, Prod.ext e e2]
theorem put_same {i : Nat} {d : List UInt8} (h : Asc X) (hi : lookX i X = some d) : putX (i, d) X = X := asc_ext (h.put _) h fun j => by
  rw [look_putX]
  split
  · rename_i e
    simp only at e
    rw [e, hi]
  · rfl

/-- The chunks are small and few. -/
structure FitS (X : List (Nat × List UInt8)) (k : Nat) : Prop where
  fit : FitX X
  data : ∀ p ∈ X, p.2.length ≤ 40
  len : X.length ≤ k
  asc : Asc X
theorem FitS.mono {k' : Nat} (h : FitS X k) (hk : k ≤ k') : FitS X k' := ⟨h.fit, h.data, Nat.le_trans h.len hk, h.asc⟩
theorem FitS.put (h : FitS X k) {i : Nat} {d : List UInt8} (hi : i < 18446744073709551616) (hd : d.length ≤ 40) : FitS (putX (i, d) X) (k + 1) := by
  refine ⟨fit_put h.fit hi (by omega), fun p hp => ?_, ?_, h.asc.put _⟩
  · unfold putX at hp
    rcases ins_mem.1 hp with rfl | hp
    · exact hd
    · exact h.data p (drop_mem.1 hp).1
  · have := putX_len (i, d) X
    have := h.len
    omega
theorem FitS.drop (h : FitS X k) (i : Nat) : FitS (dropX i X) k := ⟨fit_drop h.fit i, fun p hp => h.data p (drop_mem.1 hp).1, Nat.le_trans (drop_len i X) h.len, h.asc.drop i⟩
/-- A node with its chunks: up, or down. -/
def NdS (u : Bool) (w0 w : World) (n b m k : Nat) (D : Dk) (X : List (Nat × List UInt8)) : Prop := FitS X k ∧
  (match u with
   | true => ∃ s g c C, NdUp w0 w n s b m g c C D ∧ Hot C D X ∧ C.seg + 1 ≤ k ∧ c ≤ 1000
   | false => ∃ c, NdDown w0 w n b m c D ∧ Cold D X k)
theorem NdS.keep (h : NdS u w0 w n b m k D X) : Keep [] w0 w := by
  obtain ⟨_, h⟩ := h
  cases u with
  | true => obtain ⟨s, g, c, C, h1, _⟩ := h; exact h1.keep
  | false => obtain ⟨c, h1, _⟩ := h; exact h1.keep
theorem NdS.tab (h : NdS u w0 w n b m k D X) : Tab w := by
  obtain ⟨_, h⟩ := h
  cases u with
  | true => obtain ⟨s, g, c, C, h1, _⟩ := h; exact h1.at_.tab
  | false => obtain ⟨c, h1, _⟩ := h; exact h1.tab
theorem NdS.disk (h : NdS u w0 w n b m k D X) : DiskAt w b m D := by
  obtain ⟨_, h⟩ := h
  cases u with
  | true => obtain ⟨s, g, c, C, h1, _⟩ := h; exact h1.at_.disk
  | false => obtain ⟨c, h1, _⟩ := h; exact h1.disk
theorem NdS.here (h : NdS u w0 w n b m k D X) : D.Here := by
  obtain ⟨_, h⟩ := h
  cases u with
  | true => obtain ⟨s, g, c, C, _, h1, _⟩ := h; exact h1.sure.here
  | false => obtain ⟨c, _, h1⟩ := h; exact h1.here
theorem NdS.grow (h : NdS u w0 w n b m k D X) (hk : Keep [] w w') : NdS u w0 w' n b m k D X := by
  obtain ⟨h0, h⟩ := h
  refine ⟨h0, ?_⟩
  cases u with
  | true => obtain ⟨s, g, c, C, h1, h2⟩ := h; exact ⟨s, g, c, C, h1.grow hk, h2⟩
  | false => obtain ⟨c, h1, h2⟩ := h; exact ⟨c, h1.grow hk, h2⟩
theorem NdS.mono {k' : Nat} (h : NdS u w0 w n b m k D X) (hk : k ≤ k') : NdS u w0 w n b m k' D X := by
  obtain ⟨h0, h⟩ := h
  refine ⟨h0.mono hk, ?_⟩
  cases u with
  | true => obtain ⟨s, g, c, C, h1, h2, h3, h4⟩ := h; exact ⟨s, g, c, C, h1, h2, by omega, h4⟩
  | false => obtain ⟨c, h1, h2⟩ := h; exact ⟨c, h1, h2.mono hk⟩
theorem NdS.up (h : NdS u w0 w n b m k D X) : Calls Tryz.prog 43 #[.pointer (some ⟨n, 0, none⟩)] w fun e w' => e = .returned (.bool u) ∧ w = w' := by
  obtain ⟨_, h⟩ := h
  cases u with
  | true => obtain ⟨s, g, c, C, h1, h2, _⟩ := h; exact h1.up_ h2.lost
  | false => obtain ⟨c, h1, _⟩ := h; exact ndown_calls h1
theorem NdS.c0 (h : NdS u w0 w n b m k D X) : w.cell? ⟨n, 0, none⟩ = some (.pointer (some ⟨b, 0, none⟩)) := by
  obtain ⟨_, h⟩ := h
  cases u with
  | true => obtain ⟨s, g, c, C, h1, _⟩ := h; exact h1.blk.cell 0
  | false => obtain ⟨c, h1, _⟩ := h; exact h1.blk.cell 0
/-- Fail. -/
theorem NdS.fail (h : NdS u w0 w n b m k D X) (x : Int) (hx : x ≤ 9223372036854775807) :
    Calls Tryz.prog 28 #[.pointer (some ⟨b, 2, none⟩), .int .i64 x] w fun e w' => e = .returned (.tuple #[]) ∧ Stay w w' ∧ NdS u w0 w' n b m k (D.arm (armV x)) X := by
  refine (fail_any h.disk x hx).mono ?_
  rintro e w' ⟨rfl, hd, hk⟩
  refine ⟨rfl, ?_⟩
  obtain ⟨h0, h⟩ := h
  have ha := (armV_le x).2
  cases u with
  | true =>
    obtain ⟨s, g, c, C, h1, h2, h3, h4⟩ := h
    exact ⟨h1.stay (hk.mono (by simp)), h0, s, g, c, C, h1.set (hk.mono (by simp)) (h1.at_.setDisk (hk.mono (by simp)) hd), h2.arm ha, h3, h4⟩
  | false =>
    obtain ⟨c, h1, h2⟩ := h
    exact ⟨h1.stay (hk.mono (by simp)), h0, c, h1.setd (hk.mono (by simp)) hd, h2.arm ha⟩
/-- What Put answers where no call fails, and there is room. -/
def putE (u : Bool) (X : List (Nat × List UInt8)) (i : Nat) (d : List UInt8) : Int := if u = false then 9 else match lookX i X with
  | none => 0
  | some d0 => if d0 = d then 0 else 6
def dropE (u : Bool) (X : List (Nat × List UInt8)) (i : Nat) : Int := if u = false then 9 else if (lookX i X).isSome then 0 else 5
set_option maxHeartbeats 400000 in
theorem NdS.put (h : NdS u w0 w n b m k D X) (hk : k < 97) {i : Nat} (hi : i < 18446744073709551616) {d : List UInt8} (hd : d.length ≤ 40) :
    Calls Tryz.prog 32 #[.pointer (some ⟨n, 0, none⟩), .int .u64 (i : Int), .string (bs d)] w fun e w' => Stay w w' ∧ ∃ u' y D' X', e = .returned (.int .i64 y) ∧ NdS u' w0 w' n b m (k + 3) D' X' ∧ D'.room = D.room ∧
      (y = 0 ∧ X' = putX (i, d) X ∨ y ≠ 0 ∧ X' = X) ∧ (D.armed = 0 → D.used + 90 ≤ D.room → u' = u ∧ D'.armed = 0 ∧ D'.used ≤ D.used + 90 ∧ y = putE u X i d) := by
  obtain ⟨h0, h⟩ := h
  cases u with
  | false =>
    obtain ⟨c, h1, h2⟩ := h
    refine (nput_off h1.off (i : Int) (bs d)).mono ?_
    rintro e w' ⟨rfl, rfl⟩
    exact ⟨Stay.refl _, false, 9, D, X, rfl, ⟨h0.mono (by omega), c, h1, h2.mono (by omega)⟩, rfl, .inr ⟨by decide, rfl⟩, fun h1 _ => ⟨rfl, h1, by omega, rfl⟩⟩
  | true =>
    obtain ⟨s, g, c, C, h1, h2, h3, h4⟩ := h
    cases hl : lookX i X with
    | some d0 =>
      refine (nput_there h1 h2 hl d).mono ?_
      rintro e w' ⟨hk1, ⟨rfl, q1, q2⟩ | ⟨a, y, rfl, q1, q2, q3, q4⟩⟩
      · refine ⟨h1.stay hk1, false, 8, D.arm 0, X, rfl, ⟨h0.mono (by omega), c, q2, ?_⟩, rfl, .inr ⟨by decide, rfl⟩, fun h1 _ => by omega⟩
        exact (((h2.crash (by omega) []).2).arm (by decide)).mono (by omega)
      · have hA := h2.sure.here.good.ok.armed
        refine ⟨h1.stay hk1, true, y, D.arm a, X, rfl, ⟨h0.mono (by omega), s, g, c, C, q2, h2.arm (by omega), by omega, h4⟩, rfl, ?_, fun e1 _ => ⟨rfl, q3 e1, (show D.used ≤ _ by omega), ?_⟩⟩
        · rcases q1 with ⟨rfl, rfl⟩ | ⟨rfl, _⟩
          · exact .inl ⟨rfl, (put_same h0.asc hl).symm⟩
          · exact .inr ⟨by decide, rfl⟩
        · unfold putE
          rw [if_neg (by simp), hl]
          simp only
          rcases q1 with ⟨rfl, rfl⟩ | ⟨rfl, q1⟩
          · rw [if_pos rfl]
          · rw [if_neg q1]
    | none =>
      refine (nput_new h1 h2 (by omega) hi (by omega) hl).mono ?_
      rintro e w' ⟨hk1, C', D', ⟨rfl, q1, q2, q3, q4⟩ | ⟨rfl, q1, q2, q3, q4⟩ | ⟨rfl, q1, q2, q3⟩⟩
      · exact ⟨h1.stay hk1, false, 8, D', X, rfl, ⟨h0.mono (by omega), c, q2, q3.mono (by omega)⟩, q4, .inr ⟨by decide, rfl⟩, fun e1 => absurd e1 q1⟩
      · have := q3.seg
        exact ⟨h1.stay hk1, true, 7, D', X, rfl, ⟨h0.mono (by omega), s, g, c, C', q1, q2, by omega, h4⟩, q3.room, .inr ⟨by decide, rfl⟩, fun _ e2 => by omega⟩
      · have := q3.seg
        have := q3.used
        refine ⟨h1.stay hk1, true, 0, D', _, rfl, ⟨(h0.put hi hd).mono (by omega), s, g, c, C', q1, q2, by omega, h4⟩, q3.room, .inl ⟨rfl, rfl⟩, fun e1 _ => ⟨rfl, q3.luck e1, by omega, ?_⟩⟩
        unfold putE
        rw [if_neg (by simp), hl]
set_option maxHeartbeats 400000 in
theorem NdS.drop (h : NdS u w0 w n b m k D X) (hk : k < 97) {i : Nat} (hi : i < 18446744073709551616) :
    Calls Tryz.prog 34 #[.pointer (some ⟨n, 0, none⟩), .int .u64 (i : Int)] w fun e w' => Stay w w' ∧ ∃ u' y D' X', e = .returned (.int .i64 y) ∧ NdS u' w0 w' n b m (k + 3) D' X' ∧ D'.room = D.room ∧
      (X' = X ∨ X' = dropX i X) ∧ (D.armed = 0 → D.used + 10050 ≤ D.room → u' = u ∧ D'.armed = 0 ∧ D'.used ≤ D.used + 10050 ∧ y = dropE u X i ∧ (y = 0 → X' = dropX i X) ∧ (y ≠ 0 → X' = X)) := by
  obtain ⟨h0, h⟩ := h
  cases u with
  | false =>
    obtain ⟨c, h1, h2⟩ := h
    refine (ndrop_off h1.off (i : Int)).mono ?_
    rintro e w' ⟨rfl, rfl⟩
    exact ⟨Stay.refl _, false, 9, D, X, rfl, ⟨h0.mono (by omega), c, h1, h2.mono (by omega)⟩, rfl, .inl rfl, fun h1 _ => ⟨rfl, h1, by omega, rfl, fun e => absurd e (by decide), fun _ => rfl⟩⟩
  | true =>
    obtain ⟨s, g, c, C, h1, h2, h3, h4⟩ := h
    have hlen := h0.len
    cases hl : lookX i X with
    | none =>
      refine (ndrop_none h1 h2 (by omega) hi hl).mono ?_
      rintro e w' ⟨rfl, q1, q2⟩
      exact ⟨h1.stay q2, true, 5, D, X, rfl, ⟨h0.mono (by omega), s, g, c, C, q1, h2, by omega, h4⟩, rfl, .inl rfl, fun e1 _ => ⟨rfl, e1, by omega, by unfold dropE; rw [hl]; rfl, fun e => absurd e (by decide), fun _ => rfl⟩⟩
    | some d0 =>
      have hE : dropE true X i = 0 := by unfold dropE; rw [hl]; rfl
      have hu0 := h2.sure.here.good.ok.nonneg
      refine (ndrop_there h1 h2 (by omega) hi (by rw [hl]; rfl) h0.fit (by omega) h4).mono ?_
      rintro e w' ⟨hk1, g', c', C', D', X', hc', ⟨rfl, q1, q2, q3, q4, q5⟩ | ⟨rfl, q1, q2, q3, q4⟩ | ⟨rfl, q1, q2, q3, q4, q5, q6, C2, D2, r1, r2, r3⟩⟩
      · refine ⟨h1.stay hk1, false, 8, D', X', rfl, ⟨?_, c', q2, q3.mono (by omega)⟩, q5, q4, fun e1 => absurd e1 q1⟩
        rcases q4 with rfl | rfl
        · exact h0.mono (by omega)
        · exact (h0.drop i).mono (by omega)
      · have := q3.seg
        exact ⟨h1.stay hk1, true, 7, D', X, rfl, ⟨h0.mono (by omega), s, g', c', C', q1, q2, by omega, hc'⟩, q3.room, .inl rfl, fun _ e2 => by omega⟩
      · refine ⟨h1.stay hk1, true, 0, D', _, rfl, ⟨(h0.drop i).mono (by omega), s, g', c', C', q1, q2, by omega, hc'⟩, q5, .inr rfl, fun e1 e2 => ⟨rfl, q6 e1, ?_, hE.symm, fun _ => rfl, fun e => absurd rfl e⟩⟩
        have hg := r2.used
        rcases r3 with ⟨_, _, rfl⟩ | ⟨_, _, rfl⟩
        · omega
        · have hle := exact_le (h0.drop i).fit (h0.drop i).data (by have := (h0.drop i).len; omega)
          have hl2 := (h0.drop i).len
          have hrm := r2.room
          have hsg := r2.seg
          obtain ⟨_, _, _, p4⟩ := r1.compact_ok (r2.luck e1) (h0.drop i).fit (by omega) (by omega) (by omega)
          rw [p4]
          omega

end Go.Proofs.YtkplffkchanipaaGreatDoor
/- New, Stop, Start, Get, Has, Sure of a node with its chunks. -/
namespace Go.Proofs.YtkplffkchanipaaGreatDoor
open Go.RowKit
variable {w w' w0 : World} {n s b m g c k : Nat} {C C' : Ck} {D D' : Dk} {X : List (Nat × List UInt8)} {u : Bool}

theorem start_cold {room : Int} (h0 : 0 ≤ room) (h1 : room ≤ 274877906944) : Cold ⟨room, 0, false, 0, []⟩ [] 1 :=
  ⟨⟨(start_still h0 h1).good, start_names room, rfl⟩, fun _ => rfl, fun i hi => (by rw [start_segs] at hi; cases hi), start_replay room 100⟩
theorem NdS.new (hk : Keep [] w0 w) (hT : Tab w) (room : Int) (h0 : 0 ≤ room) (h1 : room ≤ 274877906944) :
    Calls Tryz.prog 30 #[.int .i64 room] w fun e w' => ∃ n b m, e = .returned (.pointer (some ⟨n, 0, none⟩)) ∧ NdS true w0 w' n b m 2 ⟨room, 0, false, 0, []⟩ [] ∧ Keep [] w w' := by
  refine (nnew_calls hk hT room h0 h1).mono ?_
  rintro e w' ⟨n, s, b, m, g, rfl, a1, a2⟩
  obtain ⟨_, _, q1, q2, _⟩ := (start_cold h0 h1).opens (by decide) (by decide)
  exact ⟨n, b, m, rfl, ⟨⟨fun _ h => (by cases h), fun _ h => (by cases h), by simp, List.Pairwise.nil⟩, s, g, 0, _, a1, q1, Nat.succ_le_succ q2, by decide⟩, a2⟩
theorem NdS.stop (h : NdS u w0 w n b m k D X) (hk : k < 97) (v : Value) (ch : List Int) (hb : ∀ x ∈ ch, -9223372036854775808 ≤ x ∧ x ≤ 9223372036854775807) (hv : ∀ W, Stay w W → Keep [] w0 W → IntsAt W v ch) :
    Calls Tryz.prog 38 #[.pointer (some ⟨n, 0, none⟩), v] w fun e w' => Stay w w' ∧ e = .returned (.int .i64 (if u = true then 0 else 9)) ∧ NdS false w0 w' n b m (k + 3) D X := by
  obtain ⟨h0, h⟩ := h
  cases u with
  | false =>
    obtain ⟨c, h1, h2⟩ := h
    refine (nstop_down h1 v).mono ?_
    rintro e w' ⟨rfl, rfl⟩
    exact ⟨Stay.refl _, rfl, h0.mono (by omega), c, h1, h2.mono (by omega)⟩
  | true =>
    obtain ⟨s, g, c, C, h1, h2, h3, h4⟩ := h
    have hH := h2.sure.here
    obtain ⟨e1, e2⟩ := h2.crash (by omega) ch
    have T := nstop_up h1 hH.good hH.names v ch hb (fun W hW => hv W (h1.stay (hW.mono (by simp))) (h1.keep.trans' hW fun x hx => h1.sub x (by simp at hx ⊢; rcases hx with hx | hx | hx <;> simp [hx])))
    rw [e1] at T
    refine T.mono ?_
    rintro e w' ⟨rfl, q1, q2⟩
    exact ⟨h1.stay (q2.mono (by simp)), rfl, h0.mono (by omega), c, q1, e2.mono (by omega)⟩
theorem NdS.start (h : NdS u w0 w n b m k D X) (h1k : 1 ≤ k) (hk : k < 97) :
    Calls Tryz.prog 39 #[.pointer (some ⟨n, 0, none⟩)] w fun e w' => Stay w w' ∧ e = .returned (.int .i64 (if u = true then 6 else 0)) ∧ ∃ D', NdS true w0 w' n b m (k + 3) D' X ∧ D'.room = D.room ∧ D'.used = D.used ∧ (D.armed = 0 → D'.armed = 0) ∧ (u = false → D'.armed = 0) := by
  obtain ⟨h0, h⟩ := h
  cases u with
  | false =>
    obtain ⟨c, h1, h2⟩ := h
    refine (nstart_down h1 h2 h1k (by omega)).mono ?_
    rintro e w' ⟨s, g, rfl, q1, q2⟩
    obtain ⟨_, _, p1, p2, _⟩ := h2.opens h1k (by omega)
    exact ⟨h1.stay q2, rfl, D.arm 0, ⟨h0.mono (by omega), s, g, 0, _, q1, p1, by omega, by decide⟩, rfl, rfl, fun _ => rfl, fun _ => rfl⟩
  | true =>
    obtain ⟨s, g, c, C, h1, h2, h3, h4⟩ := h
    have T := nstart_up h1
    rw [h2.lost, if_neg (by simp)] at T
    refine T.mono ?_
    rintro e w' ⟨rfl, rfl⟩
    exact ⟨Stay.refl _, rfl, D, ⟨h0.mono (by omega), s, g, c, C, h1, h2, by omega, h4⟩, rfl, rfl, id, fun e => by cases e⟩
/-- Sure, of a chunk that is there. -/
theorem NdS.sure (h : NdS u w0 w n b m k D X) (h1k : 1 ≤ k) (hk : k < 97) (ha : D.armed = 0) {i : Nat} {d : List UInt8} (hi : lookX i X = some d) :
    Calls Tryz.prog 40 #[.pointer (some ⟨n, 0, none⟩), .int .u64 (i : Int), .int .i64 (d.length : Int), .int .u32 (crc d)] w fun e w' => Stay w w' ∧ e = .returned (.bool true) ∧ NdS u w0 w' n b m k D X := by
  obtain ⟨h0, h⟩ := h
  have hd : d.length ≤ 4611686018427387904 := Nat.le_trans (h0.data _ (look_memX hi)) (by decide)
  cases u with
  | false =>
    obtain ⟨c, h1, h2⟩ := h
    refine (nsure_down h1 h2 h1k (by omega) ha hi hd).mono ?_
    rintro e w' ⟨rfl, q1, q2⟩
    exact ⟨h1.stay q2, rfl, h0, c, q1, h2⟩
  | true =>
    obtain ⟨s, g, c, C, h1, h2, h3, h4⟩ := h
    refine (nsure_up h1 h2 ha hi hd).mono ?_
    rintro e w' ⟨rfl, q1, q2⟩
    exact ⟨h1.stay q2, rfl, h0, s, g, c, C, q1, h2, h3, h4⟩
/-- What Get answers where no call fails. -/
def getE (u : Bool) (X : List (Nat × List UInt8)) (i : Nat) : List UInt8 × Int := if u = false then ([], 9) else match lookX i X with
  | none => ([], 5)
  | some d => (d, 0)
theorem NdS.get (h : NdS u w0 w n b m k D X) (ha : D.armed = 0) (i : Nat) :
    Calls Tryz.prog 33 #[.pointer (some ⟨n, 0, none⟩), .int .u64 (i : Int)] w fun e w' => Stay w w' ∧ e = .returned (.tuple #[.string (bs (getE u X i).1), .int .i64 (getE u X i).2]) ∧ NdS u w0 w' n b m k D X := by
  obtain ⟨h0, h⟩ := h
  cases u with
  | false =>
    obtain ⟨c, h1, h2⟩ := h
    refine (nget_off h1.off (i : Int)).mono ?_
    rintro e w' ⟨rfl, rfl⟩
    exact ⟨Stay.refl _, rfl, h0, c, h1, h2⟩
  | true =>
    obtain ⟨s, g, c, C, h1, h2, h3, h4⟩ := h
    unfold getE
    rw [if_neg (by simp)]
    cases hl : lookX i X with
    | none =>
      refine (nget_none h1 h2 hl).mono ?_
      rintro e w' ⟨rfl, q1, q2⟩
      exact ⟨h1.stay q1, rfl, h0, s, g, c, C, q2, h2, h3, h4⟩
    | some d =>
      refine (nget_calm h1 h2 ha hl).mono ?_
      rintro e w' ⟨rfl, q1, q2⟩
      exact ⟨h1.stay q2, rfl, h0, s, g, c, C, q1, h2, h3, h4⟩
theorem NdS.has (h : NdS u w0 w n b m k D X) (i : Nat) :
    Calls Tryz.prog 35 #[.pointer (some ⟨n, 0, none⟩), .int .u64 (i : Int)] w fun e w' => Stay w w' ∧ e = .returned (.bool (u && (lookX i X).isSome)) ∧ NdS u w0 w' n b m k D X := by
  obtain ⟨h0, h⟩ := h
  cases u with
  | false =>
    obtain ⟨c, h1, h2⟩ := h
    refine (nhas_off h1.off (i : Int)).mono ?_
    rintro e w' ⟨rfl, rfl⟩
    exact ⟨Stay.refl _, rfl, h0, c, h1, h2⟩
  | true =>
    obtain ⟨s, g, c, C, h1, h2, h3, h4⟩ := h
    refine (nhas_calls h1 h2 i).mono ?_
    rintro e w' ⟨rfl, q1, q2⟩
    exact ⟨Stay.keep q2, by rw [Bool.true_and], h0, s, g, c, C, q1, h2, h3, h4⟩
/-- IDs of a node that is up. -/
theorem NdS.ids (h : NdS true w0 w n b m k D X) (hk : k < 1000) :
    Calls Tryz.prog 36 #[.pointer (some ⟨n, 0, none⟩)] w fun e w' => ∃ v, e = .returned v ∧ NumsAt w' v (X.map fun p => (p.1 : Int)) ∧ NdS true w0 w' n b m k D X ∧ Keep [] w w' := by
  obtain ⟨h0, s, g, c, C, h1, h2, h3, h4⟩ := h
  refine (nids_calls h1 h2 (by have := h0.len; omega)).mono ?_
  rintro e w' ⟨v, rfl, q0, q1, q2⟩
  exact ⟨v, rfl, q0, ⟨h0, s, g, c, C, q1, h2, h3, h4⟩, q2⟩
theorem NdS.ids_down (h : NdS false w0 w n b m k D X) :
    Calls Tryz.prog 36 #[.pointer (some ⟨n, 0, none⟩)] w fun e w' => e = .returned (.slice none 0 0) ∧ w = w' := by
  obtain ⟨h0, c, h1, h2⟩ := h
  exact nids_off h1.off

end Go.Proofs.YtkplffkchanipaaGreatDoor
/- The contract of glacierlaw19.awake. -/
namespace Go.Proofs.YtkplffkchanipaaGreatDoor
open Go.RowKit
attribute [local go_sem] size_bs bs_append ba_self
variable {w w' w0 : World} {n s b m g c k : Nat} {C C' : Ck} {D D' : Dk} {X : List (Nat × List UInt8)} {u : Bool}

/-- Put, where no call fails and there is room. -/
theorem NdS.put_ok (h : NdS u w0 w n b m k D X) (hk : k < 97) (ha : D.armed = 0) (hr : D.used + 90 ≤ D.room) {i : Nat} (hi : i < 18446744073709551616) {d : List UInt8} (hd : d.length ≤ 40) :
    Calls Tryz.prog 32 #[.pointer (some ⟨n, 0, none⟩), .int .u64 (i : Int), .string (bs d)] w fun e w' => Stay w w' ∧ e = .returned (.int .i64 (putE u X i d)) ∧ ∃ D', NdS u w0 w' n b m (k + 3) D' (if putE u X i d = 0 then putX (i, d) X else X) ∧ D'.room = D.room ∧ D'.armed = 0 ∧ D'.used ≤ D.used + 90 := by
  refine (h.put hk hi hd).mono ?_
  rintro e w' ⟨h1, u', y, D', X', rfl, h2, h3, h4, h5⟩
  obtain ⟨rfl, h6, h7, rfl⟩ := h5 ha hr
  refine ⟨h1, rfl, D', ?_, h3, h6, h7⟩
  rcases h4 with ⟨h8, rfl⟩ | ⟨h8, rfl⟩
  · rw [if_pos h8]; exact h2
  · rw [if_neg h8]; exact h2
/-- Drop, where no call fails and there is room. -/
theorem NdS.drop_ok (h : NdS u w0 w n b m k D X) (hk : k < 97) (ha : D.armed = 0) (hr : D.used + 10050 ≤ D.room) {i : Nat} (hi : i < 18446744073709551616) :
    Calls Tryz.prog 34 #[.pointer (some ⟨n, 0, none⟩), .int .u64 (i : Int)] w fun e w' => Stay w w' ∧ e = .returned (.int .i64 (dropE u X i)) ∧ ∃ D', NdS u w0 w' n b m (k + 3) D' (if dropE u X i = 0 then dropX i X else X) ∧ D'.room = D.room ∧ D'.armed = 0 ∧ D'.used ≤ D.used + 10050 := by
  refine (h.drop hk hi).mono ?_
  rintro e w' ⟨h1, u', y, D', X', rfl, h2, h3, h4, h5⟩
  obtain ⟨rfl, h6, h7, rfl, h8, h9⟩ := h5 ha hr
  refine ⟨h1, rfl, D', ?_, h3, h6, h7⟩
  by_cases h0 : dropE u' X i = 0
  · rw [if_pos h0, ← h8 h0]; exact h2
  · rw [if_neg h0]
    have := h9 h0
    rw [this] at h2
    exact h2

set_option maxRecDepth 100000 in
set_option maxHeartbeats 1600000 in
theorem nawake_calls (w : World) (hT : Tab w) : Calls Tryz.prog 31 #[] w fun e w' => e = .returned (.bool true) ∧ Keep [] w w' := by
  have TN := NdS.new (Keep.refl [] w) hT 1000 (by decide) (by decide)
  have TP1 : ∀ (W : World) (n b m : Nat), NdS true w W n b m 2 ⟨1000, 0, false, 0, []⟩ [] → Calls Tryz.prog 32 #[.pointer (some ⟨n, 0, none⟩), .int .u64 7, .string { data := #[97] }] W fun e w' => e = .returned (.int .i64 0) ∧ ∃ D', NdS true w w' n b m 5 D' [(7, [97])] ∧ D'.armed = 0 ∧ D'.room = 1000 ∧ D'.used ≤ 90 := fun W n b m h => by
    refine (h.put_ok (by decide) rfl (by decide) (i := 7) (by decide) (d := [97]) (by decide)).mono ?_
    rintro e w' ⟨_, rfl, D', h1, h2, h3, h4⟩
    exact ⟨rfl, D', h1, h3, h2, h4⟩
  have TP2 : ∀ (W : World) (n b m : Nat) (D : Dk), NdS true w W n b m 5 D [(7, [97])] → D.armed = 0 → D.room = 1000 → D.used ≤ 90 → Calls Tryz.prog 32 #[.pointer (some ⟨n, 0, none⟩), .int .u64 7, .string { data := #[97] }] W fun e w' => e = .returned (.int .i64 0) ∧ ∃ D', NdS true w w' n b m 8 D' [(7, [97])] ∧ D'.armed = 0 ∧ D'.room = 1000 ∧ D'.used ≤ 180 := fun W n b m D h h1 h2 h3 => by
    refine (h.put_ok (by decide) h1 (by omega) (i := 7) (by decide) (d := [97]) (by decide)).mono ?_
    rintro e w' ⟨_, rfl, D', h4, h5, h6, h7⟩
    exact ⟨rfl, D', h4, h6, h5.trans h2, by omega⟩
  have TP3 : ∀ (W : World) (n b m : Nat) (D : Dk), NdS true w W n b m 8 D [(7, [97])] → D.armed = 0 → D.room = 1000 → D.used ≤ 180 → Calls Tryz.prog 32 #[.pointer (some ⟨n, 0, none⟩), .int .u64 7, .string { data := #[98] }] W fun e w' => e = .returned (.int .i64 6) ∧ ∃ D', NdS true w w' n b m 11 D' [(7, [97])] := fun W n b m D h h1 h2 h3 => by
    refine (h.put_ok (by decide) h1 (by omega) (i := 7) (by decide) (d := [98]) (by decide)).mono ?_
    rintro e w' ⟨_, rfl, D', h4, h5, h6, h7⟩
    exact ⟨rfl, D', h4⟩
  have TS : ∀ (W : World) (n b m : Nat) (D : Dk), NdS true w W n b m 11 D [(7, [97])] → Calls Tryz.prog 38 #[.pointer (some ⟨n, 0, none⟩), .slice none 0 0] W fun e w' => e = .returned (.int .i64 0) ∧ NdS false w w' n b m 14 D [(7, [97])] := fun W n b m D h => by
    refine (h.stop (by decide) (.slice none 0 0) [] (by simp) (fun V _ _ => ints_nil V)).mono ?_
    rintro e w' ⟨_, rfl, h1⟩
    exact ⟨rfl, h1⟩
  have TA : ∀ (W : World) (n b m : Nat) (D : Dk), NdS false w W n b m 14 D [(7, [97])] → Calls Tryz.prog 39 #[.pointer (some ⟨n, 0, none⟩)] W fun e w' => e = .returned (.int .i64 0) ∧ ∃ D', NdS true w w' n b m 17 D' [(7, [97])] ∧ D'.armed = 0 := fun W n b m D h => by
    refine (h.start (by decide) (by decide)).mono ?_
    rintro e w' ⟨_, rfl, D', h1, _, _, _, h2⟩
    exact ⟨rfl, D', h1, h2 rfl⟩
  have TG : ∀ (W : World) (n b m : Nat) (D : Dk), NdS true w W n b m 17 D [(7, [97])] → D.armed = 0 → Calls Tryz.prog 33 #[.pointer (some ⟨n, 0, none⟩), .int .u64 7] W fun e w' => e = .returned (.tuple #[.string { data := #[97] }, .int .i64 0]) ∧ NdS true w w' n b m 17 D [(7, [97])] := fun W n b m D h h1 => by
    refine (h.get h1 7).mono ?_
    rintro e w' ⟨_, rfl, h2⟩
    exact ⟨rfl, h2⟩
  have HTN := Lib.hid TN
  have HTP1 := Lib.hid TP1
  have HTP2 := Lib.hid TP2
  have HTP3 := Lib.hid TP3
  have HTS := Lib.hid TS
  have HTA := Lib.hid TA
  have HTG := Lib.hid TG
  clear TN TP1 TP2 TP3 TS TA TG hT
  go_enter Tryz.func31, Tryz.ntmps31
  go_wp2_with (first
    | (go_at_call 30; refine HTN.out.mono ?_; rintro e w1 ⟨n, b, m, rfl, h, hk⟩; have z0 := h.c0; have H1 := Lib.hid h; clear h hk)
    | (go_at_call 32; (with_reducible refine (HTP1.out _ _ _ _ H1.out).mono ?_); rintro e w2 ⟨rfl, D2, h, a2, r2, u2⟩; have H2 := Lib.hid h; clear h)
    | (go_at_call 32; (with_reducible refine (HTP2.out _ _ _ _ _ H2.out a2 r2 u2).mono ?_); rintro e w3 ⟨rfl, D3, h, a3, r3, u3⟩; have H3 := Lib.hid h; clear h)
    | (go_at_call 32; (with_reducible refine (HTP3.out _ _ _ _ _ H3.out a3 r3 u3).mono ?_); rintro e w4 ⟨rfl, D4, h⟩; have H4 := Lib.hid h; clear h)
    | (go_at_call 38; refine (HTS.out _ _ _ _ _ H4.out).mono ?_; rintro e w5 ⟨rfl, h⟩; have H5 := Lib.hid h; clear h)
    | (go_at_call 39; refine (HTA.out _ _ _ _ _ H5.out).mono ?_; rintro e w6 ⟨rfl, D6, h, a6⟩; have H6 := Lib.hid h; clear h)
    | (go_at_call 33; refine (HTG.out _ _ _ _ _ H6.out a6).mono ?_; rintro e w7 ⟨rfl, h⟩; have H7 := Lib.hid h; clear h)
    | (go_at_call 43; refine H7.out.up.mono ?_; rintro e w8 ⟨rfl, rfl⟩))
  go_ret
  exact ⟨rfl, H7.out.keep⟩

end Go.Proofs.YtkplffkchanipaaGreatDoor
/- What a walk of NodeKept carries: the node, and the chunks that must be there. -/
namespace Go.Proofs.YtkplffkchanipaaGreatDoor
open Go.RowKit
variable {w w' w0 : World} {n s b m g c k k' kx kx' : Nat} {C C' : Ck} {D D' : Dk} {X X' lx : List (Nat × List UInt8)} {u u' : Bool} {vx : Value} {room : Int}

/-- Each chunk of one list is in the other. -/
def Sub (l X : List (Nat × List UInt8)) : Prop := ∀ p ∈ l, lookX p.1 X = some p.2
theorem Sub.put {i : Nat} {d : List UInt8} {l : List (Nat × List UInt8)} (h : Sub l X) : Sub (putX (i, d) l) (putX (i, d) X) := fun p hp => by
  rw [look_putX]
  unfold putX at hp
  rcases ins_mem.1 hp with rfl | hp
  · rw [if_pos rfl]
  · have h2 := drop_mem.1 hp
    rw [if_neg h2.2]
    exact h p h2.1
theorem Sub.drop {i : Nat} {l : List (Nat × List UInt8)} (h : Sub l X) (hX : X' = X ∨ X' = dropX i X) : Sub (dropX i l) X' := fun p hp => by
  have h2 := drop_mem.1 hp
  rcases hX with rfl | rfl
  · exact h p h2.1
  · rw [look_dropX, if_neg h2.2]
    exact h p h2.1
structure KSt (w0 w : World) (n b m k : Nat) (room : Int) (u : Bool) (D : Dk) (X : List (Nat × List UInt8)) (vx : Value) (lx : List (Nat × List UInt8)) (kx : Nat) : Prop where
  nd : NdS u w0 w n b m k D X
  room : D.room = room
  own : OwnX w w0.heap.size vx lx
  sub : Sub lx X
  len : lx.length ≤ kx
theorem KSt.grow (h : KSt w0 w n b m k room u D X vx lx kx) (hk : Keep [] w w') : KSt w0 w' n b m k room u D X vx lx kx := ⟨h.nd.grow hk, h.room, h.own.keep2 hk (by simp), h.sub, h.len⟩
theorem KSt.next (h : KSt w0 w n b m k room u D X vx lx kx) (hst : Stay w w') (hn : NdS u' w0 w' n b m k' D' X') (hr : D'.room = D.room) (hs : Sub lx X') (hk : kx ≤ kx') : KSt w0 w' n b m k' room u' D' X' vx lx kx' :=
  ⟨hn, hr.trans h.room, hst.own _ _ _ h.own, hs, Nat.le_trans h.len hk⟩
theorem KSt.mono (h : KSt w0 w n b m k room u D X vx lx kx) (hk : k ≤ k') (hx : kx ≤ kx') : KSt w0 w n b m k' room u D X vx lx kx' := ⟨h.nd.mono hk, h.room, h.own, h.sub, Nat.le_trans h.len hx⟩
theorem NdS.stop_any (h : NdS u w0 w n b m k D X) (hk : k < 97) (v : Value) (ch : List Int) (hb : ∀ x ∈ ch, -9223372036854775808 ≤ x ∧ x ≤ 9223372036854775807) (hv : ∀ W, Stay w W → Keep [] w0 W → IntsAt W v ch) :
    Calls Tryz.prog 38 #[.pointer (some ⟨n, 0, none⟩), v] w fun e w' => ∃ y : Int, e = .returned (.int .i64 y) ∧ Stay w w' ∧ NdS false w0 w' n b m (k + 3) D X := by
  refine (h.stop hk v ch hb hv).mono ?_
  rintro e w' ⟨h1, h2, h3⟩
  exact ⟨_, h2, h1, h3⟩
theorem NdS.start_any (h : NdS u w0 w n b m k D X) (h1k : 1 ≤ k) (hk : k < 97) :
    Calls Tryz.prog 39 #[.pointer (some ⟨n, 0, none⟩)] w fun e w' => ∃ y : Int, e = .returned (.int .i64 y) ∧ Stay w w' ∧ ∃ D', NdS true w0 w' n b m (k + 3) D' X ∧ D'.room = D.room := by
  refine (h.start h1k hk).mono ?_
  rintro e w' ⟨h1, h2, D', h3, h4, _⟩
  exact ⟨_, h2, h1, D', h3, h4⟩
theorem NdS.start_down (h : NdS false w0 w n b m k D X) (h1k : 1 ≤ k) (hk : k < 97) :
    Calls Tryz.prog 39 #[.pointer (some ⟨n, 0, none⟩)] w fun e w' => e = .returned (.int .i64 0) ∧ Stay w w' ∧ ∃ D', NdS true w0 w' n b m (k + 3) D' X ∧ D'.room = D.room ∧ D'.armed = 0 := by
  refine (h.start h1k hk).mono ?_
  rintro e w' ⟨h1, h2, D', h3, h4, _, _, h5⟩
  exact ⟨h2, h1, D', h3, h4, h5 rfl⟩
theorem NdS.get_there (h : NdS true w0 w n b m k D X) (ha : D.armed = 0) {i : Nat} {d : List UInt8} (hl : lookX i X = some d) :
    Calls Tryz.prog 33 #[.pointer (some ⟨n, 0, none⟩), .int .u64 (i : Int)] w fun e w' => Stay w w' ∧ e = .returned (.tuple #[.string (bs d), .int .i64 0]) ∧ NdS true w0 w' n b m k D X := by
  have T := h.get ha i
  have e : getE true X i = (d, 0) := by
    unfold getE
    rw [if_neg (by simp), hl]
  rw [e] at T
  exact T

end Go.Proofs.YtkplffkchanipaaGreatDoor
