/- The contracts of (*wire.Enc).I, S, Bytes. -/
import Derived.Test.YtpnoiagjgkajdaaGreatDoorEnc
namespace Go.Proofs.YtpnoiagjgkajdaaGreatDoor
open Go.RowKit
attribute [local go_sem] size_bs bs_append

theorem EncAt.alloc {w : World} {b : Nat} {v : Value} {L : List UInt8} (h : EncAt w b v L) (o : Obj) : EncAt (w.alloc o) b v L := ⟨h.blk.alloc _, h.own.alloc _⟩
theorem EncAt.fresh (w : World) : EncAt (w.alloc (.cells #[.slice none 0 0] 230)) w.heap.size (.slice none 0 0) [] := ⟨Blk.new _ _ _, World.ownsRow_nil _ _ _ _⟩
def encIs (l : List Nat) : List UInt8 := l.flatMap encU
def ints (l : List Nat) : List Value := l.map fun (n : Nat) => Value.int .i64 (n : Int)

def IRel (l : List Nat) (L : List UInt8) (b : Nat) (v0 : Value) (w : World) (k_ : Value) (wr : World) : Prop :=
  ∃ (k : Nat) (v : Value), k ≤ l.length ∧ k_ = .int .i64 (k : Int) ∧ EncAt wr b v (L ++ encIs (l.take k)) ∧ EncTo b v0 v w wr
theorem encU_len (n : Nat) (h : n < 18446744073709551616) : (encU n).length ≤ 11 := by
  unfold encU
  have := encH_len 10 (n / 128) (by omega)
  simp only [List.length_append, List.length_cons, List.length_nil]
  omega
theorem encIs_len (l : List Nat) (h : ∀ n ∈ l, n < 18446744073709551616) : (encIs l).length ≤ 11 * l.length := by
  induction l with
  | nil => simp [encIs]
  | cons n l ih =>
    have h1 := encU_len n (h n (by simp))
    have h2 := ih (fun m hm => h m (by simp [hm]))
    simp only [encIs, List.flatMap_cons, List.length_append, List.length_cons] at h2 ⊢
    omega

set_option maxRecDepth 100000 in
set_option maxHeartbeats 1000000 in
theorem i_calls (l : List Nat) (hl : l.length ≤ 1000) (hx : ∀ n ∈ l, n ≤ 4611686018427387904) (L : List UInt8) (hL : L.length ≤ 549755813888) (b p : Nat) (v : Value) (w : World) (h : EncAt w b v L) (hp : Blk w p 3 (ints l).toArray) :
    Calls Tryz.prog 110 #[.pointer (some ⟨b, 0, none⟩), .slice (some ⟨p, 0, none⟩) l.length l.length] w fun e w' => e = .returned (.pointer (some ⟨b, 0, none⟩)) ∧ ∃ v', EncAt w' b v' (L ++ encIs l) ∧ EncTo b v v' w w' := by
  have hpb : p ≠ b := hp.ne_ h.blk (by decide)
  have hpv : v.ownBlock ≠ some p := own_blk_ne h.own hp (by decide)
  have H := Lib.hid h
  have HP := Lib.hid hp
  have HX := Lib.hid hx
  clear h hp hx
  go_enter Tryz.func110, Tryz.ntmps110
  go_wp2
  go_loopw [6, 9] (fun _ a wr => IRel l L b v w a wr) (fun _ a _ => l.length - (intOf a).toNat)
  case atStart => exact ⟨0, v, Nat.zero_le _, rfl, by simpa [encIs] using H.out, EncTo.refl _ _ _⟩
  case round =>
    obtain ⟨k, v1, hk, rfl, hE, hto⟩ := hrel
    have HE := Lib.hid hE
    have HTO := Lib.hid hto
    clear hE hto
    by_cases hlt : k < l.length
    · have hc : wr.cell? ⟨p, k, none⟩ = some (.int .i64 (l[k] : Int)) := by
        have hkk := (HP.out.keep HTO.out.keep (by simp [hpb]; exact fun e => hpv e)).cell k
        rw [hkk]
        simp [ints, hlt]
      have hxk : l[k] ≤ 4611686018427387904 := HX.out _ (List.getElem_mem hlt)
      have hsn : l.take (k + 1) = l.take k ++ [l[k]] := by rw [List.take_succ_eq_append_getElem hlt]
      have HSN := Lib.hid hsn
      have hlen : (L ++ encIs (l.take k)).length ≤ 1099511627776 := by
        have h1 := encIs_len (l.take k) (fun n hn => by have := HX.out n (List.mem_of_mem_take hn); omega)
        rw [List.length_append]
        simp only [List.length_take] at h1
        omega
      clear hsn
      generalize l[k] = x at *
      go_wp2_with (go_at_call 112; refine (u_calls x (by omega) (L ++ encIs (l.take k)) hlen b _ v1 _ (HE.out.alloc _) (Blk.new _ _ _)).mono ?_; rintro e w1 ⟨rfl, v2, hE2, hto2⟩; have HE2 := Lib.hid hE2; have HTO2 := Lib.hid hto2; clear hE2 hto2)
      go_roundw
      case rel =>
        refine ⟨k + 1, v2, by omega, by go_num, ?_, HTO.out.trans ((EncTo.of_keep v1 ((Keep.refl _ _).alloc _)).trans HTO2.out)⟩
        have h1 := HE2.out
        rw [List.append_assoc] at h1
        rw [HSN.out]
        simpa [encIs] using h1
      case measure => simp [intOf]; omega
    · go_wp2
      go_ret
      refine ⟨rfl, v1, ?_, HTO.out⟩
      have h1 := HE.out
      rw [List.take_of_length_le (by omega)] at h1
      exact h1

theorem i1_calls (x : Nat) (hx : x ≤ 4611686018427387904) (L : List UInt8) (hL : L.length ≤ 549755813888) (b p : Nat) (v : Value) (w : World) (h : EncAt w b v L) (hp : Blk w p 3 #[.int .i64 (x : Int)]) :
    Calls Tryz.prog 110 #[.pointer (some ⟨b, 0, none⟩), .slice (some ⟨p, 0, none⟩) 1 1] w fun e w' => e = .returned (.pointer (some ⟨b, 0, none⟩)) ∧ ∃ v', EncAt w' b v' (L ++ encU x) ∧ EncTo b v v' w w' := by
  have h := i_calls [x] (by simp) (by simpa using hx) L hL b p v w h hp
  simpa [encIs] using h
theorem i2_calls (x y : Nat) (hx : x ≤ 4611686018427387904) (hy : y ≤ 4611686018427387904) (L : List UInt8) (hL : L.length ≤ 549755813888) (b p : Nat) (v : Value) (w : World) (h : EncAt w b v L) (hp : Blk w p 3 #[.int .i64 (x : Int), .int .i64 (y : Int)]) :
    Calls Tryz.prog 110 #[.pointer (some ⟨b, 0, none⟩), .slice (some ⟨p, 0, none⟩) 2 2] w fun e w' => e = .returned (.pointer (some ⟨b, 0, none⟩)) ∧ ∃ v', EncAt w' b v' (L ++ (encU x ++ encU y)) ∧ EncTo b v v' w w' := by
  have h := i_calls [x, y] (by simp) (by simpa using ⟨hx, hy⟩) L hL b p v w h hp
  simpa [encIs] using h

/-- append of a string's bytes, and where the new bytes lie. -/
theorem append_str_at {P : Program} (w : World) (t u ty e : TypeId) (i : TypeInfo) (ht : P.underlying t = some (.slice e)) (hu : P.underlying u = some .string) (hi : P.info? e = some i) (hz : i.zero = some (.int .u8 0))
    (hsize : i.size = 1) (hby : i.bytes = 1) (v : Value) (n : Nat) (xs : List Value) (hown : w.ownsRow 0 e 1 v n xs) (s : ByteArray) (hbytes : n + s.size ≤ 140737488355328) :
    ∃ v' w', (Builtin.append_ #[t, u] ty #[v, .string s]).run P w = .ok v' w' ∧ w'.ownsRow 0 e 1 v' (n + s.size) (xs ++ Lib.strCells s) ∧ w.grownBy w' v.ownBlock ∧ (∀ k, v'.ownBlock = some k → v.ownBlock = some k ∨ w.heap.size ≤ k) := by
  obtain ⟨v', w', hr, h1, h2, _⟩ := Lib.run_append_own_string (P := P) w 0 t u ty e i ht hu hi hz hsize hby v n xs hown s (by unfold maxLen; omega) hbytes (Nat.zero_le _)
  refine ⟨v', w', hr, h1, h2, fun k hk => ?_⟩
  rcases hown.2 with ⟨rfl, rfl⟩ | ⟨g, cap, cur, rfl, hbg, hg, hnc, hcm, hcs, htake⟩
  · have hx : xs = [] := List.eq_nil_of_length_eq_zero (by simpa using hown.1)
    subst hx
    obtain ⟨v2, w2, hr2, h12, _, _⟩ := Lib.run_append_own_string (P := P) w w.heap.size t u ty e i ht hu hi hz hsize hby (.slice none 0 0) 0 [] (World.ownsRow_nil _ _ _ _) s (by unfold maxLen; omega) hbytes (Nat.le_refl _)
    rw [hr] at hr2
    injection hr2 with e1 e2
    subst e1 e2
    exact .inr (h12.lt k hk).1
  · by_cases hroom : n + s.size ≤ cap
    · have hcs' : cur.size = cap := by simpa using hcs
      have hr2 := Lib.run_append_room_string (P := P) w t u ty e i ht hu hi hsize g n cap cur hg s hroom (by omega)
      rw [hr] at hr2
      injection hr2 with e1 e2
      subst e1
      exact .inl hk
    · have hxl : xs.length = n := by simpa using hown.1
      have hr2 := Lib.run_append_grow_string (P := P) w t u ty e i (.int .u8 0) ht hu hi hz ⟨g, 0, none⟩ n cap xs (by rw [hsize]; simpa using hxl) (hown.cells (g := g) rfl) s (by omega) (by omega) (by rw [hby]; exact growslice_fits (by omega) (by omega))
      rw [hr] at hr2
      injection hr2 with e1 e2
      subst e1
      simp only [Value.ownBlock, Option.some.injEq] at hk
      right; omega

theorem list_append_str {ops : Array Oper} {rest : List Oper} {o : Oper} {a : Act} {Q : Exit → Act → World → Prop} {wr : World} {b : Nat} {v : Value} {L t : List UInt8}
    (hgd : o.guard = none) (s x : Operand) (ho : o.op = .call { callee := .builtin .append, args := #[s, x], argTypes := #[228, 9] })
    (hs : a.eval s = v) (hx : a.eval x = .string (bs t)) (hE : EncAt wr b v L) (hn : (Lib.byteCells L).length + t.length ≤ 140737488355328)
    (h : ∀ A n c w', w'.cell? ⟨b, 0, none⟩ = some v → w'.frozen? ⟨b, 0, none⟩ = false → EncAt (w'.setCell ⟨b, 0, none⟩ (.slice A n c)) b (.slice A n c) (L ++ t) → EncTo b v (.slice A n c) wr (w'.setCell ⟨b, 0, none⟩ (.slice A n c)) → wpList Tryz.prog ops Q rest (a.put o.dst (.slice A n c)) w') :
    wpList Tryz.prog ops Q (o :: rest) a wr := by
  obtain ⟨i0, hi, hz0, hz1, hz2⟩ := info_parts Tryz.info5
  have hlt := hE.blk.lt
  have hne := hE.ne_
  refine wpList_plain hgd fun K hK => ?_
  obtain ⟨v', w', hr, h2, h3, h4⟩ := append_str_at (P := Tryz.prog) wr 228 9 o.type 5 i0 Tryz.underlying228 Tryz.underlying9 hi hz0 hz1 hz2 v _ _ hE.own (bs t) (by simpa using hn)
  unfold Oper.wp execOp
  simp only [ho, resolve, invoke, builtin, Sem.run_bind, Sem.run_pure, Result.andThen_ok, List.map_toArray, List.map_cons, List.map_nil, hs, hx, hr]
  have hB : Blk w' b 230 #[v] := hE.blk.grown h3 (fun e => hne e.symm)
  have hne' : ∀ k, v'.ownBlock = some k → k ≠ b := by
    rintro k hk rfl
    rcases h4 k hk with h5 | h5
    · exact hne h5
    · omega
  obtain ⟨A, n, c, rfl⟩ : ∃ A n c, v' = .slice A n c := by
    rcases h2.2 with ⟨rfl, _⟩ | ⟨g, cap, cur, rfl, _, _⟩
    · exact ⟨_, _, _, rfl⟩
    · exact ⟨_, _, _, rfl⟩
  refine hK _ _ (h A n c w' (hB.cell 0) (hB.frozen 0) ⟨hB.set_ 0 _, ?_⟩ ⟨?_, h4⟩)
  · have e1 : Lib.byteCells (L ++ t) = Lib.byteCells L ++ Lib.strCells (bs t) := by simp [Lib.byteCells, Lib.strCells, bs]
    have e2 : (Lib.byteCells (L ++ t)).length = (Lib.byteCells L).length + (bs t).size := by rw [e1]; simp [Lib.strCells_length]
    rw [e2, e1]
    exact ((Keep.refl [b] w').setCell (.inl (by simp)) _).owns h2 (fun k hk => by simpa using hne' k hk)
  · exact ((Keep.refl _ _).grown h3 (fun k hk => by simp [hk])).setCell (.inl (by simp)) _

def encS (s : List UInt8) : List UInt8 := encU s.length ++ s

set_option maxRecDepth 100000 in
set_option maxHeartbeats 1000000 in
theorem s_calls (s : List UInt8) (hs : s.length ≤ 549755813888) (L : List UInt8) (hL : L.length ≤ 274877906944) (b p : Nat) (v : Value) (w : World) (h : EncAt w b v L) (hp : Blk w p 9 #[.string (bs s)]) :
    Calls Tryz.prog 111 #[.pointer (some ⟨b, 0, none⟩), .slice (some ⟨p, 0, none⟩) 1 1] w fun e w' => e = .returned (.pointer (some ⟨b, 0, none⟩)) ∧ ∃ v', EncAt w' b v' (L ++ encS s) ∧ EncTo b v v' w w' := by
  have hc0 : w.cell? ⟨p, 0, none⟩ = some (.string (bs s)) := hp.cell 0
  have H := Lib.hid h
  clear h hp
  have hul := encU_len s.length (by omega)
  go_enter Tryz.func111, Tryz.ntmps111
  go_wp2
  refine wp_loop_rounds 2 ?_
  rw [rounds_succ]
  go_wp2_with (first
    | (go_at_call 110; refine (i1_calls s.length (by omega) L (by omega) b _ v _ (H.out.alloc _) (Blk.new _ _ _)).mono ?_; rintro e w2 ⟨rfl, v2, hE2, hto2⟩; have HE2 := Lib.hid hE2; have HTO2 := Lib.hid hto2; have hcb2 : w2.cell? ⟨b, 0, none⟩ = some v2 := hE2.blk.cell 0; clear hE2 hto2)
    | (at_builtin; refine list_append_str (v := v2) rfl (.tmp 22) (.tmp 23) rfl rfl rfl HE2.out (by rw [Lib.byteCells_length, List.length_append]; omega) ?_; intro A n c w3 hc3 hf3 hE3 hto3; have HE3 := Lib.hid hE3; have HTO3 := Lib.hid hto3; clear hE3 hto3))
  rw [rounds_succ]
  go_wp2
  go_ret
  refine ⟨rfl, .slice A n c, ?_, (EncTo.of_keep v ((Keep.refl _ _).alloc _)).trans (HTO2.out.trans HTO3.out)⟩
  have := HE3.out
  rw [List.append_assoc] at this
  exact this

set_option maxRecDepth 100000 in
set_option maxHeartbeats 400000 in
theorem bytes_calls (L : List UInt8) (b : Nat) (v : Value) (w : World) (h : EncAt w b v L) :
    Calls Tryz.prog 114 #[.pointer (some ⟨b, 0, none⟩)] w fun e w' => e = .returned (.string (bs L)) ∧ w = w' := by
  have hcb : w.cell? ⟨b, 0, none⟩ = some v := h.blk.cell 0
  have hcv : (convert 228 9 v).run Tryz.prog w = .ok (.string (bs L)) w := by
    rcases h.own.2 with ⟨rfl, hn⟩ | ⟨g, cap, cur, rfl, _, _⟩
    · have hL : L = [] := by
        rw [Lib.byteCells_length] at hn
        exact List.eq_nil_of_length_eq_zero hn
      subst hL
      exact run_convert_bytes_nil w 228 5 Tryz.underlying228 Tryz.underlying5 0 0 9 Tryz.underlying9
    · have hc := run_convert_bytes_arg w 228 5 Tryz.underlying228 Tryz.underlying5 g 0 (Lib.byteCells L).length cap (L.map fun (c : UInt8) => (c.toNat : Int)) (by simp [Lib.byteCells]) (fun i hi => by
        rw [Nat.zero_add, h.own.cellAt i (by simpa using hi)]
        rw [Lib.byteCells_length] at hi
        simp [Lib.byteCells, List.getElem?_eq_getElem hi, List.getD]) 9 Tryz.underlying9
      rw [hc]
      congr 2
      unfold strOfNums bs
      congr 2
      rw [List.map_map]
      conv => rhs; rw [← List.map_id L]
      apply List.map_congr_left
      intro c _
      simp
  clear h
  go_enter Tryz.func114, Tryz.ntmps114
  go_wp2
  go_ret
  exact ⟨rfl, rfl⟩

end Go.Proofs.YtpnoiagjgkajdaaGreatDoor
