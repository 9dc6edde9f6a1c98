/- The contract of glacierlaw09.Told. -/
import Derived.Test.YtnlcipocobmgiaaGreatDoorLast
namespace Go.Proofs.YtnlcipocobmgiaaGreatDoor
open Go.RowKit
attribute [local go_sem] size_bs bs_append bs_extract ba_self

theorem Tryz.info76 : (Tryz.prog.info? 76).map (fun i => (i.zero, i.size, i.bytes)) = some (some (.agg #[.int .i64 0, .int .i64 0, .string ⟨#[]⟩]), 3, 32) := by kernel_rfl

theorem own_ents_g {w : World} {B : Nat} {ty : TypeId} {v : Value} {l : List En} (h : w.ownsRow B ty 3 v l.length (entsV l)) : EntsAt w v l := by
  rcases h.2 with ⟨rfl, h0⟩ | ⟨g, cap, cur, rfl, _, hh, _, _, _, h6⟩
  · have : l = [] := List.length_eq_zero_iff.1 h0
    subst this
    exact ⟨none, 0, rfl, fun h => absurd rfl h⟩
  · refine ⟨_, _, rfl, fun _ => ⟨g, 0, rfl, fun j u hu => ?_⟩⟩
    rw [cell_of_row w g _ cur _ _ hh]
    rw [← h6] at hu
    rw [List.getElem?_take] at hu
    split at hu
    · simpa using hu
    · cases hu

/-- What a told state's block and its entries' row are. -/
structure ToldAt (w : World) (B sb : Nat) (c0 c1 c2 c3 c4 lg : Value) (acc : List En) : Prop where
  blk : Blk w sb 31 #[c0, c1, c2, c3, c4, lg]
  own : w.ownsRow B 76 3 lg acc.length (entsV acc)
theorem ToldAt.ne_ {w : World} {B sb : Nat} {c0 c1 c2 c3 c4 lg : Value} {acc : List En} (h : ToldAt w B sb c0 c1 c2 c3 c4 lg acc) : lg.ownBlock ≠ some sb := own_blk_ne h.own h.blk (by decide)
theorem ToldAt.keep {w w' : World} {M : List Nat} {B sb : Nat} {c0 c1 c2 c3 c4 lg : Value} {acc : List En} (h : ToldAt w B sb c0 c1 c2 c3 c4 lg acc) (hk : Keep M w w') (h1 : sb ∉ M) (h2 : ∀ k, lg.ownBlock = some k → k ∉ M) : ToldAt w' B sb c0 c1 c2 c3 c4 lg acc :=
  ⟨h.blk.keep hk h1, hk.owns h.own h2⟩

/-- append of one entry to the told state's entries. -/
theorem list_append_told {ops : Array Oper} {rest : List Oper} {o : Oper} {a : Act} {Q : Exit → Act → World → Prop} {wr : World} {B sb : Nat} {c0 c1 c2 c3 c4 lg : Value} {acc : List En} {p : Nat} (e : En)
    (hgd : o.guard = none) (s x : Operand) (ho : o.op = .call { callee := .builtin .append, args := #[s, x], argTypes := #[29, 29] })
    (hs : a.eval s = lg) (hx : a.eval x = .slice (some ⟨p, 0, none⟩) 1 1) (hp : p = wr.heap.size) (hE : ToldAt wr B sb c0 c1 c2 c3 c4 lg acc) (hB : B ≤ wr.heap.size) (hn : acc.length ≤ 1099511627776)
    (h : ∀ g n cap w', w'.cell? ⟨sb, 5, none⟩ = some lg → w'.frozen? ⟨sb, 5, none⟩ = false → ToldAt (w'.setCell ⟨sb, 5, none⟩ (.slice (some ⟨g, 0, none⟩) n cap)) B sb c0 c1 c2 c3 c4 (.slice (some ⟨g, 0, none⟩) n cap) (acc ++ [e]) →
      Keep (sb :: lg.ownBlock.toList) wr (w'.setCell ⟨sb, 5, none⟩ (.slice (some ⟨g, 0, none⟩) n cap)) → wpList Tryz.prog ops Q rest (a.put o.dst (.slice (some ⟨g, 0, none⟩) n cap)) w') :
    wpList Tryz.prog ops Q (o :: rest) a (wr.alloc (.cells #[.int .i64 (e.index : Int), .int .i64 (e.term : Int), .string (bs e.cmd)] 76)) := by
  subst hp
  obtain ⟨i0, hi, hz0, hz1, hz2⟩ := info_parts Tryz.info76
  have hlt := hE.blk.lt
  have hne := hE.ne_
  refine wpList_append_lies _ hgd s x 29 ho B 76 i0 _ 3 32 Tryz.underlying29 hi hz0 hz1 hz2 rfl (by omega) lg _ _ hs (hE.own.alloc (.cells #[.int .i64 (e.index : Int), .int .i64 (e.term : Int), .string (bs e.cmd)] 76)) ⟨wr.heap.size, 0, none⟩ 1 1 e.cells hx (by simp [En.cells]) (World.news_of_block (cs := #[.int .i64 (e.index : Int), .int .i64 (e.term : Int), .string (bs e.cmd)]) (t := 76) (fr := (0, 0)) (heap_alloc_new wr _)) (by simp [En.cells, Value.oneCell']) (by omega) (by unfold maxLen; omega) (by omega) (by simp; omega) (wr.heap.size + 1) (by simp) ?_
  intro g cap w1 hown1 hgrow hat _
  have hB1 : Blk w1 sb 31 #[c0, c1, c2, c3, c4, lg] := (hE.blk.alloc _).grown hgrow (fun e => hne e.symm)
  have hgs : g ≠ sb := by
    rintro rfl
    rcases hat with h | h
    · exact hne h
    · omega
  refine h g _ cap w1 (hB1.cell 5) (hB1.frozen 5) ⟨hB1.set_ 5 _, ?_⟩ ?_
  · have e1 : entsV (acc ++ [e]) = entsV acc ++ e.cells := by simp [entsV]
    rw [e1, List.length_append]
    exact ((Keep.refl [sb] w1).setCell (.inl (by simp)) _).owns hown1 (fun k hk => by
      simp only [Value.ownBlock, Option.some.injEq] at hk
      subst hk
      simpa using hgs)
  · exact (((Keep.refl _ _).alloc _).grown hgrow (fun k hk => by simp [hk])).setCell (.inl (by simp)) _

theorem told_ret {W : World} {r : Nat} {x0 x1 x2 x3 x4 x5 : Value} {t : Array Value} {R : Ending → World → Prop} (h2 : t[2]? = some (.pointer (some ⟨r, 0, none⟩)))
    (hB : Blk W r 31 #[x0, x1, x2, x3, x4, x5]) (hR : R (.returned (.agg #[x0, x1, x2, x3, x4, x5])) W) : bodyPost Tryz.prog Tryz.f19 R .ret { tmps := t, defers := [] } W := by
  have k0 : W.cell? ⟨r, 0, none⟩ = some x0 := hB.cell 0
  have k1 : W.cell? ⟨r, 1, none⟩ = some x1 := hB.cell 1
  have k2 : W.cell? ⟨r, 2, none⟩ = some x2 := hB.cell 2
  have k3 : W.cell? ⟨r, 3, none⟩ = some x3 := hB.cell 3
  have k4 : W.cell? ⟨r, 4, none⟩ = some x4 := hB.cell 4
  have k5 : W.cell? ⟨r, 5, none⟩ = some x5 := hB.cell 5
  refine bodyPost_ret (v := .agg #[x0, x1, x2, x3, x4, x5]) ?_ rfl hR
  simp [results, Tryz.results19, go_sem, h2, k0, k1, k2, k3, k4, k5]

structure ToldMid (s : Ts) (k : Nat) (w wr : World) (A : Value) : Prop where
  at_ : ToldAt wr (w.heap.size + 3) (w.heap.size + 2) (.int .i64 (s.term : Int)) (.int .i64 (s.vote : Int)) (.int .i64 (s.base : Int)) (.int .i64 (s.baseTerm : Int)) (.string (bs s.snap)) A (s.log.take k)
  res : Blk wr (w.heap.size + 1) 31 #[.int .i64 0, .int .i64 0, .int .i64 0, .int .i64 0, .string { data := #[] }, .slice none 0 0]
  keep : Keep [] w wr
def ToldRel (s : Ts) (w : World) (x : Value) (wr : World) : Prop := ∃ k A n c, k ≤ s.log.length ∧ x = .int .i64 (k : Int) ∧ ToldMid s k w wr (.slice A n c)

set_option maxRecDepth 100000 in
set_option maxHeartbeats 2000000 in
theorem told_calls (s : Ts) (lg : Value) (w : World) (hE : EntsAt w lg s.log) (hn : s.log.length ≤ 1000000000) :
    Calls Tryz.prog 19 #[s.agg lg] w fun e w' => ∃ A c, e = .returned (s.agg (.slice A s.log.length c)) ∧ w'.ownsRow w.heap.size 76 3 (.slice A s.log.length c) s.log.length (entsV s.log) ∧ Keep [] w w' := by
  obtain ⟨A0, c0, rfl, hcc⟩ := hE
  unfold Ts.agg
  have HCC := Lib.hid hcc
  clear hcc
  go_enter Tryz.func19, Tryz.ntmps19
  go_wp2
  go_loopw [20] (fun x wr => ToldRel s w x wr) (fun x _ => s.log.length - (intOf x).toNat)
  case atStart => exact ⟨0, none, 0, 0, Nat.zero_le _, rfl, ⟨Blk.here _ _ _ _ (by simp), by rw [List.take_zero]; exact World.ownsRow_nil _ _ _ _⟩, (Blk.here _ _ _ _ (by simp)).alloc _, (((Keep.refl [] w).alloc _).alloc _).alloc _⟩
  case round =>
    obtain ⟨k, A, n, c, hk, rfl, hM⟩ := hrel
    by_cases hlt : k < s.log.length
    · have d1 : decide ((k : Int) < (s.log.length : Int)) = true := by simp; omega
      obtain ⟨g, o, rfl, hc⟩ := HCC.out (by intro h; rw [h] at hlt; simp at hlt)
      obtain ⟨k0, k1, k2⟩ := entsV_at s.log k hlt
      have q0 := hc _ _ k0
      have q1 := hc _ _ k1
      have q2 := hc _ _ k2
      have x0 := (hM.keep.cell (World.block_lt_of_cell? _ _ q0) (by simp)).trans q0
      have x1 := (hM.keep.cell (World.block_lt_of_cell? _ _ q1) (by simp)).trans q1
      have x2 := (hM.keep.cell (World.block_lt_of_cell? _ _ q2) (by simp)).trans q2
      have hsn : s.log.take (k + 1) = s.log.take k ++ [s.log[k]] := List.take_succ_eq_append_getElem hlt
      rw [Nat.mul_comm] at x0 x1 x2
      rw [← Nat.add_assoc] at x1 x2
      have HSN := Lib.hid hsn
      clear hc k0 k1 k2 q0 q1 q2 hsn
      generalize s.log[k] = ee at *
      obtain ⟨ei, et, ec⟩ := ee
      simp only at x0 x1 x2
      have y5 : wr.cell? ⟨w.heap.size + 2, 5, none⟩ = some (.slice A n c) := hM.at_.blk.cell 5
      have hwl := hM.at_.blk.lt
      have hgl := World.block_lt_of_cell? _ _ x0
      simp only at hgl
      have HM := Lib.hid hM
      have HTA := Lib.hid (hM.at_.keep ((Keep.refl [] _).alloc (.cells #[.int .i64 (ei : Int), .int .i64 (et : Int), .string (bs ec)] 62)) (by simp) (by simp))
      clear hM
      go_wp2_with (at_builtin; refine list_append_told ⟨ei, et, ec⟩ rfl (.tmp 25) (.tmp 27) rfl rfl rfl ?c0 HTA.out ?c1 ?c2 ?_)
      case c0 => simp
      case c1 => simp; omega
      case c2 => simp; omega
      intro g2 n4 cap4 w7 hc7 hf7 hl7 hk7
      have HL7 := Lib.hid hl7
      have HK7 := Lib.hid hk7
      clear hl7 hk7
      go_wp2
      go_roundw
      case rel =>
        refine ⟨k + 1, some ⟨g2, 0, none⟩, n4, cap4, by omega, by go_num, ?_, ?_, ?_⟩
        · rw [HSN.out]; exact HL7.out
        · exact (HM.out.res.alloc _).keep HK7.out (by
            simp only [List.mem_cons, Option.mem_toList, not_or]
            refine ⟨by omega, fun h => ?_⟩
            have := (HM.out.at_.own.lt _ h).1
            omega)
        · refine (HM.out.keep.alloc _).trans' HK7.out ?_
          intro x hx
          right
          simp only [List.mem_cons, Option.mem_toList] at hx
          rcases hx with rfl | hx
          · omega
          · have := (HM.out.at_.own.lt _ hx).1
            omega
      case measure => simp [intOf]; omega
    · obtain rfl : k = s.log.length := by omega
      have d1 : decide ((s.log.length : Int) < (s.log.length : Int)) = false := by simp
      have HM := Lib.hid hM
      have hb := hM.at_.blk
      have hr := hM.res
      have y0 : wr.cell? ⟨w.heap.size + 2, 0, none⟩ = some (.int .i64 (s.term : Int)) := hb.cell 0
      have y1 : wr.cell? ⟨w.heap.size + 2, 1, none⟩ = some (.int .i64 (s.vote : Int)) := hb.cell 1
      have y2 : wr.cell? ⟨w.heap.size + 2, 2, none⟩ = some (.int .i64 (s.base : Int)) := hb.cell 2
      have y3 : wr.cell? ⟨w.heap.size + 2, 3, none⟩ = some (.int .i64 (s.baseTerm : Int)) := hb.cell 3
      have y4 : wr.cell? ⟨w.heap.size + 2, 4, none⟩ = some (.string (bs s.snap)) := hb.cell 4
      have y5 : wr.cell? ⟨w.heap.size + 2, 5, none⟩ = some (.slice A n c) := hb.cell 5
      have r0 : wr.cell? ⟨w.heap.size + 1, 0, none⟩ = some (.int .i64 0) := hr.cell 0
      have r1 : wr.cell? ⟨w.heap.size + 1, 1, none⟩ = some (.int .i64 0) := hr.cell 1
      have r2 : wr.cell? ⟨w.heap.size + 1, 2, none⟩ = some (.int .i64 0) := hr.cell 2
      have r3 : wr.cell? ⟨w.heap.size + 1, 3, none⟩ = some (.int .i64 0) := hr.cell 3
      have r4 : wr.cell? ⟨w.heap.size + 1, 4, none⟩ = some (.string { data := #[] }) := hr.cell 4
      have r5 : wr.cell? ⟨w.heap.size + 1, 5, none⟩ = some (.slice none 0 0) := hr.cell 5
      have q0 : ∀ i, wr.frozen? ⟨w.heap.size + 1, i, none⟩ = false := fun i => hr.frozen i
      have hwl := hb.lt
      clear hM hb hr
      go_wp2
      obtain ⟨hB6, hK6⟩ := six_cells HM.out.res (.int .i64 (s.term : Int)) (.int .i64 (s.vote : Int)) (.int .i64 (s.base : Int)) (.int .i64 (s.baseTerm : Int)) (.string (bs s.snap)) (.slice A n c)
      have hk7 : Keep [] w _ := HM.out.keep.trans' hK6 (by simp)
      have hown := HM.out.at_.own
      rw [List.take_of_length_le (Nat.le_refl _)] at hown
      obtain ⟨A', c', hv⟩ := own_slice hown
      injection hv with hv1 hv2 hv3
      subst hv1 hv2 hv3
      refine told_ret rfl hB6 ⟨A, c, rfl, own_mono (hK6.owns hown (fun k hk => ?_)) (by omega), hk7⟩
      have h1 := (hown.lt k hk).1
      simp; omega

end Go.Proofs.YtnlcipocobmgiaaGreatDoor
