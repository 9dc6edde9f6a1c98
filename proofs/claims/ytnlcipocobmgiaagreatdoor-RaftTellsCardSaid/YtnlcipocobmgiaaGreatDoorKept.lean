/- The contract of glacierlaw10.Kept. -/
import Derived.Test.YtnlcipocobmgiaaGreatDoorTold
import Derived.Test.YtnlcipocobmgiaaGreatDoorOlds
import Derived.Test.YtnlcipocobmgiaaGreatDoorHolds
import Derived.Test.YtnlcipocobmgiaaGreatDoorArrsAt
namespace Go.Proofs.YtnlcipocobmgiaaGreatDoor
open Go.RowKit
attribute [local go_sem] size_bs bs_append bs_extract

/-- Entries as Kept makes them. -/
structure KLog (T b : Nat) (l : List En) : Prop where
  ents : ∀ e ∈ l, e.Fit ∧ e.term ≤ T ∧ e.cmd.length ≤ 1000
  seq : ∀ i (h : i < l.length), l[i].index = b + i + 1
theorem KLog.nil (T b : Nat) : KLog T b [] := ⟨by simp, by simp⟩
theorem KLog.add {T b t : Nat} {l : List En} {cmd : List UInt8} (h : KLog T b l) (ht : t ≤ T) (hT : T ≤ 1000000) (hb : b ≤ 1000000) (hl : l.length ≤ 1000) (hc : cmd.length ≤ 1000) : KLog T b (l ++ [⟨b + l.length + 1, t, cmd⟩]) := by
  refine ⟨fun e he => ?_, fun i hi => ?_⟩
  · rcases List.mem_append.1 he with he | he
    · exact h.ents e he
    · simp only [List.mem_cons, List.not_mem_nil, or_false] at he
      subst he
      exact ⟨⟨by show b + l.length + 1 ≤ _; omega, by show t ≤ _; omega, by show cmd.length ≤ _; omega⟩, ht, hc⟩
  · simp only [List.length_append, List.length_cons, List.length_nil] at hi
    by_cases h2 : i < l.length
    · simp only [List.getElem_append_left h2]
      exact h.seq i h2
    · have : i = l.length := by omega
      subst this
      simp only [List.getElem_append_right (Nat.le_refl _), Nat.sub_self, List.getElem_cons_zero]
theorem enc_small : ∀ n : Fin 21, Utf8.encode (97 + (n.val : Int)) = bs [UInt8.ofNat (97 + n.val)] := by decide +kernel
/-- append of one entry to the told state's entries. -/
theorem list_append_kept {ops : Array Oper} {rest : List Oper} {o : Oper} {a : Act} {Q : Exit → Act → World → Prop} {wr : World} {B sb : Nat} {c0 c1 c2 c3 c4 lg : Value} {acc : List En} {p : Nat} {ix it : Int} {cv : ByteArray} (e : En)
    (hgd : o.guard = none) (s x : Operand) (ho : o.op = .call { callee := .builtin .append, args := #[s, x], argTypes := #[29, 29] })
    (hs : a.eval s = lg) (hx : a.eval x = .slice (some ⟨p, 0, none⟩) 1 1) (hp : p = wr.heap.size) (hE : ToldAt wr B sb c0 c1 c2 c3 c4 lg acc) (hB : B ≤ wr.heap.size) (hn : acc.length ≤ 1099511627776) (hix : ix = (e.index : Int)) (hit : it = (e.term : Int)) (hcv : cv = bs e.cmd)
    (h : ∀ g n cap w', w'.cell? ⟨sb, 5, none⟩ = some lg → w'.frozen? ⟨sb, 5, none⟩ = false → ToldAt (w'.setCell ⟨sb, 5, none⟩ (.slice (some ⟨g, 0, none⟩) n cap)) B sb c0 c1 c2 c3 c4 (.slice (some ⟨g, 0, none⟩) n cap) (acc ++ [e]) →
      Keep (sb :: lg.ownBlock.toList) wr (w'.setCell ⟨sb, 5, none⟩ (.slice (some ⟨g, 0, none⟩) n cap)) → wpList Tryz.prog ops Q rest (a.put o.dst (.slice (some ⟨g, 0, none⟩) n cap)) w') :
    wpList Tryz.prog ops Q (o :: rest) a (wr.alloc (.cells #[.int .i64 ix, .int .i64 it, .string cv] 76)) := by
  subst hix hit hcv
  exact list_append_told e hgd s x ho hs hx hp hE hB hn h

theorem list_append_ent2 {ops : Array Oper} {rest : List Oper} {o : Oper} {a : Act} {Q : Exit → Act → World → Prop} {w0 wr : World} {v : Value} {acc : List En} {ix it : Int} {p : Nat} (e : En)
    (hgd : o.guard = none) (s x : Operand) (ho : o.op = .call { callee := .builtin .append, args := #[s, x], argTypes := #[40, 40] })
    (hs : a.eval s = v) (hx : a.eval x = .slice (some ⟨p, 0, none⟩) 1 1) (hp : p = wr.heap.size) (hE : wr.ownsRow w0.heap.size 62 3 v acc.length (entsV acc)) (hk : Keep [] w0 wr) (hn : acc.length ≤ 1099511627776) (hix : ix = (e.index : Int)) (hit : it = (e.term : Int))
    (h : ∀ A cap w', w'.ownsRow w0.heap.size 62 3 (.slice A (acc ++ [e]).length cap) (acc ++ [e]).length (entsV (acc ++ [e])) → Keep [] w0 w' → wpList Tryz.prog ops Q rest (a.put o.dst (.slice A (acc ++ [e]).length cap)) w') :
    wpList Tryz.prog ops Q (o :: rest) a (wr.alloc (.cells #[.int .i64 ix, .int .i64 it, .string (bs e.cmd)] 62)) := by
  subst hp
  exact list_append_own_ent e hgd s x ho hs hx hE hk hn hix hit h

theorem kept_ret {W : World} {r : Nat} {p x0 x1 x2 x3 x4 x5 : Value} {t : Array Value} {R : Ending → World → Prop} (h2 : t[2]? = some p) (h3 : t[3]? = some (.pointer (some ⟨r, 0, none⟩)))
    (hB : Blk W r 31 #[x0, x1, x2, x3, x4, x5]) (hR : R (.returned (.tuple #[p, .agg #[x0, x1, x2, x3, x4, x5]])) W) : bodyPost Tryz.prog Tryz.f9 R .ret { tmps := t, defers := [] } W := by
  have k0 : W.cell? ⟨r, 0, none⟩ = some x0 := hB.cell 0
  have k1 : W.cell? ⟨r, 1, none⟩ = some x1 := hB.cell 1
  have k2 : W.cell? ⟨r, 2, none⟩ = some x2 := hB.cell 2
  have k3 : W.cell? ⟨r, 3, none⟩ = some x3 := hB.cell 3
  have k4 : W.cell? ⟨r, 4, none⟩ = some x4 := hB.cell 4
  have k5 : W.cell? ⟨r, 5, none⟩ = some x5 := hB.cell 5
  refine bodyPost_ret (v := .tuple #[p, .agg #[x0, x1, x2, x3, x4, x5]]) ?_ rfl hR
  simp [results, Tryz.results9, go_sem, h2, h3, k0, k1, k2, k3, k4, k5]

structure KMid (w wr : World) (b m xb : Nat) (n T V B bt : Nat) (sn : List UInt8) (bx : Array Value) (lg : Value) (acc : List En) : Prop where
  at_ : ToldAt wr (xb + 1) xb (.int .i64 (T : Int)) (.int .i64 (V : Int)) (.int .i64 (B : Int)) (.int .i64 (bt : Int)) (.string (bs sn)) lg acc
  box : Blk wr w.heap.size 24 bx
  res : Blk wr (w.heap.size + 1) 31 #[.int .i64 0, .int .i64 0, .int .i64 0, .int .i64 0, .string { data := #[] }, .slice none 0 0]
  disk : DiskAt wr b m ⟨n, 0, false, 0, []⟩
  keep : Keep [] w wr
  tab : Tab wr
theorem KMid.grow {w wr wr' : World} {b m xb n T V B bt : Nat} {sn : List UInt8} {bx : Array Value} {lg : Value} {acc : List En} (h : KMid w wr b m xb n T V B bt sn bx lg acc) (hk : Keep [] wr wr') : KMid w wr' b m xb n T V B bt sn bx lg acc :=
  ⟨h.at_.keep hk (by simp) (by simp), h.box.keep hk (by simp), h.res.keep hk (by simp), h.disk.keep hk (by simp) (by simp), h.keep.trans hk, h.tab.keep hk (by simp)⟩
theorem KMid.step {w wr wr' : World} {b m xb n T V B bt : Nat} {sn : List UInt8} {bx : Array Value} {lg lg' : Value} {acc acc' : List En} (h : KMid w wr b m xb n T V B bt sn bx lg acc) (hx : w.heap.size + 1 < xb) (hb : b < xb) (hm : m < xb) (hk : Keep (xb :: lg.ownBlock.toList) wr wr')
    (hA : ToldAt wr' (xb + 1) xb (.int .i64 (T : Int)) (.int .i64 (V : Int)) (.int .i64 (B : Int)) (.int .i64 (bt : Int)) (.string (bs sn)) lg' acc') (_hg : 0 < w.heap.size := by omega) : KMid w wr' b m xb n T V B bt sn bx lg' acc' := by
  have hn : ∀ k, k < xb → k ∉ xb :: lg.ownBlock.toList := fun k hk => by
    simp only [List.mem_cons, Option.mem_toList, not_or]
    refine ⟨by omega, fun h1 => ?_⟩
    have := (h.at_.own.lt k h1).1
    omega
  refine ⟨hA, h.box.keep hk (hn _ (by omega)), h.res.keep hk (hn _ (by omega)), h.disk.keep hk (hn _ hb) (hn _ hm), h.keep.trans' hk ?_, h.tab.keep hk (hn _ (by omega))⟩
  intro x hx'
  right
  simp only [List.mem_cons, Option.mem_toList] at hx'
  rcases hx' with rfl | hx'
  · omega
  · have := (h.at_.own.lt _ hx').1
    omega
theorem kept_disk {T V B bt : Nat} {sn : List UInt8} (acc : List En) (hT : T ≤ 20) (hV : V ≤ 5) (hB : B ≤ 4) (hbt : bt ≤ 20) (hs : sn.length ≤ 4) (hl : ∀ e ∈ acc, e.Fit ∧ e.cmd.length ≤ 1000) (hn : acc.length ≤ 6) :
    ∃ D1 D2, (⟨(1048576 : Nat), 0, false, 0, []⟩ : Dk).saveTerm T V = (D1, 0) ∧ D1.saveSnap B bt sn acc = (D2, 0) ∧ Holds D1 900000 ⟨T, V, 0, 0, [], []⟩ ∧ Holds D2 900000 ⟨T, V, B, bt, sn, acc⟩ := by
  obtain ⟨D1, h1, H1⟩ := (Holds.start 1048576 (by decide)).saveTerm T V (by omega) (by omega) (by decide)
  obtain ⟨D2, h2, H2⟩ := H1.saveSnap B bt sn acc (by omega) (by omega) (by omega) hl (by omega)
  exact ⟨D1, D2, h1, h2, H1.mono (by decide), H2.mono (by omega)⟩
def KRel (w : World) (l : List Int) (b m xb n T V B bt : Nat) (sn : List UInt8) (bx : Array Value) (vl vi : Value) (wr : World) : Prop :=
  ∃ (i last : Nat) (acc : List En) (A : Option Addr) (nn c : Nat), i ≤ l.length ∧ i ≤ 6 ∧ vi = .int .i64 (i : Int) ∧ vl = .int .i64 (last : Int) ∧ last ≤ T ∧ acc.length = i ∧ KLog T B acc ∧ KMid w wr b m xb n T V B bt sn bx (.slice A nn c) acc

def KRel2 (wr : World) (acc : List En) (v x : Value) (wq : World) : Prop := ∃ (k : Nat) (A : Option Addr) (c : Nat), k ≤ acc.length ∧ x = .int .i64 (k : Int) ∧ v = .slice A k c ∧ wq.ownsRow wr.heap.size 62 3 (.slice A k c) k (entsV (acc.take k)) ∧ Keep [] wr wq
def KeptPost (w : World) (T B nl : Nat) (e : Ending) (w' : World) : Prop := ∃ (b m : Nat) (D : Dk) (K : Ts) (A : Option Addr) (c : Nat), e = .returned (.tuple #[.pointer (some ⟨b, 0, none⟩), K.agg (.slice A K.log.length c)]) ∧ DiskAt w' b m D ∧ Holds D 900000 K ∧ K.Fit ∧ K.term = T ∧ K.base = B ∧ K.log.length = min nl 6 ∧ w.heap.size ≤ b ∧ w.heap.size ≤ m ∧ w'.ownsRow w.heap.size 76 3 (.slice A K.log.length c) K.log.length (entsV K.log) ∧ Keep [] w w'

theorem kept_end {w wr w4 w5 w6 : World} {b m xb n T V B bt c nl : Nat} {sn : List UInt8} {bx : Array Value} {A : Option Addr} {acc : List En} {D2 : Dk} (hM : KMid w wr b m xb n T V B bt sn bx (.slice A acc.length c) acc) (hk4 : Keep [b, m] wr w4) (hk5 : Keep [b, m] w4 w5) (hk6 : Keep [w.heap.size + 1] w5 w6) (hD : DiskAt w5 b m D2) (hQ : Holds D2 900000 ⟨T, V, B, bt, sn, acc⟩) (hL : KLog T B acc) (hT : T ≤ 20) (hV : V ≤ 5) (hB : B ≤ 4) (hbt : bt ≤ 20) (hs : sn.length ≤ 4) (hn : acc.length = min nl 6) (hb : w.heap.size + 2 ≤ b) (hm : w.heap.size + 2 ≤ m) (hbx : b < xb) (hmx : m < xb) :
    KeptPost w T B nl (.returned (.tuple #[.pointer (some ⟨b, 0, none⟩), .agg #[.int .i64 (T : Int), .int .i64 (V : Int), .int .i64 (B : Int), .int .i64 (bt : Int), .string (bs sn), .slice A acc.length c]])) w6 := by
  have ho := hM.at_.own
  have hl : ∀ k, (Value.slice A acc.length c).ownBlock = some k → xb + 1 ≤ k := fun k e => (ho.lt k e).1
  have ho4 := hk4.owns ho (fun k e => by have := hl k e; simp; omega)
  have ho5 := hk5.owns ho4 (fun k e => by have := hl k e; simp; omega)
  have ho6 := hk6.owns ho5 (fun k e => by have := hl k e; simp; omega)
  refine ⟨b, m, D2, ⟨T, V, B, bt, sn, acc⟩, A, c, rfl, hD.keep hk6 (by simp; omega) (by simp; omega), hQ, ⟨by show T ≤ _; omega, by show V ≤ _; omega, by show B ≤ _; omega, by show bt ≤ _; omega, by show sn.length ≤ _; omega, by show acc.length ≤ _; omega, hL.ents, hL.seq⟩, rfl, rfl, hn, by omega, by omega, own_mono ho6 (by omega), ((hM.keep.trans' hk4 (by simp; omega)).trans' hk5 (by simp; omega)).trans' hk6 (by simp)⟩

set_option maxRecDepth 100000 in
set_option maxHeartbeats 4000000 in
theorem kept_calls (w : World) (hTb : Tab w) (st sv sb : Int) (v : Value) (l : List Int) (hv : IntsAt w v l) (T V B : Nat) (hT : min (max st 0) 20 = (T : Int)) (hV : min (max sv 0) 5 = (V : Int)) (hB : min (max sb 0) 4 = (B : Int)) :
    Calls Tryz.prog 9 #[.agg #[.int .i64 st, .int .i64 sv, .int .i64 sb, v]] w (KeptPost w T B l.length) := by
  obtain ⟨A0, c0, rfl, hcc⟩ := hv
  have HCC := Lib.hid hcc
  have HT := Lib.hid hTb
  have hTl : T ≤ 20 := by omega
  have hVl : V ≤ 5 := by omega
  have hBl : B ≤ 4 := by omega
  have hg0 : 0 < w.heap.size := by
    have := World.block_lt_of_cell? _ _ (hTb 0 (by omega))
    simpa using this
  clear hcc hTb
  by_cases hb0 : B = 0
  · subst hb0
    have HBT : Hid (0 ≤ T) := Nat.zero_le T
    go_enter Tryz.func9, Tryz.ntmps9
    go_wp2_with (first
      | (go_at_call 38; refine (new_calls 1048576 (by decide) _).mono ?_; rintro e w1 ⟨b, m, rfl, hb, hm, hD1, hk1⟩; have HD1 : Hid (DiskAt w1 b m ⟨1048576, 0, false, 0, []⟩) := hD1; have hbx : Blk w1 w.heap.size 24 #[.int .i64 st, .int .i64 sv, .int .i64 sb, .slice A0 l.length c0] := ((Blk.new _ _ _).alloc _).keep hk1 (by simp); have hrs : Blk w1 (w.heap.size + 1) 31 #[.int .i64 0, .int .i64 0, .int .i64 0, .int .i64 0, .string { data := #[] }, .slice none 0 0] := Blk.keep (Blk.here _ _ _ _ (by simp)) hk1 (by simp); have x0 : w1.cell? ⟨w.heap.size, 0, none⟩ = some (.int .i64 st) := hbx.cell 0; have x1 : w1.cell? ⟨w.heap.size, 1, none⟩ = some (.int .i64 sv) := hbx.cell 1; have x2 : w1.cell? ⟨w.heap.size, 2, none⟩ = some (.int .i64 sb) := hbx.cell 2; have hxl := hrs.lt; have HBX := Lib.hid hbx; have HRS := Lib.hid hrs; have HKW : Hid (Keep [] w w1) := Keep.trans (M := []) (by repeat (first | exact Keep.refl _ _ | refine Keep.drew ?_ | refine Keep.drewN ?_ _ | refine Keep.alloc ?_ _ | refine Keep.setCell ?_ (.inr (Nat.le_refl _)) _)) hk1; have hblt := hD1.blk.lt; have hmlt := hD1.map.lt; clear hD1 hk1 hbx hrs))
    go_loopw [6, 7] (fun a i wr => KRel w l b m w1.heap.size 1048576 T V 0 0 [] #[.int .i64 st, .int .i64 sv, .int .i64 sb, .slice A0 l.length c0] a i wr) (fun _ i _ => 6 - (intOf i).toNat)
    case atStart => exact ⟨0, 0, [], none, 0, 0, Nat.zero_le _, Nat.zero_le _, rfl, rfl, HBT.out, rfl, KLog.nil _ _, ⟨Blk.here _ _ _ _ (by simp), World.ownsRow_nil _ _ _ _⟩, Blk.keep HBX.out (show Keep [] w1 _ by repeat (first | exact Keep.refl _ _ | refine Keep.drew ?_ | refine Keep.drewN ?_ _ | refine Keep.alloc ?_ _ | refine Keep.setCell ?_ (.inr (Nat.le_refl _)) _)) (by simp), Blk.keep HRS.out (show Keep [] w1 _ by repeat (first | exact Keep.refl _ _ | refine Keep.drew ?_ | refine Keep.drewN ?_ _ | refine Keep.alloc ?_ _ | refine Keep.setCell ?_ (.inr (Nat.le_refl _)) _)) (by simp), HD1.out.keep (show Keep [] w1 _ by repeat (first | exact Keep.refl _ _ | refine Keep.drew ?_ | refine Keep.drewN ?_ _ | refine Keep.alloc ?_ _ | refine Keep.setCell ?_ (.inr (Nat.le_refl _)) _)) (by simp) (by simp), Keep.trans (M := []) HKW.out (show Keep [] w1 _ by repeat (first | exact Keep.refl _ _ | refine Keep.drew ?_ | refine Keep.drewN ?_ _ | refine Keep.alloc ?_ _ | refine Keep.setCell ?_ (.inr (Nat.le_refl _)) _)), HT.out.keep (Keep.trans (M := []) HKW.out (show Keep [] w1 _ by repeat (first | exact Keep.refl _ _ | refine Keep.drew ?_ | refine Keep.drewN ?_ _ | refine Keep.alloc ?_ _ | refine Keep.setCell ?_ (.inr (Nat.le_refl _)) _))) (by simp)⟩
    case round =>
      obtain ⟨i, last, acc, A, nn, c, hi1, hi2, rfl, rfl, hlast, hacc, hkl, hM⟩ := hrel
      by_cases h : i < l.length ∧ i < 6
      · obtain ⟨h1, h2⟩ := h
        have d1 : decide ((i : Int) < (l.length : Int)) = true := by simp; omega
        have d2 : decide ((i : Int) < 6) = true := by simp; omega
        obtain ⟨g, o, rfl, hc⟩ := HCC.out (by intro h0; subst h0; simp at h1)
        have c1 := hc i h1
        have cx : wr.cell? ⟨g, o + i, none⟩ = some (.int .i64 l[i]) := (hM.keep.cell (World.block_lt_of_cell? _ _ c1) (by simp)).trans c1
        clear hc c1
        generalize l[i] = x at *
        obtain ⟨nl, hnl⟩ : ∃ nl : Nat, min (max x (last : Int)) (T : Int) = (nl : Int) := ⟨(min (max x (last : Int)) (T : Int)).toNat, by omega⟩
        have hnT : nl ≤ T := by omega
        obtain ⟨ch, hU⟩ : ∃ ch, Utf8.encode (97 + (nl : Int)) = bs [ch] := ⟨_, enc_small ⟨nl, by omega⟩⟩
        have hmod : (nl : Int) % 26 = (nl : Int) := by omega
        have y0 : wr.cell? ⟨w1.heap.size, 0, none⟩ = some (.int .i64 (T : Int)) := hM.at_.blk.cell 0
        have y2 : wr.cell? ⟨w1.heap.size, 2, none⟩ = some (.int .i64 (0 : Nat)) := hM.at_.blk.cell 2
        have y5 : wr.cell? ⟨w1.heap.size, 5, none⟩ = some (.slice A nn c) := hM.at_.blk.cell 5
        have x3 : wr.cell? ⟨w.heap.size, 3, none⟩ = some (.slice (some ⟨g, o, none⟩) l.length c0) := hM.box.cell 3
        have HM := Lib.hid hM
        obtain ⟨ee, HEE⟩ : ∃ ee : En, Hid (ee = ⟨0 + acc.length + 1, nl, [99, ch]⟩) := ⟨_, rfl⟩
        have HKL := Lib.hid hkl
        have HACC := Lib.hid hacc
        clear hM hkl hacc
        go_wp2
        go_quiet (fail)
        clear hnl
        go_wp2_with (at_builtin; refine list_append_kept ee rfl (.tmp 57) (.tmp 71) rfl rfl rfl ?c0 (HM.out.at_.keep ((Keep.refl [] _).drewN _) (by simp) (by simp)) ?c1 ?c2 ?c3 ?c4 ?c5 ?_)
        case c0 => simp
        case c1 => simp; exact HM.out.at_.blk.lt
        case c2 => have hh := HACC.out; omega
        case c3 => (have hh := HACC.out; rw [HEE.out]; simp only [hh]; try (simp; try omega))
        case c4 => rw [HEE.out]
        case c5 => rw [HEE.out]; rfl
        intro g2 n4 cap4 w7 hc7 hf7 hl7 hk7
        have HL7 := Lib.hid hl7
        have HK7 := Lib.hid hk7
        clear hl7 hk7
        go_wp2
        go_roundw
        case rel => exact ⟨i + 1, nl, acc ++ [ee], some ⟨g2, 0, none⟩, n4, cap4, by omega, by omega, by go_num, rfl, hnT, by simp [HACC.out], by rw [HEE.out]; exact HKL.out.add hnT (by omega) (by omega) (by have := HACC.out; omega) (by simp), HM.out.step (by omega) hblt hmlt (Keep.trans' (M := _) ((Keep.refl _ _).drewN _) HK7.out (fun x hx => .inl hx)) HL7.out⟩
        case measure => simp [intOf]; omega
      · obtain ⟨A', c', hv⟩ := own_slice hM.at_.own
        injection hv with hv1 hv2 hv3
        subst hv1 hv2 hv3
        obtain ⟨A', c', he, hec⟩ := own_ents_g hM.at_.own
        injection he with he1 he2 he3
        subst he1 he3
        clear he2
        have HEC := Lib.hid hec
        obtain ⟨D1, D2, p1, p2, q1, q2⟩ := kept_disk (T := T) (V := V) (B := 0) (bt := 0) (sn := []) acc (by omega) (by omega) (by omega) (by have := HBT.out; omega) (by decide) (fun e he => ⟨(hkl.ents e he).1, (hkl.ents e he).2.2⟩) (by omega)
        have T3 : ∀ W, KMid w W b m w1.heap.size 1048576 T V 0 0 [] #[.int .i64 st, .int .i64 sv, .int .i64 sb, .slice A0 l.length c0] (.slice A acc.length c) acc → Calls Tryz.prog 40 #[.pointer (some ⟨b, 0, none⟩), .int .i64 (T : Int), .int .i64 (V : Int)] W fun e w' => e = .returned (.int .i64 0) ∧ DiskAt w' b m D1 ∧ Keep [b, m] W w' := fun W hW => by
          have := saveTerm_calls hW.disk (Holds.start 1048576 (by decide)).good hW.tab T V (by omega) (by omega)
          rw [p1] at this
          exact this
        have T4 : ∀ W v, DiskAt W b m D1 → Tab W → EntsAt W v acc → Calls Tryz.prog 41 #[.pointer (some ⟨b, 0, none⟩), .int .i64 (0 : Nat), .int .i64 (0 : Nat), .string (bs []), v] W fun e w' => e = .returned (.int .i64 0) ∧ DiskAt w' b m D2 ∧ Keep [b, m] W w' := fun W v hW hTW hE => by
          have := saveSnap_calls hW q1.good hTW 0 0 (by omega) (by have := HBT.out; omega) [] (by decide) acc v hE ⟨by omega, fun e he => (hkl.ents e he).1.ok⟩
          rw [p2] at this
          exact this
        have HT3 := Lib.hid T3
        have HT4 := Lib.hid T4
        have HQ2 := Lib.hid q2
        have HM := Lib.hid hM
        have HKL := Lib.hid hkl
        have HACC := Lib.hid hacc
        have y5 : wr.cell? ⟨w1.heap.size, 5, none⟩ = some (.slice A acc.length c) := hM.at_.blk.cell 5
        have y2 : wr.cell? ⟨w1.heap.size, 2, none⟩ = some (.int .i64 (0 : Nat)) := hM.at_.blk.cell 2
        have x3 : wr.cell? ⟨w.heap.size, 3, none⟩ = some (.slice A0 l.length c0) := hM.box.cell 3
        have hsl := hM.at_.blk.lt
        clear hM hkl hacc p1 p2 q1 q2 T3 T4 hec
        by_cases h1 : i < l.length
        · have d1 : decide ((i : Int) < (l.length : Int)) = true := by simp; omega
          have d2 : decide ((i : Int) < 6) = false := by simp; omega
          obtain ⟨wo, rfl⟩ : ∃ wo : World, wo = wr := ⟨_, rfl⟩
          go_wp2
          go_loopw [8, 78] (fun v x wq => KRel2 wo acc v x wq) (fun _ x _ => acc.length - (intOf x).toNat)
          case atStart => exact ⟨0, _, _, Nat.zero_le _, rfl, rfl, ⟨by simp [entsV], .inr ⟨wo.heap.size, 0, #[], rfl, Nat.le_refl _, heap_alloc_new _ _, Nat.le_refl _, Nat.zero_le _, rfl, by simp [entsV]⟩⟩, (Keep.refl _ _).alloc _⟩
          case round =>
            obtain ⟨k, A2, c2, hk, rfl, rfl, hown, hkeep⟩ := hrel
            have HOWN := Lib.hid hown
            have HK := Lib.hid hkeep
            clear hown hkeep
            by_cases hlt : k < acc.length
            · have HLT := Lib.hid hlt
              have hk6 : k ≤ 6 := by have hh := HACC.out; omega
              have dk : decide ((k : Int) < (acc.length : Int)) = true := by simp; omega
              obtain ⟨g2, o2, rfl, hc⟩ := HEC.out (by intro h; rw [h] at hlt; simp at hlt)
              obtain ⟨k0, k1, k2⟩ := entsV_at acc k hlt
              have q0 := hc _ _ k0
              have q1 := hc _ _ k1
              have q2 := hc _ _ k2
              have x0 := (HK.out.cell (World.block_lt_of_cell? _ _ q0) (by simp)).trans q0
              have x1 := (HK.out.cell (World.block_lt_of_cell? _ _ q1) (by simp)).trans q1
              have x2 := (HK.out.cell (World.block_lt_of_cell? _ _ q2) (by simp)).trans q2
              have hsn : acc.take (k + 1) = acc.take k ++ [acc[k]] := List.take_succ_eq_append_getElem hlt
              rw [Nat.mul_comm] at x0 x1 x2
              rw [← Nat.add_assoc] at x1 x2
              have HSN := Lib.hid hsn
              have HTL : Hid ((acc.take k).length = k) := (by rw [List.length_take]; omega : (acc.take k).length = k)
              clear hc k0 k1 k2 q0 q1 q2 hsn y5 y2 x3
              generalize acc[k] = ee at *
              obtain ⟨ei, et, ec⟩ := ee
              simp only at x0 x1 x2
              have hgl := World.block_lt_of_cell? _ _ x0
              simp only at hgl
              go_wp2_with (at_builtin; refine list_append_ent2 (w0 := wo) (v := .slice A2 k c2) (acc := acc.take k) ⟨ei, et, ec⟩ rfl (.tmp 82) (.tmp 84) rfl rfl rfl ?c0 ?c1 (HK.out.alloc _) ?c2 rfl rfl ?_)
              case c0 => simp
              case c1 =>
                rw [HTL.out]
                exact HOWN.out.alloc _
              case c2 =>
                have hh := HACC.out
                rw [HTL.out]
                omega
              intro A3 c3 w4 hown4 hk4
              rw [← HSN.out] at hown4
              have HOWN4 := Lib.hid hown4
              have HK4 := Lib.hid hk4
              clear hown4 hk4
              go_wp2
              go_roundw
              case rel => exact ⟨k + 1, A3, c3, HLT.out, by go_num, rfl, HOWN4.out, HK4.out⟩
              case measure => have hh := HLT.out; simp [intOf]; omega
            · obtain rfl : k = acc.length := by omega
              have dk : decide ((acc.length : Int) < (acc.length : Int)) = false := by simp
              have HM2 := Lib.hid (HM.out.grow HK.out)
              have HE : Hid (EntsAt wr (.slice A2 acc.length c2) acc) := own_ents (by have hh := HOWN.out; rw [List.take_of_length_le (Nat.le_refl _)] at hh; exact hh)
              have z0 : wr.cell? ⟨w1.heap.size, 0, none⟩ = some (.int .i64 (T : Int)) := HM2.out.at_.blk.cell 0
              have z1 : wr.cell? ⟨w1.heap.size, 1, none⟩ = some (.int .i64 (V : Int)) := HM2.out.at_.blk.cell 1
              have hb2 : w.heap.size + 2 ≤ b := by have hh := hb; simp at hh; omega
              have hm2 : w.heap.size + 2 ≤ m := by have hh := hm; simp at hh; omega
              clear y5 y2 x3
              go_wp2_with (first
                | (go_at_call 40; refine (HT3.out _ HM2.out).mono ?_; rintro e w4 ⟨rfl, hD, hk⟩; have hX := HM2.out.at_.blk.keep hk (by simp; omega); have z2 : w4.cell? ⟨w1.heap.size, 2, none⟩ = some (.int .i64 (0 : Nat)) := hX.cell 2; have z3 : w4.cell? ⟨w1.heap.size, 3, none⟩ = some (.int .i64 (0 : Nat)) := hX.cell 3; have z4 : w4.cell? ⟨w1.heap.size, 4, none⟩ = some (.string (bs [])) := hX.cell 4; have HD4 := Lib.hid hD; have HK4 := Lib.hid hk; have HX4 := Lib.hid hX; clear hD hk hX z0 z1)
                | (go_at_call 41; refine (HT4.out _ _ HD4.out (HM2.out.tab.disk HM2.out.disk HK4.out) (HE.out.disk HM2.out.disk HK4.out)).mono ?_; rintro e w5 ⟨rfl, hD, hk⟩; have hX := HX4.out.keep hk (by simp; omega); have hR := (HM2.out.res.keep HK4.out (by simp; omega)).keep hk (by simp; omega); clear z2 z3 z4; have z0 : w5.cell? ⟨w1.heap.size, 0, none⟩ = some (.int .i64 (T : Int)) := hX.cell 0; have z1 : w5.cell? ⟨w1.heap.size, 1, none⟩ = some (.int .i64 (V : Int)) := hX.cell 1; have z2 : w5.cell? ⟨w1.heap.size, 2, none⟩ = some (.int .i64 (0 : Nat)) := hX.cell 2; have z3 : w5.cell? ⟨w1.heap.size, 3, none⟩ = some (.int .i64 (0 : Nat)) := hX.cell 3; have z4 : w5.cell? ⟨w1.heap.size, 4, none⟩ = some (.string (bs [])) := hX.cell 4; have z5 : w5.cell? ⟨w1.heap.size, 5, none⟩ = some (.slice A acc.length c) := hX.cell 5; have r0 : w5.cell? ⟨w.heap.size + 1, 0, none⟩ = some (.int .i64 0) := hR.cell 0; have r1 : w5.cell? ⟨w.heap.size + 1, 1, none⟩ = some (.int .i64 0) := hR.cell 1; have r2 : w5.cell? ⟨w.heap.size + 1, 2, none⟩ = some (.int .i64 0) := hR.cell 2; have r3 : w5.cell? ⟨w.heap.size + 1, 3, none⟩ = some (.int .i64 0) := hR.cell 3; have r4 : w5.cell? ⟨w.heap.size + 1, 4, none⟩ = some (.string { data := #[] }) := hR.cell 4; have r5 : w5.cell? ⟨w.heap.size + 1, 5, none⟩ = some (.slice none 0 0) := hR.cell 5; have fr : ∀ i, w5.frozen? ⟨w.heap.size + 1, i, none⟩ = false := fun i => hR.frozen i; have HD5 := Lib.hid hD; have HK5 := Lib.hid hk; have HX5 := Lib.hid hX; have HR5 := Lib.hid hR; clear hD hk hX hR))
              go_region
              go_wp2
              obtain ⟨hB6, hK6⟩ := six_cells HR5.out (.int .i64 (T : Int)) (.int .i64 (V : Int)) (.int .i64 (0 : Nat)) (.int .i64 (0 : Nat)) (.string (bs [])) (.slice A acc.length c)
              exact kept_ret rfl rfl hB6.drew (kept_end (T := T) (V := V) (B := 0) (bt := 0) (sn := []) HM2.out HK4.out HK5.out hK6.drew HD5.out HQ2.out HKL.out hTl hVl (by omega) (by have := HBT.out; omega) (by decide) (by have := HACC.out; omega) hb2 hm2 hblt hmlt)
        · have d1 : decide ((i : Int) < (l.length : Int)) = false := by simp; omega
          obtain ⟨wo, rfl⟩ : ∃ wo : World, wo = wr := ⟨_, rfl⟩
          go_wp2
          go_loopw [8, 78] (fun v x wq => KRel2 wo acc v x wq) (fun _ x _ => acc.length - (intOf x).toNat)
          case atStart => exact ⟨0, _, _, Nat.zero_le _, rfl, rfl, ⟨by simp [entsV], .inr ⟨wo.heap.size, 0, #[], rfl, Nat.le_refl _, heap_alloc_new _ _, Nat.le_refl _, Nat.zero_le _, rfl, by simp [entsV]⟩⟩, (Keep.refl _ _).alloc _⟩
          case round =>
            obtain ⟨k, A2, c2, hk, rfl, rfl, hown, hkeep⟩ := hrel
            have HOWN := Lib.hid hown
            have HK := Lib.hid hkeep
            clear hown hkeep
            by_cases hlt : k < acc.length
            · have HLT := Lib.hid hlt
              have hk6 : k ≤ 6 := by have hh := HACC.out; omega
              have dk : decide ((k : Int) < (acc.length : Int)) = true := by simp; omega
              obtain ⟨g2, o2, rfl, hc⟩ := HEC.out (by intro h; rw [h] at hlt; simp at hlt)
              obtain ⟨k0, k1, k2⟩ := entsV_at acc k hlt
              have q0 := hc _ _ k0
              have q1 := hc _ _ k1
              have q2 := hc _ _ k2
              have x0 := (HK.out.cell (World.block_lt_of_cell? _ _ q0) (by simp)).trans q0
              have x1 := (HK.out.cell (World.block_lt_of_cell? _ _ q1) (by simp)).trans q1
              have x2 := (HK.out.cell (World.block_lt_of_cell? _ _ q2) (by simp)).trans q2
              have hsn : acc.take (k + 1) = acc.take k ++ [acc[k]] := List.take_succ_eq_append_getElem hlt
              rw [Nat.mul_comm] at x0 x1 x2
              rw [← Nat.add_assoc] at x1 x2
              have HSN := Lib.hid hsn
              have HTL : Hid ((acc.take k).length = k) := (by rw [List.length_take]; omega : (acc.take k).length = k)
              clear hc k0 k1 k2 q0 q1 q2 hsn y5 y2 x3
              generalize acc[k] = ee at *
              obtain ⟨ei, et, ec⟩ := ee
              simp only at x0 x1 x2
              have hgl := World.block_lt_of_cell? _ _ x0
              simp only at hgl
              go_wp2_with (at_builtin; refine list_append_ent2 (w0 := wo) (v := .slice A2 k c2) (acc := acc.take k) ⟨ei, et, ec⟩ rfl (.tmp 82) (.tmp 84) rfl rfl rfl ?c0 ?c1 (HK.out.alloc _) ?c2 rfl rfl ?_)
              case c0 => simp
              case c1 =>
                rw [HTL.out]
                exact HOWN.out.alloc _
              case c2 =>
                have hh := HACC.out
                rw [HTL.out]
                omega
              intro A3 c3 w4 hown4 hk4
              rw [← HSN.out] at hown4
              have HOWN4 := Lib.hid hown4
              have HK4 := Lib.hid hk4
              clear hown4 hk4
              go_wp2
              go_roundw
              case rel => exact ⟨k + 1, A3, c3, HLT.out, by go_num, rfl, HOWN4.out, HK4.out⟩
              case measure => have hh := HLT.out; simp [intOf]; omega
            · obtain rfl : k = acc.length := by omega
              have dk : decide ((acc.length : Int) < (acc.length : Int)) = false := by simp
              have HM2 := Lib.hid (HM.out.grow HK.out)
              have HE : Hid (EntsAt wr (.slice A2 acc.length c2) acc) := own_ents (by have hh := HOWN.out; rw [List.take_of_length_le (Nat.le_refl _)] at hh; exact hh)
              have z0 : wr.cell? ⟨w1.heap.size, 0, none⟩ = some (.int .i64 (T : Int)) := HM2.out.at_.blk.cell 0
              have z1 : wr.cell? ⟨w1.heap.size, 1, none⟩ = some (.int .i64 (V : Int)) := HM2.out.at_.blk.cell 1
              have hb2 : w.heap.size + 2 ≤ b := by have hh := hb; simp at hh; omega
              have hm2 : w.heap.size + 2 ≤ m := by have hh := hm; simp at hh; omega
              clear y5 y2 x3
              go_wp2_with (first
                | (go_at_call 40; refine (HT3.out _ HM2.out).mono ?_; rintro e w4 ⟨rfl, hD, hk⟩; have hX := HM2.out.at_.blk.keep hk (by simp; omega); have z2 : w4.cell? ⟨w1.heap.size, 2, none⟩ = some (.int .i64 (0 : Nat)) := hX.cell 2; have z3 : w4.cell? ⟨w1.heap.size, 3, none⟩ = some (.int .i64 (0 : Nat)) := hX.cell 3; have z4 : w4.cell? ⟨w1.heap.size, 4, none⟩ = some (.string (bs [])) := hX.cell 4; have HD4 := Lib.hid hD; have HK4 := Lib.hid hk; have HX4 := Lib.hid hX; clear hD hk hX z0 z1)
                | (go_at_call 41; refine (HT4.out _ _ HD4.out (HM2.out.tab.disk HM2.out.disk HK4.out) (HE.out.disk HM2.out.disk HK4.out)).mono ?_; rintro e w5 ⟨rfl, hD, hk⟩; have hX := HX4.out.keep hk (by simp; omega); have hR := (HM2.out.res.keep HK4.out (by simp; omega)).keep hk (by simp; omega); clear z2 z3 z4; have z0 : w5.cell? ⟨w1.heap.size, 0, none⟩ = some (.int .i64 (T : Int)) := hX.cell 0; have z1 : w5.cell? ⟨w1.heap.size, 1, none⟩ = some (.int .i64 (V : Int)) := hX.cell 1; have z2 : w5.cell? ⟨w1.heap.size, 2, none⟩ = some (.int .i64 (0 : Nat)) := hX.cell 2; have z3 : w5.cell? ⟨w1.heap.size, 3, none⟩ = some (.int .i64 (0 : Nat)) := hX.cell 3; have z4 : w5.cell? ⟨w1.heap.size, 4, none⟩ = some (.string (bs [])) := hX.cell 4; have z5 : w5.cell? ⟨w1.heap.size, 5, none⟩ = some (.slice A acc.length c) := hX.cell 5; have r0 : w5.cell? ⟨w.heap.size + 1, 0, none⟩ = some (.int .i64 0) := hR.cell 0; have r1 : w5.cell? ⟨w.heap.size + 1, 1, none⟩ = some (.int .i64 0) := hR.cell 1; have r2 : w5.cell? ⟨w.heap.size + 1, 2, none⟩ = some (.int .i64 0) := hR.cell 2; have r3 : w5.cell? ⟨w.heap.size + 1, 3, none⟩ = some (.int .i64 0) := hR.cell 3; have r4 : w5.cell? ⟨w.heap.size + 1, 4, none⟩ = some (.string { data := #[] }) := hR.cell 4; have r5 : w5.cell? ⟨w.heap.size + 1, 5, none⟩ = some (.slice none 0 0) := hR.cell 5; have fr : ∀ i, w5.frozen? ⟨w.heap.size + 1, i, none⟩ = false := fun i => hR.frozen i; have HD5 := Lib.hid hD; have HK5 := Lib.hid hk; have HX5 := Lib.hid hX; have HR5 := Lib.hid hR; clear hD hk hX hR))
              go_region
              go_wp2
              obtain ⟨hB6, hK6⟩ := six_cells HR5.out (.int .i64 (T : Int)) (.int .i64 (V : Int)) (.int .i64 (0 : Nat)) (.int .i64 (0 : Nat)) (.string (bs [])) (.slice A acc.length c)
              exact kept_ret rfl rfl hB6.drew (kept_end (T := T) (V := V) (B := 0) (bt := 0) (sn := []) HM2.out HK4.out HK5.out hK6.drew HD5.out HQ2.out HKL.out hTl hVl (by omega) (by have := HBT.out; omega) (by decide) (by have := HACC.out; omega) hb2 hm2 hblt hmlt)
  · have hbp : 0 < B := by omega
    have d0 : decide ((0 : Int) < (B : Int)) = true := by simp; omega
    obtain ⟨bt, hbt⟩ : ∃ bt : Nat, min 1 (T : Int) = (bt : Int) := ⟨(min 1 (T : Int)).toNat, by omega⟩
    have HBT : Hid (bt ≤ T) := (by omega : bt ≤ T)
    clear hb0
    go_enter Tryz.func9, Tryz.ntmps9
    go_wp2_with (first
      | (go_at_call 38; refine (new_calls 1048576 (by decide) _).mono ?_; rintro e w1 ⟨b, m, rfl, hb, hm, hD1, hk1⟩; have HD1 : Hid (DiskAt w1 b m ⟨1048576, 0, false, 0, []⟩) := hD1; have hbx : Blk w1 w.heap.size 24 #[.int .i64 st, .int .i64 sv, .int .i64 sb, .slice A0 l.length c0] := ((Blk.new _ _ _).alloc _).keep hk1 (by simp); have hrs : Blk w1 (w.heap.size + 1) 31 #[.int .i64 0, .int .i64 0, .int .i64 0, .int .i64 0, .string { data := #[] }, .slice none 0 0] := Blk.keep (Blk.here _ _ _ _ (by simp)) hk1 (by simp); have x0 : w1.cell? ⟨w.heap.size, 0, none⟩ = some (.int .i64 st) := hbx.cell 0; have x1 : w1.cell? ⟨w.heap.size, 1, none⟩ = some (.int .i64 sv) := hbx.cell 1; have x2 : w1.cell? ⟨w.heap.size, 2, none⟩ = some (.int .i64 sb) := hbx.cell 2; have hxl := hrs.lt; have HBX := Lib.hid hbx; have HRS := Lib.hid hrs; have HKW : Hid (Keep [] w w1) := Keep.trans (M := []) (by repeat (first | exact Keep.refl _ _ | refine Keep.drew ?_ | refine Keep.drewN ?_ _ | refine Keep.alloc ?_ _ | refine Keep.setCell ?_ (.inr (Nat.le_refl _)) _)) hk1; have hblt := hD1.blk.lt; have hmlt := hD1.map.lt; clear hD1 hk1 hbx hrs))
    go_loopw [6, 7] (fun a i wr => KRel w l b m w1.heap.size 1048576 T V B bt [115, 110, 97, 112] #[.int .i64 st, .int .i64 sv, .int .i64 sb, .slice A0 l.length c0] a i wr) (fun _ i _ => 6 - (intOf i).toNat)
    case atStart => exact ⟨0, bt, [], none, 0, 0, Nat.zero_le _, Nat.zero_le _, rfl, rfl, HBT.out, rfl, KLog.nil _ _, ⟨Blk.here _ _ _ _ (by simp), World.ownsRow_nil _ _ _ _⟩, Blk.keep HBX.out (show Keep [] w1 _ by repeat (first | exact Keep.refl _ _ | refine Keep.drew ?_ | refine Keep.drewN ?_ _ | refine Keep.alloc ?_ _ | refine Keep.setCell ?_ (.inr (Nat.le_refl _)) _)) (by simp), Blk.keep HRS.out (show Keep [] w1 _ by repeat (first | exact Keep.refl _ _ | refine Keep.drew ?_ | refine Keep.drewN ?_ _ | refine Keep.alloc ?_ _ | refine Keep.setCell ?_ (.inr (Nat.le_refl _)) _)) (by simp), HD1.out.keep (show Keep [] w1 _ by repeat (first | exact Keep.refl _ _ | refine Keep.drew ?_ | refine Keep.drewN ?_ _ | refine Keep.alloc ?_ _ | refine Keep.setCell ?_ (.inr (Nat.le_refl _)) _)) (by simp) (by simp), Keep.trans (M := []) HKW.out (show Keep [] w1 _ by repeat (first | exact Keep.refl _ _ | refine Keep.drew ?_ | refine Keep.drewN ?_ _ | refine Keep.alloc ?_ _ | refine Keep.setCell ?_ (.inr (Nat.le_refl _)) _)), HT.out.keep (Keep.trans (M := []) HKW.out (show Keep [] w1 _ by repeat (first | exact Keep.refl _ _ | refine Keep.drew ?_ | refine Keep.drewN ?_ _ | refine Keep.alloc ?_ _ | refine Keep.setCell ?_ (.inr (Nat.le_refl _)) _))) (by simp)⟩
    case round =>
      obtain ⟨i, last, acc, A, nn, c, hi1, hi2, rfl, rfl, hlast, hacc, hkl, hM⟩ := hrel
      by_cases h : i < l.length ∧ i < 6
      · obtain ⟨h1, h2⟩ := h
        have d1 : decide ((i : Int) < (l.length : Int)) = true := by simp; omega
        have d2 : decide ((i : Int) < 6) = true := by simp; omega
        obtain ⟨g, o, rfl, hc⟩ := HCC.out (by intro h0; subst h0; simp at h1)
        have c1 := hc i h1
        have cx : wr.cell? ⟨g, o + i, none⟩ = some (.int .i64 l[i]) := (hM.keep.cell (World.block_lt_of_cell? _ _ c1) (by simp)).trans c1
        clear hc c1
        generalize l[i] = x at *
        obtain ⟨nl, hnl⟩ : ∃ nl : Nat, min (max x (last : Int)) (T : Int) = (nl : Int) := ⟨(min (max x (last : Int)) (T : Int)).toNat, by omega⟩
        have hnT : nl ≤ T := by omega
        obtain ⟨ch, hU⟩ : ∃ ch, Utf8.encode (97 + (nl : Int)) = bs [ch] := ⟨_, enc_small ⟨nl, by omega⟩⟩
        have hmod : (nl : Int) % 26 = (nl : Int) := by omega
        have y0 : wr.cell? ⟨w1.heap.size, 0, none⟩ = some (.int .i64 (T : Int)) := hM.at_.blk.cell 0
        have y2 : wr.cell? ⟨w1.heap.size, 2, none⟩ = some (.int .i64 (B : Nat)) := hM.at_.blk.cell 2
        have y5 : wr.cell? ⟨w1.heap.size, 5, none⟩ = some (.slice A nn c) := hM.at_.blk.cell 5
        have x3 : wr.cell? ⟨w.heap.size, 3, none⟩ = some (.slice (some ⟨g, o, none⟩) l.length c0) := hM.box.cell 3
        have HM := Lib.hid hM
        obtain ⟨ee, HEE⟩ : ∃ ee : En, Hid (ee = ⟨B + acc.length + 1, nl, [99, ch]⟩) := ⟨_, rfl⟩
        have HKL := Lib.hid hkl
        have HACC := Lib.hid hacc
        clear hM hkl hacc
        go_wp2
        go_quiet (fail)
        clear hnl
        go_wp2_with (at_builtin; refine list_append_kept ee rfl (.tmp 57) (.tmp 71) rfl rfl rfl ?c0 (HM.out.at_.keep ((Keep.refl [] _).drewN _) (by simp) (by simp)) ?c1 ?c2 ?c3 ?c4 ?c5 ?_)
        case c0 => simp
        case c1 => simp; exact HM.out.at_.blk.lt
        case c2 => have hh := HACC.out; omega
        case c3 => (have hh := HACC.out; rw [HEE.out]; simp only [hh]; try (simp; try omega))
        case c4 => rw [HEE.out]
        case c5 => rw [HEE.out]; rfl
        intro g2 n4 cap4 w7 hc7 hf7 hl7 hk7
        have HL7 := Lib.hid hl7
        have HK7 := Lib.hid hk7
        clear hl7 hk7
        go_wp2
        go_roundw
        case rel => exact ⟨i + 1, nl, acc ++ [ee], some ⟨g2, 0, none⟩, n4, cap4, by omega, by omega, by go_num, rfl, hnT, by simp [HACC.out], by rw [HEE.out]; exact HKL.out.add hnT (by omega) (by omega) (by have := HACC.out; omega) (by simp), HM.out.step (by omega) hblt hmlt (Keep.trans' (M := _) ((Keep.refl _ _).drewN _) HK7.out (fun x hx => .inl hx)) HL7.out⟩
        case measure => simp [intOf]; omega
      · obtain ⟨A', c', hv⟩ := own_slice hM.at_.own
        injection hv with hv1 hv2 hv3
        subst hv1 hv2 hv3
        obtain ⟨A', c', he, hec⟩ := own_ents_g hM.at_.own
        injection he with he1 he2 he3
        subst he1 he3
        clear he2
        have HEC := Lib.hid hec
        obtain ⟨D1, D2, p1, p2, q1, q2⟩ := kept_disk (T := T) (V := V) (B := B) (bt := bt) (sn := [115, 110, 97, 112]) acc (by omega) (by omega) (by omega) (by have := HBT.out; omega) (by decide) (fun e he => ⟨(hkl.ents e he).1, (hkl.ents e he).2.2⟩) (by omega)
        have T3 : ∀ W, KMid w W b m w1.heap.size 1048576 T V B bt [115, 110, 97, 112] #[.int .i64 st, .int .i64 sv, .int .i64 sb, .slice A0 l.length c0] (.slice A acc.length c) acc → Calls Tryz.prog 40 #[.pointer (some ⟨b, 0, none⟩), .int .i64 (T : Int), .int .i64 (V : Int)] W fun e w' => e = .returned (.int .i64 0) ∧ DiskAt w' b m D1 ∧ Keep [b, m] W w' := fun W hW => by
          have := saveTerm_calls hW.disk (Holds.start 1048576 (by decide)).good hW.tab T V (by omega) (by omega)
          rw [p1] at this
          exact this
        have T4 : ∀ W v, DiskAt W b m D1 → Tab W → EntsAt W v acc → Calls Tryz.prog 41 #[.pointer (some ⟨b, 0, none⟩), .int .i64 (B : Nat), .int .i64 (bt : Nat), .string (bs [115, 110, 97, 112]), v] W fun e w' => e = .returned (.int .i64 0) ∧ DiskAt w' b m D2 ∧ Keep [b, m] W w' := fun W v hW hTW hE => by
          have := saveSnap_calls hW q1.good hTW B bt (by omega) (by have := HBT.out; omega) [115, 110, 97, 112] (by decide) acc v hE ⟨by omega, fun e he => (hkl.ents e he).1.ok⟩
          rw [p2] at this
          exact this
        have HT3 := Lib.hid T3
        have HT4 := Lib.hid T4
        have HQ2 := Lib.hid q2
        have HM := Lib.hid hM
        have HKL := Lib.hid hkl
        have HACC := Lib.hid hacc
        have y5 : wr.cell? ⟨w1.heap.size, 5, none⟩ = some (.slice A acc.length c) := hM.at_.blk.cell 5
        have y2 : wr.cell? ⟨w1.heap.size, 2, none⟩ = some (.int .i64 (B : Nat)) := hM.at_.blk.cell 2
        have x3 : wr.cell? ⟨w.heap.size, 3, none⟩ = some (.slice A0 l.length c0) := hM.box.cell 3
        have hsl := hM.at_.blk.lt
        clear hM hkl hacc p1 p2 q1 q2 T3 T4 hec
        by_cases h1 : i < l.length
        · have d1 : decide ((i : Int) < (l.length : Int)) = true := by simp; omega
          have d2 : decide ((i : Int) < 6) = false := by simp; omega
          obtain ⟨wo, rfl⟩ : ∃ wo : World, wo = wr := ⟨_, rfl⟩
          go_wp2
          go_loopw [8, 78] (fun v x wq => KRel2 wo acc v x wq) (fun _ x _ => acc.length - (intOf x).toNat)
          case atStart => exact ⟨0, _, _, Nat.zero_le _, rfl, rfl, ⟨by simp [entsV], .inr ⟨wo.heap.size, 0, #[], rfl, Nat.le_refl _, heap_alloc_new _ _, Nat.le_refl _, Nat.zero_le _, rfl, by simp [entsV]⟩⟩, (Keep.refl _ _).alloc _⟩
          case round =>
            obtain ⟨k, A2, c2, hk, rfl, rfl, hown, hkeep⟩ := hrel
            have HOWN := Lib.hid hown
            have HK := Lib.hid hkeep
            clear hown hkeep
            by_cases hlt : k < acc.length
            · have HLT := Lib.hid hlt
              have hk6 : k ≤ 6 := by have hh := HACC.out; omega
              have dk : decide ((k : Int) < (acc.length : Int)) = true := by simp; omega
              obtain ⟨g2, o2, rfl, hc⟩ := HEC.out (by intro h; rw [h] at hlt; simp at hlt)
              obtain ⟨k0, k1, k2⟩ := entsV_at acc k hlt
              have q0 := hc _ _ k0
              have q1 := hc _ _ k1
              have q2 := hc _ _ k2
              have x0 := (HK.out.cell (World.block_lt_of_cell? _ _ q0) (by simp)).trans q0
              have x1 := (HK.out.cell (World.block_lt_of_cell? _ _ q1) (by simp)).trans q1
              have x2 := (HK.out.cell (World.block_lt_of_cell? _ _ q2) (by simp)).trans q2
              have hsn : acc.take (k + 1) = acc.take k ++ [acc[k]] := List.take_succ_eq_append_getElem hlt
              rw [Nat.mul_comm] at x0 x1 x2
              rw [← Nat.add_assoc] at x1 x2
              have HSN := Lib.hid hsn
              have HTL : Hid ((acc.take k).length = k) := (by rw [List.length_take]; omega : (acc.take k).length = k)
              clear hc k0 k1 k2 q0 q1 q2 hsn y5 y2 x3
              generalize acc[k] = ee at *
              obtain ⟨ei, et, ec⟩ := ee
              simp only at x0 x1 x2
              have hgl := World.block_lt_of_cell? _ _ x0
              simp only at hgl
              go_wp2_with (at_builtin; refine list_append_ent2 (w0 := wo) (v := .slice A2 k c2) (acc := acc.take k) ⟨ei, et, ec⟩ rfl (.tmp 82) (.tmp 84) rfl rfl rfl ?c0 ?c1 (HK.out.alloc _) ?c2 rfl rfl ?_)
              case c0 => simp
              case c1 =>
                rw [HTL.out]
                exact HOWN.out.alloc _
              case c2 =>
                have hh := HACC.out
                rw [HTL.out]
                omega
              intro A3 c3 w4 hown4 hk4
              rw [← HSN.out] at hown4
              have HOWN4 := Lib.hid hown4
              have HK4 := Lib.hid hk4
              clear hown4 hk4
              go_wp2
              go_roundw
              case rel => exact ⟨k + 1, A3, c3, HLT.out, by go_num, rfl, HOWN4.out, HK4.out⟩
              case measure => have hh := HLT.out; simp [intOf]; omega
            · obtain rfl : k = acc.length := by omega
              have dk : decide ((acc.length : Int) < (acc.length : Int)) = false := by simp
              have HM2 := Lib.hid (HM.out.grow HK.out)
              have HE : Hid (EntsAt wr (.slice A2 acc.length c2) acc) := own_ents (by have hh := HOWN.out; rw [List.take_of_length_le (Nat.le_refl _)] at hh; exact hh)
              have z0 : wr.cell? ⟨w1.heap.size, 0, none⟩ = some (.int .i64 (T : Int)) := HM2.out.at_.blk.cell 0
              have z1 : wr.cell? ⟨w1.heap.size, 1, none⟩ = some (.int .i64 (V : Int)) := HM2.out.at_.blk.cell 1
              have hb2 : w.heap.size + 2 ≤ b := by have hh := hb; simp at hh; omega
              have hm2 : w.heap.size + 2 ≤ m := by have hh := hm; simp at hh; omega
              clear y5 y2 x3
              go_wp2_with (first
                | (go_at_call 40; refine (HT3.out _ HM2.out).mono ?_; rintro e w4 ⟨rfl, hD, hk⟩; have hX := HM2.out.at_.blk.keep hk (by simp; omega); have z2 : w4.cell? ⟨w1.heap.size, 2, none⟩ = some (.int .i64 (B : Nat)) := hX.cell 2; have z3 : w4.cell? ⟨w1.heap.size, 3, none⟩ = some (.int .i64 (bt : Nat)) := hX.cell 3; have z4 : w4.cell? ⟨w1.heap.size, 4, none⟩ = some (.string (bs [115, 110, 97, 112])) := hX.cell 4; have HD4 := Lib.hid hD; have HK4 := Lib.hid hk; have HX4 := Lib.hid hX; clear hD hk hX z0 z1)
                | (go_at_call 41; refine (HT4.out _ _ HD4.out (HM2.out.tab.disk HM2.out.disk HK4.out) (HE.out.disk HM2.out.disk HK4.out)).mono ?_; rintro e w5 ⟨rfl, hD, hk⟩; have hX := HX4.out.keep hk (by simp; omega); have hR := (HM2.out.res.keep HK4.out (by simp; omega)).keep hk (by simp; omega); clear z2 z3 z4; have z0 : w5.cell? ⟨w1.heap.size, 0, none⟩ = some (.int .i64 (T : Int)) := hX.cell 0; have z1 : w5.cell? ⟨w1.heap.size, 1, none⟩ = some (.int .i64 (V : Int)) := hX.cell 1; have z2 : w5.cell? ⟨w1.heap.size, 2, none⟩ = some (.int .i64 (B : Nat)) := hX.cell 2; have z3 : w5.cell? ⟨w1.heap.size, 3, none⟩ = some (.int .i64 (bt : Nat)) := hX.cell 3; have z4 : w5.cell? ⟨w1.heap.size, 4, none⟩ = some (.string (bs [115, 110, 97, 112])) := hX.cell 4; have z5 : w5.cell? ⟨w1.heap.size, 5, none⟩ = some (.slice A acc.length c) := hX.cell 5; have r0 : w5.cell? ⟨w.heap.size + 1, 0, none⟩ = some (.int .i64 0) := hR.cell 0; have r1 : w5.cell? ⟨w.heap.size + 1, 1, none⟩ = some (.int .i64 0) := hR.cell 1; have r2 : w5.cell? ⟨w.heap.size + 1, 2, none⟩ = some (.int .i64 0) := hR.cell 2; have r3 : w5.cell? ⟨w.heap.size + 1, 3, none⟩ = some (.int .i64 0) := hR.cell 3; have r4 : w5.cell? ⟨w.heap.size + 1, 4, none⟩ = some (.string { data := #[] }) := hR.cell 4; have r5 : w5.cell? ⟨w.heap.size + 1, 5, none⟩ = some (.slice none 0 0) := hR.cell 5; have fr : ∀ i, w5.frozen? ⟨w.heap.size + 1, i, none⟩ = false := fun i => hR.frozen i; have HD5 := Lib.hid hD; have HK5 := Lib.hid hk; have HX5 := Lib.hid hX; have HR5 := Lib.hid hR; clear hD hk hX hR))
              go_region
              go_wp2
              obtain ⟨hB6, hK6⟩ := six_cells HR5.out (.int .i64 (T : Int)) (.int .i64 (V : Int)) (.int .i64 (B : Nat)) (.int .i64 (bt : Nat)) (.string (bs [115, 110, 97, 112])) (.slice A acc.length c)
              exact kept_ret rfl rfl hB6.drew (kept_end (T := T) (V := V) (B := B) (bt := bt) (sn := [115, 110, 97, 112]) HM2.out HK4.out HK5.out hK6.drew HD5.out HQ2.out HKL.out hTl hVl (by omega) (by have := HBT.out; omega) (by decide) (by have := HACC.out; omega) hb2 hm2 hblt hmlt)
        · have d1 : decide ((i : Int) < (l.length : Int)) = false := by simp; omega
          obtain ⟨wo, rfl⟩ : ∃ wo : World, wo = wr := ⟨_, rfl⟩
          go_wp2
          go_loopw [8, 78] (fun v x wq => KRel2 wo acc v x wq) (fun _ x _ => acc.length - (intOf x).toNat)
          case atStart => exact ⟨0, _, _, Nat.zero_le _, rfl, rfl, ⟨by simp [entsV], .inr ⟨wo.heap.size, 0, #[], rfl, Nat.le_refl _, heap_alloc_new _ _, Nat.le_refl _, Nat.zero_le _, rfl, by simp [entsV]⟩⟩, (Keep.refl _ _).alloc _⟩
          case round =>
            obtain ⟨k, A2, c2, hk, rfl, rfl, hown, hkeep⟩ := hrel
            have HOWN := Lib.hid hown
            have HK := Lib.hid hkeep
            clear hown hkeep
            by_cases hlt : k < acc.length
            · have HLT := Lib.hid hlt
              have hk6 : k ≤ 6 := by have hh := HACC.out; omega
              have dk : decide ((k : Int) < (acc.length : Int)) = true := by simp; omega
              obtain ⟨g2, o2, rfl, hc⟩ := HEC.out (by intro h; rw [h] at hlt; simp at hlt)
              obtain ⟨k0, k1, k2⟩ := entsV_at acc k hlt
              have q0 := hc _ _ k0
              have q1 := hc _ _ k1
              have q2 := hc _ _ k2
              have x0 := (HK.out.cell (World.block_lt_of_cell? _ _ q0) (by simp)).trans q0
              have x1 := (HK.out.cell (World.block_lt_of_cell? _ _ q1) (by simp)).trans q1
              have x2 := (HK.out.cell (World.block_lt_of_cell? _ _ q2) (by simp)).trans q2
              have hsn : acc.take (k + 1) = acc.take k ++ [acc[k]] := List.take_succ_eq_append_getElem hlt
              rw [Nat.mul_comm] at x0 x1 x2
              rw [← Nat.add_assoc] at x1 x2
              have HSN := Lib.hid hsn
              have HTL : Hid ((acc.take k).length = k) := (by rw [List.length_take]; omega : (acc.take k).length = k)
              clear hc k0 k1 k2 q0 q1 q2 hsn y5 y2 x3
              generalize acc[k] = ee at *
              obtain ⟨ei, et, ec⟩ := ee
              simp only at x0 x1 x2
              have hgl := World.block_lt_of_cell? _ _ x0
              simp only at hgl
              go_wp2_with (at_builtin; refine list_append_ent2 (w0 := wo) (v := .slice A2 k c2) (acc := acc.take k) ⟨ei, et, ec⟩ rfl (.tmp 82) (.tmp 84) rfl rfl rfl ?c0 ?c1 (HK.out.alloc _) ?c2 rfl rfl ?_)
              case c0 => simp
              case c1 =>
                rw [HTL.out]
                exact HOWN.out.alloc _
              case c2 =>
                have hh := HACC.out
                rw [HTL.out]
                omega
              intro A3 c3 w4 hown4 hk4
              rw [← HSN.out] at hown4
              have HOWN4 := Lib.hid hown4
              have HK4 := Lib.hid hk4
              clear hown4 hk4
              go_wp2
              go_roundw
              case rel => exact ⟨k + 1, A3, c3, HLT.out, by go_num, rfl, HOWN4.out, HK4.out⟩
              case measure => have hh := HLT.out; simp [intOf]; omega
            · obtain rfl : k = acc.length := by omega
              have dk : decide ((acc.length : Int) < (acc.length : Int)) = false := by simp
              have HM2 := Lib.hid (HM.out.grow HK.out)
              have HE : Hid (EntsAt wr (.slice A2 acc.length c2) acc) := own_ents (by have hh := HOWN.out; rw [List.take_of_length_le (Nat.le_refl _)] at hh; exact hh)
              have z0 : wr.cell? ⟨w1.heap.size, 0, none⟩ = some (.int .i64 (T : Int)) := HM2.out.at_.blk.cell 0
              have z1 : wr.cell? ⟨w1.heap.size, 1, none⟩ = some (.int .i64 (V : Int)) := HM2.out.at_.blk.cell 1
              have hb2 : w.heap.size + 2 ≤ b := by have hh := hb; simp at hh; omega
              have hm2 : w.heap.size + 2 ≤ m := by have hh := hm; simp at hh; omega
              clear y5 y2 x3
              go_wp2_with (first
                | (go_at_call 40; refine (HT3.out _ HM2.out).mono ?_; rintro e w4 ⟨rfl, hD, hk⟩; have hX := HM2.out.at_.blk.keep hk (by simp; omega); have z2 : w4.cell? ⟨w1.heap.size, 2, none⟩ = some (.int .i64 (B : Nat)) := hX.cell 2; have z3 : w4.cell? ⟨w1.heap.size, 3, none⟩ = some (.int .i64 (bt : Nat)) := hX.cell 3; have z4 : w4.cell? ⟨w1.heap.size, 4, none⟩ = some (.string (bs [115, 110, 97, 112])) := hX.cell 4; have HD4 := Lib.hid hD; have HK4 := Lib.hid hk; have HX4 := Lib.hid hX; clear hD hk hX z0 z1)
                | (go_at_call 41; refine (HT4.out _ _ HD4.out (HM2.out.tab.disk HM2.out.disk HK4.out) (HE.out.disk HM2.out.disk HK4.out)).mono ?_; rintro e w5 ⟨rfl, hD, hk⟩; have hX := HX4.out.keep hk (by simp; omega); have hR := (HM2.out.res.keep HK4.out (by simp; omega)).keep hk (by simp; omega); clear z2 z3 z4; have z0 : w5.cell? ⟨w1.heap.size, 0, none⟩ = some (.int .i64 (T : Int)) := hX.cell 0; have z1 : w5.cell? ⟨w1.heap.size, 1, none⟩ = some (.int .i64 (V : Int)) := hX.cell 1; have z2 : w5.cell? ⟨w1.heap.size, 2, none⟩ = some (.int .i64 (B : Nat)) := hX.cell 2; have z3 : w5.cell? ⟨w1.heap.size, 3, none⟩ = some (.int .i64 (bt : Nat)) := hX.cell 3; have z4 : w5.cell? ⟨w1.heap.size, 4, none⟩ = some (.string (bs [115, 110, 97, 112])) := hX.cell 4; have z5 : w5.cell? ⟨w1.heap.size, 5, none⟩ = some (.slice A acc.length c) := hX.cell 5; have r0 : w5.cell? ⟨w.heap.size + 1, 0, none⟩ = some (.int .i64 0) := hR.cell 0; have r1 : w5.cell? ⟨w.heap.size + 1, 1, none⟩ = some (.int .i64 0) := hR.cell 1; have r2 : w5.cell? ⟨w.heap.size + 1, 2, none⟩ = some (.int .i64 0) := hR.cell 2; have r3 : w5.cell? ⟨w.heap.size + 1, 3, none⟩ = some (.int .i64 0) := hR.cell 3; have r4 : w5.cell? ⟨w.heap.size + 1, 4, none⟩ = some (.string { data := #[] }) := hR.cell 4; have r5 : w5.cell? ⟨w.heap.size + 1, 5, none⟩ = some (.slice none 0 0) := hR.cell 5; have fr : ∀ i, w5.frozen? ⟨w.heap.size + 1, i, none⟩ = false := fun i => hR.frozen i; have HD5 := Lib.hid hD; have HK5 := Lib.hid hk; have HX5 := Lib.hid hX; have HR5 := Lib.hid hR; clear hD hk hX hR))
              go_region
              go_wp2
              obtain ⟨hB6, hK6⟩ := six_cells HR5.out (.int .i64 (T : Int)) (.int .i64 (V : Int)) (.int .i64 (B : Nat)) (.int .i64 (bt : Nat)) (.string (bs [115, 110, 97, 112])) (.slice A acc.length c)
              exact kept_ret rfl rfl hB6.drew (kept_end (T := T) (V := V) (B := B) (bt := bt) (sn := [115, 110, 97, 112]) HM2.out HK4.out HK5.out hK6.drew HD5.out HQ2.out HKL.out hTl hVl (by omega) (by have := HBT.out; omega) (by decide) (by have := HACC.out; omega) hb2 hm2 hblt hmlt)

end Go.Proofs.YtnlcipocobmgiaaGreatDoor
