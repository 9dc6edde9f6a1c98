/- The contract of (*term.State).loadLog. -/
import Derived.Test.YtnlcipocobmgiaaGreatDoorTermLoad
namespace Go.Proofs.YtnlcipocobmgiaaGreatDoor
open Go.RowKit
attribute [local go_sem] size_bs bs_append bs_extract

def decEnt (s : List UInt8) : Nat × Nat × List UInt8 × Int :=
  ((Ds.i ⟨s, 0, 0⟩ 1099511627776).1, ((Ds.i ⟨s, 0, 0⟩ 1099511627776).2.i 1099511627776).1, (((Ds.i ⟨s, 0, 0⟩ 1099511627776).2.i 1099511627776).2.str 100000).1, (((Ds.i ⟨s, 0, 0⟩ 1099511627776).2.i 1099511627776).2.str 100000).2.done.err)
/-- The entries that frames say, behind a number; false: one is no entry. -/
def logF : List (List UInt8) → Nat → List En × Bool
  | [], _ => ([], true)
  | f :: fs, last =>
    if (decEnt f).2.2.2 ≠ 0 then ([], false)
    else if (decEnt f).1 = last + 1 then (⟨(decEnt f).1, (decEnt f).2.1, (decEnt f).2.2.1⟩ :: (logF fs (decEnt f).1).1, (logF fs (decEnt f).1).2)
    else logF fs last
theorem scanF_le : ∀ (k : Nat) (s : List UInt8), (scanF k s).2 ≤ s.length ∧ (scanF k s).1.length * 8 ≤ s.length ∧ ∀ x ∈ (scanF k s).1, x.length ≤ s.length
  | 0, s => by simp [scanF]
  | k + 1, s => by
    simp only [scanF]
    split
    · simp
    · rename_i h
      have h1 := openF_ok (s := s) (by simpa using h)
      have h2 := scanF_le k (s.drop (openF s).2.1.toNat)
      simp only [List.length_drop] at h2
      refine ⟨by simp only; omega, by simp only [List.length_cons]; omega, fun x hx => ?_⟩
      simp only [List.mem_cons] at hx
      rcases hx with rfl | hx
      · exact h1.2.2
      · have := h2.2.2 x hx
        omega
theorem scan_le (s : List UInt8) : (scan s).2 ≤ s.length ∧ (scan s).1.length * 8 ≤ s.length ∧ ∀ x ∈ (scan s).1, x.length ≤ s.length := scanF_le _ s

theorem Tryz.info62 : (Tryz.prog.info? 62).map (fun i => (i.zero, i.size, i.bytes)) = some (some (.agg #[.int .i64 0, .int .i64 0, .string ⟨#[]⟩]), 3, 32) := by kernel_rfl

/-- What the state's block and its entries' row are. -/
structure LogAt (w : World) (B sb : Nat) (c0 c1 c2 c3 c4 lg : Value) (acc : List En) : Prop where
  blk : Blk w sb 46 #[c0, c1, c2, c3, c4, lg]
  own : w.ownsRow B 62 3 lg acc.length (entsV acc)

theorem LogAt.ne_ {w : World} {B sb : Nat} {c0 c1 c2 c3 c4 lg : Value} {acc : List En} (h : LogAt w B sb c0 c1 c2 c3 c4 lg acc) : lg.ownBlock ≠ some sb := own_blk_ne h.own h.blk (by decide)

theorem LogAt.keep {w w' : World} {M : List Nat} {B sb : Nat} {c0 c1 c2 c3 c4 lg : Value} {acc : List En} (h : LogAt w B sb c0 c1 c2 c3 c4 lg acc) (hk : Keep M w w') (h1 : sb ∉ M) (h2 : ∀ k, lg.ownBlock = some k → k ∉ M) : LogAt w' B sb c0 c1 c2 c3 c4 lg acc :=
  ⟨h.blk.keep hk h1, hk.owns h.own h2⟩

/-- append of one entry to the state's entries. -/
theorem list_append_ent {ops : Array Oper} {rest : List Oper} {o : Oper} {a : Act} {Q : Exit → Act → World → Prop} {wr : World} {B sb : Nat} {c0 c1 c2 c3 c4 lg : Value} {acc : List En} (e : En)
    (hgd : o.guard = none) (s x : Operand) (ho : o.op = .call { callee := .builtin .append, args := #[s, x], argTypes := #[40, 40] })
    (hs : a.eval s = lg) (hx : a.eval x = .slice (some ⟨wr.heap.size, 0, none⟩) 1 1) (hE : LogAt wr B sb c0 c1 c2 c3 c4 lg acc) (hB : B ≤ wr.heap.size) (hn : acc.length ≤ 1099511627776)
    (h : ∀ g n cap w', w'.cell? ⟨sb, 5, none⟩ = some lg → w'.frozen? ⟨sb, 5, none⟩ = false → LogAt (w'.setCell ⟨sb, 5, none⟩ (.slice (some ⟨g, 0, none⟩) n cap)) B sb c0 c1 c2 c3 c4 (.slice (some ⟨g, 0, none⟩) n cap) (acc ++ [e]) →
      Keep (sb :: lg.ownBlock.toList) wr (w'.setCell ⟨sb, 5, none⟩ (.slice (some ⟨g, 0, none⟩) n cap)) → (lg.ownBlock = some g ∨ wr.heap.size ≤ g) → wpList Tryz.prog ops Q rest (a.put o.dst (.slice (some ⟨g, 0, none⟩) n cap)) w') :
    wpList Tryz.prog ops Q (o :: rest) a (wr.alloc (.cells #[.int .i64 (e.index : Int), .int .i64 (e.term : Int), .string (bs e.cmd)] 62)) := by
  obtain ⟨i0, hi, hz0, hz1, hz2⟩ := info_parts Tryz.info62
  have hlt := hE.blk.lt
  have hne := hE.ne_
  refine wpList_append_lies _ hgd s x 40 ho B 62 i0 _ 3 32 Tryz.underlying40 hi hz0 hz1 hz2 rfl (by omega) lg _ _ hs (hE.own.alloc (.cells #[.int .i64 (e.index : Int), .int .i64 (e.term : Int), .string (bs e.cmd)] 62)) ⟨wr.heap.size, 0, none⟩ 1 1 e.cells hx (by simp [En.cells]) (World.news_of_block (cs := #[.int .i64 (e.index : Int), .int .i64 (e.term : Int), .string (bs e.cmd)]) (t := 62) (fr := (0, 0)) (heap_alloc_new wr _)) (by simp [En.cells, Value.oneCell']) (by omega) (by unfold maxLen; omega) (by omega) (by simp; omega) (wr.heap.size + 1) (by simp) ?_
  intro g cap w1 hown1 hgrow hat _
  have hB1 : Blk w1 sb 46 #[c0, c1, c2, c3, c4, lg] := (hE.blk.alloc _).grown hgrow (fun e => hne e.symm)
  have hgs : g ≠ sb := by
    rintro rfl
    rcases hat with h | h
    · exact hne h
    · omega
  refine h g _ cap w1 (hB1.cell 5) (hB1.frozen 5) ⟨hB1.set_ 5 _, ?_⟩ ?_ ?_
  · have e1 : entsV (acc ++ [e]) = entsV acc ++ e.cells := by simp [entsV]
    rw [e1, List.length_append]
    exact ((Keep.refl [sb] w1).setCell (.inl (by simp)) _).owns hown1 (fun k hk => by
      simp only [Value.ownBlock, Option.some.injEq] at hk
      subst hk
      simpa using hgs)
  · exact (((Keep.refl _ _).alloc _).grown hgrow (fun k hk => by simp [hk])).setCell (.inl (by simp)) _
  · rcases hat with h | h
    · exact .inl h
    · right; omega

end Go.Proofs.YtnlcipocobmgiaaGreatDoor
/- The contract of (*term.State).loadLog: the walk. -/
namespace Go.Proofs.YtnlcipocobmgiaaGreatDoor
open Go.RowKit
attribute [local go_sem] size_bs bs_append bs_extract

theorem own_slice {w : World} {B : Nat} {e : TypeId} {size n : Nat} {v : Value} {xs : List Value} (h : w.ownsRow B e size v n xs) : ∃ A c, v = .slice A n c := by
  rcases h.2 with ⟨rfl, rfl⟩ | ⟨g, cap, cur, rfl, _, _⟩
  · exact ⟨_, _, rfl⟩
  · exact ⟨_, _, rfl⟩

/-- The log's file, read and, where bytes are left, cut. -/
def Dk.logDisk (D : Dk) : Dk × Int :=
  if (D.readT nLog).2 ≠ 0 then (D.tries.1, (D.readT nLog).2)
  else if (scan (D.readT nLog).1).2 < (D.readT nLog).1.length then D.tries.1.save nLog ((D.readT nLog).1.take (scan (D.readT nLog).1).2)
  else (D.tries.1, 0)
def Dk.loadLog (D : Dk) (base : Nat) : Dk × List En × Int :=
  if D.logDisk.2 ≠ 0 then (D.logDisk.1, [], D.logDisk.2)
  else if (logF (scan (D.readT nLog).1).1 base).2 then (D.logDisk.1, (logF (scan (D.readT nLog).1).1 base).1, 0) else (D.logDisk.1, [], 3)

def LogPost (D : Dk) (base : Nat) (w : World) (b m sb : Nat) (c0 c1 c3 c4 : Value) (e : Ending) (w' : World) : Prop :=
  e = .returned (.int .i64 (D.loadLog base).2.2) ∧ DiskAt w' b m (D.loadLog base).1 ∧ Keep [b, m, sb] w w' ∧
    ((D.loadLog base).2.2 = 0 → ∃ lg, LogAt w' w.heap.size sb c0 c1 (.int .i64 (base : Int)) c3 c4 lg (D.loadLog base).2.1)

structure LRel (fs : List (List UInt8)) (base : Nat) (b m sb : Nat) (c0 c1 c3 c4 vv : Value) (DL : Dk) (w wr : World) (k last : Nat) (lg : Value) (acc : List En) : Prop where
  hk : k ≤ fs.length
  hlast : last ≤ 4398046511104
  hacc : acc.length ≤ k
  log : LogAt wr w.heap.size sb c0 c1 (.int .i64 (base : Int)) c3 c4 lg acc
  disk : DiskAt wr b m DL
  own : wr.ownsRow 0 9 1 vv fs.length (strs fs)
  keep : Keep [b, m, sb] w wr
  eq : logF fs base = (acc ++ (logF (fs.drop k) last).1, (logF (fs.drop k) last).2)
def LRelV (fs : List (List UInt8)) (base : Nat) (b m sb : Nat) (c0 c1 c3 c4 vv : Value) (DL : Dk) (w : World) (s10 s48 : Value) (wr : World) : Prop :=
  ∃ k last lg acc, s48 = .int .i64 ((k : Nat) : Int) ∧ s10 = .int .i64 ((last : Nat) : Int) ∧ LRel fs base b m sb c0 c1 c3 c4 vv DL w wr k last lg acc

theorem own_base0 {w : World} {B : Nat} {e : TypeId} {size n : Nat} {v : Value} {xs : List Value} (h : w.ownsRow B e size v n xs) : w.ownsRow 0 e size v n xs := by
  refine ⟨h.1, ?_⟩
  rcases h.2 with h2 | ⟨g, cap, cur, hv, _, r⟩
  · exact .inl h2
  · exact .inr ⟨g, cap, cur, hv, Nat.zero_le _, r⟩

/-- A round of the loop that decodes: what is known behind its decoding. -/
structure Dec4 (w wr w6 : World) (b m sb : Nat) : Prop where
  keep : Keep [wr.heap.size] wr w6
theorem LRel.dec {fs : List (List UInt8)} {base b m sb : Nat} {c0 c1 c3 c4 vv lg : Value} {DL : Dk} {w wr w6 : World} {k last : Nat} {acc : List En} (h : LRel fs base b m sb c0 c1 c3 c4 vv DL w wr k last lg acc) (hk : Keep [wr.heap.size] wr w6) :
    LRel fs base b m sb c0 c1 c3 c4 vv DL w w6 k last lg acc := by
  have hsb := h.log.blk.lt
  have hb := h.disk.blk.lt
  have hm := h.disk.map.lt
  refine ⟨h.hk, h.hlast, h.hacc, h.log.keep hk (by simp; omega) (fun g hg => ?_), h.disk.keep hk (by simp; omega) (by simp; omega), hk.owns h.own (fun g hg => ?_), h.keep.trans' hk (fun x hx => ?_), h.eq⟩
  · have := (h.log.own.lt g hg).2
    simp; omega
  · have := (h.own.lt g hg).2
    simp; omega
  · simp only [List.mem_cons, List.not_mem_nil, or_false] at hx
    subst hx
    exact .inr h.keep.size

set_option maxRecDepth 100000 in
set_option maxHeartbeats 1000000 in
theorem loadLog_calls {w : World} {b m sb : Nat} {D : Dk} (h : DiskAt w b m D) (hg : D.Good) (hT : Tab w) (base : Nat) (hbase : base ≤ 4398046511104) (c0 c1 c3 c4 : Value) (hS : Blk w sb 46 #[c0, c1, .int .i64 (base : Int), c3, c4, .slice none 0 0]) :
    Calls Tryz.prog 51 #[.pointer (some ⟨sb, 0, none⟩), .pointer (some ⟨b, 0, none⟩)] w (LogPost D base w b m sb c0 c1 c3 c4) := by
  have R := readT_calls h hg nLog
  have hle := hg.readT_le nLog
  have hgt := hg.tries
  have hsb : sb ≠ b := hS.ne_ h.blk (by decide)
  have hsm : m ≠ sb := h.map.ne_ hS
  have hslt := hS.lt
  have H := Lib.hid h
  have HT := Lib.hid hT
  have HS := Lib.hid hS
  have hr : D.logDisk = if (D.readT nLog).2 ≠ 0 then (D.tries.1, (D.readT nLog).2)
    else if (scan (D.readT nLog).1).2 < (D.readT nLog).1.length then D.tries.1.save nLog ((D.readT nLog).1.take (scan (D.readT nLog).1).2)
    else (D.tries.1, 0) := rfl
  have hr2 : D.loadLog base = if D.logDisk.2 ≠ 0 then (D.logDisk.1, [], D.logDisk.2)
    else if (logF (scan (D.readT nLog).1).1 base).2 then (D.logDisk.1, (logF (scan (D.readT nLog).1).1 base).1, 0) else (D.logDisk.1, [], 3) := rfl
  have hlp : ∀ e w', LogPost D base w b m sb c0 c1 c3 c4 e w' = (e = .returned (.int .i64 (D.loadLog base).2.2) ∧ DiskAt w' b m (D.loadLog base).1 ∧ Keep [b, m, sb] w w' ∧
    ((D.loadLog base).2.2 = 0 → ∃ lg, LogAt w' w.heap.size sb c0 c1 (.int .i64 (base : Int)) c3 c4 lg (D.loadLog base).2.1)) := fun _ _ => rfl
  have HLP := Lib.hid hlp
  clear hlp
  generalize D.readT nLog = q at *
  generalize D.tries.1 = D1 at *
  obtain ⟨t, e1⟩ := q
  simp only at R hr hr2 hle
  have HR := Lib.hid R
  clear R h hT hS
  by_cases he : e1 = 0
  · subst he
    rw [if_neg (by simp)] at hr
    obtain ⟨sl1, sl2, sl3⟩ := scan_le t
    have SC := fun (W : World) (hW : Tab W) => scan_calls t W hW (by omega)
    have HSC := Lib.hid SC
    have hsc : scan t = ((scan t).1, (scan t).2) := rfl
    by_cases hcut : (scan t).2 < t.length
    · rw [if_pos hcut] at hr
      have SV := fun (W : World) (hW : DiskAt W b m D1) => save_calls hW hgt nLog (by decide) (t.take (scan t).2) (by simp; omega)
      rw [← hr] at SV
      generalize D.logDisk = q3 at *
      obtain ⟨D2, e2⟩ := q3
      simp only at SV hr2
      have HSV := Lib.hid SV
      clear hr SC SV
      unfold ScanPost at HSC
      generalize scan t = q2 at *
      obtain ⟨fs, n⟩ := q2
      simp only at sl1 sl2 sl3 hcut hr2
      have HSL := Lib.hid sl3
      clear sl3 hsc
      have hn : (n : Int) < (t.length : Int) := by omega
      by_cases he2 : e2 = 0
      · subst he2
        rw [if_neg (by simp)] at hr2
        have HR2 := Lib.hid hr2
        clear hr2
        go_enter Tryz.func51, Tryz.ntmps51
        go_wp2_with (first
          | (go_at_call 90; refine HR.out.mono ?_; rintro e w1 ⟨rfl, hD, hk⟩; have HD := Lib.hid hD; have HK := Lib.hid hk; clear hD hk)
          | (go_at_call 91; refine (HSC.out _ (HT.out.disk H.out HK.out)).mono ?_; rintro e w2 ⟨v, rfl, hown, hk2⟩; obtain ⟨A, cp, rfl⟩ := own_slice hown; have HOWN := Lib.hid (own_base0 hown); have HK2 := Lib.hid hk2; have HNEW : Hid (∀ k, (Value.slice A fs.length cp).ownBlock = some k → w1.heap.size ≤ k) := (fun k hk => (hown.lt k hk).1); clear hown hk2)
          | (go_at_call 73; refine (HSV.out _ (HD.out.keep HK2.out (by simp) (by simp))).mono ?_; rintro e w3 ⟨rfl, hD3, hk3⟩; have HD3 := Lib.hid hD3; have HK3x := Lib.hid hk3; have hB2 : Blk w3 sb 46 #[c0, c1, .int .i64 (base : Int), c3, c4, .slice none 0 0] := (((HS.out.keep HK.out (by simpa using ⟨hsb, hsm.symm⟩)).keep HK2.out (by simp)).keep hk3 (by simpa using ⟨hsb, hsm.symm⟩)); have s2 : w3.cell? ⟨sb, 2, none⟩ = some (.int .i64 (base : Int)) := hB2.cell 2; have HB2 := Lib.hid hB2; clear hD3 hk3 hB2))
        have l0 : LRel fs base b m sb c0 c1 c3 c4 (.slice A fs.length cp) D2 w w3 0 base (.slice none 0 0) [] := ⟨Nat.zero_le _, hbase, Nat.zero_le _, ⟨HB2.out, World.ownsRow_nil _ _ _ _⟩, HD3.out, HK3x.out.owns HOWN.out (fun x hx hx2 => by
          have h1 := HNEW.out x hx
          have h2 := HD.out.blk.lt
          have h3 := HD.out.map.lt
          simp only [List.mem_cons, List.not_mem_nil, or_false] at hx2
          omega), ((HK.out.mono (by simp)).trans HK2.out.nil_).trans (HK3x.out.mono (by simp)), by simp⟩
        have L0 := Lib.hid l0
        clear l0
        go_loopw [10, 48, 12, 13, 14, 15, 16] (fun s10 s48 _ _ _ _ _ wr => LRelV fs base b m sb c0 c1 c3 c4 (.slice A fs.length cp) D2 w s10 s48 wr) (fun _ s48 _ _ _ _ _ _ => fs.length - (intOf s48).toNat)
        case atStart => exact ⟨0, base, _, _, rfl, rfl, L0.out⟩
        case round =>
          obtain ⟨k, last, lg, acc, rfl, rfl, hL⟩ := hrel
          have HL := Lib.hid hL
          have hk1 := hL.hk
          have hlast := hL.hlast
          have hacc := hL.hacc
          have hwr := hL.keep.size
          clear hL
          by_cases hlt : k < fs.length
          · obtain ⟨g, cpp, hv, _, _⟩ := HL.out.own.form (by omega)
            have hA : A = some ⟨g, 0, none⟩ ∧ cp = cpp := by injection hv with h1 h2 h3; exact ⟨h1, h3⟩
            obtain ⟨rfl, rfl⟩ := hA
            have hc : wr.cell? ⟨g, k, none⟩ = some (.string (bs fs[k])) := by
              have := HL.out.own.cellAt k (by omega)
              rw [this]
              simp [strs, hlt]
            have hdrop : fs.drop k = fs[k] :: fs.drop (k + 1) := List.drop_eq_getElem_cons hlt
            have heq := HL.out.eq
            rw [hdrop] at heq
            have hfl : fs[k].length ≤ 1099511627776 := by have := HSL.out _ (List.getElem_mem hlt); omega
            generalize fs[k] = f at *
            have hlf : logF (f :: fs.drop (k + 1)) last = if (decEnt f).2.2.2 ≠ 0 then ([], false)
              else if (decEnt f).1 = last + 1 then (⟨(decEnt f).1, (decEnt f).2.1, (decEnt f).2.2.1⟩ :: (logF (fs.drop (k + 1)) (decEnt f).1).1, (logF (fs.drop (k + 1)) (decEnt f).1).2)
              else logF (fs.drop (k + 1)) last := rfl
            have hdt : decEnt f = ((Ds.i ⟨f, 0, 0⟩ 1099511627776).1, ((Ds.i ⟨f, 0, 0⟩ 1099511627776).2.i 1099511627776).1, (((Ds.i ⟨f, 0, 0⟩ 1099511627776).2.i 1099511627776).2.str 100000).1, (((Ds.i ⟨f, 0, 0⟩ 1099511627776).2.i 1099511627776).2.str 100000).2.done.err) := rfl
            rw [hdt] at hlf
            have C1 := fun (W : World) (g : Nat) (hW : DecAt W g ⟨f, 0, 0⟩) => di_calls hW (Nat.zero_le _) (by simp only; omega) 1099511627776 (by omega)
            obtain ⟨a1, a2, a3⟩ := Ds.i_at (d := ⟨f, 0, 0⟩) (Nat.zero_le _) 1099511627776
            generalize Ds.i ⟨f, 0, 0⟩ 1099511627776 = q1 at *
            obtain ⟨n1, d1⟩ := q1
            simp only at C1 a1 a2 a3
            have hl1 : d1.s.length ≤ 4611686018427387904 := by rw [a2]; omega
            have C2 := fun (W : World) (g : Nat) (hW : DecAt W g d1) => di_calls hW a1 hl1 1099511627776 (by omega)
            obtain ⟨b1, b2, b3⟩ := Ds.i_at (d := d1) a1 1099511627776
            generalize d1.i 1099511627776 = q2 at *
            obtain ⟨n2, d2⟩ := q2
            simp only at C2 b1 b2 b3
            have hl2 : d2.s.length ≤ 4611686018427387904 := by rw [b2]; exact hl1
            have C3 := fun (W : World) (g : Nat) (hW : DecAt W g d2) => ds_calls hW b1 hl2 100000 (by omega)
            obtain ⟨e1, e2⟩ := Ds.str_at (d := d2) b1 100000
            generalize d2.str 100000 = q3 at *
            obtain ⟨n3, d3⟩ := q3
            simp only at C3 e1 e2
            have hl3 : d3.s.length ≤ 4611686018427387904 := by rw [e2]; exact hl2
            have C4 := fun (W : World) (g : Nat) (hW : DecAt W g d3) => done_calls hW e1 hl3
            simp only at hlf
            generalize d3.done = d4 at *
            have HC1 := Lib.hid C1
            have HC2 := Lib.hid C2
            have HC3 := Lib.hid C3
            have HC4 := Lib.hid C4
            have HLF := Lib.hid hlf
            have HEQ := Lib.hid heq
            clear C1 C2 C3 C4 hdt a2 b2 e2 hlf heq hdrop hv
            have tok1 : True := trivial
            by_cases hbad : d4.err = 0
            · by_cases hnx : n1 = last + 1
              · have hbx : ((n1 : Int) == (last : Int) + 1) = true := by rw [beq_iff_eq]; omega
                have HNX := Lib.hid hnx
                have HBAD := Lib.hid hbad
                have hbe : (d4.err != 0) = false := by simpa using hbad
                clear hnx hbad
                go_wp2_with (first
                  | (go_at_call 86; refine (from_calls f _).mono ?_; rintro e x2 ⟨rfl, hF, hk2⟩; have HF := Lib.hid hF; have HK2x := Lib.hid hk2; clear hF hk2)
                                        | (go_at_call 87; have _t := tok1; refine (HC1.out _ _ HF.out).mono ?_; rintro e x3 ⟨rfl, hD3, hk3⟩; have HD3 := Lib.hid hD3; have HK3 := Lib.hid hk3; clear hD3 hk3 tok1)
                                        | (go_at_call 87; refine (HC2.out _ _ HD3.out).mono ?_; rintro e x4 ⟨rfl, hD4, hk4⟩; have HD4 := Lib.hid hD4; have HK4 := Lib.hid hk4; clear hD4 hk4)
                                        | (go_at_call 89; refine (HC3.out _ _ HD4.out).mono ?_; rintro e x5 ⟨rfl, hD5, hk5⟩; have HD5 := Lib.hid hD5; have HK5 := Lib.hid hk5; clear hD5 hk5)
                                        | (go_at_call 88; refine (HC4.out _ _ HD5.out).mono ?_; rintro e x6 ⟨rfl, hD6, hk6⟩; have hL6 := HL.out.dec (HK2x.out.nil_.trans (HK3.out.trans (HK4.out.trans (HK5.out.trans hk6)))); have hsz6 : wr.heap.size ≤ x6.heap.size := (HK2x.out.nil_.trans (HK3.out.trans (HK4.out.trans (HK5.out.trans hk6)))).size; have l5 : x6.cell? ⟨sb, 5, none⟩ = some lg := hL6.log.blk.cell 5; have HL6 := Lib.hid hL6; clear hD6 hk6 hL6)
                  | (at_builtin; refine list_append_ent (lg := lg) ⟨n1, n2, n3⟩ rfl (.tmp 71) (.tmp 76) rfl rfl rfl HL6.out.log (Nat.le_trans hwr hsz6) (by have := HL6.out.hacc; have := HL6.out.hk; omega) ?_; intro g2 n4 cap4 w7 hc7 hf7 hl7 hk7 hat7; have HL7 := Lib.hid hl7; have HK7 := Lib.hid hk7; clear hl7 hk7))
                go_roundw
                case rel =>
                  refine ⟨k + 1, n1, .slice (some ⟨g2, 0, none⟩) n4 cap4, acc ++ [⟨n1, n2, n3⟩], by go_num, rfl, ?_⟩
                  have hsb6 := HL6.out.log.blk.lt
                  have hlg : ∀ x, lg.ownBlock = some x → w.heap.size ≤ x := fun x hx => (HL6.out.log.own.lt x hx).1
                  have nlb : lg.ownBlock ≠ some b := own_blk_ne HL6.out.log.own HL6.out.disk.blk (by decide)
                  have nlm : lg.ownBlock ≠ some m := fun e => by
                    obtain ⟨es, cc, hm, _⟩ := HL6.out.disk.map
                    rcases HL6.out.log.own.2 with ⟨hh, _⟩ | ⟨g', cap', cur', hh, _, hh2, _⟩
                    · rw [hh] at e; simp [Value.ownBlock] at e
                    · rw [hh] at e; simp only [Value.ownBlock, Option.some.injEq] at e; subst e; rw [hm] at hh2; cases hh2
                  have kin : ∀ x, x ∈ sb :: lg.ownBlock.toList → x = sb ∨ lg.ownBlock = some x := fun x hx => by simpa using hx
                  refine ⟨by omega, by omega, by simp; omega, HL7.out, HL6.out.disk.keep HK7.out (fun hx => ?_) (fun hx => ?_), HK7.out.owns HL6.out.own (fun x hx hx2 => ?_), HL6.out.keep.trans' HK7.out (fun x hx => ?_), ?_⟩
                  · rcases kin _ hx with h | h; exact hsb h.symm; exact nlb h
                  · rcases kin _ hx with h | h; exact hsm h; exact nlm h
                  · rcases kin _ hx2 with h | h
                    · subst h; exact own_blk_ne HL6.out.own HL6.out.log.blk (by decide) hx
                    · rcases HL6.out.log.own.2 with ⟨hh, _⟩ | ⟨g', cap', cur', hh, _, hh2, _⟩
                      · rw [hh] at h; simp [Value.ownBlock] at h
                      · rw [hh] at h; simp only [Value.ownBlock, Option.some.injEq] at h; subst h
                        exact own_blk_ne HL6.out.own (t := 62) (cs := cur') hh2 (by decide) hx
                  · rcases kin _ hx with h | h; exact .inl (by simp [h]); exact .inr (hlg x h)
                  · rw [HEQ.out, HLF.out, if_neg (by simpa using HBAD.out), if_pos HNX.out]
                    simp
                case measure => simp [intOf]; omega
              · have hbx : ((n1 : Int) == (last : Int) + 1) = false := by rw [beq_eq_false_iff_ne]; omega
                have HNX := Lib.hid hnx
                have HBAD := Lib.hid hbad
                have hbe : (d4.err != 0) = false := by simpa using hbad
                clear hnx hbad
                go_wp2_with (first
                  | (go_at_call 86; refine (from_calls f _).mono ?_; rintro e x2 ⟨rfl, hF, hk2⟩; have HF := Lib.hid hF; have HK2x := Lib.hid hk2; clear hF hk2)
                                        | (go_at_call 87; have _t := tok1; refine (HC1.out _ _ HF.out).mono ?_; rintro e x3 ⟨rfl, hD3, hk3⟩; have HD3 := Lib.hid hD3; have HK3 := Lib.hid hk3; clear hD3 hk3 tok1)
                                        | (go_at_call 87; refine (HC2.out _ _ HD3.out).mono ?_; rintro e x4 ⟨rfl, hD4, hk4⟩; have HD4 := Lib.hid hD4; have HK4 := Lib.hid hk4; clear hD4 hk4)
                                        | (go_at_call 89; refine (HC3.out _ _ HD4.out).mono ?_; rintro e x5 ⟨rfl, hD5, hk5⟩; have HD5 := Lib.hid hD5; have HK5 := Lib.hid hk5; clear hD5 hk5)
                                        | (go_at_call 88; refine (HC4.out _ _ HD5.out).mono ?_; rintro e x6 ⟨rfl, hD6, hk6⟩; have hL6 := HL.out.dec (HK2x.out.nil_.trans (HK3.out.trans (HK4.out.trans (HK5.out.trans hk6)))); have hsz6 : wr.heap.size ≤ x6.heap.size := (HK2x.out.nil_.trans (HK3.out.trans (HK4.out.trans (HK5.out.trans hk6)))).size; have l5 : x6.cell? ⟨sb, 5, none⟩ = some lg := hL6.log.blk.cell 5; have HL6 := Lib.hid hL6; clear hD6 hk6 hL6))
                go_roundw
                case rel =>
                  refine ⟨k + 1, last, lg, acc, by go_num, rfl, by omega, by omega, by omega, HL6.out.log, HL6.out.disk, HL6.out.own, HL6.out.keep, ?_⟩
                  rw [HEQ.out, HLF.out, if_neg (by simpa using HBAD.out), if_neg HNX.out]
                case measure => simp [intOf]; omega
            · have hbe : (d4.err != 0) = true := by simpa using hbad
              have HBAD := Lib.hid hbad
              clear hbad
              go_wp2_with (first
                | (go_at_call 86; refine (from_calls f _).mono ?_; rintro e x2 ⟨rfl, hF, hk2⟩; have HF := Lib.hid hF; have HK2x := Lib.hid hk2; clear hF hk2)
                                        | (go_at_call 87; have _t := tok1; refine (HC1.out _ _ HF.out).mono ?_; rintro e x3 ⟨rfl, hD3, hk3⟩; have HD3 := Lib.hid hD3; have HK3 := Lib.hid hk3; clear hD3 hk3 tok1)
                                        | (go_at_call 87; refine (HC2.out _ _ HD3.out).mono ?_; rintro e x4 ⟨rfl, hD4, hk4⟩; have HD4 := Lib.hid hD4; have HK4 := Lib.hid hk4; clear hD4 hk4)
                                        | (go_at_call 89; refine (HC3.out _ _ HD4.out).mono ?_; rintro e x5 ⟨rfl, hD5, hk5⟩; have HD5 := Lib.hid hD5; have HK5 := Lib.hid hk5; clear hD5 hk5)
                                        | (go_at_call 88; refine (HC4.out _ _ HD5.out).mono ?_; rintro e x6 ⟨rfl, hD6, hk6⟩; have hL6 := HL.out.dec (HK2x.out.nil_.trans (HK3.out.trans (HK4.out.trans (HK5.out.trans hk6)))); have hsz6 : wr.heap.size ≤ x6.heap.size := (HK2x.out.nil_.trans (HK3.out.trans (HK4.out.trans (HK5.out.trans hk6)))).size; have l5 : x6.cell? ⟨sb, 5, none⟩ = some lg := hL6.log.blk.cell 5; have HL6 := Lib.hid hL6; clear hD6 hk6 hL6))
              go_ret
              have hf : (logF fs base).2 = false := by rw [HEQ.out, HLF.out, if_pos HBAD.out]
              rw [HLP.out, HR2.out, hf]
              exact ⟨rfl, HL6.out.disk, HL6.out.keep, fun h => by simp at h⟩
          · go_wp2
            go_ret
            have hend : logF fs base = (acc, true) := by
              rw [HL.out.eq, List.drop_eq_nil_of_le (by omega)]
              simp [logF]
            rw [HLP.out, HR2.out, hend]
            exact ⟨rfl, HL.out.disk, HL.out.keep, fun _ => ⟨lg, HL.out.log⟩⟩
      · rw [if_pos he2] at hr2
        have HR2 := Lib.hid hr2
        clear hr2
        have hb : (e2 != 0) = true := by simpa using he2
        have hb2 : (e2 == 0) = false := by simpa using he2
        go_enter Tryz.func51, Tryz.ntmps51
        go_wp2_with (first
          | (go_at_call 90; refine HR.out.mono ?_; rintro e w1 ⟨rfl, hD, hk⟩; have HD := Lib.hid hD; have HK := Lib.hid hk; clear hD hk)
          | (go_at_call 91; refine (HSC.out _ (HT.out.disk H.out HK.out)).mono ?_; rintro e w2 ⟨v, rfl, hown, hk2⟩; obtain ⟨A, cp, rfl⟩ := own_slice hown; have HK2 := Lib.hid hk2; clear hown hk2)
          | (go_at_call 73; refine (HSV.out _ (HD.out.keep HK2.out (by simp) (by simp))).mono ?_; rintro e w3 ⟨rfl, hD3, hk3⟩; have HD3 := Lib.hid hD3; have HK3 := Lib.hid hk3; clear hD3 hk3))
        go_ret
        rw [HLP.out, HR2.out]
        exact ⟨rfl, HD3.out, ((HK.out.mono (by simp)).trans HK2.out.nil_).trans (HK3.out.mono (by simp)), fun h => absurd h he2⟩
    · rw [if_neg hcut] at hr
      rw [hr, if_neg (by simp)] at hr2
      have HR2 := Lib.hid hr2
      clear hr hr2 SC
      unfold ScanPost at HSC
      generalize scan t = q2 at *
      obtain ⟨fs, n⟩ := q2
      simp only at sl1 sl2 sl3 hcut
      have hn : n = t.length := by omega
      have HSL := Lib.hid sl3
      clear sl3 hsc
      go_enter Tryz.func51, Tryz.ntmps51
      go_wp2_with (first
        | (go_at_call 90; refine HR.out.mono ?_; rintro e w1 ⟨rfl, hD, hk⟩; have HD := Lib.hid hD; have HK := Lib.hid hk; clear hD hk)
        | (go_at_call 91; refine (HSC.out _ (HT.out.disk H.out HK.out)).mono ?_; rintro e w2 ⟨v, rfl, hown, hk2⟩; obtain ⟨A, cp, rfl⟩ := own_slice hown; have HOWN := Lib.hid (own_base0 hown); have HK2 := Lib.hid hk2; have hB2 : Blk w2 sb 46 #[c0, c1, .int .i64 (base : Int), c3, c4, .slice none 0 0] := ((HS.out.keep HK.out (by simpa using ⟨hsb, hsm.symm⟩)).keep hk2 (by simp)); have s2 : w2.cell? ⟨sb, 2, none⟩ = some (.int .i64 (base : Int)) := hB2.cell 2; have HB2 := Lib.hid hB2; clear hown hk2 hB2))
      have l0 : LRel fs base b m sb c0 c1 c3 c4 (.slice A fs.length cp) D1 w w2 0 base (.slice none 0 0) [] := ⟨Nat.zero_le _, hbase, Nat.zero_le _, ⟨HB2.out, World.ownsRow_nil _ _ _ _⟩, HD.out.keep HK2.out (by simp) (by simp), HOWN.out, (HK.out.mono (by simp)).trans HK2.out.nil_, by simp⟩
      have L0 := Lib.hid l0
      clear l0
      go_loopw [10, 48, 12, 13, 14, 15, 16] (fun s10 s48 _ _ _ _ _ wr => LRelV fs base b m sb c0 c1 c3 c4 (.slice A fs.length cp) D1 w s10 s48 wr) (fun _ s48 _ _ _ _ _ _ => fs.length - (intOf s48).toNat)
      case atStart => exact ⟨0, base, _, _, rfl, rfl, L0.out⟩
      case round =>
        obtain ⟨k, last, lg, acc, rfl, rfl, hL⟩ := hrel
        have HL := Lib.hid hL
        have hk1 := hL.hk
        have hlast := hL.hlast
        have hacc := hL.hacc
        have hwr := hL.keep.size
        clear hL
        by_cases hlt : k < fs.length
        · obtain ⟨g, cpp, hv, _, _⟩ := HL.out.own.form (by omega)
          have hA : A = some ⟨g, 0, none⟩ ∧ cp = cpp := by injection hv with h1 h2 h3; exact ⟨h1, h3⟩
          obtain ⟨rfl, rfl⟩ := hA
          have hc : wr.cell? ⟨g, k, none⟩ = some (.string (bs fs[k])) := by
            have := HL.out.own.cellAt k (by omega)
            rw [this]
            simp [strs, hlt]
          have hdrop : fs.drop k = fs[k] :: fs.drop (k + 1) := List.drop_eq_getElem_cons hlt
          have heq := HL.out.eq
          rw [hdrop] at heq
          have hfl : fs[k].length ≤ 1099511627776 := by have := HSL.out _ (List.getElem_mem hlt); omega
          generalize fs[k] = f at *
          have hlf : logF (f :: fs.drop (k + 1)) last = if (decEnt f).2.2.2 ≠ 0 then ([], false)
            else if (decEnt f).1 = last + 1 then (⟨(decEnt f).1, (decEnt f).2.1, (decEnt f).2.2.1⟩ :: (logF (fs.drop (k + 1)) (decEnt f).1).1, (logF (fs.drop (k + 1)) (decEnt f).1).2)
            else logF (fs.drop (k + 1)) last := rfl
          have hdt : decEnt f = ((Ds.i ⟨f, 0, 0⟩ 1099511627776).1, ((Ds.i ⟨f, 0, 0⟩ 1099511627776).2.i 1099511627776).1, (((Ds.i ⟨f, 0, 0⟩ 1099511627776).2.i 1099511627776).2.str 100000).1, (((Ds.i ⟨f, 0, 0⟩ 1099511627776).2.i 1099511627776).2.str 100000).2.done.err) := rfl
          rw [hdt] at hlf
          have C1 := fun (W : World) (g : Nat) (hW : DecAt W g ⟨f, 0, 0⟩) => di_calls hW (Nat.zero_le _) (by simp only; omega) 1099511627776 (by omega)
          obtain ⟨a1, a2, a3⟩ := Ds.i_at (d := ⟨f, 0, 0⟩) (Nat.zero_le _) 1099511627776
          generalize Ds.i ⟨f, 0, 0⟩ 1099511627776 = q1 at *
          obtain ⟨n1, d1⟩ := q1
          simp only at C1 a1 a2 a3
          have hl1 : d1.s.length ≤ 4611686018427387904 := by rw [a2]; omega
          have C2 := fun (W : World) (g : Nat) (hW : DecAt W g d1) => di_calls hW a1 hl1 1099511627776 (by omega)
          obtain ⟨b1, b2, b3⟩ := Ds.i_at (d := d1) a1 1099511627776
          generalize d1.i 1099511627776 = q2 at *
          obtain ⟨n2, d2⟩ := q2
          simp only at C2 b1 b2 b3
          have hl2 : d2.s.length ≤ 4611686018427387904 := by rw [b2]; exact hl1
          have C3 := fun (W : World) (g : Nat) (hW : DecAt W g d2) => ds_calls hW b1 hl2 100000 (by omega)
          obtain ⟨e1, e2⟩ := Ds.str_at (d := d2) b1 100000
          generalize d2.str 100000 = q3 at *
          obtain ⟨n3, d3⟩ := q3
          simp only at C3 e1 e2
          have hl3 : d3.s.length ≤ 4611686018427387904 := by rw [e2]; exact hl2
          have C4 := fun (W : World) (g : Nat) (hW : DecAt W g d3) => done_calls hW e1 hl3
          simp only at hlf
          generalize d3.done = d4 at *
          have HC1 := Lib.hid C1
          have HC2 := Lib.hid C2
          have HC3 := Lib.hid C3
          have HC4 := Lib.hid C4
          have HLF := Lib.hid hlf
          have HEQ := Lib.hid heq
          clear C1 C2 C3 C4 hdt a2 b2 e2 hlf heq hdrop hv
          have tok1 : True := trivial
          by_cases hbad : d4.err = 0
          · by_cases hnx : n1 = last + 1
            · have hbx : ((n1 : Int) == (last : Int) + 1) = true := by rw [beq_iff_eq]; omega
              have HNX := Lib.hid hnx
              have HBAD := Lib.hid hbad
              have hbe : (d4.err != 0) = false := by simpa using hbad
              clear hnx hbad
              go_wp2_with (first
                | (go_at_call 86; refine (from_calls f _).mono ?_; rintro e x2 ⟨rfl, hF, hk2⟩; have HF := Lib.hid hF; have HK2x := Lib.hid hk2; clear hF hk2)
                                        | (go_at_call 87; have _t := tok1; refine (HC1.out _ _ HF.out).mono ?_; rintro e x3 ⟨rfl, hD3, hk3⟩; have HD3 := Lib.hid hD3; have HK3 := Lib.hid hk3; clear hD3 hk3 tok1)
                                        | (go_at_call 87; refine (HC2.out _ _ HD3.out).mono ?_; rintro e x4 ⟨rfl, hD4, hk4⟩; have HD4 := Lib.hid hD4; have HK4 := Lib.hid hk4; clear hD4 hk4)
                                        | (go_at_call 89; refine (HC3.out _ _ HD4.out).mono ?_; rintro e x5 ⟨rfl, hD5, hk5⟩; have HD5 := Lib.hid hD5; have HK5 := Lib.hid hk5; clear hD5 hk5)
                                        | (go_at_call 88; refine (HC4.out _ _ HD5.out).mono ?_; rintro e x6 ⟨rfl, hD6, hk6⟩; have hL6 := HL.out.dec (HK2x.out.nil_.trans (HK3.out.trans (HK4.out.trans (HK5.out.trans hk6)))); have hsz6 : wr.heap.size ≤ x6.heap.size := (HK2x.out.nil_.trans (HK3.out.trans (HK4.out.trans (HK5.out.trans hk6)))).size; have l5 : x6.cell? ⟨sb, 5, none⟩ = some lg := hL6.log.blk.cell 5; have HL6 := Lib.hid hL6; clear hD6 hk6 hL6)
                | (at_builtin; refine list_append_ent (lg := lg) ⟨n1, n2, n3⟩ rfl (.tmp 71) (.tmp 76) rfl rfl rfl HL6.out.log (Nat.le_trans hwr hsz6) (by have := HL6.out.hacc; have := HL6.out.hk; omega) ?_; intro g2 n4 cap4 w7 hc7 hf7 hl7 hk7 hat7; have HL7 := Lib.hid hl7; have HK7 := Lib.hid hk7; clear hl7 hk7))
              go_roundw
              case rel =>
                refine ⟨k + 1, n1, .slice (some ⟨g2, 0, none⟩) n4 cap4, acc ++ [⟨n1, n2, n3⟩], by go_num, rfl, ?_⟩
                have hsb6 := HL6.out.log.blk.lt
                have hlg : ∀ x, lg.ownBlock = some x → w.heap.size ≤ x := fun x hx => (HL6.out.log.own.lt x hx).1
                have nlb : lg.ownBlock ≠ some b := own_blk_ne HL6.out.log.own HL6.out.disk.blk (by decide)
                have nlm : lg.ownBlock ≠ some m := fun e => by
                  obtain ⟨es, cc, hm, _⟩ := HL6.out.disk.map
                  rcases HL6.out.log.own.2 with ⟨hh, _⟩ | ⟨g', cap', cur', hh, _, hh2, _⟩
                  · rw [hh] at e; simp [Value.ownBlock] at e
                  · rw [hh] at e; simp only [Value.ownBlock, Option.some.injEq] at e; subst e; rw [hm] at hh2; cases hh2
                have kin : ∀ x, x ∈ sb :: lg.ownBlock.toList → x = sb ∨ lg.ownBlock = some x := fun x hx => by simpa using hx
                refine ⟨by omega, by omega, by simp; omega, HL7.out, HL6.out.disk.keep HK7.out (fun hx => ?_) (fun hx => ?_), HK7.out.owns HL6.out.own (fun x hx hx2 => ?_), HL6.out.keep.trans' HK7.out (fun x hx => ?_), ?_⟩
                · rcases kin _ hx with h | h; exact hsb h.symm; exact nlb h
                · rcases kin _ hx with h | h; exact hsm h; exact nlm h
                · rcases kin _ hx2 with h | h
                  · subst h; exact own_blk_ne HL6.out.own HL6.out.log.blk (by decide) hx
                  · rcases HL6.out.log.own.2 with ⟨hh, _⟩ | ⟨g', cap', cur', hh, _, hh2, _⟩
                    · rw [hh] at h; simp [Value.ownBlock] at h
                    · rw [hh] at h; simp only [Value.ownBlock, Option.some.injEq] at h; subst h
                      exact own_blk_ne HL6.out.own (t := 62) (cs := cur') hh2 (by decide) hx
                · rcases kin _ hx with h | h; exact .inl (by simp [h]); exact .inr (hlg x h)
                · rw [HEQ.out, HLF.out, if_neg (by simpa using HBAD.out), if_pos HNX.out]
                  simp
              case measure => simp [intOf]; omega
            · have hbx : ((n1 : Int) == (last : Int) + 1) = false := by rw [beq_eq_false_iff_ne]; omega
              have HNX := Lib.hid hnx
              have HBAD := Lib.hid hbad
              have hbe : (d4.err != 0) = false := by simpa using hbad
              clear hnx hbad
              go_wp2_with (first
                | (go_at_call 86; refine (from_calls f _).mono ?_; rintro e x2 ⟨rfl, hF, hk2⟩; have HF := Lib.hid hF; have HK2x := Lib.hid hk2; clear hF hk2)
                                        | (go_at_call 87; have _t := tok1; refine (HC1.out _ _ HF.out).mono ?_; rintro e x3 ⟨rfl, hD3, hk3⟩; have HD3 := Lib.hid hD3; have HK3 := Lib.hid hk3; clear hD3 hk3 tok1)
                                        | (go_at_call 87; refine (HC2.out _ _ HD3.out).mono ?_; rintro e x4 ⟨rfl, hD4, hk4⟩; have HD4 := Lib.hid hD4; have HK4 := Lib.hid hk4; clear hD4 hk4)
                                        | (go_at_call 89; refine (HC3.out _ _ HD4.out).mono ?_; rintro e x5 ⟨rfl, hD5, hk5⟩; have HD5 := Lib.hid hD5; have HK5 := Lib.hid hk5; clear hD5 hk5)
                                        | (go_at_call 88; refine (HC4.out _ _ HD5.out).mono ?_; rintro e x6 ⟨rfl, hD6, hk6⟩; have hL6 := HL.out.dec (HK2x.out.nil_.trans (HK3.out.trans (HK4.out.trans (HK5.out.trans hk6)))); have hsz6 : wr.heap.size ≤ x6.heap.size := (HK2x.out.nil_.trans (HK3.out.trans (HK4.out.trans (HK5.out.trans hk6)))).size; have l5 : x6.cell? ⟨sb, 5, none⟩ = some lg := hL6.log.blk.cell 5; have HL6 := Lib.hid hL6; clear hD6 hk6 hL6))
              go_roundw
              case rel =>
                refine ⟨k + 1, last, lg, acc, by go_num, rfl, by omega, by omega, by omega, HL6.out.log, HL6.out.disk, HL6.out.own, HL6.out.keep, ?_⟩
                rw [HEQ.out, HLF.out, if_neg (by simpa using HBAD.out), if_neg HNX.out]
              case measure => simp [intOf]; omega
          · have hbe : (d4.err != 0) = true := by simpa using hbad
            have HBAD := Lib.hid hbad
            clear hbad
            go_wp2_with (first
              | (go_at_call 86; refine (from_calls f _).mono ?_; rintro e x2 ⟨rfl, hF, hk2⟩; have HF := Lib.hid hF; have HK2x := Lib.hid hk2; clear hF hk2)
                                        | (go_at_call 87; have _t := tok1; refine (HC1.out _ _ HF.out).mono ?_; rintro e x3 ⟨rfl, hD3, hk3⟩; have HD3 := Lib.hid hD3; have HK3 := Lib.hid hk3; clear hD3 hk3 tok1)
                                        | (go_at_call 87; refine (HC2.out _ _ HD3.out).mono ?_; rintro e x4 ⟨rfl, hD4, hk4⟩; have HD4 := Lib.hid hD4; have HK4 := Lib.hid hk4; clear hD4 hk4)
                                        | (go_at_call 89; refine (HC3.out _ _ HD4.out).mono ?_; rintro e x5 ⟨rfl, hD5, hk5⟩; have HD5 := Lib.hid hD5; have HK5 := Lib.hid hk5; clear hD5 hk5)
                                        | (go_at_call 88; refine (HC4.out _ _ HD5.out).mono ?_; rintro e x6 ⟨rfl, hD6, hk6⟩; have hL6 := HL.out.dec (HK2x.out.nil_.trans (HK3.out.trans (HK4.out.trans (HK5.out.trans hk6)))); have hsz6 : wr.heap.size ≤ x6.heap.size := (HK2x.out.nil_.trans (HK3.out.trans (HK4.out.trans (HK5.out.trans hk6)))).size; have l5 : x6.cell? ⟨sb, 5, none⟩ = some lg := hL6.log.blk.cell 5; have HL6 := Lib.hid hL6; clear hD6 hk6 hL6))
            go_ret
            have hf : (logF fs base).2 = false := by rw [HEQ.out, HLF.out, if_pos HBAD.out]
            rw [HLP.out, HR2.out, hf]
            exact ⟨rfl, HL6.out.disk, HL6.out.keep, fun h => by simp at h⟩
        · go_wp2
          go_ret
          have hend : logF fs base = (acc, true) := by
            rw [HL.out.eq, List.drop_eq_nil_of_le (by omega)]
            simp [logF]
          rw [HLP.out, HR2.out, hend]
          exact ⟨rfl, HL.out.disk, HL.out.keep, fun _ => ⟨lg, HL.out.log⟩⟩
  · rw [if_pos he] at hr
    rw [hr, if_pos he] at hr2
    have HR2 := Lib.hid hr2
    clear hr hr2
    have hb : (e1 != 0) = true := by simpa using he
    have hb2 : (e1 == 0) = false := by simpa using he
    go_enter Tryz.func51, Tryz.ntmps51
    go_wp2_with (first
      | (go_at_call 90; refine HR.out.mono ?_; rintro e w1 ⟨rfl, hD, hk⟩; have HD := Lib.hid hD; have HK := Lib.hid hk; clear hD hk))
    go_ret
    rw [HLP.out, HR2.out]
    exact ⟨rfl, HD.out, HK.out.mono (by simp), fun h => absurd h he⟩

end Go.Proofs.YtnlcipocobmgiaaGreatDoor
