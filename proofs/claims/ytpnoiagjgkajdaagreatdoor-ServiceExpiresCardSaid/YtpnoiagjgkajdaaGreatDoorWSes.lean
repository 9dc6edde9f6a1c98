/- session.Apply at a List, of a machine without names. -/
import Derived.Test.YtpnoiagjgkajdaaGreatDoorWCat
import Derived.Test.YtpnoiagjgkajdaaGreatDoorGCmd3
import Derived.Test.YtpnoiagjgkajdaaGreatDoorMapN
import Derived.Test.YtpnoiagjgkajdaaGreatDoorTake2
import Derived.Test.YtpnoiagjgkajdaaGreatDoorRegionK
import Derived.Test.YtpnoiagjgkajdaaGreatDoorShelf
set_option linter.unusedVariables false
namespace Go.Proofs.YtpnoiagjgkajdaaGreatDoor
open Go.RowKit
attribute [local go_sem] size_bs bs_append
/-- A List of a client. -/
def lsC (cl sq : Nat) : Cm := ⟨4, cl, sq, [], 0, 0, 0, [], 0, 0, 0⟩
theorem lsC_ok {cl sq : Nat} (h1 : cl ≤ 1000) (h2 : sq ≤ 1000) : (lsC cl sq).Ok :=
  ⟨by simp only [lsC]; omega, by simp only [lsC]; omega, by simp only [lsC]; omega, by simp [lsC], by simp only [lsC]; omega, by simp only [lsC]; omega, by simp only [lsC]; omega, by simp [lsC], by simp [lsC], by simp only [lsC]; omega, by simp only [lsC]; omega, by simp only [lsC]; omega⟩
/-- What a client was told last: nothing, without an error. -/
def lastW (y : Nat) : Value := .agg #[.int .i64 (y : Int), .int .i64 0, .int .u64 0, .int .i64 0, .int .u32 0, .slice none 0 0]
def errV (k : Int) : Value := .agg #[.int .i64 k, .int .u64 0, .int .i64 0, .int .u32 0, .slice none 0 0]
section
variable {V w w' W : World} {m c cm mb mn ck t R X cl sq : Nat} {rest : List Value} {fr : Nat × Nat} {L : List (Int × Value)} {n : Int}
theorem wread_calls (h1 : cl ≤ 1000) (h2 : sq ≤ 1000) (W : World) : Calls Tryz.prog 124 #[.string (bs (encC (lsC cl sq)))] W fun e w' => e = .returned (.tuple #[.agg #[.int .i64 4, .int .i64 (cl : Int), .int .i64 (sq : Int), .string (bs []), .int .u64 0, .int .i64 0, .int .u32 0, .slice none 0 0, .int .i64 0, .int .i64 0, .int .i64 0], .int .i64 0]) ∧ Keep [] W w' :=
  (cread_calls (lsC cl sq) (lsC_ok h1 h2) W).mono fun e w' ⟨dv, he, _, _, hk, hf⟩ => by
    obtain rfl := hf.1 rfl
    exact ⟨he, hk⟩
theorem wclient_calls (W : World) : Calls Tryz.prog 125 #[.agg #[.int .i64 4, .int .i64 (cl : Int), .int .i64 (sq : Int), .string (bs []), .int .u64 0, .int .i64 0, .int .u32 0, .slice none 0 0, .int .i64 0, .int .i64 0, .int .i64 0]] W fun e w' => e = .returned (.bool true) ∧ Keep [] W w' := isClient_calls (lsC cl sq) (.slice none 0 0) W
/-- All clients were told so. -/
def LOk (L : List (Int × Value)) : Prop := ∀ p ∈ L, ∃ y : Nat, p.2 = lastW y
theorem LOk.look (h : LOk L) (s : Int) : ∃ y : Nat, (lookN s L).getD (lastW 0) = lastW y := by
  induction L with
  | nil => exact ⟨0, rfl⟩
  | cons p L ih =>
    by_cases hs : s = p.1
    · obtain ⟨y, hy⟩ := h p (by simp)
      exact ⟨y, by simp [lookN, hs, hy]⟩
    · obtain ⟨y, hy⟩ := ih fun q hq => h q (by simp [hq])
      exact ⟨y, by simp only [lookN, hs, if_false]; exact hy⟩
theorem LOk.put (h : LOk L) (s : Int) (y : Nat) : LOk (putN s (lastW y) L) := by
  induction L with
  | nil => intro p hp; simp only [putN, List.mem_singleton] at hp; subst hp; exact ⟨y, rfl⟩
  | cons q L ih =>
    intro p hp
    simp only [putN] at hp
    split at hp
    · rcases List.mem_cons.1 hp with rfl | hp
      · exact ⟨y, rfl⟩
      · exact h p (by simp [hp])
    · rcases List.mem_cons.1 hp with rfl | hp
      · exact h _ (by simp)
      · exact ih (fun q hq => h q (by simp [hq])) p hp
/-- A machine without names: its catalog, what clients were told. -/
structure WM (W : World) (m c cm mb mn ck t : Nat) (rest : List Value) (fr : Nat × Nat) (L : List (Int × Value)) : Prop where
  mac : W.cell? ⟨m, 0, none⟩ = some (.pointer (some ⟨c, 0, none⟩))
  mcl : W.cell? ⟨m, 1, none⟩ = some (.map (some cm))
  cat : W.heap[c]? = some (.cells (.map (some mb) :: .map (some mn) :: rest).toArray t fr)
  nam : W.heap[mn]? = some (.map #[] ck)
  lt : mb < W.heap.size ∧ 4 ≤ W.heap.size
  map : MapN .i64 W cm L
theorem WM.lts (h : WM W m c cm mb mn ck t rest fr L) : m < W.heap.size ∧ c < W.heap.size ∧ mn < W.heap.size ∧ cm < W.heap.size := by
  have h1 := World.block_lt_of_cell? _ _ h.mac
  refine ⟨h1, ?_, ?_, h.map.lt⟩
  · rcases Nat.lt_or_ge c W.heap.size with h2 | h2
    · exact h2
    · have := h.cat; rw [Array.getElem?_eq_none h2] at this; cases this
  · rcases Nat.lt_or_ge mn W.heap.size with h2 | h2
    · exact h2
    · have := h.nam; rw [Array.getElem?_eq_none h2] at this; cases this
theorem WM.grow (h : WM W m c cm mb mn ck t rest fr L) (hk : Keep [] W w') : WM w' m c cm mb mn ck t rest fr L := by
  obtain ⟨h1, h2, h3, h4⟩ := h.lts
  exact ⟨(hk.cell (p := ⟨m, 0, none⟩) h1 (by simp)).trans h.mac, (hk.cell (p := ⟨m, 1, none⟩) h1 (by simp)).trans h.mcl, (hk.block c h2 (by simp)).trans h.cat, (hk.block mn h3 (by simp)).trans h.nam, ⟨Nat.lt_of_lt_of_le h.lt.1 hk.size, Nat.le_trans h.lt.2 hk.size⟩, h.map.keep hk (by simp)⟩
/-- What Apply knows behind its reading. -/
structure WSes (V W : World) (m c cm mb mn ck t : Nat) (rest : List Value) (fr : Nat × Nat) (L : List (Int × Value)) (R X cl sq : Nat) : Prop where
  keep : Keep [] V W
  mach : WM W m c cm mb mn ck t rest fr L
  res : Blk W R 105 #[.int .i64 0, .int .u64 0, .int .i64 0, .int .u32 0, .slice none 0 0]
  new : V.heap.size ≤ R
  box : Blk W X 81 #[.int .i64 4, .int .i64 (cl : Int), .int .i64 (sq : Int), .string (bs []), .int .u64 0, .int .i64 0, .int .u32 0, .slice none 0 0, .int .i64 0, .int .i64 0, .int .i64 0]
theorem WSes.grow (h : WSes V W m c cm mb mn ck t rest fr L R X cl sq) (hk : Keep [] W w') : WSes V w' m c cm mb mn ck t rest fr L R X cl sq :=
  ⟨h.keep.trans hk, h.mach.grow hk, h.res.keep hk (by simp), h.new, h.box.keep hk (by simp)⟩
theorem WSes.other {Y : Nat} {cs : Array Value} (h : WSes V W m c cm mb mn ck t rest fr L R X cl sq) (hY : V.heap.size ≤ Y) (hb : Blk W Y 105 cs) (hne : Y ≠ R) (hs : V = V) (hv : m < V.heap.size ∧ c < V.heap.size ∧ mn < V.heap.size ∧ cm < V.heap.size) (hk : Keep [Y] W w') : WSes V w' m c cm mb mn ck t rest fr L R X cl sq := by
  obtain ⟨v1, v2, v3, v4⟩ := hv
  obtain ⟨h1, h2, h3, h4⟩ := h.mach.lts
  have hX : X ≠ Y := h.box.ne_ hb (by decide)
  exact ⟨⟨hk.os.trans h.keep.os, hk.tape.trans h.keep.tape, hk.output.trans h.keep.output, Nat.le_trans h.keep.size hk.size, fun k hlt _ => (hk.block k (Nat.lt_of_lt_of_le hlt h.keep.size) (by simp; omega)).trans (h.keep.block k hlt (by simp))⟩,
    ⟨(hk.cell (p := ⟨m, 0, none⟩) h1 (by simp; omega)).trans h.mach.mac, (hk.cell (p := ⟨m, 1, none⟩) h1 (by simp; omega)).trans h.mach.mcl, (hk.block c h2 (by simp; omega)).trans h.mach.cat, (hk.block mn h3 (by simp; omega)).trans h.mach.nam, ⟨Nat.lt_of_lt_of_le h.mach.lt.1 hk.size, Nat.le_trans h.mach.lt.2 hk.size⟩, h.mach.map.keep hk (by simp; omega)⟩,
    h.res.keep hk (by simpa using Ne.symm hne), h.new, h.box.keep hk (by simpa using hX)⟩
/-- What Apply leaves. -/
def WTo (V : World) (m c cm mb mn ck t : Nat) (rest : List Value) (fr : Nat × Nat) (e : Ending) (w' : World) : Prop := ∃ k L', (k = 0 ∨ k = 16) ∧ e = .returned (errV k) ∧ LOk L' ∧ MapN .i64 w' cm L' ∧ Keep [cm] V w'
theorem wbelow_keep {w w' : World} (h : Below w.heap.size w w') : Keep [] w w' := ⟨h.os, h.tape, h.output, h.size, fun k hk _ => h.block k hk⟩
theorem wapply_calls (h : WM W m c cm mb mn ck t rest fr L) (h1 : cl ≤ 1000) (h2 : sq ≤ 1000) : Calls Tryz.prog 126 #[.pointer (some ⟨c, 0, none⟩), .agg #[.int .i64 4, .int .i64 (cl : Int), .int .i64 (sq : Int), .string (bs []), .int .u64 0, .int .i64 0, .int .u32 0, .slice none 0 0, .int .i64 0, .int .i64 0, .int .i64 0]] W fun e w' => e = .returned (.agg #[.int .i64 0, .int .u64 0, .int .i64 0, .int .u32 0, .slice none 0 0]) ∧ Keep [] W w' :=
  (Av.wcat_calls h.cat h.nam h.lt.1 h.lt.2 cl sq h1 h2).mono fun e w' ⟨he, hb⟩ => ⟨he, wbelow_keep hb⟩
/-- A new block is turned at the end. -/
theorem Keep.fin2 {M : List Nat} {V W W' : World} (h : Keep M V W) (hR : V.heap.size ≤ R) (hk : Keep [R] W W') : Keep M V W' :=
  ⟨hk.os.trans h.os, hk.tape.trans h.tape, hk.output.trans h.output, Nat.le_trans h.size hk.size, fun k hlt hm => (hk.block k (Nat.lt_of_lt_of_le hlt h.size) (by simp; omega)).trans (h.block k hlt hm)⟩
theorem Keep.fin {V W W' : World} (h : Keep [] V W) (hR : V.heap.size ≤ R) (hk : Keep [R] W W') : Keep [cm] V W' := (h.mono (by simp)).fin2 hR hk
set_option maxRecDepth 100000 in
set_option maxHeartbeats 1000000 in
theorem wown_calls (w : World) : Calls Tryz.prog 127 #[.agg #[.int .i64 0, .int .u64 0, .int .i64 0, .int .u32 0, .slice none 0 0]] w fun e w' => e = .returned (.agg #[.int .i64 0, .int .u64 0, .int .i64 0, .int .u32 0, .slice none 0 0]) ∧ Keep [] w w' := by
  go_enter Tryz.func127, Tryz.ntmps127
  go_wp2_with (go_at_call 39; refine (Tryz.slices_Clone_string_nil 0 0 _).mono ?_; rintro e w1 ⟨rfl, rfl⟩)
  refine bodyPost_ret (v := .agg #[.int .i64 0, .int .u64 0, .int .i64 0, .int .u32 0, .slice none 0 0]) (by simp [results, Tryz.results127, go_sem]) rfl ⟨rfl, ((Keep.refl _ _).alloc _).alloc _⟩
set_option maxRecDepth 100000 in
set_option maxHeartbeats 4000000 in
theorem wsapply_calls (h1 : cl ≤ 1000) (h2 : sq ≤ 1000) (h : WM w m c cm mb mn ck t rest fr L) (hL : LOk L) (m2 : w.cell? ⟨m, 2, none⟩ = some (.int .i64 n)) (mf : w.frozen? ⟨m, 2, none⟩ = false) (hn : 0 ≤ n ∧ n ≤ 1000000) (hmc : m ≠ c) :
    Calls Tryz.prog 69 #[.pointer (some ⟨m, 0, none⟩), .string (bs (encC (lsC cl sq)))] w (WTo (w.setCell ⟨m, 2, none⟩ (.int .i64 (n + 1))) m c cm mb mn ck t rest fr) := by
  obtain ⟨hml, hcl, hnl, hcml⟩ := h.lts
  have hmm : m ≠ mn := fun hh => by
    subst hh
    have := h.nam
    unfold World.cell? at m2
    rw [this] at m2
    cases m2
  have hmcm : m ≠ cm := fun hh => by
    subst hh
    obtain ⟨es, ckk, h3, _⟩ := h.map
    unfold World.cell? at m2
    rw [h3] at m2
    cases m2
  have q2 : (w.alloc (.cells #[.int .i64 0, .int .u64 0, .int .i64 0, .int .u32 0, .slice none 0 0] 105)).cell? ⟨m, 2, none⟩ = some (.int .i64 n) := by rw [World.cell?_alloc_old _ _ _ (Nat.ne_of_lt hml)]; exact m2
  have qf : (w.alloc (.cells #[.int .i64 0, .int .u64 0, .int .i64 0, .int .u32 0, .slice none 0 0] 105)).frozen? ⟨m, 2, none⟩ = false := by rw [World.frozen?_alloc_old _ _ _ (Nat.ne_of_lt hml)]; exact mf
  have hs0 : (bs (encC (lsC cl sq))).toList.isEmpty = false := by
    have hb : (bs (encC (lsC cl sq))).toList = encC (lsC cl sq) := by rw [ByteArray.toList_eq]; exact lst_bs _
    rw [hb]; simpa using encC_ne (lsC cl sq)
  have hw : IntKind.i64.wrap (n + 1) = n + 1 := IntWalk.i64_in _ (by omega)
  have hka : Keep [m] w (w.setCell ⟨m, 2, none⟩ (.int .i64 (n + 1))) := (Keep.refl _ _).setCell (.inl (by simp)) _
  have hsz : (w.setCell ⟨m, 2, none⟩ (.int .i64 (n + 1))).heap.size = w.heap.size := by rw [World.size_setCell]
  have hV : WM (w.setCell ⟨m, 2, none⟩ (.int .i64 (n + 1))) m c cm mb mn ck t rest fr L :=
    ⟨by simpa [go_sem] using h.mac, by simpa [go_sem] using h.mcl, (hka.block c hcl (by simpa using Ne.symm hmc)).trans h.cat, (hka.block mn hnl (by simpa using Ne.symm hmm)).trans h.nam, by rw [hsz]; exact h.lt, h.map.keep hka (by simpa using Ne.symm hmcm)⟩
  have HVL : Hid (m < (w.setCell ⟨m, 2, none⟩ (.int .i64 (n + 1))).heap.size ∧ c < (w.setCell ⟨m, 2, none⟩ (.int .i64 (n + 1))).heap.size ∧ mn < (w.setCell ⟨m, 2, none⟩ (.int .i64 (n + 1))).heap.size ∧ cm < (w.setCell ⟨m, 2, none⟩ (.int .i64 (n + 1))).heap.size) := Lib.hid hV.lts
  have HI0 : Hid (Keep [] (w.setCell ⟨m, 2, none⟩ (.int .i64 (n + 1))) ((w.setCell ⟨m, 2, none⟩ (.int .i64 (n + 1))).alloc (.cells #[.int .i64 0, .int .u64 0, .int .i64 0, .int .u32 0, .slice none 0 0] 105)) ∧ WM ((w.setCell ⟨m, 2, none⟩ (.int .i64 (n + 1))).alloc (.cells #[.int .i64 0, .int .u64 0, .int .i64 0, .int .u32 0, .slice none 0 0] 105)) m c cm mb mn ck t rest fr L ∧ Blk ((w.setCell ⟨m, 2, none⟩ (.int .i64 (n + 1))).alloc (.cells #[.int .i64 0, .int .u64 0, .int .i64 0, .int .u32 0, .slice none 0 0] 105)) w.heap.size 105 #[.int .i64 0, .int .u64 0, .int .i64 0, .int .u32 0, .slice none 0 0]) := Lib.hid ⟨(Keep.refl _ _).alloc _, hV.grow ((Keep.refl _ _).alloc _), Blk.here _ _ _ _ hsz.symm⟩
  have HRD := Lib.hid (fun W => wread_calls h1 h2 W)
  have HIC := Lib.hid (fun W => wclient_calls (cl := cl) (sq := sq) W)
  have HAP := Lib.hid (fun W (hW : WM W m c cm mb mn ck t rest fr L) => wapply_calls hW h1 h2)
  have HSZ : Hid ((w.setCell ⟨m, 2, none⟩ (.int .i64 (n + 1))).heap.size ≤ w.heap.size) := Lib.hid (by rw [World.size_setCell]; exact Nat.le_refl _)
  have HL := Lib.hid hL
  obtain ⟨y, hy⟩ := hL.look (cl : Int)
  have HY := Lib.hid hy
  clear h h1 h2 m2 mf hka hV hmc hmm hmcm hcl hnl hcml hL hy
  go_enter Tryz.func69, Tryz.ntmps69
  go_upto_region 4 with fail
  generalize ((w.setCell ⟨m, 2, none⟩ (.int .i64 (n + 1))).alloc (.cells #[.int .i64 0, .int .u64 0, .int .i64 0, .int .u32 0, .slice none 0 0] 105)) = W0 at *
  have HVV : Hid (∃ V, V = w.setCell ⟨m, 2, none⟩ (.int .i64 (n + 1))) := Lib.hid ⟨_, rfl⟩
  obtain ⟨V, hV⟩ := HVV.out
  rw [← hV] at HI0 HSZ HVL
  have HVE := Lib.hid hV
  clear hV HVV
  have HRW : Hid (∃ R, R = w.heap.size) := Lib.hid ⟨_, rfl⟩
  obtain ⟨R, hR⟩ := HRW.out
  have HRG : Hid (V.heap.size ≤ R) := Lib.hid (by have := HSZ.out; omega)
  rw [← hR] at HI0
  simp only [← hR]
  clear q2 qf hs0 hw hR HRW HSZ hml hn hsz
  go_upto_region 5 with (go_at_call 124; refine (HRD.out _).mono ?_; rintro e w1 ⟨rfl, hk1⟩; have HK1 := Lib.hid hk1; clear hk1)
  have HI5 : Hid (WSes V (w1.alloc (.cells #[.int .i64 4, .int .i64 (cl : Int), .int .i64 (sq : Int), .string (bs []), .int .u64 0, .int .i64 0, .int .u32 0, .slice none 0 0, .int .i64 0, .int .i64 0, .int .i64 0] 81)) m c cm mb mn ck t rest fr L R w1.heap.size cl sq) := Lib.hid ⟨HI0.out.1.trans (HK1.out.alloc _), HI0.out.2.1.grow (HK1.out.alloc _), HI0.out.2.2.keep (HK1.out.alloc _) (by simp), HRG.out, Blk.new _ _ _⟩
  clear HI0 HK1 HRD
  generalize w1.alloc (.cells #[.int .i64 4, .int .i64 (cl : Int), .int .i64 (sq : Int), .string (bs []), .int .u64 0, .int .i64 0, .int .u32 0, .slice none 0 0, .int .i64 0, .int .i64 0, .int .i64 0] 81) = W5 at *
  generalize w1.heap.size = X at *
  have x0 : World.cell? W5 ⟨X, 0, none⟩ = some (.int .i64 4) := HI5.out.box.cell 0
  have x1 : World.cell? W5 ⟨X, 1, none⟩ = some (.int .i64 (cl : Int)) := HI5.out.box.cell 1
  have x2 : World.cell? W5 ⟨X, 2, none⟩ = some (.int .i64 (sq : Int)) := HI5.out.box.cell 2
  have x3 : World.cell? W5 ⟨X, 3, none⟩ = some (.string (bs [])) := HI5.out.box.cell 3
  have x4 : World.cell? W5 ⟨X, 4, none⟩ = some (.int .u64 0) := HI5.out.box.cell 4
  have x5 : World.cell? W5 ⟨X, 5, none⟩ = some (.int .i64 0) := HI5.out.box.cell 5
  have x6 : World.cell? W5 ⟨X, 6, none⟩ = some (.int .u32 0) := HI5.out.box.cell 6
  have x7 : World.cell? W5 ⟨X, 7, none⟩ = some (.slice none 0 0) := HI5.out.box.cell 7
  have x8 : World.cell? W5 ⟨X, 8, none⟩ = some (.int .i64 0) := HI5.out.box.cell 8
  have x9 : World.cell? W5 ⟨X, 9, none⟩ = some (.int .i64 0) := HI5.out.box.cell 9
  have x10 : World.cell? W5 ⟨X, 10, none⟩ = some (.int .i64 0) := HI5.out.box.cell 10
  have HS9 : Hid (∀ W, WSes V W m c cm mb mn ck t rest fr L R X cl sq → World.cell? W ⟨m, 1, none⟩ = some (.map (some cm)) ∧ World.cell? W ⟨X, 1, none⟩ = some (.int .i64 (cl : Int)) ∧ (Instr.lookup 112 (.map (some cm)) (.int .i64 (cl : Int)) true).run Tryz.prog W = .ok (.tuple #[.agg #[.int .i64 (y : Int), .int .i64 0, .int .u64 0, .int .i64 0, .int .u32 0, .slice none 0 0], .bool (lookN (cl : Int) L).isSome]) W) := Lib.hid (fun W h => ⟨h.mach.mcl, h.box.cell 1, by
    have h1 := h.mach.map.look2 Tryz.underlying112 Tryz.underlying3 (z := lastW 0) (by kernel_rfl) (cl : Int)
    rw [HY.out] at h1
    exact h1⟩)
  go_upto_region 9 with (go_at_call 125; refine (HIC.out _).mono ?_; rintro e w6 ⟨rfl, hk6⟩; have HI6 := Lib.hid (HI5.out.grow hk6); clear hk6)
  clear x0 x1 x2 x3 x4 x5 x6 x7 x8 x9 x10 HI5 HIC
  refine wp_region_held_drew (S := fun W => World.cell? W ⟨m, 1, none⟩ = some (.map (some cm)) ∧ World.cell? W ⟨X, 1, none⟩ = some (.int .i64 (cl : Int)) ∧ (Instr.lookup 112 (.map (some cm)) (.int .i64 (cl : Int)) true).run Tryz.prog W = .ok (.tuple #[.agg #[.int .i64 (y : Int), .int .i64 0, .int .u64 0, .int .i64 0, .int .u32 0, .slice none 0 0], .bool (lookN (cl : Int) L).isSome]) W) (by kernel_rfl) (HS9.out _ (HI6.out.grow (Keep.refl _ _).drew)) (fun hHeld => ?_)
  refine th 0 hHeld ?_
  refine th 1 hHeld ?_
  refine th 2 hHeld ?_
  refine th 3 hHeld ?_
  refine th 4 hHeld ?_
  refine th 5 hHeld ?_
  refine th 6 hHeld ?_
  refine th 7 hHeld ?_
  refine th 8 hHeld ?_
  refine th 9 hHeld ?_
  refine wpAnyH_ready (rs := [10]) (by kernel_rfl) (by simp) (AllReadyH.cons rfl (fun K hK => ?_) AllReadyH.nil)
  go_simp
  clear hHeld
  have hHeld := HS9.out _ (HI6.out.grow ((Keep.refl _ _).alloc (.cells #[.int .i64 0, .int .i64 0, .int .u64 0, .int .i64 0, .int .u32 0, .slice none 0 0] 130)).drew)
  refine hK.out _ _ hHeld (fun hq => ?_)
  clear hK K hq
  try simp only [Act.put, List.setIfInBounds_toArray, List.set_cons_zero, List.set_cons_succ]
  refine wpAnyH_ready (rs := [11]) (by kernel_rfl) (by simp) (AllReadyH.cons rfl (fun K hK => ?_) AllReadyH.nil)
  go_simp
  clear hHeld
  have hHeld := HS9.out _ (HI6.out.grow ((Keep.refl _ _).alloc (.cells #[.int .i64 (y : Int), .int .i64 0, .int .u64 0, .int .i64 0, .int .u32 0, .slice none 0 0] 130)).drew)
  refine hK.out _ _ hHeld (fun hq => ?_)
  clear hK K hq
  try simp only [Act.put, List.setIfInBounds_toArray, List.set_cons_zero, List.set_cons_succ]
  refine th 12 hHeld ?_
  refine wpAnyH_done (by kernel_rfl) ?_ _
  clear hHeld HS9
  have HI9 := Lib.hid (HI6.out.grow ((Keep.refl _ _).alloc (.cells #[.int .i64 (y : Int), .int .i64 0, .int .u64 0, .int .i64 0, .int .u32 0, .slice none 0 0] 130)).drew)
  have HB9 : Hid (Blk (w6.alloc (.cells #[.int .i64 (y : Int), .int .i64 0, .int .u64 0, .int .i64 0, .int .u32 0, .slice none 0 0] 130)).drew w6.heap.size 130 #[.int .i64 (y : Int), .int .i64 0, .int .u64 0, .int .i64 0, .int .u32 0, .slice none 0 0]) := Lib.hid (Blk.new _ _ _).drew
  clear HI6
  generalize (w6.alloc (.cells #[.int .i64 (y : Int), .int .i64 0, .int .u64 0, .int .i64 0, .int .u32 0, .slice none 0 0] 130)).drew = W9 at *
  generalize w6.heap.size = LL at *
  have x0 : World.cell? W9 ⟨X, 0, none⟩ = some (.int .i64 4) := HI9.out.box.cell 0
  have x1 : World.cell? W9 ⟨X, 1, none⟩ = some (.int .i64 (cl : Int)) := HI9.out.box.cell 1
  have x2 : World.cell? W9 ⟨X, 2, none⟩ = some (.int .i64 (sq : Int)) := HI9.out.box.cell 2
  have x3 : World.cell? W9 ⟨X, 3, none⟩ = some (.string (bs [])) := HI9.out.box.cell 3
  have x4 : World.cell? W9 ⟨X, 4, none⟩ = some (.int .u64 0) := HI9.out.box.cell 4
  have x5 : World.cell? W9 ⟨X, 5, none⟩ = some (.int .i64 0) := HI9.out.box.cell 5
  have x6 : World.cell? W9 ⟨X, 6, none⟩ = some (.int .u32 0) := HI9.out.box.cell 6
  have x7 : World.cell? W9 ⟨X, 7, none⟩ = some (.slice none 0 0) := HI9.out.box.cell 7
  have x8 : World.cell? W9 ⟨X, 8, none⟩ = some (.int .i64 0) := HI9.out.box.cell 8
  have x9 : World.cell? W9 ⟨X, 9, none⟩ = some (.int .i64 0) := HI9.out.box.cell 9
  have x10 : World.cell? W9 ⟨X, 10, none⟩ = some (.int .i64 0) := HI9.out.box.cell 10
  have l0 : W9.cell? ⟨LL, 0, none⟩ = some (.int .i64 (y : Int)) := HB9.out.cell 0
  have l1 : W9.cell? ⟨LL, 1, none⟩ = some (.int .i64 0) := HB9.out.cell 1
  have l2 : W9.cell? ⟨LL, 2, none⟩ = some (.int .u64 0) := HB9.out.cell 2
  have l3 : W9.cell? ⟨LL, 3, none⟩ = some (.int .i64 0) := HB9.out.cell 3
  have l4 : W9.cell? ⟨LL, 4, none⟩ = some (.int .u32 0) := HB9.out.cell 4
  have l5 : W9.cell? ⟨LL, 5, none⟩ = some (.slice none 0 0) := HB9.out.cell 5
  by_cases hc : cl = 0
  · subst hc
    have HR := Lib.hid HI9.out.res
    have z0 : World.cell? W9 ⟨R, 0, none⟩ = some (.int .i64 0) := HR.out.cell 0
    have z1 : World.cell? W9 ⟨R, 1, none⟩ = some (.int .u64 0) := HR.out.cell 1
    have z2 : World.cell? W9 ⟨R, 2, none⟩ = some (.int .i64 0) := HR.out.cell 2
    have z3 : World.cell? W9 ⟨R, 3, none⟩ = some (.int .u32 0) := HR.out.cell 3
    have z4 : World.cell? W9 ⟨R, 4, none⟩ = some (.slice none 0 0) := HR.out.cell 4
    have zf := HR.out.frozen
    go_wp2_with fail
    refine bodyPost_ret (v := errV 16) (by simp [results, Tryz.results69, go_sem, z0, z1, z2, z3, z4, errV]) rfl ⟨16, L, .inr rfl, rfl, HL.out, ?_, ?_⟩
    · exact HI9.out.mach.map.keep (M := [R]) (by repeat (first | refine Keep.setCell ?_ (.inl (by simp)) _ | refine Keep.drew ?_ | exact Keep.refl _ _)) (by have := HVL.out; have := HRG.out; simp; omega)
    · rw [← HVE.out]; exact HI9.out.keep.fin HRG.out (by repeat (first | refine Keep.setCell ?_ (.inl (by simp)) _ | refine Keep.drew ?_ | exact Keep.refl _ _))
  have hc1 : ((cl : Int) == 0) = false := beq_eq_false_iff_ne.2 (by omega)
  by_cases hs : sq = 0
  · subst hs
    clear hc
    have HR := Lib.hid HI9.out.res
    have z0 : World.cell? W9 ⟨R, 0, none⟩ = some (.int .i64 0) := HR.out.cell 0
    have z1 : World.cell? W9 ⟨R, 1, none⟩ = some (.int .u64 0) := HR.out.cell 1
    have z2 : World.cell? W9 ⟨R, 2, none⟩ = some (.int .i64 0) := HR.out.cell 2
    have z3 : World.cell? W9 ⟨R, 3, none⟩ = some (.int .u32 0) := HR.out.cell 3
    have z4 : World.cell? W9 ⟨R, 4, none⟩ = some (.slice none 0 0) := HR.out.cell 4
    have zf := HR.out.frozen
    go_wp2_with fail
    refine bodyPost_ret (v := errV 16) (by simp [results, Tryz.results69, go_sem, z0, z1, z2, z3, z4, errV]) rfl ⟨16, L, .inr rfl, rfl, HL.out, ?_, ?_⟩
    · exact HI9.out.mach.map.keep (M := [R]) (by repeat (first | refine Keep.setCell ?_ (.inl (by simp)) _ | refine Keep.drew ?_ | exact Keep.refl _ _)) (by have := HVL.out; have := HRG.out; simp; omega)
    · rw [← HVE.out]; exact HI9.out.keep.fin HRG.out (by repeat (first | refine Keep.setCell ?_ (.inl (by simp)) _ | refine Keep.drew ?_ | exact Keep.refl _ _))
  have hs1 : ((sq : Int) == 0) = false := beq_eq_false_iff_ne.2 (by omega)
  by_cases hl : sq < y
  · have hl1 : decide ((sq : Int) < (y : Int)) = true := decide_eq_true (by omega)
    clear hs hc
    have HR := Lib.hid HI9.out.res
    have z0 : World.cell? W9 ⟨R, 0, none⟩ = some (.int .i64 0) := HR.out.cell 0
    have z1 : World.cell? W9 ⟨R, 1, none⟩ = some (.int .u64 0) := HR.out.cell 1
    have z2 : World.cell? W9 ⟨R, 2, none⟩ = some (.int .i64 0) := HR.out.cell 2
    have z3 : World.cell? W9 ⟨R, 3, none⟩ = some (.int .u32 0) := HR.out.cell 3
    have z4 : World.cell? W9 ⟨R, 4, none⟩ = some (.slice none 0 0) := HR.out.cell 4
    have zf := HR.out.frozen
    go_wp2_with fail
    refine bodyPost_ret (v := errV 16) (by simp [results, Tryz.results69, go_sem, z0, z1, z2, z3, z4, errV]) rfl ⟨16, L, .inr rfl, rfl, HL.out, ?_, ?_⟩
    · exact HI9.out.mach.map.keep (M := [R]) (by repeat (first | refine Keep.setCell ?_ (.inl (by simp)) _ | refine Keep.drew ?_ | exact Keep.refl _ _)) (by have := HVL.out; have := HRG.out; simp; omega)
    · rw [← HVE.out]; exact HI9.out.keep.fin HRG.out (by repeat (first | refine Keep.setCell ?_ (.inl (by simp)) _ | refine Keep.drew ?_ | exact Keep.refl _ _))
  have hl1 : decide ((sq : Int) < (y : Int)) = false := decide_eq_false (by omega)
  clear hs hc
  cases hlk : lookN (cl : Int) L with
  | none =>
    have hok : (lookN (cl : Int) L).isSome = false := by rw [hlk]; rfl
    clear hlk
    go_upto_region 14 with fail
    clear x0 x1 x2 x3 x4 x5 x6 x7 x8 x9 x10 l0 l1 l2 l3 l4 l5 hok
    have hHeld : World.cell? W9.drew ⟨m, 0, none⟩ = some (.pointer (some ⟨c, 0, none⟩)) ∧ World.cell? W9.drew ⟨X, 0, none⟩ = some (.int .i64 4) ∧ World.cell? W9.drew ⟨X, 1, none⟩ = some (.int .i64 (cl : Int)) ∧ World.cell? W9.drew ⟨X, 2, none⟩ = some (.int .i64 (sq : Int)) ∧ World.cell? W9.drew ⟨X, 3, none⟩ = some (.string (bs [])) ∧ World.cell? W9.drew ⟨X, 4, none⟩ = some (.int .u64 0) ∧ World.cell? W9.drew ⟨X, 5, none⟩ = some (.int .i64 0) ∧ World.cell? W9.drew ⟨X, 6, none⟩ = some (.int .u32 0) ∧ World.cell? W9.drew ⟨X, 7, none⟩ = some (.slice none 0 0) ∧ World.cell? W9.drew ⟨X, 8, none⟩ = some (.int .i64 0) ∧ World.cell? W9.drew ⟨X, 9, none⟩ = some (.int .i64 0) ∧ World.cell? W9.drew ⟨X, 10, none⟩ = some (.int .i64 0) := ⟨(HI9.out.grow (Keep.refl _ _).drew).mach.mac, (HI9.out.grow (Keep.refl _ _).drew).box.cell 0, (HI9.out.grow (Keep.refl _ _).drew).box.cell 1, (HI9.out.grow (Keep.refl _ _).drew).box.cell 2, (HI9.out.grow (Keep.refl _ _).drew).box.cell 3, (HI9.out.grow (Keep.refl _ _).drew).box.cell 4, (HI9.out.grow (Keep.refl _ _).drew).box.cell 5, (HI9.out.grow (Keep.refl _ _).drew).box.cell 6, (HI9.out.grow (Keep.refl _ _).drew).box.cell 7, (HI9.out.grow (Keep.refl _ _).drew).box.cell 8, (HI9.out.grow (Keep.refl _ _).drew).box.cell 9, (HI9.out.grow (Keep.refl _ _).drew).box.cell 10⟩
    refine wp_region_K (S := fun W => World.cell? W ⟨m, 0, none⟩ = some (.pointer (some ⟨c, 0, none⟩)) ∧ World.cell? W ⟨X, 0, none⟩ = some (.int .i64 4) ∧ World.cell? W ⟨X, 1, none⟩ = some (.int .i64 (cl : Int)) ∧ World.cell? W ⟨X, 2, none⟩ = some (.int .i64 (sq : Int)) ∧ World.cell? W ⟨X, 3, none⟩ = some (.string (bs [])) ∧ World.cell? W ⟨X, 4, none⟩ = some (.int .u64 0) ∧ World.cell? W ⟨X, 5, none⟩ = some (.int .i64 0) ∧ World.cell? W ⟨X, 6, none⟩ = some (.int .u32 0) ∧ World.cell? W ⟨X, 7, none⟩ = some (.slice none 0 0) ∧ World.cell? W ⟨X, 8, none⟩ = some (.int .i64 0) ∧ World.cell? W ⟨X, 9, none⟩ = some (.int .i64 0) ∧ World.cell? W ⟨X, 10, none⟩ = some (.int .i64 0)) (z := 7) (by kernel_rfl) ?_
    refine tk 0 hHeld ?_
    refine tk 1 hHeld ?_
    refine tk 2 hHeld ?_
    refine tk 3 hHeld ?_
    refine tk 4 hHeld ?_
    clear hHeld
    refine wpAnyK_two (k := 5) (l := 6) (by kernel_rfl) rfl rfl (fun K hK => ?_) (fun K hK => ?_)
    · go_simp
      go_at_call 126
      refine (HAP.out _ (HI9.out.grow (Keep.refl _ _).drew).mach).mono ?_
      rintro e w10 ⟨rfl, hk10⟩
      have HI10 := Lib.hid ((HI9.out.grow (Keep.refl _ _).drew).grow hk10)
      clear hk10
      go_simp
      refine hK.out _ _ (fun _ => ⟨HI10.out.mach.mac, HI10.out.box.cell 0, HI10.out.box.cell 1, HI10.out.box.cell 2, HI10.out.box.cell 3, HI10.out.box.cell 4, HI10.out.box.cell 5, HI10.out.box.cell 6, HI10.out.box.cell 7, HI10.out.box.cell 8, HI10.out.box.cell 9, HI10.out.box.cell 10⟩) ?_
      clear hK K
      try simp only [Act.put, List.setIfInBounds_toArray, List.set_cons_zero, List.set_cons_succ]
      refine wpAnyK_one (k := 6) (by kernel_rfl) rfl (fun K hK => ?_)
      go_simp
      refine hK.out _ _ (fun _ => ⟨(HI10.out.grow ((Keep.refl _ _).alloc _)).mach.mac, (HI10.out.grow ((Keep.refl _ _).alloc _)).box.cell 0, (HI10.out.grow ((Keep.refl _ _).alloc _)).box.cell 1, (HI10.out.grow ((Keep.refl _ _).alloc _)).box.cell 2, (HI10.out.grow ((Keep.refl _ _).alloc _)).box.cell 3, (HI10.out.grow ((Keep.refl _ _).alloc _)).box.cell 4, (HI10.out.grow ((Keep.refl _ _).alloc _)).box.cell 5, (HI10.out.grow ((Keep.refl _ _).alloc _)).box.cell 6, (HI10.out.grow ((Keep.refl _ _).alloc _)).box.cell 7, (HI10.out.grow ((Keep.refl _ _).alloc _)).box.cell 8, (HI10.out.grow ((Keep.refl _ _).alloc _)).box.cell 9, (HI10.out.grow ((Keep.refl _ _).alloc _)).box.cell 10⟩) ?_
      clear hK K
      try simp only [Act.put, List.setIfInBounds_toArray, List.set_cons_zero, List.set_cons_succ]
      refine wpAnyK_one (k := 7) (by kernel_rfl) rfl (fun K hK => ?_)
      go_simp
      refine hK.out _ _ (fun h => absurd rfl h) ?_
      clear hK K
      try simp only [Act.put, List.setIfInBounds_toArray, List.set_cons_zero, List.set_cons_succ]
      refine wpAnyK_done (by kernel_rfl) ?_
      have HI11 := Lib.hid (HI10.out.grow ((Keep.refl _ _).alloc (.cells #[.int .i64 0, .int .u64 0, .int .i64 0, .int .u32 0, .slice none 0 0] 105)))
      have HY11 : Hid (Blk (w10.alloc (.cells #[.int .i64 0, .int .u64 0, .int .i64 0, .int .u32 0, .slice none 0 0] 105)) w10.heap.size 105 #[.int .i64 0, .int .u64 0, .int .i64 0, .int .u32 0, .slice none 0 0]) := Lib.hid (Blk.new _ _ _)
      clear HI10
      generalize w10.alloc (.cells #[.int .i64 0, .int .u64 0, .int .i64 0, .int .u32 0, .slice none 0 0] 105) = W11 at *
      generalize w10.heap.size = Y at *
      have HS15 : Hid (∀ W, Keep [] W11 W → World.cell? W ⟨m, 1, none⟩ = some (.map (some cm)) ∧ World.cell? W ⟨X, 1, none⟩ = some (.int .i64 (cl : Int)) ∧ World.cell? W ⟨X, 2, none⟩ = some (.int .i64 (sq : Int)) ∧ World.cell? W ⟨Y, 0, none⟩ = some (.int .i64 0) ∧ World.cell? W ⟨Y, 1, none⟩ = some (.int .u64 0) ∧ World.cell? W ⟨Y, 2, none⟩ = some (.int .i64 0) ∧ World.cell? W ⟨Y, 3, none⟩ = some (.int .u32 0) ∧ World.cell? W ⟨Y, 4, none⟩ = some (.slice none 0 0)) := Lib.hid (fun W hW => ⟨(HI11.out.grow hW).mach.mcl, (HI11.out.grow hW).box.cell 1, (HI11.out.grow hW).box.cell 2, (HY11.out.keep hW (by simp)).cell 0, (HY11.out.keep hW (by simp)).cell 1, (HY11.out.keep hW (by simp)).cell 2, (HY11.out.keep hW (by simp)).cell 3, (HY11.out.keep hW (by simp)).cell 4⟩)
      go_upto_region 15 with fail
      have hHeld := HS15.out _ (Keep.refl _ _).drew
      refine wp_region_K (S := fun W => World.cell? W ⟨m, 1, none⟩ = some (.map (some cm)) ∧ World.cell? W ⟨X, 1, none⟩ = some (.int .i64 (cl : Int)) ∧ World.cell? W ⟨X, 2, none⟩ = some (.int .i64 (sq : Int)) ∧ World.cell? W ⟨Y, 0, none⟩ = some (.int .i64 0) ∧ World.cell? W ⟨Y, 1, none⟩ = some (.int .u64 0) ∧ World.cell? W ⟨Y, 2, none⟩ = some (.int .i64 0) ∧ World.cell? W ⟨Y, 3, none⟩ = some (.int .u32 0) ∧ World.cell? W ⟨Y, 4, none⟩ = some (.slice none 0 0)) (z := 11) (by kernel_rfl) ?_
      refine tk 0 hHeld ?_
      refine tk 1 hHeld ?_
      refine tk 2 hHeld ?_
      refine tk 3 hHeld ?_
      refine tk 4 hHeld ?_
      refine tk 5 hHeld ?_
      refine tk 6 hHeld ?_
      refine tk 7 hHeld ?_
      refine tk 8 hHeld ?_
      clear hHeld
      have HOW := Lib.hid (fun W => wown_calls W)
      refine wpAnyK_one (k := 9) (by kernel_rfl) rfl (fun K hK => ?_)
      go_simp
      go_at_call 127
      refine (HOW.out _).mono ?_
      rintro e w12 ⟨rfl, hk12⟩
      have HK12 : Hid (Keep [] W11 w12) := Lib.hid ((Keep.refl _ _).drew.trans hk12)
      clear hk12 HOW
      go_simp
      have hHeld := HS15.out _ HK12.out
      refine hK.out _ _ (fun _ => hHeld) ?_
      clear hK K
      try simp only [Act.put, List.setIfInBounds_toArray, List.set_cons_zero, List.set_cons_succ]
      refine tk 10 hHeld ?_
      clear hHeld
      have HI12 := Lib.hid (HI11.out.grow HK12.out)
      have HY12 := Lib.hid (HY11.out.keep HK12.out (by simp))
      obtain ⟨w13, hmu, hm13, hk13, -⟩ := HI12.out.mach.map.put Tryz.underlying112 Tryz.underlying3 (cl : Int) (lastW sq)
      have HM13 := Lib.hid hm13
      have HY13 := Lib.hid (HY12.out.keep hk13 (by simpa using Ne.symm (HI12.out.mach.map.ne_ HY12.out)))
      have HR13 := Lib.hid (HI12.out.res.keep hk13 (by simpa using Ne.symm (HI12.out.mach.map.ne_ HI12.out.res)))
      have HK13 : Hid (Keep [cm] V w13) := Lib.hid ((HI12.out.keep.mono (by simp)).trans hk13)
      clear hm13 hk13
      simp only [lastW] at hmu
      refine wpAnyK_one (k := 11) (by kernel_rfl) rfl (fun K hK => ?_)
      go_simp
      refine hK.out _ _ (fun h => absurd rfl h) ?_
      clear hK K hmu
      try simp only [Act.put, List.setIfInBounds_toArray, List.set_cons_zero, List.set_cons_succ]
      refine wpAnyK_done (by kernel_rfl) ?_
      have y0 : w13.cell? ⟨Y, 0, none⟩ = some (.int .i64 0) := HY13.out.cell 0
      have y1 : w13.cell? ⟨Y, 1, none⟩ = some (.int .u64 0) := HY13.out.cell 1
      have y2 : w13.cell? ⟨Y, 2, none⟩ = some (.int .i64 0) := HY13.out.cell 2
      have y3 : w13.cell? ⟨Y, 3, none⟩ = some (.int .u32 0) := HY13.out.cell 3
      have y4 : w13.cell? ⟨Y, 4, none⟩ = some (.slice none 0 0) := HY13.out.cell 4
      have HR := HR13
      have z0 : World.cell? w13 ⟨R, 0, none⟩ = some (.int .i64 0) := HR.out.cell 0
      have z1 : World.cell? w13 ⟨R, 1, none⟩ = some (.int .u64 0) := HR.out.cell 1
      have z2 : World.cell? w13 ⟨R, 2, none⟩ = some (.int .i64 0) := HR.out.cell 2
      have z3 : World.cell? w13 ⟨R, 3, none⟩ = some (.int .u32 0) := HR.out.cell 3
      have z4 : World.cell? w13 ⟨R, 4, none⟩ = some (.slice none 0 0) := HR.out.cell 4
      have zf := HR.out.frozen
      go_wp2_with fail
      refine bodyPost_ret (v := errV 0) (by simp [results, Tryz.results69, go_sem, z0, z1, z2, z3, z4, errV]) rfl ⟨0, putN (cl : Int) (lastW sq) L, .inl rfl, rfl, HL.out.put _ _, ?_, ?_⟩
      · exact HM13.out.keep (M := [R]) (by repeat (first | refine Keep.setCell ?_ (.inl (by simp)) _ | refine Keep.drew ?_ | exact Keep.refl _ _)) (by have := HVL.out; have := HRG.out; simp; omega)
      · rw [← HVE.out]; exact HK13.out.fin2 HRG.out (by repeat (first | refine Keep.setCell ?_ (.inl (by simp)) _ | refine Keep.drew ?_ | exact Keep.refl _ _))
    · go_simp
      have HI95 := Lib.hid (HI9.out.grow ((Keep.refl _ _).alloc (.cells #[.int .i64 0, .int .u64 0, .int .i64 0, .int .u32 0, .slice none 0 0] 105)).drew)
      have HY95 : Hid (Blk (W9.alloc (.cells #[.int .i64 0, .int .u64 0, .int .i64 0, .int .u32 0, .slice none 0 0] 105)).drew W9.heap.size 105 #[.int .i64 0, .int .u64 0, .int .i64 0, .int .u32 0, .slice none 0 0]) := Lib.hid (Blk.new _ _ _).drew
      refine hK.out _ _ (fun _ => ⟨HI95.out.mach.mac, HI95.out.box.cell 0, HI95.out.box.cell 1, HI95.out.box.cell 2, HI95.out.box.cell 3, HI95.out.box.cell 4, HI95.out.box.cell 5, HI95.out.box.cell 6, HI95.out.box.cell 7, HI95.out.box.cell 8, HI95.out.box.cell 9, HI95.out.box.cell 10⟩) ?_
      clear hK K
      try simp only [Act.put, List.setIfInBounds_toArray, List.set_cons_zero, List.set_cons_succ]
      generalize (W9.alloc (.cells #[.int .i64 0, .int .u64 0, .int .i64 0, .int .u32 0, .slice none 0 0] 105)).drew = W95 at *
      have HLY : Hid (V.heap.size ≤ W9.heap.size) := Lib.hid HI9.out.keep.size
      have HNE : Hid (W9.heap.size ≠ R) := Lib.hid (by have := HI9.out.res.lt; omega)
      generalize W9.heap.size = Y at *
      refine wpAnyK_one (k := 5) (by kernel_rfl) rfl (fun K hK => ?_)
      go_simp
      go_at_call 126
      refine (HAP.out _ HI95.out.mach).mono ?_
      rintro e w10 ⟨rfl, hk10⟩
      have HI10 := Lib.hid (HI95.out.grow hk10)
      have HY10 := Lib.hid (HY95.out.keep hk10 (by simp))
      clear hk10 HI95 HY95
      go_simp
      refine hK.out _ _ (fun _ => ⟨HI10.out.mach.mac, HI10.out.box.cell 0, HI10.out.box.cell 1, HI10.out.box.cell 2, HI10.out.box.cell 3, HI10.out.box.cell 4, HI10.out.box.cell 5, HI10.out.box.cell 6, HI10.out.box.cell 7, HI10.out.box.cell 8, HI10.out.box.cell 9, HI10.out.box.cell 10⟩) ?_
      clear hK K
      try simp only [Act.put, List.setIfInBounds_toArray, List.set_cons_zero, List.set_cons_succ]
      have y0 : w10.cell? ⟨Y, 0, none⟩ = some (.int .i64 0) := HY10.out.cell 0
      have y1 : w10.cell? ⟨Y, 1, none⟩ = some (.int .u64 0) := HY10.out.cell 1
      have y2 : w10.cell? ⟨Y, 2, none⟩ = some (.int .i64 0) := HY10.out.cell 2
      have y3 : w10.cell? ⟨Y, 3, none⟩ = some (.int .u32 0) := HY10.out.cell 3
      have y4 : w10.cell? ⟨Y, 4, none⟩ = some (.slice none 0 0) := HY10.out.cell 4
      have yf := HY10.out.frozen
      refine wpAnyK_one (k := 7) (by kernel_rfl) rfl (fun K hK => ?_)
      go_simp
      refine hK.out _ _ (fun h => absurd rfl h) ?_
      clear hK K y0 y1 y2 y3 y4 yf
      try simp only [Act.put, List.setIfInBounds_toArray, List.set_cons_zero, List.set_cons_succ]
      refine wpAnyK_done (by kernel_rfl) ?_
      have HI11 : Hid (WSes V (((((w10.setCell ⟨Y, 0, none⟩ (.int .i64 0)).setCell ⟨Y, 1, none⟩ (.int .u64 0)).setCell ⟨Y, 2, none⟩ (.int .i64 0)).setCell ⟨Y, 3, none⟩ (.int .u32 0)).setCell ⟨Y, 4, none⟩ (.slice none 0 0)) m c cm mb mn ck t rest fr L R X cl sq) := Lib.hid (HI10.out.other HLY.out HY10.out HNE.out rfl HVL.out (by repeat (first | refine Keep.setCell ?_ (.inl (by simp)) _ | exact Keep.refl _ _)))
      have HY11 : Hid (Blk (((((w10.setCell ⟨Y, 0, none⟩ (.int .i64 0)).setCell ⟨Y, 1, none⟩ (.int .u64 0)).setCell ⟨Y, 2, none⟩ (.int .i64 0)).setCell ⟨Y, 3, none⟩ (.int .u32 0)).setCell ⟨Y, 4, none⟩ (.slice none 0 0)) Y 105 #[.int .i64 0, .int .u64 0, .int .i64 0, .int .u32 0, .slice none 0 0]) := Lib.hid (((((HY10.out.set_ 0 _).set_ 1 _).set_ 2 _).set_ 3 _).set_ 4 _)
      clear HI10 HY10
      generalize (((((w10.setCell ⟨Y, 0, none⟩ (.int .i64 0)).setCell ⟨Y, 1, none⟩ (.int .u64 0)).setCell ⟨Y, 2, none⟩ (.int .i64 0)).setCell ⟨Y, 3, none⟩ (.int .u32 0)).setCell ⟨Y, 4, none⟩ (.slice none 0 0)) = W11 at *
      have HS15 : Hid (∀ W, Keep [] W11 W → World.cell? W ⟨m, 1, none⟩ = some (.map (some cm)) ∧ World.cell? W ⟨X, 1, none⟩ = some (.int .i64 (cl : Int)) ∧ World.cell? W ⟨X, 2, none⟩ = some (.int .i64 (sq : Int)) ∧ World.cell? W ⟨Y, 0, none⟩ = some (.int .i64 0) ∧ World.cell? W ⟨Y, 1, none⟩ = some (.int .u64 0) ∧ World.cell? W ⟨Y, 2, none⟩ = some (.int .i64 0) ∧ World.cell? W ⟨Y, 3, none⟩ = some (.int .u32 0) ∧ World.cell? W ⟨Y, 4, none⟩ = some (.slice none 0 0)) := Lib.hid (fun W hW => ⟨(HI11.out.grow hW).mach.mcl, (HI11.out.grow hW).box.cell 1, (HI11.out.grow hW).box.cell 2, (HY11.out.keep hW (by simp)).cell 0, (HY11.out.keep hW (by simp)).cell 1, (HY11.out.keep hW (by simp)).cell 2, (HY11.out.keep hW (by simp)).cell 3, (HY11.out.keep hW (by simp)).cell 4⟩)
      go_upto_region 15 with fail
      have hHeld := HS15.out _ (Keep.refl _ _).drew
      refine wp_region_K (S := fun W => World.cell? W ⟨m, 1, none⟩ = some (.map (some cm)) ∧ World.cell? W ⟨X, 1, none⟩ = some (.int .i64 (cl : Int)) ∧ World.cell? W ⟨X, 2, none⟩ = some (.int .i64 (sq : Int)) ∧ World.cell? W ⟨Y, 0, none⟩ = some (.int .i64 0) ∧ World.cell? W ⟨Y, 1, none⟩ = some (.int .u64 0) ∧ World.cell? W ⟨Y, 2, none⟩ = some (.int .i64 0) ∧ World.cell? W ⟨Y, 3, none⟩ = some (.int .u32 0) ∧ World.cell? W ⟨Y, 4, none⟩ = some (.slice none 0 0)) (z := 11) (by kernel_rfl) ?_
      refine tk 0 hHeld ?_
      refine tk 1 hHeld ?_
      refine tk 2 hHeld ?_
      refine tk 3 hHeld ?_
      refine tk 4 hHeld ?_
      refine tk 5 hHeld ?_
      refine tk 6 hHeld ?_
      refine tk 7 hHeld ?_
      refine tk 8 hHeld ?_
      clear hHeld
      have HOW := Lib.hid (fun W => wown_calls W)
      refine wpAnyK_one (k := 9) (by kernel_rfl) rfl (fun K hK => ?_)
      go_simp
      go_at_call 127
      refine (HOW.out _).mono ?_
      rintro e w12 ⟨rfl, hk12⟩
      have HK12 : Hid (Keep [] W11 w12) := Lib.hid ((Keep.refl _ _).drew.trans hk12)
      clear hk12 HOW
      go_simp
      have hHeld := HS15.out _ HK12.out
      refine hK.out _ _ (fun _ => hHeld) ?_
      clear hK K
      try simp only [Act.put, List.setIfInBounds_toArray, List.set_cons_zero, List.set_cons_succ]
      refine tk 10 hHeld ?_
      clear hHeld
      have HI12 := Lib.hid (HI11.out.grow HK12.out)
      have HY12 := Lib.hid (HY11.out.keep HK12.out (by simp))
      obtain ⟨w13, hmu, hm13, hk13, -⟩ := HI12.out.mach.map.put Tryz.underlying112 Tryz.underlying3 (cl : Int) (lastW sq)
      have HM13 := Lib.hid hm13
      have HY13 := Lib.hid (HY12.out.keep hk13 (by simpa using Ne.symm (HI12.out.mach.map.ne_ HY12.out)))
      have HR13 := Lib.hid (HI12.out.res.keep hk13 (by simpa using Ne.symm (HI12.out.mach.map.ne_ HI12.out.res)))
      have HK13 : Hid (Keep [cm] V w13) := Lib.hid ((HI12.out.keep.mono (by simp)).trans hk13)
      clear hm13 hk13
      simp only [lastW] at hmu
      refine wpAnyK_one (k := 11) (by kernel_rfl) rfl (fun K hK => ?_)
      go_simp
      refine hK.out _ _ (fun h => absurd rfl h) ?_
      clear hK K hmu
      try simp only [Act.put, List.setIfInBounds_toArray, List.set_cons_zero, List.set_cons_succ]
      refine wpAnyK_done (by kernel_rfl) ?_
      have y0 : w13.cell? ⟨Y, 0, none⟩ = some (.int .i64 0) := HY13.out.cell 0
      have y1 : w13.cell? ⟨Y, 1, none⟩ = some (.int .u64 0) := HY13.out.cell 1
      have y2 : w13.cell? ⟨Y, 2, none⟩ = some (.int .i64 0) := HY13.out.cell 2
      have y3 : w13.cell? ⟨Y, 3, none⟩ = some (.int .u32 0) := HY13.out.cell 3
      have y4 : w13.cell? ⟨Y, 4, none⟩ = some (.slice none 0 0) := HY13.out.cell 4
      have HR := HR13
      have z0 : World.cell? w13 ⟨R, 0, none⟩ = some (.int .i64 0) := HR.out.cell 0
      have z1 : World.cell? w13 ⟨R, 1, none⟩ = some (.int .u64 0) := HR.out.cell 1
      have z2 : World.cell? w13 ⟨R, 2, none⟩ = some (.int .i64 0) := HR.out.cell 2
      have z3 : World.cell? w13 ⟨R, 3, none⟩ = some (.int .u32 0) := HR.out.cell 3
      have z4 : World.cell? w13 ⟨R, 4, none⟩ = some (.slice none 0 0) := HR.out.cell 4
      have zf := HR.out.frozen
      go_wp2_with fail
      refine bodyPost_ret (v := errV 0) (by simp [results, Tryz.results69, go_sem, z0, z1, z2, z3, z4, errV]) rfl ⟨0, putN (cl : Int) (lastW sq) L, .inl rfl, rfl, HL.out.put _ _, ?_, ?_⟩
      · exact HM13.out.keep (M := [R]) (by repeat (first | refine Keep.setCell ?_ (.inl (by simp)) _ | refine Keep.drew ?_ | exact Keep.refl _ _)) (by have := HVL.out; have := HRG.out; simp; omega)
      · rw [← HVE.out]; exact HK13.out.fin2 HRG.out (by repeat (first | refine Keep.setCell ?_ (.inl (by simp)) _ | refine Keep.drew ?_ | exact Keep.refl _ _))
  | some u =>
    have hok : (lookN (cl : Int) L).isSome = true := by rw [hlk]; rfl
    clear hlk
    by_cases he : sq = y
    · have he1 : ((sq : Int) == (y : Int)) = true := beq_iff_eq.2 (by omega)
      clear he
      have HOW := Lib.hid (fun W => wown_calls W)
      go_wp2_with (go_at_call 127; refine (HOW.out _).mono ?_; rintro e w10 ⟨rfl, hk10⟩; have HI10 := Lib.hid (HI9.out.grow hk10); have HR := Lib.hid HI10.out.res; have z0 : w10.cell? ⟨R, 0, none⟩ = some (.int .i64 0) := HR.out.cell 0; have z1 : w10.cell? ⟨R, 1, none⟩ = some (.int .u64 0) := HR.out.cell 1; have z2 : w10.cell? ⟨R, 2, none⟩ = some (.int .i64 0) := HR.out.cell 2; have z3 : w10.cell? ⟨R, 3, none⟩ = some (.int .u32 0) := HR.out.cell 3; have z4 : w10.cell? ⟨R, 4, none⟩ = some (.slice none 0 0) := HR.out.cell 4; have zf := HR.out.frozen; clear hk10)
      refine bodyPost_ret (v := errV 0) (by simp [results, Tryz.results69, go_sem, z0, z1, z2, z3, z4, errV]) rfl ⟨0, L, .inl rfl, rfl, HL.out, ?_, ?_⟩
      · exact HI10.out.mach.map.keep (M := [R]) (by repeat (first | refine Keep.setCell ?_ (.inl (by simp)) _ | refine Keep.drew ?_ | exact Keep.refl _ _)) (by have := HVL.out; have := HRG.out; simp; omega)
      · rw [← HVE.out]; exact HI10.out.keep.fin HRG.out (by repeat (first | refine Keep.setCell ?_ (.inl (by simp)) _ | refine Keep.drew ?_ | exact Keep.refl _ _))
    · have he1 : ((sq : Int) == (y : Int)) = false := beq_eq_false_iff_ne.2 (by omega)
      clear he
      go_upto_region 14 with fail
      clear x0 x1 x2 x3 x4 x5 x6 x7 x8 x9 x10 l0 l1 l2 l3 l4 l5 hok
      have hHeld : World.cell? W9.drew ⟨m, 0, none⟩ = some (.pointer (some ⟨c, 0, none⟩)) ∧ World.cell? W9.drew ⟨X, 0, none⟩ = some (.int .i64 4) ∧ World.cell? W9.drew ⟨X, 1, none⟩ = some (.int .i64 (cl : Int)) ∧ World.cell? W9.drew ⟨X, 2, none⟩ = some (.int .i64 (sq : Int)) ∧ World.cell? W9.drew ⟨X, 3, none⟩ = some (.string (bs [])) ∧ World.cell? W9.drew ⟨X, 4, none⟩ = some (.int .u64 0) ∧ World.cell? W9.drew ⟨X, 5, none⟩ = some (.int .i64 0) ∧ World.cell? W9.drew ⟨X, 6, none⟩ = some (.int .u32 0) ∧ World.cell? W9.drew ⟨X, 7, none⟩ = some (.slice none 0 0) ∧ World.cell? W9.drew ⟨X, 8, none⟩ = some (.int .i64 0) ∧ World.cell? W9.drew ⟨X, 9, none⟩ = some (.int .i64 0) ∧ World.cell? W9.drew ⟨X, 10, none⟩ = some (.int .i64 0) := ⟨(HI9.out.grow (Keep.refl _ _).drew).mach.mac, (HI9.out.grow (Keep.refl _ _).drew).box.cell 0, (HI9.out.grow (Keep.refl _ _).drew).box.cell 1, (HI9.out.grow (Keep.refl _ _).drew).box.cell 2, (HI9.out.grow (Keep.refl _ _).drew).box.cell 3, (HI9.out.grow (Keep.refl _ _).drew).box.cell 4, (HI9.out.grow (Keep.refl _ _).drew).box.cell 5, (HI9.out.grow (Keep.refl _ _).drew).box.cell 6, (HI9.out.grow (Keep.refl _ _).drew).box.cell 7, (HI9.out.grow (Keep.refl _ _).drew).box.cell 8, (HI9.out.grow (Keep.refl _ _).drew).box.cell 9, (HI9.out.grow (Keep.refl _ _).drew).box.cell 10⟩
      refine wp_region_K (S := fun W => World.cell? W ⟨m, 0, none⟩ = some (.pointer (some ⟨c, 0, none⟩)) ∧ World.cell? W ⟨X, 0, none⟩ = some (.int .i64 4) ∧ World.cell? W ⟨X, 1, none⟩ = some (.int .i64 (cl : Int)) ∧ World.cell? W ⟨X, 2, none⟩ = some (.int .i64 (sq : Int)) ∧ World.cell? W ⟨X, 3, none⟩ = some (.string (bs [])) ∧ World.cell? W ⟨X, 4, none⟩ = some (.int .u64 0) ∧ World.cell? W ⟨X, 5, none⟩ = some (.int .i64 0) ∧ World.cell? W ⟨X, 6, none⟩ = some (.int .u32 0) ∧ World.cell? W ⟨X, 7, none⟩ = some (.slice none 0 0) ∧ World.cell? W ⟨X, 8, none⟩ = some (.int .i64 0) ∧ World.cell? W ⟨X, 9, none⟩ = some (.int .i64 0) ∧ World.cell? W ⟨X, 10, none⟩ = some (.int .i64 0)) (z := 7) (by kernel_rfl) ?_
      refine tk 0 hHeld ?_
      refine tk 1 hHeld ?_
      refine tk 2 hHeld ?_
      refine tk 3 hHeld ?_
      refine tk 4 hHeld ?_
      clear hHeld
      refine wpAnyK_two (k := 5) (l := 6) (by kernel_rfl) rfl rfl (fun K hK => ?_) (fun K hK => ?_)
      · go_simp
        go_at_call 126
        refine (HAP.out _ (HI9.out.grow (Keep.refl _ _).drew).mach).mono ?_
        rintro e w10 ⟨rfl, hk10⟩
        have HI10 := Lib.hid ((HI9.out.grow (Keep.refl _ _).drew).grow hk10)
        clear hk10
        go_simp
        refine hK.out _ _ (fun _ => ⟨HI10.out.mach.mac, HI10.out.box.cell 0, HI10.out.box.cell 1, HI10.out.box.cell 2, HI10.out.box.cell 3, HI10.out.box.cell 4, HI10.out.box.cell 5, HI10.out.box.cell 6, HI10.out.box.cell 7, HI10.out.box.cell 8, HI10.out.box.cell 9, HI10.out.box.cell 10⟩) ?_
        clear hK K
        try simp only [Act.put, List.setIfInBounds_toArray, List.set_cons_zero, List.set_cons_succ]
        refine wpAnyK_one (k := 6) (by kernel_rfl) rfl (fun K hK => ?_)
        go_simp
        refine hK.out _ _ (fun _ => ⟨(HI10.out.grow ((Keep.refl _ _).alloc _)).mach.mac, (HI10.out.grow ((Keep.refl _ _).alloc _)).box.cell 0, (HI10.out.grow ((Keep.refl _ _).alloc _)).box.cell 1, (HI10.out.grow ((Keep.refl _ _).alloc _)).box.cell 2, (HI10.out.grow ((Keep.refl _ _).alloc _)).box.cell 3, (HI10.out.grow ((Keep.refl _ _).alloc _)).box.cell 4, (HI10.out.grow ((Keep.refl _ _).alloc _)).box.cell 5, (HI10.out.grow ((Keep.refl _ _).alloc _)).box.cell 6, (HI10.out.grow ((Keep.refl _ _).alloc _)).box.cell 7, (HI10.out.grow ((Keep.refl _ _).alloc _)).box.cell 8, (HI10.out.grow ((Keep.refl _ _).alloc _)).box.cell 9, (HI10.out.grow ((Keep.refl _ _).alloc _)).box.cell 10⟩) ?_
        clear hK K
        try simp only [Act.put, List.setIfInBounds_toArray, List.set_cons_zero, List.set_cons_succ]
        refine wpAnyK_one (k := 7) (by kernel_rfl) rfl (fun K hK => ?_)
        go_simp
        refine hK.out _ _ (fun h => absurd rfl h) ?_
        clear hK K
        try simp only [Act.put, List.setIfInBounds_toArray, List.set_cons_zero, List.set_cons_succ]
        refine wpAnyK_done (by kernel_rfl) ?_
        have HI11 := Lib.hid (HI10.out.grow ((Keep.refl _ _).alloc (.cells #[.int .i64 0, .int .u64 0, .int .i64 0, .int .u32 0, .slice none 0 0] 105)))
        have HY11 : Hid (Blk (w10.alloc (.cells #[.int .i64 0, .int .u64 0, .int .i64 0, .int .u32 0, .slice none 0 0] 105)) w10.heap.size 105 #[.int .i64 0, .int .u64 0, .int .i64 0, .int .u32 0, .slice none 0 0]) := Lib.hid (Blk.new _ _ _)
        clear HI10
        generalize w10.alloc (.cells #[.int .i64 0, .int .u64 0, .int .i64 0, .int .u32 0, .slice none 0 0] 105) = W11 at *
        generalize w10.heap.size = Y at *
        have HS15 : Hid (∀ W, Keep [] W11 W → World.cell? W ⟨m, 1, none⟩ = some (.map (some cm)) ∧ World.cell? W ⟨X, 1, none⟩ = some (.int .i64 (cl : Int)) ∧ World.cell? W ⟨X, 2, none⟩ = some (.int .i64 (sq : Int)) ∧ World.cell? W ⟨Y, 0, none⟩ = some (.int .i64 0) ∧ World.cell? W ⟨Y, 1, none⟩ = some (.int .u64 0) ∧ World.cell? W ⟨Y, 2, none⟩ = some (.int .i64 0) ∧ World.cell? W ⟨Y, 3, none⟩ = some (.int .u32 0) ∧ World.cell? W ⟨Y, 4, none⟩ = some (.slice none 0 0)) := Lib.hid (fun W hW => ⟨(HI11.out.grow hW).mach.mcl, (HI11.out.grow hW).box.cell 1, (HI11.out.grow hW).box.cell 2, (HY11.out.keep hW (by simp)).cell 0, (HY11.out.keep hW (by simp)).cell 1, (HY11.out.keep hW (by simp)).cell 2, (HY11.out.keep hW (by simp)).cell 3, (HY11.out.keep hW (by simp)).cell 4⟩)
        go_upto_region 15 with fail
        have hHeld := HS15.out _ (Keep.refl _ _).drew
        refine wp_region_K (S := fun W => World.cell? W ⟨m, 1, none⟩ = some (.map (some cm)) ∧ World.cell? W ⟨X, 1, none⟩ = some (.int .i64 (cl : Int)) ∧ World.cell? W ⟨X, 2, none⟩ = some (.int .i64 (sq : Int)) ∧ World.cell? W ⟨Y, 0, none⟩ = some (.int .i64 0) ∧ World.cell? W ⟨Y, 1, none⟩ = some (.int .u64 0) ∧ World.cell? W ⟨Y, 2, none⟩ = some (.int .i64 0) ∧ World.cell? W ⟨Y, 3, none⟩ = some (.int .u32 0) ∧ World.cell? W ⟨Y, 4, none⟩ = some (.slice none 0 0)) (z := 11) (by kernel_rfl) ?_
        refine tk 0 hHeld ?_
        refine tk 1 hHeld ?_
        refine tk 2 hHeld ?_
        refine tk 3 hHeld ?_
        refine tk 4 hHeld ?_
        refine tk 5 hHeld ?_
        refine tk 6 hHeld ?_
        refine tk 7 hHeld ?_
        refine tk 8 hHeld ?_
        clear hHeld
        have HOW := Lib.hid (fun W => wown_calls W)
        refine wpAnyK_one (k := 9) (by kernel_rfl) rfl (fun K hK => ?_)
        go_simp
        go_at_call 127
        refine (HOW.out _).mono ?_
        rintro e w12 ⟨rfl, hk12⟩
        have HK12 : Hid (Keep [] W11 w12) := Lib.hid ((Keep.refl _ _).drew.trans hk12)
        clear hk12 HOW
        go_simp
        have hHeld := HS15.out _ HK12.out
        refine hK.out _ _ (fun _ => hHeld) ?_
        clear hK K
        try simp only [Act.put, List.setIfInBounds_toArray, List.set_cons_zero, List.set_cons_succ]
        refine tk 10 hHeld ?_
        clear hHeld
        have HI12 := Lib.hid (HI11.out.grow HK12.out)
        have HY12 := Lib.hid (HY11.out.keep HK12.out (by simp))
        obtain ⟨w13, hmu, hm13, hk13, -⟩ := HI12.out.mach.map.put Tryz.underlying112 Tryz.underlying3 (cl : Int) (lastW sq)
        have HM13 := Lib.hid hm13
        have HY13 := Lib.hid (HY12.out.keep hk13 (by simpa using Ne.symm (HI12.out.mach.map.ne_ HY12.out)))
        have HR13 := Lib.hid (HI12.out.res.keep hk13 (by simpa using Ne.symm (HI12.out.mach.map.ne_ HI12.out.res)))
        have HK13 : Hid (Keep [cm] V w13) := Lib.hid ((HI12.out.keep.mono (by simp)).trans hk13)
        clear hm13 hk13
        simp only [lastW] at hmu
        refine wpAnyK_one (k := 11) (by kernel_rfl) rfl (fun K hK => ?_)
        go_simp
        refine hK.out _ _ (fun h => absurd rfl h) ?_
        clear hK K hmu
        try simp only [Act.put, List.setIfInBounds_toArray, List.set_cons_zero, List.set_cons_succ]
        refine wpAnyK_done (by kernel_rfl) ?_
        have y0 : w13.cell? ⟨Y, 0, none⟩ = some (.int .i64 0) := HY13.out.cell 0
        have y1 : w13.cell? ⟨Y, 1, none⟩ = some (.int .u64 0) := HY13.out.cell 1
        have y2 : w13.cell? ⟨Y, 2, none⟩ = some (.int .i64 0) := HY13.out.cell 2
        have y3 : w13.cell? ⟨Y, 3, none⟩ = some (.int .u32 0) := HY13.out.cell 3
        have y4 : w13.cell? ⟨Y, 4, none⟩ = some (.slice none 0 0) := HY13.out.cell 4
        have HR := HR13
        have z0 : World.cell? w13 ⟨R, 0, none⟩ = some (.int .i64 0) := HR.out.cell 0
        have z1 : World.cell? w13 ⟨R, 1, none⟩ = some (.int .u64 0) := HR.out.cell 1
        have z2 : World.cell? w13 ⟨R, 2, none⟩ = some (.int .i64 0) := HR.out.cell 2
        have z3 : World.cell? w13 ⟨R, 3, none⟩ = some (.int .u32 0) := HR.out.cell 3
        have z4 : World.cell? w13 ⟨R, 4, none⟩ = some (.slice none 0 0) := HR.out.cell 4
        have zf := HR.out.frozen
        go_wp2_with fail
        refine bodyPost_ret (v := errV 0) (by simp [results, Tryz.results69, go_sem, z0, z1, z2, z3, z4, errV]) rfl ⟨0, putN (cl : Int) (lastW sq) L, .inl rfl, rfl, HL.out.put _ _, ?_, ?_⟩
        · exact HM13.out.keep (M := [R]) (by repeat (first | refine Keep.setCell ?_ (.inl (by simp)) _ | refine Keep.drew ?_ | exact Keep.refl _ _)) (by have := HVL.out; have := HRG.out; simp; omega)
        · rw [← HVE.out]; exact HK13.out.fin2 HRG.out (by repeat (first | refine Keep.setCell ?_ (.inl (by simp)) _ | refine Keep.drew ?_ | exact Keep.refl _ _))
      · go_simp
        have HI95 := Lib.hid (HI9.out.grow ((Keep.refl _ _).alloc (.cells #[.int .i64 0, .int .u64 0, .int .i64 0, .int .u32 0, .slice none 0 0] 105)).drew)
        have HY95 : Hid (Blk (W9.alloc (.cells #[.int .i64 0, .int .u64 0, .int .i64 0, .int .u32 0, .slice none 0 0] 105)).drew W9.heap.size 105 #[.int .i64 0, .int .u64 0, .int .i64 0, .int .u32 0, .slice none 0 0]) := Lib.hid (Blk.new _ _ _).drew
        refine hK.out _ _ (fun _ => ⟨HI95.out.mach.mac, HI95.out.box.cell 0, HI95.out.box.cell 1, HI95.out.box.cell 2, HI95.out.box.cell 3, HI95.out.box.cell 4, HI95.out.box.cell 5, HI95.out.box.cell 6, HI95.out.box.cell 7, HI95.out.box.cell 8, HI95.out.box.cell 9, HI95.out.box.cell 10⟩) ?_
        clear hK K
        try simp only [Act.put, List.setIfInBounds_toArray, List.set_cons_zero, List.set_cons_succ]
        generalize (W9.alloc (.cells #[.int .i64 0, .int .u64 0, .int .i64 0, .int .u32 0, .slice none 0 0] 105)).drew = W95 at *
        have HLY : Hid (V.heap.size ≤ W9.heap.size) := Lib.hid HI9.out.keep.size
        have HNE : Hid (W9.heap.size ≠ R) := Lib.hid (by have := HI9.out.res.lt; omega)
        generalize W9.heap.size = Y at *
        refine wpAnyK_one (k := 5) (by kernel_rfl) rfl (fun K hK => ?_)
        go_simp
        go_at_call 126
        refine (HAP.out _ HI95.out.mach).mono ?_
        rintro e w10 ⟨rfl, hk10⟩
        have HI10 := Lib.hid (HI95.out.grow hk10)
        have HY10 := Lib.hid (HY95.out.keep hk10 (by simp))
        clear hk10 HI95 HY95
        go_simp
        refine hK.out _ _ (fun _ => ⟨HI10.out.mach.mac, HI10.out.box.cell 0, HI10.out.box.cell 1, HI10.out.box.cell 2, HI10.out.box.cell 3, HI10.out.box.cell 4, HI10.out.box.cell 5, HI10.out.box.cell 6, HI10.out.box.cell 7, HI10.out.box.cell 8, HI10.out.box.cell 9, HI10.out.box.cell 10⟩) ?_
        clear hK K
        try simp only [Act.put, List.setIfInBounds_toArray, List.set_cons_zero, List.set_cons_succ]
        have y0 : w10.cell? ⟨Y, 0, none⟩ = some (.int .i64 0) := HY10.out.cell 0
        have y1 : w10.cell? ⟨Y, 1, none⟩ = some (.int .u64 0) := HY10.out.cell 1
        have y2 : w10.cell? ⟨Y, 2, none⟩ = some (.int .i64 0) := HY10.out.cell 2
        have y3 : w10.cell? ⟨Y, 3, none⟩ = some (.int .u32 0) := HY10.out.cell 3
        have y4 : w10.cell? ⟨Y, 4, none⟩ = some (.slice none 0 0) := HY10.out.cell 4
        have yf := HY10.out.frozen
        refine wpAnyK_one (k := 7) (by kernel_rfl) rfl (fun K hK => ?_)
        go_simp
        refine hK.out _ _ (fun h => absurd rfl h) ?_
        clear hK K y0 y1 y2 y3 y4 yf
        try simp only [Act.put, List.setIfInBounds_toArray, List.set_cons_zero, List.set_cons_succ]
        refine wpAnyK_done (by kernel_rfl) ?_
        have HI11 : Hid (WSes V (((((w10.setCell ⟨Y, 0, none⟩ (.int .i64 0)).setCell ⟨Y, 1, none⟩ (.int .u64 0)).setCell ⟨Y, 2, none⟩ (.int .i64 0)).setCell ⟨Y, 3, none⟩ (.int .u32 0)).setCell ⟨Y, 4, none⟩ (.slice none 0 0)) m c cm mb mn ck t rest fr L R X cl sq) := Lib.hid (HI10.out.other HLY.out HY10.out HNE.out rfl HVL.out (by repeat (first | refine Keep.setCell ?_ (.inl (by simp)) _ | exact Keep.refl _ _)))
        have HY11 : Hid (Blk (((((w10.setCell ⟨Y, 0, none⟩ (.int .i64 0)).setCell ⟨Y, 1, none⟩ (.int .u64 0)).setCell ⟨Y, 2, none⟩ (.int .i64 0)).setCell ⟨Y, 3, none⟩ (.int .u32 0)).setCell ⟨Y, 4, none⟩ (.slice none 0 0)) Y 105 #[.int .i64 0, .int .u64 0, .int .i64 0, .int .u32 0, .slice none 0 0]) := Lib.hid (((((HY10.out.set_ 0 _).set_ 1 _).set_ 2 _).set_ 3 _).set_ 4 _)
        clear HI10 HY10
        generalize (((((w10.setCell ⟨Y, 0, none⟩ (.int .i64 0)).setCell ⟨Y, 1, none⟩ (.int .u64 0)).setCell ⟨Y, 2, none⟩ (.int .i64 0)).setCell ⟨Y, 3, none⟩ (.int .u32 0)).setCell ⟨Y, 4, none⟩ (.slice none 0 0)) = W11 at *
        have HS15 : Hid (∀ W, Keep [] W11 W → World.cell? W ⟨m, 1, none⟩ = some (.map (some cm)) ∧ World.cell? W ⟨X, 1, none⟩ = some (.int .i64 (cl : Int)) ∧ World.cell? W ⟨X, 2, none⟩ = some (.int .i64 (sq : Int)) ∧ World.cell? W ⟨Y, 0, none⟩ = some (.int .i64 0) ∧ World.cell? W ⟨Y, 1, none⟩ = some (.int .u64 0) ∧ World.cell? W ⟨Y, 2, none⟩ = some (.int .i64 0) ∧ World.cell? W ⟨Y, 3, none⟩ = some (.int .u32 0) ∧ World.cell? W ⟨Y, 4, none⟩ = some (.slice none 0 0)) := Lib.hid (fun W hW => ⟨(HI11.out.grow hW).mach.mcl, (HI11.out.grow hW).box.cell 1, (HI11.out.grow hW).box.cell 2, (HY11.out.keep hW (by simp)).cell 0, (HY11.out.keep hW (by simp)).cell 1, (HY11.out.keep hW (by simp)).cell 2, (HY11.out.keep hW (by simp)).cell 3, (HY11.out.keep hW (by simp)).cell 4⟩)
        go_upto_region 15 with fail
        have hHeld := HS15.out _ (Keep.refl _ _).drew
        refine wp_region_K (S := fun W => World.cell? W ⟨m, 1, none⟩ = some (.map (some cm)) ∧ World.cell? W ⟨X, 1, none⟩ = some (.int .i64 (cl : Int)) ∧ World.cell? W ⟨X, 2, none⟩ = some (.int .i64 (sq : Int)) ∧ World.cell? W ⟨Y, 0, none⟩ = some (.int .i64 0) ∧ World.cell? W ⟨Y, 1, none⟩ = some (.int .u64 0) ∧ World.cell? W ⟨Y, 2, none⟩ = some (.int .i64 0) ∧ World.cell? W ⟨Y, 3, none⟩ = some (.int .u32 0) ∧ World.cell? W ⟨Y, 4, none⟩ = some (.slice none 0 0)) (z := 11) (by kernel_rfl) ?_
        refine tk 0 hHeld ?_
        refine tk 1 hHeld ?_
        refine tk 2 hHeld ?_
        refine tk 3 hHeld ?_
        refine tk 4 hHeld ?_
        refine tk 5 hHeld ?_
        refine tk 6 hHeld ?_
        refine tk 7 hHeld ?_
        refine tk 8 hHeld ?_
        clear hHeld
        have HOW := Lib.hid (fun W => wown_calls W)
        refine wpAnyK_one (k := 9) (by kernel_rfl) rfl (fun K hK => ?_)
        go_simp
        go_at_call 127
        refine (HOW.out _).mono ?_
        rintro e w12 ⟨rfl, hk12⟩
        have HK12 : Hid (Keep [] W11 w12) := Lib.hid ((Keep.refl _ _).drew.trans hk12)
        clear hk12 HOW
        go_simp
        have hHeld := HS15.out _ HK12.out
        refine hK.out _ _ (fun _ => hHeld) ?_
        clear hK K
        try simp only [Act.put, List.setIfInBounds_toArray, List.set_cons_zero, List.set_cons_succ]
        refine tk 10 hHeld ?_
        clear hHeld
        have HI12 := Lib.hid (HI11.out.grow HK12.out)
        have HY12 := Lib.hid (HY11.out.keep HK12.out (by simp))
        obtain ⟨w13, hmu, hm13, hk13, -⟩ := HI12.out.mach.map.put Tryz.underlying112 Tryz.underlying3 (cl : Int) (lastW sq)
        have HM13 := Lib.hid hm13
        have HY13 := Lib.hid (HY12.out.keep hk13 (by simpa using Ne.symm (HI12.out.mach.map.ne_ HY12.out)))
        have HR13 := Lib.hid (HI12.out.res.keep hk13 (by simpa using Ne.symm (HI12.out.mach.map.ne_ HI12.out.res)))
        have HK13 : Hid (Keep [cm] V w13) := Lib.hid ((HI12.out.keep.mono (by simp)).trans hk13)
        clear hm13 hk13
        simp only [lastW] at hmu
        refine wpAnyK_one (k := 11) (by kernel_rfl) rfl (fun K hK => ?_)
        go_simp
        refine hK.out _ _ (fun h => absurd rfl h) ?_
        clear hK K hmu
        try simp only [Act.put, List.setIfInBounds_toArray, List.set_cons_zero, List.set_cons_succ]
        refine wpAnyK_done (by kernel_rfl) ?_
        have y0 : w13.cell? ⟨Y, 0, none⟩ = some (.int .i64 0) := HY13.out.cell 0
        have y1 : w13.cell? ⟨Y, 1, none⟩ = some (.int .u64 0) := HY13.out.cell 1
        have y2 : w13.cell? ⟨Y, 2, none⟩ = some (.int .i64 0) := HY13.out.cell 2
        have y3 : w13.cell? ⟨Y, 3, none⟩ = some (.int .u32 0) := HY13.out.cell 3
        have y4 : w13.cell? ⟨Y, 4, none⟩ = some (.slice none 0 0) := HY13.out.cell 4
        have HR := HR13
        have z0 : World.cell? w13 ⟨R, 0, none⟩ = some (.int .i64 0) := HR.out.cell 0
        have z1 : World.cell? w13 ⟨R, 1, none⟩ = some (.int .u64 0) := HR.out.cell 1
        have z2 : World.cell? w13 ⟨R, 2, none⟩ = some (.int .i64 0) := HR.out.cell 2
        have z3 : World.cell? w13 ⟨R, 3, none⟩ = some (.int .u32 0) := HR.out.cell 3
        have z4 : World.cell? w13 ⟨R, 4, none⟩ = some (.slice none 0 0) := HR.out.cell 4
        have zf := HR.out.frozen
        go_wp2_with fail
        refine bodyPost_ret (v := errV 0) (by simp [results, Tryz.results69, go_sem, z0, z1, z2, z3, z4, errV]) rfl ⟨0, putN (cl : Int) (lastW sq) L, .inl rfl, rfl, HL.out.put _ _, ?_, ?_⟩
        · exact HM13.out.keep (M := [R]) (by repeat (first | refine Keep.setCell ?_ (.inl (by simp)) _ | refine Keep.drew ?_ | exact Keep.refl _ _)) (by have := HVL.out; have := HRG.out; simp; omega)
        · rw [← HVE.out]; exact HK13.out.fin2 HRG.out (by repeat (first | refine Keep.setCell ?_ (.inl (by simp)) _ | refine Keep.drew ?_ | exact Keep.refl _ _))
end
end Go.Proofs.YtpnoiagjgkajdaaGreatDoor
