/- Plain laws: what is encoded is decoded, what is framed is opened. -/
import Derived.Test.YtnlcipocobmgiaaGreatDoorCodecs
import Derived.Test.YtnlcipocobmgiaaGreatDoorSeals
import Derived.Test.YtnlcipocobmgiaaGreatDoorFrameS
import Derived.Test.YtnlcipocobmgiaaGreatDoorTermAll
import Derived.Test.YtnlcipocobmgiaaGreatDoorGood
import Derived.Test.YtnlcipocobmgiaaGreatDoorProg
import Derived.Test.YtnlcipocobmgiaaGreatDoorBase
import Derived.BigQuiet
namespace Go.Proofs.YtnlcipocobmgiaaGreatDoor
open Go.RowKit

theorem encU_one {n : Nat} (h : n < 128) : encU n = [UInt8.ofNat n] := by
  unfold encU
  rw [Nat.div_eq_of_lt h, Nat.mod_eq_of_lt h]
  unfold encH
  simp
theorem encH_ne (n : Nat) (h : n ≠ 0) : encH n = encH (n / 128) ++ [UInt8.ofNat (128 + n % 128)] := by
  rw [encH, dif_neg h]
/-- The decoder over the first bytes of a number. -/
theorem uF_encH : ∀ (n : Nat), n < 144115188075855872 → n ≠ 0 → ∀ (r : List UInt8),
    uF (encH n ++ r) 0 true = ((uF r n false).1, (uF r n false).2.1 + (encH n).length, (uF r n false).2.2) := by
  intro n
  induction n using Nat.strongRecOn with
  | _ n ih =>
    intro hn h0 r
    rw [encH_ne n h0]
    by_cases hq : n / 128 = 0
    · have hlt : n < 128 := by omega
      have he : encH (n / 128) = [] := by rw [hq]; unfold encH; simp
      rw [he, List.nil_append, List.singleton_append, uF_cons, Nat.mod_eq_of_lt hlt]
      have hc : (UInt8.ofNat (128 + n)).toNat = 128 + n := by rw [UInt8.toNat_ofNat']; omega
      rw [hc, if_neg (by simp; omega), if_neg (by omega)]
      have : 0 * 128 + (128 + n) % 128 = n := by omega
      rw [this]
      simp
    · have := ih (n / 128) (by omega) (by omega) hq ([UInt8.ofNat (128 + n % 128)] ++ r)
      rw [List.append_assoc, this, List.singleton_append, uF_cons]
      have hc : (UInt8.ofNat (128 + n % 128)).toNat = 128 + n % 128 := by rw [UInt8.toNat_ofNat']; omega
      rw [hc, if_neg (by simp; omega), if_neg (by omega)]
      have h2 : n / 128 * 128 + (128 + n % 128) % 128 = n := by omega
      rw [h2]
      simp only [List.length_append, List.length_cons, List.length_nil]
      congr 2
      omega
theorem uF_encU (n : Nat) (hn : n < 18446744073709551616) (r : List UInt8) : uF (encU n ++ r) 0 true = (n, (encU n).length, 0) := by
  by_cases hs : n < 128
  · rw [encU_one hs, List.singleton_append, uF_cons]
    have hc : (UInt8.ofNat n).toNat = n := by rw [UInt8.toNat_ofNat']; omega
    rw [hc, if_neg (by simp; omega), if_pos hs]
    simp
    omega
  · unfold encU
    rw [List.append_assoc, uF_encH (n / 128) (by omega) (by omega), List.singleton_append, uF_cons]
    have hc : (UInt8.ofNat (n % 128)).toNat = n % 128 := by rw [UInt8.toNat_ofNat']; omega
    rw [hc, if_neg (by simp; omega), if_pos (by omega)]
    simp only [List.length_append, List.length_cons, List.length_nil]
    simp only [Prod.mk.injEq, and_true]
    omega
/-- A number that was encoded is taken off. -/
theorem Ds.i_enc {a r : List UInt8} {n most : Nat} (hn : n < 18446744073709551616) (hm : n ≤ most) : Ds.i ⟨a ++ (encU n ++ r), a.length, 0⟩ most = (n, ⟨a ++ (encU n ++ r), (a ++ encU n).length, 0⟩) := by
  have hu : Ds.u ⟨a ++ (encU n ++ r), a.length, 0⟩ = (n, ⟨a ++ (encU n ++ r), (a ++ encU n).length, 0⟩) := by
    unfold Ds.u
    rw [if_neg (by simp)]
    simp only [List.drop_left, uF_encU n hn r, List.length_append]
  unfold Ds.i
  rw [hu, if_neg (by simp only; omega)]
theorem Ds.str_enc {a r s : List UInt8} {most : Nat} (hn : s.length < 18446744073709551616) (hm : s.length ≤ most) : Ds.str ⟨a ++ (encS s ++ r), a.length, 0⟩ most = (s, ⟨a ++ (encS s ++ r), (a ++ encS s).length, 0⟩) := by
  have h1 : a ++ (encS s ++ r) = a ++ (encU s.length ++ (s ++ r)) := by simp [encS]
  have hi := Ds.i_enc (a := a) (r := s ++ r) hn hm
  unfold Ds.str
  rw [h1, hi]
  simp only
  rw [if_neg (by simp), if_neg (by simp only [List.length_append]; omega)]
  have h2 : (a ++ (encU s.length ++ (s ++ r))).drop (a ++ encU s.length).length = s ++ r := by
    rw [← List.append_assoc a, List.drop_left]
  rw [h2, List.take_left]
  simp [encS, Nat.add_assoc]
theorem Ds.done_end (a : List UInt8) : (Ds.done ⟨a, a.length, 0⟩).err = 0 := by simp [Ds.done]

theorem be4_val (n : Int) (h0 : 0 ≤ n) (h1 : n ≤ 4294967295) : ∃ a b c d, be4 n = [a, b, c, d] ∧ val4 a b c d = n :=
  ⟨_, _, _, _, rfl, val4_be4 n h0 h1⟩
theorem openF_frame (s r : List UInt8) (hs : s.length ≤ 1048576) : openF (frame s ++ r) = (s, (s.length : Int) + 8, 0) := by
  obtain ⟨a, b, c, d, h1, h2⟩ := be4_val (s.length : Int) (by omega) (by omega)
  have hc := crc_bd (be4 (s.length : Int) ++ s)
  obtain ⟨e, f, g, h, h3, h4⟩ := be4_val (crc (be4 (s.length : Int) ++ s)) hc.1 hc.2
  have hfr : frame s ++ r = a :: b :: c :: d :: e :: f :: g :: h :: (s ++ r) := by
    unfold frame
    rw [h3, h1]
    simp
  rw [hfr]
  simp only [openF, h2, h4]
  rw [if_neg (by omega), if_neg (by simp only [List.length_append]; omega)]
  have ht : (s ++ r).take (s.length : Int).toNat = s := by simp
  rw [ht, ← h1, if_pos rfl]
  simp only [Prod.mk.injEq, true_and, and_true]
  omega
theorem OnlyF_frame (s : List UInt8) (hs : s.length ≤ 1048576) : OnlyF (frame s) = (s, 0) := by
  have h := openF_frame s [] hs
  rw [List.append_nil] at h
  unfold OnlyF
  rw [h, if_neg (by simp), if_neg (by simp only [frame_len]; omega)]
theorem OnlyF_short {s : List UInt8} (h : s.length < 8) : OnlyF s = ([], 2) := by
  unfold OnlyF
  rw [openF_short h, if_pos (by simp)]

/-- Frames behind each other. -/
def frames (l : List (List UInt8)) : List UInt8 := l.flatMap frame
theorem scanF_frames (r : List UInt8) (hr : (openF r).2.2 ≠ 0) : ∀ (l : List (List UInt8)) (k : Nat), (∀ s ∈ l, s.length ≤ 1048576) → l.length < k → scanF k (frames l ++ r) = (l, (frames l).length)
  | [], k, _, hk => by
    obtain ⟨k, rfl⟩ : ∃ j, k = j + 1 := ⟨k - 1, by simp at hk; omega⟩
    simp [frames, scanF, hr]
  | s :: l, k, hs, hk => by
    obtain ⟨k, rfl⟩ : ∃ j, k = j + 1 := ⟨k - 1, by simp at hk; omega⟩
    have h1 := openF_frame s (frames l ++ r) (hs s (by simp))
    have h2 := scanF_frames r hr l k (fun x hx => hs x (by simp [hx])) (by simpa using hk)
    have h3 : frames (s :: l) ++ r = frame s ++ (frames l ++ r) := by simp [frames]
    rw [h3]
    simp only [scanF, h1]
    rw [if_neg (by simp)]
    have h4 : ((s.length : Int) + 8).toNat = (frame s).length := by rw [frame_len]; omega
    rw [h4, List.drop_left, h2]
    simp [frames]
theorem frames_ge (l : List (List UInt8)) : l.length ≤ (frames l).length := by
  induction l with
  | nil => simp
  | cons s l ih =>
    simp only [frames, List.flatMap_cons, List.length_append, List.length_cons, frame_len] at ih ⊢
    omega
theorem scan_frames (l : List (List UInt8)) (r : List UInt8) (hr : (openF r).2.2 ≠ 0) (h : ∀ s ∈ l, s.length ≤ 1048576) : scan (frames l ++ r) = (l, (frames l).length) := by
  unfold scan
  refine scanF_frames r hr l _ h ?_
  have := frames_ge l
  rw [List.length_append]
  omega
theorem openF_nil : (openF []).2.2 ≠ 0 := by simp [openF]

end Go.Proofs.YtnlcipocobmgiaaGreatDoor
/- Plain laws: what term encodes is decoded. -/
namespace Go.Proofs.YtnlcipocobmgiaaGreatDoor
open Go.RowKit

theorem decTerm_enc {t v : Nat} (ht : t ≤ 1099511627776) (hv : v ≤ 5) : decTerm (encU t ++ encU v) = (t, v, 0) := by
  have h1 := Ds.i_enc (a := []) (r := encU v) (n := t) (most := 1099511627776) (by omega) ht
  have h2 := Ds.i_enc (a := encU t) (r := []) (n := v) (most := 5) (by omega) hv
  simp only [List.nil_append, List.length_nil, List.append_nil] at h1 h2
  unfold decTerm
  rw [h1]
  simp only
  rw [h2]
  simp only [Ds.done_end]
theorem decSnap_enc {b t : Nat} {s : List UInt8} (hb : b ≤ 1099511627776) (ht : t ≤ 1099511627776) (hs : s.length ≤ 1000000) : decSnap (encU b ++ (encU t ++ encS s)) = (b, t, s, 0) := by
  have h1 := Ds.i_enc (a := []) (r := encU t ++ encS s) (n := b) (most := 1099511627776) (by omega) hb
  have h2 := Ds.i_enc (a := encU b) (r := encS s) (n := t) (most := 1099511627776) (by omega) ht
  have h3 := Ds.str_enc (a := encU b ++ encU t) (r := []) (s := s) (most := 1000000) (by omega) hs
  simp only [List.nil_append, List.length_nil, List.append_nil, List.append_assoc] at h1 h2 h3
  unfold decSnap
  rw [h1]
  simp only
  rw [h2]
  simp only
  rw [h3]
  simp only [Ds.done_end]
theorem decEnt_enc {e : En} (hb : e.index ≤ 1099511627776) (ht : e.term ≤ 1099511627776) (hs : e.cmd.length ≤ 100000) : decEnt (encE e) = (e.index, e.term, e.cmd, 0) := by
  have h1 := Ds.i_enc (a := []) (r := encU e.term ++ encS e.cmd) (n := e.index) (most := 1099511627776) (by omega) hb
  have h2 := Ds.i_enc (a := encU e.index) (r := encS e.cmd) (n := e.term) (most := 1099511627776) (by omega) ht
  have h3 := Ds.str_enc (a := encU e.index ++ encU e.term) (r := []) (s := e.cmd) (most := 100000) (by omega) hs
  simp only [List.nil_append, List.length_nil, List.append_nil, List.append_assoc] at h1 h2 h3
  unfold decEnt encE
  rw [h1]
  simp only
  rw [h2]
  simp only
  rw [h3]
  simp only [Ds.done_end]

theorem frs_frames (l : List En) : frs l = frames (l.map encE) := by simp [frs, frames, List.flatMap_map]

/-- Entries that Load takes. -/
structure En.Fit (e : En) : Prop where
  index : e.index ≤ 1099511627776
  term : e.term ≤ 1099511627776
  cmd : e.cmd.length ≤ 100000
theorem En.Fit.ok {e : En} (h : e.Fit) : e.Ok := ⟨by have := h.index; omega, by have := h.term; omega, by have := h.cmd; omega⟩
theorem En.Fit.len {e : En} (h : e.Fit) : (encE e).length ≤ 1048576 := by
  have h1 := encU_len e.index (by have := h.index; omega)
  have h2 := encU_len e.term (by have := h.term; omega)
  have h3 := encU_len e.cmd.length (by have := h.cmd; omega)
  have h4 := h.cmd
  simp only [encE, encS, List.length_append]
  omega
theorem scan_frs (l : List En) (r : List UInt8) (hr : (openF r).2.2 ≠ 0) (h : ∀ e ∈ l, e.Fit) : scan (frs l ++ r) = (l.map encE, (frs l).length) := by
  rw [frs_frames]
  refine scan_frames _ r hr fun s hs => ?_
  obtain ⟨e, he, rfl⟩ := List.mem_map.1 hs
  exact (h e he).len
/-- The entries of a list that go on behind a number. -/
def behind : List En → Nat → List En
  | [], _ => []
  | e :: l, last => if e.index = last + 1 then e :: behind l e.index else behind l last
theorem logF_enc : ∀ (l : List En) (last : Nat), (∀ e ∈ l, e.Fit) → logF (l.map encE) last = (behind l last, true)
  | [], last, _ => rfl
  | e :: l, last, h => by
    have he := h e (by simp)
    have ih := fun x => logF_enc l x (fun y hy => h y (by simp [hy]))
    simp only [List.map_cons, logF, behind, decEnt_enc he.index he.term he.cmd]
    rw [if_neg (by simp)]
    split
    · rw [ih]
    · rw [ih]

end Go.Proofs.YtnlcipocobmgiaaGreatDoor
/- Plain laws of a disk that doesn't fail. -/
namespace Go.Proofs.YtnlcipocobmgiaaGreatDoor
open Go.RowKit

theorem look_put (n m : List UInt8) (f : Fil) : ∀ l, lookF n (putF m f l) = if n = m then f else lookF n l
  | [] => by simp only [putF, lookF]
  | p :: l => by
    have ih := look_put n m f l
    by_cases hm : m = p.1
    · simp only [putF, if_pos hm, lookF]
      by_cases hn : n = m
      · simp [hn]
      · have : ¬ n = p.1 := fun h => hn (h.trans hm.symm)
        simp [hn, this]
    · simp only [putF, if_neg hm, lookF, ih]
      by_cases hn : n = p.1
      · have : ¬ n = m := fun h => hm (h.symm.trans hn)
        simp [hn]
        intro h
        exact absurd h.symm hm
      · simp [hn]

/-- A disk in order that doesn't fail, with so much space left. -/
structure Dk.Calm (D : Dk) (left : Nat) : Prop where
  good : D.Good
  lost : D.lost = false
  armed : D.armed = 0
  left : D.used + (left : Int) ≤ D.room
theorem Dk.Calm.tries {D : Dk} {k : Nat} (h : D.Calm k) : D.tries = (D, 0) := by
  unfold Dk.tries
  rw [h.lost, h.armed]
  simp
theorem Dk.Calm.mono {D : Dk} {k j : Nat} (h : D.Calm k) (hj : j ≤ k) : D.Calm j := ⟨h.good, h.lost, h.armed, by have := h.left; omega⟩
theorem Dk.Calm.put {D : Dk} {k j : Nat} (h : D.Calm k) (name : List UInt8) {f : Fil} (hc : f.Clean) (hf : f.weight ≤ (lookF name D.files).weight + j) (hj : j ≤ k) (hth : (f.now.there || f.sure.there) = true) :
    ∃ D', D.put name f = (D', 0) ∧ D'.Calm (k - j) ∧ lookF name D'.files = f ∧ ∀ n, n ≠ name → lookF n D'.files = lookF n D.files := by
  have hg := h.good.put name hc
  have h1 := h.left
  have hp : D.put name f = (D.store name f, 0) := by
    unfold Dk.put
    rw [if_neg (by omega)]
  rw [hp] at hg
  refine ⟨_, hp, ⟨hg, h.lost, h.armed, ?_⟩, ?_, fun n hn => ?_⟩
  · simp only [Dk.store]; omega
  · simp only [Dk.store, hth, if_true, look_put]
  · simp only [Dk.store, hth, if_true, look_put, if_neg hn]
theorem Dk.Calm.change {D : Dk} {k j : Nat} (h : D.Calm k) (name : List UInt8) (hn : name ≠ []) (g : List UInt8 → List UInt8) (hg : (g (lookF name D.files).now.text).length ≤ (lookF name D.files).now.text.length + j) (hj : j ≤ k) :
    ∃ D', D.change name g = (D', 0) ∧ D'.Calm (k - j) ∧ lookF name D'.files = ⟨⟨true, g (lookF name D.files).now.text⟩, (lookF name D.files).sure⟩ ∧ ∀ n, n ≠ name → lookF n D'.files = lookF n D.files := by
  have hc := h.good.clean.look name
  have hch : D.change name g = D.put name ⟨⟨true, g (lookF name D.files).now.text⟩, (lookF name D.files).sure⟩ := by
    unfold Dk.change
    rw [h.tries]
    simp [hn]
  rw [hch]
  refine h.put name ⟨fun e => by simp at e, hc.2⟩ ?_ hj (by simp)
  have h1 := (lookF name D.files).weight_now
  have h2 := (lookF name D.files).weight_sure
  generalize hw : (lookF name D.files).weight = W at *
  simp only [Fil.weight]
  split <;> omega
theorem Dk.Calm.sync {D : Dk} {k : Nat} (h : D.Calm k) (name : List UInt8) (hth : (lookF name D.files).now.there = true) :
    ∃ D', D.sync name = (D', 0) ∧ D'.Calm k ∧ lookF name D'.files = ⟨(lookF name D.files).now, (lookF name D.files).now⟩ ∧ ∀ n, n ≠ name → lookF n D'.files = lookF n D.files := by
  have hc := h.good.clean.look name
  obtain ⟨D', h1, h2, h3, h4⟩ := h.put (j := 0) name (f := ⟨(lookF name D.files).now, (lookF name D.files).now⟩) ⟨hc.1, hc.1⟩ (by
    have h1 := (lookF name D.files).weight_now
    simp only [Fil.weight] at h1 ⊢
    split <;> omega) (Nat.zero_le _) (by simp [hth])
  refine ⟨D', ?_, by simpa using h2, h3, h4⟩
  unfold Dk.sync
  rw [h.tries]
  simp [h1]
theorem Dk.Calm.save {D : Dk} {k : Nat} (h : D.Calm k) (name : List UInt8) (hn : name ≠ []) (s : List UInt8) (hs : s.length ≤ k) :
    ∃ D', D.save name s = (D', 0) ∧ D'.Calm (k - s.length) ∧ lookF name D'.files = ⟨⟨true, s⟩, ⟨true, s⟩⟩ ∧ ∀ n, n ≠ name → lookF n D'.files = lookF n D.files := by
  obtain ⟨D1, h1, h2, h3, h4⟩ := h.change name hn (fun _ => s) (j := s.length) (by simp) hs
  obtain ⟨D2, g1, g2, g3, g4⟩ := h2.sync name (by rw [h3])
  refine ⟨D2, ?_, g2, by rw [g3, h3], fun n hn => by rw [g4 n hn, h4 n hn]⟩
  have hw : D.write name s = (D1, 0) := h1
  unfold Dk.save
  rw [hw, if_neg (by simp)]
  exact g1

end Go.Proofs.YtnlcipocobmgiaaGreatDoor
/- Plain laws of a disk that doesn't fail: what was saved is loaded. -/
namespace Go.Proofs.YtnlcipocobmgiaaGreatDoor
open Go.RowKit

theorem Dk.Calm.appendLog {D : Dk} {k : Nat} (h : D.Calm k) (l : List En) (hs : (frs l).length ≤ k) :
    ∃ D', D.appendLog l = (D', 0) ∧ D'.Calm (k - (frs l).length) ∧ lookF nLog D'.files = ⟨⟨true, (lookF nLog D.files).now.text ++ frs l⟩, ⟨true, (lookF nLog D.files).now.text ++ frs l⟩⟩ ∧ ∀ n, n ≠ nLog → lookF n D'.files = lookF n D.files := by
  obtain ⟨D1, h1, h2, h3, h4⟩ := h.change nLog (by decide) (fun x => x ++ frs l) (j := (frs l).length) (by simp) hs
  obtain ⟨D2, g1, g2, g3, g4⟩ := h2.sync nLog (by rw [h3])
  refine ⟨D2, ?_, g2, by rw [g3, h3], fun n hn => by rw [g4 n hn, h4 n hn]⟩
  have hw : D.append nLog (frs l) = (D1, 0) := h1
  unfold Dk.appendLog
  rw [hw, if_neg (by simp)]
  exact g1
theorem Dk.Calm.saveTerm {D : Dk} {k : Nat} (h : D.Calm k) (t v : Nat) (hs : (frame (encU t ++ encU v)).length ≤ k) :
    ∃ D', D.saveTerm t v = (D', 0) ∧ D'.Calm (k - (frame (encU t ++ encU v)).length) ∧ lookF nTerm D'.files = ⟨⟨true, frame (encU t ++ encU v)⟩, ⟨true, frame (encU t ++ encU v)⟩⟩ ∧ ∀ n, n ≠ nTerm → lookF n D'.files = lookF n D.files :=
  h.save nTerm (by decide) _ hs
theorem Dk.Calm.saveSnap {D : Dk} {k : Nat} (h : D.Calm k) (b t : Nat) (s : List UInt8) (l : List En) (hs : (frame (encU b ++ (encU t ++ encS s))).length + (frs l).length ≤ k) :
    ∃ D', D.saveSnap b t s l = (D', 0) ∧ D'.Calm (k - ((frame (encU b ++ (encU t ++ encS s))).length + (frs l).length)) ∧ lookF nSnap D'.files = ⟨⟨true, frame (encU b ++ (encU t ++ encS s))⟩, ⟨true, frame (encU b ++ (encU t ++ encS s))⟩⟩ ∧
      lookF nLog D'.files = ⟨⟨true, frs l⟩, ⟨true, frs l⟩⟩ ∧ lookF nTerm D'.files = lookF nTerm D.files := by
  obtain ⟨D1, h1, h2, h3, h4⟩ := h.save nSnap (by decide) (frame (encU b ++ (encU t ++ encS s))) (by omega)
  obtain ⟨D2, g1, g2, g3, g4⟩ := h2.save nLog (by decide) (frs l) (by omega)
  refine ⟨D2, ?_, g2.mono (by omega), by rw [g4 nSnap (by decide), h3], g3, by rw [g4 nTerm (by decide), h4 nTerm (by decide)]⟩
  unfold Dk.saveSnap
  rw [h1, if_neg (by simp)]
  exact g1

/-- What is read of a disk that doesn't fail. -/
theorem Dk.Calm.readT {D : Dk} {k : Nat} (h : D.Calm k) (name : List UInt8) : D.readT name = ((lookF name D.files).now.text, 0) := by
  unfold Dk.readT Dk.read
  rw [h.tries]
  have hc := (h.good.clean.look name).1
  cases ht : (lookF name D.files).now.there
  · simp [hc ht]
  · simp
theorem Dk.Calm.onlyT {D : Dk} {k : Nat} (h : D.Calm k) (name s : List UInt8) (hl : (lookF name D.files).now.text = frame s) (hs : s.length ≤ 1048576) : D.onlyT name = (s, true, 0) := by
  unfold Dk.onlyT
  rw [h.readT, hl, OnlyF_frame s hs]
  simp
theorem Dk.Calm.onlyT_none {D : Dk} {k : Nat} (h : D.Calm k) (name : List UInt8) (hl : (lookF name D.files).now.text.length < 8) : D.onlyT name = ([], false, 0) := by
  unfold Dk.onlyT
  rw [h.readT, OnlyF_short hl]
  simp
theorem Dk.Calm.loadTerm {D : Dk} {k : Nat} (h : D.Calm k) (t v : Nat) (ht : t ≤ 1099511627776) (hv : v ≤ 5) (hl : (lookF nTerm D.files).now.text = frame (encU t ++ encU v)) : D.loadTerm = (t, v, 0) := by
  have h1 := encU_len t (by omega)
  have h2 := encU_len v (by omega)
  unfold Dk.loadTerm
  rw [h.onlyT nTerm _ hl (by rw [List.length_append]; omega)]
  simp [decTerm_enc ht hv]
theorem Dk.Calm.loadTerm_none {D : Dk} {k : Nat} (h : D.Calm k) (hl : (lookF nTerm D.files).now.text.length < 8) : D.loadTerm = (0, 0, 0) := by
  unfold Dk.loadTerm
  rw [h.onlyT_none nTerm hl]
  simp
theorem Dk.Calm.loadSnap {D : Dk} {k : Nat} (h : D.Calm k) (b t : Nat) (s : List UInt8) (hb : b ≤ 1099511627776) (ht : t ≤ 1099511627776) (hs : s.length ≤ 1000000) (hl : (lookF nSnap D.files).now.text = frame (encU b ++ (encU t ++ encS s))) : D.loadSnap = (b, t, s, 0) := by
  have h1 := encU_len t (by omega)
  have h2 := encU_len b (by omega)
  have h3 := encU_len s.length (by omega)
  unfold Dk.loadSnap
  rw [h.onlyT nSnap _ hl (by simp only [encS, List.length_append]; omega)]
  simp [decSnap_enc hb ht hs]
theorem Dk.Calm.loadSnap_none {D : Dk} {k : Nat} (h : D.Calm k) (hl : (lookF nSnap D.files).now.text.length < 8) : D.loadSnap = (0, 0, [], 0) := by
  unfold Dk.loadSnap
  rw [h.onlyT_none nSnap hl]
  simp
theorem Dk.Calm.loadLog {D : Dk} {k : Nat} (h : D.Calm k) (l : List En) (base : Nat) (hf : ∀ e ∈ l, e.Fit) (hl : (lookF nLog D.files).now.text = frs l) : D.loadLog base = (D, behind l base, 0) := by
  have hs := scan_frs l [] openF_nil hf
  rw [List.append_nil] at hs
  have hd : D.logDisk = (D, 0) := by
    unfold Dk.logDisk
    rw [h.readT, hl, hs, h.tries]
    simp
  unfold Dk.loadLog
  rw [hd, h.readT, hl, hs, logF_enc l base hf]
  simp
/-- Load of a disk that doesn't fail: its three files. -/
theorem Dk.Calm.load {D : Dk} {k : Nat} (h : D.Calm k) {t v b bt : Nat} {s : List UInt8} {l : List En} (h1 : D.loadTerm = (t, v, 0)) (h2 : D.loadSnap = (b, bt, s, 0)) (hf : ∀ e ∈ l, e.Fit) (hl : (lookF nLog D.files).now.text = frs l) :
    D.load = (D, ⟨t, v, b, bt, s, behind l b⟩, 0) := by
  have hL := h.loadLog l b hf hl
  unfold Dk.load
  rw [h.tries]
  simp only [h.tries, h1, h2, hL]
  simp

end Go.Proofs.YtnlcipocobmgiaaGreatDoor
/- The contract of glacierlaw01.Cut. -/
namespace Go.Proofs.YtnlcipocobmgiaaGreatDoor
open Go.RowKit
attribute [local go_sem] size_bs bs_append bs_extract

set_option maxHeartbeats 400000 in
theorem cut_calls (s : List UInt8) (n : Nat) (w : World) :
    Calls Tryz.prog 8 #[.string (bs s), .int .i64 (n : Int)] w fun e w' => e = .returned (.string (bs (s.take n))) ∧ w' = w := by
  by_cases h : n < s.length
  · have hd : decide ((n : Int) < (s.length : Int)) = true := by simpa using h
    go_enter Tryz.func8, Tryz.ntmps8
    go_wp2
    go_ret
    refine ⟨?_, rfl⟩
    simp
  · have hd : decide ((n : Int) < (s.length : Int)) = false := by simpa using h
    go_enter Tryz.func8, Tryz.ntmps8
    go_wp2
    go_ret
    rw [List.take_of_length_le (by omega)]
    exact ⟨rfl, rfl⟩

end Go.Proofs.YtnlcipocobmgiaaGreatDoor
