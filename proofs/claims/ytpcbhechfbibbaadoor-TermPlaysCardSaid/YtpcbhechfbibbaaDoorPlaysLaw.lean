/- Plain laws of TermPlays: what a disk says behind calls that fail and behind crashes. -/
import Derived.Test.YtpcbhechfbibbaaDoorBackPlain
namespace Go.Proofs.YtpcbhechfbibbaaDoor
open Go.RowKit

/-- A text that is shorter than the frame that it begins. -/
def Half (T : List UInt8) : Prop := ∃ s : List UInt8, s.length ≤ 1048576 ∧ T.length < (frame s).length ∧ T <+: frame s
theorem half_nil : Half [] := ⟨[], by decide, by rw [frame_len]; decide, List.nil_prefix⟩
theorem half_open {T : List UInt8} (h : Half T) : openF T = ([], 0, 2) := by
  obtain ⟨s, hs, hl, hp⟩ := h
  by_cases h8 : T.length < 8
  · exact openF_short h8
  · obtain ⟨a, b, c, d, e, f, g, h, r, rfl⟩ := eight h8
    obtain ⟨a', b', c', d', h1, h2⟩ := be4_val (s.length : Int) (by omega) (by omega)
    have hc := crc_bd (be4 (s.length : Int) ++ s)
    obtain ⟨e', f', g', h', h3, h4⟩ := be4_val (crc (be4 (s.length : Int) ++ s)) hc.1 hc.2
    have hfr : frame s = a' :: b' :: c' :: d' :: e' :: f' :: g' :: h' :: s := by
      unfold frame
      rw [h3, h1]
      simp
    rw [hfr] at hp hl
    simp only [List.cons_prefix_cons] at hp
    obtain ⟨rfl, rfl, rfl, rfl, rfl, rfl, rfl, rfl, hp⟩ := hp
    simp only [List.length_cons] at hl
    simp only [openF, h2]
    rw [if_neg (by omega), if_pos (by omega)]
theorem half_only {T : List UInt8} (h : Half T) : OnlyF T = ([], 2) := by
  unfold OnlyF
  rw [half_open h, if_pos (by simp)]
theorem frame_not_prefix {s t : List UInt8} (hs : s.length ≤ 1048576) (ht : t.length ≤ 1048576) (h : frame s <+: frame t) : ¬ (frame s).length < (frame t).length := by
  intro hlt
  have h1 := half_open ⟨t, ht, hlt, h⟩
  have h2 := openF_frame s [] hs
  rw [List.append_nil, h1] at h2
  simp at h2

/-- What a text says of a term and a vote; of a snapshot. -/
def TermIs (T : List UInt8) (t v : Nat) : Prop := (T = frame (encU t ++ encU v) ∧ t ≤ 1099511627776 ∧ v ≤ 5) ∨ (Half T ∧ t = 0 ∧ v = 0)
def SnapIs (T : List UInt8) (b t : Nat) (s : List UInt8) : Prop := (T = frame (encU b ++ (encU t ++ encS s)) ∧ b ≤ 1099511627776 ∧ t ≤ 1099511627776 ∧ s.length ≤ 1000000) ∨ (Half T ∧ b = 0 ∧ t = 0 ∧ s = [])
theorem termLen {t v : Nat} (ht : t ≤ 1099511627776) (hv : v ≤ 5) : (encU t ++ encU v).length ≤ 22 := by
  have h1 := encU_len t (by omega)
  have h2 := encU_len v (by omega)
  rw [List.length_append]; omega
theorem snapLen {b t : Nat} {s : List UInt8} (hb : b ≤ 1099511627776) (ht : t ≤ 1099511627776) (hs : s.length ≤ 1000000) : (encU b ++ (encU t ++ encS s)).length ≤ 33 + s.length := by
  have h1 := encU_len t (by omega)
  have h2 := encU_len b (by omega)
  have h3 := encU_len s.length (by omega)
  simp only [encS, List.length_append]; omega
theorem TermIs.load {D : Dk} {k t v : Nat} (hc : D.Calm k) (h : TermIs (lookF nTerm D.files).now.text t v) : D.loadTerm = (t, v, 0) := by
  rcases h with ⟨h, ht, hv⟩ | ⟨h, rfl, rfl⟩
  · exact hc.loadTerm t v ht hv h
  · unfold Dk.loadTerm Dk.onlyT
    rw [hc.readT, half_only h]
    simp
theorem SnapIs.load {D : Dk} {k b t : Nat} {s : List UInt8} (hc : D.Calm k) (h : SnapIs (lookF nSnap D.files).now.text b t s) : D.loadSnap = (b, t, s, 0) := by
  rcases h with ⟨h, hb, ht, hs⟩ | ⟨h, rfl, rfl, rfl⟩
  · exact hc.loadSnap b t s hb ht hs h
  · unfold Dk.loadSnap Dk.onlyT
    rw [hc.readT, half_only h]
    simp

/-- Entries numbered one behind the other. -/
def Cons : Nat → List En → Prop
  | _, [] => True
  | c, e :: l => e.index = c + 1 ∧ Cons (c + 1) l
theorem Cons.app {l : List En} : ∀ {c : Nat} {m : List En}, Cons c l → Cons (c + l.length) m → Cons c (l ++ m) := by
  induction l with
  | nil => intro c m _ h; simpa using h
  | cons e l ih =>
    intro c m h1 h2
    refine ⟨h1.1, ih h1.2 ?_⟩
    simp only [List.length_cons] at h2
    rw [Nat.add_assoc, Nat.add_comm 1]
    exact h2
theorem Cons.drop : ∀ {l : List En} {c : Nat} (n : Nat), Cons c l → Cons (c + n) (l.drop n) ∨ l.length < n
  | [], c, 0, _ => .inl trivial
  | [], c, n + 1, _ => .inr (by simp)
  | e :: l, c, 0, h => .inl h
  | e :: l, c, n + 1, h => by
    rcases Cons.drop n h.2 with h1 | h1
    · left
      rw [List.drop_succ_cons, Nat.add_comm n, ← Nat.add_assoc]
      exact h1
    · right; simpa using h1
theorem Cons.take : ∀ {l : List En} {c : Nat} (n : Nat), Cons c l → Cons c (l.take n)
  | [], c, n, _ => by simp [Cons]
  | e :: l, c, 0, _ => by simp [Cons]
  | e :: l, c, n + 1, h => ⟨h.1, Cons.take n h.2⟩
theorem behind_self : ∀ {l : List En} {c : Nat}, Cons c l → behind l c = l
  | [], _, _ => rfl
  | e :: l, c, h => by
    unfold behind
    rw [if_pos h.1, h.1, behind_self h.2]
theorem behind_cons : ∀ {l : List En} {c b : Nat}, Cons c l → c ≤ b → b ≤ c + l.length → behind l b = l.drop (b - c)
  | [], c, b, _, h1, h2 => by simp [behind]
  | e :: l, c, b, h, h1, h2 => by
    by_cases hb : b = c
    · subst hb
      rw [behind_self h]
      simp
    · unfold behind
      rw [if_neg (by rw [h.1]; omega), behind_cons h.2 (by omega) (by simp only [List.length_cons] at h2; omega)]
      have : b - c = (b - (c + 1)) + 1 := by omega
      rw [this, List.drop_succ_cons]

/-- What a disk's files say: a state; what is behind the log's last entry. -/
structure Says (D : Dk) (s : Ts) (n : Nat) (g : List UInt8) : Prop where
  term : TermIs (lookF nTerm D.files).now.text s.term s.vote
  snap : SnapIs (lookF nSnap D.files).now.text s.base s.baseTerm s.snap
  log : ∃ E c, (lookF nLog D.files).now.text = frs E ++ g ∧ (∀ e ∈ E, e.Fit ∧ e.cmd.length ≤ 20) ∧ E.length ≤ n ∧ Cons c E ∧ c ≤ s.base ∧ s.base ≤ c + E.length ∧ c + E.length ≤ n ∧ s.log = E.drop (s.base - c)
/-- A disk that may fail, but isn't lost. -/
structure Dk.Base (D : Dk) (u : Nat) : Prop where
  good : D.Good
  names : D.Names names3
  lost : D.lost = false
  armed : 0 ≤ D.armed ∧ D.armed ≤ 6
  used : D.used ≤ (u : Int)
  room : D.room = 100000

theorem says_load {D : Dk} {s : Ts} {n u : Nat} {g : List UInt8} (hB : D.Base u) (ha : D.armed = 0) (hu : u ≤ 20000) (hs : D.Safe) (h : Says D s n g) (hg : (openF g).2.2 ≠ 0) :
    ∃ D', D.load = (D', s, 0) ∧ D'.Base u ∧ D'.armed = 0 ∧ D'.Safe ∧ Says D' s n [] := by
  have hc : D.Calm 70000 := ⟨hB.good, hB.lost, ha, by rw [hB.room]; have := hB.used; omega⟩
  have h1 := h.term.load hc
  have h2 := h.snap.load hc
  obtain ⟨E, c, ht, hf, hl, hcn, hc1, hc2, hc3, hlog⟩ := h.log
  have hsc := scan_frs E g hg (fun e he => (hf e he).1)
  have hlf := logF_enc E s.base (fun e he => (hf e he).1)
  rw [behind_cons hcn hc1 hc2, ← hlog] at hlf
  by_cases hz : g = []
  · subst hz
    have h3 := hc.loadLog E s.base (fun e he => (hf e he).1) (by rw [ht, List.append_nil])
    rw [behind_cons hcn hc1 hc2, ← hlog] at h3
    refine ⟨D, ?_, hB, ha, hs, h⟩
    unfold Dk.load
    rw [hc.tries]
    simp only [hc.tries, h1, h2, h3]
    simp
  · have hglen : 0 < g.length := List.length_pos_iff.2 hz
    have hlt : (frs E).length < (frs E ++ g).length := by rw [List.length_append]; omega
    have hfb := frs_bound 20 (by decide) E hf
    obtain ⟨D', g1, g2, g3, g4⟩ := hc.change nLog (by decide) (fun _ => frs E) (j := 0) (by simp only [ht, List.length_append]; omega) (by decide)
    obtain ⟨D2, k1, k2, k3, k4⟩ := g2.sync nLog (by rw [g3])
    have hsv : D.save nLog (frs E) = (D2, 0) := by
      have hw : D.write nLog (frs E) = (D', 0) := g1
      unfold Dk.save
      rw [hw, if_neg (by simp)]
      exact k1
    have hd : D.logDisk = (D2, 0) := by
      unfold Dk.logDisk
      rw [hc.readT, ht, hsc, hc.tries]
      simp only
      rw [if_neg (by simp), if_pos hlt, List.take_left]
      exact hsv
    have hll : D.loadLog s.base = (D2, s.log, 0) := by
      unfold Dk.loadLog
      rw [hd, hc.readT, ht, hsc, hlf]
      simp
    have hlook : lookF nLog D2.files = ⟨⟨true, frs E⟩, ⟨true, frs E⟩⟩ := by rw [k3, g3]
    have hoth : ∀ n, n ≠ nLog → lookF n D2.files = lookF n D.files := fun n hn => by rw [k4 n hn, g4 n hn]
    have hnm : D2.Names names3 := by
      have := hB.names.save (name := nLog) (by simp [names3]) (frs E)
      rw [hsv] at this
      exact this
    have hroom : D2.room = D.room ∧ D2.used ≤ D.used := by
      have e1 : D.change nLog (fun _ => frs E) = D.put nLog ⟨⟨true, frs E⟩, (lookF nLog D.files).sure⟩ := by
        unfold Dk.change
        rw [hc.tries]
        simp [nLog]
      have e2 : D'.sync nLog = ((D'.put nLog ⟨(lookF nLog D'.files).now, (lookF nLog D'.files).now⟩).1, 0) := by
        unfold Dk.sync
        rw [g2.tries]
        simp
      have e3 := congrArg (fun x => x.1.room) (e1.symm.trans g1)
      have e4 := congrArg (fun x => x.1.used) (e1.symm.trans g1)
      have e5 := congrArg (fun x => x.1.room) (e2.symm.trans k1)
      have e6 := congrArg (fun x => x.1.used) (e2.symm.trans k1)
      have put_rm : ∀ (D : Dk) n f, (D.put n f).1.room = D.room := fun D n f => by unfold Dk.put Dk.store; split <;> rfl
      have put_us : ∀ (D : Dk) n f, (D.put n f).1.used ≤ D.used + (f.weight - (lookF n D.files).weight) ∨ (D.put n f).1.used = D.used := fun D n f => by unfold Dk.put Dk.store; split <;> simp
      simp only [put_rm] at e3 e5
      simp only at e4 e6
      refine ⟨by omega, ?_⟩
      have w1 : Fil.weight ⟨⟨true, frs E⟩, (lookF nLog D.files).sure⟩ ≤ (lookF nLog D.files).weight := by
        have a1 := (lookF nLog D.files).weight_now
        have a2 := (lookF nLog D.files).weight_sure
        rw [ht] at a1
        simp only [Fil.weight] at a1 a2 ⊢
        split <;> omega
      have w2 : Fil.weight ⟨(lookF nLog D'.files).now, (lookF nLog D'.files).now⟩ ≤ (lookF nLog D'.files).weight := by
        have a1 := (lookF nLog D'.files).weight_now
        simp only [Fil.weight] at a1 ⊢
        split <;> omega
      have u1 := put_us D nLog ⟨⟨true, frs E⟩, (lookF nLog D.files).sure⟩
      have u2 := put_us D' nLog ⟨(lookF nLog D'.files).now, (lookF nLog D'.files).now⟩
      omega
    refine ⟨D2, ?_, ⟨k2.good, hnm, k2.lost, by rw [k2.armed]; decide, by have := hB.used; omega, by rw [hroom.1]; exact hB.room⟩, k2.armed, hs.of_look hlook hoth, ⟨?_, ?_, E, c, ?_, hf, hl, hcn, hc1, hc2, hc3, hlog⟩⟩
    · unfold Dk.load
      rw [hc.tries]
      simp only [hc.tries, h1, h2, hll]
      simp
    · rw [hoth nTerm (by decide)]; exact h.term
    · rw [hoth nSnap (by decide)]; exact h.snap
    · rw [hlook]; simp

end Go.Proofs.YtpcbhechfbibbaaDoor
/- Plain laws of TermPlays: a file's update that may fail; a crash behind it. -/
namespace Go.Proofs.YtpcbhechfbibbaaDoor
open Go.RowKit

theorem look_not_mem (n : List UInt8) : ∀ l : List (List UInt8 × Fil), n ∉ l.map (·.1) → lookF n l = Fil.none_
  | [], _ => rfl
  | p :: l, h => by
    simp only [List.map_cons, List.mem_cons, not_or] at h
    simp only [lookF, if_neg h.1]
    exact look_not_mem n l h.2
theorem look_del (n m : List UInt8) : ∀ l : List (List UInt8 × Fil), (l.map (·.1)).Nodup → lookF n (delF m l) = if n = m then Fil.none_ else lookF n l
  | [], _ => by simp [delF, lookF]
  | p :: l, h => by
    simp only [List.map_cons, List.nodup_cons] at h
    have ih := look_del n m l h.2
    by_cases hm : m = p.1
    · simp only [delF, if_pos hm, lookF]
      by_cases hn : n = m
      · have : n = p.1 := hn.trans hm
        rw [if_pos hn, look_not_mem n l (by rw [this]; exact h.1)]
      · have : ¬ n = p.1 := fun h => hn (h.trans hm.symm)
        simp [hn, this]
    · simp only [delF, if_neg hm, lookF, ih]
      by_cases hn : n = p.1
      · have : ¬ n = m := fun h => hm (h.symm.trans hn)
        simp [hn]
        intro h
        exact absurd h.symm hm
      · simp [hn]

theorem base_tries {D : Dk} {u : Nat} (h : D.Base u) : ∃ D1, D1.Base u ∧ D1.files = D.files ∧ (D.tries = (D1, 0) ∨ D.tries = (D1, 8)) := by
  unfold Dk.tries
  rw [h.lost]
  simp only [Bool.false_eq_true, if_false]
  split
  · rename_i ha
    have hg : Dk.Good { D with armed := D.armed - 1 } := ⟨⟨h.good.ok.room, h.good.ok.used, h.good.ok.fits, by have := h.good.ok.armed; simp only; omega⟩, h.good.clean⟩
    refine ⟨{ D with armed := D.armed - 1 }, ⟨hg, ⟨h.names.nodup, h.names.mem⟩, h.lost, by have := h.armed; simp only; omega, h.used, h.room⟩, rfl, ?_⟩
    by_cases h1 : D.armed = 1
    · right; simp [h1, h.lost]
    · left; simp [h1, h.lost]
  · exact ⟨D, h, rfl, .inl rfl⟩
theorem base_put {D : Dk} {u j : Nat} (h : D.Base u) {name : List UInt8} (hn : name ∈ names3) {f : Fil} (hc : f.Clean) (hf : f.weight ≤ (lookF name D.files).weight + j) (hu : u + j ≤ 100000) :
    ∃ D', D.put name f = (D', 0) ∧ D'.Base (u + j) ∧ D'.armed = D.armed ∧ lookF name D'.files = f ∧ ∀ n, n ≠ name → lookF n D'.files = lookF n D.files := by
  have hg := h.good.put name hc
  have hnm := h.names.put hn f
  have hus := h.used
  have hp : D.put name f = (D.store name f, 0) := by
    unfold Dk.put
    rw [h.room, if_neg (by omega)]
  rw [hp] at hg hnm
  have hlook : ∀ n, lookF n (D.store name f).files = if n = name then f else lookF n D.files := fun n => by
    unfold Dk.store
    simp only
    split
    · exact look_put n name f D.files
    · rename_i hth
      rw [look_del n name D.files h.names.nodup]
      have hth' : f.now.there = false ∧ f.sure.there = false := by simpa using hth
      have : f = Fil.none_ := by
        have h1 := hc.1 hth'.1
        have h2 := hc.2 hth'.2
        obtain ⟨⟨a, b⟩, ⟨c, d⟩⟩ := f
        simp only at h1 h2 hth'
        rw [h1, h2, hth'.1, hth'.2]
        rfl
      rw [this]
  refine ⟨_, hp, ⟨hg, hnm, h.lost, h.armed, ?_, h.room⟩, rfl, by rw [hlook, if_pos rfl], fun n hn => by rw [hlook, if_neg hn]⟩
  simp only [Dk.store]
  omega

/-- A file's bytes become what g makes of them, and are made sure. -/
def Dk.upd (D : Dk) (name : List UInt8) (g : List UInt8 → List UInt8) : Dk × Int := if (D.change name g).2 ≠ 0 then D.change name g else (D.change name g).1.sync name
theorem save_upd (D : Dk) (name s : List UInt8) : D.save name s = D.upd name (fun _ => s) := rfl
theorem append_upd (D : Dk) (l : List En) : D.appendLog l = D.upd nLog (fun x => x ++ frs l) := rfl

theorem upd_cases {D : Dk} {u j : Nat} (hB : D.Base u) (hu : u + j ≤ 100000) (hs : D.Safe) {name : List UInt8} (hn : name ∈ names3) (hne : name ≠ []) (g : List UInt8 → List UInt8) (hg : (g (lookF name D.files).now.text).length ≤ (lookF name D.files).now.text.length + j) :
    ∃ D', D'.Base (u + j) ∧ (∀ n, n ≠ name → lookF n D'.files = lookF n D.files) ∧
      ((D.upd name g = (D', 0) ∧ lookF name D'.files = ⟨⟨true, g (lookF name D.files).now.text⟩, ⟨true, g (lookF name D.files).now.text⟩⟩) ∨
       (D.upd name g = (D', 8) ∧ (lookF name D'.files = lookF name D.files ∨ lookF name D'.files = ⟨⟨true, g (lookF name D.files).now.text⟩, (lookF name D.files).now⟩))) := by
  obtain ⟨D1, hB1, hf1, ht⟩ := base_tries hB
  have hcl := hB.good.clean.look name
  have hsn := hs name
  have hch : D.change name g = if D.tries.2 ≠ 0 then D.tries else D.tries.1.put name ⟨⟨true, g (lookF name D.tries.1.files).now.text⟩, (lookF name D.tries.1.files).sure⟩ := by simp [Dk.change, hne]
  rcases ht with ht | ht
  · rw [ht] at hch
    simp only [hf1] at hch
    rw [if_neg (by simp)] at hch
    obtain ⟨D2, p1, p2, p3, p4, p5⟩ := base_put (j := j) hB1 hn (f := ⟨⟨true, g (lookF name D.files).now.text⟩, (lookF name D.files).sure⟩) ⟨fun e => by simp at e, hcl.2⟩ (by
      rw [hf1]
      have a1 := (lookF name D.files).weight_now
      have a2 := (lookF name D.files).weight_sure
      simp only [Fil.weight] at a1 a2 ⊢
      split <;> omega) hu
    rw [p1] at hch
    obtain ⟨D3, hB3, hf3, ht3⟩ := base_tries p2
    have hsy : D2.sync name = if D2.tries.2 ≠ 0 then D2.tries else ((D2.tries.1.put name ⟨(lookF name D2.tries.1.files).now, (lookF name D2.tries.1.files).now⟩).1, 0) := rfl
    have hup : D.upd name g = D2.sync name := by
      unfold Dk.upd
      rw [hch, if_neg (by simp)]
    rcases ht3 with ht3 | ht3
    · rw [ht3] at hsy
      simp only [hf3, p4] at hsy
      rw [if_neg (by simp)] at hsy
      obtain ⟨D4, q1, q2, q3, q4, q5⟩ := base_put (j := 0) hB3 hn (f := ⟨⟨true, g (lookF name D.files).now.text⟩, ⟨true, g (lookF name D.files).now.text⟩⟩) ⟨fun e => by simp at e, fun e => by simp at e⟩ (by
        rw [hf3, p4]
        simp only [Fil.weight]
        split <;> split <;> omega) hu
      rw [q1] at hsy
      refine ⟨D4, q2, fun n hn' => by rw [q5 n hn', hf3, p5 n hn', hf1], .inl ⟨hup.trans hsy, q4⟩⟩
    · rw [ht3, if_pos (by simp)] at hsy
      refine ⟨D3, hB3, fun n hn' => by rw [hf3, p5 n hn', hf1], .inr ⟨hup.trans hsy, .inr ?_⟩⟩
      rw [hf3, p4, hsn]
  · rw [ht, if_pos (by simp)] at hch
    refine ⟨D1, ⟨hB1.good, hB1.names, hB1.lost, hB1.armed, by have := hB1.used; omega, hB1.room⟩, fun n _ => by rw [hf1], .inr ⟨?_, .inl (by rw [hf1])⟩⟩
    unfold Dk.upd
    rw [hch, if_pos (by simp)]

theorem crashL_one {ch : List Int} {name : List UInt8} {u : Nat} : ∀ (l : List (List UInt8)) (k : Nat) {D : Dk}, D.Base u → u ≤ 100000 → name ∈ names3 → (∀ n, n ≠ name → (lookF n D.files).now = (lookF n D.files).sure) → (lookF name D.files).now ≠ (lookF name D.files).sure → name ∈ l →
    ∃ j, crashL ch l k D = (D.put name ⟨(lookF name D.files).left ch j, (lookF name D.files).left ch j⟩).1
  | [], _, _, _, _, _, _, _, hm => by cases hm
  | n :: l, k, D, hB, hu, hn3, hs, hne, hm => by
    unfold crashL
    by_cases hn : n = name
    · subst hn
      rw [if_neg (by
        rintro ⟨h1, h2⟩
        apply hne
        cases h3 : (lookF n D.files).now
        cases h4 : (lookF n D.files).sure
        rw [h3, h4] at h1 h2
        simp only at h1 h2
        rw [h1, h2])]
      have hcl := (hB.good.clean.look n).left ch k
      obtain ⟨D', p1, p2, _, p4, p5⟩ := base_put (u := u) (j := 0) hB hn3 (f := ⟨(lookF n D.files).left ch k, (lookF n D.files).left ch k⟩) ⟨hcl, hcl⟩ (by
        have := (lookF n D.files).left_le ch k
        simp only [Fil.weight] at this ⊢
        split <;> omega) (by omega)
      refine ⟨k, ?_⟩
      rw [p1]
      refine Dk.Safe.crashL (D := D') (fun m => ?_) ch l (k + 1)
      by_cases hmn : m = n
      · subst hmn; rw [p4]
      · rw [p5 m hmn]; exact hs m hmn
    · rw [if_pos ⟨by rw [hs n hn], by rw [hs n hn]⟩]
      exact crashL_one l k hB hu hn3 hs hne (by
        rcases List.mem_cons.1 hm with h | h
        · exact absurd h.symm hn
        · exact h)
/-- A crash of a disk all of whose files but one are safe. -/
theorem crash_one {D : Dk} {u : Nat} {name : List UInt8} (ch : List Int) (hB : D.Base u) (hu : u ≤ 100000) (hn : name ∈ names3) (hs : ∀ n, n ≠ name → (lookF n D.files).now = (lookF n D.files).sure) :
    ∃ L, lookF name (D.crash ch).files = ⟨L, L⟩ ∧ (∀ n, n ≠ name → lookF n (D.crash ch).files = lookF n D.files) ∧ (D.crash ch).Safe ∧ (D.crash ch).Base u ∧
      ((L = (lookF name D.files).now ∧ L = (lookF name D.files).sure) ∨ ∃ j, L = (lookF name D.files).left ch j) := by
  by_cases he : (lookF name D.files).now = (lookF name D.files).sure
  · have hsafe : D.Safe := fun n => by
      by_cases hn : n = name
      · subst hn; exact he
      · exact hs n hn
    rw [hsafe.crash]
    refine ⟨(lookF name D.files).now, ?_, fun _ _ => rfl, hsafe, hB, .inl ⟨rfl, he⟩⟩
    cases h : lookF name D.files
    rw [h] at he
    simp only at he
    rw [he]
  · have hmem : name ∈ D.all := by
      have : name ∈ D.files.map (·.1) := Classical.byContradiction fun hm => he (by rw [look_not_mem name _ hm]; rfl)
      exact (sorted_perm _).mem_iff.2 this
    obtain ⟨j, hj⟩ := crashL_one (ch := ch) D.all 0 hB hu hn hs he hmem
    have hcl := (hB.good.clean.look name).left ch j
    obtain ⟨D', p1, p2, _, p4, p5⟩ := base_put (u := u) (j := 0) hB hn (f := ⟨(lookF name D.files).left ch j, (lookF name D.files).left ch j⟩) ⟨hcl, hcl⟩ (by
      have := (lookF name D.files).left_le ch j
      simp only [Fil.weight] at this ⊢
      split <;> omega) (by omega)
    have hc : D.crash ch = D' := by
      unfold Dk.crash
      rw [hj, p1]
    rw [hc]
    refine ⟨_, p4, p5, fun n => ?_, p2, .inr ⟨j, rfl⟩⟩
    by_cases hn : n = name
    · subst hn; rw [p4]
    · rw [p5 n hn]; exact hs n hn

/-- What left leaves of a file. -/
theorem left_cases (f : Fil) (ch : List Int) (k : Nat) : f.left ch k = f.sure ∨ f.left ch k = f.now ∨
    (f.sure.text <+: f.now.text ∧ f.sure.text.length < f.now.text.length ∧ ∃ n, f.sure.text.length < n ∧ n ≤ f.now.text.length ∧ (f.left ch k).text = f.now.text.take n) := by
  unfold Fil.left
  split
  · rename_i h
    have hpk := pick_lt ch k (n := f.now.text.length - f.sure.text.length + 1) (by omega)
    split
    · exact .inl rfl
    · exact .inr (.inr ⟨List.isPrefixOf_iff_prefix.1 h.2.2, h.2.1, _, by omega, by omega, rfl⟩)
  · split
    · exact .inl rfl
    · exact .inr (.inl rfl)

end Go.Proofs.YtpcbhechfbibbaaDoor
/- Plain laws of TermPlays: the four calls. -/
namespace Go.Proofs.YtpcbhechfbibbaaDoor
open Go.RowKit

theorem Says.congr {D D' : Dk} {s : Ts} {n : Nat} {g : List UInt8} (h : Says D s n g) (hl : ∀ m, lookF m D'.files = lookF m D.files) : Says D' s n g := by
  obtain ⟨h1, h2, h3⟩ := h
  exact ⟨by rw [hl]; exact h1, by rw [hl]; exact h2, by rw [hl]; exact h3⟩
/-- Whatever a crash leaves, one of these states is loaded. -/
def Bad (D : Dk) (n u : Nat) (all : List Ts) : Prop := ∀ ch, ∃ s, s ∈ all ∧ (D.crash ch).Safe ∧ (D.crash ch).Base u ∧ ∃ g, (openF g).2.2 ≠ 0 ∧ Says (D.crash ch) s n g
theorem bad_safe {D : Dk} {n u : Nat} {all : List Ts} {s : Ts} (hs : D.Safe) (hB : D.Base u) (h : Says D s n []) (hm : s ∈ all) : Bad D n u all := fun ch => by
  rw [hs.crash]
  exact ⟨s, hm, hs, hB, [], openF_nil, h⟩
theorem Bad.mono {D : Dk} {n u : Nat} {all all' : List Ts} (h : Bad D n u all) (hm : ∀ s ∈ all, s ∈ all') : Bad D n u all' := fun ch => by
  obtain ⟨s, h1, h2⟩ := h ch
  exact ⟨s, hm s h1, h2⟩
theorem half_term {T : List UInt8} {t v : Nat} (hh : Half T) (h : TermIs T t v) : t = 0 ∧ v = 0 := by
  rcases h with ⟨h, ht, hv⟩ | ⟨_, h1, h2⟩
  · exfalso
    have h1 := half_open hh
    have h2 := openF_frame (encU t ++ encU v) [] (by have := termLen ht hv; omega)
    rw [List.append_nil, ← h, h1] at h2
    simp at h2
  · exact ⟨h1, h2⟩
theorem half_snap {T : List UInt8} {b t : Nat} {s : List UInt8} (hh : Half T) (h : SnapIs T b t s) : b = 0 ∧ t = 0 ∧ s = [] := by
  rcases h with ⟨h, hb, ht, hs⟩ | ⟨_, h1, h2, h3⟩
  · exfalso
    have h1 := half_open hh
    have h2 := openF_frame (encU b ++ (encU t ++ encS s)) [] (by have := snapLen hb ht hs; omega)
    rw [List.append_nil, ← h, h1] at h2
    simp at h2
  · exact ⟨h1, h2, h3⟩
/-- What a crash leaves of a file that is a frame now. -/
theorem frame_left {f : Fil} {s : List UInt8} (hs : s.length ≤ 1048576) (hn : f.now.text = frame s) (ch : List Int) (k : Nat) : (f.left ch k).text = f.sure.text ∨ (f.left ch k).text = frame s ∨ (Half (f.left ch k).text ∧ Half f.sure.text) := by
  rcases left_cases f ch k with h | h | ⟨h1, h2, n, h3, h4, h5⟩
  · left; rw [h]
  · right; left; rw [h, hn]
  · rw [hn] at h1 h2 h4 h5
    by_cases hl : n = (frame s).length
    · right; left; rw [h5, hl, List.take_length]
    · right; right
      refine ⟨⟨s, hs, by rw [h5, List.length_take]; omega, by rw [h5]; exact List.take_prefix _ _⟩, ⟨s, hs, h2, h1⟩⟩

theorem play1 {D : Dk} {x : Ts} {n u : Nat} (hB : D.Base u) (hu : u + 40 ≤ 100000) (hs : D.Safe) (h : Says D x n []) (N M : Nat) (hN : N ≤ 1000) (hM : M ≤ 5) :
    ∃ D', D'.Base (u + 40) ∧ ((D.saveTerm N M = (D', 0) ∧ D'.Safe ∧ Says D' { x with term := N, vote := M } n []) ∨ (D.saveTerm N M = (D', 8) ∧ Bad D' n (u + 40) [x, { x with term := N, vote := M }])) := by
  have hl := termLen (t := N) (v := M) (by omega) hM
  obtain ⟨D', b1, b2, b3⟩ := upd_cases (j := 40) hB hu hs (name := nTerm) (by simp [names3]) (by decide) (fun _ => frame (encU N ++ encU M)) (by simp only [frame_len]; omega)
  have hy : TermIs (frame (encU N ++ encU M)) N M := .inl ⟨rfl, by omega, hM⟩
  refine ⟨D', b1, ?_⟩
  rcases b3 with ⟨e, l⟩ | ⟨e, l | l⟩
  · left
    exact ⟨e, hs.of_look l b2, ⟨by rw [l]; exact hy, by rw [b2 nSnap (by decide)]; exact h.snap, by rw [b2 nLog (by decide)]; exact h.log⟩⟩
  · right
    have hlk : ∀ m, lookF m D'.files = lookF m D.files := fun m => by
      by_cases hm : m = nTerm
      · subst hm; exact l
      · exact b2 m hm
    exact ⟨e, bad_safe (fun m => by rw [hlk]; exact hs m) b1 (h.congr hlk) (by simp)⟩
  · right
    refine ⟨e, fun ch => ?_⟩
    obtain ⟨L, c1, c2, c3, c4, c5⟩ := crash_one ch b1 hu (name := nTerm) (by simp [names3]) (fun m hm => by rw [b2 m hm]; exact hs m)
    have hsnap : SnapIs (lookF nSnap (D'.crash ch).files).now.text x.base x.baseTerm x.snap := by rw [c2 nSnap (by decide), b2 nSnap (by decide)]; exact h.snap
    have hlog := h.log
    rw [← b2 nLog (by decide), ← c2 nLog (by decide)] at hlog
    have hres : L.text = (lookF nTerm D.files).now.text ∨ L.text = frame (encU N ++ encU M) ∨ (Half L.text ∧ Half (lookF nTerm D.files).now.text) := by
      rcases c5 with ⟨c5, _⟩ | ⟨j, c5⟩
      · right; left; rw [c5, l]
      · have := frame_left (f := lookF nTerm D'.files) (s := encU N ++ encU M) (by omega) (by rw [l]) ch j
        rw [← c5, l] at this
        exact this
    rcases hres with hr | hr | ⟨hr, hr2⟩
    · exact ⟨x, by simp, c3, c4, [], openF_nil, ⟨by rw [c1]; simp only; rw [hr]; exact h.term, hsnap, hlog⟩⟩
    · exact ⟨{ x with term := N, vote := M }, by simp, c3, c4, [], openF_nil, ⟨by rw [c1]; simp only; rw [hr]; exact hy, hsnap, hlog⟩⟩
    · have hz := half_term hr2 h.term
      exact ⟨x, by simp, c3, c4, [], openF_nil, ⟨by rw [c1]; simp only; rw [hz.1, hz.2]; exact .inr ⟨hr, rfl, rfl⟩, hsnap, hlog⟩⟩

theorem take_frs : ∀ (l : List En) (k : Nat), (∀ e ∈ l, e.Fit) → ∃ j g, j ≤ l.length ∧ (frs l).take k = frs (l.take j) ++ g ∧ (openF g).2.2 ≠ 0
  | [], k, _ => ⟨0, [], by simp, by simp [frs], openF_nil⟩
  | e :: l, k, h => by
    have hf : frs (e :: l) = frame (encE e) ++ frs l := by simp [frs]
    by_cases hk : k < (frame (encE e)).length
    · refine ⟨0, (frame (encE e)).take k, by simp, ?_, ?_⟩
      · rw [hf, List.take_append_of_le_length (by omega)]
        simp [frs]
      · rw [half_open ⟨encE e, (h e (by simp)).len, by rw [List.length_take]; omega, List.take_prefix _ _⟩]
        simp
    · obtain ⟨j, g, h1, h2, h3⟩ := take_frs l (k - (frame (encE e)).length) (fun x hx => h x (by simp [hx]))
      refine ⟨j + 1, g, by simpa using h1, ?_, h3⟩
      have hk' : k = (frame (encE e)).length + (k - (frame (encE e)).length) := by omega
      rw [hf, hk', List.take_length_add_append, h2]
      simp [frs]
theorem frs_app_ (a b : List En) : frs (a ++ b) = frs a ++ frs b := by simp [frs]

theorem play2 {D : Dk} {x : Ts} {n u : Nat} (hB : D.Base u) (hu : u + 300 ≤ 100000) (hs : D.Safe) (h : Says D x n []) (new : List En) (hn4 : new.length ≤ 4) (hf : ∀ e ∈ new, e.Fit ∧ e.cmd.length ≤ 20) (hc : Cons (x.base + x.log.length) new) :
    ∃ D', D'.Base (u + 300) ∧ ((D.appendLog new = (D', 0) ∧ D'.Safe ∧ Says D' { x with log := x.log ++ new } (n + 4) []) ∨ (D.appendLog new = (D', 8) ∧ Bad D' (n + 4) (u + 300) ((List.range (new.length + 1)).map fun j => { x with log := x.log ++ new.take j }))) := by
  obtain ⟨E, c, ht, hfE, hl, hcn, hc1, hc2, hc3, hlog⟩ := h.log
  rw [List.append_nil] at ht
  have hfb := frs_bound 20 (by decide) new hf
  have hxl : x.base + x.log.length = c + E.length := by rw [hlog, List.length_drop]; omega
  rw [hxl] at hc
  have hsay : ∀ j, j ≤ new.length → ∀ (D2 : Dk) g, lookF nTerm D2.files = lookF nTerm D.files → lookF nSnap D2.files = lookF nSnap D.files → (lookF nLog D2.files).now.text = frs E ++ frs (new.take j) ++ g → Says D2 { x with log := x.log ++ new.take j } (n + 4) g := by
    intro j hj D2 g e1 e2 e3
    refine ⟨by rw [e1]; exact h.term, by rw [e2]; exact h.snap, E ++ new.take j, c, by rw [e3, frs_app_], ?_, ?_, hcn.app (hc.take j), hc1, ?_, ?_, ?_⟩
    · intro e he
      rcases List.mem_append.1 he with he | he
      · exact hfE e he
      · exact hf e (List.mem_of_mem_take he)
    · rw [List.length_append, List.length_take]; omega
    · simp only [List.length_append]; omega
    · rw [List.length_append, List.length_take]; omega
    · simp only
      rw [List.drop_append_of_le_length (by omega), ← hlog]
  obtain ⟨D', b1, b2, b3⟩ := upd_cases (j := 300) hB hu hs (name := nLog) (by simp [names3]) (by decide) (fun t => t ++ frs new) (by simp only [List.length_append]; omega)
  rw [ht] at b3
  have hall : ∀ j, j ≤ new.length → ({ x with log := x.log ++ new.take j } : Ts) ∈ (List.range (new.length + 1)).map (fun j => ({ x with log := x.log ++ new.take j } : Ts)) := fun j hj => List.mem_map_of_mem (List.mem_range.2 (by omega))
  have hful : new.take new.length = new := List.take_length
  refine ⟨D', b1, ?_⟩
  rcases b3 with ⟨e, l⟩ | ⟨e, l | l⟩
  · left
    have := hsay new.length (Nat.le_refl _) D' [] (b2 nTerm (by decide)) (b2 nSnap (by decide)) (by rw [l, hful, List.append_nil])
    rw [hful] at this
    exact ⟨e, hs.of_look l b2, this⟩
  · right
    have hlk : ∀ m, lookF m D'.files = lookF m D.files := fun m => by
      by_cases hm : m = nLog
      · subst hm; exact l
      · exact b2 m hm
    refine ⟨e, bad_safe (s := { x with log := x.log ++ new.take 0 }) (fun m => by rw [hlk]; exact hs m) b1 (hsay 0 (Nat.zero_le _) D' [] (hlk _) (hlk _) (by rw [hlk, ht]; simp [frs])) (hall 0 (Nat.zero_le _))⟩
  · right
    refine ⟨e, fun ch => ?_⟩
    obtain ⟨L, c1, c2, c3, c4, c5⟩ := crash_one ch b1 hu (name := nLog) (by simp [names3]) (fun m hm => by rw [b2 m hm]; exact hs m)
    have e1 : lookF nTerm (D'.crash ch).files = lookF nTerm D.files := by rw [c2 nTerm (by decide), b2 nTerm (by decide)]
    have e2 : lookF nSnap (D'.crash ch).files = lookF nSnap D.files := by rw [c2 nSnap (by decide), b2 nSnap (by decide)]
    have hres : ∃ k, L.text = frs E ++ (frs new).take k := by
      rcases c5 with ⟨c5, _⟩ | ⟨j, c5⟩
      · exact ⟨(frs new).length, by rw [c5, l, List.take_length]⟩
      · rcases left_cases (lookF nLog D'.files) ch j with h' | h' | ⟨h1, h2, k, h3, h4, h5⟩
        · exact ⟨0, by rw [c5, h', l]; simp [ht]⟩
        · exact ⟨(frs new).length, by rw [c5, h', l, List.take_length]⟩
        · rw [l] at h3 h4
          simp only [ht] at h3
          refine ⟨k - (frs E).length, ?_⟩
          rw [c5, h5, l]
          have hk' : k = (frs E).length + (k - (frs E).length) := by omega
          simp only
          rw [hk', List.take_length_add_append]
          congr 2
          omega
    obtain ⟨k, hk⟩ := hres
    obtain ⟨j, g, j1, j2, j3⟩ := take_frs new k (fun e he => (hf e he).1)
    refine ⟨_, hall j j1, c3, c4, g, j3, hsay j j1 _ g e1 e2 ?_⟩
    rw [c1]
    simp only
    rw [hk, j2, List.append_assoc]

theorem play3 {D : Dk} {x : Ts} {n u : Nat} (hB : D.Base u) (hu : u ≤ 100000) (hs : D.Safe) (h : Says D x n []) (k : Nat) :
    ∃ D', D'.Base u ∧ ((D.rewrite (x.log.take k) = (D', 0) ∧ D'.Safe ∧ Says D' { x with log := x.log.take k } n []) ∨ (D.rewrite (x.log.take k) = (D', 8) ∧ Bad D' n u [x, { x with log := x.log.take k }])) := by
  obtain ⟨E, c, ht, hfE, hl, hcn, hc1, hc2, hc3, hlog⟩ := h.log
  rw [List.append_nil] at ht
  have hmem : ∀ e ∈ x.log.take k, e ∈ E := fun e he => by
    have := List.mem_of_mem_take he
    rw [hlog] at this
    exact List.mem_of_mem_drop this
  have hsz : (frs (x.log.take k)).length ≤ (frs E).length := by
    have e1 : E = E.take (x.base - c) ++ (x.log.take k ++ x.log.drop k) := by rw [List.take_append_drop, hlog, List.take_append_drop]
    have e2 := congrArg (fun l => (frs l).length) e1
    simp only [frs_app_, List.length_append] at e2
    omega
  have hcl : Cons x.base x.log := by
    have := Cons.drop (x.base - c) hcn
    rw [← hlog, show c + (x.base - c) = x.base by omega] at this
    rcases this with this | this
    · exact this
    · omega
  have hxl : x.base + x.log.length = c + E.length := by rw [hlog, List.length_drop]; omega
  have hsay : ∀ (D2 : Dk), lookF nTerm D2.files = lookF nTerm D.files → lookF nSnap D2.files = lookF nSnap D.files → (lookF nLog D2.files).now.text = frs (x.log.take k) → Says D2 { x with log := x.log.take k } n [] := by
    intro D2 e1 e2 e3
    refine ⟨by rw [e1]; exact h.term, by rw [e2]; exact h.snap, x.log.take k, x.base, by rw [e3, List.append_nil], fun e he => hfE e (hmem e he), ?_, hcl.take k, Nat.le_refl _, by simp, ?_, by simp⟩
    · rw [List.length_take]; omega
    · rw [List.length_take]; omega
  obtain ⟨D', b1, b2, b3⟩ := upd_cases (j := 0) hB (by omega) hs (name := nLog) (by simp [names3]) (by decide) (fun _ => frs (x.log.take k)) (by rw [ht]; omega)
  have hrw : D.rewrite (x.log.take k) = D.upd nLog (fun _ => frs (x.log.take k)) := rfl
  rw [hrw]
  refine ⟨D', b1, ?_⟩
  rcases b3 with ⟨e, l⟩ | ⟨e, l | l⟩
  · left
    exact ⟨e, hs.of_look l b2, hsay D' (b2 nTerm (by decide)) (b2 nSnap (by decide)) (by rw [l])⟩
  · right
    have hlk : ∀ m, lookF m D'.files = lookF m D.files := fun m => by
      by_cases hm : m = nLog
      · subst hm; exact l
      · exact b2 m hm
    exact ⟨e, bad_safe (fun m => by rw [hlk]; exact hs m) b1 (h.congr hlk) (by simp)⟩
  · right
    refine ⟨e, fun ch => ?_⟩
    obtain ⟨L, c1, c2, c3, c4, c5⟩ := crash_one ch b1 hu (name := nLog) (by simp [names3]) (fun m hm => by rw [b2 m hm]; exact hs m)
    have e1 : lookF nTerm (D'.crash ch).files = lookF nTerm D.files := by rw [c2 nTerm (by decide), b2 nTerm (by decide)]
    have e2 : lookF nSnap (D'.crash ch).files = lookF nSnap D.files := by rw [c2 nSnap (by decide), b2 nSnap (by decide)]
    have hres : L.text = frs E ∨ L.text = frs (x.log.take k) := by
      rcases c5 with ⟨c5, _⟩ | ⟨j, c5⟩
      · right; rw [c5, l]
      · rcases left_cases (lookF nLog D'.files) ch j with h' | h' | ⟨h1, h2, _⟩
        · left; rw [c5, h', l]; exact ht
        · right; rw [c5, h', l]
        · exfalso
          rw [l] at h2
          simp only [ht] at h2
          omega
    rcases hres with hr | hr
    · exact ⟨x, by simp, c3, c4, [], openF_nil, ⟨by rw [e1]; exact h.term, by rw [e2]; exact h.snap, E, c, by rw [c1, List.append_nil]; exact hr, hfE, hl, hcn, hc1, hc2, hc3, hlog⟩⟩
    · exact ⟨_, by simp, c3, c4, [], openF_nil, hsay _ e1 e2 (by rw [c1]; exact hr)⟩

theorem play4 {D : Dk} {x : Ts} {n u : Nat} (hB : D.Base u) (hu : u + 100 ≤ 100000) (hs : D.Safe) (h : Says D x n []) (hn : n ≤ 1000) (k bt : Nat) (hk : k ≤ x.log.length) (hbt : bt ≤ 1099511627776) (sn : List UInt8) (hsn : sn.length ≤ 30) :
    ∃ D', D'.Base (u + 100) ∧ ((D.saveSnap (x.base + k) bt sn (x.log.drop k) = (D', 0) ∧ D'.Safe ∧ Says D' { x with base := x.base + k, baseTerm := bt, snap := sn, log := x.log.drop k } n []) ∨
      (D.saveSnap (x.base + k) bt sn (x.log.drop k) = (D', 8) ∧ Bad D' n (u + 100) [x, { x with base := x.base + k, baseTerm := bt, snap := sn, log := x.log.drop k }])) := by
  obtain ⟨E, c, ht, hfE, hl, hcn, hc1, hc2, hc3, hlog⟩ := h.log
  have hxl : x.base + x.log.length = c + E.length := by rw [hlog, List.length_drop]; omega
  have hb : x.base + k ≤ 1099511627776 := by omega
  have hlen := snapLen (b := x.base + k) (t := bt) (s := sn) hb hbt (by omega)
  have hy : SnapIs (frame (encU (x.base + k) ++ (encU bt ++ encS sn))) (x.base + k) bt sn := .inl ⟨rfl, hb, hbt, by omega⟩
  have hsay : ∀ (D2 : Dk), lookF nTerm D2.files = lookF nTerm D.files → lookF nLog D2.files = lookF nLog D.files → (lookF nSnap D2.files).now.text = frame (encU (x.base + k) ++ (encU bt ++ encS sn)) → Says D2 { x with base := x.base + k, baseTerm := bt, snap := sn, log := x.log.drop k } n [] := by
    intro D2 e1 e2 e3
    refine ⟨by rw [e1]; exact h.term, by rw [e3]; exact hy, E, c, by rw [e2]; exact ht, hfE, hl, hcn, by simp only; omega, by simp only; omega, hc3, ?_⟩
    simp only
    rw [hlog, List.drop_drop]
    congr 1
    omega
  obtain ⟨D', b1, b2, b3⟩ := upd_cases (j := 100) hB hu hs (name := nSnap) (by simp [names3]) (by decide) (fun _ => frame (encU (x.base + k) ++ (encU bt ++ encS sn))) (by simp only [frame_len]; omega)
  rw [← save_upd] at b3
  have hss : D.saveSnap (x.base + k) bt sn (x.log.drop k) = if (D.save nSnap (frame (encU (x.base + k) ++ (encU bt ++ encS sn)))).2 ≠ 0 then D.save nSnap (frame (encU (x.base + k) ++ (encU bt ++ encS sn))) else (D.save nSnap (frame (encU (x.base + k) ++ (encU bt ++ encS sn)))).1.rewrite (x.log.drop k) := rfl
  rcases b3 with ⟨e, l⟩ | ⟨e, l | l⟩
  · rw [e, if_neg (by simp)] at hss
    have hs1 := hs.of_look l b2
    have h1 := hsay D' (b2 nTerm (by decide)) (b2 nLog (by decide)) (by rw [l])
    obtain ⟨D2, q1, q2⟩ := play3 b1 hu hs1 h1 (x.log.drop k).length
    simp only [List.take_length] at q2
    refine ⟨D2, q1, ?_⟩
    rw [hss]
    rcases q2 with ⟨e2, s2, y2⟩ | ⟨e2, bad⟩
    · exact .inl ⟨e2, s2, y2⟩
    · exact .inr ⟨e2, bad.mono (by simp)⟩
  · rw [e, if_pos (by simp)] at hss
    have hlk : ∀ m, lookF m D'.files = lookF m D.files := fun m => by
      by_cases hm : m = nSnap
      · subst hm; exact l
      · exact b2 m hm
    exact ⟨D', b1, .inr ⟨hss, bad_safe (fun m => by rw [hlk]; exact hs m) b1 (h.congr hlk) (by simp)⟩⟩
  · rw [e, if_pos (by simp)] at hss
    refine ⟨D', b1, .inr ⟨hss, fun ch => ?_⟩⟩
    obtain ⟨L, c1, c2, c3, c4, c5⟩ := crash_one ch b1 hu (name := nSnap) (by simp [names3]) (fun m hm => by rw [b2 m hm]; exact hs m)
    have e1 : lookF nTerm (D'.crash ch).files = lookF nTerm D.files := by rw [c2 nTerm (by decide), b2 nTerm (by decide)]
    have e2 : lookF nLog (D'.crash ch).files = lookF nLog D.files := by rw [c2 nLog (by decide), b2 nLog (by decide)]
    have hres : L.text = (lookF nSnap D.files).now.text ∨ L.text = frame (encU (x.base + k) ++ (encU bt ++ encS sn)) ∨ (Half L.text ∧ Half (lookF nSnap D.files).now.text) := by
      rcases c5 with ⟨c5, _⟩ | ⟨j, c5⟩
      · right; left; rw [c5, l]
      · have := frame_left (f := lookF nSnap D'.files) (s := encU (x.base + k) ++ (encU bt ++ encS sn)) (by omega) (by rw [l]) ch j
        rw [← c5, l] at this
        exact this
    have hlog' := h.log
    rw [← e2] at hlog'
    rcases hres with hr | hr | ⟨hr, hr2⟩
    · exact ⟨x, by simp, c3, c4, [], openF_nil, ⟨by rw [e1]; exact h.term, by rw [c1]; simp only; rw [hr]; exact h.snap, hlog'⟩⟩
    · exact ⟨_, by simp, c3, c4, [], openF_nil, hsay _ e1 e2 (by rw [c1]; exact hr)⟩
    · obtain ⟨z1, z2, z3⟩ := half_snap hr2 h.snap
      exact ⟨x, by simp, c3, c4, [], openF_nil, ⟨by rw [e1]; exact h.term, by rw [c1]; simp only; rw [z1, z2, z3]; exact .inr ⟨hr, rfl, rfl, rfl⟩, hlog'⟩⟩

end Go.Proofs.YtpcbhechfbibbaaDoor
