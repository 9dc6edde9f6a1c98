/- ServiceMay answers true: its runs, put together. -/
import Derived.Test.YtdgjkejfmehphaaGreatDoorMRa
import Derived.Test.YtdgjkejfmehphaaGreatDoorMRb
import Derived.Test.YtdgjkejfmehphaaGreatDoorMRc
set_option linter.unusedVariables false
namespace Go.Proofs.YtdgjkejfmehphaaGreatDoor.Av
open Go Go.RowKit
/-- A command without a blob. -/
def cmO (k c : Nat) (nm : List UInt8) : Cm := ⟨k, c, 1, nm, 0, 0, 0, [], 0, 0, 0⟩
theorem cmO_ok {k c : Nat} {nm : List UInt8} (hk : 1 ≤ k ∧ k ≤ 14) (hc : c ≤ 1000) (hn : nm.length ≤ 32) : (cmO k c nm).Ok :=
  ⟨hk, by simp only [cmO]; omega, by simp only [cmO]; omega, hn, by simp only [cmO]; omega, by simp only [cmO]; omega, by simp only [cmO]; omega, by simp [cmO], by simp [cmO], by simp only [cmO]; omega, by simp only [cmO]; omega, by simp only [cmO]; omega⟩
section
variable {p : Mp} {e : Env}
theorem val_C (hI : e.I = spM p) : VR e aC (.int .i64 (p.c : Int)) := by
  have := val_lin (p := p) (c := 0) (cs := [0, 0, 0, 0, 0, 0, 0, 1]) hI
  rwa [lin7] at this
theorem val_K (hI : e.I = spM p) (c n : Int) : VR e (aK c n) (.int .i64 (c + n * (p.k : Int))) := by
  have := val_lin (p := p) (c := c) (cs := [0, 0, 0, 0, 0, 0, 0, 0, n]) hI
  rwa [lin8] at this
theorem val_N (hI : e.I = spM p) : VR e aN (.string (bs p.nm)) := by
  have := val_at hI 0
  rwa [show p.A 0 = p.nm.map UInt8.toNat from rfl, strB_bs] at this
theorem val_Nc (hI : e.I = spM p) : VR e aNc (.string (bs (p.nm.take 40))) := by
  have := val_at hI 1
  rwa [show p.A 1 = (p.nm.take 40).map UInt8.toNat from rfl, strB_bs] at this
theorem val_D (hI : e.I = spM p) : VR e aD (.string (bs p.dat)) := by
  have := val_at hI 2
  rwa [show p.A 2 = p.dat.map UInt8.toNat from rfl, strB_bs] at this
theorem val_kd (hI : e.I = spM p) : VR e (.sp (.a 10)) (.int .i64 p.kd) := val_oth hI (.inr (.inr (.inl ⟨rfl, rfl⟩)))
theorem C_val (hI : e.I = spM p) {v : Value} (h : VR e aC v) : v = .int .i64 (p.c : Int) := by
  have := lin_val hI h
  rwa [lin7] at this
theorem Nc_val (hI : e.I = spM p) {v : Value} (h : VR e aNc v) : v = .string (bs (p.nm.take 40)) := by
  have := at_val hI h
  rwa [show p.A 1 = (p.nm.take 40).map UInt8.toNat from rfl, strB_bs] at this
theorem val_e : VR e (.str []) (.string (bs [])) := .str [] (by simp)
theorem fldO_ok {k : Nat} {nm : List UInt8} {a : AV} (hc : p.cm = cmO k p.c nm) (h1 : ∀ e, e.I = spM p → VR e a (.string (bs nm))) (h2 : ∀ e v, e.I = spM p → VR e a v → v = .string (bs nm)) (h3 : a.one = true) : FldOk p (fldO k a) false where
  dput h := by cases h
  dno _ := by rw [hc]; rfl
  pool := by rw [hc]; rfl
  vol := by rw [hc]; rfl
  at_ := by rw [hc]; rfl
  wr e vs hI hv := by
    rw [hc]
    cases hv with
    | cons _ x0 _ l0 g0 hl =>
    cases hl with
    | cons _ x1 _ l1 g1 hl =>
    cases hl with
    | cons _ x2 _ l2 g2 hl =>
    cases hl with
    | cons _ x3 _ l3 g3 hl =>
    cases hl with
    | cons _ x4 _ l4 g4 hl =>
    cases hl with
    | cons _ x5 _ l5 g5 hl =>
    cases hl with
    | cons _ x6 _ l6 g6 hl =>
    cases hl
    cases g0
    cases g2
    cases g4
    cases g5
    cases g6
    have q1 := C_val hI g1
    have q3 := h2 e _ hI g3
    subst q1 q3
    rfl
  rd e hI := by
    rw [hc]
    exact .cons _ _ _ _ (.int _ _) (.cons _ _ _ _ (val_C hI) (.cons _ _ _ _ (.int _ _) (.cons _ _ _ _ (h1 e hI) (.cons _ _ _ _ (.int _ _) (.cons _ _ _ _ (.int _ _) (.cons _ _ _ _ (.int _ _) .nil))))))
  one x hx := by
    simp only [fldO, List.mem_cons, List.not_mem_nil, or_false] at hx
    rcases hx with rfl | rfl | rfl | rfl | rfl | rfl | rfl <;> first | rfl | exact h3
theorem fldE_ok {k : Nat} (hc : p.cm = cmO k p.c []) : FldOk p (fldO k (.str [])) false :=
  fldO_ok hc (fun e _ => val_e) (fun e v _ h => by cases h; rfl) rfl
theorem fldN_ok {k : Nat} (hc : p.cm = cmO k p.c (p.nm.take 40)) : FldOk p (fldO k aNc) false := fldO_ok hc (fun e hI => val_Nc hI) (fun e v hI h => Nc_val hI h) rfl
/-- A Put. -/
def cmP (c : Nat) (nm dat : List UInt8) : Cm := ⟨1, c, 1, nm.take 40, c * 4294967296 + 1, (dat.take 5000).length, (crc (dat.take 5000)).toNat, [0, 1], 0, 0, 0⟩
theorem fldP_ok (hc : p.cm = cmP p.c p.nm p.dat) : FldOk p fldP true where
  dput _ := by rw [hc]; rfl
  dno h := by cases h
  pool := by rw [hc]; rfl
  vol := by rw [hc]; rfl
  at_ := by rw [hc]; rfl
  wr e vs hI hv := by
    rw [hc]
    cases hv with
    | cons _ x0 _ l0 g0 hl =>
    cases hl with
    | cons _ x1 _ l1 g1 hl =>
    cases hl with
    | cons _ x2 _ l2 g2 hl =>
    cases hl with
    | cons _ x3 _ l3 g3 hl =>
    cases hl with
    | cons _ x4 _ l4 g4 hl =>
    cases hl with
    | cons _ x5 _ l5 g5 hl =>
    cases hl with
    | cons _ x6 _ l6 g6 hl =>
    cases hl
    cases g0
    cases g2
    have q1 := C_val hI g1
    have q3 := Nc_val hI g3
    have q4 := O_id (oth_val hI g4)
    have q5 := lin_val hI g5
    rw [lin3] at q5
    have q6 := O_sum (oth_val hI g6)
    have hs : ((crc (p.dat.take 5000)).toNat : Int) = crc (p.dat.take 5000) := Int.toNat_of_nonneg (crc_bd _).1
    subst q1 q3 q4 q5 q6
    simp only [cmP, hs]
    rfl
  rd e hI := by
    rw [hc]
    have hs : ((crc (p.dat.take 5000)).toNat : Int) = crc (p.dat.take 5000) := Int.toNat_of_nonneg (crc_bd _).1
    simp only [cmP, hs]
    have h5 : VR e (.sp (.i 0 [0, 0, 0, 1])) (.int .i64 ((p.dat.take 5000).length : Int)) := by
      have := val_lin (p := p) (c := 0) (cs := [0, 0, 0, 1]) hI
      rwa [lin3] at this
    exact .cons _ _ _ _ (.int _ _) (.cons _ _ _ _ (val_C hI) (.cons _ _ _ _ (.int _ _) (.cons _ _ _ _ (val_Nc hI) (.cons _ _ _ _ (val_oth hI (.inl ⟨rfl, rfl⟩)) (.cons _ _ _ _ h5 (.cons _ _ _ _ (val_oth hI (.inr (.inl ⟨rfl, rfl⟩))) .nil))))))
  one x hx := by
    simp only [fldP, List.mem_cons, List.not_mem_nil, or_false] at hx
    rcases hx with rfl | rfl | rfl | rfl | rfl | rfl | rfl <;> rfl
theorem cmP_ok {c : Nat} {nm dat : List UInt8} (hc : c ≤ 1000) (hn : (nm.take 40).length ≤ 32) (hd : (dat.take 5000).length ≤ 4000) : (cmP c nm dat).Ok := by
  have := crc_bd (dat.take 5000)
  exact ⟨by simp only [cmP]; omega, by simp only [cmP]; omega, by simp only [cmP]; omega, hn, by simp only [cmP]; omega, hd, by simp only [cmP]; omega, by simp [cmP], by simp [cmP], by simp only [cmP]; omega, by simp only [cmP]; omega, by simp only [cmP]; omega⟩
theorem vrs5 {a b c d : AV} {a' b' c' d' : Value} (l : Bool) (h1 : VR e a a') (h2 : VR e b b') (h3 : VR e c c') (h4 : VR e d d') : VRs e [a, b, c, d, .bool l] [a', b', c', d', .bool l] :=
  .cons _ _ _ _ h1 (.cons _ _ _ _ h2 (.cons _ _ _ _ h3 (.cons _ _ _ _ h4 (.cons _ _ _ _ (.bool l) .nil))))
theorem eqI_ {a b : Int} {x : AV} (h : VR e x (.int .i64 a)) (hab : a = b) : VR e x (.int .i64 b) := hab ▸ h
/-- It answers true. -/
def Yes (W : World) (args : List Value) : Prop := Calls P 3 args.toArray W fun x w' => x = .returned (.bool true) ∧ Below W.heap.size W w'
variable {W : World} {ty : Nat → Nat} {nm dat : List UInt8} {client kind : Int}
theorem may1 (hT : Tabs W ty) (hn : nm.length ≤ 140737488351232) (hd : dat.length ≤ 140737488351232) (hc : -9223372036854775808 ≤ client) (h1 : client < 1) (lead : Bool) : Yes W [.int .i64 client, .int .i64 kind, .string (bs nm), .string (bs dat), .bool lead] := by
  have hp : Mp.Ok ⟨nm, dat, 1, (-client).toNat, kind, cmO 4 1 []⟩ := ⟨by simp only; omega, cmO_ok (by omega) (by omega) (by simp)⟩
  have hb := bd_ok (p := ⟨nm, dat, 1, (-client).toNat, kind, cmO 4 1 []⟩) (n1 := 0) (n2 := 40) (d1 := 0) (d2 := 5000) (c1 := 1) (c2 := 1) (k1 := 0) (k2 := 9223372036854775808) hp hn hd ⟨Nat.zero_le _, by rw [List.length_take]; simp only; omega⟩ ⟨Nat.zero_le _, by unfold Mp.datc; rw [List.length_take]; simp only; omega⟩ ⟨by simp only; omega, by simp only; omega⟩ ⟨Nat.zero_le _, by simp only; omega⟩
  have hv : ∀ e : Env, e.I = spM ⟨nm, dat, 1, (-client).toNat, kind, cmO 4 1 []⟩ → VRs e [aK 0 (-1), .sp (.a 10), aN, aD, .bool lead] [.int .i64 client, .int .i64 kind, .string (bs nm), .string (bs dat), .bool lead] := fun e hI => vrs5 lead (eqI_ (val_K hI 0 (-1)) (by simp only; omega)) (val_kd hI) (val_N hI) (val_D hI)
  cases lead
  · exact may_of_run hp (fldE_ok rfl) hb hT hv (p1F_run ty)
  · exact may_of_run hp (fldE_ok rfl) hb hT hv (p1T_run ty)
theorem may2 (hT : Tabs W ty) (hn : nm.length ≤ 140737488351232) (hd : dat.length ≤ 140737488351232) (hc : client ≤ 9223372036854775807) (h1 : 1000 < client) (lead : Bool) : Yes W [.int .i64 client, .int .i64 kind, .string (bs nm), .string (bs dat), .bool lead] := by
  have hp : Mp.Ok ⟨nm, dat, 1, (client - 1001).toNat, kind, cmO 4 1 []⟩ := ⟨by simp only; omega, cmO_ok (by omega) (by omega) (by simp)⟩
  have hb := bd_ok (p := ⟨nm, dat, 1, (client - 1001).toNat, kind, cmO 4 1 []⟩) (n1 := 0) (n2 := 40) (d1 := 0) (d2 := 5000) (c1 := 1) (c2 := 1) (k1 := 0) (k2 := 9223372036854775808) hp hn hd ⟨Nat.zero_le _, by rw [List.length_take]; simp only; omega⟩ ⟨Nat.zero_le _, by unfold Mp.datc; rw [List.length_take]; simp only; omega⟩ ⟨by simp only; omega, by simp only; omega⟩ ⟨Nat.zero_le _, by simp only; omega⟩
  have hv : ∀ e : Env, e.I = spM ⟨nm, dat, 1, (client - 1001).toNat, kind, cmO 4 1 []⟩ → VRs e [aK 1001 1, .sp (.a 10), aN, aD, .bool lead] [.int .i64 client, .int .i64 kind, .string (bs nm), .string (bs dat), .bool lead] := fun e hI => vrs5 lead (eqI_ (val_K hI 1001 1) (by simp only; omega)) (val_kd hI) (val_N hI) (val_D hI)
  cases lead
  · exact may_of_run hp (fldE_ok rfl) hb hT hv (p2F_run ty)
  · exact may_of_run hp (fldE_ok rfl) hb hT hv (p2T_run ty)
/-- The client may be. -/
structure In (client : Int) (nm dat : List UInt8) : Prop where
  n : nm.length ≤ 140737488351232
  d : dat.length ≤ 140737488351232
  lo : 1 ≤ client
  hi : client ≤ 1000
theorem In.ok (h : In client nm dat) {k : Nat} {kd : Int} {q : Nat} {m : List UInt8} (hq : 1 ≤ q ∧ q ≤ 14) (hm : m.length ≤ 32) : Mp.Ok ⟨nm, dat, client.toNat, k, kd, cmO q client.toNat m⟩ := by
  have := h.hi
  exact ⟨by simp only; omega, cmO_ok hq (by omega) hm⟩
theorem In.bd (h : In client nm dat) {k : Nat} {kd : Int} {cm : Cm} (hp : Mp.Ok ⟨nm, dat, client.toNat, k, kd, cm⟩) {n1 n2 d1 d2 k1 k2 : Nat} (h1 : n1 ≤ (nm.take 40).length ∧ (nm.take 40).length ≤ n2) (h2 : d1 ≤ (dat.take 5000).length ∧ (dat.take 5000).length ≤ d2) (h4 : k1 ≤ k ∧ k ≤ k2) :
    BdOk (fun n => (Mp.A ⟨nm, dat, client.toNat, k, kd, cm⟩ n).length) (bdsM n1 n2 d1 d2 1 1000 k1 k2) :=
  bd_ok hp h.n h.d h1 h2 ⟨by have := h.lo; simp only; omega, by have := h.hi; simp only; omega⟩ h4
theorem In.c (h : In client nm dat) {k : Nat} {kd : Int} {cm : Cm} (hI : e.I = spM ⟨nm, dat, client.toNat, k, kd, cm⟩) : VR e aC (.int .i64 client) := eqI_ (val_C hI) (by have := h.lo; simp only; omega)
theorem n40 (nm : List UInt8) : (nm.take 40).length ≤ 40 := by rw [List.length_take]; omega
theorem d50 (dat : List UInt8) : (dat.take 5000).length ≤ 5000 := by rw [List.length_take]; omega
theorem may3 (hT : Tabs W ty) (h : In client nm dat) (hk : -9223372036854775808 ≤ kind) (h1 : kind < 1) (lead : Bool) : Yes W [.int .i64 client, .int .i64 kind, .string (bs nm), .string (bs dat), .bool lead] := by
  have hp := h.ok (k := (-kind).toNat) (kd := kind) (q := 4) (m := []) (by omega) (by simp)
  have hb := h.bd hp (n1 := 0) (n2 := 40) (d1 := 0) (d2 := 5000) (k1 := 0) (k2 := 9223372036854775808) ⟨Nat.zero_le _, n40 _⟩ ⟨Nat.zero_le _, d50 _⟩ ⟨Nat.zero_le _, by omega⟩
  have hv := fun (e : Env) (hI : e.I = spM _) => vrs5 lead (h.c (k := (-kind).toNat) (kd := kind) (cm := cmO 4 client.toNat []) hI) (eqI_ (val_K hI 0 (-1)) (show _ = kind by simp only; omega)) (val_N hI) (val_D hI)
  cases lead
  · exact may_of_run hp (fldE_ok rfl) hb hT hv (p3F_run ty)
  · exact may_of_run hp (fldE_ok rfl) hb hT hv (p3T_run ty)
theorem may4 (hT : Tabs W ty) (h : In client nm dat) (hk : kind ≤ 9223372036854775807) (h1 : 5 < kind) (lead : Bool) : Yes W [.int .i64 client, .int .i64 kind, .string (bs nm), .string (bs dat), .bool lead] := by
  have hp := h.ok (k := (kind - 6).toNat) (kd := kind) (q := 4) (m := []) (by omega) (by simp)
  have hb := h.bd hp (n1 := 0) (n2 := 40) (d1 := 0) (d2 := 5000) (k1 := 0) (k2 := 9223372036854775808) ⟨Nat.zero_le _, n40 _⟩ ⟨Nat.zero_le _, d50 _⟩ ⟨Nat.zero_le _, by omega⟩
  have hv := fun (e : Env) (hI : e.I = spM _) => vrs5 lead (h.c (k := (kind - 6).toNat) (kd := kind) (cm := cmO 4 client.toNat []) hI) (eqI_ (val_K hI 6 1) (show _ = kind by simp only; omega)) (val_N hI) (val_D hI)
  cases lead
  · exact may_of_run hp (fldE_ok rfl) hb hT hv (p4F_run ty)
  · exact may_of_run hp (fldE_ok rfl) hb hT hv (p4T_run ty)
theorem may5 (hT : Tabs W ty) (h : In client nm dat) (hk : 1 ≤ kind ∧ kind ≤ 5) (h1 : 33 ≤ (nm.take 40).length) (lead : Bool) : Yes W [.int .i64 client, .int .i64 kind, .string (bs nm), .string (bs dat), .bool lead] := by
  have hp := h.ok (k := (kind - 1).toNat) (kd := kind) (q := 4) (m := []) (by omega) (by simp)
  have hb := h.bd hp (n1 := 33) (n2 := 40) (d1 := 0) (d2 := 5000) (k1 := 0) (k2 := 4) ⟨h1, n40 _⟩ ⟨Nat.zero_le _, d50 _⟩ ⟨Nat.zero_le _, by omega⟩
  have hv := fun (e : Env) (hI : e.I = spM _) => vrs5 lead (h.c (k := (kind - 1).toNat) (kd := kind) (cm := cmO 4 client.toNat []) hI) (eqI_ (val_K hI 1 1) (show _ = kind by simp only; omega)) (val_N hI) (val_D hI)
  cases lead
  · exact may_of_run hp (fldE_ok rfl) hb hT hv (p5F_run ty)
  · exact may_of_run hp (fldE_ok rfl) hb hT hv (p5T_run ty)
theorem may6 (hT : Tabs W ty) (h : In client nm dat) (hk : 1 ≤ kind ∧ kind ≤ 5) (h1 : (nm.take 40).length ≤ 32) (h2 : 4001 ≤ (dat.take 5000).length) (lead : Bool) : Yes W [.int .i64 client, .int .i64 kind, .string (bs nm), .string (bs dat), .bool lead] := by
  have hp := h.ok (k := (kind - 1).toNat) (kd := kind) (q := 4) (m := []) (by omega) (by simp)
  have hb := h.bd hp (n1 := 0) (n2 := 32) (d1 := 4001) (d2 := 5000) (k1 := 0) (k2 := 4) ⟨Nat.zero_le _, h1⟩ ⟨h2, d50 _⟩ ⟨Nat.zero_le _, by omega⟩
  have hv := fun (e : Env) (hI : e.I = spM _) => vrs5 lead (h.c (k := (kind - 1).toNat) (kd := kind) (cm := cmO 4 client.toNat []) hI) (eqI_ (val_K hI 1 1) (show _ = kind by simp only; omega)) (val_N hI) (val_D hI)
  cases lead
  · exact may_of_run hp (fldE_ok rfl) hb hT hv (p6F_run ty)
  · exact may_of_run hp (fldE_ok rfl) hb hT hv (p6T_run ty)
theorem may7a (hT : Tabs W ty) (h : In client [] dat) (hk : 1 ≤ kind ∧ kind ≤ 3) (h2 : (dat.take 5000).length ≤ 4000) (lead : Bool) : Yes W [.int .i64 client, .int .i64 kind, .string (bs []), .string (bs dat), .bool lead] := by
  have hp := h.ok (k := (kind - 1).toNat) (kd := kind) (q := 4) (m := []) (by omega) (by simp)
  have hb := h.bd hp (n1 := 0) (n2 := 0) (d1 := 0) (d2 := 4000) (k1 := 0) (k2 := 2) ⟨Nat.zero_le _, by simp⟩ ⟨Nat.zero_le _, h2⟩ ⟨Nat.zero_le _, by omega⟩
  have hv := fun (e : Env) (hI : e.I = spM _) => vrs5 lead (h.c (k := (kind - 1).toNat) (kd := kind) (cm := cmO 4 client.toNat []) hI) (eqI_ (val_K hI 1 1) (show _ = kind by simp only; omega)) (val_e (e := e)) (val_D hI)
  cases lead
  · exact may_of_run hp (fldE_ok rfl) hb hT hv (p7aF_run ty)
  · exact may_of_run hp (fldE_ok rfl) hb hT hv (p7aT_run ty)
theorem may7b (hT : Tabs W ty) (h : In client [] dat) (h2 : (dat.take 5000).length ≤ 4000) (lead : Bool) : Yes W [.int .i64 client, .int .i64 5, .string (bs []), .string (bs dat), .bool lead] := by
  have hp := h.ok (k := 0) (kd := 0) (q := 4) (m := []) (by omega) (by simp)
  have hb := h.bd hp (n1 := 0) (n2 := 0) (d1 := 0) (d2 := 4000) (k1 := 0) (k2 := 0) ⟨Nat.zero_le _, by simp⟩ ⟨Nat.zero_le _, h2⟩ ⟨Nat.zero_le _, by omega⟩
  have hv := fun (e : Env) (hI : e.I = spM _) => vrs5 lead (h.c (k := 0) (kd := 0) (cm := cmO 4 client.toNat []) hI) (.int .i64 (.ofNat 5)) (val_e (e := e)) (val_D hI)
  cases lead
  · exact may_of_run hp (fldE_ok rfl) hb hT hv (p7bF_run ty)
  · exact may_of_run hp (fldE_ok rfl) hb hT hv (p7bT_run ty)
theorem may8a (hT : Tabs W ty) (h : In client nm dat) (hk : 1 ≤ kind ∧ kind ≤ 5) (h1 : 1 ≤ (nm.take 40).length ∧ (nm.take 40).length ≤ 32) (h2 : (dat.take 5000).length ≤ 4000) : Yes W [.int .i64 client, .int .i64 kind, .string (bs nm), .string (bs dat), .bool false] := by
  have hp := h.ok (k := (kind - 1).toNat) (kd := kind) (q := 4) (m := []) (by omega) (by simp)
  have hb := h.bd hp (n1 := 1) (n2 := 32) (d1 := 0) (d2 := 4000) (k1 := 0) (k2 := 4) h1 ⟨Nat.zero_le _, h2⟩ ⟨Nat.zero_le _, by omega⟩
  have hv := fun (e : Env) (hI : e.I = spM _) => vrs5 false (h.c (k := (kind - 1).toNat) (kd := kind) (cm := cmO 4 client.toNat []) hI) (eqI_ (val_K hI 1 1) (show _ = kind by simp only; omega)) (val_N hI) (val_D hI)
  exact may_of_run hp (fldE_ok rfl) hb hT hv (p8a_run ty)
theorem may8b (hT : Tabs W ty) (h : In client [] dat) (h2 : (dat.take 5000).length ≤ 4000) : Yes W [.int .i64 client, .int .i64 4, .string (bs []), .string (bs dat), .bool false] := by
  have hp := h.ok (k := 0) (kd := 0) (q := 4) (m := []) (by omega) (by simp)
  have hb := h.bd hp (n1 := 0) (n2 := 0) (d1 := 0) (d2 := 4000) (k1 := 0) (k2 := 0) ⟨Nat.zero_le _, by simp⟩ ⟨Nat.zero_le _, h2⟩ ⟨Nat.zero_le _, by omega⟩
  have hv := fun (e : Env) (hI : e.I = spM _) => vrs5 false (h.c (k := 0) (kd := 0) (cm := cmO 4 client.toNat []) hI) (.int .i64 (.ofNat 4)) (val_e (e := e)) (val_D hI)
  exact may_of_run hp (fldE_ok rfl) hb hT hv (p8b_run ty)
theorem may9e (hT : Tabs W ty) (h : In client [] dat) (h2 : (dat.take 5000).length ≤ 4000) : Yes W [.int .i64 client, .int .i64 4, .string (bs []), .string (bs dat), .bool true] := by
  have hp := h.ok (k := 0) (kd := 0) (q := 4) (m := []) (by omega) (by simp)
  have hb := h.bd hp (n1 := 0) (n2 := 0) (d1 := 0) (d2 := 4000) (k1 := 0) (k2 := 0) ⟨Nat.zero_le _, by simp⟩ ⟨Nat.zero_le _, h2⟩ ⟨Nat.zero_le _, by omega⟩
  have hv := fun (e : Env) (hI : e.I = spM _) => vrs5 true (h.c (k := 0) (kd := 0) (cm := cmO 4 client.toNat []) hI) (.int .i64 (.ofNat 4)) (val_e (e := e)) (val_D hI)
  exact may_of_run hp (fldE_ok rfl) hb hT hv (p9_0_run ty)
theorem may9o (hT : Tabs W ty) (h : In client nm dat) (h1 : 1 ≤ (nm.take 40).length ∧ (nm.take 40).length ≤ 32) (h2 : (dat.take 5000).length ≤ 4000) (k : Nat) (hk : 1 ≤ k ∧ k ≤ 14) (hr : says (bdsM 1 32 0 4000 1 1000 0 0) (fldO k aNc) false [aC, .int .i64 (.ofNat k), aN, aD, .bool true] ty = true) : Yes W [.int .i64 client, .int .i64 (k : Int), .string (bs nm), .string (bs dat), .bool true] := by
  have hp := h.ok (k := 0) (kd := 0) (q := k) (m := nm.take 40) hk h1.2
  have hb := h.bd hp (n1 := 1) (n2 := 32) (d1 := 0) (d2 := 4000) (k1 := 0) (k2 := 0) h1 ⟨Nat.zero_le _, h2⟩ ⟨Nat.zero_le _, by omega⟩
  have hv := fun (e : Env) (hI : e.I = spM _) => vrs5 true (h.c (k := 0) (kd := 0) (cm := cmO k client.toNat (nm.take 40)) hI) (.int .i64 (.ofNat k)) (val_N hI) (val_D hI)
  exact may_of_run hp (fldN_ok rfl) hb hT hv hr
theorem may9l (hT : Tabs W ty) (h : In client nm dat) (h1 : 1 ≤ (nm.take 40).length ∧ (nm.take 40).length ≤ 32) (h2 : (dat.take 5000).length ≤ 4000) : Yes W [.int .i64 client, .int .i64 4, .string (bs nm), .string (bs dat), .bool true] := by
  have hp := h.ok (k := 0) (kd := 0) (q := 4) (m := []) (by omega) (by simp)
  have hb := h.bd hp (n1 := 1) (n2 := 32) (d1 := 0) (d2 := 4000) (k1 := 0) (k2 := 0) h1 ⟨Nat.zero_le _, h2⟩ ⟨Nat.zero_le _, by omega⟩
  have hv := fun (e : Env) (hI : e.I = spM _) => vrs5 true (h.c (k := 0) (kd := 0) (cm := cmO 4 client.toNat []) hI) (.int .i64 (.ofNat 4)) (val_N hI) (val_D hI)
  exact may_of_run hp (fldE_ok rfl) hb hT hv (p9_4_run ty)
theorem may9p (hT : Tabs W ty) (h : In client nm dat) (h1 : 1 ≤ (nm.take 40).length ∧ (nm.take 40).length ≤ 32) (h2 : (dat.take 5000).length ≤ 4000) : Yes W [.int .i64 client, .int .i64 1, .string (bs nm), .string (bs dat), .bool true] := by
  have hc := h.hi
  have hp : Mp.Ok ⟨nm, dat, client.toNat, 0, 0, cmP client.toNat nm dat⟩ := ⟨by simp only; omega, cmP_ok (by omega) h1.2 h2⟩
  have hb := h.bd hp (n1 := 1) (n2 := 32) (d1 := 0) (d2 := 4000) (k1 := 0) (k2 := 0) h1 ⟨Nat.zero_le _, h2⟩ ⟨Nat.zero_le _, by omega⟩
  have hv := fun (e : Env) (hI : e.I = spM _) => vrs5 true (h.c (k := 0) (kd := 0) (cm := cmP client.toNat nm dat) hI) (.int .i64 (.ofNat 1)) (val_N hI) (val_D hI)
  exact may_of_run hp (fldP_ok rfl) hb hT hv (p9_1_run ty)
theorem serviceMay_yes (hT : Tabs W ty) (hn : nm.length ≤ 140737488351232) (hd : dat.length ≤ 140737488351232) (hc : -9223372036854775808 ≤ client ∧ client ≤ 9223372036854775807) (hk : -9223372036854775808 ≤ kind ∧ kind ≤ 9223372036854775807) (lead : Bool) :
    Yes W [.int .i64 client, .int .i64 kind, .string (bs nm), .string (bs dat), .bool lead] := by
  by_cases h1 : client < 1
  · exact may1 hT hn hd hc.1 h1 lead
  by_cases h2 : 1000 < client
  · exact may2 hT hn hd hc.2 h2 lead
  have h : In client nm dat := ⟨hn, hd, by omega, by omega⟩
  by_cases h3 : kind < 1
  · exact may3 hT h hk.1 h3 lead
  by_cases h4 : 5 < kind
  · exact may4 hT h hk.2 h4 lead
  have hk5 : 1 ≤ kind ∧ kind ≤ 5 := ⟨by omega, by omega⟩
  by_cases h5 : 33 ≤ (nm.take 40).length
  · exact may5 hT h hk5 h5 lead
  by_cases h6 : 4001 ≤ (dat.take 5000).length
  · exact may6 hT h hk5 (by omega) h6 lead
  have h7 : (dat.take 5000).length ≤ 4000 := by omega
  by_cases h8 : nm = []
  · subst h8
    by_cases h9 : kind ≤ 3
    · exact may7a hT h ⟨hk5.1, h9⟩ h7 lead
    by_cases h10 : kind = 5
    · subst h10
      exact may7b hT h h7 lead
    obtain rfl : kind = 4 := by omega
    cases lead
    · exact may8b hT h h7
    · exact may9e hT h h7
  have hl : 1 ≤ (nm.take 40).length ∧ (nm.take 40).length ≤ 32 := by
    have := List.length_pos_iff.2 h8
    rw [List.length_take] at h5 ⊢
    omega
  cases lead
  · exact may8a hT h hk5 hl h7
  have h11 : kind = 1 ∨ kind = 2 ∨ kind = 3 ∨ kind = 4 ∨ kind = 5 := by omega
  rcases h11 with rfl | rfl | rfl | rfl | rfl
  · exact may9p hT h hl h7
  · exact may9o hT h hl h7 2 (by omega) (p9_2_run ty)
  · exact may9o hT h hl h7 3 (by omega) (p9_3_run ty)
  · exact may9l hT h hl h7
  · exact may9o hT h hl h7 5 (by omega) (p9_5_run ty)
end
end Go.Proofs.YtdgjkejfmehphaaGreatDoor.Av
