/- ClusterIdle's runs, as the evaluator makes them: the start, the steps, what they say of the program. -/
import Derived.Test.YtmfimllokjhgmaaGreatDoorEvTold
import Derived.Below
set_option linter.unusedVariables false
noncomputable section
namespace Go.Proofs.YtmfimllokjhgmaaGreatDoor.Av
open Go Go.RowKit
/-- The four tables' numbers. -/
def tab0 : List Nat := [0, 498536548, 997073096, 651767980, 1994146192, 1802195444, 1303535960, 1342533948, 3988292384, 4027552580, 3604390888, 3412177804, 2607071920, 2262029012, 2685067896, 3183342108]
def tab1 : List Nat := [1, 10, 100, 1000, 10000, 100000, 1000000, 10000000, 100000000, 1000000000, 10000000000, 100000000000, 1000000000000, 10000000000000, 100000000000000, 1000000000000000, 10000000000000000, 100000000000000000, 1000000000000000000, 10000000000000000000]
def tab2 : List Nat := [0, 1, 28, 2, 29, 14, 24, 3, 30, 22, 20, 15, 25, 17, 4, 8, 31, 27, 13, 23, 21, 19, 16, 7, 26, 12, 18, 6, 11, 5, 10, 9]
def tab3 : List Nat := [0, 1, 56, 2, 57, 49, 28, 3, 61, 58, 42, 50, 38, 29, 17, 4, 62, 47, 59, 36, 45, 43, 51, 22, 53, 39, 33, 30, 24, 18, 12, 5, 63, 55, 48, 27, 60, 41, 37, 16, 46, 35, 44, 21, 52, 32, 23, 11, 54, 26, 40, 15, 34, 20, 31, 10, 25, 14, 19, 9, 13, 8, 7, 6]
def tabO (k : IntKind) (l : List Nat) (t : Nat) : AO := .cells (l.map fun n => .int k (.ofNat n)) t true none
/-- The heap at the start: the tables (their blocks' types are known to nobody). -/
def h0 (ty : Nat → Nat) : Tr AO := Tr.put (Tr.put (Tr.put (Tr.put .nil 0 (some (tabO .u32 tab0 (ty 0)))) 1 (some (tabO .u64 tab1 (ty 1)))) 2 (some (tabO .u8 tab2 (ty 2)))) 3 (some (tabO .u8 tab3 (ty 3)))
def s0 (ty : Nat → Nat) : AH := .mk (h0 ty) 16 1 .nil
def i (n : Int) : AV := .int .i64 n
def T : AV := .bool true
def F : AV := .bool false
def p (l o : Nat) : AV := .ptr (some (l, o))
def np : AV := .ptr none
def ns : AV := .sl none 0 (.k 0)
def sk (l o n c : Nat) : AV := .sl (some (l, o)) n (.k c)
def su (l o n c m : Nat) : AV := .sl (some (l, o)) n (.u c m)
def m (l : Nat) : AV := .map (some l)
def c (cs : List AV) (t : Nat) : AO := .cells cs t false none
def cv (cs : List AV) (t q s : Nat) : AO := .cells cs t false (some (q, s))
def mp (es : List (AV × AV × Nat)) (n : Nat) : AO := .map es n
def puts {α : Type} : List (Nat × α) → Tr α → Tr α
  | [], t => t
  | x :: l, t => puts l (t.put x.1 (some x.2))
def mkS (ty : Nat → Nat) (l : List (Nat × AO)) (nx cn : Nat) (lb : List (Nat × Nat)) : AH := .mk (puts l (h0 ty)) nx cn (puts lb .nil)
def run (f : Nat) (args : List AV) (σ : AH) : RV := evF told tt ft 3000 f args σ
def okV {α : Type} (d : α) (r : RV) (k : AV → AH → α) : α := RV.rec (motive := fun _ => α) (fun v σ => k v σ) (fun _ _ _ => d) r
def anew (c : AV) (σ : AH) : Option (AH × AV) := opt none (renew [c] σ) fun r => opt none (nth r.2 0) fun c => some (r.1, c)
/-- What Work says where there is no job. -/
def noWork : AV := .tup [.agg [i 0, .int .u64 0, i 0, i 0], F]
/-- What the law asks for at its end. -/
def finN (n : AV) (k : Bool) : Bool := match n with
  | .int .i64 z => cnd (ltI z 2) k false
  | _ => false
def finL (l : AV) : Bool := match l with
  | .sl none 0 _ => true
  | .sl (some _) 0 _ => true
  | _ => false
def finD (m : AV) (σ : AH) : Bool := okV false (run 11 [m] σ) fun cat σ => okV false (run 12 [cat] σ) fun l _ => finL l
def finC (m : AV) (σ : AH) : Bool := okV false (run 10 [m] σ) fun n σ => finN n (finD m σ)
def finB (m : AV) (σ : AH) : Bool := match m with
  | .ptr (some _) => finC m σ
  | _ => false
def finS (c : AV) (σ : AH) : Bool := okV false (run 9 [c] σ) finB
def workS (c : AV) (σ : AH) (k : AH → Option (AH × AV)) : Option (AH × AV) := okV none (run 8 [c] σ) fun v σ => cnd (v.eqb noWork) (k σ) none
def stepS (c : AV) (σ : AH) (k : AH → Option (AH × AV)) : Option (AH × AV) := cnd (finS c σ) (okV none (run 7 [c] σ) fun v σ => cnd (v.eqb undef0) (workS c σ k) none) none
def stepN : Nat → AV → AH → (AH → Option (AH × AV)) → Option (AH × AV)
  | 0, _, σ, k => k σ
  | n + 1, c, σ, k => stepS c σ fun σ => stepN n c σ k
def goS (n : Nat) (r : Option (AH × AV)) : Option (AH × AV) := opt none r fun r => stepN n r.2 r.1 (anew r.2)
def cfgA (n : Int) : AV := .agg [i 3, i 50000, i 6, i 2000, i 1, i 2, i 0, i 50, i 300, i n, i 4194304]
def newA (n : Int) (ty : Nat → Nat) : Option (AH × AV) := okV none (run 5 [cfgA n] (s0 ty)) fun v σ => match v with
  | .tup [.ptr (some (l, 0)), .int .i64 (.ofNat 0)] => anew (.ptr (some (l, 0))) σ
  | _ => none
def S0_8 (ty : Nat → Nat) : AH := mkS ty [(16, c [p 17 0, p 26 0, sk 53 0 1 1, m 59, i 1] 50),
  (17, c [sk 18 0 1 1, sk 25 0 1 1, ns] 118),
  (18, c [p 19 0] 71),
  (19, c [p 20 0, i 0, i 1, i 1, i 1, i 0, i 0, .str [], su 22 0 1 4 0, i 2, i 0, i 1, i 1, i 0, ns, sk 23 0 1 1, sk 24 0 1 1, ns, i 0] 153),
  (20, c [i 4194304, i 21, F, i 0, m 21] 168),
  (21, mp [(.str [116, 101, 114, 109], .agg [T, .str [0, 0, 0, 2, 220, 90, 116, 26, 1, 1], T, .str [0, 0, 0, 2, 220, 90, 116, 26, 1, 1]], 0), (.str [108, 111, 103], .agg [T, .str [0, 0, 0, 3, 151, 0, 43, 230, 1, 1, 0], T, .str [0, 0, 0, 3, 151, 0, 43, 230, 1, 1, 0]], 1)] 2),
  (22, cv [i 1, i 1, .str []] 139 4 3),
  (23, c [i 1] 3),
  (24, c [i 1] 3),
  (25, c [p 20 0] 119),
  (26, c [i 3, i 50000, i 6, i 2000, i 1, i 2, i 0, i 50, i 300, su 27 0 3 3 0, p 43 0, sk 52 0 6 6] 126),
  (27, cv [p 28 0, p 33 0, p 38 0] 127 3 1),
  (28, c [p 29 0, p 31 0, i 0] 161),
  (29, c [i 50000, i 0, F, i 0, m 30] 168),
  (30, mp [] 0),
  (31, c [p 29 0, i 2000, m 32, i 1, i 0, F] 290),
  (32, mp [] 0),
  (33, c [p 34 0, p 36 0, i 0] 161),
  (34, c [i 50000, i 0, F, i 0, m 35] 168),
  (35, mp [] 0),
  (36, c [p 34 0, i 2000, m 37, i 1, i 0, F] 290),
  (37, mp [] 0),
  (38, c [p 39 0, p 41 0, i 0] 161),
  (39, c [i 50000, i 0, F, i 0, m 40] 168),
  (40, mp [] 0),
  (41, c [p 39 0, i 2000, m 42, i 1, i 0, F] 290),
  (42, mp [] 0),
  (43, c [su 44 0 6 2 0, su 51 0 1 1 0, i 0, i 0] 201),
  (44, cv [p 45 0, p 46 0, p 47 0, p 48 0, p 49 0, p 50 0] 130 2 1),
  (45, c [i 2000, i 0, F, i 0, .str [86, 48, 46, 48], ns, i 0, i 0, i 1, F] 173),
  (46, c [i 2000, i 0, F, i 0, .str [86, 49, 46, 48], ns, i 0, i 0, i 1, F] 173),
  (47, c [i 2000, i 0, F, i 0, .str [86, 50, 46, 48], ns, i 0, i 0, i 1, F] 173),
  (48, c [i 2000, i 0, F, i 0, .str [86, 51, 46, 48], ns, i 0, i 0, i 1, F] 173),
  (49, c [i 2000, i 0, F, i 0, .str [86, 52, 46, 48], ns, i 0, i 0, i 1, F] 173),
  (50, c [i 2000, i 0, F, i 0, .str [86, 53, 46, 48], ns, i 0, i 0, i 1, F] 173),
  (51, cv [i (-1), i 0, i 0, F] 203 1 4),
  (52, c [i 0, i 0, i 0, i 0, i 0, i 0] 3),
  (53, c [p 19 0, p 54 0, i 0] 109),
  (54, c [p 55 0, m 58, i 1] 90),
  (55, c [m 56, m 57, F, F, i 0, F, F, i 0, F, F, i 0, F, F, i 0, F, F, i 0, F, F, i 0, F, F, i 0, F, F, i 0, F, F, i 0, F, F, i 0, F, F, i 0, F, F, i 0] 97),
  (56, mp [] 0),
  (57, mp [] 0),
  (58, mp [] 0),
  (59, mp [] 0)]
  60 5 [(1, 1), (2, 6), (3, 3), (4, 1)]
def S1_8 (ty : Nat → Nat) : AH := mkS ty [(16, c [p 17 0, p 31 0, sk 58 0 2 2, m 69, i 3] 50),
  (17, c [sk 18 0 2 2, sk 29 0 2 2, su 30 0 2 4 0] 118),
  (18, c [p 19 0, p 25 0] 71),
  (19, c [p 20 0, i 0, i 2, i 1, i 1, i 0, i 0, .str [], su 22 0 1 6 0, i 2, i 0, i 1, i 1, i 1, ns, sk 23 0 2 2, sk 24 0 2 2, ns, i 0] 153),
  (20, c [i 4194304, i 21, F, i 0, m 21] 168),
  (21, mp [(.str [116, 101, 114, 109], .agg [T, .str [0, 0, 0, 2, 220, 90, 116, 26, 1, 1], T, .str [0, 0, 0, 2, 220, 90, 116, 26, 1, 1]], 0), (.str [108, 111, 103], .agg [T, .str [0, 0, 0, 3, 151, 0, 43, 230, 1, 1, 0], T, .str [0, 0, 0, 3, 151, 0, 43, 230, 1, 1, 0]], 1)] 2),
  (22, cv [i 1, i 1, .str []] 139 6 3),
  (23, c [i 1, i 1] 3),
  (24, c [i 1, i 2] 3),
  (25, c [p 26 0, i 1, i 2, i 1, i 1, i 0, i 0, .str [], su 28 0 1 5 0, i 0, i 0, i 0, i 0, i 1, ns, ns, ns, ns, i 0] 153),
  (26, c [i 4194304, i 21, F, i 0, m 27] 168),
  (27, mp [(.str [116, 101, 114, 109], .agg [T, .str [0, 0, 0, 2, 220, 90, 116, 26, 1, 1], T, .str [0, 0, 0, 2, 220, 90, 116, 26, 1, 1]], 0), (.str [108, 111, 103], .agg [T, .str [0, 0, 0, 3, 151, 0, 43, 230, 1, 1, 0], T, .str [0, 0, 0, 3, 151, 0, 43, 230, 1, 1, 0]], 1)] 2),
  (28, cv [i 1, i 1, .str []] 139 5 3),
  (29, c [p 20 0, p 26 0] 119),
  (30, cv [i 4, i 1, i 0, i 1, i 1, i 0, i 0, T, ns, .str [], i 3, i 0, i 1, i 1, i 1, i 1, i 1, F, ns, .str [], i 0, i 0, i 0, i 0, i 0, i 0, i 0, F, ns, .str []] 226 4 10),
  (31, c [i 3, i 50000, i 6, i 2000, i 1, i 2, i 0, i 50, i 300, su 32 0 3 3 0, p 48 0, sk 57 0 6 6] 126),
  (32, cv [p 33 0, p 38 0, p 43 0] 127 3 1),
  (33, c [p 34 0, p 36 0, i 0] 161),
  (34, c [i 50000, i 0, F, i 0, m 35] 168),
  (35, mp [] 0),
  (36, c [p 34 0, i 2000, m 37, i 1, i 0, F] 290),
  (37, mp [] 0),
  (38, c [p 39 0, p 41 0, i 0] 161),
  (39, c [i 50000, i 0, F, i 0, m 40] 168),
  (40, mp [] 0),
  (41, c [p 39 0, i 2000, m 42, i 1, i 0, F] 290),
  (42, mp [] 0),
  (43, c [p 44 0, p 46 0, i 0] 161),
  (44, c [i 50000, i 0, F, i 0, m 45] 168),
  (45, mp [] 0),
  (46, c [p 44 0, i 2000, m 47, i 1, i 0, F] 290),
  (47, mp [] 0),
  (48, c [su 49 0 6 2 0, su 56 0 1 1 0, i 0, i 0] 201),
  (49, cv [p 50 0, p 51 0, p 52 0, p 53 0, p 54 0, p 55 0] 130 2 1),
  (50, c [i 2000, i 0, F, i 0, .str [86, 48, 46, 48], ns, i 0, i 0, i 1, F] 173),
  (51, c [i 2000, i 0, F, i 0, .str [86, 49, 46, 48], ns, i 0, i 0, i 1, F] 173),
  (52, c [i 2000, i 0, F, i 0, .str [86, 50, 46, 48], ns, i 0, i 0, i 1, F] 173),
  (53, c [i 2000, i 0, F, i 0, .str [86, 51, 46, 48], ns, i 0, i 0, i 1, F] 173),
  (54, c [i 2000, i 0, F, i 0, .str [86, 52, 46, 48], ns, i 0, i 0, i 1, F] 173),
  (55, c [i 2000, i 0, F, i 0, .str [86, 53, 46, 48], ns, i 0, i 0, i 1, F] 173),
  (56, cv [i (-1), i 0, i 0, F] 203 1 4),
  (57, c [i 0, i 0, i 0, i 0, i 0, i 0] 3),
  (58, c [p 19 0, p 59 0, i 0, p 25 0, p 64 0, i 0] 109),
  (59, c [p 60 0, m 63, i 1] 90),
  (60, c [m 61, m 62, F, F, i 0, F, F, i 0, F, F, i 0, F, F, i 0, F, F, i 0, F, F, i 0, F, F, i 0, F, F, i 0, F, F, i 0, F, F, i 0, F, F, i 0, F, F, i 0] 97),
  (61, mp [] 0),
  (62, mp [] 0),
  (63, mp [] 0),
  (64, c [p 65 0, m 68, i 0] 90),
  (65, c [m 66, m 67, F, F, i 0, F, F, i 0, F, F, i 0, F, F, i 0, F, F, i 0, F, F, i 0, F, F, i 0, F, F, i 0, F, F, i 0, F, F, i 0, F, F, i 0, F, F, i 0] 97),
  (66, mp [] 0),
  (67, mp [] 0),
  (68, mp [] 0),
  (69, mp [] 0)]
  70 7 [(1, 1), (2, 6), (3, 3), (4, 3), (5, 1), (6, 1)]
def S1_12 (ty : Nat → Nat) : AH := mkS ty [(16, c [p 17 0, p 31 0, sk 58 0 2 2, m 69, i 3] 50),
  (17, c [sk 18 0 2 2, sk 29 0 2 2, su 30 0 2 4 0] 118),
  (18, c [p 19 0, p 25 0] 71),
  (19, c [p 20 0, i 0, i 2, i 1, i 1, i 0, i 0, .str [], su 22 0 1 6 0, i 2, i 0, i 1, i 1, i 1, ns, sk 23 0 2 2, sk 24 0 2 2, ns, i 0] 153),
  (20, c [i 4194304, i 21, F, i 0, m 21] 168),
  (21, mp [(.str [116, 101, 114, 109], .agg [T, .str [0, 0, 0, 2, 220, 90, 116, 26, 1, 1], T, .str [0, 0, 0, 2, 220, 90, 116, 26, 1, 1]], 0), (.str [108, 111, 103], .agg [T, .str [0, 0, 0, 3, 151, 0, 43, 230, 1, 1, 0], T, .str [0, 0, 0, 3, 151, 0, 43, 230, 1, 1, 0]], 1)] 2),
  (22, cv [i 1, i 1, .str []] 139 6 3),
  (23, c [i 1, i 1] 3),
  (24, c [i 1, i 2] 3),
  (25, c [p 26 0, i 1, i 2, i 1, i 1, i 0, i 0, .str [], su 28 0 1 5 0, i 0, i 0, i 1, i 1, i 1, ns, ns, ns, ns, i 0] 153),
  (26, c [i 4194304, i 21, F, i 0, m 27] 168),
  (27, mp [(.str [116, 101, 114, 109], .agg [T, .str [0, 0, 0, 2, 220, 90, 116, 26, 1, 1], T, .str [0, 0, 0, 2, 220, 90, 116, 26, 1, 1]], 0), (.str [108, 111, 103], .agg [T, .str [0, 0, 0, 3, 151, 0, 43, 230, 1, 1, 0], T, .str [0, 0, 0, 3, 151, 0, 43, 230, 1, 1, 0]], 1)] 2),
  (28, cv [i 1, i 1, .str []] 139 5 3),
  (29, c [p 20 0, p 26 0] 119),
  (30, cv [i 4, i 1, i 0, i 1, i 1, i 0, i 0, T, ns, .str [], i 3, i 0, i 1, i 1, i 1, i 1, i 1, F, ns, .str [], i 0, i 0, i 0, i 0, i 0, i 0, i 0, F, ns, .str []] 226 4 10),
  (31, c [i 3, i 50000, i 6, i 2000, i 1, i 2, i 0, i 50, i 300, su 32 0 3 3 0, p 48 0, sk 57 0 6 6] 126),
  (32, cv [p 33 0, p 38 0, p 43 0] 127 3 1),
  (33, c [p 34 0, p 36 0, i 0] 161),
  (34, c [i 50000, i 0, F, i 0, m 35] 168),
  (35, mp [] 0),
  (36, c [p 34 0, i 2000, m 37, i 1, i 0, F] 290),
  (37, mp [] 0),
  (38, c [p 39 0, p 41 0, i 0] 161),
  (39, c [i 50000, i 0, F, i 0, m 40] 168),
  (40, mp [] 0),
  (41, c [p 39 0, i 2000, m 42, i 1, i 0, F] 290),
  (42, mp [] 0),
  (43, c [p 44 0, p 46 0, i 0] 161),
  (44, c [i 50000, i 0, F, i 0, m 45] 168),
  (45, mp [] 0),
  (46, c [p 44 0, i 2000, m 47, i 1, i 0, F] 290),
  (47, mp [] 0),
  (48, c [su 49 0 6 2 0, su 56 0 1 1 0, i 0, i 0] 201),
  (49, cv [p 50 0, p 51 0, p 52 0, p 53 0, p 54 0, p 55 0] 130 2 1),
  (50, c [i 2000, i 0, F, i 0, .str [86, 48, 46, 48], ns, i 0, i 0, i 1, F] 173),
  (51, c [i 2000, i 0, F, i 0, .str [86, 49, 46, 48], ns, i 0, i 0, i 1, F] 173),
  (52, c [i 2000, i 0, F, i 0, .str [86, 50, 46, 48], ns, i 0, i 0, i 1, F] 173),
  (53, c [i 2000, i 0, F, i 0, .str [86, 51, 46, 48], ns, i 0, i 0, i 1, F] 173),
  (54, c [i 2000, i 0, F, i 0, .str [86, 52, 46, 48], ns, i 0, i 0, i 1, F] 173),
  (55, c [i 2000, i 0, F, i 0, .str [86, 53, 46, 48], ns, i 0, i 0, i 1, F] 173),
  (56, cv [i (-1), i 0, i 0, F] 203 1 4),
  (57, c [i 0, i 0, i 0, i 0, i 0, i 0] 3),
  (58, c [p 19 0, p 59 0, i 0, p 25 0, p 64 0, i 0] 109),
  (59, c [p 60 0, m 63, i 1] 90),
  (60, c [m 61, m 62, F, F, i 0, F, F, i 0, F, F, i 0, F, F, i 0, F, F, i 0, F, F, i 0, F, F, i 0, F, F, i 0, F, F, i 0, F, F, i 0, F, F, i 0, F, F, i 0] 97),
  (61, mp [] 0),
  (62, mp [] 0),
  (63, mp [] 0),
  (64, c [p 65 0, m 68, i 1] 90),
  (65, c [m 66, m 67, F, F, i 0, F, F, i 0, F, F, i 0, F, F, i 0, F, F, i 0, F, F, i 0, F, F, i 0, F, F, i 0, F, F, i 0, F, F, i 0, F, F, i 0, F, F, i 0] 97),
  (66, mp [] 0),
  (67, mp [] 0),
  (68, mp [] 0),
  (69, mp [] 0)]
  70 7 [(1, 1), (2, 6), (3, 3), (4, 3), (5, 1), (6, 1)]
def S2_8 (ty : Nat → Nat) : AH := mkS ty [(16, c [p 17 0, p 35 0, sk 62 0 3 3, m 78, i 3] 50),
  (17, c [sk 18 0 3 3, sk 33 0 3 3, su 34 0 4 4 0] 118),
  (18, c [p 19 0, p 25 0, p 29 0] 71),
  (19, c [p 20 0, i 0, i 3, i 1, i 1, i 0, i 0, .str [], su 22 0 1 7 0, i 2, i 0, i 1, i 1, i 1, ns, sk 23 0 3 3, sk 24 0 3 3, ns, i 0] 153),
  (20, c [i 4194304, i 21, F, i 0, m 21] 168),
  (21, mp [(.str [116, 101, 114, 109], .agg [T, .str [0, 0, 0, 2, 220, 90, 116, 26, 1, 1], T, .str [0, 0, 0, 2, 220, 90, 116, 26, 1, 1]], 0), (.str [108, 111, 103], .agg [T, .str [0, 0, 0, 3, 151, 0, 43, 230, 1, 1, 0], T, .str [0, 0, 0, 3, 151, 0, 43, 230, 1, 1, 0]], 1)] 2),
  (22, cv [i 1, i 1, .str []] 139 7 3),
  (23, c [i 1, i 1, i 1] 3),
  (24, c [i 1, i 2, i 2] 3),
  (25, c [p 26 0, i 1, i 3, i 1, i 1, i 0, i 0, .str [], su 28 0 1 6 0, i 0, i 0, i 0, i 0, i 1, ns, ns, ns, ns, i 0] 153),
  (26, c [i 4194304, i 21, F, i 0, m 27] 168),
  (27, mp [(.str [116, 101, 114, 109], .agg [T, .str [0, 0, 0, 2, 220, 90, 116, 26, 1, 1], T, .str [0, 0, 0, 2, 220, 90, 116, 26, 1, 1]], 0), (.str [108, 111, 103], .agg [T, .str [0, 0, 0, 3, 151, 0, 43, 230, 1, 1, 0], T, .str [0, 0, 0, 3, 151, 0, 43, 230, 1, 1, 0]], 1)] 2),
  (28, cv [i 1, i 1, .str []] 139 6 3),
  (29, c [p 30 0, i 2, i 3, i 1, i 1, i 0, i 0, .str [], su 32 0 1 5 0, i 0, i 0, i 0, i 0, i 1, ns, ns, ns, ns, i 0] 153),
  (30, c [i 4194304, i 21, F, i 0, m 31] 168),
  (31, mp [(.str [116, 101, 114, 109], .agg [T, .str [0, 0, 0, 2, 220, 90, 116, 26, 1, 1], T, .str [0, 0, 0, 2, 220, 90, 116, 26, 1, 1]], 0), (.str [108, 111, 103], .agg [T, .str [0, 0, 0, 3, 151, 0, 43, 230, 1, 1, 0], T, .str [0, 0, 0, 3, 151, 0, 43, 230, 1, 1, 0]], 1)] 2),
  (32, cv [i 1, i 1, .str []] 139 5 3),
  (33, c [p 20 0, p 26 0, p 30 0] 119),
  (34, cv [i 4, i 1, i 0, i 1, i 1, i 0, i 0, T, ns, .str [], i 4, i 2, i 0, i 1, i 1, i 0, i 0, T, ns, .str [], i 3, i 0, i 1, i 1, i 1, i 1, i 1, F, ns, .str [], i 3, i 0, i 2, i 1, i 1, i 1, i 1, F, ns, .str [], i 0, i 0, i 0, i 0, i 0, i 0, i 0, F, ns, .str [], i 0, i 0, i 0, i 0, i 0, i 0, i 0, F, ns, .str []] 226 4 10),
  (35, c [i 3, i 50000, i 6, i 2000, i 1, i 2, i 0, i 50, i 300, su 36 0 3 3 0, p 52 0, sk 61 0 6 6] 126),
  (36, cv [p 37 0, p 42 0, p 47 0] 127 3 1),
  (37, c [p 38 0, p 40 0, i 0] 161),
  (38, c [i 50000, i 0, F, i 0, m 39] 168),
  (39, mp [] 0),
  (40, c [p 38 0, i 2000, m 41, i 1, i 0, F] 290),
  (41, mp [] 0),
  (42, c [p 43 0, p 45 0, i 0] 161),
  (43, c [i 50000, i 0, F, i 0, m 44] 168),
  (44, mp [] 0),
  (45, c [p 43 0, i 2000, m 46, i 1, i 0, F] 290),
  (46, mp [] 0),
  (47, c [p 48 0, p 50 0, i 0] 161),
  (48, c [i 50000, i 0, F, i 0, m 49] 168),
  (49, mp [] 0),
  (50, c [p 48 0, i 2000, m 51, i 1, i 0, F] 290),
  (51, mp [] 0),
  (52, c [su 53 0 6 2 0, su 60 0 1 1 0, i 0, i 0] 201),
  (53, cv [p 54 0, p 55 0, p 56 0, p 57 0, p 58 0, p 59 0] 130 2 1),
  (54, c [i 2000, i 0, F, i 0, .str [86, 48, 46, 48], ns, i 0, i 0, i 1, F] 173),
  (55, c [i 2000, i 0, F, i 0, .str [86, 49, 46, 48], ns, i 0, i 0, i 1, F] 173),
  (56, c [i 2000, i 0, F, i 0, .str [86, 50, 46, 48], ns, i 0, i 0, i 1, F] 173),
  (57, c [i 2000, i 0, F, i 0, .str [86, 51, 46, 48], ns, i 0, i 0, i 1, F] 173),
  (58, c [i 2000, i 0, F, i 0, .str [86, 52, 46, 48], ns, i 0, i 0, i 1, F] 173),
  (59, c [i 2000, i 0, F, i 0, .str [86, 53, 46, 48], ns, i 0, i 0, i 1, F] 173),
  (60, cv [i (-1), i 0, i 0, F] 203 1 4),
  (61, c [i 0, i 0, i 0, i 0, i 0, i 0] 3),
  (62, c [p 19 0, p 63 0, i 0, p 25 0, p 68 0, i 0, p 29 0, p 73 0, i 0] 109),
  (63, c [p 64 0, m 67, i 1] 90),
  (64, c [m 65, m 66, F, F, i 0, F, F, i 0, F, F, i 0, F, F, i 0, F, F, i 0, F, F, i 0, F, F, i 0, F, F, i 0, F, F, i 0, F, F, i 0, F, F, i 0, F, F, i 0] 97),
  (65, mp [] 0),
  (66, mp [] 0),
  (67, mp [] 0),
  (68, c [p 69 0, m 72, i 0] 90),
  (69, c [m 70, m 71, F, F, i 0, F, F, i 0, F, F, i 0, F, F, i 0, F, F, i 0, F, F, i 0, F, F, i 0, F, F, i 0, F, F, i 0, F, F, i 0, F, F, i 0, F, F, i 0] 97),
  (70, mp [] 0),
  (71, mp [] 0),
  (72, mp [] 0),
  (73, c [p 74 0, m 77, i 0] 90),
  (74, c [m 75, m 76, F, F, i 0, F, F, i 0, F, F, i 0, F, F, i 0, F, F, i 0, F, F, i 0, F, F, i 0, F, F, i 0, F, F, i 0, F, F, i 0, F, F, i 0, F, F, i 0] 97),
  (75, mp [] 0),
  (76, mp [] 0),
  (77, mp [] 0),
  (78, mp [] 0)]
  79 8 [(1, 1), (2, 6), (3, 3), (4, 6), (5, 1), (6, 1), (7, 1)]
def S2_12 (ty : Nat → Nat) : AH := mkS ty [(16, c [p 17 0, p 35 0, sk 62 0 3 3, m 78, i 3] 50),
  (17, c [sk 18 0 3 3, sk 33 0 3 3, su 34 0 4 4 0] 118),
  (18, c [p 19 0, p 25 0, p 29 0] 71),
  (19, c [p 20 0, i 0, i 3, i 1, i 1, i 0, i 0, .str [], su 22 0 1 7 0, i 2, i 0, i 1, i 1, i 1, ns, sk 23 0 3 3, sk 24 0 3 3, ns, i 0] 153),
  (20, c [i 4194304, i 21, F, i 0, m 21] 168),
  (21, mp [(.str [116, 101, 114, 109], .agg [T, .str [0, 0, 0, 2, 220, 90, 116, 26, 1, 1], T, .str [0, 0, 0, 2, 220, 90, 116, 26, 1, 1]], 0), (.str [108, 111, 103], .agg [T, .str [0, 0, 0, 3, 151, 0, 43, 230, 1, 1, 0], T, .str [0, 0, 0, 3, 151, 0, 43, 230, 1, 1, 0]], 1)] 2),
  (22, cv [i 1, i 1, .str []] 139 7 3),
  (23, c [i 1, i 1, i 1] 3),
  (24, c [i 1, i 2, i 2] 3),
  (25, c [p 26 0, i 1, i 3, i 1, i 1, i 0, i 0, .str [], su 28 0 1 6 0, i 0, i 0, i 1, i 1, i 1, ns, ns, ns, ns, i 0] 153),
  (26, c [i 4194304, i 21, F, i 0, m 27] 168),
  (27, mp [(.str [116, 101, 114, 109], .agg [T, .str [0, 0, 0, 2, 220, 90, 116, 26, 1, 1], T, .str [0, 0, 0, 2, 220, 90, 116, 26, 1, 1]], 0), (.str [108, 111, 103], .agg [T, .str [0, 0, 0, 3, 151, 0, 43, 230, 1, 1, 0], T, .str [0, 0, 0, 3, 151, 0, 43, 230, 1, 1, 0]], 1)] 2),
  (28, cv [i 1, i 1, .str []] 139 6 3),
  (29, c [p 30 0, i 2, i 3, i 1, i 1, i 0, i 0, .str [], su 32 0 1 5 0, i 0, i 0, i 1, i 1, i 1, ns, ns, ns, ns, i 0] 153),
  (30, c [i 4194304, i 21, F, i 0, m 31] 168),
  (31, mp [(.str [116, 101, 114, 109], .agg [T, .str [0, 0, 0, 2, 220, 90, 116, 26, 1, 1], T, .str [0, 0, 0, 2, 220, 90, 116, 26, 1, 1]], 0), (.str [108, 111, 103], .agg [T, .str [0, 0, 0, 3, 151, 0, 43, 230, 1, 1, 0], T, .str [0, 0, 0, 3, 151, 0, 43, 230, 1, 1, 0]], 1)] 2),
  (32, cv [i 1, i 1, .str []] 139 5 3),
  (33, c [p 20 0, p 26 0, p 30 0] 119),
  (34, cv [i 4, i 1, i 0, i 1, i 1, i 0, i 0, T, ns, .str [], i 4, i 2, i 0, i 1, i 1, i 0, i 0, T, ns, .str [], i 3, i 0, i 1, i 1, i 1, i 1, i 1, F, ns, .str [], i 3, i 0, i 2, i 1, i 1, i 1, i 1, F, ns, .str [], i 0, i 0, i 0, i 0, i 0, i 0, i 0, F, ns, .str [], i 0, i 0, i 0, i 0, i 0, i 0, i 0, F, ns, .str []] 226 4 10),
  (35, c [i 3, i 50000, i 6, i 2000, i 1, i 2, i 0, i 50, i 300, su 36 0 3 3 0, p 52 0, sk 61 0 6 6] 126),
  (36, cv [p 37 0, p 42 0, p 47 0] 127 3 1),
  (37, c [p 38 0, p 40 0, i 0] 161),
  (38, c [i 50000, i 0, F, i 0, m 39] 168),
  (39, mp [] 0),
  (40, c [p 38 0, i 2000, m 41, i 1, i 0, F] 290),
  (41, mp [] 0),
  (42, c [p 43 0, p 45 0, i 0] 161),
  (43, c [i 50000, i 0, F, i 0, m 44] 168),
  (44, mp [] 0),
  (45, c [p 43 0, i 2000, m 46, i 1, i 0, F] 290),
  (46, mp [] 0),
  (47, c [p 48 0, p 50 0, i 0] 161),
  (48, c [i 50000, i 0, F, i 0, m 49] 168),
  (49, mp [] 0),
  (50, c [p 48 0, i 2000, m 51, i 1, i 0, F] 290),
  (51, mp [] 0),
  (52, c [su 53 0 6 2 0, su 60 0 1 1 0, i 0, i 0] 201),
  (53, cv [p 54 0, p 55 0, p 56 0, p 57 0, p 58 0, p 59 0] 130 2 1),
  (54, c [i 2000, i 0, F, i 0, .str [86, 48, 46, 48], ns, i 0, i 0, i 1, F] 173),
  (55, c [i 2000, i 0, F, i 0, .str [86, 49, 46, 48], ns, i 0, i 0, i 1, F] 173),
  (56, c [i 2000, i 0, F, i 0, .str [86, 50, 46, 48], ns, i 0, i 0, i 1, F] 173),
  (57, c [i 2000, i 0, F, i 0, .str [86, 51, 46, 48], ns, i 0, i 0, i 1, F] 173),
  (58, c [i 2000, i 0, F, i 0, .str [86, 52, 46, 48], ns, i 0, i 0, i 1, F] 173),
  (59, c [i 2000, i 0, F, i 0, .str [86, 53, 46, 48], ns, i 0, i 0, i 1, F] 173),
  (60, cv [i (-1), i 0, i 0, F] 203 1 4),
  (61, c [i 0, i 0, i 0, i 0, i 0, i 0] 3),
  (62, c [p 19 0, p 63 0, i 0, p 25 0, p 68 0, i 0, p 29 0, p 73 0, i 0] 109),
  (63, c [p 64 0, m 67, i 1] 90),
  (64, c [m 65, m 66, F, F, i 0, F, F, i 0, F, F, i 0, F, F, i 0, F, F, i 0, F, F, i 0, F, F, i 0, F, F, i 0, F, F, i 0, F, F, i 0, F, F, i 0, F, F, i 0] 97),
  (65, mp [] 0),
  (66, mp [] 0),
  (67, mp [] 0),
  (68, c [p 69 0, m 72, i 1] 90),
  (69, c [m 70, m 71, F, F, i 0, F, F, i 0, F, F, i 0, F, F, i 0, F, F, i 0, F, F, i 0, F, F, i 0, F, F, i 0, F, F, i 0, F, F, i 0, F, F, i 0, F, F, i 0] 97),
  (70, mp [] 0),
  (71, mp [] 0),
  (72, mp [] 0),
  (73, c [p 74 0, m 77, i 1] 90),
  (74, c [m 75, m 76, F, F, i 0, F, F, i 0, F, F, i 0, F, F, i 0, F, F, i 0, F, F, i 0, F, F, i 0, F, F, i 0, F, F, i 0, F, F, i 0, F, F, i 0, F, F, i 0] 97),
  (75, mp [] 0),
  (76, mp [] 0),
  (77, mp [] 0),
  (78, mp [] 0)]
  79 8 [(1, 1), (2, 6), (3, 3), (4, 6), (5, 1), (6, 1), (7, 1)]
end Go.Proofs.YtmfimllokjhgmaaGreatDoor.Av
end
