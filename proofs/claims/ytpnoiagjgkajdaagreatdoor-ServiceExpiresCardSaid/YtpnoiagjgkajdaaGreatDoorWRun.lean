/- ServiceExpires' runs, as the evaluator makes them: a cluster of one to three nodes that is healed; commands that are proposed to it. -/
import Derived.Test.YtpnoiagjgkajdaaGreatDoorWFr
import Derived.Test.YtpnoiagjgkajdaaGreatDoorWAwk
import Derived.Below
set_option linter.unusedVariables false
noncomputable section
namespace Go.Proofs.YtpnoiagjgkajdaaGreatDoor.Av
open Go Go.RowKit
def i (n : Int) : AV := .int .i64 n
def F : AV := .bool false
def p (l o : Nat) : AV := .ptr (some (l, o))
def np : AV := .ptr none
def ns : AV := .sl none 0 (.k 0)
def sk (l o n c : Nat) : AV := .sl (some (l, o)) n (.k c)
def su (l o n c m : Nat) : AV := .sl (some (l, o)) n (.u c m)
def m (l : Nat) : AV := .map (some l)
def c (cs : List AV) (t : Nat) : AO := .cells cs t false none
def cv (cs : List AV) (t q s : Nat) : AO := .cells cs t false (some (q, s))
def mp (es : List (AV × AV × Nat)) (n : Nat) : AO := .map es n
def puts {α : Type} : List (Nat × α) → Tr α → Tr α
  | [], t => t
  | x :: l, t => puts l (t.put x.1 (some x.2))
def mkS (ty : Nat → Nat) (l : List (Nat × AO)) (nx cn : Nat) (lb : List (Nat × Nat)) : AH := .mk (puts l (h0 ty)) nx cn (puts lb .nil)
def run (k : Int) (f : Nat) (args : List AV) (σ : AH) : RV := evF (told k) tt ft 3000 f args σ
def anew (c : AV) (σ : AH) : Option (AH × AV) := opt none (renew [c] σ) fun r => opt none (nth r.2 0) fun c => some (r.1, c)
/-- The cluster, its Net, where labels are laid anew. -/
def cl : AV := p 16 0
def net : AV := p 17 0
/-- Healed: 1. -/
def S1 (ty : Nat → Nat) : AH := mkS ty [(16, c [p 17 0, p 26 0, sk 53 0 1 1, m 59, i 0] 103),
  (17, c [sk 18 0 1 1, sk 25 0 1 1, ns] 183),
  (18, c [p 19 0] 186),
  (19, c [p 20 0, i 0, i 1, i 1, i 1, i 0, i 0, .str [], su 22 0 1 4 0, i 2, i 0, i 1, i 1, i 0, ns, sk 23 0 1 1, sk 24 0 1 1, ns, i 0] 241),
  (20, c [i 4194304, i 21, F, i 0, m 21] 150),
  (21, mp [(.str [116, 101, 114, 109], .agg [T, .str [0, 0, 0, 2, 220, 90, 116, 26, 1, 1], T, .str [0, 0, 0, 2, 220, 90, 116, 26, 1, 1]], 0), (.str [108, 111, 103], .agg [T, .str [0, 0, 0, 3, 151, 0, 43, 230, 1, 1, 0], T, .str [0, 0, 0, 3, 151, 0, 43, 230, 1, 1, 0]], 1)] 2),
  (22, cv [i 1, i 1, .str []] 194 4 3),
  (23, c [i 1] 3),
  (24, c [i 1] 3),
  (25, c [p 20 0] 142),
  (26, c [i 3, i 50000, i 6, i 900, i 1, i 2, i 0, i 50, i 300, su 27 0 3 3 0, p 43 0, sk 52 0 6 6] 135),
  (27, cv [p 28 0, p 33 0, p 38 0] 151 3 1),
  (28, c [p 29 0, p 31 0, i 0] 155),
  (29, c [i 50000, i 0, F, i 0, m 30] 150),
  (30, mp [] 0),
  (31, c [p 29 0, i 2000, m 32, i 1, i 0, F] 277),
  (32, mp [] 0),
  (33, c [p 34 0, p 36 0, i 0] 155),
  (34, c [i 50000, i 0, F, i 0, m 35] 150),
  (35, mp [] 0),
  (36, c [p 34 0, i 2000, m 37, i 1, i 0, F] 277),
  (37, mp [] 0),
  (38, c [p 39 0, p 41 0, i 0] 155),
  (39, c [i 50000, i 0, F, i 0, m 40] 150),
  (40, mp [] 0),
  (41, c [p 39 0, i 2000, m 42, i 1, i 0, F] 277),
  (42, mp [] 0),
  (43, c [su 44 0 6 2 0, su 51 0 1 1 0, i 0, i 0] 139),
  (44, cv [p 45 0, p 46 0, p 47 0, p 48 0, p 49 0, p 50 0] 213 2 1),
  (45, c [i 900, i 0, F, i 0, .str [86, 48, 46, 48], ns, i 0, i 0, i 1, F] 217),
  (46, c [i 900, i 0, F, i 0, .str [86, 49, 46, 48], ns, i 0, i 0, i 1, F] 217),
  (47, c [i 900, i 0, F, i 0, .str [86, 50, 46, 48], ns, i 0, i 0, i 1, F] 217),
  (48, c [i 900, i 0, F, i 0, .str [86, 51, 46, 48], ns, i 0, i 0, i 1, F] 217),
  (49, c [i 900, i 0, F, i 0, .str [86, 52, 46, 48], ns, i 0, i 0, i 1, F] 217),
  (50, c [i 900, i 0, F, i 0, .str [86, 53, 46, 48], ns, i 0, i 0, i 1, F] 217),
  (51, cv [i (-1), i 0, i 0, F] 141 1 4),
  (52, c [i 0, i 0, i 0, i 0, i 0, i 0] 3),
  (53, c [p 19 0, p 54 0, i 0] 188),
  (54, c [p 55 0, m 58, i 1] 114),
  (55, c [m 56, m 57, F, F, i 0, F, F, i 0, F, F, i 0, F, F, i 0, F, F, i 0, F, F, i 0, F, F, i 0, F, F, i 0, F, F, i 0, F, F, i 0, F, F, i 0, F, F, i 0] 121),
  (56, mp [] 0),
  (57, mp [] 0),
  (58, mp [] 0),
  (59, mp [] 0)]
  60 5 [(1, 1), (2, 6), (3, 3), (4, 1)]
/-- Healed: 2. -/
def S2 (ty : Nat → Nat) : AH := mkS ty [(16, c [p 17 0, p 31 0, sk 58 0 2 2, m 69, i 0] 103),
  (17, c [sk 18 0 2 2, sk 29 0 2 2, su 30 0 2 4 0] 183),
  (18, c [p 19 0, p 25 0] 186),
  (19, c [p 20 0, i 0, i 2, i 1, i 1, i 0, i 0, .str [], su 22 0 1 6 0, i 2, i 0, i 1, i 1, i 1, ns, sk 23 0 2 2, sk 24 0 2 2, ns, i 0] 241),
  (20, c [i 4194304, i 21, F, i 0, m 21] 150),
  (21, mp [(.str [116, 101, 114, 109], .agg [T, .str [0, 0, 0, 2, 220, 90, 116, 26, 1, 1], T, .str [0, 0, 0, 2, 220, 90, 116, 26, 1, 1]], 0), (.str [108, 111, 103], .agg [T, .str [0, 0, 0, 3, 151, 0, 43, 230, 1, 1, 0], T, .str [0, 0, 0, 3, 151, 0, 43, 230, 1, 1, 0]], 1)] 2),
  (22, cv [i 1, i 1, .str []] 194 6 3),
  (23, c [i 1, i 1] 3),
  (24, c [i 1, i 2] 3),
  (25, c [p 26 0, i 1, i 2, i 1, i 1, i 0, i 0, .str [], su 28 0 1 5 0, i 0, i 0, i 1, i 1, i 1, ns, ns, ns, ns, i 0] 241),
  (26, c [i 4194304, i 21, F, i 0, m 27] 150),
  (27, mp [(.str [116, 101, 114, 109], .agg [T, .str [0, 0, 0, 2, 220, 90, 116, 26, 1, 1], T, .str [0, 0, 0, 2, 220, 90, 116, 26, 1, 1]], 0), (.str [108, 111, 103], .agg [T, .str [0, 0, 0, 3, 151, 0, 43, 230, 1, 1, 0], T, .str [0, 0, 0, 3, 151, 0, 43, 230, 1, 1, 0]], 1)] 2),
  (28, cv [i 1, i 1, .str []] 194 5 3),
  (29, c [p 20 0, p 26 0] 142),
  (30, cv [i 4, i 1, i 0, i 1, i 1, i 0, i 0, T, ns, .str [], i 3, i 0, i 1, i 1, i 1, i 1, i 1, F, ns, .str [], i 0, i 0, i 0, i 0, i 0, i 0, i 0, F, ns, .str []] 235 4 10),
  (31, c [i 3, i 50000, i 6, i 900, i 1, i 2, i 0, i 50, i 300, su 32 0 3 3 0, p 48 0, sk 57 0 6 6] 135),
  (32, cv [p 33 0, p 38 0, p 43 0] 151 3 1),
  (33, c [p 34 0, p 36 0, i 0] 155),
  (34, c [i 50000, i 0, F, i 0, m 35] 150),
  (35, mp [] 0),
  (36, c [p 34 0, i 2000, m 37, i 1, i 0, F] 277),
  (37, mp [] 0),
  (38, c [p 39 0, p 41 0, i 0] 155),
  (39, c [i 50000, i 0, F, i 0, m 40] 150),
  (40, mp [] 0),
  (41, c [p 39 0, i 2000, m 42, i 1, i 0, F] 277),
  (42, mp [] 0),
  (43, c [p 44 0, p 46 0, i 0] 155),
  (44, c [i 50000, i 0, F, i 0, m 45] 150),
  (45, mp [] 0),
  (46, c [p 44 0, i 2000, m 47, i 1, i 0, F] 277),
  (47, mp [] 0),
  (48, c [su 49 0 6 2 0, su 56 0 1 1 0, i 0, i 0] 139),
  (49, cv [p 50 0, p 51 0, p 52 0, p 53 0, p 54 0, p 55 0] 213 2 1),
  (50, c [i 900, i 0, F, i 0, .str [86, 48, 46, 48], ns, i 0, i 0, i 1, F] 217),
  (51, c [i 900, i 0, F, i 0, .str [86, 49, 46, 48], ns, i 0, i 0, i 1, F] 217),
  (52, c [i 900, i 0, F, i 0, .str [86, 50, 46, 48], ns, i 0, i 0, i 1, F] 217),
  (53, c [i 900, i 0, F, i 0, .str [86, 51, 46, 48], ns, i 0, i 0, i 1, F] 217),
  (54, c [i 900, i 0, F, i 0, .str [86, 52, 46, 48], ns, i 0, i 0, i 1, F] 217),
  (55, c [i 900, i 0, F, i 0, .str [86, 53, 46, 48], ns, i 0, i 0, i 1, F] 217),
  (56, cv [i (-1), i 0, i 0, F] 141 1 4),
  (57, c [i 0, i 0, i 0, i 0, i 0, i 0] 3),
  (58, c [p 19 0, p 59 0, i 0, p 25 0, p 64 0, i 0] 188),
  (59, c [p 60 0, m 63, i 1] 114),
  (60, c [m 61, m 62, F, F, i 0, F, F, i 0, F, F, i 0, F, F, i 0, F, F, i 0, F, F, i 0, F, F, i 0, F, F, i 0, F, F, i 0, F, F, i 0, F, F, i 0, F, F, i 0] 121),
  (61, mp [] 0),
  (62, mp [] 0),
  (63, mp [] 0),
  (64, c [p 65 0, m 68, i 1] 114),
  (65, c [m 66, m 67, F, F, i 0, F, F, i 0, F, F, i 0, F, F, i 0, F, F, i 0, F, F, i 0, F, F, i 0, F, F, i 0, F, F, i 0, F, F, i 0, F, F, i 0, F, F, i 0] 121),
  (66, mp [] 0),
  (67, mp [] 0),
  (68, mp [] 0),
  (69, mp [] 0)]
  70 7 [(1, 1), (2, 6), (3, 3), (4, 3), (5, 1), (6, 1)]
/-- Healed: 3. -/
def S3 (ty : Nat → Nat) : AH := mkS ty [(16, c [p 17 0, p 35 0, sk 62 0 3 3, m 78, i 0] 103),
  (17, c [sk 18 0 3 3, sk 33 0 3 3, su 34 0 4 4 0] 183),
  (18, c [p 19 0, p 25 0, p 29 0] 186),
  (19, c [p 20 0, i 0, i 3, i 1, i 1, i 0, i 0, .str [], su 22 0 1 7 0, i 2, i 0, i 1, i 1, i 1, ns, sk 23 0 3 3, sk 24 0 3 3, ns, i 0] 241),
  (20, c [i 4194304, i 21, F, i 0, m 21] 150),
  (21, mp [(.str [116, 101, 114, 109], .agg [T, .str [0, 0, 0, 2, 220, 90, 116, 26, 1, 1], T, .str [0, 0, 0, 2, 220, 90, 116, 26, 1, 1]], 0), (.str [108, 111, 103], .agg [T, .str [0, 0, 0, 3, 151, 0, 43, 230, 1, 1, 0], T, .str [0, 0, 0, 3, 151, 0, 43, 230, 1, 1, 0]], 1)] 2),
  (22, cv [i 1, i 1, .str []] 194 7 3),
  (23, c [i 1, i 1, i 1] 3),
  (24, c [i 1, i 2, i 2] 3),
  (25, c [p 26 0, i 1, i 3, i 1, i 1, i 0, i 0, .str [], su 28 0 1 6 0, i 0, i 0, i 1, i 1, i 1, ns, ns, ns, ns, i 0] 241),
  (26, c [i 4194304, i 21, F, i 0, m 27] 150),
  (27, mp [(.str [116, 101, 114, 109], .agg [T, .str [0, 0, 0, 2, 220, 90, 116, 26, 1, 1], T, .str [0, 0, 0, 2, 220, 90, 116, 26, 1, 1]], 0), (.str [108, 111, 103], .agg [T, .str [0, 0, 0, 3, 151, 0, 43, 230, 1, 1, 0], T, .str [0, 0, 0, 3, 151, 0, 43, 230, 1, 1, 0]], 1)] 2),
  (28, cv [i 1, i 1, .str []] 194 6 3),
  (29, c [p 30 0, i 2, i 3, i 1, i 1, i 0, i 0, .str [], su 32 0 1 5 0, i 0, i 0, i 1, i 1, i 1, ns, ns, ns, ns, i 0] 241),
  (30, c [i 4194304, i 21, F, i 0, m 31] 150),
  (31, mp [(.str [116, 101, 114, 109], .agg [T, .str [0, 0, 0, 2, 220, 90, 116, 26, 1, 1], T, .str [0, 0, 0, 2, 220, 90, 116, 26, 1, 1]], 0), (.str [108, 111, 103], .agg [T, .str [0, 0, 0, 3, 151, 0, 43, 230, 1, 1, 0], T, .str [0, 0, 0, 3, 151, 0, 43, 230, 1, 1, 0]], 1)] 2),
  (32, cv [i 1, i 1, .str []] 194 5 3),
  (33, c [p 20 0, p 26 0, p 30 0] 142),
  (34, cv [i 4, i 1, i 0, i 1, i 1, i 0, i 0, T, ns, .str [], i 4, i 2, i 0, i 1, i 1, i 0, i 0, T, ns, .str [], i 3, i 0, i 1, i 1, i 1, i 1, i 1, F, ns, .str [], i 3, i 0, i 2, i 1, i 1, i 1, i 1, F, ns, .str [], i 0, i 0, i 0, i 0, i 0, i 0, i 0, F, ns, .str [], i 0, i 0, i 0, i 0, i 0, i 0, i 0, F, ns, .str []] 235 4 10),
  (35, c [i 3, i 50000, i 6, i 900, i 1, i 2, i 0, i 50, i 300, su 36 0 3 3 0, p 52 0, sk 61 0 6 6] 135),
  (36, cv [p 37 0, p 42 0, p 47 0] 151 3 1),
  (37, c [p 38 0, p 40 0, i 0] 155),
  (38, c [i 50000, i 0, F, i 0, m 39] 150),
  (39, mp [] 0),
  (40, c [p 38 0, i 2000, m 41, i 1, i 0, F] 277),
  (41, mp [] 0),
  (42, c [p 43 0, p 45 0, i 0] 155),
  (43, c [i 50000, i 0, F, i 0, m 44] 150),
  (44, mp [] 0),
  (45, c [p 43 0, i 2000, m 46, i 1, i 0, F] 277),
  (46, mp [] 0),
  (47, c [p 48 0, p 50 0, i 0] 155),
  (48, c [i 50000, i 0, F, i 0, m 49] 150),
  (49, mp [] 0),
  (50, c [p 48 0, i 2000, m 51, i 1, i 0, F] 277),
  (51, mp [] 0),
  (52, c [su 53 0 6 2 0, su 60 0 1 1 0, i 0, i 0] 139),
  (53, cv [p 54 0, p 55 0, p 56 0, p 57 0, p 58 0, p 59 0] 213 2 1),
  (54, c [i 900, i 0, F, i 0, .str [86, 48, 46, 48], ns, i 0, i 0, i 1, F] 217),
  (55, c [i 900, i 0, F, i 0, .str [86, 49, 46, 48], ns, i 0, i 0, i 1, F] 217),
  (56, c [i 900, i 0, F, i 0, .str [86, 50, 46, 48], ns, i 0, i 0, i 1, F] 217),
  (57, c [i 900, i 0, F, i 0, .str [86, 51, 46, 48], ns, i 0, i 0, i 1, F] 217),
  (58, c [i 900, i 0, F, i 0, .str [86, 52, 46, 48], ns, i 0, i 0, i 1, F] 217),
  (59, c [i 900, i 0, F, i 0, .str [86, 53, 46, 48], ns, i 0, i 0, i 1, F] 217),
  (60, cv [i (-1), i 0, i 0, F] 141 1 4),
  (61, c [i 0, i 0, i 0, i 0, i 0, i 0] 3),
  (62, c [p 19 0, p 63 0, i 0, p 25 0, p 68 0, i 0, p 29 0, p 73 0, i 0] 188),
  (63, c [p 64 0, m 67, i 1] 114),
  (64, c [m 65, m 66, F, F, i 0, F, F, i 0, F, F, i 0, F, F, i 0, F, F, i 0, F, F, i 0, F, F, i 0, F, F, i 0, F, F, i 0, F, F, i 0, F, F, i 0, F, F, i 0] 121),
  (65, mp [] 0),
  (66, mp [] 0),
  (67, mp [] 0),
  (68, c [p 69 0, m 72, i 1] 114),
  (69, c [m 70, m 71, F, F, i 0, F, F, i 0, F, F, i 0, F, F, i 0, F, F, i 0, F, F, i 0, F, F, i 0, F, F, i 0, F, F, i 0, F, F, i 0, F, F, i 0, F, F, i 0] 121),
  (70, mp [] 0),
  (71, mp [] 0),
  (72, mp [] 0),
  (73, c [p 74 0, m 77, i 1] 114),
  (74, c [m 75, m 76, F, F, i 0, F, F, i 0, F, F, i 0, F, F, i 0, F, F, i 0, F, F, i 0, F, F, i 0, F, F, i 0, F, F, i 0, F, F, i 0, F, F, i 0, F, F, i 0] 121),
  (75, mp [] 0),
  (76, mp [] 0),
  (77, mp [] 0),
  (78, mp [] 0)]
  79 8 [(1, 1), (2, 6), (3, 3), (4, 6), (5, 1), (6, 1), (7, 1)]
def SS (ty : Nat → Nat) (k : Int) : AH := match k with
  | .ofNat 1 => S1 ty
  | .ofNat 2 => S2 ty
  | _ => S3 ty
/-- How many rounds there are till then. -/
def rds (k : Int) : Nat := match k with
  | .ofNat 1 => 8
  | _ => 10
def rnd (k : Int) (c : AV) : Nat → AH → Option (AH × AV) := Nat.rec (fun σ => anew c σ) fun _ ih σ => okV none (run k 14 [c] σ) fun v σ => cnd (v.eqb undef0) (ih σ) none
def hl (k : Int) (c : AV) (σ : AH) : Option (AH × AV) := okV none (run k 26 [c] σ) fun v σ => cnd (v.eqb undef0) (rnd k c (rds k) σ) none
def bk3 (k : Int) (l : AV) (j : Int) (K : AH → Option (AH × AV)) (σ : AH) : Option (AH × AV) := okV none (run k 25 [l, i j, F] σ) fun v σ => cnd (v.eqb undef0) (K σ) none
def bk2 (k : Int) (s : AV) (j : Int) (K : AH → Option (AH × AV)) (σ : AH) : Option (AH × AV) := okV none (run k 24 [s] σ) fun l σ => bk3 k l j K σ
def bk1 (k : Int) (c : AV) (j : Int) (K : AH → Option (AH × AV)) (σ : AH) : Option (AH × AV) := okV none (run k 23 [c] σ) fun s σ => bk2 k s j K σ
def bk (k : Int) (c : AV) : Nat → Int → AH → Option (AH × AV) := Nat.rec (fun _ σ => hl k c σ) fun _ ih j σ => bk1 k c j (ih (j + 1)) σ
def isNew (v : AV) : Option AV := match v with
  | .tup [.ptr (some (l, o)), .int .i64 (.ofNat n)] => cnd (Nat.beq o 0) (cnd (Nat.beq n 0) (some (.ptr (some (l, 0)))) none) none
  | _ => none
def newR (k : Int) (ty : Nat → Nat) : Option (AH × AV) := okV none (run k 45 [cfgA k] (s0 ty)) fun v σ => opt none (isNew v) fun c => bk k c 3 0 σ
/-- A round more. -/
def per (k : Int) (σ : AH) : Option (AH × AV) := rnd k cl 1 σ
/-- The cluster's first cell is the Net yet. -/
def headIs (σ : AH) : Bool := match σ.hp.get 16 with
  | some (.cells (x :: _) _ _ _) => x.eqb net
  | _ => false
def isTup3 (v : AV) : Bool := match v with
  | .tup [.int .i64 _, .int .i64 _, .int .i64 _] => true
  | _ => false
def r4 (k : Int) (K : AH → Bool) (σ : AH) : Bool := okV false (run k 37 [cl] σ) fun v σ => cnd (v.eqb undef0) (opt false (anew cl σ) fun q => cnd (q.2.eqb cl) (K q.1) false) false
def r3 (k : Int) (j : Nat) (K : AH → Bool) (σ : AH) : Bool := okV false (run k 60 [net, i 0, .sp (.s [.at (Nat.mul 2 j)])] σ) fun v σ => cnd (isTup3 v) (cnd (headIs σ) (r4 k K σ) false) false
def r2 (k : Int) (j : Nat) (K : AH → Bool) (σ : AH) : Bool := cnd (headIs σ) (okV false (run k 51 [net] σ) fun v σ => cnd (v.eqb (i 0)) (cnd (headIs σ) (r3 k j K σ) false) false) false
def r1 (k : Int) (j : Nat) (K : AH → Bool) (σ : AH) : Bool := cnd (headIs σ) (okV false (run k 51 [net] σ) fun v σ => cnd (v.eqb (i 0)) (r2 k j K σ) false) false
/-- So many commands more can be proposed, from the j-th on. -/
def chB (k : Int) : Nat → Nat → AH → Bool := Nat.rec (fun _ _ => true) fun _ ih j σ => r1 k j (ih (Nat.succ j)) σ
end Go.Proofs.YtpnoiagjgkajdaaGreatDoor.Av
end
