/- The evaluator: own values, own heaps, a run of the program over them. -/
import Derived.WalkKit
import Derived.Orders
set_option linter.unusedVariables false
set_option linter.unusedSimpArgs false
noncomputable section
namespace Go.Proofs.YtpnoiagjgkajdaaGreatDoor.Av
open Go
inductive Tr (α : Type) where
  | nil
  | node (l : Tr α) (o : Option α) (r : Tr α)
def Tr.get {α : Type} : Tr α → Nat → Option α :=
  Tr.rec (fun _ => none) fun _ o _ gl gr n => Nat.rec o (fun m _ => Bool.rec (gr (Nat.div m 2)) (gl (Nat.div m 2)) (Nat.beq (Nat.mod m 2) 0)) n
def Tr.set {α : Type} : Nat → Tr α → Nat → Option α → Tr α :=
  Nat.rec (fun t _ _ => t) fun _ ih t n x => Tr.rec
    (Nat.rec (.node .nil x .nil) (fun m _ => Bool.rec (.node .nil none (ih .nil (Nat.div m 2) x)) (.node (ih .nil (Nat.div m 2) x) none .nil) (Nat.beq (Nat.mod m 2) 0)) n)
    (fun l o r _ _ => Nat.rec (.node l x r) (fun m _ => Bool.rec (.node l o (ih r (Nat.div m 2) x)) (.node (ih l (Nat.div m 2) x) o r) (Nat.beq (Nat.mod m 2) 0)) n) t
def Tr.put {α : Type} (t : Tr α) (n : Nat) (x : Option α) : Tr α := Tr.set (Nat.succ n) t n x
def odds {α : Type} : List α → List α
  | [] => []
  | [x] => [x]
  | x :: _ :: l => x :: odds l
def Tr.ofL {α : Type} : Nat → List α → Tr α
  | 0, _ => .nil
  | _ + 1, [] => .nil
  | f + 1, x :: l => .node (Tr.ofL f (odds l)) (some x) (Tr.ofL f (odds l.tail))
inductive Kap where
  | k (n : Nat)
  | u (c m : Nat)
  | e
/-- A piece of a string: known bytes, or an unknown string. -/
inductive SP where
  | lit (l : List Nat)
  | at (n : Nat)
/-- What is known of an unknown value: a string out of pieces; a number: so much, and the lengths of unknown strings, each so often; any other. -/
inductive SX where
  | s (l : List SP)
  | i (c : Int) (cs : List Int)
  | a (n : Nat)
inductive AV where
  | bool (b : Bool)
  | int (k : IntKind) (n : Int)
  | str (s : List Nat)
  | ptr (a : Option (Nat × Nat))
  | sl (a : Option (Nat × Nat)) (n : Nat) (c : Kap)
  | map (r : Option Nat)
  | fn (f : FuncId) (first cap : List AV)
  | nilfn
  | nilif
  | iface (t : TypeId) (v : AV)
  | agg (l : List AV)
  | tup (l : List AV)
  | sp (i : SX)
inductive AO where
  | cells (cs : List AV) (t : TypeId) (fz : Bool) (cv : Option (Nat × Nat))
  | map (es : List (AV × AV × Nat)) (clock : Nat)
  | iter (m : Option Nat) (since : Nat) (seen : List Nat) (stepped : Nat)
  | opq (n : Nat)
inductive AH where
  | mk (h : Tr AO) (n : Nat) (c : Nat) (lb : Tr Nat)
inductive R where
  | val (v : AV) (σ : AH)
  | call (f : Nat) (args : List AV) (σ : AH)
  | bad
/-- What the program's table says of a type. -/
inductive TC where
  | other
  | struct (fs : List (Nat × Nat × Nat))
  | array (n e : Nat)
  | slice (e : Nat)
  | string
  | map (s : Option Bool) (e : Nat)
  | pointer (e : Nat)
  | int (k : IntKind)
  | bool
  | func
  | iface
structure TI where
  size : Nat
  ag : Bool
  cls : TC
  zero : Option AV
/-- The types, and what is known of operations on values that nobody knows. -/
structure TT where
  t : Tr TI
  sp : Option (Op → List AV → Option AV)
def TT.get (tt : TT) (n : Nat) : Option TI := tt.t.get n
/-- A thing known, or nothing more. -/
def opt {α β : Type} (d : β) (o : Option α) (f : α → β) : β := Option.rec d f o
def cnd {β : Type} (b : Bool) (x y : β) : β := Bool.rec y x b
def cvB (s : ByteArray) : List Nat := s.data.toList.map UInt8.toNat
def cv0 : Value → Option AV
  | .bool b => some (.bool b)
  | .int k n => some (.int k n)
  | .string s => some (.str (cvB s))
  | .pointer none => some (.ptr none)
  | .slice none 0 0 => some (.sl none 0 (.k 0))
  | .map none => some (.map none)
  | .nilFunc => some .nilfn
  | .nilIface => some .nilif
  | _ => none
def cvL : List Value → Option (List AV)
  | [] => some []
  | v :: l => match cv0 v with
    | some a => match cvL l with
      | some r => some (a :: r)
      | none => none
    | none => none
def cvV : Value → Option AV
  | .agg cs => match cvL cs.toList with
    | some l => some (.agg l)
    | none => none
  | .tuple cs => match cs.toList with
    | [] => some (.tup [])
    | _ => none
  | v => cv0 v
def undef0 : AV := .tup []
def opnd (g : Tr AV) (x : Operand) : AV := Operand.rec (motive := fun _ => AV)
  (fun t => opt undef0 (g.get t) fun v => v)
  (fun v => opt undef0 (cvV v) fun v => v)
  (fun n => .ptr (some (n, 0)))
  (fun f => .fn f [] []) x
def opnds (g : Tr AV) (l : List Operand) : List AV := l.map (opnd g)
/-- Neither a struct nor a tuple. -/
def AV.one : AV → Bool
  | .agg _ => false
  | .tup _ => false
  | _ => true
def AV.cells1 : AV → Option (List AV)
  | .agg l => some l
  | .tup _ => none
  | v => some [v]
def AV.asP (v : AV) : Option (Nat × Nat) := AV.rec (motive_1 := fun _ => Option (Nat × Nat)) (motive_2 := fun _ => Unit)
  (fun _ => none) (fun _ _ => none) (fun _ => none) (fun a => a) (fun _ _ _ => none) (fun _ => none) (fun _ _ _ _ _ => none) none none (fun _ _ _ => none) (fun _ _ => none) (fun _ _ => none) (fun _ => none) () (fun _ _ _ _ => ()) v
def AV.asK (v : AV) : Option (IntKind × Int) := AV.rec (motive_1 := fun _ => Option (IntKind × Int)) (motive_2 := fun _ => Unit)
  (fun _ => none) (fun k n => some (k, n)) (fun _ => none) (fun _ => none) (fun _ _ _ => none) (fun _ => none) (fun _ _ _ _ _ => none) none none (fun _ _ _ => none) (fun _ _ => none) (fun _ _ => none) (fun _ => none) () (fun _ _ _ _ => ()) v
def AV.asB (v : AV) : Option Bool := AV.rec (motive_1 := fun _ => Option Bool) (motive_2 := fun _ => Unit)
  (fun b => some b) (fun _ _ => none) (fun _ => none) (fun _ => none) (fun _ _ _ => none) (fun _ => none) (fun _ _ _ _ _ => none) none none (fun _ _ _ => none) (fun _ _ => none) (fun _ _ => none) (fun _ => none) () (fun _ _ _ _ => ()) v
def frcN (n : Nat) (K : Nat → R) : R := Nat.rec (K 0) (fun p _ => K (Nat.succ p)) n
def frcI (n : Int) (K : Int → R) : R := Int.rec (fun m => Nat.rec (K (.ofNat 0)) (fun p _ => K (.ofNat (Nat.succ p))) m) (fun m => Nat.rec (K (.negSucc 0)) (fun p _ => K (.negSucc (Nat.succ p))) m) n
def frcB (b : Bool) (K : Bool → R) : R := Bool.rec (K false) (K true) b
def frcL : List Nat → (List Nat → R) → R := List.rec (fun K => K []) fun x _ ih K => frcN x fun x => ih fun l => K (x :: l)
/-- The same, of so many bytes at most. -/
def frcS (l : List Nat) (f : Nat) (K : List Nat → R) : R := List.rec (motive := fun _ => Nat → (List Nat → R) → R) (fun _ K => K []) (fun x _ ih f K => Nat.rec .bad (fun f _ => frcN x fun x => ih f fun l => K (x :: l)) f) l f K
def wrapA (k : IntKind) (n : Int) : Int := match k, n with
  | .i64, .ofNat m => (match Nat.ble m 9223372036854775807 with
    | true => .ofNat m
    | false => IntKind.wrap k n)
  | _, _ => IntKind.wrap k n
def int_ (k : IntKind) (n : Int) (σ : AH) : R := frcI n fun n => .val (.int k n) σ
def bool_ (b : Bool) (σ : AH) : R := frcB b fun b => .val (.bool b) σ
def new (o : AO) (σ : AH) (K : Nat → AH → R) : R := AH.rec (fun h n c lb => Nat.rec .bad (fun m _ => K (Nat.succ m) (.mk (Tr.put h (Nat.succ m) (some o)) (Nat.succ (Nat.succ m)) c lb)) n) σ
def newCap (b : Nat) (σ : AH) (K : Nat → AH → R) : R := AH.rec (fun h n c lb => Nat.rec .bad (fun m _ => K (Nat.succ m) (.mk h n (Nat.succ (Nat.succ m)) (Tr.put lb (Nat.succ m) (some b)))) c) σ
def AH.get (σ : AH) (l : Nat) : Option AO := AH.rec (fun h _ _ _ => h.get l) σ
/-- A block that the run has made is another one. -/
def AH.upd (σ : AH) (l : Nat) (o : Option AO) (K : AH → R) : R := cnd (Nat.ble 16 l) (AH.rec (fun h n c lb => K (.mk (Tr.put h l o) n c lb)) σ) .bad
def AH.lb (σ : AH) (c : Nat) : Nat := AH.rec (fun _ _ _ lb => opt 0 (lb.get c) fun n => n) σ
def takeN : Nat → List AV → Option (List AV) := Nat.rec (fun _ => some []) fun _ ih l => List.rec none (fun x l _ => opt none (ih l) fun r => some (x :: r)) l
def dropN {α : Type} : Nat → List α → List α := Nat.rec (fun l => l) fun _ ih l => List.rec [] (fun _ l _ => ih l) l
def nth {α : Type} : List α → Nat → Option α := List.rec (fun _ => none) fun x _ ih n => Nat.rec (some x) (fun m _ => ih m) n
def setN0 (cs : List AV) (ys : List AV) : Option (List AV) := List.rec (motive := fun _ => List AV → Option (List AV)) (fun cs => some cs) (fun y _ ih cs => List.rec none (fun _ cs _ => opt none (ih cs) fun r => some (y :: r)) cs) ys cs
def setN : List AV → Nat → List AV → Option (List AV) := List.rec (fun n ys => Nat.rec (setN0 [] ys) (fun _ _ => none) n) fun x cs ih n ys => Nat.rec (setN0 (x :: cs) ys) (fun m _ => opt none (ih m ys) fun r => some (x :: r)) n
def AO.asC (o : AO) : Option (List AV × TypeId × Bool × Option (Nat × Nat)) := AO.rec (motive := fun _ => Option (List AV × TypeId × Bool × Option (Nat × Nat))) (fun cs t fz cv => some (cs, t, fz, cv)) (fun _ _ => none) (fun _ _ _ _ => none) (fun _ => none) o
def AO.asM (o : AO) : Option (List (AV × AV × Nat) × Nat) := AO.rec (motive := fun _ => Option (List (AV × AV × Nat) × Nat)) (fun _ _ _ _ => none) (fun es c => some (es, c)) (fun _ _ _ _ => none) (fun _ => none) o
def cellsAt (σ : AH) (l : Nat) : Option (List AV) := opt none (σ.get l) fun o => opt none o.asC fun c => some c.1
def loadA (tt : TT) (t : TypeId) (l o : Nat) (σ : AH) : Option AV := opt none (cellsAt σ l) fun cs => opt none (tt.get t) fun i =>
  cnd i.ag (opt none (takeN i.size (dropN o cs)) fun r => some (.agg r)) (nth cs o)
def storeN (l o : Nat) (vs : List AV) (σ : AH) (K : AH → R) : R := opt .bad (σ.get l) fun b => opt .bad b.asC fun c =>
  cnd c.2.2.1 .bad (opt .bad (setN c.1 o vs) fun cs => σ.upd l (some (.cells cs c.2.1 false c.2.2.2)) K)
def storeA (tt : TT) (t : TypeId) (l o : Nat) (v : AV) (σ : AH) : R := opt .bad (tt.get t) fun i =>
  opt .bad v.cells1 fun cs => cnd (Nat.beq cs.length i.size) (storeN l o cs σ fun σ => .val undef0 σ) .bad
def zeroA (tt : TT) (t : TypeId) : Option AV := opt none (tt.get t) fun i => i.zero
def fillA (place : Nat → Option (Nat × Nat)) : List AV → List (Nat × AV) → Option (List AV)
  | cs, [] => some cs
  | cs, (i, v) :: l => opt none (place i) fun p => opt none v.cells1 fun vs => cnd (Nat.beq vs.length p.2) (opt none (setN cs p.1 vs) fun cs => fillA place cs l) none
def buildA (tt : TT) (t : TypeId) (parts : List (Nat × AV)) (σ : AH) : R := opt .bad (tt.get t) fun i => opt .bad i.zero fun z => opt .bad z.cells1 fun z => match i.cls with
    | .struct fs => opt .bad (fillA (fun i => opt none (nth fs i) fun f => some (f.1, f.2.1)) z parts) fun cs => .val (.agg cs) σ
    | .array _ e => opt .bad (tt.get e) fun j => opt .bad (fillA (fun i => some (Nat.mul i j.size, j.size)) z parts) fun cs => .val (.agg cs) σ
    | _ => .bad
def repL : Nat → List AV → List AV
  | 0, _ => []
  | n + 1, l => l ++ repL n l
def nilL {α : Type} (l : List α) : Bool := List.rec true (fun _ _ _ => false) l
def buildSliceA (tt : TT) (t : TypeId) (len : Nat) (parts : List (Nat × AV)) (σ : AH) : R := opt .bad (tt.get t) fun i => match i.cls with
  | .slice e => opt .bad (tt.get e) fun j => opt .bad j.zero fun z => opt .bad z.cells1 fun z => cnd (Nat.beq len 0)
      (cnd (nilL parts) (new (.cells [] e false none) σ fun l σ => .val (.sl (some (l, 0)) 0 (.k 0)) σ) .bad)
      (cnd (Nat.blt 0 j.size) (cnd (Nat.ble (Nat.mul len j.size) 16777216) (cnd (Nat.beq z.length j.size) (opt .bad (fillA (fun i => some (Nat.mul i j.size, j.size)) (repL len z) parts) fun cs =>
        new (.cells cs e false none) σ fun l σ => .val (.sl (some (l, 0)) len (.k len)) σ) .bad) .bad) .bad)
  | _ => .bad
def eqL : List Nat → List Nat → Bool
  | [], [] => true
  | x :: a, y :: b => cnd (Nat.beq x y) (eqL a b) false
  | _, _ => false
def ltL : List Nat → List Nat → Bool
  | _, [] => false
  | [], _ :: _ => true
  | x :: a, y :: b => cnd (Nat.blt x y) true (cnd (Nat.beq x y) (ltL a b) false)
def eqI (x y : Int) : Bool := Int.rec (fun a => Int.rec (fun b => Nat.beq a b) (fun _ => false) y) (fun a => Int.rec (fun _ => false) (fun b => Nat.beq a b) y) x
def ltI (x y : Int) : Bool := Int.rec (fun a => Int.rec (fun b => Nat.blt a b) (fun _ => false) y) (fun a => Int.rec (fun _ => true) (fun b => Nat.blt b a) y) x
def quoA (k : IntKind) (x y : Int) (σ : AH) : R := cnd (eqI y 0) .bad (int_ k (wrapA k (x.tdiv y)) σ)
def remA (k : IntKind) (x y : Int) (σ : AH) : R := cnd (eqI y 0) .bad (int_ k (x.tmod y) σ)
/-- Numbers below this one are themselves, bit by bit. -/
def bndN (k : IntKind) : Nat := IntKind.rec 128 32768 2147483648 9223372036854775808 256 65536 4294967296 18446744073709551616 k
def bitA (f : Nat → Nat → Nat) (k : IntKind) (x y : Int) (σ : AH) : R := Int.rec (fun a => Int.rec (fun b => cnd (Nat.blt a (bndN k)) (cnd (Nat.blt b (bndN k)) (int_ k (.ofNat (f a b)) σ) .bad) .bad) (fun _ => .bad) y) (fun _ => .bad) x
def andNotN (a b : Nat) : Nat := Nat.xor a (Nat.land a b)
def arI (f : Int → Int → Int) (k : IntKind) (x y : Int) (σ : AH) : R := int_ k (wrapA k (f x y)) σ
def geI (x y : Int) : Bool := Bool.not (ltI x y)
def neI (x y : Int) : Bool := Bool.not (eqI x y)
def cmI (f : Int → Int → Bool) (x y : Int) (σ : AH) : R := bool_ (f x y) σ
def shlA (k : IntKind) (x y : Int) (σ : AH) : R := Int.rec (fun a => Int.rec (fun n => int_ k (IntKind.wrap k (.ofNat (Nat.mul a (Nat.pow 2 (min n k.bits))))) σ) (fun _ => .bad) y) (fun _ => .bad) x
def shrA (k : IntKind) (x y : Int) (σ : AH) : R := Int.rec (fun a => Int.rec (fun n => int_ k (.ofNat (Nat.div a (Nat.pow 2 (min n k.bits)))) σ) (fun _ => .bad) y) (fun _ => .bad) x
def binI (op : BinOp) (k : IntKind) (x y : Int) (σ : AH) : R := BinOp.rec (motive := fun _ => IntKind → Int → Int → AH → R)
  (fun k x y σ => arI Int.add k x y σ)
  (fun k x y σ => arI Int.sub k x y σ)
  (fun k x y σ => arI Int.mul k x y σ)
  (fun k x y σ => quoA k x y σ)
  (fun k x y σ => remA k x y σ)
  (fun k x y σ => bitA Nat.land k x y σ)
  (fun k x y σ => bitA Nat.lor k x y σ)
  (fun k x y σ => bitA Nat.xor k x y σ)
  (fun k x y σ => shlA k x y σ)
  (fun k x y σ => shrA k x y σ)
  (fun k x y σ => bitA andNotN k x y σ)
  (fun _ x y σ => cmI eqI x y σ)
  (fun _ x y σ => cmI neI x y σ)
  (fun _ x y σ => cmI ltI x y σ)
  (fun _ x y σ => cmI geI y x σ)
  (fun _ x y σ => cmI ltI y x σ)
  (fun _ x y σ => cmI geI x y σ) op k x y σ
def strA (op : BinOp) (x y : List Nat) (σ : AH) : R := match op with
  | .add => frcS (x ++ y) 1000000 fun l => .val (.str l) σ
  | .eql => bool_ (eqL x y) σ
  | .neq => bool_ (Bool.not (eqL x y)) σ
  | .lss => bool_ (ltL x y) σ
  | .leq => bool_ (Bool.not (ltL y x)) σ
  | .gtr => bool_ (ltL y x) σ
  | .geq => bool_ (Bool.not (ltL x y)) σ
  | _ => .bad
def ikN (k : IntKind) : Nat := IntKind.rec 0 1 2 3 4 5 6 7 k
def eqV (tt : TT) (c : TC) (x y : AV) : Option Bool := match c, x, y with
  | .bool, .bool a, .bool b => some (cnd a b (Bool.not b))
  | .pointer _, .ptr none, .ptr none => some true
  | .pointer _, .ptr none, .ptr (some _) => some false
  | .pointer _, .ptr (some _), .ptr none => some false
  | .pointer e, .ptr (some a), .ptr (some b) => opt none (tt.get e) fun i => cnd (Nat.blt 0 i.size) (cnd (Nat.beq a.1 b.1) (some (Nat.beq a.2 b.2)) none) none
  | .slice _, .sl none _ _, .sl none _ _ => some true
  | .slice _, .sl none _ _, .sl (some _) _ _ => some false
  | .slice _, .sl (some _) _ _, .sl none _ _ => some false
  | .map _ _, .map none, .map none => some true
  | .map _ _, .map none, .map (some _) => some false
  | .map _ _, .map (some _), .map none => some false
  | .func, .nilfn, .nilfn => some true
  | .func, .nilfn, .fn _ _ _ => some false
  | .func, .fn _ _ _, .nilfn => some false
  | .iface, .nilif, .nilif => some true
  | .iface, .nilif, .iface _ _ => some false
  | .iface, .iface _ _, .nilif => some false
  | _, _, _ => none
def eqOp (op : BinOp) (b : Bool) (σ : AH) : R := match op with
  | .eql => bool_ b σ
  | .neq => bool_ (Bool.not b) σ
  | _ => .bad
def binE (tt : TT) (t : TypeId) (op : BinOp) (x y : AV) (σ : AH) : R := opt .bad (tt.get t) fun i => opt .bad (eqV tt i.cls x y) fun b => eqOp op b σ
def binS (tt : TT) (t : TypeId) (op : BinOp) (x y : AV) (σ : AH) : R := match x, y with
  | .str a, .str b => strA op a b σ
  | x, y => binE tt t op x y σ
def shA (op : BinOp) (k : IntKind) (x y : Int) (σ : AH) : R := match op with
  | .shl => shlA k x y σ
  | .shr => shrA k x y σ
  | _ => .bad
def binA (tt : TT) (t : TypeId) (op : BinOp) (x y : AV) (σ : AH) : R := opt (binS tt t op x y σ) x.asK fun a => opt .bad y.asK fun b => cnd (Nat.beq (ikN a.1) (ikN b.1)) (binI op a.1 a.2 b.2 σ) (shA op a.1 a.2 b.2 σ)
def isC (x : Operand) : Bool := Operand.rec (motive := fun _ => Bool) (fun _ => false) (fun _ => true) (fun _ => false) (fun _ => false) x
def AV.isNI (v : AV) : Bool := AV.rec (motive_1 := fun _ => Bool) (motive_2 := fun _ => Unit)
  (fun _ => false) (fun _ _ => false) (fun _ => false) (fun _ => false) (fun _ _ _ => false) (fun _ => false) (fun _ _ _ _ _ => false) false true (fun _ _ _ => false) (fun _ _ => false) (fun _ _ => false) (fun _ => false) () (fun _ _ _ _ => ()) v
def unA (op : UnOp) (x : AV) (σ : AH) : R := match op, x with
  | .not, .bool b => bool_ (Bool.not b) σ
  | .neg, .int k n => int_ k (wrapA k (Int.sub 0 n)) σ
  | .xor, .int .u8 n => bitA Nat.xor .u8 255 n σ
  | .xor, .int .u32 n => bitA Nat.xor .u32 4294967295 n σ
  | .xor, .int .u64 n => bitA Nat.xor .u64 18446744073709551615 n σ
  | _, _ => .bad
def bytesOf : List AV → Option (List Nat)
  | [] => some []
  | .int .u8 (.ofNat n) :: l => cnd (Nat.blt n 256) (opt none (bytesOf l) fun r => some (n :: r)) none
  | _ => none
def ofBytes (l : List Nat) : List AV := l.map fun n => .int .u8 (.ofNat n)
def isU8 (tt : TT) (e : TypeId) : Bool := opt false (tt.get e) fun j => match j.cls with
  | .int .u8 => true
  | _ => false
def elA : TC → Option TypeId
  | .slice e => some e
  | _ => none
def toStrA (x : AV) (σ : AH) : R := match x with
  | .sl none _ _ => .val (.str []) σ
  | .sl (some _) _ .e => .bad
  | .sl (some (l, o)) n _ => opt .bad (cellsAt σ l) fun cs => opt .bad (takeN n (dropN o cs)) fun r => opt .bad (bytesOf r) fun s => frcL s fun s => .val (.str s) σ
  | _ => .bad
def toBytesA (e : TypeId) (s : List Nat) (σ : AH) : R := newCap s.length σ fun c σ => new (.cells (ofBytes s) e true (some (c, 1))) σ fun l σ => .val (.sl (some (l, 0)) s.length (.u c 0)) σ
def convA (tt : TT) (src dst : TypeId) (x : AV) (σ : AH) : R := opt .bad (tt.get src) fun _ => opt .bad (tt.get dst) fun i => match i.cls, x with
  | .int k, .int _ n => int_ k (wrapA k n) σ
  | .string, .str s => .val (.str s) σ
  | .string, x => opt .bad (tt.get src) fun j => opt .bad (elA j.cls) fun e => cnd (isU8 tt e) (toStrA x σ) .bad
  | .slice e, .str s => cnd (isU8 tt e) (toBytesA e s σ) .bad
  | _, _ => .bad
def natOf (v : AV) : Option Nat := opt none v.asK fun n => Int.rec (fun m => some m) (fun _ => none) n.2
def Kap.sub : Kap → Nat → Kap
  | .k n, m => .k (Nat.sub n m)
  | .u c a, m => .u c (Nat.add a m)
  | .e, _ => .e
def Kap.ge (σ : AH) : Kap → Nat → Bool
  | .k n, h => Nat.ble h n
  | .u c m, h => Nat.ble (Nat.add m h) (σ.lb c)
  | .e, _ => false
def Kap.gt (σ : AH) : Kap → Nat → Bool
  | .k n, h => Nat.blt h n
  | .u c m, h => Nat.blt (Nat.add m h) (σ.lb c)
  | .e, _ => false
def dflt (o : Option AV) (d : Nat) : Option Nat := match o with
  | none => some d
  | some v => natOf v
def slice3A (tt : TT) (t : TypeId) (x : AV) (lo hi : Option AV) (mv : AV) (σ : AH) : R := opt .bad (tt.get t) fun i => opt .bad (elA i.cls) fun e => opt .bad (tt.get e) fun j => opt .bad hi fun hv => match x with
  | .sl (some (l, o)) n c => opt .bad (dflt lo 0) fun p => opt .bad (natOf hv) fun h => opt .bad (natOf mv) fun m => cnd (Kap.ge σ c m) (cnd (Nat.ble h m) (cnd (Nat.ble p h)
      (frcN (Nat.sub h p) fun len => frcN (Nat.sub m p) fun cap => frcN (cnd (Nat.beq m p) o (Nat.add o (Nat.mul p j.size))) fun o => .val (.sl (some (l, o)) len (.k cap)) σ) .bad) .bad) .bad
  | _ => .bad
def sliceA (tt : TT) (t : TypeId) (x : AV) (lo hi mx : Option AV) (σ : AH) : R := match mx with
  | some _ => .bad
  | none => opt .bad (tt.get t) fun i => match i.cls, x with
    | .array n e, .ptr (some (l, o)) => (match dflt lo 0, dflt hi n, tt.get e with
      | some a, some h, some j => (match Nat.ble h n, Nat.ble a h with
        | true, true => frcN (Nat.sub h a) fun len => frcN (Nat.sub n a) fun cap => frcN (cnd (Nat.beq n a) o (Nat.add o (Nat.mul a j.size))) fun o => .val (.sl (some (l, o)) len (.k cap)) σ
        | _, _ => .bad)
      | _, _, _ => .bad)
    | .string, .str s => (match dflt lo 0, dflt hi s.length with
      | some a, some h => (match Nat.ble h s.length, Nat.ble a h with
        | true, true => frcL ((s.drop a).take (Nat.sub h a)) fun l => .val (.str l) σ
        | _, _ => .bad)
      | _, _ => .bad)
    | .slice e, .sl a n c => (match dflt lo 0, dflt hi n, tt.get e with
      | some p, some h, some j => (match Kap.ge σ c h, Nat.ble p h with
        | true, true => (match a with
          | none => .val (.sl none 0 (.k 0)) σ
          | some (l, o) => match Kap.gt σ c p with
            | true => frcN (Nat.sub h p) fun len => frcN (Nat.add o (Nat.mul p j.size)) fun o => .val (.sl (some (l, o)) len (c.sub p)) σ
            | false => match Nat.beq p 0, c with
              | true, _ => frcN (Nat.sub h p) fun len => .val (.sl (some (l, o)) len c) σ
              | false, .k _ => frcN (Nat.sub h p) fun len => .val (.sl (some (l, o)) len (c.sub p)) σ
              | false, .u _ _ => cnd (Nat.beq h p) (.val (.sl (some (l, o)) 0 .e) σ) .bad
              | false, .e => .bad)
        | _, _ => .bad)
      | _, _, _ => .bad)
    | _, _ => .bad
def TC.fld (c : TC) (f : Nat) : Option (Nat × Nat × Nat) := TC.rec (motive := fun _ => Option (Nat × Nat × Nat)) none (fun fs => nth fs f) (fun _ _ => none) (fun _ => none) none (fun _ _ => none) (fun _ => none) (fun _ => none) none none none c
def fieldAddrA (tt : TT) (s : TypeId) (x : AV) (f : Nat) (σ : AH) : R := opt .bad x.asP fun p => opt .bad (tt.get s) fun i => opt .bad (i.cls.fld f) fun fd =>
  Nat.rec .bad (fun _ _ => frcN (Nat.add p.2 fd.1) fun o => .val (.ptr (some (p.1, o))) σ) fd.2.1
def partA (tt : TT) (t : TypeId) (cs : List AV) (o : Nat) (σ : AH) : R := opt .bad (tt.get t) fun i =>
  cnd i.ag (opt .bad (takeN i.size (dropN o cs)) fun r => .val (.agg r) σ) (opt .bad (nth cs o) fun v => .val v σ)
def fieldA (tt : TT) (s : TypeId) (x : AV) (f : Nat) (σ : AH) : R := match x with
  | .agg cs => opt .bad (tt.get s) fun i => opt .bad (i.cls.fld f) fun fd => partA tt fd.2.2 cs fd.1 σ
  | _ => .bad
/-- Where the elements lie: label, offset, how many, their type. -/
def baseA (c : TC) (x : AV) : Option (Nat × Nat × Nat × Nat) := TC.rec (motive := fun _ => Option (Nat × Nat × Nat × Nat)) none (fun _ => none) (fun n e => opt none x.asP fun p => some (p.1, p.2, n, e))
  (fun e => AV.rec (motive_1 := fun _ => Option (Nat × Nat × Nat × Nat)) (motive_2 := fun _ => Unit)
  (fun _ => none) (fun _ _ => none) (fun _ => none) (fun _ => none) (fun a n _ => opt none a fun p => some (p.1, p.2, n, e)) (fun _ => none) (fun _ _ _ _ _ => none) none none (fun _ _ _ => none) (fun _ _ => none) (fun _ _ => none) (fun _ => none) () (fun _ _ _ _ => ()) x)
  none (fun _ _ => none) (fun _ => none) (fun _ => none) none none none c
def indexAddrA (tt : TT) (t : TypeId) (x i : AV) (σ : AH) : R := opt .bad (natOf i) fun k => opt .bad (tt.get t) fun i => opt .bad (baseA i.cls x) fun b =>
  cnd (Nat.blt k b.2.2.1) (opt .bad (tt.get b.2.2.2) fun j => frcN (Nat.add b.2.1 (Nat.mul k j.size)) fun o => .val (.ptr (some (b.1, o))) σ) .bad
def indexA (tt : TT) (t : TypeId) (x i : AV) (σ : AH) : R := opt .bad (natOf i) fun k => opt .bad (tt.get t) fun i => match i.cls, x with
  | .string, .str s => opt .bad (nth s k) fun b => .val (.int .u8 (.ofNat b)) σ
  | .array n e, .agg cs => opt .bad (tt.get e) fun j => cnd (Nat.blt k n) (partA tt e cs (Nat.mul k j.size) σ) .bad
  | _, _ => .bad
def keyEq (s : Bool) (x y : AV) : Option Bool := match x, y with
  | .int i a, .int j b => cnd s none (cnd (Nat.beq (ikN i) (ikN j)) (some (eqI a b)) none)
  | .str a, .str b => cnd s (some (eqL a b)) none
  | _, _ => none
def findE (s : Bool) (k : AV) : List (AV × AV × Nat) → Option (Option AV)
  | [] => some none
  | e :: l => match keyEq s k e.1 with
    | some true => some (some e.2.1)
    | some false => findE s k l
    | none => none
def putE (s : Bool) (k v : AV) (clock : Nat) : List (AV × AV × Nat) → Option (Bool × List (AV × AV × Nat))
  | [] => some (true, [(k, v, clock)])
  | e :: l => match keyEq s k e.1 with
    | some true => some (false, (k, v, e.2.2) :: l)
    | some false => match putE s k v clock l with
      | some (b, r) => some (b, e :: r)
      | none => none
    | none => none
def delE (s : Bool) (k : AV) : List (AV × AV × Nat) → Option (List (AV × AV × Nat))
  | [] => some []
  | e :: l => match keyEq s k e.1 with
    | some true => some l
    | some false => match delE s k l with
      | some r => some (e :: r)
      | none => none
    | none => none
def mapAt (σ : AH) (l : Nat) : Option (List (AV × AV × Nat) × Nat) := opt none (σ.get l) fun o => o.asM
def lookA (tt : TT) (t : TypeId) (x k : AV) (ok : Bool) (σ : AH) : R := opt .bad (tt.get t) fun i => match i.cls with
  | .map (some s) e => match (match x with
      | .map none => some none
      | .map (some r) => opt none (mapAt σ r) fun m => findE s k m.1
      | _ => none) with
    | some (some v) => cnd ok (.val (.tup [v, .bool true]) σ) (.val v σ)
    | some none => opt .bad (zeroA tt e) fun z => cnd ok (.val (.tup [z, .bool false]) σ) (.val z σ)
    | none => .bad
  | _ => .bad
/-- What the keys of a map are like. -/
def TC.isMap (c : TC) : Option Unit := TC.rec (motive := fun _ => Option Unit) none (fun _ => none) (fun _ _ => none) (fun _ => none) none (fun _ _ => some ()) (fun _ => none) (fun _ => none) none none none c
def TC.key (c : TC) : Option Bool := TC.rec (motive := fun _ => Option Bool) none (fun _ => none) (fun _ _ => none) (fun _ => none) none (fun s _ => s) (fun _ => none) (fun _ => none) none none none c
def updA (tt : TT) (t : TypeId) (m k v : AV) (σ : AH) : R := opt .bad (tt.get t) fun i => opt .bad i.cls.key fun s => match m with
  | .map (some r) => opt .bad (mapAt σ r) fun m => match putE s k v m.2 m.1 with
      | some (true, es) => σ.upd r (some (.map es (Nat.succ m.2))) fun σ => .val undef0 σ
      | some (false, es) => σ.upd r (some (.map es m.2)) fun σ => .val undef0 σ
      | none => .bad
  | _ => .bad
def delA (tt : TT) (t : TypeId) (m k : AV) (σ : AH) : R := opt .bad (tt.get t) fun i => opt .bad i.cls.key fun s => match m with
  | .map none => .val undef0 σ
  | .map (some r) => opt .bad (mapAt σ r) fun m => opt .bad (delE s k m.1) fun es => σ.upd r (some (.map es m.2)) fun σ => .val undef0 σ
  | _ => .bad
def rangeA (tt : TT) (t : TypeId) (x : AV) (σ : AH) : R := opt .bad (tt.get t) fun i => opt .bad i.cls.isMap fun _ => match x with
  | .map none => new (.iter none 0 [] 0) σ fun l σ => .val (.ptr (some (l, 0))) σ
  | .map (some m) => opt .bad (mapAt σ m) fun e => new (.iter (some m) e.2 [] e.2) σ fun l σ => .val (.ptr (some (l, 0))) σ
  | _ => .bad
def memN (x : Nat) : List Nat → Bool
  | [] => false
  | y :: l => cnd (Nat.beq x y) true (memN x l)
def leftE (seen : List Nat) : List (AV × AV × Nat) → List (AV × AV × Nat)
  | [] => []
  | e :: l => cnd (memN e.2.2 seen) (leftE seen l) (e :: leftE seen l)
def anyOld (last : Nat) : List (AV × AV × Nat) → Bool
  | [] => false
  | e :: l => cnd (Nat.blt e.2.2 last) true (anyOld last l)
def nextA (it : AV) (σ : AH) : R := match it with
  | .ptr (some (r, 0)) => match σ.get r with
    | some (.iter none _ _ _) => .val (.tup [.bool false]) σ
    | some (.iter (some m) since seen last) => opt .bad (mapAt σ m) fun e => cnd (cnd (nilL e.1) true (cnd (nilL seen) true (anyOld last e.1))) (match leftE seen e.1 with
        | [] => .val (.tup [.bool false]) σ
        | [x] => cnd (Nat.blt x.2.2 since) (σ.upd r (some (.iter (some m) since (seen ++ [x.2.2]) e.2)) fun σ => .val (.tup [.bool true, x.1, x.2.1]) σ) .bad
        | _ => .bad) .bad
    | _ => .bad
  | _ => .bad
def srcCells (s : Nat) (x : AV) (σ : AH) : Option (Nat × List AV) := match x with
  | .sl none _ _ => some (0, [])
  | .sl (some (l, o)) n _ => opt none (cellsAt σ l) fun cs => opt none (takeN (Nat.mul n s) (dropN o cs)) fun r => some (n, r)
  | .str b => cnd (Nat.beq s 1) (some (b.length, ofBytes b)) none
  | _ => none
/-- The type of what is appended. -/
def srcT (c : TC) : Bool := TC.rec (motive := fun _ => Bool) false (fun _ => false) (fun _ _ => false) (fun _ => true) true (fun _ _ => false) (fun _ => false) (fun _ => false) false false false c
/-- The slice begins and ends where its block does. -/
def ownA (c m s o len : Nat) (b : List AV × TypeId × Bool × Option (Nat × Nat)) : Bool := opt false b.2.2.2 fun v => cnd (Nat.beq v.1 c) (cnd (Nat.beq v.2 s) (cnd (Nat.beq o 0) (cnd (Nat.beq m 0) (cnd (Nat.beq (Nat.mul len s) b.1.length) (Bool.not b.2.2.1) false) false) false) false) false
def appNew (e s : Nat) (cells : List AV) (need : Nat) (σ : AH) : R := newCap need σ fun q σ => new (.cells cells e false (some (q, s))) σ fun l σ => .val (.sl (some (l, 0)) need (.u q 0)) σ
def appG (e sz : Nat) (cells : List AV) (need l o len : Nat) (c : Kap) (σ : AH) : R := opt .bad (σ.get l) fun b => opt .bad b.asC fun old => opt .bad (takeN (Nat.mul len sz) (dropN o old.1)) fun r => match c with
  | .k _ => appNew e sz (r ++ cells) need σ
  | .u q m => cnd (Nat.beq old.2.1 e) (cnd (ownA q m sz o len old) (σ.upd l none fun σ => appNew e sz (r ++ cells) need σ) .bad) .bad
  | .e => .bad
def appB (e sz : Nat) (cells : List AV) (need : Nat) (a : Option (Nat × Nat)) (len : Nat) (c : Kap) (σ : AH) : R := match a with
  | none => appNew e sz cells need σ
  | some (l, o) => cnd (Kap.ge σ c need) (storeN l (Nat.add o (Nat.mul len sz)) cells σ fun σ => .val (.sl (some (l, o)) need c) σ) (appG e sz cells need l o len c σ)
def appS (e sz : Nat) (src : Nat × List AV) (s : AV) (σ : AH) : R := match s with
  | .sl a len c => Nat.rec (.val s σ) (fun _ _ => frcN (Nat.add len src.1) fun need => cnd (Nat.ble need 134217728) (appB e sz src.2 need a len c σ) .bad) src.1
  | _ => .bad
def appA (tt : TT) (t t2 : TypeId) (s x : AV) (σ : AH) : R := opt .bad (tt.get t) fun i => opt .bad (elA i.cls) fun e => opt .bad (tt.get e) fun j => opt .bad j.zero fun z => opt .bad z.cells1 fun z => cnd (Nat.beq z.length j.size) (opt .bad (tt.get t2) fun i2 => cnd (srcT i2.cls) (opt .bad (srcCells j.size x σ) fun src => appS e j.size src s σ) .bad) .bad
def copyC (a : Option (Nat × Nat)) (m : Nat) (r : List AV) (σ : AH) : R := match a with
  | none => .val (.int .i64 (.ofNat m)) σ
  | some (l, o) => storeN l o r σ fun σ => .val (.int .i64 (.ofNat m)) σ
def minN (a b : Nat) : Nat := cnd (Nat.ble a b) a b
def copyB (sz : Nat) (a : Option (Nat × Nat)) (dn : Nat) (s : AV) (σ : AH) : R := match s with
  | .sl none _ _ => .val (.int .i64 (.ofNat 0)) σ
  | .sl (some _) _ .e => .bad
  | .sl (some (l, o)) n _ => frcN (minN n dn) fun m => opt .bad (cellsAt σ l) fun cs => opt .bad (takeN (Nat.mul m sz) (dropN o cs)) fun r => copyC a m r σ
  | .str b => frcN (minN b.length dn) fun m => opt .bad (takeN m (ofBytes b)) fun r => copyC a m r σ
  | _ => .bad
def copyA (tt : TT) (t : TypeId) (d s : AV) (σ : AH) : R := opt .bad (tt.get t) fun i => opt .bad (elA i.cls) fun e => opt .bad (tt.get e) fun j => match d with
  | .sl _ _ .e => .bad
  | .sl a dn _ => copyB j.size a dn s σ
  | _ => .bad
def lenA (tt : TT) (t : TypeId) (x : AV) (σ : AH) : R := opt .bad (tt.get t) fun i => match i.cls, x with
  | .string, .str s => frcN s.length fun n => .val (.int .i64 (.ofNat n)) σ
  | .slice _, .sl _ n _ => .val (.int .i64 (.ofNat n)) σ
  | .map _ _, .map none => .val (.int .i64 (.ofNat 0)) σ
  | .map _ _, .map (some r) => opt .bad (mapAt σ r) fun m => frcN m.1.length fun n => .val (.int .i64 (.ofNat n)) σ
  | .array n _, _ => .val (.int .i64 (.ofNat n)) σ
  | .pointer e, _ => opt .bad (tt.get e) fun j => (match j.cls with
      | .array n _ => .val (.int .i64 (.ofNat n)) σ
      | _ => .bad)
  | _, _ => .bad
def minmax (isMax : Bool) : AV → List AV → Option AV
  | v, [] => some v
  | .int k a, .int _ b :: l => cnd (cnd isMax (ltI a b) (ltI b a)) (minmax isMax (.int k b) l) (minmax isMax (.int k a) l)
  | _, _ => none
def clearA (tt : TT) (t : TypeId) (x : AV) (σ : AH) : R := opt .bad (tt.get t) fun i => match x with
  | .map none => .val undef0 σ
  | .map (some r) => opt .bad i.cls.isMap fun _ => opt .bad (mapAt σ r) fun m => σ.upd r (some (.map [] m.2)) fun σ => .val undef0 σ
  | .sl none _ _ => .val undef0 σ
  | .sl (some (l, o)) n _ => Nat.rec (.val undef0 σ) (fun _ _ => opt .bad (elA i.cls) fun e => opt .bad (zeroA tt e) fun z => opt .bad z.cells1 fun z => storeN l o (repL n z) σ fun σ => .val undef0 σ) n
  | _ => .bad
def ptrA (c : TC) : Option TypeId := TC.rec (motive := fun _ => Option TypeId) none (fun _ => none) (fun _ _ => none) (fun _ => none) none (fun _ _ => none) (fun e => some e) (fun _ => none) none none none c
def usA (tt : TT) (t : TypeId) (p n : AV) (σ : AH) : R := match n with
  | .int .i64 (.ofNat 0) => opt .bad p.asP fun _ => .val (.str []) σ
  | .int .i64 (.ofNat (n + 1)) => opt .bad (tt.get t) fun i => opt .bad (ptrA i.cls) fun e => opt .bad (tt.get e) fun j => cnd (Nat.beq j.size 1) (opt .bad p.asP fun a => cnd (Nat.beq a.2 0) (opt .bad (σ.get a.1) fun b => opt .bad b.asC fun c => cnd (Nat.beq c.2.1 e) (cnd (Nat.ble (Nat.succ n) 9223372036854775807) (opt .bad (takeN (Nat.succ n) c.1) fun r => opt .bad (bytesOf r) fun s =>
      frcL s fun s => σ.upd a.1 (some (.cells c.1 c.2.1 true c.2.2.2)) fun σ => .val (.str s) σ) .bad) .bad) .bad) .bad
  | _ => .bad
def mmA (b : Bool) (args : List AV) (σ : AH) : R := match args with
  | v :: l => opt .bad (minmax b v l) fun v => .val v σ
  | [] => .bad
def builtinA (tt : TT) (b : Builtin) (ts : List TypeId) (args : List AV) (σ : AH) : R := match b, ts, args with
  | .append, [t, t2], [s, x] => appA tt t t2 s x σ
  | .len, [t], [x] => lenA tt t x σ
  | .copy, [t, _], [d, s] => copyA tt t d s σ
  | .delete, [t, _], [m, k] => delA tt t m k σ
  | .clear, [t], [x] => clearA tt t x σ
  | .max, _, l => mmA true l σ
  | .min, _, l => mmA false l σ
  | .unsafeSliceData, _, [.sl (some a) (_ + 1) _] => .val (.ptr (some a)) σ
  | .unsafeSliceData, _, [.sl none _ _] => .val (.ptr none) σ
  | .unsafeString, [t, _], [p, n] => usA tt t p n σ
  | _, _, _ => .bad
def extrA (x : AV) (i : Nat) (σ : AH) : R := match x with
  | .tup l => opt .bad (nth l i) fun v => .val v σ
  | _ => .bad
def makeSliceA (tt : TT) (t : TypeId) (n c : AV) (σ : AH) : R := opt .bad (tt.get t) fun i => opt .bad (elA i.cls) fun e => opt .bad (natOf n) fun n => opt .bad (natOf c) fun c => opt .bad (tt.get e) fun j => opt .bad j.zero fun z => opt .bad z.cells1 fun z =>
  cnd (Nat.ble n c) (cnd (Nat.ble c 100000) (cnd (Nat.beq z.length j.size) (new (.cells (repL c z) e false none) σ fun l σ => .val (.sl (some (l, 0)) n (.k c)) σ) .bad) .bad) .bad
def opPick (g : Tr AV) (c a b : Operand) (σ : AH) : R := opt .bad (opnd g c).asB fun x => cnd x (.val (opnd g a) σ) (.val (opnd g b) σ)
def opAlloc (tt : TT) (t : TypeId) (σ : AH) : R := opt .bad (zeroA tt t) fun z => opt .bad z.cells1 fun z => new (.cells z t false none) σ fun l σ => .val (.ptr (some (l, 0))) σ
def opBox (g : Tr AV) (t : TypeId) (x : Operand) (σ : AH) : R := opt .bad (opnd g x).cells1 fun z => new (.cells z t false none) σ fun l σ => .val (.ptr (some (l, 0))) σ
def opParts (g : Tr AV) (ps : Array (Nat × Operand)) : List (Nat × AV) := ps.toList.map fun p => (p.1, opnd g p.2)
def opLoad (tt : TT) (g : Tr AV) (t : TypeId) (a : Operand) (σ : AH) : R := opt .bad (opnd g a).asP fun p => opt .bad (loadA tt t p.1 p.2 σ) fun v => .val v σ
def opStore (tt : TT) (g : Tr AV) (t : TypeId) (a x : Operand) (σ : AH) : R := opt .bad (opnd g a).asP fun p => storeA tt t p.1 p.2 (opnd g x) σ
def nilV : AV → Bool
  | .ptr none => true
  | .nilif => true
  | .nilfn => true
  | .sp _ => true
  | _ => false
def opNil (g : Tr AV) (x : Operand) (σ : AH) : R := cnd (nilV (opnd g x)) .bad (.val (opnd g x) σ)
def opFn (g : Tr AV) (fn : Fn) (first cap : Array Operand) (σ : AH) : R := match fn with
  | .func f => .val (.fn f (opnds g first.toList) (opnds g cap.toList)) σ
  | _ => .bad
def opMap (σ : AH) : R := new (.map [] 0) σ fun l σ => .val (.map (some l)) σ
def opMapR (tt : TT) (g : Tr AV) (t : TypeId) (r : Option Operand) (σ : AH) : R := match r with
  | none => opMap σ
  | some x => opt .bad (opnd g x).asK fun _ => opt .bad (tt.get t) fun i => opt .bad i.cls.isMap fun _ => opMap σ
def opNext (g : Tr AV) (it : Operand) (s : Bool) (σ : AH) : R := cnd s .bad (nextA (opnd g it) σ)
def opVal (g : Tr AV) (x : Operand) (σ : AH) : R := .val (opnd g x) σ
/-- Two nil interfaces may be held against each other only where one of them is written out. -/
def opBin (tt : TT) (g : Tr AV) (op : BinOp) (t : TypeId) (x y : Operand) (σ : AH) : R := cnd (opnd g x).isNI (cnd (cnd (isC x) true (isC y)) (binA tt t op (opnd g x) (opnd g y) σ) .bad) (binA tt t op (opnd g x) (opnd g y) σ)
def opFA (tt : TT) (g : Tr AV) (s : TypeId) (x : Operand) (f : Nat) (σ : AH) : R := fieldAddrA tt s (opnd g x) f σ
def opIA (tt : TT) (g : Tr AV) (t : TypeId) (x i : Operand) (σ : AH) : R := indexAddrA tt t (opnd g x) (opnd g i) σ
def opCall (tt : TT) (g : Tr AV) (c : Call) (σ : AH) : R := match c.callee with
  | .builtin b => builtinA tt b c.argTypes.toList (opnds g c.args.toList) σ
  | _ => .bad
def fnOf (v : AV) (args : List AV) : Option (Nat × List AV) := match v with
  | .fn f first cap => some (f, first ++ (args ++ cap))
  | _ => none
/-- A call of a function of the program. -/
def callee (c : Call) (g : Tr AV) : Option (Nat × List AV) := Callee.rec (motive := fun _ => Call → Tr AV → Option (Nat × List AV)) (fun f c g => fnOf (opnd g f) (opnds g c.args.toList)) (fun _ _ _ _ => none) (fun _ _ _ => none) c.callee c g
def callOf (g : Tr AV) (o : Op) : Option (Nat × List AV) := Op.rec (motive := fun _ => Tr AV → Option (Nat × List AV))
  (fun _ _ => none) (fun _ _ => none) (fun _ _ _ _ => none) (fun _ _ => none) (fun _ _ _ => none) (fun _ _ _ => none) (fun _ _ _ _ => none) (fun _ _ _ _ _ => none)
  (fun _ _ _ => none) (fun _ _ _ _ => none) (fun _ _ => none) (fun _ _ => none) (fun _ _ => none) (fun _ _ _ _ _ _ => none) (fun _ _ _ _ => none) (fun _ _ _ _ => none)
  (fun _ _ _ => none) (fun _ _ _ => none) (fun _ _ _ _ => none) (fun _ _ _ => none) (fun _ _ _ => none) (fun _ _ _ _ => none) (fun _ _ _ _ _ _ => none) (fun _ _ _ _ => none)
  (fun _ _ _ _ => none) (fun _ _ _ _ => none) (fun _ _ _ _ => none) (fun _ _ _ _ _ => none) (fun _ _ _ _ _ => none) (fun _ _ _ _ => none) (fun _ _ _ _ _ => none) (fun _ _ _ => none)
  (fun _ _ _ => none) (fun _ _ => none) (fun _ _ _ _ _ => none) (fun _ _ _ => none) (fun c g => callee c g) (fun _ _ => none) (fun _ _ => none) (fun _ _ => none)
  (fun _ _ _ => none) (fun _ _ _ _ => none) (fun _ _ _ => none) o g
def opSlice (tt : TT) (g : Tr AV) (t : TypeId) (x : Operand) (lo hi mx : Option Operand) (σ : AH) : R := match mx with
  | none => sliceA tt t (opnd g x) (lo.map (opnd g)) (hi.map (opnd g)) none σ
  | some m => slice3A tt t (opnd g x) (lo.map (opnd g)) (hi.map (opnd g)) (opnd g m) σ
def mkIf (tt : TT) (t : TypeId) (x : AV) (σ : AH) : R := opt .bad (tt.get t) fun i => match i.cls with
  | .iface => .bad
  | .other => .bad
  | _ => .val (.iface t x) σ
def evOp2 (tt : TT) (g : Tr AV) (o : Op) (σ : AH) : R := match o with
  | .pick c a b => opPick g c a b σ
  | .alloc t => opAlloc tt t σ
  | .box t x => opBox g t x σ
  | .build t ps => buildA tt t (opParts g ps) σ
  | .buildSlice t n ps => buildSliceA tt t n (opParts g ps) σ
  | .unOp op _ x => unA op (opnd g x) σ
  | .convert s d x => convA tt s d (opnd g x) σ
  | .makeFunc fn first cap => opFn g fn first cap σ
  | .makeMap t r => opMapR tt g t r σ
  | .makeSlice t n c => makeSliceA tt t (opnd g n) (opnd g c) σ
  | .slice t x lo hi mx => opSlice tt g t x lo hi mx σ
  | .field s x f => fieldA tt s (opnd g x) f σ
  | .index t x i => indexA tt t (opnd g x) (opnd g i) σ
  | .lookup t x k ok => lookA tt t (opnd g x) (opnd g k) ok σ
  | .mapUpdate t m k v => updA tt t (opnd g m) (opnd g k) (opnd g v) σ
  | .range t x => rangeA tt t (opnd g x) σ
  | .next it s => opNext g it s σ
  | .makeInterface t x => mkIf tt t (opnd g x) σ
  | .call c => opCall tt g c σ
  | _ => .bad
def evOp (tt : TT) (g : Tr AV) (o : Op) (σ : AH) : R := Op.rec (motive := fun _ => TT → Tr AV → AH → R)
  (fun x _ g σ => opVal g x σ)
  (fun x _ g σ => opVal g x σ)
  (fun c a b _ g σ => opPick g c a b σ)
  (fun t tt _ σ => opAlloc tt t σ)
  (fun t x _ g σ => opBox g t x σ)
  (fun t ps tt g σ => buildA tt t (opParts g ps) σ)
  (fun t n ps tt g σ => buildSliceA tt t n (opParts g ps) σ)
  (fun _ _ _ _ _ _ _ => .bad)
  (fun t a tt g σ => opLoad tt g t a σ)
  (fun t a x tt g σ => opStore tt g t a x σ)
  (fun _ _ _ _ => .bad)
  (fun _ _ _ _ => .bad)
  (fun x _ g σ => opNil g x σ)
  (fun op t x y _ tt g σ => opBin tt g op t x y σ)
  (fun op _ x _ g σ => unA op (opnd g x) σ)
  (fun s d x tt g σ => convA tt s d (opnd g x) σ)
  (fun _ _ _ _ _ => .bad)
  (fun t x tt g σ => mkIf tt t (opnd g x) σ)
  (fun fn first cap _ g σ => opFn g fn first cap σ)
  (fun t r tt g σ => opMapR tt g t r σ)
  (fun _ _ _ _ _ => .bad)
  (fun t n c tt g σ => makeSliceA tt t (opnd g n) (opnd g c) σ)
  (fun t x lo hi mx tt g σ => opSlice tt g t x lo hi mx σ)
  (fun s x f tt g σ => opFA tt g s x f σ)
  (fun s x f tt g σ => fieldA tt s (opnd g x) f σ)
  (fun t x i tt g σ => opIA tt g t x i σ)
  (fun t x i tt g σ => indexA tt t (opnd g x) (opnd g i) σ)
  (fun t x k ok tt g σ => lookA tt t (opnd g x) (opnd g k) ok σ)
  (fun t m k v tt g σ => updA tt t (opnd g m) (opnd g k) (opnd g v) σ)
  (fun _ _ _ _ _ _ => .bad)
  (fun _ _ _ _ _ _ _ => .bad)
  (fun t x tt g σ => rangeA tt t (opnd g x) σ)
  (fun it s _ g σ => opNext g it s σ)
  (fun _ _ _ _ => .bad)
  (fun _ _ _ _ _ _ _ => .bad)
  (fun t i _ g σ => extrA (opnd g t) i σ)
  (fun c tt g σ => opCall tt g c σ)
  (fun _ _ _ _ => .bad)
  (fun _ _ _ _ => .bad)
  (fun _ _ _ _ => .bad)
  (fun _ _ _ _ _ => .bad)
  (fun _ _ _ _ _ _ => .bad)
  (fun _ _ _ _ _ => .bad) o tt g σ
/-- Operations of which something may be known. -/
def spK (o : Op) : Bool := match o with
  | .binOp _ _ _ _ _ => true
  | .unOp _ _ _ => true
  | .convert _ _ _ => true
  | .index _ _ _ => true
  | .call c => (match c.callee with
    | .builtin _ => true
    | _ => false)
  | _ => false
/-- An operation: by what is known of it, else by itself. -/
def evOpS (tt : TT) (g : Tr AV) (o : Op) (σ : AH) : R := opt (evOp tt g o σ) tt.sp fun h => cnd (spK o) (opt (evOp tt g o σ) (h o (opnds g o.operands.toList)) fun v => .val v σ) (evOp tt g o σ)
inductive Ex where
  | normal
  | exit (id : Nat)
  | ret
inductive RC where
  | ok (e : Ex) (g : Tr AV) (σ : AH)
  | bad (f r i : Nat)
inductive RV where
  | ok (v : AV) (σ : AH)
  | bad (f r i : Nat)
def putD (g : Tr AV) (d : Option Tmp) (v : AV) : Tr AV := opt g d fun d => Tr.put g d (some v)
def wantA (all : Array Oper) (g : Tr AV) (o : Oper) : Bool := opt true o.guard fun w => match all[w.1]? with
    | some oj => match oj.dst with
      | some d => opt false (g.get d) fun v => opt false v.asB fun b => cnd b w.2 (Bool.not w.2)
      | none => false
    | none => false
def evOps (tt : TT) (call : Nat → List AV → AH → RV) (fid rid : Nat) (all : Array Oper) : List Oper → Tr AV → AH → RC :=
  List.rec (fun g σ => .ok .normal g σ) fun o _ ih g σ => cnd (wantA all g o)
    (opt (R.rec (motive := fun _ => RC) (fun v σ => ih (putD g o.dst v) σ) (fun _ _ _ => .bad fid rid 0) (.bad fid rid (o.dst.getD 0)) (evOpS tt g o.op σ)) (callOf g o.op) fun c =>
      RV.rec (motive := fun _ => RC) (fun v σ => ih (putD g o.dst v) σ) (fun f r i => .bad f r i) (call c.1 c.2 σ))
    (ih (putD g o.dst undef0) σ)
def Kap.eqb : Kap → Kap → Bool
  | .k a, .k b => Nat.beq a b
  | .u a b, .u c d => cnd (Nat.beq a c) (Nat.beq b d) false
  | .e, .e => true
  | _, _ => false
def eqP : Option (Nat × Nat) → Option (Nat × Nat) → Bool
  | none, none => true
  | some a, some b => cnd (Nat.beq a.1 b.1) (Nat.beq a.2 b.2) false
  | _, _ => false
def eqN : Option Nat → Option Nat → Bool
  | none, none => true
  | some a, some b => Nat.beq a b
  | _, _ => false
def SP.eqb : SP → SP → Bool
  | .lit a, .lit b => eqL a b
  | .at a, .at b => Nat.beq a b
  | _, _ => false
def eqLs {α : Type} (f : α → α → Bool) : List α → List α → Bool
  | [], [] => true
  | x :: a, y :: b => cnd (f x y) (eqLs f a b) false
  | _, _ => false
def SX.eqb : SX → SX → Bool
  | .s x, .s y => eqLs SP.eqb x y
  | .i c x, .i d y => cnd (eqI c d) (eqLs eqI x y) false
  | .a x, .a y => Nat.beq x y
  | _, _ => false
mutual
def AV.eqb : AV → AV → Bool
  | .bool a, .bool b => cnd a b (Bool.not b)
  | .int k a, .int l b => cnd (Nat.beq (ikN k) (ikN l)) (eqI a b) false
  | .str a, .str b => eqL a b
  | .ptr a, .ptr b => eqP a b
  | .sl a n c, .sl b m d => cnd (eqP a b) (cnd (Nat.beq n m) (c.eqb d) false) false
  | .map a, .map b => eqN a b
  | .fn f a b, .fn g c d => cnd (Nat.beq f g) (cnd (AV.eqbs a c) (AV.eqbs b d) false) false
  | .nilfn, .nilfn => true
  | .nilif, .nilif => true
  | .iface t v, .iface u w => cnd (Nat.beq t u) (v.eqb w) false
  | .agg a, .agg b => AV.eqbs a b
  | .tup a, .tup b => AV.eqbs a b
  | .sp a, .sp b => a.eqb b
  | _, _ => false
termination_by structural x => x
def AV.eqbs : List AV → List AV → Bool
  | [], [] => true
  | x :: a, y :: b => cnd (x.eqb y) (AV.eqbs a b) false
  | _, _ => false
termination_by structural x => x
end
/-- One operation of a region, as far as it is known. -/
def one (tt : TT) (call : Nat → List AV → AH → RV) (all : Array Oper) (g : Tr AV) (σ : AH) (o : Oper) : Option (AV × AH) := cnd (wantA all g o)
  (opt (R.rec (motive := fun _ => Option (AV × AH)) (fun v σ => some (v, σ)) (fun _ _ _ => none) none (evOpS tt g o.op σ)) (callOf g o.op) fun c =>
    RV.rec (motive := fun _ => Option (AV × AH)) (fun v σ => some (v, σ)) (fun _ _ _ => none) (call c.1 c.2 σ))
  (some (undef0, σ))
def sliceC (c : TC) : Bool := TC.rec (motive := fun _ => Bool) false (fun _ => false) (fun _ _ => false) (fun _ => true) false (fun _ _ => false) (fun _ => false) (fun _ => false) false false false c
/-- An operation that may turn the heap. -/
def effO (tt : TT) (o : Op) : Bool := match o with
  | .move _ => false
  | .assign _ => false
  | .pick _ _ _ => false
  | .build _ _ => false
  | .load _ _ => false
  | .nilCheck _ => false
  | .binOp _ _ _ _ _ => false
  | .unOp _ _ _ => false
  | .makeInterface _ _ => false
  | .makeFunc _ _ _ => false
  | .slice _ _ _ _ _ => false
  | .fieldAddr _ _ _ => false
  | .field _ _ _ => false
  | .indexAddr _ _ _ => false
  | .index _ _ _ => false
  | .lookup _ _ _ _ => false
  | .extract _ _ => false
  | .convert _ d _ => opt true (tt.get d) fun i => sliceC i.cls
  | .call c => (match c.callee with
    | .builtin .len => false
    | .builtin .max => false
    | .builtin .min => false
    | .builtin .unsafeSliceData => false
    | _ => true)
  | _ => true
def edgesM (acc : List Nat) : List Edge → Nat := List.rec 0 fun x _ ih => cnd (Region.binds .any x) (opt ih (nth acc x.on) fun A => Nat.lor ih (Nat.lor A (Nat.shiftLeft 1 x.on))) ih
/-- Which operations come surely before each. -/
def ancL : List Oper → List Nat → List Nat := List.rec (fun acc => acc) fun o _ ih acc => ih (acc ++ [edgesM acc o.after.toList])
def ancB (A : List Nat) (i j : Nat) : Bool := opt false (nth A i) fun a => Nat.testBit a j
def dstIs (o : Oper) (t : Nat) : Bool := opt false o.dst fun d => Nat.beq d t
def allocO (o : Op) : Bool := match o with
  | .alloc _ => true
  | .box _ _ => true
  | .buildSlice _ _ _ => true
  | .makeMap _ _ => true
  | .makeSlice _ _ _ => true
  | _ => false
def ordB (A : List Nat) (i j : Nat) : Bool := cnd (ancB A i j) true (ancB A j i)
/-- Is every one of these ordered with it? -/
def ordAll (A : List Nat) (i : Nat) : List Nat → Bool := List.rec true fun j _ ih => cnd (cnd (Nat.beq i j) true (ordB A i j)) ih false
def effL (tt : TT) : List Oper → Nat → List Nat := List.rec (fun _ => []) fun o _ ih i => cnd (effO tt o.op) (i :: ih (Nat.succ i)) (ih (Nat.succ i))
/-- What is made in no fixed order. -/
def freeL (A : List Nat) (effs : List Nat) : List Oper → Nat → List Nat := List.rec (fun _ => []) fun o _ ih i => cnd (cnd (allocO o.op) (Bool.not (ordAll A i effs)) false) (i :: ih (Nat.succ i)) (ih (Nat.succ i))
def minusL (fs : List Nat) : List Nat → List Nat := List.rec [] fun x _ ih => cnd (memN x fs) ih (x :: ih)
def AH.put (σ : AH) (l : Nat) (o : AO) : AH := AH.rec (fun h n c lb => .mk (Tr.put h l (some o)) n c lb) σ
def AH.room (σ : AH) (k : Nat) : AH := AH.rec (fun h n c lb => .mk h (Nat.add n k) c lb) σ
def AH.next (σ : AH) : Nat := AH.rec (fun _ n _ _ => n) σ
/-- What was made, and nobody has looked at yet. -/
abbrev Pend := List (Nat × Nat × AO)
def shows (f : Nat → Bool) (p : Pend) (σ : AH) : AH := List.rec (motive := fun _ => AH → AH) (fun σ => σ) (fun x _ ih σ => ih (cnd (f x.1) (σ.put x.2.1 x.2.2) σ)) p σ
def rest (f : Nat → Bool) : Pend → Pend := List.rec [] fun x _ ih => cnd (f x.1) ih (x :: ih)
def made (tt : TT) (g : Tr AV) (o : Op) (l : Nat) : Option (AV × AO) := R.rec (motive := fun _ => Option (AV × AO)) (fun v σ => opt none (σ.get l) fun b => some (v, b)) (fun _ _ _ => none) none (evOp tt g o (.mk .nil l 0 .nil))
/-- What is known before each operation: the frame, what the operation gives, the heap, what waits to be shown. -/
abbrev Rec := Tr AV × AV × AH × Pend
def canon (tt : TT) (A fs : List Nat) (base : Nat) (call : Nat → List AV → AH → RV) (all : Array Oper) : List Oper → Nat → Tr AV → AH → Pend → Option (List Rec × Tr AV × AH × Pend) :=
  List.rec (fun _ g σ p => some ([], g, σ, p)) fun o _ ih i g σ p => cnd (memN i fs)
    (opt none (made tt g o.op (Nat.add base i)) fun m => opt none (ih (Nat.succ i) (putD g o.dst m.1) σ ((i, Nat.add base i, m.2) :: p)) fun r => some ((g, m.1, σ, p) :: r.1, r.2))
    (cnd (effO tt o.op)
      (opt none (one tt call all g (shows (ancB A i) p σ) o) fun q => opt none (ih (Nat.succ i) (putD g o.dst q.1) q.2 (rest (ancB A i) p)) fun r => some ((g, q.1, σ, p) :: r.1, r.2))
      (opt none (one tt call all g σ o) fun q => opt none (ih (Nat.succ i) (putD g o.dst q.1) σ p) fun r => some ((g, q.1, σ, p) :: r.1, r.2)))
def pairOk (es A : List Nat) (all : Array Oper) (i j : Nat) (o p : Oper) : Bool :=
  cnd (opt true p.dst fun t => cnd (dstIs o t) false (cnd (memN t (o.looksAt all)) (cnd (ancB A i j) true (ancB A j i)) true))
    (cnd (memN i es) (cnd (memN j es) (cnd (ancB A i j) true (ancB A j i)) true) true) false
def pairsOk (es A : List Nat) (all : Array Oper) (i : Nat) (o : Oper) : List Oper → Nat → Bool := List.rec (fun _ => true) fun p _ ih j => cnd (cnd (Nat.beq i j) true (pairOk es A all i j o p)) (ih (Nat.succ j)) false
def edgesLt (i : Nat) : List Edge → Bool := List.rec true fun x _ ih => cnd (Region.binds .any x) (cnd (Nat.blt x.on i) ih false) ih
def statOk0 (es fs A : List Nat) (all : Array Oper) : List Oper → Nat → Bool := List.rec (fun _ => true) fun o _ ih i => cnd (pairsOk es A all i o all.toList 0) (cnd (edgesLt i o.after.toList) (cnd (cnd (memN i fs) (opt true o.guard fun _ => false) true) (ih (Nat.succ i)) false) false) false
def maybe (A : List Nat) (i m : Nat) : List Nat → Bool := List.rec true fun j _ ih => cnd (cnd (Nat.blt j m) (ancB A j i) (ancB A i j)) false ih
def stAt (rs : List Rec) (σ : AH) (m : Nat) : AH := opt σ (nth rs m) fun r => r.2.2.1
def again1 (tt : TT) (A : List Nat) (all : Array Oper) (effs : List Nat) (S : Nat → AH) (i : Nat) (o : Oper) (g : Tr AV) (u : AV) (m : Nat) : Bool := cnd (maybe A i m effs) (opt false (one tt (fun _ _ _ => .bad 0 0 0) all g (S m) o) fun p => u.eqb p.1) true
def again (tt : TT) (A : List Nat) (all : Array Oper) (effs : List Nat) (S : Nat → AH) (i : Nat) (o : Oper) (g : Tr AV) (u : AV) : List Nat → Bool := List.rec (again1 tt A all effs S i o g u 0) fun j _ ih => cnd (again1 tt A all effs S i o g u (Nat.succ j)) ih false
def agains (tt : TT) (A : List Nat) (all : Array Oper) (effs : List Nat) (S : Nat → AH) : List Oper → Nat → List Rec → Bool := List.rec (fun _ _ => true) fun o _ ih i rs => List.rec (motive := fun _ => Bool) false (fun r rs _ => cnd (cnd (effO tt o.op) true (again tt A all effs S i o r.1 r.2.1 effs)) (ih (Nat.succ i) rs) false) rs
/-- What is known of a region ahead of every run. -/
structure DT where
  A : List Nat
  fs : List Nat
  es : List Nat
  ok : Bool
def mkDT2 (tt : TT) (all : Array Oper) (A fs es : List Nat) : DT := ⟨A, fs, es, statOk0 es fs A all all.toList 0⟩
def mkDT1 (tt : TT) (all : Array Oper) (A efs : List Nat) : DT := (fun fs => mkDT2 tt all A fs (minusL fs efs)) (freeL A efs all.toList 0)
def mkDT (tt : TT) (all : Array Oper) : DT := mkDT1 tt all (ancL all.toList []) (effL tt all.toList 0)
/-- A region whose order is drawn. -/
def evDraw1 (d : DT) (tt : TT) (call : Nat → List AV → AH → RV) (fid rid : Nat) (all : Array Oper) (g : Tr AV) (σ : AH) : RC := cnd d.ok (opt (.bad fid rid 2000) (canon tt d.A d.fs σ.next call all all.toList 0 g (cnd (nilL d.fs) σ (σ.room all.size)) []) fun r =>
  cnd (agains tt d.A all d.es (stAt r.1 r.2.2.1) all.toList 0 r.1) (.ok .normal r.2.1 (shows (fun _ => true) r.2.2.2 r.2.2.1)) (.bad fid rid 2001)) (.bad fid rid 2002)
def evDraw (tt : TT) (call : Nat → List AV → AH → RV) (fid rid : Nat) (all : Array Oper) (g : Tr AV) (σ : AH) : RC := evDraw1 (mkDT tt all) tt call fid rid all g σ
def resA (tt : TT) (g : Tr AV) (σ : AH) : ResultVar → Option AV
  | .tmp t => some (opnd g (.tmp t))
  | .cell a t => opt none (opnd g (.tmp a)).asP fun p => loadA tt t p.1 p.2 σ
def resL (tt : TT) (g : Tr AV) (σ : AH) : List ResultVar → Option (List AV)
  | [] => some []
  | r :: l => opt none (resA tt g σ r) fun v => opt none (resL tt g σ l) fun vs => some (v :: vs)
def endA (tt : TT) (rs : List ResultVar) (f : Nat) (g : Tr AV) (σ : AH) : RV := match resL tt g σ rs with
  | some [v] => .ok v σ
  | some l => .ok (.tup l) σ
  | none => .bad f 0 1003
def putArgs : List AV → Nat → Tr AV → Tr AV
  | [], _, g => g
  | v :: l, i, g => putArgs l (Nat.succ i) (Tr.put g i (some v))
abbrev Told := Nat → Option (List AV → AH → RV)
def outA (tt : TT) (fn : Func) (f : Nat) (r : RC) : RV := match r with
  | .ok .normal g σ => endA tt fn.results.toList f g σ
  | .ok .ret g σ => endA tt fn.results.toList f g σ
  | .ok (.exit _) _ _ => .bad f 0 1004
  | .bad f r i => .bad f r i
def bodyA (tt : TT) (ft : Tr Func) (ih : Nat → Code → Tr AV → AH → RC) (f : Nat) (args : List AV) (σ : AH) : RV := match ft.get f with
  | some fn => match fn.body with
    | some c => cnd (Nat.ble args.length fn.ntmps) (outA tt fn f (ih f c (putArgs args 0 .nil) σ)) (.bad f 0 1003)
    | none => .bad f 0 1002
  | none => .bad f 0 1001
/-- A call: what is told of it, else its body. -/
def callA (told : Told) (tt : TT) (ft : Tr Func) (ih : Nat → Code → Tr AV → AH → RC) (f : Nat) (args : List AV) (σ : AH) : RV := match told f with
  | some h => RV.rec (motive := fun _ => RV) (fun v σ => .ok v σ) (fun _ _ _ => bodyA tt ft ih f args σ) (h args σ)
  | none => bodyA tt ft ih f args σ
/-- Go on, if it ended plainly. -/
def thenC (r : RC) (k : Tr AV → AH → RC) : RC := RC.rec (motive := fun _ => RC) (fun e g σ => Ex.rec (motive := fun _ => RC) (k g σ) (fun i => .ok (.exit i) g σ) (.ok .ret g σ) e) (fun f r i => .bad f r i) r
def blkC (id : Nat) (r : RC) : RC := RC.rec (motive := fun _ => RC) (fun e g σ => Ex.rec (motive := fun _ => RC) (.ok .normal g σ) (fun i => cnd (Nat.beq i id) (.ok .normal g σ) (.ok (.exit i) g σ)) (.ok .ret g σ) e) (fun f r i => .bad f r i) r
def stepC (told : Told) (tt : TT) (ft : Tr Func) (ih : Nat → Code → Tr AV → AH → RC) (fid : Nat) (c : Code) (g : Tr AV) (σ : AH) : RC := Code.rec (motive := fun _ => Told → TT → Tr Func → (Nat → Code → Tr AV → AH → RC) → Nat → Tr AV → AH → RC)
  (fun _ _ _ _ _ g σ => .ok .normal g σ)
  (fun id ops d told tt ft ih fid g σ => cnd d (evDraw tt (callA told tt ft ih) fid id ops g σ) (evOps tt (callA told tt ft ih) fid id ops ops.toList g σ))
  (fun x y _ _ _ _ _ ih fid g σ => thenC (ih fid x g σ) (ih fid y))
  (fun x t e _ _ _ _ _ ih fid g σ => opt (.bad fid 0 1005) (opnd g x).asB fun b => cnd b (ih fid t g σ) (ih fid e g σ))
  (fun id b _ _ _ _ ih fid g σ => blkC id (ih fid b g σ))
  (fun b _ _ _ _ ih fid g σ => thenC (ih fid b g σ) (ih fid (.loop b)))
  (fun _ _ _ _ _ _ _ _ _ _ fid _ _ => .bad fid 0 1006)
  (fun id _ _ _ _ _ g σ => .ok (.exit id) g σ)
  (fun _ _ _ _ _ _ fid _ _ => .bad fid 0 1006)
  (fun _ _ _ _ _ _ g σ => .ok .normal g σ)
  (fun _ _ _ _ _ fid _ _ => .bad fid 0 1006)
  (fun _ _ _ _ _ g σ => .ok .ret g σ)
  (fun _ _ _ _ _ fid _ _ => .bad fid 0 1006) c told tt ft ih fid g σ
def evC (told : Told) (tt : TT) (ft : Tr Func) : Nat → Nat → Code → Tr AV → AH → RC :=
  Nat.rec (fun _ _ _ _ => .bad 0 0 1007) fun _ ih => stepC told tt ft ih
def evF (told : Told) (tt : TT) (ft : Tr Func) (fuel f : Nat) (args : List AV) (σ : AH) : RV := callA told tt ft (evC told tt ft fuel) f args σ
def ltV : AV → AV → Bool
  | .int _ a, .int _ b => ltI a b
  | .str a, .str b => ltL a b
  | _, _ => false
def insV (x : AV) : List AV → List AV
  | [] => [x]
  | y :: l => cnd (ltV x y) (x :: y :: l) (y :: insV x l)
def sortV : List AV → List AV
  | [] => []
  | x :: l => insV x (sortV l)
def rvOf : R → RV
  | .val v σ => .ok v σ
  | _ => .bad 0 0 1011
def keysA (e : TypeId) (args : List AV) (σ : AH) : RV := match args with
  | [.fn _ _ [.ptr (some (l, o))]] => match cellsAt σ l with
    | some cs => match nth cs o with
      | some (.map none) => .ok (.sl none 0 (.k 0)) σ
      | some (.map (some m)) => (match mapAt σ m with
        | some (es, _) => (match sortV (es.map (·.1)) with
          | [] => .ok (.sl none 0 (.k 0)) σ
          | ks => rvOf (newCap ks.length σ fun q σ => new (.cells ks e false (some (q, 1))) σ fun l σ => .val (.sl (some (l, 0)) ks.length (.u q 0)) σ))
        | _ => .bad 0 0 1010)
      | _ => .bad 0 1 1010
    | none => .bad 0 2 1010
  | _ => .bad 0 3 1010
/-- The tables of a program. -/
def agT : TypeDesc → Bool
  | .struct _ => true
  | .array _ _ => true
  | _ => false
def clsT (P : Program) : TypeDesc → TC
  | .struct fs => opt .other (fs.toList.mapM fun f => (P.info? f.type).map fun i => (f.offset, i.size, f.type)) fun l => .struct l
  | .array n e => .array n e
  | .slice e => .slice e
  | .string => .string
  | .map k e => (match P.underlying k with
    | some (.int _) => .map (some false) e
    | some .string => .map (some true) e
    | _ => .map none e)
  | .pointer e => .pointer e
  | .int k => .int k
  | .bool => .bool
  | .func _ _ _ => .func
  | .interface _ => .iface
  | _ => .other
def mkTI (P : Program) (t : TypeId) : TI := opt ⟨0, false, .other, none⟩ (P.info? t) fun i => opt ⟨0, false, .other, none⟩ (P.underlying t) fun d => cnd (Nat.ble i.bytes 1048576) ⟨i.size, agT d, clsT P d, opt none i.zero cvV⟩ ⟨0, false, .other, none⟩
end Go.Proofs.YtpnoiagjgkajdaaGreatDoor.Av
end
