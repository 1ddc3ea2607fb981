/-
  THE EXECUTOR ONCE MORE, IN A FORM THAT THE KERNEL REDUCES IN FEWER STEPS: recursors in the place of matches, their arms closed wherever that can be. (definitions alone; XeFastB: it is the very same)
-/
import Derived.Test.YtnjfkicalpbiaaaGreatDoorXeDef
set_option linter.unusedVariables false
set_option linter.unusedSimpArgs false
set_option linter.unnecessarySimpa false
namespace Go.Xf
open Go.Xe
noncomputable section

/-- what a value shows -/
inductive W where
  | i (n : Int) | k (k : IntKind) (n : Int) | s (l n : Nat) | o
def vw (v : V) : W := V.rec (motive_1 := fun _ => W) (motive_2 := fun _ => Unit)
  (fun _ => .o) (fun n => .i n) (fun k n => .k k n) (fun l n => .s l n) .o (fun _ _ => .o) .o (fun _ _ _ _ => .o) .o (fun _ => .o)
  (fun _ _ _ _ _ => .o) .o (fun _ _ _ => .o) .o (fun _ _ => .o) (fun _ _ => .o) (fun _ => .o) () (fun _ _ _ _ => ()) v
def asB (v : V) : Option Bool := V.rec (motive_1 := fun _ => Option Bool) (motive_2 := fun _ => Unit)
  (fun b => some b) (fun _ => none) (fun _ _ => none) (fun _ _ => none) none (fun _ _ => none) none (fun _ _ _ _ => none) none (fun _ => none)
  (fun _ _ _ _ _ => none) none (fun _ _ _ => none) none (fun _ _ => none) (fun _ _ => none) (fun _ => none) () (fun _ _ _ _ => ()) v
/-- a guard: is the operation wanted? -/
def gT (v : V) : Option Bool := V.rec (motive_1 := fun _ => Option Bool) (motive_2 := fun _ => Unit)
  (fun b => some b) (fun _ => none) (fun _ _ => none) (fun _ _ => none) none (fun _ _ => none) none (fun _ _ _ _ => none) none (fun _ => none)
  (fun _ _ _ _ _ => none) none (fun _ _ _ => none) none (fun _ _ => none) (fun _ _ => some false) (fun _ => none) () (fun _ _ _ _ => ()) v
def gF (v : V) : Option Bool := V.rec (motive_1 := fun _ => Option Bool) (motive_2 := fun _ => Unit)
  (fun b => some (Bool.rec true false b)) (fun _ => none) (fun _ _ => none) (fun _ _ => none) none (fun _ _ => none) none (fun _ _ _ _ => none) none (fun _ => none)
  (fun _ _ _ _ _ => none) none (fun _ _ _ => none) none (fun _ _ => none) (fun _ _ => some false) (fun _ => none) () (fun _ _ _ _ => ()) v
/-- an address -/
def asP {α : Type} (d : α) (f : Nat → Nat → α) (v : V) : α := V.rec (motive_1 := fun _ => α) (motive_2 := fun _ => Unit)
  (fun _ => d) (fun _ => d) (fun _ _ => d) (fun _ _ => d) d (fun B o => f B o) d (fun _ _ _ _ => d) d (fun _ => d)
  (fun _ _ _ _ _ => d) d (fun _ _ _ => d) d (fun _ _ => d) (fun _ _ => d) (fun _ => d) () (fun _ _ _ _ => ()) v
def asA {α : Type} (d : α) (f : List V → α) (v : V) : α := V.rec (motive_1 := fun _ => α) (motive_2 := fun _ => Unit)
  (fun _ => d) (fun _ => d) (fun _ _ => d) (fun _ _ => d) d (fun _ _ => d) d (fun _ _ _ _ => d) d (fun _ => d)
  (fun _ _ _ _ _ => d) d (fun _ _ _ => d) d (fun l _ => f l) (fun _ _ => d) (fun _ => d) () (fun _ _ _ _ => ()) v
def asT {α : Type} (d : α) (f : List V → α) (v : V) : α := V.rec (motive_1 := fun _ => α) (motive_2 := fun _ => Unit)
  (fun _ => d) (fun _ => d) (fun _ _ => d) (fun _ _ => d) d (fun _ _ => d) d (fun _ _ _ _ => d) d (fun _ => d)
  (fun _ _ _ _ _ => d) d (fun _ _ _ => d) d (fun _ _ => d) (fun l _ => f l) (fun _ => d) () (fun _ _ _ _ => ()) v
def asSl {α : Type} (d e : α) (f : Nat → Nat → Nat → Nat → α) (v : V) : α := V.rec (motive_1 := fun _ => α) (motive_2 := fun _ => Unit)
  (fun _ => d) (fun _ => d) (fun _ _ => d) (fun _ _ => d) d (fun _ _ => d) e (fun B o n z => f B o n z) d (fun _ => d)
  (fun _ _ _ _ _ => d) d (fun _ _ _ => d) d (fun _ _ => d) (fun _ _ => d) (fun _ => d) () (fun _ _ _ _ => ()) v
def asM {α : Type} (d e : α) (f : Nat → α) (v : V) : α := V.rec (motive_1 := fun _ => α) (motive_2 := fun _ => Unit)
  (fun _ => d) (fun _ => d) (fun _ _ => d) (fun _ _ => d) d (fun _ _ => d) d (fun _ _ _ _ => d) e (fun B => f B)
  (fun _ _ _ _ _ => d) d (fun _ _ _ => d) d (fun _ _ => d) (fun _ _ => d) (fun _ => d) () (fun _ _ _ _ => ()) v
def asF {α : Type} (d e : α) (f : Nat → List V → List V → α) (v : V) : α := V.rec (motive_1 := fun _ => α) (motive_2 := fun _ => Unit)
  (fun _ => d) (fun _ => d) (fun _ _ => d) (fun _ _ => d) d (fun _ _ => d) d (fun _ _ _ _ => d) d (fun _ => d)
  (fun g a c _ _ => f g a c) e (fun _ _ _ => d) d (fun _ _ => d) (fun _ _ => d) (fun _ => d) () (fun _ _ _ _ => ()) v
-- closed ones
def pLd (v : V) : Option (Nat × Nat) := asP none (fun B o => some (B, o)) v
def isAgV (v : V) : Bool := V.rec (motive_1 := fun _ => Bool) (motive_2 := fun _ => Unit)
  (fun _ => false) (fun _ => false) (fun _ _ => false) (fun _ _ => false) false (fun _ _ => false) false (fun _ _ _ _ => false) false (fun _ => false)
  (fun _ _ _ _ _ => false) false (fun _ _ _ => false) false (fun _ _ => true) (fun _ _ => true) (fun _ => false) () (fun _ _ _ _ => ()) v
def cells' (v : V) : List V := V.rec (motive_1 := fun _ => V → List V) (motive_2 := fun _ => Unit)
  (fun _ v => [v]) (fun _ v => [v]) (fun _ _ v => [v]) (fun _ _ v => [v]) (fun v => [v]) (fun _ _ v => [v]) (fun v => [v]) (fun _ _ _ _ v => [v]) (fun v => [v]) (fun _ v => [v])
  (fun _ _ _ _ _ v => [v]) (fun v => [v]) (fun _ _ _ v => [v]) (fun v => [v]) (fun l _ _ => l) (fun _ _ v => [v]) (fun _ v => [v]) () (fun _ _ _ _ => ()) v v
def len' (l : List V) : Nat := List.rec (motive := fun _ => Nat) 0 (fun _ _ n => Nat.succ n) l
def cellLen' (v : V) : Nat := asA 1 len' v
/-- the row at a number, within which so many cells stand from a place on -/
def row (S : St) (B : Nat) : Option O := T.get S.heap B
def asRow {α : Type} (d : α) (f : T V → Nat → Nat → Z → α) (x : Option O) : α :=
  Option.rec (motive := fun _ => α) d (fun ob => O.rec (motive := fun _ => α) (fun c lo n fz => f c lo n fz) (fun _ => d) ob) x
def asMp {α : Type} (d : α) (f : List (V × V) → α) (x : Option O) : α :=
  Option.rec (motive := fun _ => α) d (fun ob => O.rec (motive := fun _ => α) (fun _ _ _ _ => d) (fun l => f l) ob) x
def iteO {α : Type} (b : Bool) (x : Option α) : Option α := Bool.rec (motive := fun _ => Option α) none x b
def rd' (c : T V) (n o : Nat) : Option (List V) :=
  Nat.rec (motive := fun _ => Nat → Option (List V)) (fun _ => some [])
    (fun _ ih o => Option.rec (motive := fun _ => Option (List V)) none (fun v => Option.rec (motive := fun _ => Option (List V)) none (fun l => some (v :: l)) (frc (Nat.succ o) ih)) (T.get c o)) n o
def wr' (c : T V) (o : Nat) (l : List V) : T V :=
  List.rec (motive := fun _ => T V → Nat → T V) (fun c _ => c) (fun v _ ih c o => frc (Nat.succ o) (ih (T.put c o (some v)))) l c o
def sBytes' (l n : Nat) : List V :=
  Nat.rec (motive := fun _ => Nat → List V) (fun _ => []) (fun _ ih n => frc (Nat.land n 255) fun b => .k .u8 (.ofNat b) :: ih (Nat.shiftRight n 8)) l n
def byte? (v : V) : Option Nat := W.rec (motive := fun _ => Option Nat) (fun _ => none)
  (fun k n => IntKind.rec (motive := fun _ => Int → Option Nat) (fun _ => none) (fun _ => none) (fun _ => none) (fun _ => none)
    (fun n => Int.rec (motive := fun _ => Option Nat) (fun b => Bool.rec (motive := fun _ => Option Nat) none (some b) (Nat.ble (Nat.succ b) 256)) (fun _ => none) n) (fun _ => none) (fun _ => none) (fun _ => none) k n) (fun _ _ => none) none (vw v)
def bytesS' (l : List V) : Option Nat :=
  List.rec (motive := fun _ => Option Nat) (some 0) (fun v _ ih => Option.rec (motive := fun _ => Option Nat) none (fun n => Option.rec (motive := fun _ => Option Nat) none (fun b => some (Nat.add b (Nat.mul 256 n))) (byte? v)) ih) l
/-- a place in a list -/
def nthO : Nat → Box (List V → Option V)
  | 0 => .mk fun l => List.rec (motive := fun _ => Option V) none (fun v _ _ => some v) l
  | d + 1 => match nthO d with
    | .no => .no
    | .mk g => .mk fun l => g (List.rec (motive := fun _ => List V) [] (fun _ l _ => l) l)
def nth' (l : List V) (i : Nat) : Option V := Box.rec (motive := fun _ => Option V) none (fun g => g l) (nthO i)
/-- a list laid over another one -/
def over (ys l : List V) : List V := List.rec (motive := fun _ => List V → List V) (fun l => l)
  (fun y _ ih l => List.rec (motive := fun _ => List V) [] (fun _ r _ => y :: ih r) l) ys l
def setO : Nat → Box (List V → List V → List V)
  | 0 => .mk fun l ys => over ys l
  | d + 1 => match setO d with
    | .no => .no
    | .mk g => .mk fun l ys => List.rec (motive := fun _ => List V) [] (fun x r _ => x :: g r ys) l
def rep' (l : List V) (n : Nat) : List V := Nat.rec (motive := fun _ => List V) [] (fun _ ih => List.rec (motive := fun _ => List V) ih (fun x _ r => x :: r) l) n
def flat1' (v : V) : Bool := Bool.rec true false (isAgV v)
def flat' (l : List V) : Bool := List.rec (motive := fun _ => Bool) true (fun v _ ih => Bool.rec (motive := fun _ => Bool) false ih (flat1' v)) l
def take' (l : List V) (n : Nat) : List V := List.rec (motive := fun _ => Nat → List V) (fun _ => []) (fun x _ ih n => Nat.rec (motive := fun _ => List V) [] (fun m _ => x :: ih m) n) l n
def drop' (l : List V) (n : Nat) : List V := Nat.rec (motive := fun _ => List V → List V) (fun l => l) (fun _ ih l => ih (List.rec (motive := fun _ => List V) [] (fun _ r _ => r) l)) n l

-- integers
def wrapN (k : IntKind) : Nat → Int := IntKind.rec (motive := fun _ => Nat → Int)
  (fun m => IntKind.wrap .i8 (.ofNat m)) (fun m => IntKind.wrap .i16 (.ofNat m)) (fun m => IntKind.wrap .i32 (.ofNat m)) (fun m => i64 (.ofNat m))
  (fun m => .ofNat (Nat.land m 255)) (fun m => .ofNat (Nat.land m 65535)) (fun m => .ofNat (Nat.land m 4294967295)) (fun m => .ofNat (Nat.land m 18446744073709551615)) k
def wrap' (k : IntKind) (n : Int) : Int := Int.rec (motive := fun _ => Int) (fun m => wrapN k m) (fun m => IntKind.wrap k (.negSucc m)) n
def i64' (n : Int) : Int := Int.rec (motive := fun _ => Int)
  (fun m => Bool.rec (motive := fun _ => Int) (IntKind.i64.wrap (.ofNat m)) (.ofNat m) (Nat.ble m 9223372036854775807))
  (fun m => Bool.rec (motive := fun _ => Int) (IntKind.i64.wrap (.negSucc m)) (.negSucc m) (Nat.ble m 9223372036854775807)) n
def add' (x y : Int) : Int := Int.rec (motive := fun _ => Int) (fun a => Int.rec (motive := fun _ => Int) (fun b => .ofNat (Nat.add a b)) (fun b => Int.subNatNat a (Nat.succ b)) y)
  (fun a => Int.rec (motive := fun _ => Int) (fun b => Int.subNatNat b (Nat.succ a)) (fun b => .negSucc (Nat.succ (Nat.add a b))) y) x
def sub' (x y : Int) : Int := Int.rec (motive := fun _ => Int) (fun a => Int.rec (motive := fun _ => Int) (fun b => Bool.rec (motive := fun _ => Int) (.negSucc (Nat.sub (Nat.sub b a) 1)) (.ofNat (Nat.sub a b)) (Nat.ble b a)) (fun b => isub (.ofNat a) (.negSucc b)) y)
  (fun a => isub (.negSucc a) y) x
def eq' (x y : Int) : Bool := Int.rec (motive := fun _ => Bool) (fun a => Int.rec (motive := fun _ => Bool) (fun b => Nat.beq a b) (fun _ => false) y) (fun a => Int.rec (motive := fun _ => Bool) (fun _ => false) (fun b => Nat.beq a b) y) x
def lt' (x y : Int) : Bool := Int.rec (motive := fun _ => Bool) (fun a => Int.rec (motive := fun _ => Bool) (fun b => Nat.ble (Nat.succ a) b) (fun _ => false) y) (fun a => Int.rec (motive := fun _ => Bool) (fun _ => true) (fun b => Nat.ble (Nat.succ b) a) y) x
def le' (x y : Int) : Bool := Int.rec (motive := fun _ => Bool) (fun a => Int.rec (motive := fun _ => Bool) (fun b => Nat.ble a b) (fun _ => false) y) (fun a => Int.rec (motive := fun _ => Bool) (fun _ => true) (fun b => Nat.ble b a) y) x
def frcI' {α : Type} (n : Int) (k : Int → α) : α := Int.rec (motive := fun _ => α) (fun m => frc m fun m => k (.ofNat m)) (fun m => frc m fun m => k (.negSucc m)) n
def mkI' (k : IntKind) (n : Int) : V := IntKind.rec (motive := fun _ => Int → V) (fun n => .k .i8 n) (fun n => .k .i16 n) (fun n => .k .i32 n) (fun n => .i n) (fun n => .k .u8 n) (fun n => .k .u16 n) (fun n => .k .u32 n) (fun n => .k .u64 n) k n
def not' (b : Bool) : Bool := Bool.rec (motive := fun _ => Bool) true false b
def and' (a b : Bool) : Bool := Bool.rec (motive := fun _ => Bool) false b a
def kNat (k : IntKind) : Nat := IntKind.rec (motive := fun _ => Nat) 0 1 2 3 4 5 6 7 k
def kEq' (a b : IntKind) : Bool := Nat.beq (kNat a) (kNat b)
abbrev Ar := IntKind → Int → Int → Option V
def arAdd : Ar := fun k x y => some (frcI' (wrap' k (add' x y)) fun n => mkI' k n)
def arSub : Ar := fun k x y => some (frcI' (wrap' k (sub' x y)) fun n => mkI' k n)
def arLt : Ar := fun _ x y => some (.b (lt' x y))
def arLe : Ar := fun _ x y => some (.b (le' x y))
def arGt : Ar := fun _ x y => some (.b (lt' y x))
def arGe : Ar := fun _ x y => some (.b (le' y x))
def natBits (k : IntKind) : Nat := IntKind.rec (motive := fun _ => Nat) 8 16 32 64 8 16 32 64 k
def mask (k : IntKind) : Nat := IntKind.rec (motive := fun _ => Nat) 255 65535 4294967295 18446744073709551615 255 65535 4294967295 18446744073709551615 k
def bits' (k : IntKind) (n : Int) : Nat := Int.rec (motive := fun _ => Nat) (fun m => Nat.land m (mask k)) (fun m => bitsN k (.negSucc m)) n
def arAnd : Ar := fun k x y => some (frcI' (wrap' k (Int.ofNat (Nat.land (bits' k x) (bits' k y)))) fun n => mkI' k n)
def arOr : Ar := fun k x y => some (frcI' (wrap' k (Int.ofNat (Nat.lor (bits' k x) (bits' k y)))) fun n => mkI' k n)
def arXor : Ar := fun k x y => some (frcI' (wrap' k (Int.ofNat (Nat.xor (bits' k x) (bits' k y)))) fun n => mkI' k n)
def min' (a b : Nat) : Nat := Bool.rec (motive := fun _ => Nat) b a (Nat.ble a b)
def arShl : Ar := fun k x y => Int.rec (motive := fun _ => Option V) (fun y => Int.rec (motive := fun _ => Option V) (fun x => some (frcI' (wrapN k (Nat.shiftLeft x (min' y (natBits k)))) fun n => mkI' k n)) (fun x => arith .shl k (.negSucc x) (.ofNat y)) x) (fun _ => none) y
def arShr : Ar := fun k x y => Int.rec (motive := fun _ => Option V) (fun y => Int.rec (motive := fun _ => Option V) (fun x => some (frcI' (.ofNat (Nat.shiftRight x (min' y (natBits k)))) fun n => mkI' k n)) (fun x => arith .shr k (.negSucc x) (.ofNat y)) x) (fun _ => none) y
def arMul : Ar := fun k x y => Int.rec (motive := fun _ => Option V) (fun x => Int.rec (motive := fun _ => Option V) (fun y => some (frcI' (wrapN k (Nat.mul x y)) fun n => mkI' k n)) (fun y => arith .mul k (.ofNat x) (.negSucc y)) y) (fun x => arith .mul k (.negSucc x) y) x
def arQuo : Ar := fun k x y => Int.rec (motive := fun _ => Option V) (fun x => Int.rec (motive := fun _ => Option V) (fun y => Bool.rec (motive := fun _ => Option V) (some (frcI' (wrapN k (Nat.div x y)) fun n => mkI' k n)) none (Nat.beq y 0)) (fun y => arith .quo k (.ofNat x) (.negSucc y)) y) (fun x => arith .quo k (.negSucc x) y) x
def arRem : Ar := fun k x y => Int.rec (motive := fun _ => Option V) (fun x => Int.rec (motive := fun _ => Option V) (fun y => Bool.rec (motive := fun _ => Option V) (some (frcI' (.ofNat (Nat.mod x y)) fun n => mkI' k n)) none (Nat.beq y 0)) (fun y => arith .rem k (.ofNat x) (.negSucc y)) y) (fun x => arith .rem k (.negSucc x) y) x
/-- two numbers of one kind; two texts; else as h has it -/
def bin2 (f : Ar) (g : Nat → Nat → Nat → Nat → Option V) (h : V → V → Option V) (x y : V) : Option V :=
  W.rec (motive := fun _ => Option V)
    (fun a => W.rec (motive := fun _ => Option V) (fun b => f .i64 a b) (fun _ _ => h x y) (fun _ _ => h x y) (h x y) (vw y))
    (fun k a => W.rec (motive := fun _ => Option V) (fun _ => h x y) (fun k' b => Bool.rec (motive := fun _ => Option V) (h x y) (f k a b) (kEq' k k')) (fun _ _ => h x y) (h x y) (vw y))
    (fun l n => W.rec (motive := fun _ => Option V) (fun _ => h x y) (fun _ _ => h x y) (fun l' n' => g l n l' n') (h x y) (vw y))
    (h x y) (vw x)
/-- a shift -/
def bin3 (f : Ar) (h : V → V → Option V) (x y : V) : Option V :=
  W.rec (motive := fun _ => Option V)
    (fun a => W.rec (motive := fun _ => Option V) (fun b => f .i64 a b) (fun _ b => f .i64 a b) (fun _ _ => h x y) (h x y) (vw y))
    (fun k a => W.rec (motive := fun _ => Option V) (fun b => f k a b) (fun _ b => f k a b) (fun _ _ => h x y) (h x y) (vw y))
    (fun _ _ => h x y) (h x y) (vw x)
def noS (_ _ _ _ : Nat) : Option V := none
def catS (l n l' n' : Nat) : Option V := frc (Nat.add l l') fun k => Bool.rec (motive := fun _ => Option V) none (some (frc (Nat.add n (Nat.shiftLeft n' (Nat.mul 8 l))) fun m => .s k m)) (Nat.ble k 4294967296)
def binB (op : BinOp) : Box (V → V → Option V) := match op with
  | .add => .mk (bin2 arAdd catS (bin .add))
  | .sub => .mk (bin2 arSub noS (bin .sub))
  | .mul => .mk (bin2 arMul noS (bin .mul))
  | .quo => .mk (bin2 arQuo noS (bin .quo))
  | .rem => .mk (bin2 arRem noS (bin .rem))
  | .and => .mk (bin2 arAnd noS (bin .and))
  | .or => .mk (bin2 arOr noS (bin .or))
  | .xor => .mk (bin2 arXor noS (bin .xor))
  | .shl => .mk (bin3 arShl (bin .shl))
  | .shr => .mk (bin3 arShr (bin .shr))
  | .lss => .mk (bin2 arLt noS (bin .lss))
  | .leq => .mk (bin2 arLe noS (bin .leq))
  | .gtr => .mk (bin2 arGt noS (bin .gtr))
  | .geq => .mk (bin2 arGe noS (bin .geq))
  | op => .mk (bin op)
section
variable (P : Program)
-- '==' of two values
def eqInt' (x y : V) : Option Bool := W.rec (motive := fun _ => Option Bool)
  (fun a => W.rec (motive := fun _ => Option Bool) (fun b => some (eq' a b)) (fun _ _ => none) (fun _ _ => none) (eqInt x y) (vw y))
  (fun k a => W.rec (motive := fun _ => Option Bool) (fun _ => none) (fun k' b => Bool.rec (motive := fun _ => Option Bool) none (some (eq' a b)) (kEq' k k')) (fun _ _ => none) (eqInt x y) (vw y))
  (fun _ _ => none) (eqInt x y) (vw x)
def eqStr' (x y : V) : Option Bool := W.rec (motive := fun _ => Option Bool) (fun _ => none) (fun _ _ => none)
  (fun l n => W.rec (motive := fun _ => Option Bool) (fun _ => none) (fun _ _ => none) (fun l' n' => some (and' (Nat.beq l l') (Nat.beq n n'))) (eqStr x y) (vw y)) (eqStr x y) (vw x)
def eqBool' (x y : V) : Option Bool := Option.rec (motive := fun _ => Option Bool) none (fun a => Option.rec (motive := fun _ => Option Bool) none (fun b => some (Bool.rec (motive := fun _ => Bool) (not' b) b a)) (asB y)) (asB x)
/-- what stands behind an address: nil (0), an address (1), neither (2) -/
def pKind (v : V) : Nat := V.rec (motive_1 := fun _ => Nat) (motive_2 := fun _ => Unit)
  (fun _ => 2) (fun _ => 2) (fun _ _ => 2) (fun _ _ => 2) 0 (fun _ _ => 1) 2 (fun _ _ _ _ => 2) 2 (fun _ => 2)
  (fun _ _ _ _ _ => 2) 2 (fun _ _ _ => 2) 2 (fun _ _ => 2) (fun _ _ => 2) (fun _ => 2) () (fun _ _ _ _ => ()) v
/-- nil (0), no nil (1), neither (2): slices, maps, functions, interfaces -/
def slKind (v : V) : Nat := V.rec (motive_1 := fun _ => Nat) (motive_2 := fun _ => Unit)
  (fun _ => 2) (fun _ => 2) (fun _ _ => 2) (fun _ _ => 2) 2 (fun _ _ => 2) 0 (fun _ _ _ _ => 1) 2 (fun _ => 2)
  (fun _ _ _ _ _ => 2) 2 (fun _ _ _ => 2) 2 (fun _ _ => 2) (fun _ _ => 2) (fun _ => 2) () (fun _ _ _ _ => ()) v
def by2 {α : Type} (a b c : α) (n : Nat) : α := Nat.rec (motive := fun _ => α) a (fun n _ => Nat.rec (motive := fun _ => α) b (fun _ _ => c) n) n
def liveB (S : St) (B : Nat) : Bool := asRow false (fun _ _ _ fz => Nat.beq fz.k 0) (T.get S.heap B)
def eqPtr' (S : St) (x y : V) : Option Bool :=
  by2 (by2 (some true) (some false) none (pKind y))
    (by2 (some false) (asP none (fun B o => asP none (fun B' o' => Bool.rec (motive := fun _ => Option Bool)
      (iteO (liveB S B) (iteO (liveB S B') (some false))) (some (Nat.beq o o')) (Nat.beq B B')) y) x) none (pKind y))
    none (pKind x)
def eqSl' (x y : V) : Option Bool := by2 (by2 (some true) (some false) none (slKind y)) (by2 (some false) none none (slKind y)) none (slKind x)
def eqFs' (e : Nat → Box (St → KEq)) : List Field → Box (St → List V → List V → Option Bool)
  | [] => .mk fun _ _ _ => some true
  | f :: r => match f.name == "_" with
    | true => .no
    | false => match partB P f.type f.offset with
      | .no => .no
      | .mk p => match e f.type with
        | .no => .no
        | .mk q => match eqFs' e r with
          | .no => .no
          | .mk g => .mk fun S l m => Option.rec (motive := fun _ => Option Bool) none (fun x => Option.rec (motive := fun _ => Option Bool) none (fun y =>
              Option.rec (motive := fun _ => Option Bool) none (fun b => Bool.rec (motive := fun _ => Option Bool) (some false) (g S l m) b) (q S x y)) (p m)) (p l)
def aggEq' (g : St → List V → List V → Option Bool) (S : St) (x y : V) : Option Bool := asA none (fun l => asA none (fun r => g S l r) y) x
def eqB' : Nat → Nat → Box (St → KEq)
  | 0, _ => .no
  | d + 1, t => match P.underlying t with
    | some (.int _) => .mk fun _ => eqInt'
    | some .string => .mk fun _ => eqStr'
    | some .bool => .mk fun _ => eqBool'
    | some (.pointer e) => (match szB P e with | .mk (_ + 1) => .mk eqPtr' | _ => .no)
    | some (.slice _) => .mk fun _ => eqSl'
    | some (.map _ _) => .mk fun _ => eqMap
    | some (.func _ _ _) => .mk fun _ => eqFn
    | some (.interface _) => .mk fun _ => eqIf
    | some (.struct fs) => (match or (P.stoodInHeld t) (P.eqGuardType P.depth t) with
      | true => .no
      | false => match eqFs' P (eqB' d) fs.toList with
        | .no => .no
        | .mk g => .mk (aggEq' g))
    | _ => .no
def keyB' (t : Nat) : Box KEq := match P.underlying t with
  | some (.int _) => .mk eqInt'
  | some .string => .mk eqStr'
  | some .bool => .mk eqBool'
  | some (.struct _) => (match eqB' P 6 t with
    | .no => .no
    | .mk e => .mk fun x y => Option.rec (motive := fun _ => Option Bool) none (fun b => Bool.rec (motive := fun _ => Option Bool) none (e ⟨.e, 0⟩ x y) b) (e ⟨.e, 0⟩ x x))
  | _ => .no
-- light operations
def ld1 (v : V) (S : St) : Option V := asP none (fun B o => asRow none (fun c lo n _ => iteO (Nat.ble lo o) (iteO (Nat.ble (Nat.succ o) n) (T.get c o))) (T.get S.heap B)) v
def ldA (size : Nat) (v : V) (S : St) : Option V := asP none (fun B o => asRow none (fun c lo n _ => iteO (Nat.ble lo o) (iteO (Nat.ble (Nat.add o size) n) (Option.rec (motive := fun _ => Option V) none (fun l => some (.a l)) (rd' c size o)))) (T.get S.heap B)) v
def lMove' (x : Cx) (o : Operand) : Box Light := match x.ev o with | .no => .no | .mk f => .mk fun L F _ => some (f L F)
def lPick' (x : Cx) (c a b : Operand) : Box Light := match x.ev c with
  | .no => .no
  | .mk c => match x.ev a with
    | .no => .no
    | .mk a => match x.ev b with
      | .no => .no
      | .mk b => .mk fun L F _ => Option.rec (motive := fun _ => Option V) none (fun q => some (Bool.rec (motive := fun _ => V) (b L F) (a L F) q)) (asB (c L F))
def lLoad' (x : Cx) (t : Nat) (a : Operand) : Box Light := match isAg P t with
  | .no => .no
  | .mk g => match szB P t with
    | .no => .no
    | .mk n => match x.ev a with
      | .no => .no
      | .mk f => match or g (Nat.beq n 1) with
        | true => (match g with | true => .mk fun L F S => ldA n (f L F) S | false => .mk fun L F S => ld1 (f L F) S)
        | false => .no
def nilC' (v : V) : Option V := V.rec (motive_1 := fun _ => V → Option V) (motive_2 := fun _ => Unit)
  (fun _ _ => none) (fun _ _ => none) (fun _ _ _ => none) (fun _ _ _ => none) (fun _ => none) (fun _ _ v => some v) (fun _ => none) (fun _ _ _ _ _ => none) (fun _ => none) (fun _ _ => none)
  (fun _ _ _ _ _ v => some v) (fun _ => none) (fun _ _ _ _ => none) (fun _ => none) (fun _ _ _ => none) (fun _ _ _ => none) (fun _ _ => none) () (fun _ _ _ _ => ()) v v
def lNil' (x : Cx) (o : Operand) : Box Light := match x.ev o with
  | .no => .no
  | .mk f => .mk fun L F _ => nilC' (f L F)
def eqV1 (r : Option Bool) : Option V := Option.rec (motive := fun _ => Option V) none (fun b => some (.b b)) r
def eqV0 (r : Option Bool) : Option V := Option.rec (motive := fun _ => Option V) none (fun b => some (.b (not' b))) r
def lEq' (x : Cx) (op : BinOp) (t : Nat) (a b : Operand) : Box Light := match x.ev a with
  | .no => .no
  | .mk f => match x.ev b with
    | .no => .no
    | .mk g => match eqB' P 6 t with
      | .no => .no
      | .mk e => match op with
        | .eql => .mk fun L F S => eqV1 (e S (f L F) (g L F))
        | _ => .mk fun L F S => eqV0 (e S (f L F) (g L F))
def lAr' (x : Cx) (op : BinOp) (a b : Operand) : Box Light := match x.ev a with
  | .no => .no
  | .mk f => match x.ev b with
    | .no => .no
    | .mk g => match binB op with
      | .no => .no
      | .mk h => .mk fun L F _ => h (f L F) (g L F)
def lBin' (x : Cx) (op : BinOp) (t : Nat) (a b : Operand) : Box Light := match op with
  | .eql => lEq' P x .eql t a b
  | .neq => lEq' P x .neq t a b
  | op => lAr' x op a b
def unNot' (v : V) : Option V := Option.rec (motive := fun _ => Option V) none (fun b => some (.b (not' b))) (asB v)
def lUn' (x : Cx) (op : UnOp) (a : Operand) : Box Light := match x.ev a with
  | .no => .no
  | .mk f => match op with
    | .not => .mk fun L F _ => unNot' (f L F)
    | .neg => .mk fun L F _ => unNeg (f L F)
    | .xor => .mk fun L F _ => unXor (f L F)
    | _ => .no
def cvInt' (k : IntKind) (v : V) : Option V := W.rec (motive := fun _ => Option V) (fun n => some (frcI' (wrap' k n) fun n => mkI' k n)) (fun _ n => some (frcI' (wrap' k n) fun n => mkI' k n)) (fun _ _ => none) (cvInt k v) (vw v)
def src' (size n : Nat) (v : V) (S : St) : Option (List V) := asSl
  (W.rec (motive := fun _ => Option (List V)) (fun _ => none) (fun _ _ => none) (fun l m => iteO (Nat.ble n l) (iteO (Nat.beq size 1) (some (sBytes' n m)))) (src size n v S) (vw v))
  (by2 (some []) none none n)
  (fun B o len z => asRow none (fun c lo sz _ => iteO (Nat.beq z size) (iteO (Nat.ble n len) (iteO (Nat.ble lo o) (iteO (Nat.ble (Nat.add o (Nat.mul n size)) sz) (rd' c (Nat.mul n size) o))))) (T.get S.heap B)) v
def cvBytes' (S : St) (v : V) : Option V := asSl none (some (.s 0 0)) (fun B o n z => Option.rec (motive := fun _ => Option V) none (fun l => Option.rec (motive := fun _ => Option V) (Option.rec (motive := fun _ => Option V) none (fun l => some (mkTxt l)) (bytesY l)) (fun m => some (frc m fun m => .s n m)) (bytesS' l)) (src' 1 n (.sl B o n z) S)) v
def lConv' (x : Cx) (s d : Nat) (a : Operand) : Box Light := match x.ev a with
  | .no => .no
  | .mk f => match P.underlying d with
    | some (.int k) => (match P.underlying s with
      | some _ => .mk fun L F _ => cvInt' k (f L F)
      | none => .no)
    | some .string => (match P.underlying s with
      | some .string => .mk fun L F _ => cvStr (f L F)
      | some (.slice e) => (match P.underlying e with
        | some (.int .u8) => .mk fun L F S => cvBytes' S (f L F)
        | _ => .no)
      | _ => .no)
    | some .unsafePointer => (match P.underlying s with
      | some (.pointer t) => (match szB P t with
        | .mk n => (match Nat.beq n 0 with | true => .no | false => .mk fun L F S => toUns S (f L F))
        | .no => .no)
      | _ => .no)
    | some (.pointer t) => (match P.underlying s with
      | some .unsafePointer => (match szB P t with
        | .mk n => (match Nat.beq n 0 with | true => .no | false => .mk fun L F S => ofUns t n S (f L F))
        | .no => .no)
      | _ => .no)
    | _ => .no
def lBuild' (x : Cx) (t : Nat) (ps : List (Nat × Operand)) (parts : Cx → Nat → (Nat → Box (Nat × Nat)) → List (Nat × Operand) → Box (List V → Fr → List V → Option (List V))) : Box Light := match buildOk P t with
| false => .no
| true => match zeroB P t with
  | .no => .no
  | .mk z => match cells z with
    | zs => match parts x zs.length (buildPl P t) ps with
      | .no => .no
      | .mk g => .mk fun L F _ => Option.rec (motive := fun _ => Option V) none (fun l => some (.a l)) (g L F zs)
def partsB' (x : Cx) (n : Nat) (place : Nat → Box (Nat × Nat)) : List (Nat × Operand) → Box (List V → Fr → List V → Option (List V))
  | [] => .mk fun _ _ z => some z
  | p :: r => match place p.1 with
    | .no => .no
    | .mk q => match Nat.ble (Nat.add q.1 q.2) n with
      | false => .no
      | true => match x.ev p.2 with
        | .no => .no
        | .mk f => match partsB' x n place r with
          | .no => .no
          | .mk g => match setO q.1 with
            | .no => .no
            | .mk st => match q.2 with
              | m => .mk fun L F z => Bool.rec (motive := fun _ => Option (List V)) none (g L F (st z (cells' (f L F)))) (Nat.beq (cellLen' (f L F)) m)
def fldA' (off : Nat) (v : V) : Option V := asP none (fun B o => some (frc (Nat.add o off) fun o => .p B o)) v
def lFieldA' (x : Cx) (t : Nat) (a : Operand) (i : Nat) : Box Light := match x.ev a with
  | .no => .no
  | .mk f => match fieldB P t i with
    | .no => .no
    | .mk fd => match szB P fd.type with
      | .no => .no
      | .mk n => match Nat.beq n 0 with
        | true => .no
        | false => match fd.offset with
          | off => .mk fun L F _ => fldA' off (f L F)
def fldS' (off n : Nat) (v : V) : Option V := asA none (fun l => iteO (Nat.ble (Nat.add off n) (len' l)) (some (.a (take' (drop' l off) n)))) v
def lField' (x : Cx) (t : Nat) (a : Operand) (i : Nat) : Box Light := match x.ev a with
  | .no => .no
  | .mk f => match fieldB P t i with
    | .no => .no
    | .mk fd => match isAg P fd.type with
      | .no => .no
      | .mk false => (match nthO fd.offset with
        | .no => .no
        | .mk g => .mk fun L F _ => asA none g (f L F))
      | .mk true => match szB P fd.type with
        | .no => .no
        | .mk n => match fd.offset with
          | off => .mk fun L F _ => fldS' off n (f L F)
/-- a number that is none below 0 -/
def asN (v : V) : Option Nat := W.rec (motive := fun _ => Option Nat) (fun n => Int.rec (motive := fun _ => Option Nat) (fun m => some m) (fun _ => none) n) (fun _ n => Int.rec (motive := fun _ => Option Nat) (fun m => some m) (fun _ => none) n) (fun _ _ => none) none (vw v)
def ixSl' (n : Nat) (v i : V) : Option V := asSl none none (fun B o len z => Option.rec (motive := fun _ => Option V) none (fun i => iteO (Nat.ble (Nat.succ i) len) (iteO (Nat.beq z n) (some (frc (Nat.add o (Nat.mul i n)) fun o => .p B o)))) (asN i)) v
def ixAr' (n len : Nat) (v i : V) : Option V := asP none (fun B o => Option.rec (motive := fun _ => Option V) none (fun i => iteO (Nat.ble (Nat.succ i) len) (some (frc (Nat.add o (Nat.mul i n)) fun o => .p B o))) (asN i)) v
def lIndexA' (x : Cx) (t : Nat) (a i : Operand) : Box Light := match x.ev a with
  | .no => .no
  | .mk f => match x.ev i with
    | .no => .no
    | .mk g => match elemB P t with
      | .no => .no
      | .mk e => match szB P e with
        | .no => .no
        | .mk n => match P.underlying t with
          | some (.slice _) => .mk fun L F _ => ixSl' n (f L F) (g L F)
          | some (.array len _) => .mk fun L F _ => ixAr' n len (f L F) (g L F)
          | _ => .no
def ixStr' (v i : V) : Option V := W.rec (motive := fun _ => Option V) (fun _ => none) (fun _ _ => none)
  (fun l n => Option.rec (motive := fun _ => Option V) none (fun i => iteO (Nat.ble (Nat.succ i) l) (some (frc (Nat.land (Nat.shiftRight n (Nat.mul 8 i)) 255) fun c => .k .u8 (.ofNat c)))) (asN i)) (ixStr v i) (vw v)
def lIndex' (x : Cx) (t : Nat) (a i : Operand) : Box Light := match x.ev a with
  | .no => .no
  | .mk f => match x.ev i with
    | .no => .no
    | .mk g => match P.underlying t with
      | some .string => .mk fun L F _ => ixStr' (f L F) (g L F)
      | some (.array len e) => (match isAg P e with
        | .mk false => (match szB P e with
          | .mk 1 => .mk fun L F _ => ixAgg len (f L F) (g L F)
          | _ => .no)
        | _ => .no)
      | _ => .no
/-- the bounds of a slice -/
def bnd' {α : Type} (lo hi : Option V) (n : Nat) (k : Nat → Nat → Option α) : Option α :=
  Option.rec (motive := fun _ => Option α) none (fun h => Option.rec (motive := fun _ => Option α) none (fun l => iteO (Nat.ble l h) (iteO (Nat.ble h n) (k l h)))
    (Option.rec (motive := fun _ => Option Nat) (some 0) asN lo)) (Option.rec (motive := fun _ => Option Nat) (some n) asN hi)
def slStr' (v : V) (a b : Option V) : Option V := W.rec (motive := fun _ => Option V) (fun _ => none) (fun _ _ => none)
  (fun l n => bnd' a b l fun p q => some (frc (Nat.sub q p) fun len => frc (sSub n p len) fun m => .s len m)) (slStr v a b) (vw v)
def slSl' (sz : Nat) (v : V) (a b : Option V) : Option V := asSl none (bnd' a b 0 fun _ _ => some .nils)
  (fun B o len z => iteO (Nat.beq z sz) (bnd' a b len fun p q => some (frc (Nat.add o (Nat.mul p sz)) fun o => frc (Nat.sub q p) fun n => .sl B o n z))) v
def lSlice' (x : Cx) (t : Nat) (v : Operand) (lo hi mx : Option Operand) : Box Light := match x.ev v with
  | .no => .no
  | .mk f => match x.evo lo with
    | .no => .no
    | .mk a => match x.evo hi with
      | .no => .no
      | .mk b => match mx with
        | some _ => .no
        | none => match P.underlying t with
          | some .string => .mk fun L F _ => slStr' (f L F) (a L F) (b L F)
          | some (.slice e) => (match szB P e with
            | .no => .no
            | .mk sz => .mk fun L F _ => slSl' sz (f L F) (a L F) (b L F))
          | some (.array len e) => (match szB P e with
            | .no => .no
            | .mk sz => .mk fun L F S => slAr sz len (f L F) (a L F) (b L F) S)
          | _ => .no
def lExtract' (x : Cx) (t : Operand) (i : Nat) : Box Light := match x.ev t with
  | .no => .no
  | .mk f => match nthO i with
    | .no => .no
    | .mk g => .mk fun L F _ => asT none g (f L F)
def mget' (e : KEq) (k : V) (l : List (V × V)) : Option (Option V) := List.rec (motive := fun _ => Option (Option V)) (some none)
  (fun a _ ih => Option.rec (motive := fun _ => Option (Option V)) none (fun b => Bool.rec (motive := fun _ => Option (Option V)) ih (some (some a.2)) b) (e k a.1)) l
def lkup' (e : KEq) (fnd : V → V) (non : V) (k : V) (S : St) (v : V) : Option V :=
  asM none (Option.rec (motive := fun _ => Option V) none (fun _ => some non) (e k k))
    (fun B => asMp none (fun es => Option.rec (motive := fun _ => Option V) none (fun _ => Option.rec (motive := fun _ => Option V) none (fun r => Option.rec (motive := fun _ => Option V) (some non) (fun v => some (fnd v)) r) (mget' e k es)) (e k k)) (T.get S.heap B)) v
def lLookup' (x : Cx) (t : Nat) (m k : Operand) (ok : Bool) : Box Light := match x.ev m with
  | .no => .no
  | .mk f => match x.ev k with
    | .no => .no
    | .mk g => match P.underlying t with
      | some (.map kt e) => (match zeroB P e with
        | .no => .no
        | .mk z => match keyB' P kt with
          | .no => .no
          | .mk q => match ok with
            | true => .mk fun L F S => lkup' q (fun v => .t [v, .b true]) (.t [z, .b false]) (g L F) S (f L F)
            | false => .mk fun L F S => lkup' q (fun v => v) z (g L F) S (f L F))
      | _ => .no
def lenS' (v : V) : Option V := W.rec (motive := fun _ => Option V) (fun _ => none) (fun _ _ => none) (fun l _ => some (.i (.ofNat l))) (lenS v) (vw v)
def lenSl' (v : V) : Option V := V.rec (motive_1 := fun _ => Option V) (motive_2 := fun _ => Unit)
  (fun _ => none) (fun _ => none) (fun _ _ => none) (fun _ _ => none) none (fun _ _ => none) (some (.i (.ofNat 0))) (fun _ _ n _ => some (.i (.ofNat n))) none (fun _ => none)
  (fun _ _ _ _ _ => none) none (fun _ _ _ => none) none (fun _ _ => none) (fun _ _ => none) (fun _ => none) () (fun _ _ _ _ => ()) v
def lLen' (x : Cx) (args : List Operand) (ts : List Nat) : Box Light := match args with
  | [a] => (match x.ev a with
    | .no => .no
    | .mk f => match ts with
      | [t] => (match P.underlying t with
        | some .string => .mk fun L F _ => lenS' (f L F)
        | some (.slice _) => .mk fun L F _ => lenSl' (f L F)
        | some (.array n _) => .mk fun _ _ _ => some (.i (.ofNat n))
        | some (.map _ _) => .mk fun L F S => lenM S (f L F)
        | _ => .no)
      | _ => .no)
  | _ => .no
def lCall' (x : Cx) (c : Call) : Box Light := match c.callee with
  | .builtin .unsafeSliceData => lSlData x c.args.toList
  | .builtin .len => lLen' P x c.args.toList c.argTypes.toList
  | .builtin .min => lMin x c.args.toList
  | .builtin .max => lMax x c.args.toList
  | _ => .no
def lightB' (x : Cx) (o : Op) : Box Light :=
  match o with
  | .move a => lMove' x a
  | .assign a => lMove' x a
  | .pick c a b => lPick' x c a b
  | .load t a => lLoad' P x t a
  | .nilCheck a => lNil' x a
  | .binOp op t a b _ => lBin' P x op t a b
  | .unOp op _ a => lUn' x op a
  | .convert s d a => lConv' P x s d a
  | .makeInterface t a => lIface P x t a
  | .makeFunc (.func g) first caps => lFunc x g first.toList caps.toList
  | .build t ps => lBuild' P x t ps.toList partsB'
  | .fieldAddr t a i => lFieldA' P x t a i
  | .field t a i => lField' P x t a i
  | .indexAddr t a i => lIndexA' P x t a i
  | .index t a i => lIndex' P x t a i
  | .slice t a lo hi mx => lSlice' P x t a lo hi mx
  | .extract t i => lExtract' x t i
  | .lookup t a k ok => lLookup' P x t a k ok
  | .call c => lCall' P x c
  | _ => .no
-- operations that turn the heap
def mkRow' (l : List V) (fz : Z) (S : St) (k : Nat → St → O2) : O2 :=
  frc S.next fun n => k n ⟨T.put S.heap n (some (.row (wr' .e 0 l) 0 (len' l) fz)), Nat.succ n⟩
def hAlloc' (t : Nat) : Box Step := match zeroB P t with
  | .no => .no
  | .mk z => match cells z with
    | l => match flat l with
      | true => (match O.row (wr' .e 0 l) 0 (len' l) ⟨0, t⟩ with
        | r => .mk fun _ _ _ S => frc S.next fun n => .ok (.p n 0) ⟨T.put S.heap n (some r), Nat.succ n⟩)
      | false => .no
def hBox' (x : Cx) (t : Nat) (a : Operand) : Box Step := match x.ev a with
  | .no => .no
  | .mk f => .mk fun _ L F S => Bool.rec (motive := fun _ => O2) .bad (mkRow' (cells' (f L F)) ⟨0, t⟩ S fun B S => .ok (.p B 0) S) (flat' (cells' (f L F)))
def hBuildSl' (x : Cx) (t n : Nat) (ps : List (Nat × Operand)) : Box Step := match slElB P t with
  | .no => .no
  | .mk e => match szB P e with
    | .no => .no
    | .mk sz => match zeroB P e with
      | .no => .no
      | .mk z => match and (Nat.ble (Nat.mul n sz) 1000000) (and (Nat.blt 0 sz) (Nat.beq (cells z).length sz)) with
        | false => .no
        | true => match partsB' x (Nat.mul n sz) (elemPl sz) ps with
          | .no => .no
          | .mk g => match rep (cells z) n with
            | zs => .mk fun _ L F S => Option.rec (motive := fun _ => O2) .bad (fun l => Bool.rec (motive := fun _ => O2) .bad (mkRow' l ⟨0, e⟩ S fun B S => .ok (.sl B 0 n sz) S) (flat' l)) (g L F zs)
def iteB (b : Bool) (x : O2) : O2 := Bool.rec (motive := fun _ => O2) .bad x b
def stv' (size : Nat) (a v : V) (S : St) : O2 := asP .bad (fun B o => asRow .bad (fun c lo n fz =>
    iteB (Nat.ble (Nat.succ fz.k) 2) (iteB (Nat.ble lo o) (iteB (Nat.ble (Nat.add o size) n) (iteB (Nat.beq (cellLen' v) size) (iteB (flat' (cells' v))
      (.ok u ⟨T.put S.heap B (some (.row (wr' c o (cells' v)) lo n fz)), S.next⟩)))))) (T.get S.heap B)) a
def st1 (a v : V) (S : St) : O2 := asP .bad (fun B o => asRow .bad (fun c lo n fz =>
    iteB (Nat.ble (Nat.succ fz.k) 2) (iteB (Nat.ble lo o) (iteB (Nat.ble (Nat.succ o) n)
      (.ok u ⟨T.put S.heap B (some (.row (T.put c o (some v)) lo n fz)), S.next⟩)))) (T.get S.heap B)) a
def hStore' (x : Cx) (t : Nat) (a v : Operand) : Box Step := match szB P t with
  | .no => .no
  | .mk n => match x.ev a with
    | .no => .no
    | .mk f => match x.ev v with
      | .no => .no
      | .mk g => match Nat.beq n 1 with
        | true => .mk fun _ L F S => Bool.rec (motive := fun _ => O2) (st1 (f L F) (g L F) S) (stv' n (f L F) (g L F) S) (isAgV (g L F))
        | false => .mk fun _ L F S => stv' n (f L F) (g L F) S
def mkSl' (e : Nat) (z : V) (sz : Nat) (a b : V) (S : St) : O2 := Option.rec (motive := fun _ => O2) .bad (fun n => Option.rec (motive := fun _ => O2) .bad (fun m =>
    iteB (Nat.ble n m) (iteB (Nat.ble (Nat.succ m) 1000000) (iteB (flat' (cells' z)) (mkRow' (rep' (cells' z) m) ⟨0, e⟩ S fun B S => .ok (.sl B 0 n sz) S)))) (asN b)) (asN a)
def hMakeSl' (x : Cx) (t : Nat) (l c : Operand) : Box Step := match x.ev l with
  | .no => .no
  | .mk f => match x.ev c with
    | .no => .no
    | .mk g => match slElB P t with
      | .no => .no
      | .mk e => match szB P e with
        | .no => .no
        | .mk sz => match zeroB P e with
          | .no => .no
          | .mk z => match and (smallB P e) (Nat.beq (cells z).length sz) with
            | false => .no
            | true => .mk fun _ L F S => mkSl' e z sz (f L F) (g L F) S
def bytesOf' (e : Nat) (S : St) (v : V) : O2 := W.rec (motive := fun _ => O2) (fun _ => .bad) (fun _ _ => .bad) (fun l n => mkRow' (sBytes' l n) ⟨1, e⟩ S fun B S => .ok (.sl B 0 l 1) S) (bytesOf e S v) (vw v)
def hConv' (x : Cx) (s d : Nat) (a : Operand) : Box Step := match x.ev a with
  | .no => .no
  | .mk f => match P.underlying d with
    | some (.slice e) => (match P.underlying e with
      | some (.int .u8) => (match P.underlying s with
        | some .string => .mk fun _ L F S => bytesOf' e S (f L F)
        | some (.slice _) => (match Nat.beq s d with
          | false => .no
          | true => .mk fun _ L F S => bytesId S (f L F))
        | _ => .no)
      | _ => .no)
    | _ => .no
def keyT' (t : Nat) : Box KEq := match P.underlying t with | some (.map kt _) => keyB' P kt | _ => .no
def hMapUp' (x : Cx) (t : Nat) (m k v : Operand) : Box Step := match x.ev m with
  | .no => .no
  | .mk f => match x.ev k with
    | .no => .no
    | .mk g => match x.ev v with
      | .no => .no
      | .mk h => match keyT' P t with
        | .no => .no
        | .mk e => .mk fun _ L F S => mupd e (g L F) (h L F) S (f L F)
def lenV' (v : V) : Option Nat := V.rec (motive_1 := fun _ => Option Nat) (motive_2 := fun _ => Unit)
  (fun _ => none) (fun _ => none) (fun _ _ => none) (fun l _ => some l) none (fun _ _ => none) (some 0) (fun _ _ n _ => some n) none (fun _ => none)
  (fun _ _ _ _ _ => none) none (fun _ _ _ => none) none (fun _ _ => none) (fun _ _ => none) (fun t => lenV (.y t)) () (fun _ _ _ _ => ()) v
def app' (ty size : Nat) (s x : V) (S : St) : O2 :=
  Option.rec (motive := fun _ => O2) .bad (fun n => Option.rec (motive := fun _ => O2) .bad (fun l => asSl .bad
    (by2 (.ok .nils S) (iteB (Nat.ble (Nat.succ n) 1000000) (mkRow' l ⟨0, ty⟩ S fun B S => .ok (.sl B 0 n size) S)) (iteB (Nat.ble (Nat.succ n) 1000000) (mkRow' l ⟨0, ty⟩ S fun B S => .ok (.sl B 0 n size) S)) n)
    (fun B o len z => Nat.rec (motive := fun _ => O2) (iteB (Nat.beq z size) (.ok s S)) (fun _ _ => asRow .bad (fun c lo sz fz =>
      frc (Nat.add len n) fun len' => frc (Nat.add o (Nat.mul len size)) fun e =>
        iteB (Nat.beq z size) (iteB (Nat.beq fz.ty ty) (iteB (Nat.ble (Nat.succ len') 1000000) (iteB (Nat.ble lo o) (iteB (Nat.ble e sz) (iteB (Bool.rec (motive := fun _ => Bool) (Nat.beq e sz) true (Nat.ble (Nat.succ fz.k) 2))
          (frc (Nat.add o (Nat.mul len' size)) fun e' => frc S.next fun B' =>
              .ok (.sl B' o len' size) ⟨T.put (T.put S.heap B none) B' (some (.row (wr' c e l) o e' fz)), Nat.succ B'⟩))))))) (T.get S.heap B)) n) s) (src' size n x S)) (lenV' x)
def cpy' (size : Nat) (d x : V) (S : St) : O2 :=
  Option.rec (motive := fun _ => O2) .bad (fun b => asSl .bad (.ok (.i 0) S)
    (fun B o a z => frc (min' b a) fun n => Option.rec (motive := fun _ => O2) .bad (fun l => asRow .bad (fun c lo sz fz =>
      iteB (Nat.ble (Nat.succ fz.k) 2) (iteB (Nat.beq z size) (iteB (Nat.ble lo o) (iteB (Nat.ble (Nat.add o (Nat.mul n size)) sz)
        (.ok (.i (.ofNat n)) ⟨T.put S.heap B (some (.row (wr' c o l) lo sz fz)), S.next⟩))))) (T.get S.heap B)) (src' size n x S)) d) (lenV' x)
def l2 (d : O2) (f : V → V → O2) (l : List V) : O2 := List.rec (motive := fun _ => O2) d (fun x r _ => List.rec (motive := fun _ => O2) d (fun y r _ => List.rec (motive := fun _ => O2) (f x y) (fun _ _ _ => d) r) r) l
def hAppend' (x : Cx) (args : List Operand) (ts : List Nat) : Box Step := match x.evs args with
  | .no => .no
  | .mk f => match ts with
    | [t, t'] => (match slElB P t with
      | .no => .no
      | .mk e => match srcTy P t' with
        | false => .no
        | true => match szB P e with
          | .no => .no
          | .mk sz => match zeroB P e with
            | .no => .no
            | .mk z => match and (smallB P e) (and (Nat.blt 0 sz) (Nat.beq (cells z).length sz)) with
              | false => .no
              | true => .mk fun _ L F S => l2 .bad (fun s x => app' e sz s x S) (f L F))
    | _ => .no
def hCopy' (x : Cx) (args : List Operand) (ts : List Nat) : Box Step := match x.evs args with
  | .no => .no
  | .mk f => match ts with
    | [t, _] => (match slElB P t with
      | .no => .no
      | .mk e => match szB P e with
        | .no => .no
        | .mk sz => .mk fun _ L F S => l2 .bad (fun s x => cpy' sz s x S) (f L F))
    | _ => .no
def hDelete' (x : Cx) (args : List Operand) (ts : List Nat) : Box Step := match x.evs args with
  | .no => .no
  | .mk f => match ts with
    | t :: _ => (match keyT' P t with
      | .no => .no
      | .mk e => .mk fun _ L F S => delL e S (f L F))
    | _ => .no
def appL' (a b : List V) : List V := List.rec (motive := fun _ => List V) b (fun x _ r => x :: r) a
def callV' (call : Caller) (args : List V) (S : St) (v : V) : O2 := asF .bad .bad (fun fn first caps => call fn (appL' first (appL' args caps)) S) v
def hValue' (x : Cx) (v : Operand) (args : List Operand) : Box Step := match x.ev v with
  | .no => .no
  | .mk f => match x.evs args with
    | .no => .no
    | .mk g => .mk fun call L F S => callV' call (g L F) S (f L F)
def hCall' (x : Cx) (c : Call) : Box Step := match c.callee with
  | .value (.func f) => hFunc x f c.args.toList
  | .value v => hValue' x v c.args.toList
  | .builtin .append => hAppend' P x c.args.toList c.argTypes.toList
  | .builtin .copy => hCopy' P x c.args.toList c.argTypes.toList
  | .builtin .delete => hDelete' P x c.args.toList c.argTypes.toList
  | .builtin .clear => hClear P x c.args.toList c.argTypes.toList
  | .builtin .unsafeString => hUStr P x c.args.toList c.argTypes.toList
  | _ => .no
def heavyB' (x : Cx) (o : Op) : Box Step :=
  match o with
  | .alloc t => hAlloc' P t
  | .box t a => hBox' x t a
  | .buildSlice t n ps => hBuildSl' P x t n ps.toList
  | .store t a v => hStore' P x t a v
  | .makeMap _ none => hMakeMap
  | .makeSlice t l c => hMakeSl' P x t l c
  | .convert s d a => hConv' P x s d a
  | .mapUpdate t m k v => hMapUp' P x t m k v
  | .call c => hCall' P x c
  | _ => .no
def guardB' (x : Cx) (ops : List Oper) (go skip : Cont) : Option (Nat × Bool) → Box Cont
  | none => .mk go
  | some q => match (match nth ops q.1 with | some o => o.dst | none => none) with
    | none => .no
    | some d => match x.tmp d with
      | .no => .no
      | .mk g => match q.2 with
        | true => .mk fun c L F S => Option.rec (motive := fun _ => R) .bad (fun b => Bool.rec (motive := fun _ => R) (skip c L F S) (go c L F S) b) (gT (g L F))
        | false => .mk fun c L F S => Option.rec (motive := fun _ => R) .bad (fun b => Bool.rec (motive := fun _ => R) (skip c L F S) (go c L F S) b) (gF (g L F))
def opB' (x : Cx) (ops : List Oper) (o : Oper) (k : Cont) : Box Cont :=
  match dstB x.nt x.U o.dst with
  | .no => .no
  | .mk put => match lightB' P x o.op with
    | .mk s => guardB' x ops (fun c L F S => Option.rec (motive := fun _ => R) .bad (fun v => k c (v :: L) (put F v) S) (s L F S)) (fun c L F S => k c (u :: L) (put F u) S) o.guard
    | .no => match heavyB' P x o.op with
      | .no => .no
      | .mk s => guardB' x ops (fun c L F S => O2.rec (motive := fun _ => R) .bad (fun v S' => k c (v :: L) (put F v) S') (s c L F S)) (fun c L F S => k c (u :: L) (put F u) S) o.guard
def opsB' (nt U : Nat) (all : List Oper) : List (Option Nat) → List Oper → Box Cont
  | _, [] => .mk fun _ _ F S => .norm F S
  | loc, o :: r => match opsB' nt U all (o.dst :: loc) r with
    | .no => .mk fun _ _ _ _ => .bad
    | .mk k => match opB' P ⟨nt, U, loc⟩ all o k with
      | .no => .mk fun _ _ _ _ => .bad
      | .mk x => .mk x
def guardG' (x : Cx) (all : List Oper) : Option (Nat × Bool) → Box (List V → Fr → Option Bool)
  | none => .mk fun _ _ => some true
  | some q => match (match nth all q.1 with | some o => o.dst | none => none) with
    | none => .no
    | some d => match x.tmp d with
      | .no => .no
      | .mk g => match q.2 with
        | true => .mk fun L F => gT (g L F)
        | false => .mk fun L F => gF (g L F)
def lightG' (x : Cx) (all : List Oper) (o : Oper) : Box Light := match lightB' P x o.op with
  | .no => .no
  | .mk s => match o.guard with
    | none => .mk s
    | some q => match guardG' x all (some q) with
      | .no => .no
      | .mk g => .mk fun L F S => Option.rec (motive := fun _ => Option V) none (fun b => Bool.rec (motive := fun _ => Option V) (some u) (s L F S) b) (g L F)
def heavyG' (x : Cx) (all : List Oper) (o : Oper) : Box Step := match heavyB' P x o.op with
  | .no => .no
  | .mk s => match o.guard with
    | none => .mk s
    | some q => match guardG' x all (some q) with
      | .no => .no
      | .mk g => .mk fun c L F S => Option.rec (motive := fun _ => O2) .bad (fun b => Bool.rec (motive := fun _ => O2) (.ok u S) (s c L F S) b) (g L F)
def again' (x : Cx) (all : List Oper) (o : Oper) : Box Chk := match lightG' P x all o with
  | .no => .no
  | .mk s => match o.dst with
    | none => .mk fun L F S => Option.rec (motive := fun _ => Bool) false (fun _ => true) (s L F S)
    | some d => match x.tmp d with
      | .no => .no
      | .mk g => .mk fun L F S => Option.rec (motive := fun _ => Bool) false (fun v => idV v (g L F)) (s L F S)
def agains' (x : Cx) (all : List Oper) (m : Nat) : List Nat → Box Chk
  | [] => .mk fun _ _ _ => true
  | i :: r => match agains' x all m r with
    | .no => .no
    | .mk f => match tstB m i with
      | true => .mk f
      | false => match nth all i with
        | none => .no
        | some o => match again' P x all o with
          | .no => .no
          | .mk g => .mk fun L F S => Bool.rec (motive := fun _ => Bool) false (f L F S) (g L F S)
def frCont' (f : Frs) (chk : Chk) (put : Fr → V → Fr) (k : Cont) : Cont := fun c L F S => Option.rec (motive := fun _ => R) .bad (fun q =>
  frc S.next fun B => Bool.rec (motive := fun _ => R) .bad (k c (q.2 B :: L) (put F (q.2 B)) ⟨T.put S.heap B (some q.1), Nat.succ B⟩) (chk (q.2 B :: L) (put F (q.2 B)) ⟨T.put S.heap B (some q.1), Nat.succ B⟩)) (f L F)
def ltCont' (s : Light) (pre chk : Chk) (put : Fr → V → Fr) (k : Cont) : Cont := fun c L F S => Option.rec (motive := fun _ => R) .bad (fun v =>
  Bool.rec (motive := fun _ => R) .bad (Bool.rec (motive := fun _ => R) .bad (k c (v :: L) (put F v) S) (chk (v :: L) (put F v) S)) (pre L F S)) (s L F S)
def hvCont' (s : Step) (pre chk : Chk) (put : Fr → V → Fr) (k : Cont) : Cont := fun c L F S => O2.rec (motive := fun _ => R) .bad (fun v S' =>
  Bool.rec (motive := fun _ => R) .bad (Bool.rec (motive := fun _ => R) .bad (k c (v :: L) (put F v) S') (chk (v :: L) (put F v) S')) (pre L F S)) (s c L F S)
def soon' (x : Cx) (all : List Oper) (ms : List Nat) (D p : Nat) (ln : List Nat) : Box Chk := match nth all p with
  | none => .mk fun _ _ _ => true
  | some o => match nth ms p with
    | none => .no
    | some m => match or (tstB D p) (not (subM m D)) with
      | true => .mk fun _ _ _ => true
      | false => match frG P x o with
        | .no => .no
        | .mk f => match agains' P x all 0 ln with
          | .no => .no
          | .mk g => .mk fun L F S => Option.rec (motive := fun _ => Bool) false (fun _ => g L F S) (f L F)
def opsD' (nt U : Nat) (all : List Oper) (ms : List Nat) (p : Nat) : List (Option Nat) → List Nat → Nat → List Nat → Box Cont
  | _, _, D, [] => (match allIn D all.length with | true => .mk fun _ _ F S => .norm F S | false => .no)
  | loc, ln, D, i :: r => match nth all i with
    | none => .no
    | some o => match nth ms i with
      | none => .no
      | some m => match and (not (tstB D i)) (subM m D) with
        | false => .no
        | true => match dstB nt U o.dst with
          | .no => .no
          | .mk put => match Nat.beq i p with
            | true => (match sole D D p i 0 ms with
              | false => .no
              | true => match frG P ⟨nt, U, loc⟩ o with
                | .no => .no
                | .mk f => match agains' P ⟨nt, U, o.dst :: loc⟩ all m ln with
                  | .no => .no
                  | .mk chk => match opsD' nt U all ms p (o.dst :: loc) ln (bit D i) r with
                    | .no => .no
                    | .mk k => .mk (frCont' f chk put k))
            | false => match lightG' P ⟨nt, U, loc⟩ all o with
              | .mk s => (match bar all m o.dst with
                | false => (match opsD' nt U all ms p (o.dst :: loc) (i :: ln) (bit D i) r with
                  | .no => .no
                  | .mk k => .mk fun c L F S => Option.rec (motive := fun _ => R) .bad (fun v => k c (v :: L) (put F v) S) (s L F S))
                | true => match sole (bit D p) D p i 0 ms with
                  | false => .no
                  | true => match soon' P ⟨nt, U, loc⟩ all ms D p ln with
                    | .no => .no
                    | .mk pre => match agains' P ⟨nt, U, o.dst :: loc⟩ all m ln with
                      | .no => .no
                      | .mk chk => match opsD' nt U all ms p (o.dst :: loc) ln (bit D i) r with
                        | .no => .no
                        | .mk k => .mk (ltCont' s pre chk put k))
              | .no => match sole (bit D p) D p i 0 ms with
                | false => .no
                | true => match heavyG' P ⟨nt, U, loc⟩ all o with
                  | .no => .no
                  | .mk s => match soon' P ⟨nt, U, loc⟩ all ms D p ln with
                    | .no => .no
                    | .mk pre => match agains' P ⟨nt, U, o.dst :: loc⟩ all m ln with
                      | .no => .no
                      | .mk chk => match opsD' nt U all ms p (o.dst :: loc) ln (bit D i) r with
                        | .no => .no
                        | .mk k => .mk (hvCont' s pre chk put k)
def drawB' (nt U : Nat) (all : List Oper) : Box Cont := match shapeOk 0 [] all with
  | false => .no
  | true => match ancs all [] with
    | ms => match fresh1 0 all with
      | p => match and (looksAll all ms 0 all ms) (freeOk all ms p) with
        | false => .no
        | true => opsD' P nt U all ms p [] [] 0 (plan all ms p all.length 0)
def den' (nt U : Nat) (c : Code) : Box CCont :=
  Code.rec (motive := fun _ => Box CCont)
    (.mk fun _ F S => .norm F S)
    (fun _ ops draw => match (match draw with | false => opsB' P nt U ops.toList [] ops.toList | true => drawB' P nt U ops.toList) with
      | .no => .mk fun _ _ _ => .bad
      | .mk f => .mk fun c F S => f c [] F S)
    (fun _ _ iha ihb => match iha with
      | .no => .no
      | .mk f => match ihb with
        | .no => .no
        | .mk g => .mk fun c F S => R.rec (motive := fun _ => R) .bad (fun F S => g c F S) (fun id F S => .exit id F S) (fun F S => .ret F S) (f c F S))
    (fun x _ _ iha ihb => match (Cx.mk nt U []).ev x with
      | .no => .mk fun _ _ _ => .bad
      | .mk e => match iha with
        | .no => .no
        | .mk f => match ihb with
          | .no => .no
          | .mk g => .mk fun c F S => Option.rec (motive := fun _ => R) .bad (fun b => Bool.rec (motive := fun _ => R) (g c F S) (f c F S) b) (asB (e [] F)))
    (fun id _ ih => match ih with
      | .no => .no
      | .mk f => .mk fun c F S => R.rec (motive := fun _ => R) .bad (fun F S => .norm F S) (fun j F S => Bool.rec (motive := fun _ => R) (.exit j F S) (.norm F S) (Nat.beq j id)) (fun F S => .ret F S) (f c F S))
    (fun _ ih => match ih with
      | .no => .no
      | .mk f => .mk fun c F S => iter (f c) 100000 F S)
    (fun _ _ _ _ _ _ => .mk fun _ _ _ => .bad)
    (fun id => .mk fun _ F S => .exit id F S)
    (fun _ _ => .mk fun _ _ _ => .bad)
    (fun _ => .mk fun _ F S => .norm F S)
    (fun _ => .mk fun _ _ _ => .bad)
    (.mk fun _ F S => .ret F S)
    (fun _ => .mk fun _ _ _ => .bad)
    c
def resB' (nt U : Nat) : List ResultVar → Box (Fr → St → Option (List V))
  | [] => .mk fun _ _ => some []
  | .tmp t :: r => (match (Cx.mk nt U []).tmp t with
    | .no => .no
    | .mk f => match resB' nt U r with
      | .no => .no
      | .mk g => .mk fun F S => Option.rec (motive := fun _ => Option (List V)) none (fun l => some (f [] F :: l)) (g F S))
  | .cell a t :: r => (match (Cx.mk nt U []).tmp a with
    | .no => .no
    | .mk f => match isAg P t with
      | .no => .no
      | .mk ag => match szB P t with
        | .no => .no
        | .mk n => match resB' nt U r with
          | .no => .no
          | .mk g => match or ag (Nat.beq n 1) with
            | false => .no
            | true => .mk fun F S => Option.rec (motive := fun _ => Option (List V)) none (fun v => Option.rec (motive := fun _ => Option (List V)) none (fun l => some (v :: l)) (g F S)) (ldv ag n (f [] F) S))
def tup' (l : List V) : V := List.rec (motive := fun _ => V) (.t []) (fun v r _ => List.rec (motive := fun _ => V) v (fun y q _ => .t (v :: y :: q)) r) l
def fin' (g : Fr → St → Option (List V)) (F : Fr) (S : St) : O2 := Option.rec (motive := fun _ => O2) .bad (fun l => .ok (tup' l) S) (g F S)
/-- the frame that so many arguments lie in -/
def argsB : Nat → Nat → Box (List V → Fr → Option Fr)
  | 0, _ => .mk fun _ _ => none
  | n + 1, k => match setB k with
    | .no => .mk fun l F => List.rec (motive := fun _ => Option Fr) (some F) (fun _ _ _ => none) l
    | .mk f => match argsB n (k + 1) with
      | .no => .no
      | .mk g => .mk fun l F => List.rec (motive := fun _ => Option Fr) (some F) (fun v r _ => g r (f F v)) l
def argsAll : Box (List V → Fr → Option Fr) := argsB 257 0
def funB' (fn : Func) (c : Code) : Box (Caller → List V → St → O2) :=
  match Nat.ble fn.ntmps 256 with
  | false => .no
  | true => frc (useR fn.results.toList (useC c 0)) fun U => match den' P fn.ntmps U c with
    | .no => .no
    | .mk b => match resB' P fn.ntmps U fn.results.toList with
      | .no => .no
      | .mk g => match argsAll with
        | .no => .no
        | .mk ar => match fn.ntmps with
          | nt => .mk fun call args S => Bool.rec (motive := fun _ => O2) .bad (Option.rec (motive := fun _ => O2) .bad (fun F => R.rec (motive := fun _ => O2) .bad (fun F S => fin' g F S) (fun _ _ _ => .bad)
            (fun F S => fin' g F S) (b call F S)) (ar args Fr.none)) (Nat.ble (len' args) nt)
def bodyB' (N : Natives) (f : Nat) : Box (Caller → List V → St → O2) :=
  match N f with
  | some g => .mk fun _ args S => g args S
  | none => match P.funcs[f]? with
    | none => .no
    | some fn => match fn.body with
      | none => .no
      | some c => funB' P fn c
def callN' (N : Natives) (n : Nat) : Caller :=
  Nat.rec (motive := fun _ => Caller) (fun _ _ _ => .bad)
    (fun _ ih f args S => Box.rec (motive := fun _ => O2) .bad (fun b => b ih args S) (bodyB' P N f)) n
end
end
end Go.Xf
