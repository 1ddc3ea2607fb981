/-
  AN EXECUTOR OF THE MODEL's CODE OVER AN ABSTRACT HEAP. (definitions alone)
  Values, a heap of rows and maps by their own numbers, frames; each operation is made once into a closure ('Box'), so that the kernel, which keeps what closed terms reduce to, makes it once.
-/
import GoSem.Core.Program
import GoSem.Core.View
import GoSem.Op.Equal
set_option linter.unusedVariables false
set_option linter.unusedSimpArgs false
set_option linter.unnecessarySimpa false
namespace Go.Xe
noncomputable section

/-- A finite map from numbers. -/
inductive T (α : Type) where
  | e : T α
  | n : Option α → T α → T α → T α → T α → T α
namespace T
def val {α : Type} : T α → Option α := fun t => T.rec (motive := fun _ => Option α) none (fun v _ _ _ _ _ _ _ _ => v) t
def sA {α : Type} : T α → T α := fun t => T.rec (motive := fun _ => T α) .e (fun _ a _ _ _ _ _ _ _ => a) t
def sB {α : Type} : T α → T α := fun t => T.rec (motive := fun _ => T α) .e (fun _ _ b _ _ _ _ _ _ => b) t
def sC {α : Type} : T α → T α := fun t => T.rec (motive := fun _ => T α) .e (fun _ _ _ c _ _ _ _ _ => c) t
def sD {α : Type} : T α → T α := fun t => T.rec (motive := fun _ => T α) .e (fun _ _ _ _ d _ _ _ _ => d) t
/-- what was made of a number: how its place is looked at. The kernel keeps it -/
inductive G (α : Type) where
  | mk : (T α → Option α) → G α
inductive U (α : Type) where
  | mk : (Option α → T α → T α) → U α
def gs {α : Type} (j : Nat) (g : T α → Option α) : G α := match Nat.land j 3 with
  | 0 => .mk fun t => g (sA t)
  | 1 => .mk fun t => g (sB t)
  | 2 => .mk fun t => g (sC t)
  | _ => .mk fun t => g (sD t)
def gp (α : Type) (fuel k : Nat) : G α :=
  Nat.rec (motive := fun _ => Nat → G α) (fun _ => .mk fun _ => none)
    (fun _ ih k => Nat.rec (motive := fun _ => G α) (.mk val)
      (fun j _ => G.rec (motive := fun _ => G α) (fun g => gs j g) (ih (Nat.div j 4))) k) fuel k
def us {α : Type} (j : Nat) (g : Option α → T α → T α) : U α := match Nat.land j 3 with
  | 0 => .mk fun x t => T.rec (motive := fun _ => T α) (.n none (g x .e) .e .e .e) (fun v a b c d _ _ _ _ => .n v (g x a) b c d) t
  | 1 => .mk fun x t => T.rec (motive := fun _ => T α) (.n none .e (g x .e) .e .e) (fun v a b c d _ _ _ _ => .n v a (g x b) c d) t
  | 2 => .mk fun x t => T.rec (motive := fun _ => T α) (.n none .e .e (g x .e) .e) (fun v a b c d _ _ _ _ => .n v a b (g x c) d) t
  | _ => .mk fun x t => T.rec (motive := fun _ => T α) (.n none .e .e .e (g x .e)) (fun v a b c d _ _ _ _ => .n v a b c (g x d)) t
def u0 {α : Type} (x : Option α) (t : T α) : T α := T.rec (motive := fun _ => T α) (.n x .e .e .e .e) (fun _ a b c d _ _ _ _ => .n x a b c d) t
def pp (α : Type) (fuel k : Nat) : U α :=
  Nat.rec (motive := fun _ => Nat → U α) (fun _ => .mk fun _ _ => .e)
    (fun _ ih k => Nat.rec (motive := fun _ => U α) (.mk u0)
      (fun j _ => U.rec (motive := fun _ => U α) (fun g => us j g) (ih (Nat.div j 4))) k) fuel k
def get {α : Type} (t : T α) (k : Nat) : Option α := G.rec (motive := fun _ => Option α) (fun g => g t) (gp α (Nat.succ k) k)
def put {α : Type} (t : T α) (k : Nat) (x : Option α) : T α := U.rec (motive := fun _ => T α) (fun g => g x t) (pp α (Nat.succ k) k)
def pick {α : Type} (m : Nat) (a b c d : α) : α := match m with | 0 => a | 1 => b | 2 => c | _ => d
end T

/-- A byte: a known one; byte j of a letter (a number's, the lowest first; a text's); a letter and so much more, which lies in a byte; byte j of a check sum. -/
inductive By where
  | c (n : Nat)
  | at (i j : Nat)
  | lin (i : Nat) (off lo hi : Int)
  | crc (j : Nat) (l : List By)
  deriving Inhabited
/-- What stands for a value that is not known: one of the world's letters; 'int': an int, a letter within bounds and so much more; 'num': a number without a sign, by its bytes, the lowest first; 'txt': a text, by its bytes. -/
inductive Y where
  | sym (id : Nat)
  | int (id : Nat) (off lo hi : Int)
  | num (k : IntKind) (l : List By)
  | txt (l : List By)
  deriving Inhabited
/-- A value. 'i': an int of 64 bits; 'k': of another kind; 's': a text: its length, its bytes as a number, the first the lowest; 'p': an address: a row, a place; 'sl': a slice: its row, its place, its length, how many cells an element has. -/
inductive V where
  | b (x : Bool) | i (n : Int) | k (k : IntKind) (n : Int) | s (l n : Nat)
  | nilp | p (B o : Nat) | nils | sl (B o len z : Nat) | nilm | m (B : Nat)
  | f (fn : Nat) (first caps : List V) | nilf | ifc (t : Nat) (v : V) | nili
  | a (cells : List V) | t (vs : List V) | y (t : Y)
  deriving Inhabited
/-- how much of a row is frozen; its elements' type -/
structure Z where
  k : Nat
  ty : Nat
/-- What lies in the heap. A row: its cells from lo on, below n; 'fz': 0: nothing of it is frozen; 1: nothing that lies in it; 2: perhaps what lies below n. -/
inductive O where
  | row (cells : T V) (lo n : Nat) (fz : Z)
  | mp (es : List (V × V))
structure St where
  heap : T O
  next : Nat
/-- A frame: 256 slots. -/
structure N4 (α : Type) where
  a : α
  b : α
  c : α
  d : α
abbrev Fr := N4 (N4 (N4 (N4 V)))
abbrev u : V := .t []
def N4.rep {α : Type} (x : α) : N4 α := ⟨x, x, x, x⟩
def Fr.none : Fr := N4.rep (N4.rep (N4.rep (N4.rep u)))
inductive R where
  | bad | norm (F : Fr) (S : St) | exit (id : Nat) (F : Fr) (S : St) | ret (F : Fr) (S : St)
inductive O2 where
  | bad | ok (v : V) (S : St)
/-- What was made, or not. -/
inductive Box (α : Type) where
  | no : Box α
  | mk (x : α) : Box α

-- forcing: the kernel reckons the number before it goes on
def frc {α : Type} (n : Nat) (k : Nat → α) : α := match n with | 0 => k 0 | m + 1 => k (m + 1)
def frcI {α : Type} (n : Int) (k : Int → α) : α := match n with | .ofNat m => frc m fun m => k (.ofNat m) | .negSucc m => frc m fun m => k (.negSucc m)

-- slots
def selB {α : Type} : Nat → Box (N4 α → α)
  | 0 => .mk fun x => x.a
  | 1 => .mk fun x => x.b
  | 2 => .mk fun x => x.c
  | 3 => .mk fun x => x.d
  | _ => .no
def updB {α : Type} : Nat → Box (N4 α → (α → α) → N4 α)
  | 0 => .mk fun x g => N4.rec (motive := fun _ => N4 α) (fun a b c d => ⟨g a, b, c, d⟩) x
  | 1 => .mk fun x g => N4.rec (motive := fun _ => N4 α) (fun a b c d => ⟨a, g b, c, d⟩) x
  | 2 => .mk fun x g => N4.rec (motive := fun _ => N4 α) (fun a b c d => ⟨a, b, g c, d⟩) x
  | 3 => .mk fun x g => N4.rec (motive := fun _ => N4 α) (fun a b c d => ⟨a, b, c, g d⟩) x
  | _ => .no
def getB (t : Nat) : Box (Fr → V) :=
  match (selB (α := N4 (N4 (N4 V))) (t / 64)) with
  | .no => .no
  | .mk f => match (selB (α := N4 (N4 V)) (t / 16 % 4)) with
    | .no => .no
    | .mk g => match (selB (α := N4 V) (t / 4 % 4)) with
      | .no => .no
      | .mk h => match (selB (α := V) (t % 4)) with
        | .no => .no
        | .mk k => .mk fun F => k (h (g (f F)))
def setB (t : Nat) : Box (Fr → V → Fr) :=
  match (updB (α := N4 (N4 (N4 V))) (t / 64)) with
  | .no => .no
  | .mk f => match (updB (α := N4 (N4 V)) (t / 16 % 4)) with
    | .no => .no
    | .mk g => match (updB (α := N4 V) (t / 4 % 4)) with
      | .no => .no
      | .mk h => match (updB (α := V) (t % 4)) with
        | .no => .no
        | .mk k => .mk fun F v => f F fun x => g x fun y => h y fun z => k z fun _ => v

-- lists
def nth {α : Type} : List α → Nat → Option α
  | [], _ => none
  | x :: _, 0 => some x
  | _ :: l, n + 1 => nth l n
def setL {α : Type} : List α → Nat → List α → List α
  | l, 0, [] => l
  | _ :: l, 0, y :: ys => y :: setL l 0 ys
  | [], _, _ => []
  | x :: l, n + 1, ys => x :: setL l n ys
def cells : V → List V
  | .a l => l
  | v => [v]
def rd (c : T V) : Nat → Nat → Option (List V)
  | 0, _ => some []
  | n + 1, o => match c.get o with
    | none => none
    | some v => match rd c n (o + 1) with
      | none => none
      | some l => some (v :: l)
def wr (c : T V) (o : Nat) : List V → T V
  | [] => c
  | v :: l => wr (c.put o (some v)) (o + 1) l

-- texts
def sAt (n i : Nat) : Nat := Nat.mod (Nat.shiftRight n (Nat.mul 8 i)) 256
def sSub (n i l : Nat) : Nat := Nat.mod (Nat.shiftRight n (Nat.mul 8 i)) (Nat.pow 2 (Nat.mul 8 l))
def sCat (l n m : Nat) : Nat := Nat.add n (Nat.shiftLeft m (Nat.mul 8 l))
def sOf : List Nat → Nat
  | [] => 0
  | b :: r => b + 256 * sOf r
def sBytes : Nat → Nat → List V
  | 0, _ => []
  | l + 1, n => frc (Nat.mod n 256) fun b => .k .u8 (.ofNat b) :: sBytes l (Nat.div n 256)
/-- the number of bytes that are values -/
def bytesS : List V → Option Nat
  | [] => some 0
  | .k .u8 (.ofNat b) :: r => match bytesS r with | some n => (match Nat.blt b 256 with | true => some (Nat.add b (Nat.mul 256 n)) | false => none) | none => none
  | _ => none

-- constants
mutual
def cv : Value → Option V
  | .bool b => some (.b b)
  | .int .i64 n => some (.i n)
  | .int k n => some (.k k n)
  | .string s => some (.s s.size (sOf (s.data.toList.map (·.toNat))))
  | .pointer none => some .nilp
  | .slice none 0 0 => some .nils
  | .map none => some .nilm
  | .nilFunc => some .nilf
  | .nilIface => some .nili
  | .agg ⟨l⟩ => match cvL l with | some l => some (.a l) | none => none
  | .tuple ⟨[]⟩ => some (.t [])
  | _ => none
def cvL : List Value → Option (List V)
  | [] => some []
  | v :: l => match cv v with
    | none => none
    | some x => match cvL l with
      | none => none
      | some r => some (x :: r)
end
/-- the local values of a region stand in a list, the last one first -/
def nthB : Nat → Box (List V → V)
  | 0 => .mk fun L => List.rec (motive := fun _ => V) u (fun v _ _ => v) L
  | d + 1 => match nthB d with
    | .no => .no
    | .mk g => .mk fun L => g (List.rec (motive := fun _ => List V) [] (fun _ l _ => l) L)
def tstB (U t : Nat) : Bool := Nat.beq (Nat.land (Nat.shiftRight U t) 1) 1
def idxOf (t : Nat) : List (Option Nat) → Option Nat
  | [] => none
  | some d :: r => (match Nat.beq d t with | true => some 0 | false => (match idxOf t r with | some k => some (k + 1) | none => none))
  | none :: r => (match idxOf t r with | some k => some (k + 1) | none => none)
abbrev Ev := List V → Fr → V
/-- nt: how many slots; U: those that the frame keeps; loc: what the region's values stand for -/
structure Cx where
  nt : Nat
  U : Nat
  loc : List (Option Nat)
def Cx.tmp (x : Cx) (t : Nat) : Box Ev :=
  match idxOf t x.loc with
  | some d => (match nthB d with | .no => .no | .mk g => .mk fun L _ => g L)
  | none => (match and (Nat.blt t x.nt) (tstB x.U t) with
    | true => (match getB t with | .no => .no | .mk g => .mk fun _ F => g F)
    | false => .no)
def Cx.ev (x : Cx) : Operand → Box Ev
  | .tmp t => x.tmp t
  | .const v => (match cv v with | some y => .mk fun _ _ => y | none => .no)
  | .global _ => .no
  | .func f => .mk fun _ _ => .f f [] []
def Cx.evs (x : Cx) : List Operand → Box (List V → Fr → List V)
  | [] => .mk fun _ _ => []
  | o :: r => match x.ev o with
    | .no => .no
    | .mk f => match x.evs r with
      | .no => .no
      | .mk g => .mk fun L F => f L F :: g L F

-- integers
def i64 (n : Int) : Int := match n with
  | .ofNat m => (match Nat.ble m 9223372036854775807 with | true => .ofNat m | false => IntKind.i64.wrap (.ofNat m))
  | .negSucc m => (match Nat.ble m 9223372036854775807 with | true => .negSucc m | false => IntKind.i64.wrap (.negSucc m))
def iadd : Int → Int → Int
  | .ofNat a, .ofNat b => .ofNat (Nat.add a b)
  | .ofNat a, .negSucc b => Int.subNatNat a (Nat.succ b)
  | .negSucc a, .ofNat b => Int.subNatNat b (Nat.succ a)
  | .negSucc a, .negSucc b => .negSucc (Nat.succ (Nat.add a b))
def isub : Int → Int → Int
  | .ofNat a, .ofNat b => (match Nat.ble b a with | true => .ofNat (Nat.sub a b) | false => .negSucc (Nat.sub (Nat.sub b a) 1))
  | x, y => x - y
def ieq : Int → Int → Bool
  | .ofNat a, .ofNat b => Nat.beq a b
  | .negSucc a, .negSucc b => Nat.beq a b
  | _, _ => false
def ilt : Int → Int → Bool
  | .ofNat a, .ofNat b => Nat.blt a b
  | .negSucc a, .negSucc b => Nat.blt b a
  | .negSucc _, .ofNat _ => true
  | .ofNat _, .negSucc _ => false
def ile : Int → Int → Bool
  | .ofNat a, .ofNat b => Nat.ble a b
  | .negSucc a, .negSucc b => Nat.ble b a
  | .negSucc _, .ofNat _ => true
  | .ofNat _, .negSucc _ => false
/-- the number of an integer's value, its kind -/
def mkI (k : IntKind) (n : Int) : V := match k with | .i64 => .i n | k => .k k n
def bitsN (k : IntKind) (n : Int) : Nat := (n % (2 ^ k.bits : Int)).toNat
def arith (op : BinOp) (k : IntKind) (x y : Int) : Option V :=
  match op with
  | .add => some (frcI (k.wrap (iadd x y)) fun n => mkI k n)
  | .sub => some (frcI (k.wrap (isub x y)) fun n => mkI k n)
  | .mul => some (frcI (k.wrap (x * y)) fun n => mkI k n)
  | .quo => (match ieq y 0 with | true => none | false => some (frcI (k.wrap (x.tdiv y)) fun n => mkI k n))
  | .rem => (match ieq y 0 with | true => none | false => some (frcI (x.tmod y) fun n => mkI k n))
  | .and => some (frcI (k.wrap (Int.ofNat (Nat.land (bitsN k x) (bitsN k y)))) fun n => mkI k n)
  | .or => some (frcI (k.wrap (Int.ofNat (Nat.lor (bitsN k x) (bitsN k y)))) fun n => mkI k n)
  | .xor => some (frcI (k.wrap (Int.ofNat (Nat.xor (bitsN k x) (bitsN k y)))) fun n => mkI k n)
  | .shl => (match ilt y 0 with | true => none | false => some (frcI (k.wrap (x * 2 ^ (min y.toNat k.bits))) fun n => mkI k n))
  | .shr => (match ilt y 0 with | true => none | false => some (frcI (x.fdiv (2 ^ (min y.toNat k.bits))) fun n => mkI k n))
  | .eql => some (.b (ieq x y))
  | .neq => some (.b (not (ieq x y)))
  | .lss => some (.b (ilt x y))
  | .leq => some (.b (ile x y))
  | .gtr => some (.b (ilt y x))
  | .geq => some (.b (ile y x))
  | _ => none
/-- '==' of two values of one kind, where it can be told -/
def kEq : IntKind → IntKind → Bool
  | .i8, .i8 | .i16, .i16 | .i32, .i32 | .i64, .i64 | .u8, .u8 | .u16, .u16 | .u32, .u32 | .u64, .u64 => true
  | _, _ => false
def bEq : Bool → Bool → Bool | true, true => true | false, false => true | _, _ => false
-- BYTES
def crcBit (x : Nat) : Nat := Nat.xor (Nat.shiftRight x 1) (Nat.mul 3988292384 (Nat.land x 1))
def crcByte (x c : Nat) : Nat := crcBit (crcBit (crcBit (crcBit (crcBit (crcBit (crcBit (crcBit (Nat.xor x c))))))))
mutual
def sameB : By → By → Bool
  | .c n, .c m => Nat.beq n m
  | .at i j, .at i' j' => and (Nat.beq i i') (Nat.beq j j')
  | .lin i a lo hi, .lin j b lo' hi' => and (Nat.beq i j) (and (ieq a b) (and (ieq lo lo') (ieq hi hi')))
  | .crc j l, .crc j' l' => and (Nat.beq j j') (sameBs l l')
  | _, _ => false
def sameBs : List By → List By → Bool
  | [], [] => true
  | x :: l, y :: r => and (sameB x y) (sameBs l r)
  | _, _ => false
end
def sameY : Y → Y → Bool
  | .sym i, .sym j => Nat.beq i j
  | .int i a lo hi, .int j b lo' hi' => and (Nat.beq i j) (and (ieq a b) (and (ieq lo lo') (ieq hi hi')))
  | .num k l, .num k' l' => and (kEq k k') (sameBs l l')
  | .txt l, .txt l' => sameBs l l'
  | _, _ => false
def unpack : Nat → Nat → List By
  | 0, _ => []
  | l + 1, n => frc (Nat.mod n 256) fun b => .c b :: unpack l (Nat.div n 256)
/-- all known: the number that they make -/
def allC : List By → Option Nat
  | [] => some 0
  | .c n :: r => (match allC r with | some m => some (Nat.add (Nat.mod n 256) (Nat.mul 256 m)) | none => none)
  | _ => none
/-- how many bytes a kind without a sign has -/
def bytesK : IntKind → Option Nat
  | .u8 => some 1 | .u16 => some 2 | .u32 => some 4 | .u64 => some 8 | _ => none
def mkNum (k : IntKind) (l : List By) : V := match allC l with
  | some n => frc n fun n => .k k (.ofNat n)
  | none => .y (.num k l)
def mkTxt (l : List By) : V := match allC l with
  | some n => frc n fun n => .s l.length n
  | none => .y (.txt l)
def diffC : List By → List By → Bool
  | x :: l, y :: r => or (match x with | .c n => (match y with | .c m => not (Nat.beq (Nat.mod n 256) (Nat.mod m 256)) | _ => false) | _ => false) (diffC l r)
  | _, _ => false
/-- the eight bytes of letter 0, which is not 0, against eight bytes 0 -/
def nzP (j : Nat) : List By → List By → Bool
  | .at i k :: l, .c m :: r => and (Nat.beq i 0) (and (Nat.beq j k) (and (Nat.beq m 0) (or (Nat.beq j 7) (nzP (j + 1) l r))))
  | _, _ => false
def nz8 : List By → List By → Bool
  | x :: l, y :: r => or (nzP 0 (x :: l) (y :: r)) (or (nzP 0 (y :: r) (x :: l)) (nz8 l r))
  | _, _ => false
def eqBs (l r : List By) : Option Bool := match Nat.beq l.length r.length with
  | false => some false
  | true => match sameBs l r with
    | true => some true
    | false => match or (diffC l r) (nz8 l r) with
      | true => some false
      | false => none
/-- a number without a sign, by its bytes -/
def numBy (k : IntKind) : V → Option (List By)
  | .y (.num k' l) => (match kEq k k' with | true => some l | false => none)
  | .k k' (.ofNat n) => (match kEq k k' with
    | true => (match bytesK k with | some m => (match Nat.blt n (Nat.pow 256 m) with | true => some (unpack m n) | false => none) | none => none)
    | false => none)
  | _ => none
def txtBy : V → Option (List By)
  | .y (.txt l) => some l
  | .s l n => some (unpack l n)
  | _ => none
/-- a number within bounds, and a known one -/
def eqY (t : Y) (n : Int) : Option Bool := match t with
  | .int _ off lo hi => (match or (ilt (iadd hi off) n) (ilt n (iadd lo off)) with | true => some false | false => none)
  | _ => none
def cmpY (op : BinOp) (t : Y) (n : Int) : Option V := match t with
  | .int _ off lo hi => (match op with
    | .lss => (match ilt (iadd hi off) n with | true => some (.b true) | false => (match ile n (iadd lo off) with | true => some (.b false) | false => none))
    | .leq => (match ile (iadd hi off) n with | true => some (.b true) | false => (match ilt n (iadd lo off) with | true => some (.b false) | false => none))
    | .gtr => (match ilt n (iadd lo off) with | true => some (.b true) | false => (match ile (iadd hi off) n with | true => some (.b false) | false => none))
    | .geq => (match ile n (iadd lo off) with | true => some (.b true) | false => (match ilt (iadd hi off) n with | true => some (.b false) | false => none))
    | _ => none)
  | _ => none
/-- no number that goes round -/
def mid (n : Int) : Bool := and (ile (-4611686018427387904) n) (ile n 4611686018427387904)
def addY (t : Y) (n : Int) : Option V := match t with
  | .int id off lo hi => frcI (iadd off n) fun off => (match and (mid (iadd lo off)) (mid (iadd hi off)) with | true => some (.y (.int id off lo hi)) | false => none)
  | _ => none
/-- of two that come of one letter -/
def cmpYY (op : BinOp) (t t' : Y) : Option V := match t, t' with
  | .int i a lo hi, .int j b lo' hi' => (match and (Nat.beq i j) (and (mid (iadd lo a)) (and (mid (iadd hi a)) (and (mid (iadd lo b)) (mid (iadd hi b))))) with
    | true => (match op with
      | .lss => some (.b (ilt a b))
      | .leq => some (.b (ile a b))
      | .gtr => some (.b (ilt b a))
      | .geq => some (.b (ile b a))
      | .sub => (match mid (isub a b) with | true => some (frcI (isub a b) fun n => .i n) | false => none)
      | _ => none)
    | false => none)
  | _, _ => none
def orBs : List By → List By → Option (List By)
  | [], [] => some []
  | x :: l, y :: r => (match orBs l r with
    | none => none
    | some q => match x with
      | .c n => (match n with
        | 0 => some (y :: q)
        | n => (match y with | .c m => some (.c (Nat.lor n m) :: q) | _ => none))
      | x => (match y with | .c 0 => some (x :: q) | _ => none))
  | _, _ => none
def zeros (n : Nat) : List By := List.replicate n (.c 0)
/-- by how many bytes a number is shifted -/
def by8 (v : V) : Option Nat := match v with
  | .i (.ofNat n) => (match Nat.beq (Nat.mod n 8) 0 with | true => some (Nat.div n 8) | false => none)
  | .k _ (.ofNat n) => (match Nat.beq (Nat.mod n 8) 0 with | true => some (Nat.div n 8) | false => none)
  | _ => none
def shrBs (c : Nat) (l : List By) : List By := l.drop c ++ zeros (min c l.length)
def shlBs (c : Nat) (l : List By) : List By := (zeros c ++ l).take l.length
def binN (op : BinOp) (k : IntKind) (l : List By) (y : V) : Option V := match op with
  | .shr => (match by8 y with | some c => some (mkNum k (shrBs c l)) | none => none)
  | .shl => (match by8 y with | some c => (match Nat.blt c 8 with | true => some (mkNum k (shlBs c l)) | false => none) | none => none)
  | .or => (match numBy k y with | some r => (match orBs l r with | some q => some (mkNum k q) | none => none) | none => none)
  | .leq => (match y with
    | .k k' (.ofNat 0) => (match kEq k k' with | true => (match nz8 l (zeros l.length) with | true => some (.b false) | false => none) | false => none)
    | _ => none)
  | _ => none
def catY (op : BinOp) (l r : List By) : Option V := match op with
  | .add => (match Nat.ble (Nat.add l.length r.length) 4294967296 with | true => some (mkTxt (l ++ r)) | false => none)
  | _ => none
/-- what an operation makes of what is not known -/
def binY (op : BinOp) (x y : V) : Option V := match x with
  | .y (.int i a lo hi) => (match y with
    | .i n => (match op with
      | .add => addY (.int i a lo hi) n
      | .sub => addY (.int i a lo hi) (-n)
      | op => cmpY op (.int i a lo hi) n)
    | .y t => cmpYY op (.int i a lo hi) t
    | _ => none)
  | .i n => (match y with
    | .y t => (match op with
      | .add => addY t n
      | .lss => cmpY .gtr t n
      | .leq => cmpY .geq t n
      | .gtr => cmpY .lss t n
      | .geq => cmpY .leq t n
      | _ => none)
    | _ => none)
  | .y (.num k l) => binN op k l y
  | .k k n => (match op with
    | .or => (match numBy k (.k k n) with | some l => binN .or k l y | none => none)
    | _ => none)
  | .y (.txt l) => (match txtBy y with | some r => catY op l r | none => none)
  | .s n m => (match txtBy y with | some r => catY op (unpack n m) r | none => none)
  | _ => none
def eqYY (t t' : Y) : Option Bool := match t, t' with
  | .int i a lo hi, .int j b lo' hi' => (match Nat.beq i j with | true => some (ieq a b) | false => none)
  | .num k l, .num k' l' => (match kEq k k' with | true => eqBs l l' | false => none)
  | _, _ => none
def eqNK (t : Y) (k : IntKind) (b : Int) : Option Bool := match t with
  | .num k' l => (match kEq k k' with
    | true => (match numBy k (.k k b) with | some r => eqBs l r | none => none)
    | false => none)
  | _ => none
def eqInt (x y : V) : Option Bool := match x with
  | .i a => (match y with | .i b => some (ieq a b) | .y t => eqY t a | _ => none)
  | .y t => (match y with | .i b => eqY t b | .y t' => eqYY t t' | .k k b => eqNK t k b | _ => none)
  | .k k a => (match y with | .k k' b => (match kEq k k' with | true => some (ieq a b) | false => none) | .y t => eqNK t k a | _ => none)
  | _ => none
def eqStr (x y : V) : Option Bool := match x with
  | .s l n => (match y with | .s l' n' => some (and (Nat.beq l l') (Nat.beq n n')) | .y (.txt r) => eqBs (unpack l n) r | _ => none)
  | .y (.txt l) => (match txtBy y with | some r => eqBs l r | none => none)
  | _ => none
def eqBool (x y : V) : Option Bool := match x with
  | .b a => (match y with | .b b => some (bEq a b) | _ => none)
  | _ => none
def eqPtr (S : St) (x y : V) : Option Bool := match x with
  | .nilp => (match y with | .nilp => some true | .p _ _ => some false | _ => none)
  | .p B o => (match y with
    | .nilp => some false
    | .p B' o' => (match Nat.beq B B' with
      | true => some (Nat.beq o o')
      | false => (match S.heap.get B with
        | some (.row _ _ _ ⟨0, _⟩) => (match S.heap.get B' with | some (.row _ _ _ ⟨0, _⟩) => some false | _ => none)
        | _ => none))
    | _ => none)
  | _ => none
def eqSl (x y : V) : Option Bool := match x with
  | .nils => (match y with | .nils => some true | .sl .. => some false | _ => none)
  | .sl .. => (match y with | .nils => some false | _ => none)
  | _ => none
def eqMap (x y : V) : Option Bool := match x with
  | .nilm => (match y with | .nilm => some true | .m _ => some false | _ => none)
  | .m _ => (match y with | .nilm => some false | _ => none)
  | _ => none
def eqFn (x y : V) : Option Bool := match x with
  | .nilf => (match y with | .nilf => some true | .f .. => some false | _ => none)
  | .f .. => (match y with | .nilf => some false | _ => none)
  | _ => none
def eqIf (x y : V) : Option Bool := match x with
  | .nili => (match y with | .ifc .. => some false | _ => none)
  | .ifc .. => (match y with | .nili => some false | _ => none)
  | _ => none
def bin (op : BinOp) (x y : V) : Option V :=
  match x, y with
  | .i x, .i y => (match op with
    | .add => some (frcI (i64 (iadd x y)) fun n => .i n)
    | .sub => some (frcI (i64 (isub x y)) fun n => .i n)
    | op => arith op .i64 x y)
  | .k k x, .k k' y => (match op with
    | .shl => arith op k x y
    | .shr => arith op k x y
    | op => match kEq k k' with | true => arith op k x y | false => none)
  | .k k x, .i y => (match op with
    | .shl => arith op k x y
    | .shr => arith op k x y
    | _ => none)
  | .i x, .k _ y => (match op with
    | .shl => arith op .i64 x y
    | .shr => arith op .i64 x y
    | _ => none)
  | .s l n, .s l' n' => (match op with
    | .add => frc (Nat.add l l') fun k => (match Nat.ble k 4294967296 with | true => some (frc (sCat l n n') fun m => .s k m) | false => none)
    | .eql => some (.b (and (Nat.beq l l') (Nat.beq n n')))
    | .neq => some (.b (not (and (Nat.beq l l') (Nat.beq n n'))))
    | _ => none)
  | x, y => binY op x y
variable (P : Program)
def szB (t : Nat) : Box Nat := match P.info? t with | some i => .mk i.size | none => .no
/-- the size in bytes, if it is a small one -/
def smallB (t : Nat) : Bool := match P.info? t with | some i => Nat.ble i.bytes 65536 | none => false
def zeroB (t : Nat) : Box V := match P.info? t with
  | some i => (match i.zero with | some z => (match cv z with | some v => .mk v | none => .no) | none => .no)
  | none => .no
def isAg (t : Nat) : Box Bool := match P.underlying t with
  | some (.struct _) => .mk true | some (.array _ _) => .mk true | some _ => .mk false | none => .no
def cellLen : V → Nat | .a l => l.length | _ => 1
def ldc (c : T V) (agg : Bool) (size o : Nat) : Option V := match agg with
  | true => (match rd c size o with | some l => some (.a l) | none => none)
  | false => c.get o
def ldv (agg : Bool) (size : Nat) (a : V) (S : St) : Option V :=
  match a with
  | .p B o => (match S.heap.get B with
    | some (.row c lo n _) => (match and (Nat.ble lo o) (Nat.ble (Nat.add o size) n) with
      | true => ldc c agg size o
      | false => none)
    | _ => none)
  | _ => none
/-- no cell of a value is itself of several cells -/
def flat1 : V → Bool | .a _ => false | .t _ => false | _ => true
def flat : List V → Bool
  | [] => true
  | v :: l => match flat1 v with | true => flat l | false => false
def stv (size : Nat) (a v : V) (S : St) : O2 :=
  match a with
  | .p B o => (match S.heap.get B with
    | some (.row c lo n fz) => (match and (Nat.blt fz.k 2) (and (Nat.ble lo o) (and (Nat.ble (Nat.add o size) n) (and (Nat.beq (cellLen v) size) (flat (cells v))))) with
      | true => .ok u ⟨S.heap.put B (some (.row (wr c o (cells v)) lo n fz)), S.next⟩
      | false => .bad)
    | _ => .bad)
  | _ => .bad
def rep (l : List V) : Nat → List V
  | 0 => []
  | n + 1 => l ++ rep l n
def nat? : V → Option Nat
  | .i (.ofNat n) => some n
  | .k _ (.ofNat n) => some n
  | _ => none
def mkRow (l : List V) (fz : Z) (S : St) (k : Nat → St → O2) : O2 :=
  frc S.next fun n => k n ⟨S.heap.put n (some (.row (wr .e 0 l) 0 l.length fz)), Nat.succ n⟩
def lenV : V → Option Nat | .nils => some 0 | .sl _ _ n _ => some n | .s l _ => some l | .y (.txt l) => some l.length | _ => none
/-- a byte as a value -/
def cellB (b : By) : V := mkNum .u8 [b]
/-- the first n elements of a slice or of a text, as cells -/
def src (size n : Nat) (v : V) (S : St) : Option (List V) :=
  match v with
  | .nils => (match n with | 0 => some [] | _ => none)
  | .sl B o len z => (match S.heap.get B with
    | some (.row c lo sz _) => (match and (Nat.beq z size) (and (Nat.ble n len) (and (Nat.ble lo o) (Nat.ble (Nat.add o (Nat.mul n size)) sz))) with
      | true => rd c (Nat.mul n size) o
      | false => none)
    | _ => none)
  | .s l m => (match and (Nat.ble n l) (Nat.beq size 1) with | true => some (sBytes n m) | false => none)
  | .y (.txt l) => (match and (Nat.ble n l.length) (Nat.beq size 1) with | true => some ((l.take n).map cellB) | false => none)
  | _ => none
def app (ty size : Nat) (s x : V) (S : St) : O2 :=
  match lenV x with
  | none => .bad
  | some n => match src size n x S with
    | none => .bad
    | some l => match s with
      | .nils => (match n with
        | 0 => .ok .nils S
        | n => match Nat.blt n 1000000 with
          | true => mkRow l ⟨0, ty⟩ S fun B S => .ok (.sl B 0 n size) S
          | false => .bad)
      | .sl B o len z => (match n with
        | 0 => (match Nat.beq z size with | true => .ok s S | false => .bad)
        | n => match S.heap.get B with
          | some (.row c lo sz fz) =>
            frc (Nat.add len n) fun len' =>
            frc (Nat.add o (Nat.mul len size)) fun e =>
            (match and (Nat.beq z size) (and (Nat.beq fz.ty ty) (and (Nat.blt len' 1000000) (and (Nat.ble lo o) (and (Nat.ble e sz) (or (Nat.blt fz.k 2) (Nat.beq e sz)))))) with
            | true => frc (Nat.add o (Nat.mul len' size)) fun e' => frc S.next fun B' =>
              .ok (.sl B' o len' size) ⟨(S.heap.put B none).put B' (some (.row (wr c e l) o e' fz)), Nat.succ B'⟩
            | false => .bad)
          | _ => .bad)
      | _ => .bad
def cpy (size : Nat) (d x : V) (S : St) : O2 :=
  match lenV x with
  | none => .bad
  | some b => match d with
    | .nils => .ok (.i 0) S
    | .sl B o a z => frc (Nat.min b a) fun n => (match src size n x S with
      | none => .bad
      | some l => (match S.heap.get B with
        | some (.row c lo sz fz) => (match and (Nat.blt fz.k 2) (and (Nat.beq z size) (and (Nat.ble lo o) (Nat.ble (Nat.add o (Nat.mul n size)) sz))) with
          | true => .ok (.i (.ofNat n)) ⟨S.heap.put B (some (.row (wr c o l) lo sz fz)), S.next⟩
          | false => .bad)
        | _ => .bad))
    | _ => .bad
abbrev KEq := V → V → Option Bool
def mget (e : KEq) (k : V) : List (V × V) → Option (Option V)
  | [] => some none
  | a :: r => match e k a.1 with | some true => some (some a.2) | some false => mget e k r | none => none
/-- the very same value: integers, texts, truths, and lists of these -/
def sameS : V → V → Bool
  | .i a, .i b => ieq a b
  | .k k a, .k k' b => and (kEq k k') (ieq a b)
  | .s l n, .s l' n' => and (Nat.beq l l') (Nat.beq n n')
  | .b a, .b b => bEq a b
  | .y t, .y t' => and (match t with | .sym _ => false | _ => true) (sameY t t')
  | _, _ => false
def sameLs : List V → List V → Bool
  | [], [] => true
  | x :: l, y :: r => and (sameS x y) (sameLs l r)
  | _, _ => false
def same (x y : V) : Bool := match x with
  | .a l => (match y with | .a r => sameLs l r | _ => false)
  | x => sameS x y
def mset (e : KEq) (k v : V) : List (V × V) → Option (List (V × V))
  | [] => some [(k, v)]
  | a :: r => match e k a.1 with
    | some true => (match same a.1 k with | true => some ((k, v) :: r) | false => none)
    | some false => (match mset e k v r with | some l => some (a :: l) | none => none)
    | none => none
def mdel (e : KEq) (k : V) : List (V × V) → Option (List (V × V))
  | [] => some []
  | a :: r => match e k a.1 with
    | some true => some r
    | some false => (match mdel e k r with | some l => some (a :: l) | none => none)
    | none => none
def fieldB (t i : Nat) : Box Field := match P.underlying t with
  | some (.struct fs) => (match nth fs.toList i with | some f => .mk f | none => .no)
  | _ => .no
def slElB (t : Nat) : Box Nat := match P.underlying t with | some (.slice e) => .mk e | _ => .no
def elemB (t : Nat) : Box Nat := match P.underlying t with | some (.slice e) => .mk e | some (.array _ e) => .mk e | _ => .no
/-- a part of a list of cells -/
def partB (t off : Nat) : Box (List V → Option V) := match isAg P t with
  | .no => .no
  | .mk false => .mk fun l => nth l off
  | .mk true => match szB P t with
    | .no => .no
    | .mk n => .mk fun l => match Nat.ble (Nat.add off n) l.length with | true => some (.a ((l.drop off).take n)) | false => none
def aggEq (g : St → List V → List V → Option Bool) (S : St) (x y : V) : Option Bool := match x with
  | .a l => (match y with | .a r => g S l r | _ => none)
  | _ => none
def eqFs (e : Nat → Box (St → KEq)) : List Field → Box (St → List V → List V → Option Bool)
  | [] => .mk fun _ _ _ => some true
  | f :: r => match f.name == "_" with
    | true => .no
    | false => match partB P f.type f.offset with
      | .no => .no
      | .mk p => match e f.type with
        | .no => .no
        | .mk q => match eqFs e r with
          | .no => .no
          | .mk g => .mk fun S l m => match p l with
            | none => none
            | some x => match p m with
              | none => none
              | some y => match q S x y with
                | some true => g S l m
                | some false => some false
                | none => none
/-- '==' at a type -/
def eqB : Nat → Nat → Box (St → KEq)
  | 0, _ => .no
  | d + 1, t => match P.underlying t with
    | some (.int _) => .mk fun _ => eqInt
    | some .string => .mk fun _ => eqStr
    | some .bool => .mk fun _ => eqBool
    | some (.pointer e) => (match szB P e with | .mk (_ + 1) => .mk eqPtr | _ => .no)
    | some (.slice _) => .mk fun _ => eqSl
    | some (.map _ _) => .mk fun _ => eqMap
    | some (.func _ _ _) => .mk fun _ => eqFn
    | some (.interface _) => .mk fun _ => eqIf
    | some (.struct fs) => (match or (P.stoodInHeld t) (P.eqGuardType P.depth t) with
      | true => .no
      | false => match eqFs P (eqB d) fs.toList with
        | .no => .no
        | .mk g => .mk (aggEq g))
    | _ => .no
/-- '==' at a type of keys -/
def keyB (t : Nat) : Box KEq := match P.underlying t with
  | some (.int _) => .mk eqInt
  | some .string => .mk eqStr
  | some .bool => .mk eqBool
  | some (.struct _) => (match eqB P 6 t with
    | .no => .no
    | .mk e => .mk fun x y => match e ⟨.e, 0⟩ x x with | some true => e ⟨.e, 0⟩ x y | _ => none)
  | _ => .no
abbrev Caller := Nat → List V → St → O2
abbrev Step := Caller → List V → Fr → St → O2
abbrev Light := List V → Fr → St → Option V
/-- the parts of a struct of n cells, each with its place and size -/
def partsB (x : Cx) (n : Nat) (place : Nat → Box (Nat × Nat)) : List (Nat × Operand) → Box (List V → Fr → List V → Option (List V))
  | [] => .mk fun _ _ z => some z
  | p :: r => match place p.1 with
    | .no => .no
    | .mk q => match Nat.ble (Nat.add q.1 q.2) n with
      | false => .no
      | true => match x.ev p.2 with
        | .no => .no
        | .mk f => match partsB x n place r with
          | .no => .no
          | .mk g => .mk fun L F z => match Nat.beq (cellLen (f L F)) q.2 with
            | true => g L F (setL z q.1 (cells (f L F)))
            | false => none
def fieldPl (t i : Nat) : Box (Nat × Nat) := match fieldB P t i with
  | .no => .no
  | .mk f => match szB P f.type with
    | .no => .no
    | .mk n => .mk (f.offset, n)
def elemPl (n i : Nat) : Box (Nat × Nat) := .mk (i * n, n)
def bnd (lo hi : Option V) (n : Nat) : Option (Nat × Nat) :=
  match (match hi with | none => some n | some v => nat? v) with
  | none => none
  | some h => match (match lo with | none => some 0 | some v => nat? v) with
    | none => none
    | some l => (match and (Nat.ble l h) (Nat.ble h n) with | true => some (l, h) | false => none)
def Cx.evo (x : Cx) : Option Operand → Box (List V → Fr → Option V)
  | none => .mk fun _ _ => none
  | some o => match x.ev o with | .no => .no | .mk f => .mk fun L F => some (f L F)
def minI : Int → List V → Option V
  | x, [] => some (.i x)
  | x, .i y :: r => minI (match ilt y x with | true => y | false => x) r
  | _, _ => none
def maxI : Int → List V → Option V
  | x, [] => some (.i x)
  | x, .i y :: r => maxI (match ilt x y with | true => y | false => x) r
  | _, _ => none
def minK (k : IntKind) : Int → List V → Option V
  | x, [] => some (.k k x)
  | x, .k k' y :: r => (match kEq k k' with | true => minK k (match ilt y x with | true => y | false => x) r | false => none)
  | _, _ => none
def maxK (k : IntKind) : Int → List V → Option V
  | x, [] => some (.k k x)
  | x, .k k' y :: r => (match kEq k k' with | true => maxK k (match ilt x y with | true => y | false => x) r | false => none)
  | _, _ => none

-- operations that turn nothing, one by one
def lMove (x : Cx) (o : Operand) : Box Light := match x.ev o with | .no => .no | .mk f => .mk fun L F _ => some (f L F)
def lPick (x : Cx) (c a b : Operand) : Box Light := match x.ev c with
  | .no => .no
  | .mk c => match x.ev a with
    | .no => .no
    | .mk a => match x.ev b with
      | .no => .no
      | .mk b => .mk fun L F _ => match c L F with | .b true => some (a L F) | .b false => some (b L F) | _ => none
def lLoad (x : Cx) (t : Nat) (a : Operand) : Box Light := match isAg P t with
  | .no => .no
  | .mk g => match szB P t with
    | .no => .no
    | .mk n => match x.ev a with
      | .no => .no
      | .mk f => match or g (Nat.beq n 1) with | true => .mk fun L F S => ldv g n (f L F) S | false => .no
def nilC : V → Option V | .p B o => some (.p B o) | .f a b c => some (.f a b c) | _ => none
def lNil (x : Cx) (o : Operand) : Box Light := match x.ev o with
  | .no => .no
  | .mk f => .mk fun L F _ => nilC (f L F)
def eqV (op : BinOp) (r : Option Bool) : Option V := match r with
  | none => none
  | some b => match op with | .eql => some (.b b) | _ => some (.b (not b))
def lEq (x : Cx) (op : BinOp) (t : Nat) (a b : Operand) : Box Light := match x.ev a with
  | .no => .no
  | .mk f => match x.ev b with
    | .no => .no
    | .mk g => match eqB P 6 t with
      | .no => .no
      | .mk e => .mk fun L F S => eqV op (e S (f L F) (g L F))
def lAr (x : Cx) (op : BinOp) (a b : Operand) : Box Light := match x.ev a with
  | .no => .no
  | .mk f => match x.ev b with
    | .no => .no
    | .mk g => .mk fun L F _ => bin op (f L F) (g L F)
def lBin (x : Cx) (op : BinOp) (t : Nat) (a b : Operand) : Box Light := match op with
  | .eql => lEq P x .eql t a b
  | .neq => lEq P x .neq t a b
  | op => lAr x op a b
def unNot : V → Option V | .b x => some (.b (not x)) | _ => none
def unNeg : V → Option V | .i n => arith .sub .i64 0 n | .k k n => arith .sub k 0 n | _ => none
def unXor : V → Option V
  | .i n => arith .xor .i64 (-1) n
  | .k k n => arith .xor k (match k.signed with | true => -1 | false => k.max) n
  | _ => none
def lUn (x : Cx) (op : UnOp) (a : Operand) : Box Light := match x.ev a with
  | .no => .no
  | .mk f => match op with
    | .not => .mk fun L F _ => unNot (f L F)
    | .neg => .mk fun L F _ => unNeg (f L F)
    | .xor => .mk fun L F _ => unXor (f L F)
    | _ => .no
/-- a number of another kind -/
def cvLin : List By → Option V
  | .lin i off lo hi :: r => (match allC r with | some 0 => some (.y (.int i off lo hi)) | _ => none)
  | _ => none
def cvY (k : IntKind) : Y → Option V
  | .num _ l => (match bytesK k with
    | some m => some (mkNum k ((l ++ zeros m).take m))
    | none => (match k with | .i64 => (match Nat.ble l.length 8 with | true => cvLin l | false => none) | _ => none))
  | .int i off lo hi => (match k with
    | .i64 => (match and (mid (iadd lo off)) (mid (iadd hi off)) with | true => some (.y (.int i off lo hi)) | false => none)
    | k => (match bytesK k with
      | some m => (match and (ile 0 (iadd lo off)) (ile (iadd hi off) 255) with | true => some (mkNum k (.lin i off lo hi :: zeros (m - 1))) | false => none)
      | none => none))
  | _ => none
def cvInt (k : IntKind) : V → Option V
  | .i n => some (frcI (k.wrap n) fun n => mkI k n)
  | .k _ n => some (frcI (k.wrap n) fun n => mkI k n)
  | .y t => cvY k t
  | _ => none
def cvStr : V → Option V
  | .s l n => some (.s l n)
  | .y (.txt l) => some (.y (.txt l))
  | _ => none
/-- cells that are bytes -/
def byOf : V → Option By
  | .k .u8 (.ofNat b) => (match Nat.blt b 256 with | true => some (.c b) | false => none)
  | .y (.num .u8 [b]) => some b
  | _ => none
def bytesY : List V → Option (List By)
  | [] => some []
  | v :: r => (match byOf v with
    | some b => (match bytesY r with | some l => some (b :: l) | none => none)
    | none => none)
def cvBytes (S : St) : V → Option V
  | .nils => some (.s 0 0)
  | .sl B o n z => (match src 1 n (.sl B o n z) S with
    | some l => (match bytesS l with | some m => some (frc m fun m => .s n m) | none => (match bytesY l with | some l => some (mkTxt l) | none => none))
    | none => none)
  | _ => none
def toUns (S : St) : V → Option V
  | .nilp => some .nilp
  | .p B o => (match S.heap.get B with
    | some (.row _ lo n _) => (match and (Nat.ble lo o) (Nat.blt o n) with | true => some (.p B o) | false => none)
    | _ => none)
  | _ => none
def ofUns (t sz : Nat) (S : St) : V → Option V
  | .nilp => some .nilp
  | .p B o => (match S.heap.get B with
    | some (.row _ _ n fz) => (match and (Nat.beq o 0) (and (Nat.beq fz.ty t) (Nat.ble sz n)) with | true => some (.p B o) | false => none)
    | _ => none)
  | _ => none
def lConv (x : Cx) (s d : Nat) (a : Operand) : Box Light := match x.ev a with
  | .no => .no
  | .mk f => match P.underlying d with
    | some (.int k) => (match P.underlying s with
      | some _ => .mk fun L F _ => cvInt k (f L F)
      | none => .no)
    | some .string => (match P.underlying s with
      | some .string => .mk fun L F _ => cvStr (f L F)
      | some (.slice e) => (match P.underlying e with
        | some (.int .u8) => .mk fun L F S => cvBytes S (f L F)
        | _ => .no)
      | _ => .no)
    | some .unsafePointer => (match P.underlying s with
      | some (.pointer t) => (match szB P t with
        | .mk n => (match Nat.beq n 0 with | true => .no | false => .mk fun L F S => toUns S (f L F))
        | .no => .no)
      | _ => .no)
    | some (.pointer t) => (match P.underlying s with
      | some .unsafePointer => (match szB P t with
        | .mk n => (match Nat.beq n 0 with | true => .no | false => .mk fun L F S => ofUns t n S (f L F))
        | .no => .no)
      | _ => .no)
    | _ => .no
def lIface (x : Cx) (t : Nat) (a : Operand) : Box Light := match x.ev a with
  | .no => .no
  | .mk f => match P.underlying t with
    | some (.interface _) => .no
    | some _ => .mk fun L F _ => some (.ifc t (f L F))
    | none => .no
def lFunc (x : Cx) (g : Nat) (first caps : List Operand) : Box Light := match x.evs first with
  | .no => .no
  | .mk a => match x.evs caps with
    | .no => .no
    | .mk b => .mk fun L F _ => some (.f g (a L F) (b L F))
def allSz : List Field → Bool
  | [] => true
  | f :: r => match szB P f.type with | .mk _ => allSz r | .no => false
def buildPl (t : Nat) : Nat → Box (Nat × Nat) := match P.underlying t with
  | some (.struct fs) => (match allSz P fs.toList with | true => fieldPl P t | false => fun _ => .no)
  | some (.array _ e) => (match szB P e with | .no => fun _ => .no | .mk n => elemPl n)
  | _ => fun _ => .no
def buildOk (t : Nat) : Bool := match P.underlying t with
  | some (.struct fs) => allSz P fs.toList
  | some (.array _ e) => (match szB P e with | .no => false | .mk _ => true)
  | _ => false
def lBuild (x : Cx) (t : Nat) (ps : List (Nat × Operand)) : Box Light := match buildOk P t with
| false => .no
| true => match zeroB P t with
  | .no => .no
  | .mk z => match cells z with
    | zs => match partsB x zs.length (buildPl P t) ps with
      | .no => .no
      | .mk g => .mk fun L F _ => match g L F zs with | some l => some (.a l) | none => none
def fldA (off : Nat) : V → Option V | .p B o => some (frc (Nat.add o off) fun o => .p B o) | _ => none
def lFieldA (x : Cx) (t : Nat) (a : Operand) (i : Nat) : Box Light := match x.ev a with
  | .no => .no
  | .mk f => match fieldB P t i with
    | .no => .no
    | .mk fd => match szB P fd.type with
      | .no => .no
      | .mk n => match Nat.beq n 0 with
        | true => .no
        | false => match fd.offset with
          | off => .mk fun L F _ => fldA off (f L F)
def fldV (off : Nat) : V → Option V | .a l => nth l off | _ => none
def fldS (off n : Nat) : V → Option V
  | .a l => (match Nat.ble (Nat.add off n) l.length with | true => some (.a ((l.drop off).take n)) | false => none)
  | _ => none
def lField (x : Cx) (t : Nat) (a : Operand) (i : Nat) : Box Light := match x.ev a with
  | .no => .no
  | .mk f => match fieldB P t i with
    | .no => .no
    | .mk fd => match isAg P fd.type with
      | .no => .no
      | .mk false => .mk fun L F _ => fldV fd.offset (f L F)
      | .mk true => match szB P fd.type with
        | .no => .no
        | .mk n => .mk fun L F _ => fldS fd.offset n (f L F)
def ixSl (n : Nat) (v i : V) : Option V := match v with
  | .sl B o len z => (match nat? i with
    | some i => (match and (Nat.blt i len) (Nat.beq z n) with
      | true => some (frc (Nat.add o (Nat.mul i n)) fun o => .p B o)
      | false => none)
    | none => none)
  | _ => none
def ixAr (n len : Nat) (v i : V) : Option V := match v with
  | .p B o => (match nat? i with
    | some i => (match Nat.blt i len with
      | true => some (frc (Nat.add o (Nat.mul i n)) fun o => .p B o)
      | false => none)
    | none => none)
  | _ => none
def lIndexA (x : Cx) (t : Nat) (a i : Operand) : Box Light := match x.ev a with
  | .no => .no
  | .mk f => match x.ev i with
    | .no => .no
    | .mk g => match elemB P t with
      | .no => .no
      | .mk e => match szB P e with
        | .no => .no
        | .mk n => match P.underlying t with
          | some (.slice _) => .mk fun L F _ => ixSl n (f L F) (g L F)
          | some (.array len _) => .mk fun L F _ => ixAr n len (f L F) (g L F)
          | _ => .no
def ixStr (v i : V) : Option V := match v with
  | .s l n => (match nat? i with
    | some i => (match Nat.blt i l with | true => some (frc (sAt n i) fun c => .k .u8 (.ofNat c)) | false => none)
    | none => none)
  | .y (.txt l) => (match nat? i with
    | some i => (match nth l i with | some b => some (cellB b) | none => none)
    | none => none)
  | _ => none
def ixAgg (len : Nat) (v i : V) : Option V := match v with
  | .a l => (match nat? i with
    | some i => (match Nat.blt i len with | true => nth l i | false => none)
    | none => none)
  | _ => none
def lIndex (x : Cx) (t : Nat) (a i : Operand) : Box Light := match x.ev a with
  | .no => .no
  | .mk f => match x.ev i with
    | .no => .no
    | .mk g => match P.underlying t with
      | some .string => .mk fun L F _ => ixStr (f L F) (g L F)
      | some (.array len e) => (match isAg P e with
        | .mk false => (match szB P e with
          | .mk 1 => .mk fun L F _ => ixAgg len (f L F) (g L F)
          | _ => .no)
        | _ => .no)
      | _ => .no
def slStr (v : V) (a b : Option V) : Option V := match v with
  | .s l n => (match bnd a b l with
    | some q => some (frc (Nat.sub q.2 q.1) fun len => frc (sSub n q.1 len) fun m => .s len m)
    | none => none)
  | .y (.txt l) => (match bnd a b l.length with
    | some q => some (mkTxt ((l.drop q.1).take (Nat.sub q.2 q.1)))
    | none => none)
  | _ => none
def slSl (sz : Nat) (v : V) (a b : Option V) : Option V := match v with
  | .nils => (match bnd a b 0 with | some _ => some .nils | none => none)
  | .sl B o len z => (match Nat.beq z sz with
    | true => (match bnd a b len with
      | some q => some (frc (Nat.add o (Nat.mul q.1 sz)) fun o => frc (Nat.sub q.2 q.1) fun n => .sl B o n z)
      | none => none)
    | false => none)
  | _ => none
def slAr (sz len : Nat) (v : V) (a b : Option V) (S : St) : Option V := match v with
  | .p B o => (match bnd a b len with
    | some q => (match S.heap.get B with
      | some (.row _ lo n _) => (match and (Nat.ble lo o) (Nat.ble (Nat.add o (Nat.mul len sz)) n) with
        | true => some (frc (Nat.add o (Nat.mul q.1 sz)) fun o => frc (Nat.sub q.2 q.1) fun n => .sl B o n sz)
        | false => none)
      | _ => none)
    | none => none)
  | _ => none
def lSlice (x : Cx) (t : Nat) (v : Operand) (lo hi mx : Option Operand) : Box Light := match x.ev v with
  | .no => .no
  | .mk f => match x.evo lo with
    | .no => .no
    | .mk a => match x.evo hi with
      | .no => .no
      | .mk b => match mx with
        | some _ => .no
        | none => match P.underlying t with
          | some .string => .mk fun L F _ => slStr (f L F) (a L F) (b L F)
          | some (.slice e) => (match szB P e with
            | .no => .no
            | .mk sz => .mk fun L F _ => slSl sz (f L F) (a L F) (b L F))
          | some (.array len e) => (match szB P e with
            | .no => .no
            | .mk sz => .mk fun L F S => slAr sz len (f L F) (a L F) (b L F) S)
          | _ => .no
def extr (i : Nat) : V → Option V | .t l => nth l i | _ => none
def lExtract (x : Cx) (t : Operand) (i : Nat) : Box Light := match x.ev t with
  | .no => .no
  | .mk f => .mk fun L F _ => extr i (f L F)
def lkup (e : KEq) (ok : Bool) (z k : V) (S : St) : V → Option V
  | .nilm => (match e k k with
    | none => none
    | some _ => some (match ok with | true => .t [z, .b false] | false => z))
  | .m B => (match S.heap.get B with
    | some (.mp es) => (match e k k with
      | none => none
      | some _ => match mget e k es with
        | some (some v) => some (match ok with | true => .t [v, .b true] | false => v)
        | some none => some (match ok with | true => .t [z, .b false] | false => z)
        | none => none)
    | _ => none)
  | _ => none
def lLookup (x : Cx) (t : Nat) (m k : Operand) (ok : Bool) : Box Light := match x.ev m with
  | .no => .no
  | .mk f => match x.ev k with
    | .no => .no
    | .mk g => match P.underlying t with
      | some (.map kt e) => (match zeroB P e with
        | .no => .no
        | .mk z => match keyB P kt with
          | .no => .no
          | .mk q => .mk fun L F S => lkup q ok z (g L F) S (f L F))
      | _ => .no
def lenS : V → Option V | .s l _ => some (.i (.ofNat l)) | .y (.txt l) => some (.i (.ofNat l.length)) | _ => none
def lenSl : V → Option V | .nils => some (.i 0) | .sl _ _ n _ => some (.i (.ofNat n)) | _ => none
def lenM (S : St) : V → Option V
  | .nilm => some (.i 0)
  | .m B => (match S.heap.get B with | some (.mp es) => some (.i (.ofNat es.length)) | _ => none)
  | _ => none
def lLen (x : Cx) (args : List Operand) (ts : List Nat) : Box Light := match args with
  | [a] => (match x.ev a with
    | .no => .no
    | .mk f => match ts with
      | [t] => (match P.underlying t with
        | some .string => .mk fun L F _ => lenS (f L F)
        | some (.slice _) => .mk fun L F _ => lenSl (f L F)
        | some (.array n _) => .mk fun _ _ _ => some (.i (.ofNat n))
        | some (.map _ _) => .mk fun L F S => lenM S (f L F)
        | _ => .no)
      | _ => .no)
  | _ => .no
def minV : List V → Option V | .i x :: r => minI x r | .k k x :: r => minK k x r | _ => none
def maxV : List V → Option V | .i x :: r => maxI x r | .k k x :: r => maxK k x r | _ => none
def lMin (x : Cx) (args : List Operand) : Box Light := match x.evs args with
  | .no => .no
  | .mk f => .mk fun L F _ => minV (f L F)
def lMax (x : Cx) (args : List Operand) : Box Light := match x.evs args with
  | .no => .no
  | .mk f => .mk fun L F _ => maxV (f L F)
def slData : List V → Option V
  | [.nils] => some .nilp
  | [.sl B o n _] => (match n with | 0 => none | _ => some (.p B o))
  | _ => none
def lSlData (x : Cx) (args : List Operand) : Box Light := match x.evs args with
  | .no => .no
  | .mk f => .mk fun L F _ => slData (f L F)
def lCall (x : Cx) (c : Call) : Box Light := match c.callee with
  | .builtin .unsafeSliceData => lSlData x c.args.toList
  | .builtin .len => lLen P x c.args.toList c.argTypes.toList
  | .builtin .min => lMin x c.args.toList
  | .builtin .max => lMax x c.args.toList
  | _ => .no
def lightB (x : Cx) (o : Op) : Box Light :=
  match o with
  | .move a => lMove x a
  | .assign a => lMove x a
  | .pick c a b => lPick x c a b
  | .load t a => lLoad P x t a
  | .nilCheck a => lNil x a
  | .binOp op t a b _ => lBin P x op t a b
  | .unOp op _ a => lUn x op a
  | .convert s d a => lConv P x s d a
  | .makeInterface t a => lIface P x t a
  | .makeFunc (.func g) first caps => lFunc x g first.toList caps.toList
  | .build t ps => lBuild P x t ps.toList
  | .fieldAddr t a i => lFieldA P x t a i
  | .field t a i => lField P x t a i
  | .indexAddr t a i => lIndexA P x t a i
  | .index t a i => lIndex P x t a i
  | .slice t a lo hi mx => lSlice P x t a lo hi mx
  | .extract t i => lExtract x t i
  | .lookup t a k ok => lLookup P x t a k ok
  | .call c => lCall P x c
  | _ => .no

-- operations that turn the heap, or make something in it, or call
def hAlloc (t : Nat) : Box Step := match zeroB P t with
  | .no => .no
  | .mk z => match cells z with
    | l => match flat l with
      | true => .mk fun _ _ _ S => mkRow l ⟨0, t⟩ S fun B S => .ok (.p B 0) S
      | false => .no
def hBox (x : Cx) (t : Nat) (a : Operand) : Box Step := match x.ev a with
  | .no => .no
  | .mk f => .mk fun _ L F S => match flat (cells (f L F)) with | true => mkRow (cells (f L F)) ⟨0, t⟩ S fun B S => .ok (.p B 0) S | false => .bad
def hBuildSl (x : Cx) (t n : Nat) (ps : List (Nat × Operand)) : Box Step := match slElB P t with
  | .no => .no
  | .mk e => match szB P e with
    | .no => .no
    | .mk sz => match zeroB P e with
      | .no => .no
      | .mk z => match and (Nat.ble (Nat.mul n sz) 1000000) (and (Nat.blt 0 sz) (Nat.beq (cells z).length sz)) with
        | false => .no
        | true => match partsB x (Nat.mul n sz) (elemPl sz) ps with
          | .no => .no
          | .mk g => match rep (cells z) n with
            | zs => .mk fun _ L F S => match g L F zs with
              | some l => (match flat l with | true => mkRow l ⟨0, e⟩ S fun B S => .ok (.sl B 0 n sz) S | false => .bad)
              | none => .bad
def hStore (x : Cx) (t : Nat) (a v : Operand) : Box Step := match szB P t with
  | .no => .no
  | .mk n => match x.ev a with
    | .no => .no
    | .mk f => match x.ev v with
      | .no => .no
      | .mk g => .mk fun _ L F S => stv n (f L F) (g L F) S
def hMakeMapS : Step := fun _ _ _ S => frc S.next fun B => .ok (.m B) ⟨S.heap.put B (some (.mp [])), Nat.succ B⟩
def hMakeMap : Box Step := .mk hMakeMapS
def mkSl (e : Nat) (z : V) (sz : Nat) (a b : V) (S : St) : O2 := match nat? a with
  | some n => (match nat? b with
    | some m => (match and (Nat.ble n m) (and (Nat.blt m 1000000) (flat (cells z))) with
      | true => mkRow (rep (cells z) m) ⟨0, e⟩ S fun B S => .ok (.sl B 0 n sz) S
      | false => .bad)
    | none => .bad)
  | none => .bad
def hMakeSl (x : Cx) (t : Nat) (l c : Operand) : Box Step := match x.ev l with
  | .no => .no
  | .mk f => match x.ev c with
    | .no => .no
    | .mk g => match slElB P t with
      | .no => .no
      | .mk e => match szB P e with
        | .no => .no
        | .mk sz => match zeroB P e with
          | .no => .no
          | .mk z => match and (smallB P e) (Nat.beq (cells z).length sz) with
            | false => .no
            | true => .mk fun _ L F S => mkSl e z sz (f L F) (g L F) S
def bytesOf (e : Nat) (S : St) : V → O2
  | .s l n => mkRow (sBytes l n) ⟨1, e⟩ S fun B S => .ok (.sl B 0 l 1) S
  | .y (.txt l) => mkRow (l.map cellB) ⟨1, e⟩ S fun B S => .ok (.sl B 0 l.length 1) S
  | _ => .bad
def bytesId (S : St) : V → O2
  | .sl B o n z => (match S.heap.get B with
    | some (.row c lo sz fz) => (match Nat.blt fz.k 2 with
      | true => .ok (.sl B o n z) ⟨S.heap.put B (some (.row c lo sz ⟨1, fz.ty⟩)), S.next⟩
      | false => .bad)
    | _ => .bad)
  | _ => .bad
def hConv (x : Cx) (s d : Nat) (a : Operand) : Box Step := match x.ev a with
  | .no => .no
  | .mk f => match P.underlying d with
    | some (.slice e) => (match P.underlying e with
      | some (.int .u8) => (match P.underlying s with
        | some .string => .mk fun _ L F S => bytesOf e S (f L F)
        | some (.slice _) => (match Nat.beq s d with
          | false => .no
          | true => .mk fun _ L F S => bytesId S (f L F))
        | _ => .no)
      | _ => .no)
    | _ => .no
def keyT (t : Nat) : Box KEq := match P.underlying t with | some (.map kt _) => keyB P kt | _ => .no
def mupd (e : KEq) (k v : V) (S : St) : V → O2
  | .m B => (match S.heap.get B with
    | some (.mp es) => (match e k k with
      | none => .bad
      | some _ => match mset e k v es with
        | some es' => .ok u ⟨S.heap.put B (some (.mp es')), S.next⟩
        | none => .bad)
    | _ => .bad)
  | _ => .bad
def hMapUp (x : Cx) (t : Nat) (m k v : Operand) : Box Step := match x.ev m with
  | .no => .no
  | .mk f => match x.ev k with
    | .no => .no
    | .mk g => match x.ev v with
      | .no => .no
      | .mk h => match keyT P t with
        | .no => .no
        | .mk e => .mk fun _ L F S => mupd e (g L F) (h L F) S (f L F)
def appL (e sz : Nat) (S : St) : List V → O2 | [s, x] => app e sz s x S | _ => .bad
def cpyL (sz : Nat) (S : St) : List V → O2 | [s, x] => cpy sz s x S | _ => .bad
def delL (e : KEq) (S : St) : List V → O2
  | [.nilm, k] => (match e k k with | none => .bad | some _ => .ok u S)
  | [.m B, k] => (match S.heap.get B with
    | some (.mp es) => (match e k k with
      | none => .bad
      | some _ => match mdel e k es with
        | some es' => .ok u ⟨S.heap.put B (some (.mp es')), S.next⟩
        | none => .bad)
    | _ => .bad)
  | _ => .bad
def clrL (z : V) (sz : Nat) (S : St) : List V → O2
  | [.nils] => .ok u S
  | [.sl B o n w] => (match n with
    | 0 => .ok u S
    | n => match S.heap.get B with
      | some (.row c lo sz' fz) => (match and (Nat.beq w sz) (and (Nat.blt fz.k 2) (and (Nat.ble lo o) (and (Nat.ble (Nat.add o (Nat.mul n sz)) sz') (flat (cells z))))) with
        | true => .ok u ⟨S.heap.put B (some (.row (wr c o (rep (cells z) n)) lo sz' fz)), S.next⟩
        | false => .bad)
      | _ => .bad)
  | _ => .bad
def srcTy (t : Nat) : Bool := match P.underlying t with | some (.slice _) => true | some .string => true | _ => false
def hAppend (x : Cx) (args : List Operand) (ts : List Nat) : Box Step := match x.evs args with
  | .no => .no
  | .mk f => match ts with
    | [t, t'] => (match slElB P t with
      | .no => .no
      | .mk e => match srcTy P t' with
        | false => .no
        | true => match szB P e with
          | .no => .no
          | .mk sz => match zeroB P e with
            | .no => .no
            | .mk z => match and (smallB P e) (and (Nat.blt 0 sz) (Nat.beq (cells z).length sz)) with
              | false => .no
              | true => .mk fun _ L F S => appL e sz S (f L F))
    | _ => .no
def hCopy (x : Cx) (args : List Operand) (ts : List Nat) : Box Step := match x.evs args with
  | .no => .no
  | .mk f => match ts with
    | [t, _] => (match slElB P t with
      | .no => .no
      | .mk e => match szB P e with
        | .no => .no
        | .mk sz => .mk fun _ L F S => cpyL sz S (f L F))
    | _ => .no
def hClear (x : Cx) (args : List Operand) (ts : List Nat) : Box Step := match x.evs args with
  | .no => .no
  | .mk f => match ts with
    | [t] => (match slElB P t with
      | .no => .no
      | .mk e => match szB P e with
        | .no => .no
        | .mk sz => match zeroB P e with
          | .no => .no
          | .mk z => match Nat.beq (cells z).length sz with
            | false => .no
            | true => .mk fun _ L F S => clrL z sz S (f L F))
    | _ => .no
def hDelete (x : Cx) (args : List Operand) (ts : List Nat) : Box Step := match x.evs args with
  | .no => .no
  | .mk f => match ts with
    | t :: _ => (match keyT P t with
      | .no => .no
      | .mk e => .mk fun _ L F S => delL e S (f L F))
    | _ => .no
/-- n cells that are bytes, as a text -/
def strV (l : List V) (n : Nat) : Option V := match bytesS l with
  | some m => some (frc m fun m => .s n m)
  | none => (match bytesY l with | some q => some (mkTxt q) | none => none)
def uStr (e : Nat) (S : St) : List V → O2
  | [.nilp, .i (.ofNat 0)] => .ok (.s 0 0) S
  | [.p B o, .i (.ofNat n)] => (match n with
    | 0 => .ok (.s 0 0) S
    | n => match S.heap.get B with
      | some (.row c lo sz fz) => (match and (Nat.beq o 0) (and (Nat.beq lo 0) (and (Nat.beq fz.ty e) (and (not (Nat.beq fz.k 1)) (and (Nat.ble n sz) (Nat.blt n 1000000))))) with
        | true => (match rd c n 0 with
          | some l => (match strV l n with
            | some v => .ok v ⟨S.heap.put B (some (.row c lo sz ⟨2, fz.ty⟩)), S.next⟩
            | none => .bad)
          | none => .bad)
        | false => .bad)
      | _ => .bad)
  | _ => .bad
def hUStr (x : Cx) (args : List Operand) (ts : List Nat) : Box Step := match x.evs args with
  | .no => .no
  | .mk f => match ts with
    | [t, _] => (match P.underlying t with
      | some (.pointer e) => (match szB P e with
        | .no => .no
        | .mk n => match Nat.beq n 1 with
          | false => .no
          | true => .mk fun _ L F S => uStr e S (f L F))
      | _ => .no)
    | _ => .no
def hFunc (x : Cx) (f : Nat) (args : List Operand) : Box Step := match x.evs args with
  | .no => .no
  | .mk g => .mk fun call L F S => call f (g L F) S
def callV (call : Caller) (args : List V) (S : St) : V → O2
  | .f fn first caps => call fn (first ++ args ++ caps) S
  | _ => .bad
def hValue (x : Cx) (v : Operand) (args : List Operand) : Box Step := match x.ev v with
  | .no => .no
  | .mk f => match x.evs args with
    | .no => .no
    | .mk g => .mk fun call L F S => callV call (g L F) S (f L F)
def hCall (x : Cx) (c : Call) : Box Step := match c.callee with
  | .value (.func f) => hFunc x f c.args.toList
  | .value v => hValue x v c.args.toList
  | .builtin .append => hAppend P x c.args.toList c.argTypes.toList
  | .builtin .copy => hCopy P x c.args.toList c.argTypes.toList
  | .builtin .delete => hDelete P x c.args.toList c.argTypes.toList
  | .builtin .clear => hClear P x c.args.toList c.argTypes.toList
  | .builtin .unsafeString => hUStr P x c.args.toList c.argTypes.toList
  | _ => .no
def heavyB (x : Cx) (o : Op) : Box Step :=
  match o with
  | .alloc t => hAlloc P t
  | .box t a => hBox x t a
  | .buildSlice t n ps => hBuildSl P x t n ps.toList
  | .store t a v => hStore P x t a v
  | .makeMap _ none => hMakeMap
  | .makeSlice t l c => hMakeSl P x t l c
  | .convert s d a => hConv P x s d a
  | .mapUpdate t m k v => hMapUp P x t m k v
  | .call c => hCall P x c
  | _ => .no
abbrev Cont := Caller → List V → Fr → St → R
/-- where a value goes: the frame keeps it, or does not -/
def dstB (nt U : Nat) : Option Nat → Box (Fr → V → Fr)
  | none => .mk fun F _ => F
  | some d => match Nat.blt d nt with
    | true => (match tstB U d with | true => setB d | false => .mk fun F _ => F)
    | false => .no
def guardB (x : Cx) (ops : List Oper) (go skip : Cont) : Option (Nat × Bool) → Box Cont
  | none => .mk go
  | some q => match (match nth ops q.1 with | some o => o.dst | none => none) with
    | none => .no
    | some d => match x.tmp d with
      | .no => .no
      | .mk g => match q.2 with
        | true => .mk fun c L F S => V.casesOn (motive_1 := fun _ => R) (g L F)
            (fun b => Bool.rec (motive := fun _ => R) (skip c L F S) (go c L F S) b) (fun _ => .bad) (fun _ _ => .bad) (fun _ _ => .bad) .bad (fun _ _ => .bad) .bad (fun _ _ _ _ => .bad) .bad (fun _ => .bad) (fun _ _ _ => .bad) .bad (fun _ _ => .bad) .bad (fun _ => .bad) (fun _ => skip c L F S) (fun _ => .bad)
        | false => .mk fun c L F S => V.casesOn (motive_1 := fun _ => R) (g L F)
            (fun b => Bool.rec (motive := fun _ => R) (go c L F S) (skip c L F S) b) (fun _ => .bad) (fun _ _ => .bad) (fun _ _ => .bad) .bad (fun _ _ => .bad) .bad (fun _ _ _ _ => .bad) .bad (fun _ => .bad) (fun _ _ _ => .bad) .bad (fun _ _ => .bad) .bad (fun _ => .bad) (fun _ => skip c L F S) (fun _ => .bad)
/-- an operation, and what follows -/
def opB (x : Cx) (ops : List Oper) (o : Oper) (k : Cont) : Box Cont :=
  match dstB x.nt x.U o.dst with
  | .no => .no
  | .mk put => match lightB P x o.op with
    | .mk s => guardB x ops (fun c L F S => Option.rec (motive := fun _ => R) .bad (fun v => k c (v :: L) (put F v) S) (s L F S)) (fun c L F S => k c (u :: L) (put F u) S) o.guard
    | .no => match heavyB P x o.op with
      | .no => .no
      | .mk s => guardB x ops (fun c L F S => O2.rec (motive := fun _ => R) .bad (fun v S' => k c (v :: L) (put F v) S') (s c L F S)) (fun c L F S => k c (u :: L) (put F u) S) o.guard
def opsB (nt U : Nat) (all : List Oper) : List (Option Nat) → List Oper → Box Cont
  | _, [] => .mk fun _ _ F S => .norm F S
  | loc, o :: r => match opsB nt U all (o.dst :: loc) r with
    | .no => .mk fun _ _ _ _ => .bad
    | .mk k => match opB P ⟨nt, U, loc⟩ all o k with
      | .no => .mk fun _ _ _ _ => .bad
      | .mk x => .mk x
-- REGIONS WHOSE ORDER IS DRAWN
def edges : List Edge → List Nat
  | [] => []
  | e :: r => match e.ground with
    | .textOnly _ => edges r
    | .gcOnly _ => edges r
    | _ => e.on :: edges r
def bit (U t : Nat) : Nat := Nat.lor U (Nat.shiftLeft 1 t)
def orM (acc : List Nat) : List Nat → Nat → Nat
  | [], m => m
  | j :: r, m => frc (Nat.lor (bit m j) (match nth acc j with | some k => k | none => 0)) fun m => orM acc r m
/-- what must go before each operation -/
def ancs : List Oper → List Nat → List Nat
  | [], acc => acc
  | o :: r, acc => ancs r (acc ++ [orM acc (edges o.after.toList) 0])
def subM (m D : Nat) : Bool := Nat.beq (Nat.land m D) m
def isLt : Op → Bool
  | .alloc _ => false
  | .box .. => false
  | .buildSlice .. => false
  | .store .. => false
  | .makeMap .. => false
  | .makeSlice .. => false
  | .mapUpdate .. => false
  | .call c => (match c.callee with | .builtin .append => false | .builtin .copy => false | .builtin .delete => false | .builtin .clear => false | .builtin .unsafeString => false | .value _ => false | _ => true)
  | _ => true
/-- a kind of operation that does nothing but lay a new block, from its operands alone -/
def isFr : Op → Bool
  | .alloc _ => true
  | .buildSlice .. => true
  | .makeMap _ none => true
  | _ => false
/-- the first operation that may go now: a light one (0), one that is not p (1), any (2) -/
def first (k p D : Nat) : Nat → List Oper → List Nat → Option Nat
  | i, o :: r, m :: ms => (match and (not (tstB D i)) (and (subM m D) (match k with | 0 => isLt o.op | 1 => not (Nat.beq i p) | _ => true)) with | true => some i | false => first k p D (i + 1) r ms)
  | _, _, _ => none
def plan (all : List Oper) (ms : List Nat) (p : Nat) : Nat → Nat → List Nat
  | 0, _ => []
  | n + 1, D => match first 0 p D 0 all ms with
    | some i => i :: plan all ms p n (bit D i)
    | none => match first 1 p D 0 all ms with
      | some i => i :: plan all ms p n (bit D i)
      | none => match first 2 p D 0 all ms with
        | some i => i :: plan all ms p n (bit D i)
        | none => []
/-- the first operation that only lays a block -/
def fresh1 : Nat → List Oper → Nat
  | i, [] => i
  | i, o :: r => match o.guard with
    | some _ => fresh1 (i + 1) r
    | none => (match isFr o.op with | true => i | false => fresh1 (i + 1) r)
/-- no other operation than h may go now, p aside -/
def sole (E D p h : Nat) : Nat → List Nat → Bool
  | _, [] => true
  | i, m :: ms => and (or (tstB D i) (or (not (subM m E)) (or (Nat.beq i h) (Nat.beq i p)))) (sole E D p h (i + 1) ms)
def memN (t : Nat) : List Nat → Bool
  | [] => false
  | x :: r => or (Nat.beq x t) (memN t r)
def tmpsOf : List Operand → List Nat
  | [] => []
  | .tmp t :: r => t :: tmpsOf r
  | _ :: r => tmpsOf r
def dstIn (ts : List Nat) : Option Nat → Bool
  | none => false
  | some d => memN d ts
def looks (all : List Oper) (o : Oper) : List Nat :=
  match o.guard with
  | none => tmpsOf o.op.operands.toList
  | some q => (match (match nth all q.1 with | some g => g.dst | none => none) with
    | some d => d :: tmpsOf o.op.operands.toList
    | none => tmpsOf o.op.operands.toList)
/-- what operation i looks at is laid by what must go before it, or by what must come behind it, or not here -/
def looksOk (i m : Nat) (ts : List Nat) : Nat → List Oper → List Nat → Bool
  | j, o :: r, mj :: ms => and (or (tstB m j) (or (tstB mj i) (not (dstIn ts o.dst)))) (looksOk i m ts (j + 1) r ms)
  | _, [], _ => true
  | _, _, [] => false
def looksAll (all : List Oper) (ms0 : List Nat) : Nat → List Oper → List Nat → Bool
  | i, o :: r, m :: ms => and (looksOk i m (looks all o) 0 all ms0) (looksAll all ms0 (i + 1) r ms)
  | _, [], _ => true
  | _, _, [] => false
/-- an operation that must come before looks at what this one lays -/
def barAny (all : List Oper) (m d : Nat) : Nat → List Oper → Bool
  | _, [] => false
  | i, o :: r => or (and (tstB m i) (memN d (looks all o))) (barAny all m d (i + 1) r)
def bar (all : List Oper) (m : Nat) : Option Nat → Bool
  | none => false
  | some d => barAny all m d 0 all
/-- the edges lead to earlier operations; no slot is laid twice -/
def edgesOk : Nat → List Nat → Bool
  | _, [] => true
  | i, j :: r => and (Nat.blt j i) (edgesOk i r)
def shapeOk : Nat → List Nat → List Oper → Bool
  | _, _, [] => true
  | i, ds, o :: r => and (edgesOk i (edges o.after.toList)) (match o.dst with
    | none => shapeOk (i + 1) ds r
    | some d => (match memN d ds with | true => false | false => shapeOk (i + 1) (d :: ds) r))
def allIn (D : Nat) : Nat → Bool
  | 0 => true
  | n + 1 => and (tstB D n) (allIn D n)
mutual
def idV : V → V → Bool
  | .b x, .b y => bEq x y
  | .i x, .i y => ieq x y
  | .k k x, .k k' y => and (kEq k k') (ieq x y)
  | .s l n, .s l' n' => and (Nat.beq l l') (Nat.beq n n')
  | .nilp, .nilp => true
  | .p B o, .p B' o' => and (Nat.beq B B') (Nat.beq o o')
  | .nils, .nils => true
  | .sl B o n z, .sl B' o' n' z' => and (and (Nat.beq B B') (Nat.beq o o')) (and (Nat.beq n n') (Nat.beq z z'))
  | .nilm, .nilm => true
  | .m B, .m B' => Nat.beq B B'
  | .f g a c, .f g' a' c' => and (Nat.beq g g') (and (idVL a a') (idVL c c'))
  | .nilf, .nilf => true
  | .ifc t v, .ifc t' v' => and (Nat.beq t t') (idV v v')
  | .nili, .nili => true
  | .a l, .a l' => idVL l l'
  | .t l, .t l' => idVL l l'
  | .y t, .y t' => sameY t t'
  | _, _ => false
def idVL : List V → List V → Bool
  | [], [] => true
  | x :: l, y :: r => and (idV x y) (idVL l r)
  | _, _ => false
end
/-- whether an operation with a guard is wanted -/
def guardG (x : Cx) (all : List Oper) : Option (Nat × Bool) → Box (List V → Fr → Option Bool)
  | none => .mk fun _ _ => some true
  | some q => match (match nth all q.1 with | some o => o.dst | none => none) with
    | none => .no
    | some d => match x.tmp d with
      | .no => .no
      | .mk g => .mk fun L F => match g L F with
        | .b b => some (bEq b q.2)
        | .t _ => some false
        | _ => none
def lightG (x : Cx) (all : List Oper) (o : Oper) : Box Light := match lightB P x o.op with
  | .no => .no
  | .mk s => match guardG x all o.guard with
    | .no => .no
    | .mk g => .mk fun L F S => match g L F with
      | some true => s L F S
      | some false => some u
      | none => none
def heavyG (x : Cx) (all : List Oper) (o : Oper) : Box Step := match heavyB P x o.op with
  | .no => .no
  | .mk s => match guardG x all o.guard with
    | .no => .no
    | .mk g => .mk fun c L F S => match g L F with
      | some true => s c L F S
      | some false => .ok u S
      | none => .bad
abbrev Chk := List V → Fr → St → Bool
def again (x : Cx) (all : List Oper) (o : Oper) : Box Chk := match lightG P x all o with
  | .no => .no
  | .mk s => match o.dst with
    | none => .mk fun L F S => match s L F S with | some _ => true | none => false
    | some d => match x.tmp d with
      | .no => .no
      | .mk g => .mk fun L F S => match s L F S with | some v => idV v (g L F) | none => false
def agains (x : Cx) (all : List Oper) (m : Nat) : List Nat → Box Chk
  | [] => .mk fun _ _ _ => true
  | i :: r => match agains x all m r with
    | .no => .no
    | .mk f => match tstB m i with
      | true => .mk f
      | false => match nth all i with
        | none => .no
        | some o => match again P x all o with
          | .no => .no
          | .mk g => .mk fun L F S => match g L F S with | true => f L F S | false => false
abbrev Frs := List V → Fr → Option (O × (Nat → V))
def frAlloc (t : Nat) : Box Frs := match zeroB P t with
  | .no => .no
  | .mk z => match flat (cells z) with
    | false => .no
    | true => .mk fun _ _ => some (.row (wr .e 0 (cells z)) 0 (cells z).length ⟨0, t⟩, fun B => .p B 0)
def frBuildSl (x : Cx) (t n : Nat) (ps : List (Nat × Operand)) : Box Frs := match slElB P t with
  | .no => .no
  | .mk e => match szB P e with
    | .no => .no
    | .mk sz => match zeroB P e with
      | .no => .no
      | .mk z => match and (Nat.ble (Nat.mul n sz) 1000000) (and (Nat.blt 0 sz) (Nat.beq (cells z).length sz)) with
        | false => .no
        | true => match partsB x (Nat.mul n sz) (elemPl sz) ps with
          | .no => .no
          | .mk g => match rep (cells z) n with
            | zs => .mk fun L F => match g L F zs with
              | some l => (match flat l with | true => some (.row (wr .e 0 l) 0 l.length ⟨0, e⟩, fun B => .sl B 0 n sz) | false => none)
              | none => none
def frB (x : Cx) : Op → Box Frs
  | .alloc t => frAlloc P t
  | .buildSlice t n ps => frBuildSl P x t n ps.toList
  | .makeMap _ none => .mk fun _ _ => some (.mp [], fun B => .m B)
  | _ => .no
def frG (x : Cx) (o : Oper) : Box Frs := match o.guard with
  | none => frB P x o.op
  | some _ => .no
/-- p may go here as well: what it lays, and what was put off -/
def soon (x : Cx) (all : List Oper) (ms : List Nat) (D p : Nat) (ln : List Nat) : Box Chk := match nth all p with
  | none => .mk fun _ _ _ => true
  | some o => match nth ms p with
    | none => .no
    | some m => match or (tstB D p) (not (subM m D)) with
      | true => .mk fun _ _ _ => true
      | false => match frG P x o with
        | .no => .no
        | .mk f => match agains P x all 0 ln with
          | .no => .no
          | .mk g => .mk fun L F S => match f L F with | some _ => g L F S | none => false
def frCont (f : Frs) (chk : Chk) (put : Fr → V → Fr) (k : Cont) : Cont := fun c L F S => match f L F with
  | none => .bad
  | some q => frc S.next fun B => match q.2 B with
    | v => match (⟨S.heap.put B (some q.1), Nat.succ B⟩ : St) with
      | S' => match chk (v :: L) (put F v) S' with
        | true => k c (v :: L) (put F v) S'
        | false => .bad
def ltCont (s : Light) (pre chk : Chk) (put : Fr → V → Fr) (k : Cont) : Cont := fun c L F S => match s L F S with
  | none => .bad
  | some v => match pre L F S with
    | false => .bad
    | true => match chk (v :: L) (put F v) S with
      | true => k c (v :: L) (put F v) S
      | false => .bad
def hvCont (s : Step) (pre chk : Chk) (put : Fr → V → Fr) (k : Cont) : Cont := fun c L F S => match s c L F S with
  | .bad => .bad
  | .ok v S' => match pre L F S with
    | false => .bad
    | true => match chk (v :: L) (put F v) S' with
      | true => k c (v :: L) (put F v) S'
      | false => .bad
def opsD (nt U : Nat) (all : List Oper) (ms : List Nat) (p : Nat) : List (Option Nat) → List Nat → Nat → List Nat → Box Cont
  | _, _, D, [] => (match allIn D all.length with | true => .mk fun _ _ F S => .norm F S | false => .no)
  | loc, ln, D, i :: r => match nth all i with
    | none => .no
    | some o => match nth ms i with
      | none => .no
      | some m => match and (not (tstB D i)) (subM m D) with
        | false => .no
        | true => match dstB nt U o.dst with
          | .no => .no
          | .mk put => match Nat.beq i p with
            | true => (match sole D D p i 0 ms with
              | false => .no
              | true => match frG P ⟨nt, U, loc⟩ o with
                | .no => .no
                | .mk f => match agains P ⟨nt, U, o.dst :: loc⟩ all m ln with
                  | .no => .no
                  | .mk chk => match opsD nt U all ms p (o.dst :: loc) ln (bit D i) r with
                    | .no => .no
                    | .mk k => .mk (frCont f chk put k))
            | false => match lightG P ⟨nt, U, loc⟩ all o with
              | .mk s => (match bar all m o.dst with
                | false => (match opsD nt U all ms p (o.dst :: loc) (i :: ln) (bit D i) r with
                  | .no => .no
                  | .mk k => .mk fun c L F S => match s L F S with
                    | some v => k c (v :: L) (put F v) S
                    | none => .bad)
                | true => match sole (bit D p) D p i 0 ms with
                  | false => .no
                  | true => match soon P ⟨nt, U, loc⟩ all ms D p ln with
                    | .no => .no
                    | .mk pre => match agains P ⟨nt, U, o.dst :: loc⟩ all m ln with
                      | .no => .no
                      | .mk chk => match opsD nt U all ms p (o.dst :: loc) ln (bit D i) r with
                        | .no => .no
                        | .mk k => .mk (ltCont s pre chk put k))
              | .no => match sole (bit D p) D p i 0 ms with
                | false => .no
                | true => match heavyG P ⟨nt, U, loc⟩ all o with
                  | .no => .no
                  | .mk s => match soon P ⟨nt, U, loc⟩ all ms D p ln with
                    | .no => .no
                    | .mk pre => match agains P ⟨nt, U, o.dst :: loc⟩ all m ln with
                      | .no => .no
                      | .mk chk => match opsD nt U all ms p (o.dst :: loc) ln (bit D i) r with
                        | .no => .no
                        | .mk k => .mk (hvCont s pre chk put k)
/-- what p lays is looked at by nothing that must go before it -/
def freeOk (all : List Oper) (ms : List Nat) (p : Nat) : Bool := match nth all p with
  | none => true
  | some o => match nth ms p with
    | none => false
    | some m => not (bar all m o.dst)
def drawB (nt U : Nat) (all : List Oper) : Box Cont := match shapeOk 0 [] all with
  | false => .no
  | true => match ancs all [] with
    | ms => match fresh1 0 all with
      | p => match and (looksAll all ms 0 all ms) (freeOk all ms p) with
        | false => .no
        | true => opsD P nt U all ms p [] [] 0 (plan all ms p all.length 0)
def iter (body : Fr → St → R) (n : Nat) : Fr → St → R :=
  Nat.rec (motive := fun _ => Fr → St → R) (fun _ _ => .bad)
    (fun _ ih F S => R.rec (motive := fun _ => R) .bad (fun F S => ih F S) (fun id F S => .exit id F S) (fun F S => .ret F S) (body F S)) n
abbrev CCont := Caller → Fr → St → R
def no1 {α : Type} : Box α → α → Box α
  | .no, x => .mk x
  | .mk y, _ => .mk y
def den (nt U : Nat) (c : Code) : Box CCont :=
  Code.rec (motive := fun _ => Box CCont)
    (.mk fun _ F S => .norm F S)
    (fun _ ops draw => match (match draw with | false => opsB P nt U ops.toList [] ops.toList | true => drawB P nt U ops.toList) with
      | .no => .mk fun _ _ _ => .bad
      | .mk f => .mk fun c F S => f c [] F S)
    (fun _ _ iha ihb => match iha with
      | .no => .no
      | .mk f => match ihb with
        | .no => .no
        | .mk g => .mk fun c F S => R.rec (motive := fun _ => R) .bad (fun F S => g c F S) (fun id F S => .exit id F S) (fun F S => .ret F S) (f c F S))
    (fun x _ _ iha ihb => match (Cx.mk nt U []).ev x with
      | .no => .mk fun _ _ _ => .bad
      | .mk e => match iha with
        | .no => .no
        | .mk f => match ihb with
          | .no => .no
          | .mk g => .mk fun c F S => match e [] F with | .b true => f c F S | .b false => g c F S | _ => .bad)
    (fun id _ ih => match ih with
      | .no => .no
      | .mk f => .mk fun c F S => R.rec (motive := fun _ => R) .bad (fun F S => .norm F S) (fun j F S => match Nat.beq j id with | true => .norm F S | false => .exit j F S) (fun F S => .ret F S) (f c F S))
    (fun _ ih => match ih with
      | .no => .no
      | .mk f => .mk fun c F S => iter (f c) 100000 F S)
    (fun _ _ _ _ _ _ => .mk fun _ _ _ => .bad)
    (fun id => .mk fun _ F S => .exit id F S)
    (fun _ _ => .mk fun _ _ _ => .bad)
    (fun _ => .mk fun _ F S => .norm F S)
    (fun _ => .mk fun _ _ _ => .bad)
    (.mk fun _ F S => .ret F S)
    (fun _ => .mk fun _ _ _ => .bad)
    c
/-- which slots are read where their region has not laid them: those the frame keeps -/
def useO (D : Nat) (U : Nat) : Operand → Nat
  | .tmp t => (match tstB D t with | true => U | false => bit U t)
  | _ => U
def useL (D : Nat) : List Operand → Nat → Nat
  | [], U => U
  | o :: r, U => useL D r (useO D U o)
def useOps : List Oper → Nat → Nat → Nat
  | [], _, U => U
  | o :: r, D, U => frc (useL D o.op.operands.toList U) fun U => frc (match o.dst with | some d => bit D d | none => D) fun D => useOps r D U
def useC (c : Code) : Nat → Nat :=
  Code.rec (motive := fun _ => Nat → Nat)
    (fun U => U)
    (fun _ ops _ U => useOps ops.toList 0 U)
    (fun _ _ iha ihb U => ihb (iha U))
    (fun x _ _ iha ihb U => ihb (iha (useO 0 U x)))
    (fun _ _ ih U => ih U)
    (fun _ ih U => ih U)
    (fun _ _ _ _ _ _ U => U)
    (fun _ U => U)
    (fun _ ih U => ih U)
    (fun _ U => U)
    (fun _ U => U)
    (fun U => U)
    (fun _ U => U)
    c
def useR : List ResultVar → Nat → Nat
  | [], U => U
  | .tmp t :: r, U => useR r (bit U t)
  | .cell t _ :: r, U => useR r (bit U t)
def resB (nt U : Nat) : List ResultVar → Box (Fr → St → Option (List V))
  | [] => .mk fun _ _ => some []
  | .tmp t :: r => (match (Cx.mk nt U []).tmp t with
    | .no => .no
    | .mk f => match resB nt U r with
      | .no => .no
      | .mk g => .mk fun F S => match g F S with | some l => some (f [] F :: l) | none => none)
  | .cell a t :: r => (match (Cx.mk nt U []).tmp a with
    | .no => .no
    | .mk f => match isAg P t with
      | .no => .no
      | .mk ag => match szB P t with
        | .no => .no
        | .mk n => match resB nt U r with
          | .no => .no
          | .mk g => match or ag (Nat.beq n 1) with
            | false => .no
            | true => .mk fun F S => match ldv ag n (f [] F) S with
              | some v => (match g F S with | some l => some (v :: l) | none => none)
              | none => none)
def tup : List V → V
  | [v] => v
  | l => .t l
def argsIn : Nat → List V → Fr → Box Fr
  | _, [], F => .mk F
  | k, v :: l, F => match setB k with
    | .no => .no
    | .mk f => argsIn (k + 1) l (f F v)
def fin (g : Fr → St → Option (List V)) (F : Fr) (S : St) : O2 := match g F S with | some l => .ok (tup l) S | none => .bad
/-- a function's body -/
def funB (fn : Func) (c : Code) : Box (Caller → List V → St → O2) :=
  match Nat.ble fn.ntmps 256 with
  | false => .no
  | true => frc (useR fn.results.toList (useC c 0)) fun U => match den P fn.ntmps U c with
    | .no => .no
    | .mk b => match resB P fn.ntmps U fn.results.toList with
      | .no => .no
      | .mk g => .mk fun call args S => match Nat.ble args.length fn.ntmps with
        | false => .bad
        | true => match argsIn 0 args Fr.none with
        | .no => .bad
        | .mk F => R.rec (motive := fun _ => O2) .bad (fun F S => fin g F S) (fun _ _ _ => .bad)
            (fun F S => fin g F S) (b call F S)
abbrev Natives := Nat → Option (List V → St → O2)
def bodyB (N : Natives) (f : Nat) : Box (Caller → List V → St → O2) :=
  match N f with
  | some g => .mk fun _ args S => g args S
  | none => match P.funcs[f]? with
    | none => .no
    | some fn => match fn.body with
      | none => .no
      | some c => funB P fn c
def callN (N : Natives) (n : Nat) : Caller :=
  Nat.rec (motive := fun _ => Caller) (fun _ _ _ => .bad)
    (fun _ ih f args S => match bodyB P N f with | .no => .bad | .mk b => b ih args S) n
end
end Go.Xe
