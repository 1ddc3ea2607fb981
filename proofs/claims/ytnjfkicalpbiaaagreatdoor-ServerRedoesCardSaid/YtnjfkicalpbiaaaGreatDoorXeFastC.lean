/-
  THE QUICK FORM IS THE VERY SAME: light operations.
-/
import Derived.Test.YtnjfkicalpbiaaaGreatDoorXeFastB
set_option linter.unusedVariables false
set_option linter.unusedSimpArgs false
set_option linter.unnecessarySimpa false
namespace Go.Xf
open Go.Xe
variable (P : Program)
theorem eqInt'_eq (x y : V) : eqInt' x y = eqInt x y := by
  cases x <;> cases y <;> first
    | rfl
    | (show some (eq' _ _) = some (ieq _ _); rw [eq'_eq])
    | (rename_i k a k' b
       show Bool.rec (motive := fun _ => Option Bool) none (some (eq' a b)) (kEq' k k') = _
       rw [kEq'_eq, eq'_eq]; simp only [eqInt]; cases kEq k k' <;> rfl)
theorem eqStr'_eq (x y : V) : eqStr' x y = eqStr x y := by
  cases x <;> cases y <;> first | rfl | (show some (and' _ _) = _; rw [and'_eq]; rfl)
theorem eqBool'_eq (x y : V) : eqBool' x y = eqBool x y := by
  cases x <;> cases y <;> first | rfl | (rename_i a b; cases a <;> cases b <;> rfl)
theorem liveB_eq (S : St) (B : Nat) : liveB S B = match S.heap.get B with | some (.row _ _ _ ⟨0, _⟩) => true | _ => false := by
  unfold liveB asRow
  rcases S.heap.get B with _ | (⟨c, lo, n, ⟨_ | k, ty⟩⟩ | es) <;> rfl
theorem eqPtr'_eq (S : St) (x y : V) : eqPtr' S x y = eqPtr S x y := by
  cases x <;> cases y <;> first | rfl | skip
  rename_i B o B' o'
  show Bool.rec (motive := fun _ => Option Bool) (iteO (liveB S B) (iteO (liveB S B') (some false))) (some (Nat.beq o o')) (Nat.beq B B') = _
  simp only [eqPtr, liveB_eq]
  cases Nat.beq B B'
  · show iteO _ (iteO _ _) = _
    simp only
    rcases S.heap.get B with _ | (⟨c, lo, n, ⟨_ | k, ty⟩⟩ | es) <;> first | rfl | skip
    rcases S.heap.get B' with _ | (⟨c, lo, n, ⟨_ | k, ty⟩⟩ | es) <;> rfl
  · rfl
theorem eqSl'_eq (x y : V) : eqSl' x y = eqSl x y := by cases x <;> cases y <;> rfl
theorem eqFs'_eq {e' e : Nat → Box (St → KEq)} (h : ∀ t, e' t = e t) : ∀ l : List Field, eqFs' P e' l = eqFs P e l
  | [] => rfl
  | f :: r => by
    simp only [eqFs', eqFs, h, eqFs'_eq h r]
    cases f.name == "_" <;> first | rfl | skip
    cases partB P f.type f.offset <;> first | rfl | skip
    rename_i p
    cases e f.type <;> first | rfl | skip
    rename_i q
    cases eqFs P e r <;> first | rfl | skip
    rename_i g
    show Box.mk _ = Box.mk _
    congr 1
    funext S l m
    rcases p l with _ | x
    · rfl
    show Option.rec (motive := fun _ => Option Bool) none _ (p m) = (match p m with | none => none | some y => _)
    rcases p m with _ | y
    · rfl
    show Option.rec (motive := fun _ => Option Bool) none _ (q S x y) = (match q S x y with | some true => _ | some false => _ | none => none)
    rcases q S x y with _ | (_ | _) <;> rfl
theorem aggEq'_eq (g : St → List V → List V → Option Bool) (S : St) (x y : V) : aggEq' g S x y = aggEq g S x y := by
  cases x <;> first | rfl | (cases y <;> rfl)
theorem eqB'_eq : ∀ d t : Nat, eqB' P d t = eqB P d t
  | 0, _ => rfl
  | d + 1, t => by
    have h1 : eqInt' = eqInt := by funext x y; exact eqInt'_eq x y
    have h2 : eqStr' = eqStr := by funext x y; exact eqStr'_eq x y
    have h3 : eqBool' = eqBool := by funext x y; exact eqBool'_eq x y
    have h4 : eqPtr' = eqPtr := by funext S x y; exact eqPtr'_eq S x y
    have h5 : eqSl' = eqSl := by funext x y; exact eqSl'_eq x y
    have h6 : ∀ l, eqFs' P (eqB' P d) l = eqFs P (eqB P d) l := eqFs'_eq P (eqB'_eq d)
    have h7 : aggEq' = aggEq := by funext g S x y; exact aggEq'_eq g S x y
    unfold eqB' eqB
    rw [h1, h2, h3, h4, h5, h7]
    simp only [h6]
    rfl
theorem keyB'_eq (t : Nat) : keyB' P t = keyB P t := by
  unfold keyB' keyB
  have h1 : eqInt' = eqInt := by funext x y; exact eqInt'_eq x y
  have h2 : eqStr' = eqStr := by funext x y; exact eqStr'_eq x y
  have h3 : eqBool' = eqBool := by funext x y; exact eqBool'_eq x y
  rw [h1, h2, h3]
  simp only [eqB'_eq]
  rcases P.underlying t with _ | u
  · rfl
  cases u <;> first | rfl | skip
  show (match eqB P 6 t with | .no => _ | .mk e => _) = (match eqB P 6 t with | .no => _ | .mk e => _)
  cases eqB P 6 t with
  | no => rfl
  | mk e =>
    show Box.mk _ = Box.mk _
    congr 1
    funext x y
    rcases e ⟨.e, 0⟩ x x with _ | (_ | _) <;> rfl
theorem ld1_eq (v : V) (S : St) : ld1 v S = ldv false 1 v S := by
  cases v <;> first | rfl | skip
  rename_i B o
  show asRow none _ (T.get S.heap B) = (match T.get S.heap B with | some (.row c lo n _) => _ | _ => none)
  rcases T.get S.heap B with _ | (⟨c, lo, n, fz⟩ | es) <;> first | rfl | skip
  show iteO (Nat.ble lo o) (iteO (Nat.ble (Nat.succ o) n) (T.get c o)) = (match and (Nat.ble lo o) (Nat.ble (Nat.add o 1) n) with | true => _ | false => none)
  rw [show Nat.add o 1 = Nat.succ o from rfl]
  cases Nat.ble lo o <;> cases Nat.ble (Nat.succ o) n <;> rfl
theorem ldA_eq (k : Nat) (v : V) (S : St) : ldA k v S = ldv true k v S := by
  cases v <;> first | rfl | skip
  rename_i B o
  show asRow none _ (T.get S.heap B) = (match T.get S.heap B with | some (.row c lo n _) => _ | _ => none)
  rcases T.get S.heap B with _ | (⟨c, lo, n, fz⟩ | es) <;> first | rfl | skip
  show iteO (Nat.ble lo o) (iteO (Nat.ble (Nat.add o k) n) (Option.rec (motive := fun _ => Option V) none (fun l => some (.a l)) (rd' c k o))) = (match and (Nat.ble lo o) (Nat.ble (Nat.add o k) n) with | true => ldc c true k o | false => none)
  rw [rd'_eq]
  simp only [ldc]
  cases Nat.ble lo o <;> cases Nat.ble (Nat.add o k) n <;> first | rfl | skip
  cases rd c k o <;> rfl
theorem lMove'_eq (x : Cx) (o : Operand) : lMove' x o = lMove x o := rfl
theorem lPick'_eq (x : Cx) (c a b : Operand) : lPick' x c a b = lPick x c a b := by
  unfold lPick' lPick
  cases x.ev c <;> first | rfl | skip
  cases x.ev a <;> first | rfl | skip
  cases x.ev b <;> first | rfl | skip
  rename_i c a b
  show Box.mk _ = Box.mk _
  congr 1
  funext L F S
  cases c L F <;> first | rfl | skip
  rename_i q; cases q <;> rfl
theorem lLoad'_eq (x : Cx) (t : Nat) (a : Operand) : lLoad' P x t a = lLoad P x t a := by
  unfold lLoad' lLoad
  cases isAg P t <;> first | rfl | skip
  rename_i g
  cases szB P t <;> first | rfl | skip
  rename_i n
  cases x.ev a <;> first | rfl | skip
  rename_i f
  cases g
  · show (match Nat.beq n 1 with | true => _ | false => _) = (match Nat.beq n 1 with | true => _ | false => _)
    cases h : Nat.beq n 1
    · rfl
    · have : n = 1 := Nat.eq_of_beq_eq_true h
      subst this
      show Box.mk _ = Box.mk _
      congr 1
      funext L F S
      exact ld1_eq _ _
  · show Box.mk _ = Box.mk _
    congr 1
    funext L F S
    exact ldA_eq _ _ _
theorem nilC'_eq (v : V) : nilC' v = nilC v := by cases v <;> rfl
theorem lNil'_eq (x : Cx) (o : Operand) : lNil' x o = lNil x o := by
  unfold lNil' lNil
  cases x.ev o <;> first | rfl | skip
  show Box.mk _ = Box.mk _
  congr 1
  funext L F S
  exact nilC'_eq _
theorem lEq'_eq (x : Cx) (op : BinOp) (t : Nat) (a b : Operand) (h : op = .eql ∨ op = .neq) : lEq' P x op t a b = lEq P x op t a b := by
  unfold lEq' lEq
  rw [eqB'_eq]
  cases x.ev a <;> first | rfl | skip
  cases x.ev b <;> first | rfl | skip
  cases eqB P 6 t <;> first | rfl | skip
  rename_i f g e
  rcases h with rfl | rfl <;> (show Box.mk _ = Box.mk _; congr 1; funext L F S; rcases e S (f L F) (g L F) with _ | b <;> first | rfl | (cases b <;> rfl))
theorem binB_mk {op : BinOp} : ∃ h, binB op = .mk h := by cases op <;> exact ⟨_, rfl⟩
theorem lAr'_eq (x : Cx) (op : BinOp) (a b : Operand) : lAr' x op a b = lAr x op a b := by
  unfold lAr' lAr
  cases x.ev a <;> first | rfl | skip
  cases x.ev b <;> first | rfl | skip
  obtain ⟨h, e⟩ := binB_mk (op := op)
  have := binB_some e
  subst this
  rw [e]
theorem lBin'_eq (x : Cx) (op : BinOp) (t : Nat) (a b : Operand) : lBin' P x op t a b = lBin P x op t a b := by
  have key : ∀ op : BinOp, op ≠ .eql → op ≠ .neq → lBin' P x op t a b = lAr' x op a b ∧ lBin P x op t a b = lAr x op a b := by
    intro op h1 h2
    cases op <;> first | exact ⟨rfl, rfl⟩ | exact absurd rfl h1 | exact absurd rfl h2
  by_cases h1 : op = .eql
  · subst h1; exact lEq'_eq P _ _ _ _ _ (.inl rfl)
  by_cases h2 : op = .neq
  · subst h2; exact lEq'_eq P _ _ _ _ _ (.inr rfl)
  rw [(key op h1 h2).1, (key op h1 h2).2]; exact lAr'_eq x op a b
theorem unNot'_eq (v : V) : unNot' v = unNot v := by cases v <;> first | rfl | (rename_i b; cases b <;> rfl)
theorem lUn'_eq (x : Cx) (op : UnOp) (a : Operand) : lUn' x op a = lUn x op a := by
  unfold lUn' lUn
  cases x.ev a <;> first | rfl | skip
  cases op <;> first | rfl | skip
  show Box.mk _ = Box.mk _
  congr 1
  funext L F S
  exact unNot'_eq _
theorem cvInt'_eq (k : IntKind) (v : V) : cvInt' k v = cvInt k v := by
  cases v <;> first
    | rfl
    | (show some (frcI' _ _) = some (frcI _ _); rw [frcI'_eq, frcI_eq, wrap'_eq, mkI'_eq])
theorem src'_eq (size n : Nat) (v : V) (S : St) : src' size n v S = src size n v S := by
  cases v <;> first | rfl | skip
  · rename_i l m
    show iteO (Nat.ble n l) (iteO (Nat.beq size 1) (some (sBytes' n m))) = _
    simp only [src]
    rw [sBytes'_eq]
    cases Nat.ble n l <;> cases Nat.beq size 1 <;> rfl
  · cases n with
    | zero => rfl
    | succ n => cases n <;> rfl
  · rename_i B o len z
    show asRow none _ (T.get S.heap B) = (match T.get S.heap B with | some (.row c lo sz _) => _ | _ => none)
    rcases T.get S.heap B with _ | (⟨c, lo, sz, fz⟩ | es) <;> first | rfl | skip
    show iteO (Nat.beq z size) (iteO (Nat.ble n len) (iteO (Nat.ble lo o) (iteO (Nat.ble (Nat.add o (Nat.mul n size)) sz) (rd' c (Nat.mul n size) o)))) = (match and (Nat.beq z size) (and (Nat.ble n len) (and (Nat.ble lo o) (Nat.ble (Nat.add o (Nat.mul n size)) sz))) with | true => rd c (Nat.mul n size) o | false => none)
    rw [rd'_eq]
    cases Nat.beq z size <;> cases Nat.ble n len <;> cases Nat.ble lo o <;> cases Nat.ble (Nat.add o (Nat.mul n size)) sz <;> rfl
theorem cvBytes'_eq (S : St) (v : V) : cvBytes' S v = cvBytes S v := by
  cases v <;> first | rfl | skip
  rename_i B o n z
  show Option.rec (motive := fun _ => Option V) none _ (src' 1 n (.sl B o n z) S) = (match src 1 n (.sl B o n z) S with | some l => _ | none => none)
  rw [src'_eq]
  rcases src 1 n (.sl B o n z) S with _ | l
  · rfl
  · show Option.rec (motive := fun _ => Option V) (Option.rec (motive := fun _ => Option V) none (fun l => some (mkTxt l)) (bytesY l)) _ (bytesS' l) = (match bytesS l with | some m => _ | none => (match bytesY l with | some l => _ | none => none))
    rw [bytesS'_eq]
    cases bytesS l <;> first | rfl | skip
    cases bytesY l <;> rfl
theorem lConv'_eq (x : Cx) (s d : Nat) (a : Operand) : lConv' P x s d a = lConv P x s d a := by
  unfold lConv' lConv
  have h1 : cvInt' = cvInt := by funext k v; exact cvInt'_eq k v
  have h2 : cvBytes' = cvBytes := by funext S v; exact cvBytes'_eq S v
  rw [h1, h2]; rfl
theorem partsB'_eq (x : Cx) (n : Nat) (place : Nat → Box (Nat × Nat)) : ∀ l, partsB' x n place l = partsB x n place l
  | [] => rfl
  | p :: r => by
    simp only [partsB', partsB]
    cases place p.1 <;> first | rfl | skip
    rename_i q
    simp only
    cases Nat.ble (Nat.add q.1 q.2) n <;> first | rfl | skip
    cases x.ev p.2 <;> first | rfl | skip
    rename_i f
    rw [partsB'_eq x n place r]
    cases partsB x n place r <;> first | rfl | skip
    rename_i g
    obtain ⟨st, e, h⟩ := setO_some q.1
    rw [e]
    show Box.mk _ = Box.mk _
    congr 1
    funext L F z
    rw [cellLen'_eq, cells'_eq, h]
    cases Nat.beq (cellLen (f L F)) q.2 <;> rfl
theorem lBuild'_eq (x : Cx) (t : Nat) (ps : List (Nat × Operand)) : lBuild' P x t ps partsB' = lBuild P x t ps := by
  unfold lBuild' lBuild
  cases buildOk P t <;> first | rfl | skip
  cases zeroB P t <;> first | rfl | skip
  rename_i z
  simp only [partsB'_eq]
  cases partsB x (cells z).length (buildPl P t) ps <;> first | rfl | skip
  rename_i g
  show Box.mk _ = Box.mk _
  congr 1
  funext L F S
  cases g L F (cells z) <;> rfl
theorem fldA'_eq (off : Nat) (v : V) : fldA' off v = fldA off v := by cases v <;> rfl
theorem lFieldA'_eq (x : Cx) (t : Nat) (a : Operand) (i : Nat) : lFieldA' P x t a i = lFieldA P x t a i := by
  unfold lFieldA' lFieldA
  have : fldA' = fldA := by funext o v; exact fldA'_eq o v
  rw [this]; rfl
theorem fldS'_eq (off n : Nat) (v : V) : fldS' off n v = fldS off n v := by
  cases v <;> first | rfl | skip
  rename_i l
  show iteO (Nat.ble (Nat.add off n) (len' l)) (some (V.a (take' (drop' l off) n))) = _
  simp only [fldS]
  rw [len'_eq, take'_eq, drop'_eq]
  cases Nat.ble (Nat.add off n) l.length <;> rfl
theorem lField'_eq (x : Cx) (t : Nat) (a : Operand) (i : Nat) : lField' P x t a i = lField P x t a i := by
  unfold lField' lField
  cases x.ev a <;> first | rfl | skip
  rename_i f
  cases fieldB P t i <;> first | rfl | skip
  rename_i fd
  simp only
  cases isAg P fd.type <;> first | rfl | skip
  rename_i g
  cases g
  · obtain ⟨g, e, h⟩ := nthO_some fd.offset
    simp only [e]
    show Box.mk _ = Box.mk _
    congr 1
    funext L F S
    cases f L F <;> first | rfl | exact h _
  · simp only
    cases szB P fd.type <;> first | rfl | skip
    show Box.mk _ = Box.mk _
    congr 1
    funext L F S
    exact fldS'_eq _ _ _
theorem asN_eq (v : V) : asN v = nat? v := by cases v <;> first | rfl | (rename_i n; cases n <;> rfl)
theorem ixSl'_eq (n : Nat) (v i : V) : ixSl' n v i = ixSl n v i := by
  cases v <;> first | rfl | skip
  rename_i B o len z
  show Option.rec (motive := fun _ => Option V) none _ (asN i) = (match nat? i with | some i => _ | none => none)
  rw [asN_eq]
  rcases nat? i with _ | k
  · rfl
  show iteO (Nat.ble (Nat.succ k) len) (iteO (Nat.beq z n) _) = (match and (Nat.blt k len) (Nat.beq z n) with | true => _ | false => none)
  rw [show Nat.blt k len = Nat.ble (Nat.succ k) len from rfl]
  cases Nat.ble (Nat.succ k) len <;> cases Nat.beq z n <;> rfl
theorem ixAr'_eq (n len : Nat) (v i : V) : ixAr' n len v i = ixAr n len v i := by
  cases v <;> first | rfl | skip
  rename_i B o
  show Option.rec (motive := fun _ => Option V) none _ (asN i) = (match nat? i with | some i => _ | none => none)
  rw [asN_eq]
  rcases nat? i with _ | k
  · rfl
  show iteO (Nat.ble (Nat.succ k) len) _ = (match Nat.blt k len with | true => _ | false => none)
  rw [show Nat.blt k len = Nat.ble (Nat.succ k) len from rfl]
  cases Nat.ble (Nat.succ k) len <;> rfl
theorem lIndexA'_eq (x : Cx) (t : Nat) (a i : Operand) : lIndexA' P x t a i = lIndexA P x t a i := by
  unfold lIndexA' lIndexA
  have h1 : ixSl' = ixSl := by funext n v i; exact ixSl'_eq n v i
  have h2 : ixAr' = ixAr := by funext n l v i; exact ixAr'_eq n l v i
  rw [h1, h2]; rfl
theorem ixStr'_eq (v i : V) : ixStr' v i = ixStr v i := by
  cases v <;> first | rfl | skip
  rename_i l n
  show Option.rec (motive := fun _ => Option V) none _ (asN i) = (match nat? i with | some i => _ | none => none)
  rw [asN_eq]
  rcases nat? i with _ | k
  · rfl
  show iteO (Nat.ble (Nat.succ k) l) (some (frc (Nat.land (Nat.shiftRight n (Nat.mul 8 k)) 255) _)) = (match Nat.blt k l with | true => some (frc (sAt n k) _) | false => none)
  rw [show Nat.blt k l = Nat.ble (Nat.succ k) l from rfl, land255, show sAt n k = (Nat.shiftRight n (Nat.mul 8 k)) % 256 from rfl]
  cases Nat.ble (Nat.succ k) l <;> rfl
theorem lIndex'_eq (x : Cx) (t : Nat) (a i : Operand) : lIndex' P x t a i = lIndex P x t a i := by
  unfold lIndex' lIndex
  have h1 : ixStr' = ixStr := by funext v i; exact ixStr'_eq v i
  rw [h1]; rfl
theorem bnd'_eq {α : Type} (lo hi : Option V) (n : Nat) (k : Nat → Nat → Option α) : bnd' lo hi n k = match bnd lo hi n with | some q => k q.1 q.2 | none => none := by
  have core : ∀ (a b : Option Nat), (Option.rec (motive := fun _ => Option α) none (fun h => Option.rec (motive := fun _ => Option α) none (fun l => iteO (Nat.ble l h) (iteO (Nat.ble h n) (k l h))) b) a : Option α) =
      (match (match a with | none => none | some h => match b with | none => none | some l => (match and (Nat.ble l h) (Nat.ble h n) with | true => some (l, h) | false => none) : Option (Nat × Nat)) with | some q => k q.1 q.2 | none => none) := by
    intro a b
    cases a with
    | none => rfl
    | some h =>
      cases b with
      | none => rfl
      | some l =>
        show iteO (Nat.ble l h) (iteO (Nat.ble h n) (k l h)) = _
        simp only
        cases Nat.ble l h <;> cases Nat.ble h n <;> rfl
  cases lo <;> cases hi
  · exact core (some n) (some 0)
  · rename_i v
    have := core (nat? v) (some 0)
    unfold bnd'
    rw [show (Option.rec (motive := fun _ => Option Nat) (some n) asN (some v)) = nat? v from asN_eq v]
    exact this
  · rename_i v
    have := core (some n) (nat? v)
    unfold bnd'
    rw [show (Option.rec (motive := fun _ => Option Nat) (some 0) asN (some v)) = nat? v from asN_eq v]
    exact this
  · rename_i v v'
    have := core (nat? v') (nat? v)
    unfold bnd'
    rw [show (Option.rec (motive := fun _ => Option Nat) (some 0) asN (some v)) = nat? v from asN_eq v, show (Option.rec (motive := fun _ => Option Nat) (some n) asN (some v')) = nat? v' from asN_eq v']
    exact this
theorem slStr'_eq (v : V) (a b : Option V) : slStr' v a b = slStr v a b := by
  cases v <;> first | rfl | skip
  rename_i l n
  show bnd' a b l _ = (match bnd a b l with | some q => _ | none => none)
  rw [bnd'_eq]
theorem slSl'_eq (sz : Nat) (v : V) (a b : Option V) : slSl' sz v a b = slSl sz v a b := by
  cases v <;> first | rfl | skip
  · show bnd' a b 0 _ = (match bnd a b 0 with | some _ => _ | none => none)
    rw [bnd'_eq]
  · rename_i B o len z
    show iteO (Nat.beq z sz) (bnd' a b len _) = (match Nat.beq z sz with | true => (match bnd a b len with | some q => _ | none => none) | false => none)
    rw [bnd'_eq]
    cases Nat.beq z sz <;> rfl
theorem lSlice'_eq (x : Cx) (t : Nat) (v : Operand) (lo hi mx : Option Operand) : lSlice' P x t v lo hi mx = lSlice P x t v lo hi mx := by
  unfold lSlice' lSlice
  have h1 : slStr' = slStr := by funext v a b; exact slStr'_eq v a b
  have h2 : slSl' = slSl := by funext s v a b; exact slSl'_eq s v a b
  rw [h1, h2]; rfl
theorem lExtract'_eq (x : Cx) (t : Operand) (i : Nat) : lExtract' x t i = lExtract x t i := by
  unfold lExtract' lExtract
  cases x.ev t <;> first | rfl | skip
  rename_i f
  obtain ⟨g, e, h⟩ := nthO_some i
  simp only [e]
  show Box.mk _ = Box.mk _
  congr 1
  funext L F S
  cases f L F <;> first | rfl | exact h _
theorem mget'_eq (e : KEq) (k : V) : ∀ l, mget' e k l = mget e k l
  | [] => rfl
  | a :: l => by
    show Option.rec (motive := fun _ => Option (Option V)) none (fun b => Bool.rec (motive := fun _ => Option (Option V)) (mget' e k l) (some (some a.2)) b) (e k a.1) = _
    rw [mget'_eq e k l]
    simp only [mget]
    rcases e k a.1 with _ | (_ | _) <;> rfl
theorem lkupT (e : KEq) (z k : V) (S : St) (v : V) : lkup' e (fun v => V.t [v, .b true]) (V.t [z, .b false]) k S v = lkup e true z k S v := by
  cases v <;> first | rfl | skip
  · show Option.rec (motive := fun _ => Option V) none (fun _ => some (V.t [z, .b false])) (e k k) = (match e k k with | none => none | some _ => some (V.t [z, .b false]))
    cases e k k <;> rfl
  · rename_i B
    show asMp none _ (T.get S.heap B) = (match T.get S.heap B with | some (.mp es) => _ | _ => none)
    rcases T.get S.heap B with _ | (⟨c, lo, n, fz⟩ | es) <;> first | rfl | skip
    show Option.rec (motive := fun _ => Option V) none (fun _ => Option.rec (motive := fun _ => Option V) none (fun r => Option.rec (motive := fun _ => Option V) (some (V.t [z, .b false])) (fun v => some (V.t [v, .b true])) r) (mget' e k es)) (e k k) = (match e k k with | none => none | some _ => (match mget e k es with | some (some v) => some (V.t [v, .b true]) | some none => some (V.t [z, .b false]) | none => none))
    rw [mget'_eq]
    cases e k k <;> first | rfl | skip
    rcases mget e k es with _ | (_ | w) <;> rfl
theorem lkupF (e : KEq) (z k : V) (S : St) (v : V) : lkup' e (fun v => v) (z) k S v = lkup e false z k S v := by
  cases v <;> first | rfl | skip
  · show Option.rec (motive := fun _ => Option V) none (fun _ => some (z)) (e k k) = (match e k k with | none => none | some _ => some (z))
    cases e k k <;> rfl
  · rename_i B
    show asMp none _ (T.get S.heap B) = (match T.get S.heap B with | some (.mp es) => _ | _ => none)
    rcases T.get S.heap B with _ | (⟨c, lo, n, fz⟩ | es) <;> first | rfl | skip
    show Option.rec (motive := fun _ => Option V) none (fun _ => Option.rec (motive := fun _ => Option V) none (fun r => Option.rec (motive := fun _ => Option V) (some (z)) (fun v => some (v)) r) (mget' e k es)) (e k k) = (match e k k with | none => none | some _ => (match mget e k es with | some (some v) => some (v) | some none => some (z) | none => none))
    rw [mget'_eq]
    cases e k k <;> first | rfl | skip
    rcases mget e k es with _ | (_ | w) <;> rfl
theorem lLookup'_eq (x : Cx) (t : Nat) (m k : Operand) (ok : Bool) : lLookup' P x t m k ok = lLookup P x t m k ok := by
  unfold lLookup' lLookup
  cases x.ev m <;> first | rfl | skip
  cases x.ev k <;> first | rfl | skip
  rename_i f g
  simp only [keyB'_eq]
  rcases P.underlying t with _ | u
  · rfl
  cases u <;> first | rfl | skip
  rename_i kt e
  simp only
  cases zeroB P e <;> first | rfl | skip
  cases keyB P kt <;> first | rfl | skip
  cases ok
  · show Box.mk _ = Box.mk _
    congr 1; funext L F S; exact lkupF _ _ _ _ _
  · show Box.mk _ = Box.mk _
    congr 1; funext L F S; exact lkupT _ _ _ _ _
theorem lenS'_eq (v : V) : lenS' v = lenS v := by cases v <;> rfl
theorem lenSl'_eq (v : V) : lenSl' v = lenSl v := by cases v <;> rfl
theorem lLen'_eq (x : Cx) (args : List Operand) (ts : List Nat) : lLen' P x args ts = lLen P x args ts := by
  unfold lLen' lLen
  have h1 : lenS' = lenS := by funext v; exact lenS'_eq v
  have h2 : lenSl' = lenSl := by funext v; exact lenSl'_eq v
  rw [h1, h2]; rfl
theorem lCall'_eq (x : Cx) (c : Call) : lCall' P x c = lCall P x c := by
  unfold lCall' lCall
  simp only [lLen'_eq]
  rfl
theorem lightB'_eq (x : Cx) (o : Op) : lightB' P x o = lightB P x o := by
  unfold lightB' lightB
  simp only [lMove'_eq, lPick'_eq, lLoad'_eq, lNil'_eq, lBin'_eq, lUn'_eq, lConv'_eq, lBuild'_eq, lFieldA'_eq, lField'_eq, lIndexA'_eq, lIndex'_eq, lSlice'_eq, lExtract'_eq, lLookup'_eq, lCall'_eq]
  rfl
end Go.Xf
