/-
  THE QUICK FORM IS THE VERY SAME: values, numbers, light operations.
-/
import Derived.Test.YtnjfkicalpbiaaaGreatDoorXeFast
import Derived.Test.YtnjfkicalpbiaaaGreatDoorXeNum
set_option linter.unusedVariables false
set_option linter.unusedSimpArgs false
set_option linter.unnecessarySimpa false
namespace Go.Xf
open Go.Xe
-- what a value shows
theorem len'_eq {l : List V} : len' l = l.length := by
  induction l with
  | nil => rfl
  | cons v l ih => show Nat.succ (len' l) = _; rw [ih]; rfl
theorem cells'_eq (v : V) : cells' v = cells v := by cases v <;> rfl
theorem cellLen'_eq (v : V) : cellLen' v = cellLen v := by cases v <;> first | rfl | exact len'_eq
theorem flat1'_eq (v : V) : flat1' v = flat1 v := by cases v <;> rfl
theorem flat'_eq : ∀ l : List V, flat' l = flat l
  | [] => rfl
  | v :: l => by
    show Bool.rec (motive := fun _ => Bool) false (flat' l) (flat1' v) = _
    rw [flat1'_eq, flat'_eq l]
    simp only [flat]
    cases flat1 v <;> rfl
theorem rd'_eq (c : T V) : ∀ n o : Nat, rd' c n o = rd c n o
  | 0, o => rfl
  | n + 1, o => by
    show Option.rec (motive := fun _ => Option (List V)) none (fun v => Option.rec (motive := fun _ => Option (List V)) none (fun l => some (v :: l)) (frc (Nat.succ o) (rd' c n))) (T.get c o) = _
    rw [frc_eq, rd'_eq c n]
    simp only [rd]
    rcases T.get c o with _ | v
    · rfl
    · show Option.rec (motive := fun _ => Option (List V)) none (fun l => some (v :: l)) (rd c n (o + 1)) = _
      rcases rd c n (o + 1) with _ | l <;> rfl
theorem wr'_eq : ∀ (l : List V) (c : T V) (o : Nat), wr' c o l = wr c o l
  | [], _, _ => rfl
  | v :: l, c, o => by
    show frc (Nat.succ o) (fun o' => wr' (T.put c o (some v)) o' l) = _
    rw [frc_eq, wr'_eq l]; rfl
theorem land255 (n : Nat) : Nat.land n 255 = n % 256 := Nat.and_two_pow_sub_one_eq_mod n 8
theorem sBytes'_eq : ∀ l n : Nat, sBytes' l n = sBytes l n
  | 0, _ => rfl
  | l + 1, n => by
    show frc (Nat.land n 255) (fun b => V.k .u8 (.ofNat b) :: sBytes' l (Nat.shiftRight n 8)) = _
    rw [frc_eq, sBytes'_eq l]
    simp only [sBytes, frc_eq]
    rw [land255]
    have : Nat.shiftRight n 8 = Nat.div n 256 := Nat.shiftRight_eq_div_pow n 8
    rw [this]; rfl
theorem byte?_eq (v : V) (b : Nat) : byte? v = some b ↔ v = .k .u8 (.ofNat b) ∧ Nat.blt b 256 = true := by
  cases v with
  | k k n =>
    cases k with
    | u8 =>
      cases n with
      | ofNat m =>
        show Bool.rec (motive := fun _ => Option Nat) none (some m) (Nat.ble (Nat.succ m) 256) = some b ↔ _
        have : Nat.blt b 256 = Nat.ble (Nat.succ b) 256 := rfl
        rw [this]
        constructor
        · intro h
          cases e : Nat.ble (Nat.succ m) 256 with
          | false => rw [e] at h; cases h
          | true => rw [e] at h; cases h; exact ⟨rfl, e⟩
        · rintro ⟨h, e⟩
          cases h; rw [e]
      | negSucc m => exact ⟨fun h => (by cases h), fun h => (by cases h.1)⟩
    | _ => exact ⟨fun h => (by cases h), fun h => (by cases h.1)⟩
  | _ => exact ⟨fun h => (by cases h), fun h => (by cases h.1)⟩
theorem bytesS'_eq : ∀ l : List V, bytesS' l = bytesS l
  | [] => rfl
  | v :: l => by
    show Option.rec (motive := fun _ => Option Nat) none (fun n => Option.rec (motive := fun _ => Option Nat) none (fun b => some (Nat.add b (Nat.mul 256 n))) (byte? v)) (bytesS' l) = _
    rw [bytesS'_eq l]
    cases e : byte? v with
    | some b =>
      obtain ⟨rfl, hb⟩ := (byte?_eq v b).1 e
      simp only [bytesS]
      rcases bytesS l with _ | n
      · rfl
      · simp only [hb]
    | none =>
      have hn : ∀ b, ¬ (v = .k .u8 (.ofNat b) ∧ Nat.blt b 256 = true) := fun b h => by rw [← byte?_eq, e] at h; cases h
      have : bytesS (v :: l) = none := by
        unfold bytesS
        split
        · cases ‹_ :: _ = []›
        · rename_i b r h
          cases h
          split
          · split
            · rename_i hb; exact absurd ⟨rfl, hb⟩ (hn b)
            · rfl
          · rfl
        · rfl
      rw [this]
      rcases bytesS l with _ | n <;> rfl
theorem nthO_some : ∀ i : Nat, ∃ g, nthO i = .mk g ∧ ∀ l, g l = nth l i
  | 0 => ⟨_, rfl, fun l => by cases l <;> rfl⟩
  | i + 1 => by
    obtain ⟨g, hg, hs⟩ := nthO_some i
    refine ⟨fun l => g (List.rec (motive := fun _ => List V) [] (fun _ l _ => l) l), by simp only [nthO, hg], fun l => ?_⟩
    show g (List.rec (motive := fun _ => List V) [] (fun _ l _ => l) l) = _
    rw [hs]
    cases l with
    | nil => cases i <;> rfl
    | cons v l => rfl
theorem over_eq : ∀ (ys l : List V), over ys l = setL l 0 ys
  | [], l => by cases l <;> rfl
  | y :: ys, [] => rfl
  | y :: ys, x :: l => by
    show y :: over ys l = y :: setL l 0 ys
    rw [over_eq]
theorem setO_some : ∀ i : Nat, ∃ g, setO i = .mk g ∧ ∀ l ys, g l ys = setL l i ys
  | 0 => ⟨_, rfl, fun l ys => over_eq ys l⟩
  | i + 1 => by
    obtain ⟨g, hg, hs⟩ := setO_some i
    refine ⟨fun l ys => List.rec (motive := fun _ => List V) [] (fun x r _ => x :: g r ys) l, by simp only [setO, hg], fun l ys => ?_⟩
    cases l with
    | nil => simp [setL]
    | cons x r => show x :: g r ys = _; rw [hs]; simp [setL]
theorem app'L_eq : ∀ a b : List V, appL' a b = a ++ b
  | [], b => rfl
  | x :: a, b => by show x :: appL' a b = _; rw [app'L_eq a b]; rfl
theorem rep'_eq (l : List V) : ∀ n, rep' l n = rep l n
  | 0 => rfl
  | n + 1 => by
    show appL' l (rep' l n) = _
    rw [app'L_eq, rep'_eq l n]; rfl
theorem take'_eq : ∀ (l : List V) (n : Nat), take' l n = l.take n
  | [], n => by cases n <;> rfl
  | x :: l, 0 => rfl
  | x :: l, n + 1 => by show x :: take' l n = _; rw [take'_eq l n]; rfl
theorem drop'_eq : ∀ (n : Nat) (l : List V), drop' l n = l.drop n
  | 0, l => rfl
  | n + 1, l => by
    show drop' (List.rec (motive := fun _ => List V) [] (fun _ r _ => r) l) n = _
    rw [drop'_eq n]
    cases l with
    | nil => simp
    | cons x l => rfl
-- integers
theorem ofNat_wrap8 (m : Nat) : IntKind.u8.wrap (.ofNat m) = .ofNat (m % 256) := rfl
theorem wrapN_eq (k : IntKind) (m : Nat) : wrapN k m = k.wrap (.ofNat m) := by
  cases k
  · rfl
  · rfl
  · rfl
  · exact i64_eq (.ofNat m)
  · show Int.ofNat (Nat.land m 255) = _; rw [land255]; rfl
  · show Int.ofNat (Nat.land m 65535) = _; rw [show Nat.land m 65535 = m % 65536 from Nat.and_two_pow_sub_one_eq_mod m 16]; rfl
  · show Int.ofNat (Nat.land m 4294967295) = _; rw [show Nat.land m 4294967295 = m % 4294967296 from Nat.and_two_pow_sub_one_eq_mod m 32]; rfl
  · show Int.ofNat (Nat.land m 18446744073709551615) = _; rw [show Nat.land m 18446744073709551615 = m % 18446744073709551616 from Nat.and_two_pow_sub_one_eq_mod m 64]; rfl
theorem wrap'_eq (k : IntKind) (n : Int) : wrap' k n = k.wrap n := by
  cases n with
  | ofNat m => exact wrapN_eq k m
  | negSucc m => rfl
theorem add'_eq (x y : Int) : add' x y = iadd x y := by cases x <;> cases y <;> rfl
theorem sub'_eq (x y : Int) : sub' x y = isub x y := by
  cases x with
  | negSucc a => rfl
  | ofNat a =>
    cases y with
    | negSucc b => rfl
    | ofNat b =>
      show Bool.rec (motive := fun _ => Int) (.negSucc (Nat.sub (Nat.sub b a) 1)) (.ofNat (Nat.sub a b)) (Nat.ble b a) = _
      simp only [isub]
      cases Nat.ble b a <;> rfl
theorem eq'_eq (x y : Int) : eq' x y = ieq x y := by cases x <;> cases y <;> rfl
theorem lt'_eq (x y : Int) : lt' x y = ilt x y := by cases x <;> cases y <;> rfl
theorem le'_eq (x y : Int) : le' x y = ile x y := by cases x <;> cases y <;> rfl
@[simp] theorem frcI'_eq {α : Type} (n : Int) (k : Int → α) : frcI' n k = k n := by cases n with
  | ofNat m => exact frc_eq m (fun m => k (.ofNat m))
  | negSucc m => exact frc_eq m (fun m => k (.negSucc m))
theorem mkI'_eq (k : IntKind) (n : Int) : mkI' k n = mkI k n := by cases k <;> rfl
theorem not'_eq (b : Bool) : not' b = not b := by cases b <;> rfl
theorem and'_eq (a b : Bool) : and' a b = and a b := by cases a <;> rfl
theorem kEq'_eq (a b : IntKind) : kEq' a b = kEq a b := by cases a <;> cases b <;> rfl
theorem min'_eq (a b : Nat) : min' a b = min a b := by
  unfold min'
  rw [nble]
  by_cases h : a ≤ b
  · simp only [h, decide_true]; omega
  · simp only [h, decide_false]; omega
theorem natBits_eq (k : IntKind) : natBits k = k.bits := by cases k <;> rfl
theorem bits'_eq (k : IntKind) (n : Int) : bits' k n = bitsN k n := by
  cases n with
  | negSucc m => rfl
  | ofNat m =>
    cases k <;> (unfold bitsN; show Nat.land m _ = _)
    · exact (Nat.and_two_pow_sub_one_eq_mod m 8)
    · exact (Nat.and_two_pow_sub_one_eq_mod m 16)
    · exact (Nat.and_two_pow_sub_one_eq_mod m 32)
    · exact (Nat.and_two_pow_sub_one_eq_mod m 64)
    · exact (Nat.and_two_pow_sub_one_eq_mod m 8)
    · exact (Nat.and_two_pow_sub_one_eq_mod m 16)
    · exact (Nat.and_two_pow_sub_one_eq_mod m 32)
    · exact (Nat.and_two_pow_sub_one_eq_mod m 64)
abbrev same (op : BinOp) (f : Ar) : Prop := ∀ k x y, f k x y = arith op k x y
theorem arAdd_eq : same .add arAdd := fun k x y => by simp only [arAdd, arith, frcI'_eq, frcI_eq, wrap'_eq, add'_eq, mkI'_eq]
theorem arSub_eq : same .sub arSub := fun k x y => by simp only [arSub, arith, frcI'_eq, frcI_eq, wrap'_eq, sub'_eq, mkI'_eq]
theorem arLt_eq : same .lss arLt := fun k x y => by simp only [arLt, arith, lt'_eq]
theorem arLe_eq : same .leq arLe := fun k x y => by simp only [arLe, arith, le'_eq]
theorem arGt_eq : same .gtr arGt := fun k x y => by simp only [arGt, arith, lt'_eq]
theorem arGe_eq : same .geq arGe := fun k x y => by simp only [arGe, arith, le'_eq]
theorem arAnd_eq : same .and arAnd := fun k x y => by simp only [arAnd, arith, frcI'_eq, frcI_eq, wrap'_eq, bits'_eq, mkI'_eq]
theorem arOr_eq : same .or arOr := fun k x y => by simp only [arOr, arith, frcI'_eq, frcI_eq, wrap'_eq, bits'_eq, mkI'_eq]
theorem arXor_eq : same .xor arXor := fun k x y => by simp only [arXor, arith, frcI'_eq, frcI_eq, wrap'_eq, bits'_eq, mkI'_eq]
theorem pow2 (n : Nat) : (2 ^ n : Int) = Int.ofNat (2 ^ n) := by simp
theorem arShl_eq : same .shl arShl := fun k x y => by
  cases y with
  | negSucc y => simp only [arith]; rfl
  | ofNat y =>
    cases x with
    | negSucc x => rfl
    | ofNat x =>
      show some (frcI' (wrapN k (Nat.shiftLeft x (min' y (natBits k)))) fun n => mkI' k n) = _
      simp only [arith, frcI'_eq, frcI_eq, wrapN_eq, mkI'_eq, min'_eq, natBits_eq]
      have : ilt (Int.ofNat y) 0 = false := rfl
      rw [this]
      have : Int.ofNat (Nat.shiftLeft x (min y k.bits)) = Int.ofNat x * 2 ^ (min (Int.toNat (Int.ofNat y)) k.bits) := by
        rw [pow2, show Nat.shiftLeft x (min y k.bits) = x * 2 ^ (min y k.bits) from Nat.shiftLeft_eq _ _]; rfl
      rw [this]
theorem arShr_eq : same .shr arShr := fun k x y => by
  cases y with
  | negSucc y => simp only [arith]; rfl
  | ofNat y =>
    cases x with
    | negSucc x => rfl
    | ofNat x =>
      show some (frcI' (.ofNat (Nat.shiftRight x (min' y (natBits k)))) fun n => mkI' k n) = _
      simp only [arith, frcI'_eq, frcI_eq, mkI'_eq, min'_eq, natBits_eq]
      have : ilt (Int.ofNat y) 0 = false := rfl
      rw [this]
      have : Int.ofNat (Nat.shiftRight x (min y k.bits)) = (Int.ofNat x).fdiv (2 ^ (min (Int.toNat (Int.ofNat y)) k.bits)) := by
        rw [pow2, show Nat.shiftRight x (min y k.bits) = x / 2 ^ (min y k.bits) from Nat.shiftRight_eq_div_pow _ _, Int.fdiv_eq_ediv_of_nonneg (Int.ofNat x) (b := Int.ofNat (2 ^ min (Int.toNat (Int.ofNat y)) k.bits)) (Int.natCast_nonneg _)]; rfl
      rw [this]
theorem arMul_eq : same .mul arMul := fun k x y => by
  cases x with
  | negSucc x => rfl
  | ofNat x =>
    cases y with
    | negSucc y => rfl
    | ofNat y =>
      show some (frcI' (wrapN k (Nat.mul x y)) fun n => mkI' k n) = _
      simp only [arith, frcI'_eq, frcI_eq, wrapN_eq, mkI'_eq]; rfl
theorem arQuo_eq : same .quo arQuo := fun k x y => by
  cases x with
  | negSucc x => rfl
  | ofNat x =>
    cases y with
    | negSucc y => rfl
    | ofNat y =>
      show Bool.rec (motive := fun _ => Option V) (some (frcI' (wrapN k (Nat.div x y)) fun n => mkI' k n)) none (Nat.beq y 0) = _
      simp only [arith, frcI'_eq, frcI_eq, wrapN_eq, mkI'_eq]
      have : ieq (Int.ofNat y) 0 = Nat.beq y 0 := rfl
      rw [this]
      cases Nat.beq y 0 <;> rfl
theorem arRem_eq : same .rem arRem := fun k x y => by
  cases x with
  | negSucc x => rfl
  | ofNat x =>
    cases y with
    | negSucc y => rfl
    | ofNat y =>
      show Bool.rec (motive := fun _ => Option V) (some (frcI' (.ofNat (Nat.mod x y)) fun n => mkI' k n)) none (Nat.beq y 0) = _
      simp only [arith, frcI'_eq, frcI_eq, mkI'_eq]
      have : ieq (Int.ofNat y) 0 = Nat.beq y 0 := rfl
      rw [this]
      cases Nat.beq y 0 <;> rfl
theorem bin3_eq {op : BinOp} {f : Ar} (ho : op = .shl ∨ op = .shr) (h : same op f) (x y : V) : bin3 f (bin op) x y = bin op x y := by
  rcases ho with rfl | rfl <;> cases x <;> cases y <;> first | rfl | exact h _ _ _
theorem bin2_eq {op : BinOp} {f : Ar} {g : Nat → Nat → Nat → Nat → Option V} (h1 : ∀ x y, bin op (.i x) (.i y) = f .i64 x y) (h2 : ∀ k k' x y, kEq k k' = true → bin op (.k k x) (.k k' y) = f k x y)
    (h3 : ∀ l n l' n', bin op (.s l n) (.s l' n') = g l n l' n') (x y : V) : bin2 f g (bin op) x y = bin op x y := by
  cases x <;> cases y <;> first | rfl | exact (h1 _ _).symm | exact (h3 _ _ _ _).symm | skip
  rename_i k a k' b
  show Bool.rec (motive := fun _ => Option V) (bin op (.k k a) (.k k' b)) (f k a b) (kEq' k k') = _
  rw [kEq'_eq]
  cases e : kEq k k'
  · rfl
  · exact (h2 _ _ _ _ e).symm
theorem binB_some {op : BinOp} {h : V → V → Option V} (e : binB op = .mk h) : h = bin op := by
  funext x y
  cases op <;> simp only [binB, Box.mk.injEq] at e <;> subst e
  case add => 
    refine bin2_eq (fun x y => ?_) (fun k k' x y e => ?_) (fun l n l' n' => ?_) x y
    · show some (frcI (i64 (iadd x y)) fun n => V.i n) = _
      rw [arAdd_eq]; simp only [arith, frcI_eq, i64_eq]; rfl
    · simp only [bin, e, arAdd_eq _ x y]
    · simp only [bin, catS, frc_eq]
      show (match Nat.ble (Nat.add l l') 4294967296 with | true => some (V.s (Nat.add l l') (sCat l n n')) | false => none) = _
      cases Nat.ble (Nat.add l l') 4294967296 <;> rfl
  case sub =>
    refine bin2_eq (fun x y => ?_) (fun k k' x y e => ?_) (fun l n l' n' => rfl) x y
    · show some (frcI (i64 (isub x y)) fun n => V.i n) = _
      rw [arSub_eq]; simp only [arith, frcI_eq, i64_eq]; rfl
    · simp only [bin, e, arSub_eq _ x y]
  case mul => exact bin2_eq (op := .mul) (f := arMul) (g := noS) (fun x y => (arMul_eq .i64 x y).symm) (fun k k' x y e => by simp only [bin, e, arMul_eq _ x y]) (fun _ _ _ _ => rfl) x y
  case quo => exact bin2_eq (op := .quo) (f := arQuo) (g := noS) (fun x y => (arQuo_eq .i64 x y).symm) (fun k k' x y e => by simp only [bin, e, arQuo_eq _ x y]) (fun _ _ _ _ => rfl) x y
  case rem => exact bin2_eq (op := .rem) (f := arRem) (g := noS) (fun x y => (arRem_eq .i64 x y).symm) (fun k k' x y e => by simp only [bin, e, arRem_eq _ x y]) (fun _ _ _ _ => rfl) x y
  case and => exact bin2_eq (op := .and) (f := arAnd) (g := noS) (fun x y => (arAnd_eq .i64 x y).symm) (fun k k' x y e => by simp only [bin, e, arAnd_eq _ x y]) (fun _ _ _ _ => rfl) x y
  case or => exact bin2_eq (op := .or) (f := arOr) (g := noS) (fun x y => (arOr_eq .i64 x y).symm) (fun k k' x y e => by simp only [bin, e, arOr_eq _ x y]) (fun _ _ _ _ => rfl) x y
  case xor => exact bin2_eq (op := .xor) (f := arXor) (g := noS) (fun x y => (arXor_eq .i64 x y).symm) (fun k k' x y e => by simp only [bin, e, arXor_eq _ x y]) (fun _ _ _ _ => rfl) x y
  case lss => exact bin2_eq (op := .lss) (f := arLt) (g := noS) (fun x y => (arLt_eq .i64 x y).symm) (fun k k' x y e => by simp only [bin, e, arLt_eq _ x y]) (fun _ _ _ _ => rfl) x y
  case leq => exact bin2_eq (op := .leq) (f := arLe) (g := noS) (fun x y => (arLe_eq .i64 x y).symm) (fun k k' x y e => by simp only [bin, e, arLe_eq _ x y]) (fun _ _ _ _ => rfl) x y
  case gtr => exact bin2_eq (op := .gtr) (f := arGt) (g := noS) (fun x y => (arGt_eq .i64 x y).symm) (fun k k' x y e => by simp only [bin, e, arGt_eq _ x y]) (fun _ _ _ _ => rfl) x y
  case geq => exact bin2_eq (op := .geq) (f := arGe) (g := noS) (fun x y => (arGe_eq .i64 x y).symm) (fun k k' x y e => by simp only [bin, e, arGe_eq _ x y]) (fun _ _ _ _ => rfl) x y
  case shl => exact bin3_eq (.inl rfl) arShl_eq x y
  case shr => exact bin3_eq (.inr rfl) arShr_eq x y
  all_goals rfl
end Go.Xf
