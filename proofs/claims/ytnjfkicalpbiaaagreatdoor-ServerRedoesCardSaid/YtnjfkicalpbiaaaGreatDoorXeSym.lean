/-
  BYTES THAT ARE NOT KNOWN: what is reckoned of them is what the model reckons.
-/
import Derived.Test.YtnjfkicalpbiaaaGreatDoorXeNum
set_option linter.unusedVariables false
set_option linter.unusedSimpArgs false
set_option linter.unnecessarySimpa false
namespace Go.Xe
open Go.RowKit
theorem byteOf_lt (x : Value) (j : Nat) : byteOf x j < 256 := by
  unfold byteOf
  split
  · exact Nat.mod_lt _ (by omega)
  · rename_i s
    cases h : s.data.toList[j]? with
    | none => simp
    | some b => simpa using b.toNat_lt
  · omega
theorem By.val_lt (ρ : Rho) (b : By) : b.val ρ < 256 := by
  cases b <;> simp only [By.val]
  · exact Nat.mod_lt _ (by omega)
  · exact byteOf_lt _ _
  · exact Nat.mod_lt _ (by omega)
  · exact Nat.mod_lt _ (by omega)
theorem valBs_lt (ρ : Rho) : ∀ l, valBs ρ l < 256 ^ l.length
  | [] => by simp [valBs]
  | b :: l => by
    have := valBs_lt ρ l
    have := b.val_lt ρ
    simp only [valBs, List.length_cons, Nat.pow_succ]
    omega
theorem valBs_append (ρ : Rho) : ∀ l r, valBs ρ (l ++ r) = valBs ρ l + 256 ^ l.length * valBs ρ r
  | [], r => by simp [valBs]
  | b :: l, r => by
    simp only [List.cons_append, valBs, valBs_append ρ l r, List.length_cons, Nat.pow_succ]
    rw [Nat.mul_add, ← Nat.mul_assoc, Nat.mul_comm 256 (256 ^ l.length)]
    omega
theorem valBs_map {ρ : Rho} : ∀ {l r : List By}, l.map (By.val ρ) = r.map (By.val ρ) → valBs ρ l = valBs ρ r
  | [], [], _ => rfl
  | [], _ :: _, h => by simp at h
  | _ :: _, [], h => by simp at h
  | b :: l, c :: r, h => by
    simp only [List.map_cons, List.cons.injEq] at h
    simp only [valBs, h.1, valBs_map h.2]
theorem valBs_inj {ρ : Rho} : ∀ {l r : List By}, l.length = r.length → valBs ρ l = valBs ρ r → l.map (By.val ρ) = r.map (By.val ρ)
  | [], [], _, _ => rfl
  | [], _ :: _, h, _ => by simp at h
  | _ :: _, [], h, _ => by simp at h
  | b :: l, c :: r, h, e => by
    simp only [valBs] at e
    have h1 := b.val_lt ρ
    have h2 := c.val_lt ρ
    have e1 : b.val ρ = c.val ρ := by omega
    have e2 : valBs ρ l = valBs ρ r := by omega
    simp only [List.map_cons, e1, valBs_inj (by simpa using h) e2]
theorem okL_nil (ρ : Rho) : okL ρ [] := fun _ h => by cases h
theorem okL_append {ρ : Rho} {l r : List By} (h : okL ρ l) (h' : okL ρ r) : okL ρ (l ++ r) := fun b hb => by
  rcases List.mem_append.1 hb with h1 | h1
  · exact h b h1
  · exact h' b h1
theorem okL_take {ρ : Rho} {l : List By} (h : okL ρ l) (n : Nat) : okL ρ (l.take n) := fun b hb => h b (List.mem_of_mem_take hb)
theorem okL_drop {ρ : Rho} {l : List By} (h : okL ρ l) (n : Nat) : okL ρ (l.drop n) := fun b hb => h b (List.mem_of_mem_drop hb)
theorem okL_zeros (ρ : Rho) (n : Nat) : okL ρ (zeros n) := fun b hb => by
  rw [List.eq_of_mem_replicate hb]; trivial
theorem zeros_length (n : Nat) : (zeros n).length = n := List.length_replicate
theorem zeros_val (ρ : Rho) : ∀ n, valBs ρ (zeros n) = 0
  | 0 => rfl
  | n + 1 => by
    show valBs ρ (.c 0 :: zeros n) = 0
    simp [valBs, By.val, zeros_val ρ n]
theorem unpack_ok (ρ : Rho) : ∀ l n, okL ρ (unpack l n)
  | 0, _ => okL_nil ρ
  | l + 1, n => fun b hb => by
    simp only [unpack, frc_eq] at hb
    rcases List.mem_cons.1 hb with rfl | h
    · trivial
    · exact unpack_ok ρ l _ b h
theorem unpack_length : ∀ l n, (unpack l n).length = l
  | 0, _ => rfl
  | l + 1, n => by simp only [unpack, frc_eq, List.length_cons, unpack_length l]
theorem unpack_map (ρ : Rho) : ∀ l n, (unpack l n).map (By.val ρ) = (strB l n).map UInt8.toNat
  | 0, _ => rfl
  | l + 1, n => by
    simp only [unpack, frc_eq, List.map_cons, strB, By.val]
    rw [unpack_map ρ l]
    have e : Nat.mod n 256 % 256 = (n % 256).toUInt8.toNat := by
      show n % 256 % 256 = _
      simp [Nat.toUInt8, UInt8.toNat_ofNat']
    rw [e]; rfl
theorem unpack_val (ρ : Rho) : ∀ l n, n < 256 ^ l → valBs ρ (unpack l n) = n
  | 0, n, h => by simp at h; subst h; rfl
  | l + 1, n, h => by
    simp only [unpack, frc_eq, valBs, By.val]
    have h256 : 256 ^ (l + 1) = 256 * 256 ^ l := by rw [Nat.pow_succ, Nat.mul_comm]
    have e : valBs ρ (unpack l (Nat.div n 256)) = Nat.div n 256 := unpack_val ρ l _ (by show n / 256 < _; rw [h256] at h; omega)
    rw [e]
    show n % 256 % 256 + 256 * (n / 256) = n
    omega
theorem allC_some {ρ : Rho} : ∀ {l : List By} {n : Nat}, allC l = some n → valBs ρ l = n
  | [], n, h => by cases h; rfl
  | b :: l, n, h => by
    cases b <;> simp only [allC, reduceCtorEq] at h
    rename_i c
    split at h
    · rename_i m hm
      cases h
      simp only [valBs, By.val, allC_some hm]; rfl
    · cases h
theorem valBs_strB (ρ : Rho) : ∀ l : List By, (strB l.length (valBs ρ l)).map UInt8.toNat = l.map (By.val ρ)
  | [] => rfl
  | b :: l => by
    have hb := b.val_lt ρ
    simp only [List.length_cons, strB, List.map_cons, valBs]
    have e1 : (b.val ρ + 256 * valBs ρ l) % 256 = b.val ρ := by omega
    have e2 : (b.val ρ + 256 * valBs ρ l) / 256 = valBs ρ l := by omega
    rw [e1, e2, valBs_strB ρ l]
    congr 1
    simp [Nat.toUInt8, UInt8.toNat_ofNat']; omega
theorem toNat_inj : ∀ {l r : List UInt8}, l.map UInt8.toNat = r.map UInt8.toNat → l = r
  | [], [], _ => rfl
  | [], _ :: _, h => by simp at h
  | _ :: _, [], h => by simp at h
  | b :: l, c :: r, h => by
    simp only [List.map_cons, List.cons.injEq] at h
    rw [UInt8.toNat_inj.1 h.1, toNat_inj h.2]
theorem mkNum_R {ρ : Rho} {φ : Phi} {k : IntKind} {l : List By} (h : okL ρ l) (hk : bytesK k = some l.length) : VR ρ φ (mkNum k l) (.int k (valBs ρ l)) := by
  unfold mkNum
  split
  · rename_i n hn
    rw [frc_eq]
    show Value.int k _ = Value.int k (Int.ofNat n)
    rw [allC_some hn]; rfl
  · exact ⟨rfl, h, hk⟩
theorem mkTxt_R {ρ : Rho} {φ : Phi} {l : List By} (h : okL ρ l) {s : ByteArray} (hs : s.data.toList.map UInt8.toNat = l.map (By.val ρ)) : VR ρ φ (mkTxt l) (.string s) := by
  unfold mkTxt
  split
  · rename_i n hn
    rw [frc_eq]
    have e := allC_some (ρ := ρ) hn
    refine ⟨s, rfl, ?_, ?_⟩
    · apply toNat_inj
      rw [hs, ← e, valBs_strB]
    · rw [← e]; exact valBs_lt ρ l
  · exact ⟨s, rfl, hs, h⟩
mutual
theorem sameB_eq : ∀ (x y : By), sameB x y = true → x = y
  | .c n, y, h => by
    cases y <;> simp only [sameB, Bool.false_eq_true] at h
    rw [Nat.eq_of_beq_eq_true h]
  | .at i j, y, h => by
    cases y <;> simp only [sameB, Bool.false_eq_true] at h
    have h1 := (Bool.and_eq_true _ _ ▸ h : _ ∧ _)
    rw [Nat.eq_of_beq_eq_true h1.1, Nat.eq_of_beq_eq_true h1.2]
  | .lin i a lo hi, y, h => by
    cases y <;> simp only [sameB, Bool.false_eq_true] at h
    rename_i j b lo' hi'
    have h1 := (Bool.and_eq_true _ _ ▸ h : _ ∧ _)
    have h2 := (Bool.and_eq_true _ _ ▸ h1.2 : _ ∧ _)
    have h3 := (Bool.and_eq_true _ _ ▸ h2.2 : _ ∧ _)
    have e1 := Nat.eq_of_beq_eq_true h1.1
    have e2 := of_decide_eq_true ((ieq_eq _ _) ▸ h2.1)
    have e3 := of_decide_eq_true ((ieq_eq _ _) ▸ h3.1)
    have e4 := of_decide_eq_true ((ieq_eq _ _) ▸ h3.2)
    subst e1; subst e2; subst e3; subst e4; rfl
  | .crc j l, y, h => by
    cases y <;> simp only [sameB, Bool.false_eq_true] at h
    have h1 := (Bool.and_eq_true _ _ ▸ h : _ ∧ _)
    rw [Nat.eq_of_beq_eq_true h1.1, sameBs_eq _ _ h1.2]
theorem sameBs_eq : ∀ (x y : List By), sameBs x y = true → x = y
  | [], [], _ => rfl
  | [], _ :: _, h => by simp [sameBs] at h
  | _ :: _, [], h => by simp [sameBs] at h
  | x :: l, y :: r, h => by
    simp only [sameBs] at h
    have h1 := (Bool.and_eq_true _ _ ▸ h : _ ∧ _)
    rw [sameB_eq _ _ h1.1, sameBs_eq _ _ h1.2]
end
theorem diffC_ne {ρ : Rho} : ∀ {l r : List By}, diffC l r = true → l.map (By.val ρ) ≠ r.map (By.val ρ)
  | [], _, h => by simp [diffC] at h
  | _ :: _, [], h => by simp [diffC] at h
  | x :: l, y :: r, h => by
    simp only [diffC] at h
    intro e
    simp only [List.map_cons, List.cons.injEq] at e
    rcases (Bool.or_eq_true _ _ ▸ h : _ ∨ _) with h1 | h1
    · cases x <;> simp only [Bool.false_eq_true] at h1
      rename_i n
      cases y <;> simp only [Bool.false_eq_true] at h1
      rename_i m
      have e1 : n % 256 = m % 256 := e.1
      rw [show Nat.mod n 256 = Nat.mod m 256 from e1] at h1
      simp at h1
    · exact diffC_ne h1 e.2
theorem nzP_zero {ρ : Rho} : ∀ {l r : List By} {j : Nat}, nzP j l r = true → l.map (By.val ρ) = r.map (By.val ρ) → j ≤ 7 → ∀ i, j ≤ i → i < 8 → byteOf (ρ.1 0) i = 0
  | [], _, j, h, _, _, i, _, _ => by simp [nzP] at h
  | x :: l, [], j, h, _, _, i, _, _ => by cases x <;> simp [nzP] at h
  | x :: l, y :: r, j, h, e, hj, i, hi, hi8 => by
    cases x <;> first | (simp only [nzP, Bool.false_eq_true] at h; done) | skip
    rename_i i0 k
    cases y <;> first | (simp only [nzP, Bool.false_eq_true] at h; done) | skip
    rename_i m
    simp only [nzP] at h
    have h1 := (Bool.and_eq_true _ _ ▸ h : _ ∧ _)
    have h2 := (Bool.and_eq_true _ _ ▸ h1.2 : _ ∧ _)
    have h3 := (Bool.and_eq_true _ _ ▸ h2.2 : _ ∧ _)
    have e0 := Nat.eq_of_beq_eq_true h1.1
    have e1 := Nat.eq_of_beq_eq_true h2.1
    have e2 := Nat.eq_of_beq_eq_true h3.1
    subst e0; subst e1; subst e2
    simp only [List.map_cons, List.cons.injEq] at e
    by_cases hji : j = i
    · subst hji
      have := e.1
      simpa [By.val] using this
    · rcases (Bool.or_eq_true _ _ ▸ h3.2 : _ ∨ _) with h4 | h4
      · have := Nat.eq_of_beq_eq_true h4; omega
      · exact nzP_zero h4 e.2 (by omega) i (by omega) hi8
theorem nz8_ne {ρ : Rho} : ∀ {l r : List By}, nz8 l r = true → l.map (By.val ρ) ≠ r.map (By.val ρ)
  | [], _, h => by simp [nz8] at h
  | _ :: _, [], h => by simp [nz8] at h
  | x :: l, y :: r, h => by
    intro e
    obtain ⟨j, hj, hne⟩ := ρ.2
    simp only [nz8] at h
    rcases (Bool.or_eq_true _ _ ▸ h : _ ∨ _) with h1 | h1
    · exact hne (nzP_zero h1 e (by omega) j (by omega) hj)
    · rcases (Bool.or_eq_true _ _ ▸ h1 : _ ∨ _) with h2 | h2
      · exact hne (nzP_zero h2 e.symm (by omega) j (by omega) hj)
      · simp only [List.map_cons, List.cons.injEq] at e
        exact nz8_ne h2 e.2
theorem eqBs_some {ρ : Rho} {l r : List By} {b : Bool} (h : eqBs l r = some b) : b = decide (l.map (By.val ρ) = r.map (By.val ρ)) := by
  unfold eqBs at h
  split at h
  · rename_i e
    cases h
    symm; apply decide_eq_false
    intro e'
    have := congrArg List.length e'
    simp only [List.length_map] at this
    rw [this] at e; simp at e
  · split at h
    · rename_i e
      cases h
      rw [sameBs_eq _ _ e]; simp
    · split at h
      · rename_i e
        cases h
        symm; apply decide_eq_false
        rcases (Bool.or_eq_true _ _ ▸ e : _ ∨ _) with h1 | h1
        · exact diffC_ne h1
        · exact nz8_ne h1
      · cases h
theorem numBy_some {ρ : Rho} {φ : Phi} {k : IntKind} {v : V} {l : List By} {X : Value} (h : numBy k v = some l) (r : VR ρ φ v X) : X = .int k (valBs ρ l) ∧ okL ρ l ∧ bytesK k = some l.length := by
  unfold numBy at h
  split at h
  · split at h
    · rename_i hk
      rw [kEq_eq] at hk
      have := of_decide_eq_true hk
      subst this
      cases h
      exact r
    · cases h
  · split at h
    · rename_i hk
      rw [kEq_eq] at hk
      have := of_decide_eq_true hk
      subst this
      split at h
      · rename_i m hm
        split at h
        · rename_i hlt
          cases h
          rw [nblt] at hlt
          have hlt := of_decide_eq_true hlt
          refine ⟨?_, unpack_ok ρ _ _, by rw [unpack_length]; exact hm⟩
          rw [unpack_val ρ _ _ hlt]
          exact r
        · cases h
      · cases h
    · cases h
  · cases h
theorem txtBy_some {ρ : Rho} {φ : Phi} {v : V} {l : List By} {X : Value} (h : txtBy v = some l) (r : VR ρ φ v X) : ∃ s : ByteArray, X = .string s ∧ s.data.toList.map UInt8.toNat = l.map (By.val ρ) ∧ okL ρ l := by
  unfold txtBy at h
  split at h
  · cases h; exact r
  · cases h
    obtain ⟨s, rfl, h1, h2⟩ := r
    exact ⟨s, rfl, by rw [h1, unpack_map], unpack_ok ρ _ _⟩
  · cases h
theorem lor_part (a b A C : Nat) (ha : a < 256) (hb : b < 256) : (a + 256 * A) ||| (b + 256 * C) = (a ||| b) + 256 * (A ||| C) := by
  have h1 : a ||| b < 2 ^ 8 := Nat.or_lt_two_pow (n := 8) ha hb
  rw [show a + 256 * A = 2 ^ 8 * A + a by omega, show b + 256 * C = 2 ^ 8 * C + b by omega, show (a ||| b) + 256 * (A ||| C) = 2 ^ 8 * (A ||| C) + (a ||| b) by omega]
  apply Nat.eq_of_testBit_eq
  intro i
  rw [Nat.testBit_or, Nat.testBit_two_pow_mul_add _ ha, Nat.testBit_two_pow_mul_add _ hb, Nat.testBit_two_pow_mul_add _ h1]
  by_cases h : i < 8
  · simp [h]
  · simp [h]
theorem orBs_some {ρ : Rho} : ∀ {l r q : List By}, orBs l r = some q → valBs ρ q = valBs ρ l ||| valBs ρ r ∧ q.length = l.length ∧ (okL ρ l → okL ρ r → okL ρ q)
  | [], [], q, h => by cases h; exact ⟨by simp [valBs], rfl, fun _ _ => okL_nil ρ⟩
  | [], _ :: _, q, h => by simp [orBs] at h
  | _ :: _, [], q, h => by simp [orBs] at h
  | x :: l, y :: r, q, h => by
    simp only [orBs] at h
    split at h
    · cases h
    rename_i q' hq
    obtain ⟨h1, h2, h3⟩ := orBs_some (ρ := ρ) hq
    have okc : ∀ {b : By} {t : List By}, okL ρ (b :: t) → b.ok ρ ∧ okL ρ t := fun k => ⟨k _ (List.mem_cons_self ..), fun c hc => k c (List.mem_cons_of_mem _ hc)⟩
    have mk : ∀ {b : By}, b.val ρ = x.val ρ ||| y.val ρ → (x.ok ρ → y.ok ρ → b.ok ρ) → valBs ρ (b :: q') = valBs ρ (x :: l) ||| valBs ρ (y :: r) ∧ (b :: q').length = (x :: l).length ∧ (okL ρ (x :: l) → okL ρ (y :: r) → okL ρ (b :: q')) := by
      intro b hb hok
      refine ⟨?_, by simp [h2], fun k1 k2 => ?_⟩
      · simp only [valBs]
        rw [lor_part _ _ _ _ (x.val_lt ρ) (y.val_lt ρ), hb, h1]
      · intro c hc
        rcases List.mem_cons.1 hc with rfl | hc
        · exact hok (okc k1).1 (okc k2).1
        · exact h3 (okc k1).2 (okc k2).2 c hc
    split at h
    · split at h
      · cases h
        exact mk (by simp [By.val]) (fun _ k => k)
      · split at h
        · rename_i n hn _ m
          cases h
          refine mk ?_ (fun _ _ => trivial)
          simp only [By.val]
          exact Nat.or_mod_two_pow (n := 8)
        · cases h
    · split at h
      · cases h
        exact mk (by simp [By.val]) (fun k _ => k)
      · cases h
theorem valBs_drop (ρ : Rho) : ∀ (c : Nat) (l : List By), valBs ρ (l.drop c) = valBs ρ l / 256 ^ c
  | 0, l => by simp
  | c + 1, [] => by simp [valBs]
  | c + 1, b :: l => by
    have := b.val_lt ρ
    simp only [List.drop_succ_cons, valBs, valBs_drop ρ c l]
    rw [Nat.pow_succ, Nat.mul_comm (256 ^ c), ← Nat.div_div_eq_div_mul]
    congr 1; omega
theorem shr_val (ρ : Rho) (c : Nat) (l : List By) : valBs ρ (shrBs c l) = valBs ρ l / 256 ^ c := by
  unfold shrBs
  rw [valBs_append, zeros_val, Nat.mul_zero, Nat.add_zero, valBs_drop]
theorem shr_length (c : Nat) (l : List By) : (shrBs c l).length = l.length := by
  unfold shrBs
  rw [List.length_append, zeros_length, List.length_drop]; omega
theorem valBs_take (ρ : Rho) : ∀ (c : Nat) (l : List By), valBs ρ (l.take c) = valBs ρ l % 256 ^ c
  | 0, l => by simp [valBs, Nat.mod_one]
  | c + 1, [] => by simp [valBs]
  | c + 1, b :: l => by
    have := b.val_lt ρ
    simp only [List.take_succ_cons, valBs, valBs_take ρ c l]
    rw [Nat.pow_succ, Nat.mul_comm (256 ^ c), Nat.mod_mul]
    have e1 : (b.val ρ + 256 * valBs ρ l) % 256 = b.val ρ := by omega
    have e2 : (b.val ρ + 256 * valBs ρ l) / 256 = valBs ρ l := by omega
    rw [e1, e2]
theorem shl_val (ρ : Rho) (c : Nat) (l : List By) : valBs ρ (shlBs c l) = valBs ρ l * 256 ^ c % 256 ^ l.length := by
  unfold shlBs
  rw [valBs_take, valBs_append, zeros_val, zeros_length, Nat.zero_add, Nat.mul_comm]
theorem shl_length (c : Nat) (l : List By) : (shlBs c l).length = l.length := by
  unfold shlBs
  rw [List.length_take, List.length_append, zeros_length]; omega
theorem shr_ok {ρ : Rho} {c : Nat} {l : List By} (h : okL ρ l) : okL ρ (shrBs c l) := okL_append (okL_drop h c) (okL_zeros ρ _)
theorem shl_ok {ρ : Rho} {c : Nat} {l : List By} (h : okL ρ l) : okL ρ (shlBs c l) := okL_take (okL_append (okL_zeros ρ _) h) _
theorem sameY_eq : ∀ (x y : Y), sameY x y = true → x = y
  | .sym i, y, h => by
    cases y <;> simp only [sameY, Bool.false_eq_true] at h
    rw [Nat.eq_of_beq_eq_true h]
  | .int i a lo hi, y, h => by
    cases y <;> simp only [sameY, Bool.false_eq_true] at h
    have h1 := (Bool.and_eq_true _ _ ▸ h : _ ∧ _)
    have h2 := (Bool.and_eq_true _ _ ▸ h1.2 : _ ∧ _)
    have h3 := (Bool.and_eq_true _ _ ▸ h2.2 : _ ∧ _)
    have e1 := Nat.eq_of_beq_eq_true h1.1
    have e2 := of_decide_eq_true ((ieq_eq _ _) ▸ h2.1)
    have e3 := of_decide_eq_true ((ieq_eq _ _) ▸ h3.1)
    have e4 := of_decide_eq_true ((ieq_eq _ _) ▸ h3.2)
    subst e1; subst e2; subst e3; subst e4; rfl
  | .num k l, y, h => by
    cases y <;> simp only [sameY, Bool.false_eq_true] at h
    have h1 := (Bool.and_eq_true _ _ ▸ h : _ ∧ _)
    have e1 := of_decide_eq_true ((kEq_eq _ _) ▸ h1.1)
    rw [e1, sameBs_eq _ _ h1.2]
  | .txt l, y, h => by
    cases y <;> simp only [sameY, Bool.false_eq_true] at h
    rw [sameBs_eq _ _ h]
-- WHAT AN OPERATION MAKES OF THEM
theorem mkI_inv {ρ : Rho} {φ : Phi} {k : IntKind} {n : Int} {Z : Value} (h : VR ρ φ (mkI k n) Z) : Z = .int k n := by cases k <;> exact h
theorem bytesK_bits {k : IntKind} {m : Nat} (h : bytesK k = some m) : k.bits = 8 * m ∧ k.signed = false := by
  cases k <;> simp only [bytesK, Option.some.injEq, reduceCtorEq] at h <;> subst h <;> exact ⟨rfl, rfl⟩
theorem pow256 (m : Nat) : 256 ^ m = 2 ^ (8 * m) := by rw [show 256 = 2 ^ 8 from rfl, ← Nat.pow_mul]
theorem wrap_uns {k : IntKind} {m : Nat} (h : bytesK k = some m) (n : Nat) : k.wrap (Int.ofNat n) = Int.ofNat (n % 256 ^ m) := by
  obtain ⟨h1, h2⟩ := bytesK_bits h
  unfold IntKind.wrap
  simp only [h2, Bool.false_and, Bool.false_eq_true, if_false, h1]
  rw [pow256]
  simp
variable {ρ : Rho} {φ : Phi} {P : Program}
theorem mid_some {n : Int} (h : mid n = true) : -4611686018427387904 ≤ n ∧ n ≤ 4611686018427387904 := by
  unfold mid at h
  have h1 := (Bool.and_eq_true _ _ ▸ h : _ ∧ _)
  rw [ile_eq, ile_eq] at h1
  exact ⟨of_decide_eq_true h1.1, of_decide_eq_true h1.2⟩
theorem wrap64 {n : Int} (h1 : -9223372036854775808 ≤ n) (h2 : n ≤ 9223372036854775807) : IntKind.i64.wrap n = n := IntWalk.i64_in _ (by omega)
theorem addY_run {t : Y} {n : Int} {v : V} {X : Value} (h : addY t n = some v) (k : t.R ρ X) : ∃ a, X = .int .i64 a ∧ VR ρ φ v (.int .i64 (IntKind.i64.wrap (a + n))) := by
  unfold addY at h
  split at h
  · rename_i id off lo hi
    obtain ⟨m, rfl, h0, h1, h2⟩ := k
    rw [frcI_eq] at h
    simp only [iadd_eq] at h
    split at h
    · rename_i hm
      cases h
      have h3 := (Bool.and_eq_true _ _ ▸ hm : _ ∧ _)
      have h4 := mid_some h3.1
      have h5 := mid_some h3.2
      refine ⟨_, rfl, m, ?_, h0, h1, h2⟩
      rw [wrap64 (by omega) (by omega)]
      congr 1; omega
    · cases h
  · cases h
theorem cmpY_run {op : BinOp} {t : Y} {n : Int} {v : V} {X : Value} (h : cmpY op t n = some v) (k : t.R ρ X) (ty : TypeId) (w : World) :
    ∃ a, X = .int .i64 a ∧ ∃ b : Bool, v = .b b ∧ (op = .lss ∧ b = decide (a < n) ∨ op = .leq ∧ b = decide (a ≤ n) ∨ op = .gtr ∧ b = decide (a > n) ∨ op = .geq ∧ b = decide (a ≥ n)) := by
  unfold cmpY at h
  split at h
  · rename_i id off lo hi
    obtain ⟨m, rfl, _, h1, h2⟩ := k
    refine ⟨m + off, rfl, ?_⟩
    simp only [iadd_eq, ilt_eq, ile_eq] at h
    split at h
    · split at h
      · rename_i e; cases h
        have e := of_decide_eq_true e
        refine ⟨true, rfl, .inl ⟨rfl, ?_⟩⟩
        symm; apply decide_eq_true; omega
      · split at h
        · rename_i e; cases h
          have e := of_decide_eq_true e
          refine ⟨false, rfl, .inl ⟨rfl, ?_⟩⟩
          symm; apply decide_eq_false; omega
        · cases h
    · split at h
      · rename_i e; cases h
        have e := of_decide_eq_true e
        refine ⟨true, rfl, .inr (.inl ⟨rfl, ?_⟩)⟩
        symm; apply decide_eq_true; omega
      · split at h
        · rename_i e; cases h
          have e := of_decide_eq_true e
          refine ⟨false, rfl, .inr (.inl ⟨rfl, ?_⟩)⟩
          symm; apply decide_eq_false; omega
        · cases h
    · split at h
      · rename_i e; cases h
        have e := of_decide_eq_true e
        refine ⟨true, rfl, .inr (.inr (.inl ⟨rfl, ?_⟩))⟩
        symm; apply decide_eq_true; omega
      · split at h
        · rename_i e; cases h
          have e := of_decide_eq_true e
          refine ⟨false, rfl, .inr (.inr (.inl ⟨rfl, ?_⟩))⟩
          symm; apply decide_eq_false; omega
        · cases h
    · split at h
      · rename_i e; cases h
        have e := of_decide_eq_true e
        refine ⟨true, rfl, .inr (.inr (.inr ⟨rfl, ?_⟩))⟩
        symm; apply decide_eq_true; omega
      · split at h
        · rename_i e; cases h
          have e := of_decide_eq_true e
          refine ⟨false, rfl, .inr (.inr (.inr ⟨rfl, ?_⟩))⟩
          symm; apply decide_eq_false; omega
        · cases h
    · cases h
  · cases h
theorem cmp_bin {op : BinOp} {k : IntKind} {a n : Int} {b : Bool} (h : op = .lss ∧ b = decide (a < n) ∨ op = .leq ∧ b = decide (a ≤ n) ∨ op = .gtr ∧ b = decide (a > n) ∨ op = .geq ∧ b = decide (a ≥ n)) (ty : TypeId) (w : World) :
    (binOp op ty (.int k a) (.int k n)).run P w = .ok (.bool b) w := by
  rcases h with ⟨rfl, rfl⟩ | ⟨rfl, rfl⟩ | ⟨rfl, rfl⟩ | ⟨rfl, rfl⟩ <;> simp [binOp, Op.intCmp]
theorem cmpYY_run {op : BinOp} {t t' : Y} {v : V} {X X' : Value} (h : cmpYY op t t' = some v) (k : t.R ρ X) (k' : t'.R ρ X') (ty : TypeId) (w : World) :
    ∃ Z, (binOp op ty X X').run P w = .ok Z w ∧ VR ρ φ v Z := by
  unfold cmpYY at h
  split at h
  rotate_left
  · cases h
  rename_i i a lo hi j b lo' hi'
  split at h
  rotate_left
  · cases h
  rename_i hc
  have hc := (Bool.and_eq_true _ _ ▸ hc : _ ∧ _)
  have e := Nat.eq_of_beq_eq_true hc.1
  subst e
  obtain ⟨m, rfl, h0, _, _⟩ := k
  obtain ⟨m', rfl, h0', _, _⟩ := k'
  rw [h0] at h0'
  cases h0'
  simp only [ilt_eq, ile_eq, isub_eq, frcI_eq] at h
  split at h
  · cases h; exact ⟨_, cmp_bin (.inl ⟨rfl, rfl⟩) ty w, by show Value.bool _ = Value.bool _; congr 1; simp⟩
  · cases h; exact ⟨_, cmp_bin (.inr (.inl ⟨rfl, rfl⟩)) ty w, by show Value.bool _ = Value.bool _; congr 1; simp⟩
  · cases h; exact ⟨_, cmp_bin (.inr (.inr (.inl ⟨rfl, rfl⟩))) ty w, by show Value.bool _ = Value.bool _; congr 1; simp⟩
  · cases h; exact ⟨_, cmp_bin (.inr (.inr (.inr ⟨rfl, rfl⟩))) ty w, by show Value.bool _ = Value.bool _; congr 1; simp⟩
  · split at h
    · rename_i hm
      cases h
      have hm := mid_some hm
      refine ⟨.int .i64 (IntKind.i64.wrap (m + a - (m + b))), by simp [binOp, Op.intArith], ?_⟩
      show Value.int .i64 _ = Value.int .i64 _
      congr 1
      have e : m + a - (m + b) = a - b := by omega
      rw [e, wrap64 (by omega) (by omega)]
    · cases h
  · cases h
theorem eight {n : Nat} (e : Nat.mod n 8 = 0) : n = 8 * Nat.div n 8 := by
  have e : n % 8 = 0 := e
  show n = 8 * (n / 8)
  omega
theorem by8_some {v : V} {c : Nat} {X : Value} (h : by8 v = some c) (k : VR ρ φ v X) : ∃ kd, X = .int kd (Int.ofNat (8 * c)) := by
  unfold by8 at h
  split at h
  · split at h
    · rename_i e
      have e := Nat.eq_of_beq_eq_true e
      cases h
      cases k
      exact ⟨_, congrArg (fun m : Nat => Value.int _ (Int.ofNat m)) (eight e)⟩
    · cases h
  · split at h
    · rename_i e
      have e := Nat.eq_of_beq_eq_true e
      cases h
      cases k
      exact ⟨_, congrArg (fun m : Nat => Value.int _ (Int.ofNat m)) (eight e)⟩
    · cases h
  · cases h
theorem ilt0 (n : Nat) : ilt (Int.ofNat n) 0 = false := rfl
theorem binN_run {op : BinOp} {k : IntKind} {l : List By} {y v : V} {Y : Value} (h : binN op k l y = some v) (ok : okL ρ l) (hk : bytesK k = some l.length) (k' : VR ρ φ y Y) (ty : TypeId) (w : World) :
    ∃ Z, (binOp op ty (.int k (valBs ρ l)) Y).run P w = .ok Z w ∧ VR ρ φ v Z := by
  obtain ⟨hb, hs⟩ := bytesK_bits hk
  have hlt := valBs_lt ρ l
  unfold binN at h
  split at h
  · split at h
    · rename_i c hc
      cases h
      obtain ⟨kd, rfl⟩ := by8_some hc k'
      obtain ⟨Z, hZ, kZ⟩ := shift_run (ρ := ρ) (φ := φ) (P := P) (op := .shr) (k := k) (k' := kd) (x := valBs ρ l) (y := Int.ofNat (8 * c)) (v := mkI k ((valBs ρ l : Int).fdiv (2 ^ (min (8 * c) k.bits)))) (by simp only [arith, ilt0, frcI_eq]; rfl) (.inr rfl) ty w
      refine ⟨Z, hZ, ?_⟩
      rw [mkI_inv kZ]
      have e : ((valBs ρ l : Int).fdiv (2 ^ (min (8 * c) k.bits))) = ((valBs ρ (shrBs c l) : Nat) : Int) := by
        rw [shr_val, hb, pow256]
        rw [Int.fdiv_eq_ediv_of_nonneg _ (by exact_mod_cast Nat.zero_le _)]
        rw [show ((2 : Int) ^ (min (8 * c) (8 * l.length))) = ((2 ^ (min (8 * c) (8 * l.length)) : Nat) : Int) by simp]
        rw [← Int.natCast_ediv]
        congr 1
        by_cases hle : 8 * c ≤ 8 * l.length
        · rw [Nat.min_eq_left hle]
        · rw [Nat.min_eq_right (by omega)]
          rw [pow256] at hlt
          rw [Nat.div_eq_of_lt hlt, Nat.div_eq_of_lt (Nat.lt_of_lt_of_le hlt (Nat.pow_le_pow_right (by omega) (by omega)))]
      rw [e]
      exact mkNum_R (shr_ok ok) (by rw [shr_length]; exact hk)
    · cases h
  · split at h
    · rename_i c hc
      split at h
      · cases h
        obtain ⟨kd, rfl⟩ := by8_some hc k'
        obtain ⟨Z, hZ, kZ⟩ := shift_run (ρ := ρ) (φ := φ) (P := P) (op := .shl) (k := k) (k' := kd) (x := valBs ρ l) (y := Int.ofNat (8 * c)) (v := mkI k (k.wrap ((valBs ρ l : Int) * 2 ^ (min (8 * c) k.bits)))) (by simp only [arith, ilt0, frcI_eq]; rfl) (.inl rfl) ty w
        refine ⟨Z, hZ, ?_⟩
        rw [mkI_inv kZ]
        have e : k.wrap ((valBs ρ l : Int) * 2 ^ (min (8 * c) k.bits)) = ((valBs ρ (shlBs c l) : Nat) : Int) := by
          rw [show (valBs ρ l : Int) * 2 ^ (min (8 * c) k.bits) = Int.ofNat (valBs ρ l * 2 ^ (min (8 * c) k.bits)) by simp]
          rw [wrap_uns hk, shl_val, hb]
          show ((_ : Nat) : Int) = _
          congr 1
          rw [pow256, pow256]
          by_cases hle : 8 * c ≤ 8 * l.length
          · rw [Nat.min_eq_left hle]
          · rw [Nat.min_eq_right (by omega), Nat.mul_mod_left]
            symm
            apply Nat.mod_eq_zero_of_dvd
            exact Nat.dvd_trans (Nat.pow_dvd_pow 2 (by omega)) (Nat.dvd_mul_left _ _)
        rw [e]
        exact mkNum_R (shl_ok ok) (by rw [shl_length]; exact hk)
      · cases h
    · cases h
  · split at h
    · rename_i r hr
      split at h
      · rename_i q hq
        cases h
        obtain ⟨rfl, ok', hk'⟩ := numBy_some (ρ := ρ) (φ := φ) hr k'
        obtain ⟨h1, h2, h3⟩ := orBs_some (ρ := ρ) hq
        have hl : r.length = l.length := by rw [hk] at hk'; exact (Option.some.inj hk').symm
        have hlt' := valBs_lt ρ r
        obtain ⟨Z, hZ, kZ⟩ := arith_run (ρ := ρ) (φ := φ) (P := P) (op := .or) (k := k) (x := valBs ρ l) (y := valBs ρ r) (v := mkI k (k.wrap (Int.ofNat (Nat.lor (bitsN k (valBs ρ l)) (bitsN k (valBs ρ r)))))) (by simp only [arith, frcI_eq]) (by simp) (by simp) ty w
        refine ⟨Z, hZ, ?_⟩
        rw [mkI_inv kZ]
        have hbits : ∀ n : Nat, n < 256 ^ l.length → bitsN k (n : Int) = n := by
          intro n hn
          unfold bitsN
          rw [hb]
          rw [pow256] at hn
          rw [show ((2 : Int) ^ (8 * l.length)) = ((2 ^ (8 * l.length) : Nat) : Int) by simp, ← Int.natCast_emod, Int.toNat_natCast, Nat.mod_eq_of_lt hn]
        rw [hbits _ hlt, hbits _ (by rw [← hl]; exact hlt'), wrap_uns hk]
        have e : Nat.lor (valBs ρ l) (valBs ρ r) % 256 ^ l.length = valBs ρ q := by
          rw [h1]
          show (valBs ρ l ||| valBs ρ r) % _ = _
          apply Nat.mod_eq_of_lt
          rw [pow256] at hlt ⊢
          rw [hl, pow256] at hlt'
          exact Nat.or_lt_two_pow hlt hlt'
        rw [e]
        exact mkNum_R (h3 ok ok') (by rw [h2]; exact hk)
      · cases h
    · cases h
  · split at h
    · rename_i k''
      split at h
      · rename_i hkk
        rw [kEq_eq] at hkk
        have hkk := of_decide_eq_true hkk
        subst hkk
        split at h
        · rename_i hz
          cases h
          cases k'
          have hne := nz8_ne (ρ := ρ) hz
          have hpos : valBs ρ l ≠ 0 := by
            intro e0
            apply hne
            apply valBs_inj (by rw [zeros_length])
            rw [e0, zeros_val]
          refine ⟨.bool (decide ((valBs ρ l : Int) ≤ 0)), by simp [binOp, Op.intCmp], ?_⟩
          show Value.bool _ = Value.bool false
          congr 1
          apply decide_eq_false; omega
        · cases h
      · cases h
    · cases h
  · cases h
theorem catY_run {op : BinOp} {l r : List By} {v : V} {s s' : ByteArray} (h : catY op l r = some v) (h1 : s.data.toList.map UInt8.toNat = l.map (By.val ρ)) (o1 : okL ρ l) (h2 : s'.data.toList.map UInt8.toNat = r.map (By.val ρ)) (o2 : okL ρ r) (ty : TypeId) (w : World) :
    ∃ Z, (binOp op ty (.string s) (.string s')).run P w = .ok Z w ∧ VR ρ φ v Z := by
  unfold catY at h
  split at h
  · split at h
    · rename_i hle
      cases h
      rw [nble] at hle
      have hle : l.length + r.length ≤ 4294967296 := of_decide_eq_true hle
      have e1 : s.size = l.length := by
        have := congrArg List.length h1
        simp only [List.length_map] at this
        rw [← this]; exact Array.length_toList.symm
      have e2 : s'.size = r.length := by
        have := congrArg List.length h2
        simp only [List.length_map] at this
        rw [← this]; exact Array.length_toList.symm
      have hb : ¬ ((s.size + s'.size : Nat) : Int) > IntKind.i64.max := by
        rw [e1, e2]; simp [IntKind.max, IntKind.signed, IntKind.bits]; omega
      refine ⟨.string (s ++ s'), by simp only [binOp, Op.stringOp, hb, if_false]; rfl, ?_⟩
      refine mkTxt_R (okL_append o1 o2) ?_
      rw [List.map_append, ← h1, ← h2, ← List.map_append]
      simp
    · cases h
  · cases h
theorem binY_run {op : BinOp} {x y v : V} {X Y : Value} (h : binY op x y = some v) (k : VR ρ φ x X) (k' : VR ρ φ y Y) (ty : TypeId) (w : World) :
    ∃ Z, (binOp op ty X Y).run P w = .ok Z w ∧ VR ρ φ v Z := by
  unfold binY at h
  split at h
  · split at h
    · cases k'
      split at h
      · obtain ⟨a, rfl, kv⟩ := addY_run (φ := φ) h k
        exact ⟨_, by simp [binOp, Op.intArith], kv⟩
      · obtain ⟨a, rfl, kv⟩ := addY_run (φ := φ) h k
        refine ⟨_, by simp only [binOp, Op.intArith]; rfl, ?_⟩
        rw [Int.sub_eq_add_neg]; exact kv
      · obtain ⟨a, rfl, b, rfl, hb⟩ := cmpY_run h k ty w
        exact ⟨_, cmp_bin hb ty w, rfl⟩
    · exact cmpYY_run h k k' ty w
    · cases h
  · split at h
    · cases k
      split at h
      · obtain ⟨a, rfl, kv⟩ := addY_run (φ := φ) h k'
        refine ⟨_, by simp only [binOp, Op.intArith]; rfl, ?_⟩
        rw [Int.add_comm]; exact kv
      · obtain ⟨a, rfl, b, rfl, hb⟩ := cmpY_run h k' ty w
        refine ⟨_, cmp_bin (b := b) (.inl ⟨rfl, ?_⟩) ty w, rfl⟩
        rcases hb with ⟨e, _⟩ | ⟨e, _⟩ | ⟨_, e⟩ | ⟨e, _⟩ <;> first | exact e | cases e
      · obtain ⟨a, rfl, b, rfl, hb⟩ := cmpY_run h k' ty w
        refine ⟨_, cmp_bin (b := b) (.inr (.inl ⟨rfl, ?_⟩)) ty w, rfl⟩
        rcases hb with ⟨e, _⟩ | ⟨e, _⟩ | ⟨e, _⟩ | ⟨_, e⟩ <;> first | exact e | cases e
      · obtain ⟨a, rfl, b, rfl, hb⟩ := cmpY_run h k' ty w
        refine ⟨_, cmp_bin (b := b) (.inr (.inr (.inl ⟨rfl, ?_⟩))) ty w, rfl⟩
        rcases hb with ⟨_, e⟩ | ⟨e, _⟩ | ⟨e, _⟩ | ⟨e, _⟩ <;> first | exact e | cases e
      · obtain ⟨a, rfl, b, rfl, hb⟩ := cmpY_run h k' ty w
        refine ⟨_, cmp_bin (b := b) (.inr (.inr (.inr ⟨rfl, ?_⟩))) ty w, rfl⟩
        rcases hb with ⟨e, _⟩ | ⟨_, e⟩ | ⟨e, _⟩ | ⟨e, _⟩ <;> first | exact e | cases e
      · cases h
    · cases h
  · obtain ⟨rfl, ok, hk⟩ := k
    exact binN_run h ok hk k' ty w
  · split at h
    · split at h
      · rename_i l hl
        obtain ⟨rfl, ok, hk⟩ := numBy_some (ρ := ρ) (φ := φ) hl k
        exact binN_run h ok hk k' ty w
      · cases h
    · cases h
  · split at h
    · rename_i r hr
      obtain ⟨s, rfl, h1, o1⟩ := k
      obtain ⟨s', rfl, h2, o2⟩ := txtBy_some (ρ := ρ) (φ := φ) hr k'
      exact catY_run h h1 o1 h2 o2 ty w
    · cases h
  · split at h
    · rename_i r hr
      obtain ⟨s, rfl, h1, o1⟩ := txtBy_some (ρ := ρ) (φ := φ) (v := .s _ _) rfl k
      obtain ⟨s', rfl, h2, o2⟩ := txtBy_some (ρ := ρ) (φ := φ) hr k'
      exact catY_run h h1 o1 h2 o2 ty w
    · cases h
  · cases h
-- OF ANOTHER KIND
theorem cvLin_run {l : List By} {v : V} (h : cvLin l = some v) (ok : okL ρ l) : VR ρ φ v (.int .i64 (IntKind.i64.wrap (valBs ρ l))) := by
  unfold cvLin at h
  split at h
  · rename_i i off lo hi r
    split at h
    · rename_i hr
      cases h
      obtain ⟨n, h0, h1, h2, h3, h4⟩ := ok _ (List.mem_cons_self ..)
      refine ⟨n, ?_, h0, h1, h2⟩
      have e : valBs ρ (By.lin i off lo hi :: r) = (n + off).toNat := by
        simp only [valBs, By.val, h0, intOf, allC_some (ρ := ρ) hr]
        omega
      rw [e, wrap64 (by omega) (by omega)]
      congr 1; omega
    · cases h
  · cases h
theorem cvY_run {k : IntKind} {t : Y} {v : V} {X : Value} (h : cvY k t = some v) (r : t.R ρ X) : ∃ kd n, X = .int kd n ∧ VR ρ φ v (.int k (k.wrap n)) := by
  unfold cvY at h
  split at h
  · rename_i k0 l
    obtain ⟨rfl, ok, hk⟩ := r
    refine ⟨_, _, rfl, ?_⟩
    split at h
    · rename_i m hm
      cases h
      rw [show k.wrap (valBs ρ l : Int) = ((valBs ρ ((l ++ zeros m).take m) : Nat) : Int) from ?_]
      · refine mkNum_R (okL_take (okL_append ok (okL_zeros ρ _)) _) ?_
        rw [hm, List.length_take, List.length_append, zeros_length]
        congr 1; omega
      · have := wrap_uns hm (valBs ρ l)
        rw [valBs_take, valBs_append, zeros_val, Nat.mul_zero, Nat.add_zero]
        exact this
    · split at h
      · split at h
        · exact cvLin_run h ok
        · cases h
      · cases h
  · rename_i i off lo hi
    obtain ⟨n, rfl, h0, h1, h2⟩ := r
    refine ⟨_, _, rfl, ?_⟩
    split at h
    · split at h
      · rename_i hm
        cases h
        have hm := (Bool.and_eq_true _ _ ▸ hm : _ ∧ _)
        rw [iadd_eq, iadd_eq] at hm
        have a1 := mid_some hm.1
        have a2 := mid_some hm.2
        exact ⟨n, by rw [wrap64 (by omega) (by omega)], h0, h1, h2⟩
      · cases h
    · split at h
      · rename_i m hm
        split at h
        · rename_i hc
          cases h
          have hc := (Bool.and_eq_true _ _ ▸ hc : _ ∧ _)
          rw [iadd_eq, iadd_eq, ile_eq, ile_eq] at hc
          have a1 := of_decide_eq_true hc.1
          have a2 := of_decide_eq_true hc.2
          have hm1 : 1 ≤ m := by cases k <;> simp only [bytesK, Option.some.injEq, reduceCtorEq] at hm <;> omega
          have hlen : (By.lin i off lo hi :: zeros (m - 1)).length = m := by rw [List.length_cons, zeros_length]; omega
          have e : k.wrap (n + off) = ((valBs ρ (By.lin i off lo hi :: zeros (m - 1)) : Nat) : Int) := by
            have e1 : n + off = Int.ofNat (n + off).toNat := by simp; omega
            rw [e1, wrap_uns hm]
            have hp : 256 ≤ 256 ^ m := by
              calc 256 = 256 ^ 1 := rfl
                _ ≤ 256 ^ m := Nat.pow_le_pow_right (by omega) hm1
            rw [Nat.mod_eq_of_lt (by omega)]
            simp only [valBs, By.val, h0, intOf, zeros_val]
            show ((_ : Nat) : Int) = _
            congr 1; omega
          rw [e]
          refine mkNum_R ?_ (by rw [hlen]; exact hm)
          intro b hb
          rcases List.mem_cons.1 hb with rfl | hb
          · exact ⟨n, h0, h1, h2, a1, a2⟩
          · exact okL_zeros ρ _ b hb
        · cases h
      · cases h
  · cases h
-- CELLS
theorem one_val {b : By} (h : okL ρ [b]) : ∃ c : UInt8, valBs ρ [b] = c.toNat ∧ c.toNat = b.val ρ := by
  refine ⟨(b.val ρ).toUInt8, ?_, ?_⟩
  · simp only [valBs]; simp [Nat.toUInt8, UInt8.toNat_ofNat']; have := b.val_lt ρ; omega
  · simp [Nat.toUInt8, UInt8.toNat_ofNat']; have := b.val_lt ρ; omega
theorem byte_of {n : Nat} (h : n < 256) : ∃ c : UInt8, c.toNat = n := ⟨n.toUInt8, by simp [Nat.toUInt8, UInt8.toNat_ofNat']; omega⟩
theorem byOf_some {v : V} {b : By} {X : Value} (h : byOf v = some b) (k : VR ρ φ v X) : ∃ c : UInt8, X = .int .u8 c.toNat ∧ c.toNat = b.val ρ ∧ b.ok ρ := by
  unfold byOf at h
  split at h
  · split at h
    · rename_i hn
      cases h
      cases k
      rw [nblt] at hn
      have hn := of_decide_eq_true hn
      obtain ⟨c, rfl⟩ := byte_of hn
      exact ⟨c, rfl, by simp only [By.val]; omega, trivial⟩
    · cases h
  · cases h
    obtain ⟨rfl, ok, _⟩ := k
    obtain ⟨c, h1, h2⟩ := one_val ok
    exact ⟨c, by rw [h1], h2, ok _ (List.mem_cons_self ..)⟩
  · cases h
theorem bytesY_R : ∀ {l : List V} {r : List By} {ys : List Value}, bytesY l = some r → VRL ρ φ l ys → ∃ bs : List UInt8, ys = bs.map (fun b => Value.int .u8 b.toNat) ∧ bs.map UInt8.toNat = r.map (By.val ρ) ∧ okL ρ r
  | [], r, ys, h, k => by cases h; cases k; exact ⟨[], rfl, rfl, okL_nil ρ⟩
  | v :: l, r, ys, h, k => by
    obtain ⟨x, xs, rfl, k1, k2⟩ := k
    simp only [bytesY] at h
    split at h
    · rename_i b hb
      split at h
      · rename_i q hq
        cases h
        obtain ⟨c, rfl, e1, o1⟩ := byOf_some hb k1
        obtain ⟨bs, rfl, e2, o2⟩ := bytesY_R hq k2
        exact ⟨c :: bs, rfl, by simp [e1, e2], fun d hd => (List.mem_cons.1 hd).elim (fun e => e ▸ o1) (fun h => o2 d h)⟩
      · cases h
    · cases h
theorem cellB_R {b : By} (h : b.ok ρ) {c : UInt8} (hc : c.toNat = b.val ρ) : VR ρ φ (cellB b) (.int .u8 c.toNat) := by
  have ok : okL ρ [b] := fun d hd => (List.mem_cons.1 hd).elim (fun e => e ▸ h) (fun h => by cases h)
  have := mkNum_R (ρ := ρ) (φ := φ) (k := .u8) (l := [b]) ok rfl
  have e : valBs ρ [b] = c.toNat := by simp [valBs, hc]
  rw [e] at this
  exact this
theorem cellsB_R : ∀ {l : List By} {bs : List UInt8}, bs.map UInt8.toNat = l.map (By.val ρ) → okL ρ l → VRL ρ φ (l.map cellB) (bs.map fun b => Value.int .u8 b.toNat)
  | [], [], _, _ => rfl
  | [], _ :: _, h, _ => by simp at h
  | _ :: _, [], h, _ => by simp at h
  | b :: l, c :: bs, h, ok => by
    simp only [List.map_cons, List.cons.injEq] at h
    exact ⟨_, _, rfl, cellB_R (ok _ (List.mem_cons_self ..)) h.1, cellsB_R h.2 fun d hd => ok d (List.mem_cons_of_mem _ hd)⟩
theorem txt_size {l : List By} {s : ByteArray} (h : s.data.toList.map UInt8.toNat = l.map (By.val ρ)) : s.size = l.length := by
  have := congrArg List.length h
  simp only [List.length_map] at this
  rw [← this]; exact Array.length_toList.symm
end Go.Xe
