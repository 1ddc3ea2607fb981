/-
  A REGION WHOSE ORDER IS DRAWN: what the checks say.
-/
import Derived.Test.YtnjfkicalpbiaaaGreatDoorXeRegion
import Derived.Orders
set_option linter.unusedVariables false
set_option linter.unusedSimpArgs false
set_option linter.unnecessarySimpa false
namespace Go.Xe
open Go.RowKit
theorem tst_eq (U t : Nat) : tstB U t = U.testBit t := by
  unfold tstB
  rw [Nat.testBit_eq_decide_div_mod_eq]
  have : Nat.land (Nat.shiftRight U t) 1 = U / 2 ^ t % 2 := by
    show (U >>> t) &&& 1 = _
    rw [Nat.and_one_is_mod, Nat.shiftRight_eq_div_pow]
  rw [this]
  by_cases h : U / 2 ^ t % 2 = 1
  · rw [h]; rfl
  · have : Nat.beq (U / 2 ^ t % 2) 1 = false := by cases hb : Nat.beq (U / 2 ^ t % 2) 1 with | false => rfl | true => exact absurd (Nat.eq_of_beq_eq_true hb) h
    rw [this]; simp [h]
theorem bit_test (U t j : Nat) : (bit U t).testBit j = (U.testBit j || decide (t = j)) := by
  unfold bit
  show (U ||| 1 <<< t).testBit j = _
  rw [Nat.testBit_or, Nat.one_shiftLeft, Nat.testBit_two_pow]
theorem subM_iff (m D : Nat) : subM m D = true ↔ ∀ j, m.testBit j = true → D.testBit j = true := by
  unfold subM
  constructor
  · intro h j hj
    have h := Nat.eq_of_beq_eq_true h
    have h : m &&& D = m := h
    rw [← h, Nat.testBit_and] at hj
    simp at hj; exact hj.2
  · intro h
    have : m &&& D = m := by
      apply Nat.eq_of_testBit_eq
      intro j
      rw [Nat.testBit_and]
      cases hj : m.testBit j with
      | false => rfl
      | true => rw [h j hj]; rfl
    show Nat.beq (m &&& D) m = true
    rw [this]; exact Nat.beq_refl m
theorem orM_spec : ∀ (es : List Nat) (acc : List Nat) (m k : Nat), (orM acc es m).testBit k = true ↔ (m.testBit k = true ∨ ∃ j ∈ es, k = j ∨ ∃ q, acc[j]? = some q ∧ q.testBit k = true)
  | [], acc, m, k => by simp [orM]
  | j :: r, acc, m, k => by
    have lor_test : ∀ x : Nat, (Nat.lor (bit m j) x).testBit k = (m.testBit k || decide (j = k) || x.testBit k) := by
      intro x
      show ((bit m j) ||| x).testBit k = _
      rw [Nat.testBit_or, bit_test]
    simp only [orM, frc_eq, nth_get]
    cases hq : acc[j]? with
    | none =>
      dsimp only
      rw [orM_spec r acc _ k, lor_test]
      simp only [Bool.or_eq_true, decide_eq_true_eq, List.mem_cons, exists_eq_or_imp, hq, Nat.zero_testBit, Bool.false_eq_true, or_false, reduceCtorEq, false_and, exists_false]
      constructor
      · rintro ((h | h) | h)
        · exact .inl h
        · exact .inr (.inl h.symm)
        · exact .inr (.inr h)
      · rintro (h | h | h)
        · exact .inl (.inl h)
        · exact .inl (.inr h.symm)
        · exact .inr h
    | some q =>
      dsimp only
      rw [orM_spec r acc _ k, lor_test]
      simp only [Bool.or_eq_true, decide_eq_true_eq, List.mem_cons, exists_eq_or_imp, hq, Option.some.injEq, exists_eq_left']
      constructor
      · rintro (((h | h) | h) | h)
        · exact .inl h
        · exact .inr (.inl (.inl h.symm))
        · exact .inr (.inl (.inr h))
        · exact .inr (.inr h)
      · rintro (h | (h | h) | h)
        · exact .inl (.inl (.inl h))
        · exact .inl (.inl (.inr h.symm))
        · exact .inl (.inr h)
        · exact .inr h
theorem ancs_keep : ∀ (all : List Oper) (acc : List Nat) (j q : Nat), acc[j]? = some q → (ancs all acc)[j]? = some q
  | [], acc, j, q, h => h
  | o :: r, acc, j, q, h => by
    simp only [ancs]
    exact ancs_keep r _ j q (by rw [List.getElem?_append_left (List.getElem?_eq_some_iff.1 h).1]; exact h)
theorem ancs_length : ∀ (all : List Oper) (acc : List Nat), (ancs all acc).length = acc.length + all.length
  | [], acc => rfl
  | o :: r, acc => by simp only [ancs]; rw [ancs_length r]; simp; omega
theorem ancs_at : ∀ (all : List Oper) (acc : List Nat) (i : Nat) (o : Oper), all[i]? = some o → ∃ pre : List Nat, pre.length = acc.length + i ∧ (∀ (j q : Nat), pre[j]? = some q → (ancs all acc)[j]? = some q) ∧ (ancs all acc)[acc.length + i]? = some (orM pre (edges o.after.toList) 0)
  | [], acc, i, o, h => by simp at h
  | o' :: r, acc, 0, o, h => by
    simp at h; subst h
    refine ⟨acc, rfl, fun j q hj => ?_, ?_⟩
    · simp only [ancs]
      exact ancs_keep r _ j q (by rw [List.getElem?_append_left (List.getElem?_eq_some_iff.1 hj).1]; exact hj)
    · simp only [ancs]
      exact ancs_keep r _ _ _ (by simp)
  | o' :: r, acc, i + 1, o, h => by
    obtain ⟨pre, h1, h2, h3⟩ := ancs_at r (acc ++ [orM acc (edges o'.after.toList) 0]) i o (by simpa using h)
    refine ⟨pre, by rw [h1]; simp; omega, fun j q hj => ?_, ?_⟩
    · simp only [ancs]; exact h2 j q hj
    · simp only [ancs]
      rw [← h3]; congr 1; simp; omega
theorem edges_mem : ∀ (l : List Edge) (j : Nat), j ∈ edges l ↔ ∃ e ∈ l, Region.binds .any e = true ∧ e.on = j
  | [], j => by simp [edges]
  | e :: r, j => by
    have ih := edges_mem r j
    simp only [edges]
    split
    · rename_i hg; rw [ih]; simp [Region.binds, hg]
    · rename_i hg; rw [ih]; simp [Region.binds, hg]
    · rename_i h1 h2
      have hb : Region.binds .any e = true := by
        unfold Region.binds
        split
        · exact absurd ‹_› (h1 _)
        · exact absurd ‹_› (h2 _)
        · rfl
      rw [List.mem_cons, ih]
      simp only [List.mem_cons, exists_eq_or_imp, hb, true_and]
      exact or_congr ⟨Eq.symm, Eq.symm⟩ Iff.rfl
theorem edgesOk_spec : ∀ (l : List Nat) (i : Nat), edgesOk i l = true → ∀ j ∈ l, j < i
  | [], _, _, _, h => by cases h
  | x :: l, i, h, j, hj => by
    obtain ⟨h1, h2⟩ := and_true h
    cases hj with
    | head => exact blt_lt h1
    | tail _ hj => exact edgesOk_spec l i h2 j hj
theorem memN_spec : ∀ (t : Nat) (l : List Nat), memN t l = true ↔ t ∈ l
  | t, [] => by simp [memN]
  | t, x :: l => by
    show (Nat.beq x t || memN t l) = true ↔ _
    rw [Bool.or_eq_true, memN_spec t l, List.mem_cons]
    refine or_congr ⟨fun h => (Nat.eq_of_beq_eq_true h).symm, fun h => by subst h; exact Nat.beq_refl _⟩ Iff.rfl
theorem shapeOk_spec : ∀ (all : List Oper) (i : Nat) (ds : List Nat), shapeOk i ds all = true →
    (∀ (j : Nat) o, all[j]? = some o → ∀ k ∈ edges o.after.toList, k < i + j) ∧
    (∀ (j : Nat) o d, all[j]? = some o → o.dst = some d → d ∉ ds) ∧
    (∀ (j j' : Nat) o o' d, all[j]? = some o → all[j']? = some o' → o.dst = some d → o'.dst = some d → j = j')
  | [], i, ds, _ => ⟨fun _ _ h => by simp at h, fun _ _ _ h => by simp at h, fun _ _ _ _ _ h => by simp at h⟩
  | o :: r, i, ds, h => by
    simp only [shapeOk] at h
    obtain ⟨h1, h2⟩ := and_true h
    have he := edgesOk_spec _ _ h1
    have key : ∃ ds', shapeOk (i + 1) ds' r = true ∧ (∀ d ∈ ds, d ∈ ds') ∧ (∀ d, o.dst = some d → d ∈ ds' ∧ d ∉ ds) := by
      cases hd : o.dst with
      | none => rw [hd] at h2; exact ⟨ds, h2, fun _ h => h, fun _ h => by cases h⟩
      | some d =>
        rw [hd] at h2
        dsimp only at h2
        split at h2
        · cases h2
        · rename_i hm
          refine ⟨d :: ds, h2, fun _ h => List.mem_cons_of_mem _ h, fun d' e => ?_⟩
          cases e
          refine ⟨List.mem_cons_self .., fun hin => ?_⟩
          rw [(memN_spec d ds).2 hin] at hm; cases hm
    obtain ⟨ds', k1, k2, k3⟩ := key
    obtain ⟨g1, g2, g3⟩ := shapeOk_spec r (i + 1) ds' k1
    refine ⟨fun j o' hj k hk => ?_, fun j o' d hj hd => ?_, fun j j' o1 o2 d hj hj' e1 e2 => ?_⟩
    · cases j with
      | zero => simp at hj; subst hj; exact he k hk
      | succ j => have := g1 j o' (by simpa using hj) k hk; omega
    · cases j with
      | zero => simp at hj; subst hj; exact (k3 d hd).2
      | succ j => exact fun hin => g2 j o' d (by simpa using hj) hd (k2 d hin)
    · cases j with
      | zero =>
        simp at hj; subst hj
        cases j' with
        | zero => rfl
        | succ j' => exact absurd (k3 d e1).1 (g2 j' o2 d (by simpa using hj') e2)
      | succ j =>
        cases j' with
        | zero => simp at hj'; subst hj'; exact absurd (k3 d e2).1 (g2 j o1 d (by simpa using hj) e1)
        | succ j' => rw [g3 j j' o1 o2 d (by simpa using hj) (by simpa using hj') e1 e2]
theorem looksOk_spec : ∀ (ops : List Oper) (ms : List Nat) (i m : Nat) (ts : List Nat) (j0 : Nat), looksOk i m ts j0 ops ms = true → ∀ (j : Nat) o mj d, ops[j]? = some o → ms[j]? = some mj → o.dst = some d → d ∈ ts → m.testBit (j0 + j) = true ∨ mj.testBit i = true
  | [], _, _, _, _, _, _, j, o, mj, d, h, _, _, _ => by simp at h
  | _ :: _, [], _, _, _, _, _, j, o, mj, d, _, h, _, _ => by simp at h
  | o' :: r, m' :: ms, i, m, ts, j0, h, j, o, mj, d, hj, hm, hd, ht => by
    obtain ⟨h1, h2⟩ := and_true h
    cases j with
    | zero =>
      simp at hj; subst hj
      simp at hm; subst hm
      rw [Bool.or_eq_true, Bool.or_eq_true, tst_eq, tst_eq] at h1
      rcases h1 with h1 | h1 | h1
      · exact .inl h1
      · exact .inr h1
      · rw [hd] at h1
        have : dstIn ts (some d) = true := (memN_spec d ts).2 ht
        rw [this] at h1; cases h1
    | succ j =>
      have := looksOk_spec r ms i m ts (j0 + 1) h2 j o mj d (by simpa using hj) (by simpa using hm) hd ht
      rwa [show j0 + (j + 1) = j0 + 1 + j by omega]
theorem looksAll_spec (all : List Oper) (ms0 : List Nat) : ∀ (ops : List Oper) (ms : List Nat) (i0 : Nat), looksAll all ms0 i0 ops ms = true → ∀ (i : Nat) o m, ops[i]? = some o → ms[i]? = some m → looksOk (i0 + i) m (looks all o) 0 all ms0 = true
  | [], _, _, _, i, o, m, h, _ => by simp at h
  | _ :: _, [], _, _, i, o, m, _, h => by simp at h
  | o' :: r, m' :: ms, i0, h, i, o, m, hi, hm => by
    obtain ⟨h1, h2⟩ := and_true h
    cases i with
    | zero =>
      simp at hi; subst hi
      simp at hm; subst hm
      exact h1
    | succ i =>
      have := looksAll_spec all ms0 r ms (i0 + 1) h2 i o m (by simpa using hi) (by simpa using hm)
      rwa [show i0 + (i + 1) = i0 + 1 + i by omega]
theorem barAny_spec (all : List Oper) (m d : Nat) : ∀ (ops : List Oper) (i0 : Nat), barAny all m d i0 ops = false → ∀ (i : Nat) o, ops[i]? = some o → m.testBit (i0 + i) = true → d ∉ looks all o
  | [], _, _, i, o, h, _ => by simp at h
  | o' :: r, i0, h, i, o, hi, hm => by
    have h : ((tstB m i0 && memN d (looks all o')) || barAny all m d (i0 + 1) r) = false := h
    rw [Bool.or_eq_false_iff] at h
    cases i with
    | zero =>
      simp at hi; subst hi
      have h1 := h.1
      rw [tst_eq, show m.testBit i0 = true from hm, Bool.true_and] at h1
      intro hin
      rw [(memN_spec _ _).2 hin] at h1; cases h1
    | succ i => exact barAny_spec all m d r (i0 + 1) h.2 i o (by simpa using hi) (by rw [← hm]; congr 1; omega)
theorem bar_spec {all : List Oper} {m : Nat} {dst : Option Nat} (h : bar all m dst = false) (i : Nat) (o : Oper) (d : Nat) (hi : all[i]? = some o) (hm : m.testBit i = true) (hd : dst = some d) : d ∉ looks all o := by
  subst hd
  exact barAny_spec all m d all 0 h i o hi (by simpa using hm)
theorem sole_spec : ∀ (ms : List Nat) (E D p h i0 : Nat), sole E D p h i0 ms = true → ∀ (i m : Nat), ms[i]? = some m → D.testBit (i0 + i) = false → (∀ j, m.testBit j = true → E.testBit j = true) → i0 + i = h ∨ i0 + i = p
  | [], _, _, _, _, _, _, i, m, hm, _, _ => by simp at hm
  | m' :: ms, E, D, p, h, i0, hs, i, m, hm, hD, hsub => by
    obtain ⟨h1, h2⟩ := and_true hs
    cases i with
    | zero =>
      simp at hm; subst hm
      rw [tst_eq, show i0 + 0 = i0 from rfl] at *
      rw [hD, (subM_iff _ _).2 hsub] at h1
      have h1 : (Nat.beq i0 h || Nat.beq i0 p) = true := by simpa using h1
      rw [Bool.or_eq_true] at h1
      exact h1.imp Nat.eq_of_beq_eq_true Nat.eq_of_beq_eq_true
    | succ i =>
      have := sole_spec ms E D p h (i0 + 1) h2 i m (by simpa using hm) (by rw [← hD]; congr 1; omega) hsub
      omega
theorem allIn_spec : ∀ (n D : Nat), allIn D n = true → ∀ i, i < n → D.testBit i = true
  | 0, _, _, _, h => by omega
  | n + 1, D, h, i, hi => by
    obtain ⟨h1, h2⟩ := and_true h
    by_cases e : i = n
    · subst e; rw [tst_eq] at h1; exact h1
    · exact allIn_spec n D h2 i (by omega)
mutual
theorem idV_eq : ∀ (x y : V), idV x y = true → x = y
  | .b x, y, h => by
    cases y <;> simp only [idV, Bool.false_eq_true] at h
    rw [bEq_eq] at h; simp at h; rw [h]
  | .i x, y, h => by
    cases y <;> simp only [idV, Bool.false_eq_true] at h
    rw [ieq_eq] at h; rw [of_decide_eq_true h]
  | .k k x, y, h => by
    cases y <;> simp only [idV, Bool.false_eq_true] at h
    obtain ⟨h1, h2⟩ := and_true h
    rw [kEq_eq] at h1; rw [ieq_eq] at h2
    rw [of_decide_eq_true h1, of_decide_eq_true h2]
  | .s l n, y, h => by
    cases y <;> simp only [idV, Bool.false_eq_true] at h
    obtain ⟨h1, h2⟩ := and_true h
    rw [beq_eq h1, beq_eq h2]
  | .nilp, y, h => by cases y <;> simp only [idV, Bool.false_eq_true] at h; rfl
  | .p B o, y, h => by
    cases y <;> simp only [idV, Bool.false_eq_true] at h
    obtain ⟨h1, h2⟩ := and_true h
    rw [beq_eq h1, beq_eq h2]
  | .nils, y, h => by cases y <;> simp only [idV, Bool.false_eq_true] at h; rfl
  | .sl B o n z, y, h => by
    cases y <;> simp only [idV, Bool.false_eq_true] at h
    obtain ⟨h1, h2⟩ := and_true h
    obtain ⟨h3, h4⟩ := and_true h1
    obtain ⟨h5, h6⟩ := and_true h2
    rw [beq_eq h3, beq_eq h4, beq_eq h5, beq_eq h6]
  | .nilm, y, h => by cases y <;> simp only [idV, Bool.false_eq_true] at h; rfl
  | .m B, y, h => by cases y <;> simp only [idV, Bool.false_eq_true] at h; rw [beq_eq h]
  | .f g a c, y, h => by
    cases y <;> simp only [idV, Bool.false_eq_true] at h
    obtain ⟨h1, h2⟩ := and_true h
    obtain ⟨h3, h4⟩ := and_true h2
    rw [beq_eq h1, idVL_eq _ _ h3, idVL_eq _ _ h4]
  | .nilf, y, h => by cases y <;> simp only [idV, Bool.false_eq_true] at h; rfl
  | .ifc t v, y, h => by
    cases y <;> simp only [idV, Bool.false_eq_true] at h
    obtain ⟨h1, h2⟩ := and_true h
    rw [beq_eq h1, idV_eq _ _ h2]
  | .nili, y, h => by cases y <;> simp only [idV, Bool.false_eq_true] at h; rfl
  | .a l, y, h => by cases y <;> simp only [idV, Bool.false_eq_true] at h; rw [idVL_eq _ _ h]
  | .t l, y, h => by cases y <;> simp only [idV, Bool.false_eq_true] at h; rw [idVL_eq _ _ h]
  | .y t, y, h => by
    cases y <;> simp only [idV, Bool.false_eq_true] at h
    rw [sameY_eq _ _ h]
theorem idVL_eq : ∀ (x y : List V), idVL x y = true → x = y
  | [], [], _ => rfl
  | [], _ :: _, h => by simp [idVL] at h
  | _ :: _, [], h => by simp [idVL] at h
  | v :: l, v' :: r, h => by
    simp only [idVL] at h
    obtain ⟨h1, h2⟩ := and_true h
    rw [idV_eq _ _ h1, idVL_eq _ _ h2]
end
end Go.Xe
