/-
  THE OPERATIONS THAT TURN NOTHING (the third part).
-/
import Derived.Test.YtnjfkicalpbiaaaGreatDoorXeLightB
set_option linter.unusedVariables false
set_option linter.unusedSimpArgs false
set_option linter.unnecessarySimpa false
namespace Go.Xe
open Go.RowKit
theorem ble_le {a b : Nat} (h : Nat.ble a b = true) : a ≤ b := by rw [nble] at h; exact of_decide_eq_true h
theorem blt_lt {a b : Nat} (h : Nat.blt a b = true) : a < b := by rw [nblt] at h; exact of_decide_eq_true h
theorem beq_eq {a b : Nat} (h : Nat.beq a b = true) : a = b := by rw [nbeq] at h; exact of_decide_eq_true h
-- PARTS OF A STRUCT
theorem setL_get : ∀ (l : List V) (o : Nat) (ys : List V), o + ys.length ≤ l.length → ∀ i, (setL l o ys)[i]? = if o ≤ i ∧ i < o + ys.length then ys[i - o]? else l[i]?
  | l, 0, [], _, i => by
    have : ¬ (0 ≤ i ∧ i < 0 + ([] : List V).length) := by simp
    rw [if_neg this]; cases l <;> rfl
  | [], 0, y :: ys, h, i => by simp at h
  | x :: l, 0, y :: ys, h, i => by
    show (y :: setL l 0 ys)[i]? = _
    cases i with
    | zero => simp
    | succ i =>
      have := setL_get l 0 ys (by simpa using h) i
      simp only [List.getElem?_cons_succ, this]
      by_cases hc : i < ys.length
      · rw [if_pos (by simpa using hc), if_pos (by simp; omega)]; simp
      · rw [if_neg (by simpa using hc), if_neg (by simp; omega)]
  | [], o + 1, ys, h, i => by simp at h
  | x :: l, o + 1, ys, h, i => by
    show (x :: setL l o ys)[i]? = _
    cases i with
    | zero => rw [if_neg (by omega)]; simp
    | succ i =>
      have := setL_get l o ys (by simp at h; omega) i
      simp only [List.getElem?_cons_succ, this]
      by_cases hc : o ≤ i ∧ i < o + ys.length
      · rw [if_pos hc, if_pos (by omega)]; congr 1; omega
      · rw [if_neg hc, if_neg (by omega)]
theorem setL_length : ∀ (l : List V) (o : Nat) (ys : List V), o + ys.length ≤ l.length → (setL l o ys).length = l.length
  | l, 0, [], _ => by cases l <;> rfl
  | [], 0, y :: ys, h => by simp at h
  | x :: l, 0, y :: ys, h => by show (setL l 0 ys).length + 1 = _; rw [setL_length l 0 ys (by simpa using h)]; rfl
  | [], o + 1, ys, h => by simp at h
  | x :: l, o + 1, ys, h => by show (setL l o ys).length + 1 = _; rw [setL_length l o ys (by simp at h; omega)]; rfl
def layA (off : Nat) (cs : Array Value) (p : Value × Nat) : Array Value := cs.setIfInBounds (off + p.2) p.1
theorem foldl_lay (off : Nat) : ∀ (ys : List Value) (k : Nat) (cs : Array Value), off + k + ys.length ≤ cs.size →
    ((ys.zipIdx k).foldl (layA off) cs).size = cs.size ∧ ∀ i : Nat, ((ys.zipIdx k).foldl (layA off) cs)[i]? = if off + k ≤ i ∧ i < off + k + ys.length then ys[i - (off + k)]? else cs[i]?
  | [], k, cs, _ => ⟨rfl, fun i => by rw [if_neg (by simp)]; rfl⟩
  | y :: ys, k, cs, h => by
    simp only [List.zipIdx_cons, List.foldl_cons]
    simp only [List.length_cons] at h
    have hs : (layA off cs (y, k)).size = cs.size := by simp [layA]
    obtain ⟨g1, g2⟩ := foldl_lay off ys (k + 1) (layA off cs (y, k)) (by rw [hs]; omega)
    refine ⟨by rw [g1, hs], fun i => ?_⟩
    rw [g2 i]
    by_cases hc : off + (k + 1) ≤ i ∧ i < off + (k + 1) + ys.length
    · rw [if_pos hc, if_pos (by simp; omega)]
      rw [show i - (off + k) = (i - (off + (k + 1))) + 1 by omega]; simp
    · rw [if_neg hc]
      by_cases he : i = off + k
      · subst he
        have hlt : off + k < cs.size := by omega
        rw [if_pos (by simp)]
        simp [layA, hlt]
      · rw [if_neg (by simp; omega)]
        simp only [layA]
        rw [Array.getElem?_setIfInBounds_ne (by omega)]
section
variable {ρ : Rho} {φ : Phi} {x : Cx} {L : List V} {F : Fr} {a : Act}
theorem parts_run (hρ : ∀ i, Scalar (ρ.1 i)) (E : Env ρ φ x L F a) {n : Nat} {place : Nat → Box (Nat × Nat)} {pl : Nat → Option (Nat × Nat)} (hp : ∀ i q, place i = .mk q → pl i = some q) :
    ∀ {ps : List (Nat × Operand)} {g : List V → Fr → List V → Option (List V)}, partsB x n place ps = .mk g → ∀ {z r : List V} {cs : Array Value}, g L F z = some r → z.length = n → VRL ρ φ z cs.toList →
      ∃ cs', Instr.fill pl cs (ps.map fun p => (p.1, a.eval p.2)) = some cs' ∧ VRL ρ φ r cs'.toList ∧ r.length = n
  | [], g, h, z, r, cs, hg, hz, k => by cases h; cases hg; exact ⟨cs, rfl, k, hz⟩
  | p :: ps, g, h, z, r, cs, hg, hz, k => by
    simp only [partsB] at h
    split at h
    · cases h
    rename_i q hq
    split at h
    · cases h
    rename_i hle
    have hle : q.1 + q.2 ≤ n := ble_le hle
    split at h
    · cases h
    rename_i f hf
    split at h
    · cases h
    rename_i g' hg'
    cases h
    dsimp only at hg
    split at hg
    rotate_left
    · cases hg
    rename_i hlen
    have hlen : (cells (f L F)).length = q.2 := by rw [← cellLen_eq]; exact beq_eq hlen
    have kv := (ev_some E hf).cells hρ
    have hcl := kv.length
    have hcs := k.length
    have hsz : (a.eval p.2).cells.size = q.2 := by rw [← hlen]; simpa using hcl
    have hcz : cs.size = n := by rw [← hz]; simpa using hcs
    obtain ⟨g1, g2⟩ := foldl_lay q.1 (a.eval p.2).cells.toList 0 cs (by simp only [Nat.add_zero, Array.length_toList, hsz, hcz]; exact hle)
    have k' : VRL ρ φ (setL z q.1 (cells (f L F))) (((a.eval p.2).cells.toList.zipIdx 0).foldl (layA q.1) cs).toList := by
      refine VRL.of_get ?_ fun i v hi => ?_
      · rw [setL_length _ _ _ (by rw [hlen, hz]; exact hle), Array.length_toList, g1, hcz, hz]
      · rw [setL_get _ _ _ (by rw [hlen, hz]; exact hle)] at hi
        have e := g2 i
        rw [Array.getElem?_toList, e]
        simp only [Nat.add_zero, Array.length_toList, hsz]
        rw [hlen] at hi
        split at hi
        · rename_i hc
          rw [if_pos hc]
          obtain ⟨X, hX, kX⟩ := kv.get hi
          exact ⟨X, hX, kX⟩
        · rename_i hc
          rw [if_neg hc]
          obtain ⟨X, hX, kX⟩ := k.get hi
          exact ⟨X, by simpa using hX, kX⟩
    obtain ⟨cs', e1, e2, e3⟩ := parts_run hρ E hp hg' hg (by rw [setL_length _ _ _ (by rw [hlen, hz]; exact hle), hz]) k'
    refine ⟨cs', ?_, e2, e3⟩
    simp only [List.map_cons, Instr.fill, hp _ _ hq]
    have hc : (decide ((a.eval p.2).cells.size ≠ q.2) || decide (q.1 + (a.eval p.2).cells.size > cs.size)) = false := by
      rw [hsz, hcz]; simp; exact hle
    have hfold : ((a.eval p.2).cells.zipIdx.foldl (fun cs (c, j) => cs.setIfInBounds (q.1 + j) c) cs) = (((a.eval p.2).cells.toList.zipIdx 0).foldl (layA q.1) cs) := by
      rw [← Array.foldl_toList, Array.toList_zipIdx]; rfl
    simp only [hfold]
    simp only [Bool.or_eq_true, decide_eq_true_eq] at hc ⊢
    rw [if_neg (by rw [hsz, hcz]; simp; exact hle)]
    exact e1
end
section
variable {C : Cxt} {x : Cx}
theorem fieldPl_some {P : Program} {t i : Nat} {q : Nat × Nat} (h : fieldPl P t i = .mk q) : ∃ fs f, P.underlying t = some (.struct fs) ∧ fs[i]? = some f ∧ szB P f.type = .mk q.2 ∧ f.offset = q.1 := by
  unfold fieldPl at h
  split at h
  · cases h
  rename_i f hf
  obtain ⟨fs, h1, h2⟩ := fieldB_some hf
  split at h
  · cases h
  rename_i n hn
  cases h
  exact ⟨fs, f, h1, h2, hn, rfl⟩
end
end Go.Xe
