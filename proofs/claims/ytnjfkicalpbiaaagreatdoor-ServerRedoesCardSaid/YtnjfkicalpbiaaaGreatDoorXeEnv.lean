/-
  WHAT A REGION's VALUES AND A FRAME SAY OF THE MODEL's SLOTS.
-/
import Derived.Test.YtnjfkicalpbiaaaGreatDoorXeRel
set_option linter.unusedVariables false
set_option linter.unusedSimpArgs false
set_option linter.unnecessarySimpa false
namespace Go.Xe
open Go.RowKit
theorem nthB_some : ∀ {d : Nat} {g : List V → V}, nthB d = .mk g → ∀ L, g L = L[d]?.getD u
  | 0, g, h, L => by simp only [nthB, Box.mk.injEq] at h; subst h; cases L <;> rfl
  | d + 1, g, h, L => by
    simp only [nthB] at h
    split at h
    · cases h
    · rename_i g' hg
      simp only [Box.mk.injEq] at h; subst h
      show g' _ = _
      rw [nthB_some hg]
      cases L <;> simp
def slot (a : Act) (t : Nat) : Value := a.tmps.getD t undef
structure Env (ρ : Rho) (φ : Phi) (x : Cx) (L : List V) (F : Fr) (a : Act) : Prop where
  size : a.tmps.size = x.nt
  small : x.nt ≤ 256
  glob : ∀ t, t < x.nt → tstB x.U t = true → idxOf t x.loc = none → VR ρ φ (F.at t) (slot a t)
  loc : ∀ t d, idxOf t x.loc = some d → VR ρ φ (L[d]?.getD u) (slot a t)
theorem Env.mono {ρ : Rho} {φ φ' : Phi} {x : Cx} {L : List V} {F : Fr} {a : Act} (h : Env ρ φ x L F a) (e : Ext φ φ') : Env ρ φ' x L F a :=
  ⟨h.size, h.small, fun t h1 h2 h3 => VR.mono e _ _ (h.glob t h1 h2 h3), fun t d h1 => VR.mono e _ _ (h.loc t d h1)⟩
theorem and_true {a b : Bool} (h : (a && b) = true) : a = true ∧ b = true := by simpa using h
theorem tmp_some {ρ : Rho} {φ : Phi} {x : Cx} {L : List V} {F : Fr} {a : Act} (E : Env ρ φ x L F a) {t : Nat} {f : Ev} (h : x.tmp t = .mk f) : VR ρ φ (f L F) (slot a t) := by
  unfold Cx.tmp at h
  split at h
  · rename_i d hd
    split at h
    · cases h
    · rename_i g hg
      cases h
      show VR ρ φ (g L) _
      rw [nthB_some hg]
      exact E.loc t d hd
  · rename_i hd
    split at h
    · rename_i hc
      obtain ⟨h1, h2⟩ := and_true hc
      split at h
      · cases h
      · rename_i g hg
        cases h
        show VR ρ φ (g F) _
        rw [getB_some hg]
        exact E.glob t (by simpa [Nat.blt_eq] using h1) h2 hd
    · cases h
-- CONSTANTS
theorem strB_append (l l' n m : Nat) (h : n < 256 ^ l) : strB (l + l') (n + m * 256 ^ l) = strB l n ++ strB l' m := by
  induction l generalizing n with
  | zero => simp [strB]; simp at h; subst h; simp
  | succ l ih =>
    have e : l + 1 + l' = (l + l') + 1 := by omega
    rw [e]
    simp only [strB]
    have h256 : 256 ^ (l + 1) = 256 * 256 ^ l := by rw [Nat.pow_succ, Nat.mul_comm]
    have h1 : (n + m * 256 ^ (l + 1)) % 256 = n % 256 := by rw [h256, Nat.mul_left_comm, Nat.add_mul_mod_self_left]
    have h2 : (n + m * 256 ^ (l + 1)) / 256 = n / 256 + m * 256 ^ l := by rw [h256, Nat.mul_left_comm, Nat.add_mul_div_left _ _ (by omega)]
    rw [h1, h2, ih (n / 256) (by rw [h256] at h; omega)]
    rfl
theorem strB_length (l n : Nat) : (strB l n).length = l := by induction l generalizing n with | zero => rfl | succ l ih => simp [strB, ih]
theorem sOf_lt : ∀ (l : List UInt8), sOf (l.map (·.toNat)) < 256 ^ l.length
  | [] => by simp [sOf]
  | b :: l => by
    have := sOf_lt l
    have hb : b.toNat < 256 := b.toNat_lt
    simp only [List.map_cons, sOf, List.length_cons, Nat.pow_succ]
    omega
theorem strB_sOf : ∀ (l : List UInt8), strB l.length (sOf (l.map (·.toNat))) = l
  | [] => rfl
  | b :: l => by
    have hb : b.toNat < 256 := b.toNat_lt
    simp only [List.map_cons, sOf, List.length_cons, strB]
    have h1 : (b.toNat + 256 * sOf (l.map (·.toNat))) % 256 = b.toNat := by omega
    have h2 : (b.toNat + 256 * sOf (l.map (·.toNat))) / 256 = sOf (l.map (·.toNat)) := by omega
    rw [h1, h2, strB_sOf l]
    congr 1
    exact UInt8.toNat_inj.1 (by simp)
mutual
theorem cv_some {ρ : Rho} {φ : Phi} : ∀ (x : Value) {v : V}, cv x = some v → VR ρ φ v x
  | .bool b, v, h => by simp [cv] at h; subst h; rfl
  | .int k n, v, h => by cases k <;> simp [cv] at h <;> subst h <;> rfl
  | .float .., v, h => by simp [cv] at h
  | .complex .., v, h => by simp [cv] at h
  | .string s, v, h => by
    simp only [cv, Option.some.injEq] at h; subst h
    have e : s.size = s.data.toList.length := Array.length_toList.symm
    exact ⟨s, rfl, by rw [e]; exact (strB_sOf s.data.toList).symm, by rw [e]; exact sOf_lt s.data.toList⟩
  | .pointer none, v, h => by simp [cv] at h; subst h; rfl
  | .pointer (some _), v, h => by simp [cv] at h
  | .slice none 0 0, v, h => by simp [cv] at h; subst h; rfl
  | .slice none 0 (_ + 1), v, h => by simp [cv] at h
  | .slice none (_ + 1) _, v, h => by simp [cv] at h
  | .slice (some _) _ _, v, h => by simp [cv] at h
  | .map none, v, h => by simp [cv] at h; subst h; rfl
  | .map (some _), v, h => by simp [cv] at h
  | .chan _, v, h => by simp [cv] at h
  | .func .., v, h => by simp [cv] at h
  | .nilFunc, v, h => by simp [cv] at h; subst h; rfl
  | .iface .., v, h => by simp [cv] at h
  | .nilIface, v, h => by simp [cv] at h; subst h; rfl
  | .agg ⟨l⟩, v, h => by
    simp only [cv] at h
    split at h
    · rename_i r hr
      simp at h; subst h
      exact ⟨⟨l⟩, rfl, cvL_some l hr⟩
    · cases h
  | .tuple ⟨[]⟩, v, h => by simp [cv] at h; subst h; exact ⟨#[], rfl, rfl⟩
  | .tuple ⟨_ :: _⟩, v, h => by simp [cv] at h
theorem cvL_some {ρ : Rho} {φ : Phi} : ∀ (xs : List Value) {l : List V}, cvL xs = some l → VRL ρ φ l xs
  | [], l, h => by simp [cvL] at h; subst h; rfl
  | x :: xs, l, h => by
    simp only [cvL] at h
    split at h
    · cases h
    · rename_i v hv
      split at h
      · cases h
      · rename_i r hr
        simp at h; subst h
        exact ⟨x, xs, rfl, cv_some x hv, cvL_some xs hr⟩
end
theorem ev_some {ρ : Rho} {φ : Phi} {x : Cx} {L : List V} {F : Fr} {a : Act} (E : Env ρ φ x L F a) {o : Operand} {f : Ev} (h : x.ev o = .mk f) : VR ρ φ (f L F) (a.eval o) := by
  cases o with
  | tmp t => exact tmp_some E h
  | const c =>
    simp only [Cx.ev] at h
    split at h
    · rename_i y hy; cases h; exact cv_some c hy
    · cases h
  | global g => cases h
  | func g => cases h; exact ⟨#[], #[], rfl, rfl, rfl⟩
theorem evs_some {ρ : Rho} {φ : Phi} {x : Cx} {L : List V} {F : Fr} {a : Act} (E : Env ρ φ x L F a) : ∀ {l : List Operand} {f : List V → Fr → List V}, x.evs l = .mk f → VRL ρ φ (f L F) (l.map a.eval)
  | [], f, h => by cases h; rfl
  | o :: l, f, h => by
    simp only [Cx.evs] at h
    split at h
    · cases h
    · rename_i g hg
      split at h
      · cases h
      · rename_i k hk
        cases h
        exact ⟨_, _, rfl, ev_some E hg, evs_some E hk⟩
def OptR (ρ : Rho) (φ : Phi) (a : Act) (o : Option Operand) (v : Option V) : Prop :=
  match o with | none => v = none | some o => ∃ y, v = some y ∧ VR ρ φ y (a.eval o)
theorem evo_some {ρ : Rho} {φ : Phi} {x : Cx} {L : List V} {F : Fr} {a : Act} (E : Env ρ φ x L F a) {o : Option Operand} {f : List V → Fr → Option V} (h : x.evo o = .mk f) : OptR ρ φ a o (f L F) := by
  cases o with
  | none => cases h; rfl
  | some o =>
    simp only [Cx.evo] at h
    split at h
    · cases h
    · rename_i g hg; cases h; exact ⟨_, rfl, ev_some E hg⟩
/-- a value laid in its slot -/
theorem idxOf_cons (t : Nat) (o : Option Nat) (r : List (Option Nat)) : idxOf t (o :: r) = if o = some t then some 0 else (idxOf t r).map (· + 1) := by
  cases o with
  | none => simp only [idxOf]; cases idxOf t r <;> simp
  | some d =>
    simp only [idxOf]
    by_cases h : d = t
    · subst h; simp
    · have : Nat.beq d t = false := by cases hb : Nat.beq d t with | false => rfl | true => exact absurd (Nat.eq_of_beq_eq_true hb) h
      rw [this]
      cases idxOf t r <;> simp [h]
theorem slot_put {a : Act} {d : Nat} {X : Value} (h : d < a.tmps.size) (t : Nat) : slot (a.put (some d) X) t = if t = d then X else slot a t := by
  unfold slot Act.put
  simp only [Array.getD_eq_getD_getElem?]
  by_cases he : t = d
  · subst he; simp [h]
  · rw [if_neg he, Array.getElem?_setIfInBounds_ne (fun e => he e.symm)]
theorem put_some {ρ : Rho} {φ : Phi} {x : Cx} {L : List V} {F : Fr} {a : Act} (E : Env ρ φ x L F a) {o : Option Nat} {f : Fr → V → Fr} (h : dstB x.nt x.U o = .mk f) {v : V} {X : Value} (k : VR ρ φ v X) :
    Env ρ φ ⟨x.nt, x.U, o :: x.loc⟩ (v :: L) (f F v) (a.put o X) := by
  cases o with
  | none =>
    cases h
    refine ⟨E.size, E.small, fun t h1 h2 h3 => ?_, fun t d hd => ?_⟩
    · rw [idxOf_cons] at h3
      simp at h3
      exact E.glob t h1 h2 h3
    · rw [idxOf_cons] at hd
      simp only [reduceCtorEq, if_false, Option.map_eq_some_iff] at hd
      obtain ⟨d', hd', rfl⟩ := hd
      show VR ρ φ ((v :: L)[d' + 1]?.getD u) (slot a t)
      simpa using E.loc t d' hd'
  | some d =>
    simp only [dstB] at h
    split at h
    · rename_i hlt
      have hlt : d < x.nt := by simpa [Nat.blt_eq] using hlt
      have hsz : d < a.tmps.size := by rw [E.size]; exact hlt
      have hF : ∀ t, t < x.nt → tstB x.U t = true → t ≠ d → (f F v).at t = F.at t := by
        intro t h1 h2 h3
        split at h
        · rw [setB_some h F v t (by have := E.small; omega), if_neg h3]
        · cases h; rfl
      refine ⟨by show (a.tmps.setIfInBounds d X).size = x.nt; rw [Array.size_setIfInBounds]; exact E.size, E.small, fun t h1 h2 h3 => ?_, fun t d' hd => ?_⟩
      · rw [idxOf_cons] at h3
        split at h3
        · cases h3
        · rename_i hne
          have hne : t ≠ d := fun e => hne (by rw [e])
          rw [hF t h1 h2 hne, slot_put hsz, if_neg hne]
          exact E.glob t h1 h2 (by simpa using h3)
      · rw [idxOf_cons] at hd
        split at hd
        · rename_i he
          cases hd; cases he
          rw [slot_put hsz, if_pos rfl]; simpa using k
        · rename_i hne
          have hne : t ≠ d := fun e => hne (by rw [e])
          simp only [Option.map_eq_some_iff] at hd
          obtain ⟨d'', hd', rfl⟩ := hd
          rw [slot_put hsz, if_neg hne]
          simpa using E.loc t d'' hd'
    · cases h
end Go.Xe
