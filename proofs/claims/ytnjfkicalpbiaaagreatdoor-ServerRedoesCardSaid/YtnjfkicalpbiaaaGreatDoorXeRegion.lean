/-
  A REGION: its operations one after another.
-/
import Derived.Test.YtnjfkicalpbiaaaGreatDoorXeHeavyF
set_option linter.unusedVariables false
set_option linter.unusedSimpArgs false
set_option linter.unnecessarySimpa false
namespace Go.Xe
open Go.RowKit
abbrev Fok (ρ : Rho) (φ : Phi) (nt U : Nat) (F : Fr) (a : Act) : Prop := Env ρ φ ⟨nt, U, []⟩ [] F a
/-- what a result asks of what is to follow -/
def Holds (C : Cxt) (nt U : Nat) (φ : Phi) (r : R) (Q : Exit → Act → World → Prop) : Prop :=
  match r with
  | .bad => False
  | .norm F S => ∀ φ' a w, Ext φ φ' → Rel C φ' S w → Fok C.ρ φ' nt U F a → a.defers = [] → Q .normal a w
  | .exit id F S => ∀ φ' a w, Ext φ φ' → Rel C φ' S w → Fok C.ρ φ' nt U F a → a.defers = [] → Q (.exit id) a w
  | .ret F S => ∀ φ' a w, Ext φ φ' → Rel C φ' S w → Fok C.ρ φ' nt U F a → a.defers = [] → Q .ret a w
theorem Holds.mono {C : Cxt} {nt U : Nat} {φ φ' : Phi} {r : R} {Q : Exit → Act → World → Prop} (h : Holds C nt U φ r Q) (e : Ext φ φ') : Holds C nt U φ' r Q := by
  cases r <;> simp only [Holds] at h ⊢
  all_goals exact fun φ'' a w e' => h φ'' a w (e.trans e')
theorem fok_put {ρ : Rho} {φ : Phi} {nt U : Nat} {F : Fr} {a : Act} (E : Fok ρ φ nt U F a) {o : Option Nat} {f : Fr → V → Fr} (h : dstB nt U o = .mk f) {v : V} {X : Value} (k : VR ρ φ v X) : Fok ρ φ nt U (f F v) (a.put o X) := by
  cases o with
  | none => cases h; exact E
  | some d =>
    simp only [dstB] at h
    split at h
    rotate_left
    · cases h
    rename_i hlt
    have hlt : d < nt := by simpa [Nat.blt_eq] using hlt
    have hsz : d < a.tmps.size := by rw [E.size]; exact hlt
    refine ⟨by show (a.tmps.setIfInBounds d X).size = nt; rw [Array.size_setIfInBounds]; exact E.size, E.small, fun t h1 h2 _ => ?_, fun t d' hd => ?_⟩
    · have hsm : t < 256 := by have := E.small; simp only at this h1; omega
      split at h
      · rw [setB_some h F v t hsm, slot_put hsz]
        by_cases he : t = d
        · rw [if_pos he, if_pos he]; exact k
        · rw [if_neg he, if_neg he]; exact E.glob t h1 h2 rfl
      · rename_i hno
        cases h
        have he : t ≠ d := by
          intro e
          subst e
          simp only at h2
          rw [h2] at hno; cases hno
        rw [slot_put hsz, if_neg he]
        exact E.glob t h1 h2 rfl
    · simp [idxOf] at hd
theorem put_defers {a : Act} {o : Option Nat} {X : Value} : (a.put o X).defers = a.defers := by cases o <;> rfl
theorem yielded_slot {arr : Array Oper} {a : Act} {j d : Nat} (h : (arr[j]?).bind (·.dst) = some d) : yielded arr a.tmps j = match slot a d with | .bool b => some b | _ => none := by
  unfold yielded slot
  rw [h, Array.getD_eq_getD_getElem?]
  cases hd : a.tmps[d]? with
  | none => simp [hd, undef]
  | some X => cases X <;> simp [hd]
theorem guardB_ok {ρ : Rho} {φ : Phi} {x : Cx} {arr : Array Oper} {go skip f : Cont} {o : Oper} (h : guardB x arr.toList go skip o.guard = .mk f) {L : List V} {F : Fr} {a : Act} (E : Env ρ φ x L F a) {c : Caller} {S : St} (hb : f c L F S ≠ .bad) :
    ∃ b : Bool, Region.wanted o (yielded arr a.tmps) = b ∧ f c L F S = if b then go c L F S else skip c L F S := by
  unfold guardB at h
  split at h
  · rename_i hg
    cases h
    exact ⟨true, by simp [Region.wanted, hg], rfl⟩
  · rename_i q hg
    split at h
    · cases h
    rename_i d hd
    have hd' : (arr[q.1]?).bind (·.dst) = some d := by
      rw [nth_get, Array.getElem?_toList] at hd
      split at hd
      · rename_i o' ho'; rw [ho']; exact hd
      · cases hd
    split at h
    · cases h
    rename_i g hgd
    have k := tmp_some E hgd
    have hy := yielded_slot (a := a) hd'
    have hw : Region.wanted o (yielded arr a.tmps) = (yielded arr a.tmps q.1 == some q.2) := by
      simp [Region.wanted, hg]
    rw [hw, hy]
    split at h
    · rename_i hq
      cases h
      dsimp only at hb ⊢
      rw [hq]
      cases hv : g L F <;> rw [hv] at hb k <;> dsimp only at hb k ⊢ <;> first | (exact absurd rfl hb) | skip
      · rename_i b
        rw [k]
        cases b <;> exact ⟨_, rfl, rfl⟩
      · obtain ⟨cs, e, _⟩ := k
        rw [e]
        exact ⟨_, rfl, rfl⟩
    · rename_i hq
      cases h
      dsimp only at hb ⊢
      rw [hq]
      cases hv : g L F <;> rw [hv] at hb k <;> dsimp only at hb k ⊢ <;> first | (exact absurd rfl hb) | skip
      · rename_i b
        rw [k]
        cases b <;> exact ⟨_, rfl, rfl⟩
      · obtain ⟨cs, e, _⟩ := k
        rw [e]
        exact ⟨_, rfl, rfl⟩
theorem VR_u {ρ : Rho} {φ : Phi} : VR ρ φ u undef := ⟨#[], rfl, rfl⟩
section
variable {C : Cxt} {call : Caller}
theorem opsB_ok (K : CallerOK C call) {nt U : Nat} {arr : Array Oper} {Q : Exit → Act → World → Prop} : ∀ (r : List Oper) (loc : List (Option Nat)) (i : Nat), (∀ j, arr[i + j]? = r[j]?) → ∀ {f : Cont}, opsB C.P nt U arr.toList loc r = .mk f →
    ∀ {φ : Phi} {L : List V} {F : Fr} {S : St} {a : Act} {w : World}, Rel C φ S w → Env C.ρ φ ⟨nt, U, loc⟩ L F a → Fok C.ρ φ nt U F a → a.defers = [] → Holds C nt U φ (f call L F S) Q → wpOps C.P arr Q (List.range' i r.length) a w
  | [], loc, i, hr, f, h, φ, L, F, S, a, w, R, E, E0, hd, hq => by
    cases h
    exact hq φ a w (Ext.refl φ) R E0 hd
  | o :: r, loc, i, hr, f, h, φ, L, F, S, a, w, R, E, E0, hd, hq => by
    have ho : arr[i]? = some o := by have := hr 0; simpa using this
    have hr' : ∀ j, arr[i + 1 + j]? = r[j]? := fun j => by have := hr (j + 1); rw [show i + 1 + j = i + (j + 1) by omega, this]; simp
    simp only [opsB] at h
    split at h
    · cases h; exact hq.elim
    rename_i k hk
    have ih : ∀ {φ' : Phi} {L' : List V} {F' : Fr} {S' : St} {a' : Act} {w' : World}, Rel C φ' S' w' → Env C.ρ φ' ⟨nt, U, o.dst :: loc⟩ L' F' a' → Fok C.ρ φ' nt U F' a' → a'.defers = [] → Holds C nt U φ' (k call L' F' S') Q → wpOps C.P arr Q (List.range' (i + 1) r.length) a' w' :=
      fun R E E0 hd hq => opsB_ok K r (o.dst :: loc) (i + 1) hr' hk R E E0 hd hq
    split at h
    · cases h; exact hq.elim
    rename_i g hg
    cases h
    show wpOps C.P arr Q (i :: List.range' (i + 1) r.length) a w
    simp only [wpOps, ho]
    unfold opB at hg
    split at hg
    · cases hg
    rename_i put hput
    have hbad : f call L F S ≠ .bad := by intro e; rw [e] at hq; exact hq
    -- what stands where the operation is not wanted
    have skip : Holds C nt U φ (k call (u :: L) (put F u) S) Q → wpOps C.P arr Q (List.range' (i + 1) r.length) (a.put o.dst undef) w := fun hq =>
      ih R (put_some E hput VR_u) (fok_put E0 hput VR_u) (by rw [put_defers]; exact hd) hq
    split at hg
    · rename_i s hs
      obtain ⟨b, hb, hf⟩ := guardB_ok hg E hbad
      rw [hb]
      cases b with
      | false =>
        rw [if_neg (by simp)]
        rw [if_neg (by simp)] at hf
        rw [hf] at hq
        exact skip hq
      | true =>
        rw [if_pos rfl]
        rw [if_pos rfl] at hf
        rw [hf] at hq
        refine .inl ?_
        cases hv : s L F S with
        | none => rw [hv] at hq; exact hq.elim
        | some v =>
          rw [hv] at hq
          obtain ⟨X, hX, kX⟩ := lightB_ok hs R E hv o rfl
          unfold Oper.wp
          rw [hX]
          exact ih R (put_some E hput kX) (fok_put E0 hput kX) (by rw [put_defers]; exact hd) hq
    · split at hg
      · cases hg
      rename_i s hs
      obtain ⟨b, hb, hf⟩ := guardB_ok hg E hbad
      rw [hb]
      cases b with
      | false =>
        rw [if_neg (by simp)]
        rw [if_neg (by simp)] at hf
        rw [hf] at hq
        exact skip hq
      | true =>
        rw [if_pos rfl]
        rw [if_pos rfl] at hf
        rw [hf] at hq
        refine .inl ?_
        cases hv : s call L F S with
        | bad => rw [hv] at hq; exact hq.elim
        | ok v S' =>
          rw [hv] at hq
          refine heavyB_ok hs K R E hv o rfl _ Q fun φ' X w' e R' kX => ?_
          exact ih R' (put_some (E.mono e) hput kX) (fok_put (E0.mono e) hput kX) (by rw [put_defers]; exact hd) (hq.mono e)
theorem region_ok (K : CallerOK C call) {nt U : Nat} {arr : Array Oper} {id : Nat} {f : Cont} (h : opsB C.P nt U arr.toList [] arr.toList = .mk f) {Q : Exit → Act → World → Prop}
    {φ : Phi} {F : Fr} {S : St} {a : Act} {w : World} (R : Rel C φ S w) (E : Fok C.ρ φ nt U F a) (hd : a.defers = []) (hq : Holds C nt U φ (f call [] F S) Q) : (Code.region id arr false).wp C.P Q a w := by
  refine wp_region ?_
  have := opsB_ok K arr.toList [] 0 (fun j => by simp) h R E E hd hq
  rw [Array.length_toList] at this
  rw [List.range_eq_range']
  exact this
end
end Go.Xe
