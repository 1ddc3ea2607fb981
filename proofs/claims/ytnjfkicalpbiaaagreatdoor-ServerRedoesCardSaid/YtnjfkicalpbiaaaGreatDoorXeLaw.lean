/-
  A LAW WHOSE CALL THE KERNEL RUNS.
-/
import Derived.Test.YtnjfkicalpbiaaaGreatDoorXeNat
import Derived.Test.YtnjfkicalpbiaaaGreatDoorNat3
set_option linter.unusedVariables false
set_option linter.unusedSimpArgs false
set_option linter.unnecessarySimpa false
namespace Go.Xe
open Go.RowKit
theorem isT_some {r : O2} (h : isT r = true) : ∃ S, r = .ok (.b true) S := by
  unfold isT at h
  split at h
  · exact ⟨_, rfl⟩
  · cases h
/-- nothing is known of the world but that it stands -/
def cxt0 (P : Program) (w : World) (ρ : Rho) (scal : ∀ i, Scalar (ρ.1 i)) : Cxt := ⟨P, w, fun b => w.heap[b]?, ρ, scal⟩
theorem rel0 {P : Program} {w : World} {ρ : Rho} {scal : ∀ i, Scalar (ρ.1 i)} (n : Nat) : Rel (cxt0 P w ρ scal) (fun _ => none) ⟨.e, n⟩ w := by
  refine ⟨fun B o h => ?_, fun B B' o o' q q' h => ?_, fun B _ => ⟨rfl, T.get_e B⟩, fun B q h => (by cases h), ⟨rfl, rfl, rfl, Nat.le_refl _, fun k x h => h⟩⟩
  · have h : (T.e : T O).get B = some o := h
    rw [T.get_e] at h; cases h
  · have h : (T.e : T O).get B = some o := h
    rw [T.get_e] at h; cases h
theorem below0 {P : Program} {w w' : World} {ρ : Rho} {scal : ∀ i, Scalar (ρ.1 i)} {φ : Phi} {S : St} (h : Rel (cxt0 P w ρ scal) φ S w') : Below w.heap.size w w' :=
  ⟨h.keep.os, h.keep.tape, h.keep.output, h.keep.size, fun k hk => by
    have hv : w.heap[k]? = some (w.heap[k]'hk) := Array.getElem?_eq_getElem hk
    rw [hv]; exact h.keep.block k _ hv⟩
/-- a run that ends in 'true' -/
theorem law_ok {P : Program} (hm : P.follows .mixedOrders = true) (hnn : NoNum P) {N : Natives} (hN : ∀ C : Cxt, C.P = P → NatOK C N) {n g : Nat} (hg : N g = none) {args : List V} {Xs : Array Value} (ρ : Rho) (scal : ∀ i, Scalar (ρ.1 i))
    (k : VRL ρ (fun _ => none) args Xs.toList) (h : isT (callN P N (n + 1) g args ⟨.e, 0⟩) = true) (w : World) :
    Calls P g Xs w fun e w' => e = .returned (.bool true) ∧ Below w.heap.size w w' := by
  obtain ⟨S, hS⟩ := isT_some h
  have hS : (match bodyB P N g with | .no => O2.bad | .mk b => b (callN P N n) args ⟨.e, 0⟩) = .ok (.b true) S := hS
  split at hS
  · cases hS
  rename_i b hb
  unfold bodyB at hb
  rw [hg] at hb
  dsimp only at hb
  split at hb
  · cases hb
  rename_i fn hf
  split at hb
  · cases hb
  rename_i c hc
  have := funB_ok (C := cxt0 P w ρ scal) hm (fun l => callN_ok hm hnn hN n ((cxt0 P w ρ scal).hold l) rfl) hf hc hb (φ := fun _ => none) (w := w) hS k (rel0 0)
  refine Calls.mono this fun e w' he => ?_
  cases e with
  | returned X =>
    obtain ⟨φ', _, R, kX⟩ := he
    have kX : X = .bool true := kX
    exact ⟨by rw [kX], below0 R⟩
  | panicked c => exact he.elim
  | outgrown => exact he.elim
end Go.Xe
