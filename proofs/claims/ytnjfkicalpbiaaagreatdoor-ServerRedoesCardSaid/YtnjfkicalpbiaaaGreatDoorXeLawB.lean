/-
  A LAW WHOSE CALL THE KERNEL RUNS, by the quick form.
-/
import Derived.Test.YtnjfkicalpbiaaaGreatDoorXeLaw
import Derived.Test.YtnjfkicalpbiaaaGreatDoorNat2
import Derived.Test.YtnjfkicalpbiaaaGreatDoorXeSorted
set_option linter.unusedVariables false
set_option linter.unusedSimpArgs false
set_option linter.unnecessarySimpa false
namespace Go.Xf
open Go.Xe Go.RowKit
theorem law_ok {P : Program} (hm : P.follows .mixedOrders = true) (hnn : NoNum P) {N N' : Natives} (hN : ∀ C : Cxt, C.P = P → NatOK C N) (e : N' = N) {n g : Nat} (hg : N g = none) {args : List V} {Xs : Array Value} (ρ : Rho) (scal : ∀ i, Scalar (ρ.1 i))
    (k : VRL ρ (fun _ => none) args Xs.toList) (h : isT (callN' P N' (n + 1) g args ⟨.e, 0⟩) = true) (w : World) :
    Calls P g Xs w fun e w' => e = .returned (.bool true) ∧ Below w.heap.size w w' :=
  Xe.law_ok hm hnn hN hg ρ scal k (by rw [← callN'_eq, ← e]; exact h) w
/-- the eight bytes of letter 0 -/
def ver : V := .y (.num .u64 [.at 0 0, .at 0 1, .at 0 2, .at 0 3, .at 0 4, .at 0 5, .at 0 6, .at 0 7])
end Go.Xf
