/-
  RUNS OF ServerRedoes BY THE KERNEL where it asks alive() alone.
-/
import Derived.Test.YtnjfkicalpbiaaaGreatDoorProg
import Derived.KernelRfl
import Derived.Test.YtnjfkicalpbiaaaGreatDoorNat3
import Derived.Test.YtnjfkicalpbiaaaGreatDoorNat2
set_option linter.unusedVariables false
set_option linter.unusedSimpArgs false
set_option linter.unnecessarySimpa false
namespace Go.Proofs
open Go.Xe
theorem Tryz.runA : isT (Xf.callN' Tryz.prog (withSorted (Xf.natives' 131 92 172 185) 199 226 3) (59 + 1) 3 [.y (.int 1 0 (-9223372036854775808) (-1)), .y (.sym 2)] ⟨.e, 0⟩) = true := by kernel_rfl
theorem Tryz.runB : isT (Xf.callN' Tryz.prog (withSorted (Xf.natives' 131 92 172 185) 199 226 3) (59 + 1) 3 [.y (.int 1 0 12 9223372036854775807), .y (.sym 2)] ⟨.e, 0⟩) = true := by kernel_rfl
theorem Tryz.runC : isT (Xf.callN' Tryz.prog (withSorted (Xf.natives' 131 92 172 185) 199 226 3) (59 + 1) 3 [.y (.int 1 0 0 11), .k .u64 0] ⟨.e, 0⟩) = true := by kernel_rfl
end Go.Proofs
