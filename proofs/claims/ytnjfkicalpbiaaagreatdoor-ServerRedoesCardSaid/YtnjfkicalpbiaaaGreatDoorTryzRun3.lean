/-
  RUNS OF ServerRedoes BY THE KERNEL, for every version at once.
-/
import Derived.Test.YtnjfkicalpbiaaaGreatDoorProg
import Derived.KernelRfl
import Derived.Test.YtnjfkicalpbiaaaGreatDoorNat3
import Derived.Test.YtnjfkicalpbiaaaGreatDoorNat2
set_option linter.unusedVariables false
set_option linter.unusedSimpArgs false
set_option linter.unnecessarySimpa false
namespace Go.Proofs
open Go.Xe
theorem Tryz.run9 : isT (Xf.callN' Tryz.prog (withSorted (Xf.natives' 131 92 172 185) 199 226 3) (59 + 1) 3 [.i 9, .y (.num .u64 [.at 0 0, .at 0 1, .at 0 2, .at 0 3, .at 0 4, .at 0 5, .at 0 6, .at 0 7])] ⟨.e, 0⟩) = true := by kernel_rfl
theorem Tryz.run10 : isT (Xf.callN' Tryz.prog (withSorted (Xf.natives' 131 92 172 185) 199 226 3) (59 + 1) 3 [.i 10, .y (.num .u64 [.at 0 0, .at 0 1, .at 0 2, .at 0 3, .at 0 4, .at 0 5, .at 0 6, .at 0 7])] ⟨.e, 0⟩) = true := by kernel_rfl
theorem Tryz.run11 : isT (Xf.callN' Tryz.prog (withSorted (Xf.natives' 131 92 172 185) 199 226 3) (59 + 1) 3 [.i 11, .y (.num .u64 [.at 0 0, .at 0 1, .at 0 2, .at 0 3, .at 0 4, .at 0 5, .at 0 6, .at 0 7])] ⟨.e, 0⟩) = true := by kernel_rfl
end Go.Proofs
