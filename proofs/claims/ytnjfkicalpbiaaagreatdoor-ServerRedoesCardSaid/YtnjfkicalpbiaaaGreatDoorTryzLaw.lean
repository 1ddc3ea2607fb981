/-
  ServerRedoes, called with whatever it is given, returns true and leaves what was there.
-/
import Derived.Test.YtnjfkicalpbiaaaGreatDoorTryzNat
import Derived.Test.YtnjfkicalpbiaaaGreatDoorXeLawB
import Derived.Test.YtnjfkicalpbiaaaGreatDoorTryzRun0
import Derived.Test.YtnjfkicalpbiaaaGreatDoorTryzRun1
import Derived.Test.YtnjfkicalpbiaaaGreatDoorTryzRun2
import Derived.Test.YtnjfkicalpbiaaaGreatDoorTryzRun3
import Derived.Test.YtnjfkicalpbiaaaGreatDoorTryzRun4
set_option linter.unusedVariables false
set_option linter.unusedSimpArgs false
set_option linter.unnecessarySimpa false
namespace Go.Proofs
open Go.Xe Go.RowKit
theorem Tryz.nats : withSorted (Xf.natives' 131 92 172 185) 199 226 3 = withSorted (natives 131 92 172 185) 199 226 3 := by rw [Xf.natives'_eq]
theorem Tryz.law_of {args : List V} {Xs : Array Value} (ρ : Rho) (scal : ∀ i, Scalar (ρ.1 i)) (k : VRL ρ (fun _ => none) args Xs.toList)
    (h : isT (Xf.callN' Tryz.prog (withSorted (Xf.natives' 131 92 172 185) 199 226 3) (59 + 1) 3 args ⟨.e, 0⟩) = true) (w : World) :
    Calls Tryz.prog 3 Xs w fun e w' => e = .returned (.bool true) ∧ Below w.heap.size w w' :=
  Xf.law_ok (n := 59) Tryz.mixed Tryz.noNum (N := withSorted (natives 131 92 172 185) 199 226 3) (fun C hC => Tryz.nat_ok C hC) Tryz.nats rfl ρ scal k h w
theorem eight_val (X : Nat) (h : X < 18446744073709551616) : X / 1 % 256 + 256 * (X / 256 % 256 + 256 * (X / 65536 % 256 + 256 * (X / 16777216 % 256 + 256 * (X / 4294967296 % 256 + 256 * (X / 1099511627776 % 256 + 256 * (X / 281474976710656 % 256 + 256 * (X / 72057594037927936 % 256 + 256 * 0))))))) = X := by omega
/-- the letters: 0: a number that is no 0; 1; 2 -/
def let3 (a b c : Value) : Nat → Value
  | 0 => a
  | 1 => b
  | _ => c
theorem byte_u64 (v : Nat) (j : Nat) : Go.Xe.byteOf (.int .u64 (v : Int)) j = v / 256 ^ j % 256 := by simp [Go.Xe.byteOf]
theorem nz_u64 {v : Nat} (h0 : v ≠ 0) (h1 : v < 18446744073709551616) (b c : Value) : NZf (let3 (.int .u64 (v : Int)) b c) := by
  apply Classical.byContradiction
  intro hn
  have hz : ∀ j, j < 8 → v / 256 ^ j % 256 = 0 := fun j hj => by
    apply Classical.byContradiction
    intro hne
    exact hn ⟨j, hj, by show Go.Xe.byteOf (.int .u64 (v : Int)) j ≠ 0; rw [byte_u64]; exact hne⟩
  have e := eight_val v h1
  have a0 : v / 1 % 256 = 0 := hz 0 (by omega)
  have a1 : v / 256 % 256 = 0 := hz 1 (by omega)
  have a2 : v / 65536 % 256 = 0 := hz 2 (by omega)
  have a3 : v / 16777216 % 256 = 0 := hz 3 (by omega)
  have a4 : v / 4294967296 % 256 = 0 := hz 4 (by omega)
  have a5 : v / 1099511627776 % 256 = 0 := hz 5 (by omega)
  have a6 : v / 281474976710656 % 256 = 0 := hz 6 (by omega)
  have a7 : v / 72057594037927936 % 256 = 0 := hz 7 (by omega)
  rw [a0, a1, a2, a3, a4, a5, a6, a7] at e
  exact h0 e.symm
theorem let3_scal {a b c : Value} (ha : Scalar a) (hb : Scalar b) (hc : Scalar c) : ∀ i, Scalar (let3 a b c i)
  | 0 => ha
  | 1 => hb
  | _ + 2 => hc
theorem ver_R {v : Nat} (h0 : v ≠ 0) (h1 : v < 18446744073709551616) (b c : Value) (φ : Phi) :
    VR ⟨let3 (.int .u64 (v : Int)) b c, nz_u64 h0 h1 b c⟩ φ (.y (.num .u64 [.at 0 0, .at 0 1, .at 0 2, .at 0 3, .at 0 4, .at 0 5, .at 0 6, .at 0 7])) (.int .u64 (v : Int)) := by
  refine ⟨?_, fun b hb => ?_, rfl⟩
  · congr 1
    show (v : Int) = ((valBs _ _ : Nat) : Int)
    congr 1
    simp only [valBs, By.val]
    have hb : ∀ j, Go.Xe.byteOf (let3 (.int .u64 (v : Int)) b c 0) j = v / 256 ^ j % 256 := fun j => byte_u64 v j
    simp only [hb]
    exact (eight_val v h1).symm
  · simp only [List.mem_cons, List.not_mem_nil, or_false] at hb
    rcases hb with rfl | rfl | rfl | rfl | rfl | rfl | rfl | rfl <;> trivial
theorem Tryz.law (n : Int) (v : Int) (hn0 : -9223372036854775808 ≤ n) (hn1 : n ≤ 9223372036854775807) (h0 : 0 ≤ v) (h1 : v < 18446744073709551616) (w : World) : Calls Tryz.prog 3 #[.int .i64 n, .int .u64 v] w fun e w' => e = .returned (.bool true) ∧ Below w.heap.size w w' := by
  have hone : NZf (let3 (.int .u64 ((1 : Nat) : Int)) (.int .i64 n) (.int .u64 v)) := nz_u64 (by omega) (by omega) _ _
  have sc : ∀ i, Scalar (let3 (.int .u64 ((1 : Nat) : Int)) (.int .i64 n) (.int .u64 v) i) := let3_scal rfl rfl rfl
  by_cases hA : n < 0
  · exact Tryz.law_of ⟨_, hone⟩ sc (args := [.y (.int 1 0 (-9223372036854775808) (-1)), .y (.sym 2)]) ⟨_, _, rfl, ⟨n, by rw [Int.add_zero], rfl, by omega, by omega⟩, _, _, rfl, rfl, rfl⟩ Tryz.runA w
  by_cases hB : 11 < n
  · exact Tryz.law_of ⟨_, hone⟩ sc (args := [.y (.int 1 0 12 9223372036854775807), .y (.sym 2)]) ⟨_, _, rfl, ⟨n, by rw [Int.add_zero], rfl, by omega, by omega⟩, _, _, rfl, rfl, rfl⟩ Tryz.runB w
  by_cases hC : v = 0
  · subst hC
    exact Tryz.law_of ⟨_, hone⟩ sc (args := [.y (.int 1 0 0 11), .k .u64 0]) ⟨_, _, rfl, ⟨n, by rw [Int.add_zero], rfl, by omega, by omega⟩, _, _, rfl, rfl, rfl⟩ Tryz.runC w
  obtain ⟨u, rfl⟩ : ∃ u : Nat, v = (u : Int) := ⟨v.toNat, by omega⟩
  have hu0 : u ≠ 0 := by omega
  have hu1 : u < 18446744073709551616 := by omega
  have sc' : ∀ i, Scalar (let3 (.int .u64 (u : Int)) (.int .i64 n) (.int .i64 n) i) := let3_scal rfl rfl rfl
  have go : ∀ m : Int, n = m → isT (Xf.callN' Tryz.prog (withSorted (Xf.natives' 131 92 172 185) 199 226 3) (59 + 1) 3 [.i m, .y (.num .u64 [.at 0 0, .at 0 1, .at 0 2, .at 0 3, .at 0 4, .at 0 5, .at 0 6, .at 0 7])] ⟨.e, 0⟩) = true →
      Calls Tryz.prog 3 #[.int .i64 n, .int .u64 (u : Int)] w fun e w' => e = .returned (.bool true) ∧ Below w.heap.size w w' := by
    intro m hm h
    subst hm
    exact Tryz.law_of ⟨_, nz_u64 hu0 hu1 _ _⟩ sc' (args := [.i n, .y (.num .u64 [.at 0 0, .at 0 1, .at 0 2, .at 0 3, .at 0 4, .at 0 5, .at 0 6, .at 0 7])]) ⟨_, _, rfl, rfl, _, _, rfl, ver_R hu0 hu1 _ _ _, rfl⟩ h w
  by_cases e0 : n = 0
  · exact go 0 e0 Tryz.run0
  by_cases e1 : n = 1
  · exact go 1 e1 Tryz.run1
  by_cases e2 : n = 2
  · exact go 2 e2 Tryz.run2
  by_cases e3 : n = 3
  · exact go 3 e3 Tryz.run3
  by_cases e4 : n = 4
  · exact go 4 e4 Tryz.run4
  by_cases e5 : n = 5
  · exact go 5 e5 Tryz.run5
  by_cases e6 : n = 6
  · exact go 6 e6 Tryz.run6
  by_cases e7 : n = 7
  · exact go 7 e7 Tryz.run7
  by_cases e8 : n = 8
  · exact go 8 e8 Tryz.run8
  by_cases e9 : n = 9
  · exact go 9 e9 Tryz.run9
  by_cases e10 : n = 10
  · exact go 10 e10 Tryz.run10
  exact go 11 (by omega) Tryz.run11
end Go.Proofs
