/-
  THE WALK of commons/sum.Of: the check sum of a list of texts. (printed by gen.py)
-/
import Derived.Test.YtnjfkicalpbiaaaGreatDoorProg
import Derived.WalkKit
import Derived.WalkMore
import Derived.Deep.LoopGhost
import Derived.Laws.BitsLemmas
import Derived.Test.YtnjfkicalpbiaaaGreatDoorNat1
set_option linter.unusedVariables false
set_option linter.unusedSimpArgs false
set_option linter.unnecessarySimpa false
namespace Go.Proofs
open Go.RowKit
namespace SumOf
open Go.Xe (crcBit crcByte)
theorem wrap32n (n : Nat) (h : n < 4294967296) : IntKind.u32.wrap (n : Int) = n := by rw [IntKind.wrap_u32]; omega
theorem bv32 (a : Nat) (ha : a < 4294967296) : (BitVec.ofInt 32 (a : Int)).toNat = a := by
  rw [BitVec.ofInt_natCast, BitVec.toNat_ofNat]; exact Nat.mod_eq_of_lt (by omega)
theorem xor_lt {a b : Nat} (ha : a < 4294967296) (hb : b < 4294967296) : a ^^^ b < 4294967296 := Nat.xor_lt_two_pow (n := 32) (by omega) (by omega)
theorem bits_xor32 (a b : Nat) (ha : a < 4294967296) (hb : b < 4294967296) : bits .xor .u32 (a : Int) (b : Int) = ((a ^^^ b : Nat) : Int) := by
  show IntKind.u32.wrap ((BitVec.ofInt 32 (a : Int) ^^^ BitVec.ofInt 32 (b : Int)).toNat : Int) = _
  rw [BitVec.toNat_xor, bv32 a ha, bv32 b hb, wrap32n _ (xor_lt ha hb)]
theorem bits_and32 (a : Nat) (ha : a < 4294967296) : bits .and .u32 (a : Int) 1 = ((a % 2 : Nat) : Int) := by
  show IntKind.u32.wrap ((BitVec.ofInt 32 (a : Int) &&& BitVec.ofInt 32 ((1 : Nat) : Int)).toNat : Int) = _
  rw [BitVec.toNat_and, bv32 a ha, bv32 1 (by omega), Nat.and_one_is_mod, wrap32n _ (by omega)]
theorem bit_eq (x : Nat) : crcBit x = (x / 2) ^^^ (3988292384 * (x % 2)) := by
  show (x >>> 1) ^^^ (3988292384 * (x &&& 1)) = _
  rw [Nat.and_one_is_mod, Nat.shiftRight_eq_div_pow]
theorem bit_one {x : Nat} (h : x % 2 = 1) : crcBit x = (x / 2) ^^^ 3988292384 := by rw [bit_eq, h]
theorem bit_zero {x : Nat} (h : x % 2 = 0) : crcBit x = x / 2 := by rw [bit_eq, h]; simp
theorem bit_lt {x : Nat} (h : x < 4294967296) : crcBit x < 4294967296 := by
  rw [bit_eq]
  have : x % 2 = 0 ∨ x % 2 = 1 := by omega
  rcases this with h2 | h2 <;> rw [h2]
  · exact xor_lt (by omega) (by omega)
  · exact xor_lt (by omega) (by omega)
def iterB : Nat → Nat → Nat
  | 0, x => x
  | n + 1, x => crcBit (iterB n x)
theorem iter_lt {x : Nat} (h : x < 4294967296) : ∀ n, iterB n x < 4294967296
  | 0 => h
  | n + 1 => bit_lt (iter_lt h n)
theorem byte_eq (x c : Nat) : crcByte x c = iterB 8 (x ^^^ c) := rfl
def crcBytes (l : List UInt8) (x : Nat) : Nat := l.foldl (fun x c => crcByte x c.toNat) x
theorem byte_lt {x : Nat} (h : x < 4294967296) (c : UInt8) : crcByte x c.toNat < 4294967296 := by
  rw [byte_eq]; exact iter_lt (xor_lt h (by have := c.toNat_lt; omega)) 8
theorem bytes_lt : ∀ (l : List UInt8) (x : Nat), x < 4294967296 → crcBytes l x < 4294967296
  | [], x, h => h
  | c :: l, x, h => bytes_lt l _ (byte_lt h c)
def up (ss : Nat → ByteArray) : Nat → Nat
  | 0 => 4294967295
  | k + 1 => crcBytes (ss k).data.toList (up ss k)
theorem up_lt (ss : Nat → ByteArray) : ∀ k, up ss k < 4294967296
  | 0 => by show 4294967295 < 4294967296; decide
  | k + 1 => bytes_lt _ _ (up_lt ss k)
theorem bytes_snoc (s : ByteArray) (j x : Nat) (h : j < s.size) : crcBytes (s.data.toList.take (j + 1)) x = crcByte (crcBytes (s.data.toList.take j) x) s[j].toNat := by
  unfold crcBytes
  rw [List.take_succ_eq_append_getElem (by simpa using h), List.foldl_append]; rfl
theorem ret32 {k : IntKind} {a b : Int} (h : a = b) : Ending.returned (.int k a) = .returned (.int k b) := by rw [h]
end SumOf
open SumOf
open Go.Xe (crcBit crcByte)
set_option maxHeartbeats 1600000 in
theorem Tryz.sumOf_walk (b o n cap : Nat) (ss : Nat → ByteArray) (w : World) (hn : n ≤ 9223372036854775807) (hc : ∀ j, j < n → w.cell? ⟨b, o + j, none⟩ = some (.string (ss j))) (hs : ∀ j, (ss j).size ≤ 9223372036854775807) :
    Calls Tryz.prog 131 #[.slice (some ⟨b, o, none⟩) n cap] w fun e w' => e = .returned (.int .u32 ((4294967295 ^^^ up ss n : Nat) : Int)) ∧ w' = w := by
  have HC : Aside (∀ j, j < n → w.cell? ⟨b, o + j, none⟩ = some (.string (ss j))) := hc
  have HS : Aside (∀ j, (ss j).size ≤ 9223372036854775807) := hs
  clear hc hs
  go_enter Tryz.func131, Tryz.ntmps131
  go_wp2
  go_loopg [3, 10] n (fun g s3 s10 wx => ∃ k x : Nat, k + g = n ∧ Aside (x = up ss k) ∧ s10 = .int .i64 k ∧ s3 = .int .u32 (x : Nat) ∧ w = wx)
  case atStart => exact ⟨0, 4294967295, by omega, rfl, rfl, rfl, rfl⟩
  case round =>
    obtain ⟨k, x, hkg, HX, rfl, rfl, rfl⟩ := hrel
    have hx : x < 4294967296 := by rw [HX.out]; exact up_lt ss k
    cases gk with
    | zero =>
      have hkz : ¬ ((k : Int) < (n : Int)) := by omega
      go_wp2
      go_ret
      refine ⟨ret32 ?_, rfl⟩
      have : k = n := by omega
      subst this
      rw [← HX.out, show IntKind.u32.max = ((4294967295 : Nat) : Int) from rfl, bits_xor32 _ _ (by omega) hx]
    | succ gk =>
      have hlt : (k : Int) < (n : Int) := by omega
      have hcell := HC.out k (by omega)
      have hsz := HS.out k
      obtain ⟨s, hs⟩ : ∃ s, ss k = s := ⟨_, rfl⟩
      rw [hs] at hcell hsz
      have HK : Aside (ss k = s) := hs
      clear hs
      go_wp2
      go_loopg [3, 16] s.size (fun g s3 s16 wx => ∃ j y : Nat, j + g = s.size ∧ Aside (y = crcBytes (s.data.toList.take j) x) ∧ s16 = .int .i64 j ∧ s3 = .int .u32 (y : Nat) ∧ w = wx)
      case atStart => exact ⟨0, x, by omega, rfl, rfl, rfl, rfl⟩
      case round =>
        obtain ⟨j, y, hjg, HY, rfl, rfl, rfl⟩ := hrel
        have hy : y < 4294967296 := by rw [HY.out]; exact bytes_lt _ _ hx
        cases gk with
        | zero =>
          have hjz : ¬ ((j : Int) < (s.size : Int)) := by omega
          go_wp2
          go_roundg gk
          case measure => omega
          case rel =>
            refine ⟨k + 1, y, by omega, ?_, by first | rfl | simp, rfl, rfl⟩
            show y = up ss (k + 1)
            rw [HY.out, List.take_of_length_le (by simp; omega)]
            show _ = crcBytes (ss k).data.toList (up ss k)
            rw [HK.out, ← HX.out]
        | succ gj =>
          have hlj : (j : Int) < (s.size : Int) := by omega
          have hljn : j < s.size := by omega
          have hby : s[j].toNat < 256 := s[j].toNat_lt
          have hmod : ((s[j].toNat : Nat) : Int) % 4294967296 = ((s[j].toNat : Nat) : Int) := by omega
          go_wp2
          go_loopg [3, 25] 8 (fun g s3 s25 wx => ∃ i z : Nat, i + g = 8 ∧ Aside (z = iterB i (y ^^^ s[j].toNat)) ∧ s25 = .int .i64 i ∧ s3 = .int .u32 (z : Nat) ∧ w = wx)
          case atStart =>
            refine ⟨0, y ^^^ s[j].toNat, rfl, rfl, rfl, ?_, rfl⟩
            first
              | (rw [hmod, bits_xor32 _ _ hy (by omega)])
              | (rw [bits_xor32 _ _ hy (by omega)])
          case round =>
            obtain ⟨i, z, hig, HZ, rfl, rfl, rfl⟩ := hrel
            have hz : z < 4294967296 := by rw [HZ.out]; exact iter_lt (xor_lt hy (by omega)) i
            cases gk with
            | zero =>
              have hiz : ¬ ((i : Int) < 8) := by omega
              go_wp2
              go_roundg gj
              case measure => omega
              case rel =>
                refine ⟨j + 1, z, by omega, ?_, by first | rfl | simp, rfl, rfl⟩
                show z = crcBytes (s.data.toList.take (j + 1)) x
                rw [bytes_snoc s j x hljn, ← HY.out, byte_eq, HZ.out, show i = 8 by omega]
            | succ gi =>
              have hli : (i : Int) < 8 := by omega
              have ha := bits_and32 z hz
              have HA : Aside (bits .and .u32 (z : Int) 1 = ((z % 2 : Nat) : Int)) := ha
              clear ha
              go_wp2
              · rename_i hb
                rw [HA.out] at hb
                have h1 : z % 2 = 1 := by have := of_decide_eq_true hb; omega
                go_roundg gi
                case measure => omega
                case rel =>
                  refine ⟨i + 1, crcBit z, by omega, ?_, by first | rfl | simp, ?_, rfl⟩
                  · show crcBit z = iterB (i + 1) _
                    rw [HZ.out]; rfl
                  · rw [bit_one h1, show ((z : Int) / 2) = ((z / 2 : Nat) : Int) by omega, show (3988292384 : Int) = ((3988292384 : Nat) : Int) from rfl, bits_xor32 _ _ (by omega) (by omega)]
              · rename_i hb
                rw [HA.out] at hb
                have h1 : z % 2 = 0 := by have := of_decide_eq_false hb; omega
                go_roundg gi
                case measure => omega
                case rel =>
                  refine ⟨i + 1, crcBit z, by omega, ?_, by first | rfl | simp, ?_, rfl⟩
                  · show crcBit z = iterB (i + 1) _
                    rw [HZ.out]; rfl
                  · rw [bit_zero h1, show ((z : Int) / 2) = ((z / 2 : Nat) : Int) by omega]
set_option maxHeartbeats 400000 in
theorem Tryz.sumOf_nil (w : World) : Calls Tryz.prog 131 #[.slice none 0 0] w fun e w' => e = .returned (.int .u32 0) ∧ w' = w := by
  go_enter Tryz.func131, Tryz.ntmps131
  go_wp2
  go_loop [3, 10] (fun c i => i = .int .i64 0 ∧ c = .int .u32 4294967295) (fun _ _ => 0)
  case atStart => exact ⟨rfl, rfl⟩
  case round =>
    obtain ⟨rfl, rfl⟩ := hrel
    go_wp2
    go_ret
    exact ⟨ret32 (by decide), rfl⟩
end Go.Proofs
