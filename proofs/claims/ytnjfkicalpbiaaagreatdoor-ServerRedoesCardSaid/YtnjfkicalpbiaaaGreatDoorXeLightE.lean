/-
  THE OPERATIONS THAT TURN NOTHING (the fifth part): pieces, places, maps, lengths.
-/
import Derived.Test.YtnjfkicalpbiaaaGreatDoorXeLightD
import Derived.Lib.Strings
set_option linter.unusedVariables false
set_option linter.unusedSimpArgs false
set_option linter.unnecessarySimpa false
namespace Go.Xe
open Go.RowKit
theorem strB_drop : ∀ (L i n : Nat), i ≤ L → (strB L n).drop i = strB (L - i) (n / 256 ^ i)
  | L, 0, n, _ => by simp
  | 0, i + 1, n, h => by omega
  | L + 1, i + 1, n, h => by
    show (strB L (n / 256)).drop i = _
    rw [strB_drop L i (n / 256) (by omega), Nat.div_div_eq_div_mul, Nat.pow_succ, Nat.mul_comm 256]
    congr 1; omega
theorem strB_take : ∀ (L k n : Nat), k ≤ L → (strB L n).take k = strB k (n % 256 ^ k)
  | L, 0, n, _ => by simp [strB]
  | 0, k + 1, n, h => by omega
  | L + 1, k + 1, n, h => by
    have h1 : n % 256 ^ (k + 1) % 256 = n % 256 := Nat.mod_mod_of_dvd n (by rw [Nat.pow_succ]; exact Nat.dvd_mul_left ..)
    have h2 : n % 256 ^ (k + 1) / 256 = n / 256 % 256 ^ k := by
      rw [Nat.pow_succ, Nat.mul_comm, Nat.mod_mul_right_div_self]
    show ((n % 256).toUInt8 :: (strB L (n / 256)).take k) = (n % 256 ^ (k + 1) % 256).toUInt8 :: strB k (n % 256 ^ (k + 1) / 256)
    rw [strB_take L k (n / 256) (by omega), h1, h2]
theorem sSub_eq (n i l : Nat) : sSub n i l = n / 256 ^ i % 256 ^ l := by
  unfold sSub
  show n >>> (8 * i) % 2 ^ (8 * l) = _
  rw [Nat.shiftRight_eq_div_pow, Nat.pow_mul, Nat.pow_mul]
theorem sAt_eq (n i : Nat) : sAt n i = n / 256 ^ i % 256 := by
  unfold sAt
  show n >>> (8 * i) % 256 = _
  rw [Nat.shiftRight_eq_div_pow, Nat.pow_mul]
theorem strB_get : ∀ (L i n : Nat), i < L → (strB L n)[i]? = some (n / 256 ^ i % 256).toUInt8
  | 0, i, n, h => by omega
  | L + 1, 0, n, _ => by simp [strB]
  | L + 1, i + 1, n, h => by
    show (strB L (n / 256))[i]? = _
    rw [strB_get L i (n / 256) (by omega), Nat.div_div_eq_div_mul, Nat.pow_succ, Nat.mul_comm 256]
theorem sub_R {ρ : Rho} {φ : Phi} {L n l h : Nat} {s : ByteArray} (k : VR ρ φ (.s L n) (.string s)) (h1 : l ≤ h) (h2 : h ≤ L) : VR ρ φ (.s (h - l) (sSub n l (h - l))) (.string (s.extract l h)) := by
  obtain ⟨_, e, k1, k2⟩ := k; cases e
  refine ⟨_, rfl, ?_, ?_⟩
  · rw [Lib.extract_data, k1, strB_drop _ _ _ (by omega), strB_take _ _ _ (by omega), sSub_eq]
  · rw [sSub_eq]; exact Nat.mod_lt _ (Nat.pos_of_ne_zero (by simp))
section
variable {C : Cxt} {x : Cx}
theorem lSlice_ok {t : TypeId} {p : Operand} {lo hi mx : Option Operand} {q : Light} (h : lSlice C.P x t p lo hi mx = .mk q) : LightOK C x (.slice t p lo hi mx) q := by
  unfold lSlice at h
  split at h
  · cases h
  rename_i f hf
  split at h
  · cases h
  rename_i fa hfa
  split at h
  · cases h
  rename_i fb hfb
  split at h
  · cases h
  split at h
  · rename_i hu
    cases h
    intro φ S w L F a v R E hs o' ho
    have kf := ev_some E hf
    have ka := evo_some E hfa
    have kb := evo_some E hfb
    dsimp only at hs
    unfold slStr at hs
    split at hs
    · rename_i l n hv; rw [hv] at kf
      split at hs
      · rename_i q hq
        cases hs
        obtain ⟨s, e, k1⟩ := kf
        have hsz := str_size (ρ := C.ρ) (φ := φ) ⟨s, rfl, k1⟩
        obtain ⟨hr, h1, h2⟩ := bounds_run (P := C.P) (w := w) (cap := l) false hq (Nat.le_refl _) ka kb
        refine ⟨.string (s.extract q.1 q.2), ?_, ?_⟩
        · simp only [execOp, ho, e]
          refine lay_v ?_
          simp only [Instr.sliceAt, Sem.run_bind, run_underlying hu, Result.andThen_ok, Instr.slice, hsz, Option.map_none]
          simp [hr]
        · simp only [frc_eq, Nat.sub_eq, Nat.add_eq, Nat.mul_eq]
          exact sub_R ⟨s, rfl, k1⟩ h1 h2
      · cases hs
    · rename_i l hv; rw [hv] at kf
      split at hs
      · rename_i q hq
        cases hs
        obtain ⟨s, e, k1, k2⟩ := kf
        have hsz := txt_size k1
        obtain ⟨hr, h1, h2⟩ := bounds_run (P := C.P) (w := w) (cap := l.length) false hq (Nat.le_refl _) ka kb
        refine ⟨.string (s.extract q.1 q.2), ?_, ?_⟩
        · simp only [execOp, ho, e]
          refine lay_v ?_
          simp only [Instr.sliceAt, Sem.run_bind, run_underlying hu, Result.andThen_ok, Instr.slice, hsz, Option.map_none]
          simp [hr]
        · refine mkTxt_R (okL_take (okL_drop k2 _) _) ?_
          rw [Lib.extract_data, List.map_take, List.map_drop, k1, List.map_take, List.map_drop]
          rfl
      · cases hs
    · cases hs
  · rename_i e hu
    split at h
    · cases h
    rename_i sz hsz
    cases h
    intro φ S w L F a v R E hs o' ho
    have kf := ev_some E hf
    have ka := evo_some E hfa
    have kb := evo_some E hfb
    dsimp only at hs
    unfold slSl at hs
    split at hs
    · rename_i hv; rw [hv] at kf
      have kf : a.eval p = .slice none 0 0 := kf
      split at hs
      · rename_i q hq
        cases hs
        obtain ⟨hr, h1, h2⟩ := bounds_run (P := C.P) (w := w) (cap := 0) true hq (Nat.le_refl _) ka kb
        have e1 : q.1 = 0 := by omega
        have e2 : q.2 = 0 := by omega
        rw [e1, e2] at hr
        refine ⟨.slice none 0 0, ?_, rfl⟩
        simp only [execOp, ho, kf]
        refine lay_v ?_
        simp only [Instr.sliceAt, Sem.run_bind, run_underlying hu, Result.andThen_ok, Instr.slice, Option.map_none, hr, run_sizeOf' hsz]
        simp
      · cases hs
    · rename_i B o len z hv; rw [hv] at kf
      split at hs
      · rename_i hz
        have hz := beq_eq hz
        subst hz
        split at hs
        · rename_i q hq
          cases hs
          obtain ⟨r, off, cap, hr0, e1, hl, hzz⟩ := kf
          obtain ⟨hr, h1, h2⟩ := bounds_run (P := C.P) (w := w) (cap := cap) true hq hl ka kb
          refine ⟨.slice (if cap = q.1 then some ⟨r.b, off, none⟩ else some ⟨r.b, off + q.1 * z, none⟩) (q.2 - q.1) (cap - q.1), ?_, ?_⟩
          · simp only [execOp, ho, e1]
            refine lay_v ?_
            simp only [Instr.sliceAt, Sem.run_bind, run_underlying hu, Result.andThen_ok, Instr.slice, Option.map_none, hr, run_sizeOf' hsz]
            simp [add_none]
          · simp only [frc_eq, Nat.sub_eq, Nat.add_eq, Nat.mul_eq]
            by_cases hc : cap = q.1
            · rw [if_pos hc]
              exact ⟨r, off, cap - q.1, hr0, rfl, by omega, fun hp => by omega⟩
            · rw [if_neg hc]
              refine ⟨r, off + q.1 * z, cap - q.1, hr0, rfl, by omega, fun hp => ?_⟩
              obtain ⟨g1, g2, g3⟩ := hzz (by omega)
              refine ⟨by show r.sh ≤ o + q.1 * z; omega, by show _ = o + q.1 * z - r.sh; omega, ?_⟩
              have : q.1 * z + (cap - q.1) * z = cap * z := by rw [← Nat.add_mul]; congr 1; omega
              omega
        · cases hs
      · cases hs
    · cases hs
  · rename_i len e hu
    split at h
    · cases h
    rename_i sz hsz
    cases h
    intro φ S w L F a v R E hs o' ho
    have kf := ev_some E hf
    have ka := evo_some E hfa
    have kb := evo_some E hfb
    dsimp only at hs
    unfold slAr at hs
    split at hs
    · rename_i B o hv; rw [hv] at kf
      split at hs
      · rename_i q hq
        split at hs
        · rename_i c lo' n fz hB
          split at hs
          · rename_i hc
            obtain ⟨c1, c2⟩ := and_true hc
            have c1 := ble_le c1
            have c2 : o + len * sz ≤ n := ble_le c2
            cases hs
            obtain ⟨r, hr0, hsh, e1⟩ := kf
            obtain ⟨r', hr', hobj⟩ := R.obj B _ hB
            rw [hr0] at hr'; cases hr'
            obtain ⟨cs, fr, _, _, g1, g2, _, _⟩ := hobj
            obtain ⟨hr, h1, h2⟩ := bounds_run (P := C.P) (w := w) (cap := len) false hq (Nat.le_refl _) ka kb
            refine ⟨.slice (some (if len = q.1 then ⟨r.b, o - r.sh, none⟩ else ⟨r.b, o - r.sh + q.1 * sz, none⟩)) (q.2 - q.1) (len - q.1), ?_, ?_⟩
            · simp only [execOp, ho, e1]
              refine lay_v ?_
              simp only [Instr.sliceAt, Sem.run_bind, run_underlying hu, Result.andThen_ok, Instr.sureAddr, Option.map_none, Sem.run_pure, hr, run_sizeOf' hsz]
              simp [add_none]
            · simp only [frc_eq, Nat.sub_eq, Nat.add_eq, Nat.mul_eq]
              by_cases hcc : len = q.1
              · rw [if_pos hcc]
                exact ⟨r, o - r.sh, len - q.1, hr0, rfl, by omega, fun hp => by omega⟩
              · rw [if_neg hcc]
                refine ⟨r, o - r.sh + q.1 * sz, len - q.1, hr0, rfl, by omega, fun hp => ?_⟩
                refine ⟨by show r.sh ≤ o + q.1 * sz; omega, by show _ = o + q.1 * sz - r.sh; omega, ?_⟩
                have : q.1 * sz + (len - q.1) * sz = len * sz := by rw [← Nat.add_mul]; congr 1; omega
                omega
          · cases hs
        · cases hs
      · cases hs
    · cases hs
  · cases h
theorem lIndex_ok {t : TypeId} {p i : Operand} {q : Light} (h : lIndex C.P x t p i = .mk q) : LightOK C x (.index t p i) q := by
  unfold lIndex at h
  split at h
  · cases h
  rename_i f hf
  split at h
  · cases h
  rename_i g hg
  split at h
  · rename_i hu
    cases h
    intro φ S w L F a v R E hs o' ho
    have kf := ev_some E hf
    have kg := ev_some E hg
    dsimp only at hs
    unfold ixStr at hs
    split at hs
    · rename_i l n hv; rw [hv] at kf
      split at hs
      · rename_i ix hix
        obtain ⟨kd, ei⟩ := nat?_R hix kg
        split at hs
        · rename_i hc
          have hc := blt_lt hc
          cases hs
          obtain ⟨s, e, k1, k2⟩ := kf
          have hget : s[ix]? = some (n / 256 ^ ix % 256).toUInt8 := by
            have := strB_get l ix n hc
            rw [← k1] at this
            rw [show s[ix]? = s.data.toList[ix]? from ?_, this]
            · have hsz : ix < s.size := by rw [str_size (ρ := C.ρ) (φ := φ) ⟨s, rfl, k1, k2⟩]; exact hc
              rw [getElem?_pos s ix hsz]
              have hsz' : ix < s.data.toList.length := by simpa using hsz
              rw [List.getElem?_eq_getElem hsz']
              rfl
          refine ⟨.int .u8 ((n / 256 ^ ix % 256).toUInt8.toNat), ?_, ?_⟩
          · simp only [execOp, ho, e, ei]
            refine lay_v ?_
            simp [Instr.index, asIntOf, run_underlying hu, hget]
          · rw [frc_eq, sAt_eq]
            have : (n / 256 ^ ix % 256).toUInt8.toNat = n / 256 ^ ix % 256 := by
              simp [Nat.toUInt8, UInt8.toNat_ofNat']
            rw [this]; rfl
        · cases hs
      · cases hs
    · rename_i l hv; rw [hv] at kf
      split at hs
      · rename_i ix hix
        obtain ⟨kd, ei⟩ := nat?_R hix kg
        split at hs
        · rename_i b hb
          cases hs
          rw [nth_get] at hb
          obtain ⟨s, e, k1, k2⟩ := kf
          have hm : (s.data.toList.map UInt8.toNat)[ix]? = some (b.val C.ρ) := by rw [k1, List.getElem?_map, hb]; rfl
          rw [List.getElem?_map, Option.map_eq_some_iff] at hm
          obtain ⟨c, hc, hcv⟩ := hm
          have hget : s[ix]? = some c := by
            have hsz' : ix < s.data.toList.length := (List.getElem?_eq_some_iff.1 hc).1
            have hsz : ix < s.size := by simpa using hsz'
            rw [getElem?_pos s ix hsz]
            rw [List.getElem?_eq_getElem hsz'] at hc
            rw [← hc]; rfl
          refine ⟨.int .u8 c.toNat, ?_, cellB_R (k2 _ (List.mem_of_getElem? hb)) hcv⟩
          simp only [execOp, ho, e, ei]
          refine lay_v ?_
          simp [Instr.index, asIntOf, run_underlying hu, hget]
        · cases hs
      · cases hs
    · cases hs
  · rename_i len e hu
    split at h
    · rename_i hg1
      split at h
      · rename_i hsz
        cases h
        intro φ S w L F a v R E hs o' ho
        have kf := ev_some E hf
        have kg := ev_some E hg
        dsimp only at hs
        unfold ixAgg at hs
        split at hs
        · rename_i l hv; rw [hv] at kf
          split at hs
          · rename_i ix hix
            obtain ⟨kd, ei⟩ := nat?_R hix kg
            split at hs
            · rename_i hc
              have hc := blt_lt hc
              obtain ⟨cs, e1, k⟩ := kf
              obtain ⟨X, hX, kX⟩ := partB_run (w := w) (P := C.P) (t := e) (off := ix) (p := fun l => nth l ix) (by unfold partB; rw [hg1]) hs k
              refine ⟨X, ?_, kX⟩
              simp only [execOp, ho, e1, ei]
              refine lay_v ?_
              simp [Instr.index, asIntOf, run_underlying hu, hc, run_sizeOf' hsz, hX]
            · cases hs
          · cases hs
        · cases hs
      · cases h
    · cases h
  · cases h
end
end Go.Xe
