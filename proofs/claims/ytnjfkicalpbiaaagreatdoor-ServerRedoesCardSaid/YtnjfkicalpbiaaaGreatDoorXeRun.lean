/-
  THE MODEL's SMALL STEPS OVER A WORLD OF WHICH THE EXECUTOR's HEAP SPEAKS: types, loads, stores.
-/
import Derived.Test.YtnjfkicalpbiaaaGreatDoorXeEnv
import Derived.Laws.Cells
import Derived.Laws.Entries
import Derived.Laws.CopyRow
import Derived.Lib.FrozenHead
set_option linter.unusedVariables false
set_option linter.unusedSimpArgs false
set_option linter.unnecessarySimpa false
namespace Go.Xe
open Go.RowKit
theorem add_none (b o n : Nat) : (⟨b, o, none⟩ : Addr).add n = ⟨b, o + n, none⟩ := by
  unfold Addr.add; split
  · rename_i h; simp [h]
  · rfl
section
variable {P : Program}
theorem szB_some {t n : Nat} (h : szB P t = .mk n) : ∃ i, P.info? t = some i ∧ i.size = n := by
  unfold szB at h; split at h
  · rename_i i hi; cases h; exact ⟨i, hi, rfl⟩
  · cases h
theorem run_sizeOf' {t n : Nat} (h : szB P t = .mk n) (w : World) : (sizeOf t).run P w = .ok n w := by
  obtain ⟨i, hi, rfl⟩ := szB_some h
  simp [sizeOf, typeInfo, hi]
theorem run_isAg {t : Nat} {g : Bool} (h : isAg P t = .mk g) (w : World) : (isAgg t).run P w = .ok g w := by
  unfold isAg at h
  split at h
  · rename_i fs hu; cases h; simp [isAgg, run_underlying hu]
  · rename_i n e hu; cases h; simp [isAgg, run_underlying hu]
  · rename_i d h1 h2 hu
    cases h
    simp only [isAgg, Sem.run_bind, run_underlying hu, Result.andThen_ok]
    cases d <;> first | rfl | (exact absurd rfl (h1 _)) | (exact absurd rfl (h2 _ _))
  · cases h
theorem zeroB_some {t : Nat} {v : V} (h : zeroB P t = .mk v) : ∃ z, (∀ w, (zeroValue t).run P w = .ok z w) ∧ cv z = some v := by
  unfold zeroB at h
  split at h
  · rename_i i hi
    split at h
    · rename_i z hz
      split at h
      · rename_i x hx; cases h
        exact ⟨z, fun w => by simp [zeroValue, typeInfo, hi, hz], hx⟩
      · cases h
    · cases h
  · cases h
theorem slElB_some {t e : Nat} (h : slElB P t = .mk e) : P.underlying t = some (.slice e) := by
  unfold slElB at h
  split at h
  · rename_i e' hu; cases h; exact hu
  · cases h
theorem fieldB_some {t i : Nat} {f : Field} (h : fieldB P t i = .mk f) : ∃ fs, P.underlying t = some (.struct fs) ∧ fs[i]? = some f := by
  unfold fieldB at h
  split at h
  · rename_i fs hu
    split at h
    · rename_i g hg; cases h
      rw [nth_get] at hg
      exact ⟨fs, hu, by simpa using hg⟩
    · cases h
  · cases h
end
section
variable {C : Cxt} {φ : Phi} {S : St} {w : World}
theorem Rel.cell (R : Rel C φ S w) {B : Nat} {c : T V} {lo n : Nat} {fz : Z} {q : Q} (hB : S.heap.get B = some (.row c lo n fz)) (hq : φ B = some q) {o : Nat} (h1 : lo ≤ o) (h2 : o < n) :
    ∃ v y, c.get o = some v ∧ w.cell? ⟨q.b, o - q.sh, none⟩ = some y ∧ VR C.ρ φ v y ∧ Scalar y := by
  obtain ⟨q', hq', ho⟩ := R.obj B _ hB
  rw [hq] at hq'; cases hq'
  obtain ⟨cs, fr, h3, h4, h5, h6, h7, h8⟩ := ho
  obtain ⟨v, y, k1, k2, k3, k4⟩ := h8 o h1 h2
  exact ⟨v, y, k1, by simp [World.cell?, h3, k2], k3, k4⟩
theorem Rel.cells (R : Rel C φ S w) {B : Nat} {c : T V} {lo n : Nat} {fz : Z} {q : Q} (hB : S.heap.get B = some (.row c lo n fz)) (hq : φ B = some q) {o : Nat} (h1 : lo ≤ o) :
    ∀ {k : Nat} {l : List V}, o + k ≤ n → rd c k o = some l →
    ∃ ys : List Value, VRL C.ρ φ l ys ∧ ys.length = k ∧ (∀ j y, ys[j]? = some y → w.cell? ⟨q.b, o - q.sh + j, none⟩ = some y) ∧ ∀ y ∈ ys, Scalar y := by
  intro k
  obtain ⟨q', hq', ho⟩ := R.obj B _ hB
  rw [hq] at hq'; cases hq'
  obtain ⟨cs, fr, h3, h4, h5, h6, h7, h8⟩ := ho
  clear hB
  induction k generalizing o with
  | zero => intro l _ h; simp [rd] at h; subst h; exact ⟨[], rfl, rfl, fun j y h => by simp at h, fun y h => by cases h⟩
  | succ k ih =>
    intro l hn h
    simp only [rd] at h
    split at h
    · cases h
    · rename_i v hv
      split at h
      · cases h
      · rename_i r hr
        cases h
        obtain ⟨ys, k1, k2, k3, k4⟩ := ih (o := o + 1) (by omega) (by omega) hr
        obtain ⟨v', y, g1, g2, g3, g4⟩ := h8 o h1 (by omega)
        rw [hv] at g1; cases g1
        refine ⟨y :: ys, ⟨y, ys, rfl, g3, k1⟩, by simp [k2], fun j z hz => ?_, fun z hz => ?_⟩
        · cases j with
          | zero => simp at hz; subst hz; simp [World.cell?, h3, g2]
          | succ j =>
            have := k3 j z (by simpa using hz)
            rwa [show o + 1 - q.sh + j = o - q.sh + (j + 1) by omega] at this
        · cases hz with
          | head => exact g4
          | tail _ hz => exact k4 z hz
theorem run_loadAt {t : Nat} {g : Bool} {n : Nat} (hg : isAg C.P t = .mk g) (hn : szB C.P t = .mk n) (hgn : (g || Nat.beq n 1) = true) (R : Rel C φ S w) {v : V} {X : Value} (k : VR C.ρ φ v X) {r : V} (h : ldv g n v S = some r) :
    ∃ Y, (Instr.loadAt t X).run C.P w = .ok Y w ∧ VR C.ρ φ r Y := by
  unfold ldv at h
  split at h
  rotate_left
  · cases h
  rename_i B o
  obtain ⟨q, hq, hsh, rfl⟩ := k
  split at h
  rotate_left
  · cases h
  rename_i c lo m fz hB
  split at h
  rotate_left
  · cases h
  rename_i hb
  obtain ⟨b1, b2⟩ := and_true hb
  have b1 : lo ≤ o := by simpa using b1
  have b2 : o + n ≤ m := by simpa using b2
  have hrun : (Instr.loadAt t (.pointer (some ⟨q.b, o - q.sh, none⟩))).run C.P w = (loadVar t ⟨q.b, o - q.sh, none⟩).run C.P w := by simp [Instr.loadAt, Instr.sureAddr]
  rw [hrun]
  cases g with
  | true =>
    simp only [ldc] at h
    split at h
    · rename_i l hl
      cases h
      obtain ⟨ys, k1, k2, k3, k4⟩ := R.cells hB hq b1 b2 hl
      refine ⟨.agg ys.toArray, ?_, ⟨ys.toArray, rfl, k1⟩⟩
      simp only [loadVar, Sem.run_bind, run_isAg hg, Result.andThen_ok, if_true, run_sizeOf' hn]
      have := run_loadCells_list (P := C.P) (w := w) ⟨q.b, o - q.sh, none⟩ ys (fun j y hy => by rw [add_none]; exact k3 j y hy)
      rw [k2] at this
      simp [this]
    · cases h
  | false =>
    simp only [ldc] at h
    have hn1 : n = 1 := by simpa using hgn
    obtain ⟨v', y, g1, g2, g3, g4⟩ := R.cell hB hq b1 (by omega)
    rw [h] at g1; cases g1
    refine ⟨y, ?_, g3⟩
    simp [loadVar, run_isAg hg, g2]
end
end Go.Xe
