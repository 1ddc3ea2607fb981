/-
  THE OPERATIONS THAT TURN THE HEAP (the second part): literals, stores, makes, bytes of texts.
-/
import Derived.Test.YtnjfkicalpbiaaaGreatDoorXeHeavy
set_option linter.unusedVariables false
set_option linter.unusedSimpArgs false
set_option linter.unnecessarySimpa false
namespace Go.Xe
open Go.RowKit
theorem setCells_heap (b : Nat) : ∀ (vs : List Value) (o : Nat) (w : World) (cs : Array Value) (e : TypeId) (fr : Nat × Nat), w.heap[b]? = some (.cells cs e fr) → o + vs.length ≤ cs.size →
    ∃ cs' : Array Value, (w.setCells b o vs).heap[b]? = some (.cells cs' e fr) ∧ cs'.size = cs.size ∧ ∀ i : Nat, cs'[i]? = if o ≤ i ∧ i < o + vs.length then vs[i - o]? else cs[i]?
  | [], o, w, cs, e, fr, h, _ => ⟨cs, h, rfl, fun i => by rw [if_neg (by simp)]⟩
  | v :: vs, o, w, cs, e, fr, h, hl => by
    simp only [List.length_cons] at hl
    have h1 : (w.setCell ⟨b, o, none⟩ v).heap[b]? = some (.cells (cs.setIfInBounds o v) e fr) := by
      simp only [World.setCell, Array.getElem?_modify]
      simp [h]
    obtain ⟨cs', k1, k2, k3⟩ := setCells_heap b vs (o + 1) _ (cs.setIfInBounds o v) e fr h1 (by simp; omega)
    refine ⟨cs', k1, by simpa using k2, fun i => ?_⟩
    rw [k3 i]
    by_cases hc : o + 1 ≤ i ∧ i < o + 1 + vs.length
    · rw [if_pos hc, if_pos (by simp; omega), show i - o = (i - (o + 1)) + 1 by omega]; simp
    · rw [if_neg hc]
      by_cases he : i = o
      · subst he
        have : i < cs.size := by omega
        rw [if_pos (by simp)]; simp [this]
      · rw [if_neg (by simp; omega), Array.getElem?_setIfInBounds_ne (by omega)]
theorem setCells_other (b : Nat) : ∀ (vs : List Value) (o : Nat) (w : World) (k : Nat), k ≠ b → (w.setCells b o vs).heap[k]? = w.heap[k]?
  | [], _, _, _, _ => rfl
  | v :: vs, o, w, k, h => by rw [World.setCells, setCells_other b vs _ _ k h, Below.heap_setCell _ _ _ _ h]
theorem setCells_size (b : Nat) : ∀ (vs : List Value) (o : Nat) (w : World), (w.setCells b o vs).heap.size = w.heap.size
  | [], _, _ => rfl
  | v :: vs, o, w => by rw [World.setCells, setCells_size b vs, World.size_setCell]
theorem setCells_io (b : Nat) : ∀ (vs : List Value) (o : Nat) (w : World), Io w (w.setCells b o vs)
  | [], _, _ => ⟨rfl, rfl, rfl⟩
  | v :: vs, o, w => by
    have h := setCells_io b vs (o + 1) (w.setCell ⟨b, o, none⟩ v)
    exact ⟨h.os, h.tape, h.output⟩
theorem frR_free {fz n sh sz : Nat} {fr : Nat × Nat} (h : frR fz n sh sz fr) (hz : fz < 2) (i : Nat) (hi : i < sz) {w : World} {b : Nat} {cs : Array Value} {e : TypeId} (hw : w.heap[b]? = some (.cells cs e fr)) : w.frozen? ⟨b, i, none⟩ = false := by
  have : fr = (0, 0) ∨ fr = (sz, sz + 1) := by
    match fz, hz, h with
    | 0, _, h => exact .inl h
    | 1, _, h => exact h
  rcases this with rfl | rfl
  · simp [World.frozen?, hw]
  · simp [World.frozen?, hw]; omega
section
variable {C : Cxt} {x : Cx}
/-- cells written into a row -/
theorem Rel.write {φ : Phi} {S : St} {w : World} (R : Rel C φ S w) {B : Nat} {c : T V} {lo n : Nat} {fz : Z} {q : Q} (hB : S.heap.get B = some (.row c lo n fz)) (hq : φ B = some q) (hz : fz.k < 2) {o : Nat} {l : List V} {ys : List Value} (h1 : lo ≤ o) (h2 : o + l.length ≤ n)
    (k : VRL C.ρ φ l ys) (hs : ∀ y ∈ ys, Scalar y) :
    (storeCells ⟨q.b, o - q.sh, none⟩ ys).run C.P w = .ok () (w.setCells q.b (o - q.sh) ys) ∧ Rel C φ ⟨S.heap.put B (some (.row (wr c o l) lo n fz)), S.next⟩ (w.setCells q.b (o - q.sh) ys) := by
  obtain ⟨q', hq', ho⟩ := R.obj B _ hB
  rw [hq] at hq'; cases hq'
  obtain ⟨cs, fr, g1, g2, g3, g4, g5, g6⟩ := ho
  have hlen := k.length
  have hin : o - q.sh + ys.length ≤ cs.size := by rw [g2, hlen]; omega
  constructor
  · have := run_storeCells_cells (P := C.P) q.b (o - q.sh) ys 0 w (fun j hj => by
        have : o - q.sh + 0 + j < cs.size := by omega
        simp [World.cell?, g1]; omega) (fun j hj => frR_free g5 hz _ (by rw [← g2]; omega) g1) hs
    simpa using this
  · obtain ⟨cs', k1, k2, k3⟩ := setCells_heap q.b ys (o - q.sh) w cs fz.ty fr g1 hin
    refine R.turn hB hq (setCells_io ..) (setCells_size ..) (fun b hb => setCells_other _ _ _ _ _ hb) ?_
    refine ⟨cs', fr, k1, k2.trans g2, g3, g4, g5, fun i hi hn => ?_⟩
    rw [k3, wr_get]
    by_cases hc : o ≤ i ∧ i < o + l.length
    · rw [if_pos hc, if_pos (by omega)]
      have hv : l[i - o]? = some (l[i - o]'(by omega)) := List.getElem?_eq_getElem (by omega)
      obtain ⟨y, e1, e2⟩ := k.get hv
      refine ⟨_, y, hv, ?_, e2, hs y (List.mem_of_getElem? e1)⟩
      rw [← e1]; congr 1; omega
    · rw [if_neg hc, if_neg (by omega)]
      exact g6 i hi hn
theorem scalars {φ : Phi} {l : List V} {ys : List Value} (k : VRL C.ρ φ l ys) (hf : flat l = true) : ∀ y ∈ ys, Scalar y := by
  intro y hy
  obtain ⟨i, hi, rfl⟩ := List.mem_iff_getElem.1 hy
  have hl := k.length
  have hv : l[i]? = some (l[i]'(by omega)) := List.getElem?_eq_getElem (by omega)
  obtain ⟨z, h1, h2⟩ := k.get hv
  rw [List.getElem?_eq_getElem hi] at h1; cases h1
  exact flat1_scalar C.scal (flat_get hf _ (List.mem_of_getElem? hv)) h2
theorem hStore_ok {t : TypeId} {p v : Operand} {s : Step} (h : hStore C.P x t p v = .mk s) : HeavyOK C x (.store t p v) s := by
  unfold hStore at h
  split at h
  · cases h
  rename_i n hn
  split at h
  · cases h
  rename_i f hf
  split at h
  · cases h
  rename_i g hg
  cases h
  intro call φ S S' w L F a v' _ R E hs o ho next Q hnx
  have kf := ev_some E hf
  have kg := ev_some E hg
  dsimp only at hs
  unfold stv at hs
  split at hs
  rotate_left
  · cases hs
  rename_i B of hv; rw [hv] at kf
  split at hs
  rotate_left
  · cases hs
  rename_i c lo m fz hB
  split at hs
  rotate_left
  · cases hs
  rename_i hc
  obtain ⟨c1, hc⟩ := and_true hc
  obtain ⟨c2, hc⟩ := and_true hc
  obtain ⟨c3, hc⟩ := and_true hc
  obtain ⟨c4, c5⟩ := and_true hc
  have c1 := blt_lt c1
  have c2 := ble_le c2
  have c3 : of + n ≤ m := ble_le c3
  have c4 := beq_eq c4
  cases hs
  obtain ⟨q, hq, hsh, e⟩ := kf
  have kc := kg.cells C.scal
  rw [cellLen_eq] at c4
  have hsz : (a.eval v).cells.size = n := by have := kc.length; simp at this; omega
  obtain ⟨h1, h2⟩ := R.write hB hq c1 c2 (by omega) kc (scalars kc c5)
  refine wp_u hnx ?_ (Ext.refl φ) h2
  simp only [execOp, ho, e]
  simp [Instr.storeAt, Instr.sureAddr, storeVar, run_sizeOf' hn, hsz, h1]
theorem hBuildSl_ok {t n : Nat} {ps : Array (Nat × Operand)} {s : Step} (h : hBuildSl C.P x t n ps.toList = .mk s) : HeavyOK C x (.buildSlice t n ps) s := by
  unfold hBuildSl at h
  split at h
  · cases h
  rename_i e he
  split at h
  · cases h
  rename_i sz hsz
  split at h
  · cases h
  rename_i z hz
  split at h
  · cases h
  rename_i hc
  obtain ⟨c1, hc⟩ := and_true hc
  obtain ⟨c2, c3⟩ := and_true hc
  have c1 : n * sz ≤ 1000000 := ble_le c1
  have c2 := blt_lt c2
  have c3 := beq_eq c3
  split at h
  · cases h
  rename_i g hg
  dsimp only at h
  cases h
  obtain ⟨zv, hzr, hzc⟩ := zeroB_some hz
  intro call φ S S' w L F a v' _ R E hs o ho next Q hnx
  have kz := (cv_some (ρ := C.ρ) (φ := φ) zv hzc).cells C.scal
  have hzs : zv.cells.size = sz := by have := kz.length; simp at this; omega
  dsimp only at hs
  split at hs
  rotate_left
  · cases hs
  rename_i l hl
  split at hs
  rotate_left
  · cases hs
  rename_i hfl
  rw [mkRow_eq] at hs
  cases hs
  have hu := slElB_some he
  let place : Nat → Option (Nat × Nat) := fun i => some (i * sz, sz)
  have hp : ∀ i q, elemPl sz i = .mk q → place i = some q := by
    intro i q hq; cases hq; rfl
  have kr := rep_R (ρ := C.ρ) (φ := φ) (l := cells z) (zs := zv.cells) kz n
  obtain ⟨cs', e1, e2, e3⟩ := parts_run C.scal E hp hg hl (by rw [rep_length, c3]; rfl) kr
  obtain ⟨h1, h2⟩ := rowcells e2 hfl
  obtain ⟨φ', hx, hB, R'⟩ := R.row h1 h2 ⟨0, e⟩ (0, 0) rfl
  have hcs : cs'.size = n * sz := by have := e2.length; simp at this; rw [this, e3]; rfl
  refine wp_v (X := .slice (some ⟨w.heap.size, 0, none⟩) n n) hnx ?_ hx R' ⟨_, 0, n, hB, rfl, Nat.le_refl _, fun _ => ⟨Nat.le_refl _, rfl, by show 0 + n * sz ≤ cs'.size; omega⟩⟩
  simp only [execOp, ho]
  refine lay_w ?_
  have hlim : ¬ n * sz > 2 ^ 24 := by omega
  have hfill : ∀ g : Nat → Value, (n * sz ≠ 0 → ∀ i, g i = zv.cells[i % zv.cells.size]!) → Instr.fill (fun i => some (i * sz, sz)) ((Array.range (n * sz)).map g) (ps.map fun (i, x) => (i, a.eval x)).toList = some cs' := by
    intro g hg0
    rw [Array.toList_map]
    have : (Array.range (n * sz)).map g = (Array.range (n * zv.cells.size)).map (zv.cells[· % zv.cells.size]!) := by
      rw [hzs]
      by_cases h0 : n * sz = 0
      · rw [h0, show Array.range 0 = #[] from rfl]; simp
      · congr 1; funext i; rw [hg0 h0 i, hzs]
    rw [this]
    exact e1
  simp only [Instr.buildSlice, Sem.run_bind, run_underlying hu, Result.andThen_ok, run_sizeOf' hsz, hlim, if_false]
  by_cases h0 : n * sz = 0
  · have := hfill (fun _ => default) (fun h => absurd h0 h)
    rw [if_pos h0]
    simp at this
    simp [newRow, this]
  · have := hfill (fun i => zv.cells[i % zv.cells.size]!) (fun _ _ => rfl)
    rw [if_neg h0]
    simp only [Sem.run_bind, hzr, Result.andThen_ok, Sem.run_pure]
    simp at this
    simp [newRow, this]
theorem hMakeMap_ok {t : Nat} : HeavyOK C x (.makeMap t none) hMakeMapS := by
  intro call φ S S' w L F a v' _ R E hs o ho next Q hnx
  unfold hMakeMapS at hs
  rw [frc_eq] at hs
  cases hs
  obtain ⟨φ', hx, hB, R'⟩ := R.new (.mp []) (.map #[] 0) 0 0 fun φ' he => ⟨#[], 0, rfl, rfl, fun _ h => by simp at h, by simp⟩
  refine wp_v (X := .map (some w.heap.size)) hnx ?_ hx R' ⟨_, hB, rfl⟩
  simp only [execOp, ho]
  refine lay_w ?_
  simp [Instr.makeMap]
theorem hMakeSl_ok {t : Nat} {l c : Operand} {s : Step} (h : hMakeSl C.P x t l c = .mk s) : HeavyOK C x (.makeSlice t l c) s := by
  unfold hMakeSl at h
  split at h
  · cases h
  rename_i f hf
  split at h
  · cases h
  rename_i g hg
  split at h
  · cases h
  rename_i e he
  split at h
  · cases h
  rename_i sz hsz
  split at h
  · cases h
  rename_i z hz
  split at h
  · cases h
  rename_i hc
  obtain ⟨c1, c2⟩ := and_true hc
  have c2 := beq_eq c2
  cases h
  have hu := slElB_some he
  obtain ⟨zv, hzr, hzc⟩ := zeroB_some hz
  obtain ⟨i, hi, hsi⟩ := szB_some hsz
  have hby : i.bytes ≤ 65536 := by unfold smallB at c1; rw [hi] at c1; exact ble_le c1
  intro call φ S S' w L F a v' _ R E hs o ho next Q hnx
  have kz := (cv_some (ρ := C.ρ) (φ := φ) zv hzc).cells C.scal
  have hzs : zv.cells.size = sz := by have := kz.length; simp at this; omega
  have kf := ev_some E hf
  have kg := ev_some E hg
  dsimp only at hs
  unfold mkSl at hs
  split at hs
  rotate_left
  · cases hs
  rename_i n hn
  split at hs
  rotate_left
  · cases hs
  rename_i m hm
  split at hs
  rotate_left
  · cases hs
  rename_i hcc
  obtain ⟨d1, hcc⟩ := and_true hcc
  obtain ⟨d2, d3⟩ := and_true hcc
  have d1 := ble_le d1
  have d2 := blt_lt d2
  rw [mkRow_eq] at hs
  cases hs
  obtain ⟨k1, e1⟩ := nat?_R hn kf
  obtain ⟨k2, e2⟩ := nat?_R hm kg
  have kr := rep_R (ρ := C.ρ) (φ := φ) (l := cells z) (zs := zv.cells) kz m
  obtain ⟨h1, h2⟩ := rowcells kr (flat_rep d3 m)
  obtain ⟨φ', hx, hB, R'⟩ := R.row h1 h2 ⟨0, e⟩ (0, 0) rfl
  refine wp_v (X := .slice (some ⟨w.heap.size, 0, none⟩) n m) hnx ?_ hx R' ⟨_, 0, m, hB, rfl, d1, fun _ => ⟨Nat.le_refl _, rfl, by simp [hzs]⟩⟩
  simp only [execOp, ho, e1, e2]
  refine lay_w ?_
  have w1 : IntKind.i64.wrap (n : Int) = n := IntWalk.i64_in _ (by omega)
  have w2 : IntKind.i64.wrap (m : Int) = m := IntWalk.i64_in _ (by omega)
  have hle : (i.bytes : Int) * (m : Int) ≤ 65536 * 1000000 := by
    have h : i.bytes * m ≤ 65536000000 := Nat.le_trans (Nat.mul_le_mul hby (show m ≤ 1000000 by omega)) (by decide)
    have h' : ((i.bytes * m : Nat) : Int) ≤ ((65536000000 : Nat) : Int) := Int.ofNat_le.2 h
    rw [Int.natCast_mul] at h'
    exact h'
  have h48 : (2 : Int) ^ 48 = 281474976710656 := rfl
  have a1 : decide ((m : Int) < 0) = false := decide_eq_false (by omega)
  have a2 : decide ((i.bytes : Int) * (m : Int) > 2 ^ 48) = false := decide_eq_false (by rw [h48]; omega)
  have a3 : decide ((n : Int) < 0) = false := decide_eq_false (by omega)
  have a4 : decide ((n : Int) > (m : Int)) = false := decide_eq_false (by omega)
  have hcond : ((decide ((m : Int) < 0) || decide ((i.bytes : Int) * (m : Int) > 2 ^ 48)) || decide ((n : Int) < 0) || decide ((n : Int) > (m : Int))) = false := by
    rw [a1, a2, a3, a4]; rfl
  have hti : (typeInfo e).run C.P w = .ok i w := by simp [typeInfo, hi]
  have hrow : ∀ g : Nat → Value, (m * sz ≠ 0 → ∀ i, g i = zv.cells[i % zv.cells.size]!) → (Array.range (m * sz)).map g = (Array.range (m * zv.cells.size)).map (zv.cells[· % zv.cells.size]!) := by
    intro g hg0
    rw [hzs]
    by_cases h0 : m * sz = 0
    · rw [h0, show Array.range 0 = #[] from rfl]; simp
    · congr 1; funext i; rw [hg0 h0 i, hzs]
  simp only [Instr.makeSlice, Sem.run_bind, run_underlying hu, Result.andThen_ok, asInt, asIntOf, Sem.run_pure, hti, w1, w2]
  rw [if_neg (by rw [hcond]; exact Bool.false_ne_true)]
  simp only [Sem.run_bind, run_askRoom, Result.andThen_ok, run_sizeOf' hsz, Int.toNat_natCast]
  by_cases h0 : m * sz = 0
  · have := hrow (fun _ => default) (fun h => absurd h0 h)
    rw [if_pos h0]
    simp [newRow]
    rw [← this]
  · have := hrow (fun i => zv.cells[i % zv.cells.size]!) (fun _ _ => rfl)
    rw [if_neg h0]
    simp only [Sem.run_bind, hzr, Result.andThen_ok, Sem.run_pure]
    simp [newRow, ← this]
end
end Go.Xe
