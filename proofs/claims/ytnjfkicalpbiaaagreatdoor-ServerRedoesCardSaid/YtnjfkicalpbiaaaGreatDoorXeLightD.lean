/-
  THE OPERATIONS THAT TURN NOTHING (the fourth part).
-/
import Derived.Test.YtnjfkicalpbiaaaGreatDoorXeLightC
import Derived.Laws.Slices
set_option linter.unusedVariables false
set_option linter.unusedSimpArgs false
set_option linter.unnecessarySimpa false
namespace Go.Xe
open Go.RowKit
theorem run_listMapM {P : Program} {α β : Type} {w : World} (f : α → Sem β) (g : α → β) : ∀ {l : List α}, (∀ x ∈ l, (f x).run P w = .ok (g x) w) → (l.mapM f).run P w = .ok (l.map g) w
  | [], _ => by simp
  | x :: l, h => by
    simp only [List.mapM_cons, Sem.run_bind, h x (List.mem_cons_self ..), Result.andThen_ok]
    rw [run_listMapM f g fun y hy => h y (List.mem_cons_of_mem _ hy)]
    simp
theorem run_arrMapM {P : Program} {α β : Type} {w : World} (f : α → Sem β) (g : α → β) {l : Array α} (h : ∀ x ∈ l.toList, (f x).run P w = .ok (g x) w) : (l.mapM f).run P w = .ok (l.map g) w := by
  rw [Array.mapM_eq_mapM_toList]
  simp [run_listMapM f g h]
  rw [← Array.toList_map]
theorem allSz_some {P : Program} : ∀ {l : List Field}, allSz P l = true → ∀ f ∈ l, ∃ n, szB P f.type = .mk n
  | [], _, f, h => by cases h
  | g :: l, h, f, hf => by
    simp only [allSz] at h
    split at h
    · rename_i n hn
      cases hf with
      | head => exact ⟨n, hn⟩
      | tail _ hf => exact allSz_some h f hf
    · cases h
section
variable {C : Cxt} {x : Cx}
theorem lBuild_ok {t : TypeId} {ps : Array (Nat × Operand)} {q : Light} (h : lBuild C.P x t ps.toList = .mk q) : LightOK C x (.build t ps) q := by
  unfold lBuild at h
  split at h
  · cases h
  rename_i hok
  split at h
  · cases h
  rename_i z hz
  dsimp only at h
  split at h
  · cases h
  rename_i g hg
  cases h
  obtain ⟨zv, hzr, hzc⟩ := zeroB_some hz
  intro φ S w L F a v R E hs o' ho
  have kz := (cv_some (ρ := C.ρ) (φ := φ) zv hzc).cells C.scal
  dsimp only at hs
  split at hs
  rotate_left
  · cases hs
  rename_i l hl
  cases hs
  unfold buildOk at hok
  split at hok
  · rename_i fs hu
    have hpl : buildPl C.P t = fieldPl C.P t := by unfold buildPl; rw [hu]; dsimp only; rw [hok]
    rw [hpl] at hg
    let place : Nat → Option (Nat × Nat) := fun i => (fs.map fun f => (f.offset, C.P.cellsOf f.type))[i]?
    have hsz : ∀ f ∈ fs.toList, (sizeOf f.type).run C.P w = .ok (C.P.cellsOf f.type) w := by
      intro f hf
      obtain ⟨n, hn⟩ := allSz_some hok f hf
      rw [run_sizeOf' hn w]
      obtain ⟨i, hi, rfl⟩ := szB_some hn
      simp [Program.cellsOf, hi]
    have hp : ∀ i q, fieldPl C.P t i = .mk q → place i = some q := by
      intro i q hq
      obtain ⟨fs', f, h1, h2, h3, h4⟩ := fieldPl_some hq
      rw [hu] at h1; cases h1
      obtain ⟨j, hj, h5⟩ := szB_some h3
      simp only [place, Array.getElem?_map, h2, Option.map_some]
      congr 1
      rw [h4, show C.P.cellsOf f.type = q.2 by simp [Program.cellsOf, hj, h5]]
    obtain ⟨cs', e1, e2, e3⟩ := parts_run C.scal E hp hg hl rfl kz
    refine ⟨.agg cs', ?_, _, rfl, e2⟩
    simp only [execOp, ho]
    refine lay_v ?_
    have hm : (fs.mapM fun (f : Field) => (do let y ← sizeOf f.type; pure (f.offset, y) : Sem (Nat × Nat))).run C.P w = .ok (fs.map fun f => (f.offset, C.P.cellsOf f.type)) w :=
      run_arrMapM _ (fun f : Field => (f.offset, C.P.cellsOf f.type)) fun f hf => by simp [hsz f hf]
    simp only [Instr.build, Sem.run_bind, hzr, Result.andThen_ok, run_underlying hu, hm]
    have e1' : Instr.fill (fun i => (fs.map fun f => (f.offset, C.P.cellsOf f.type))[i]?) zv.cells (ps.map fun (i, x) => (i, a.eval x)).toList = some cs' := by
      rw [Array.toList_map]; exact e1
    rw [e1']
    simp
  · rename_i n e hu
    split at hok
    · cases hok
    rename_i m hm
    have hpl : buildPl C.P t = elemPl m := by unfold buildPl; rw [hu]; dsimp only; rw [hm]
    rw [hpl] at hg
    have hp : ∀ i q, elemPl m i = .mk q → (fun i => some (i * m, m)) i = some q := by
      intro i q hq; cases hq; rfl
    obtain ⟨cs', e1, e2, e3⟩ := parts_run C.scal E hp hg hl rfl kz
    refine ⟨.agg cs', ?_, _, rfl, e2⟩
    simp only [execOp, ho]
    refine lay_v ?_
    simp only [Instr.build, Sem.run_bind, hzr, Result.andThen_ok, run_underlying hu, run_sizeOf' hm]
    have e1' : Instr.fill (fun i => some (i * m, m)) zv.cells (ps.map fun (i, x) => (i, a.eval x)).toList = some cs' := by
      rw [Array.toList_map]; exact e1
    rw [e1']
    simp
  · cases hok
theorem lIndexA_ok {t : TypeId} {p i : Operand} {q : Light} (h : lIndexA C.P x t p i = .mk q) : LightOK C x (.indexAddr t p i) q := by
  unfold lIndexA at h
  split at h
  · cases h
  rename_i f hf
  split at h
  · cases h
  rename_i g hg
  split at h
  · cases h
  rename_i e he
  split at h
  · cases h
  rename_i n hn
  unfold elemB at he
  split at h
  · rename_i e' hu
    rw [hu] at he; cases he
    cases h
    intro φ S w L F a v R E hs o' ho
    have kf := ev_some E hf
    have kg := ev_some E hg
    dsimp only at hs
    unfold ixSl at hs
    split at hs
    · rename_i B o len z hv
      rw [hv] at kf
      split at hs
      · rename_i ix hix
        obtain ⟨kd, ei⟩ := nat?_R hix kg
        split at hs
        · rename_i hc
          obtain ⟨c1, c2⟩ := and_true hc
          have c1 := blt_lt c1
          have c2 := beq_eq c2
          subst c2
          cases hs
          obtain ⟨q, off, cap, hq, e1, hl, hz⟩ := kf
          obtain ⟨g1, rfl, g3⟩ := hz (by omega)
          refine ⟨.pointer (some ⟨q.b, o - q.sh + ix * z, none⟩), ?_, ?_⟩
          · simp only [execOp, ho, e1, ei]
            refine lay_v ?_
            simp [Instr.indexAt, run_underlying hu, asIntOf, run_sizeOf' hn, add_none, c1]
          · rw [frc_eq]
            exact ⟨q, hq, by show q.sh ≤ o + ix * z; omega, by show _ = Value.pointer (some ⟨q.b, o + ix * z - q.sh, none⟩); rw [show o + ix * z - q.sh = o - q.sh + ix * z by omega]⟩
        · cases hs
      · cases hs
    · cases hs
  · rename_i len e' hu
    rw [hu] at he; cases he
    cases h
    intro φ S w L F a v R E hs o' ho
    have kf := ev_some E hf
    have kg := ev_some E hg
    dsimp only at hs
    unfold ixAr at hs
    split at hs
    · rename_i B o hv
      rw [hv] at kf
      split at hs
      · rename_i ix hix
        obtain ⟨kd, ei⟩ := nat?_R hix kg
        split at hs
        · rename_i hc
          have c1 := blt_lt hc
          cases hs
          obtain ⟨q, hq, hsh, e1⟩ := kf
          refine ⟨.pointer (some ⟨q.b, o - q.sh + ix * n, none⟩), ?_, ?_⟩
          · simp only [execOp, ho, e1, ei]
            refine lay_v ?_
            simp [Instr.indexAt, run_underlying hu, asIntOf, Instr.sureAddr, run_sizeOf' hn, add_none, c1]
          · rw [frc_eq]
            exact ⟨q, hq, by show q.sh ≤ o + ix * n; omega, by show _ = Value.pointer (some ⟨q.b, o + ix * n - q.sh, none⟩); rw [show o + ix * n - q.sh = o - q.sh + ix * n by omega]⟩
        · cases hs
      · cases hs
    · cases hs
  · cases h
theorem bound_run {P : Program} {w : World} {v : V} {X : Value} {ρ : Rho} {φ : Phi} {n m : Nat} (h : nat? v = some n) (k : VR ρ φ v X) (hm : n ≤ m) (code : BoundsCode) : (Instr.sliceBound X m code).run P w = .ok n w := by
  obtain ⟨kd, rfl⟩ := nat?_R h k
  have : (0 : Int) ≤ n ∧ (n : Int) ≤ m := by omega
  simp [Instr.sliceBound, asIntOf, this]
theorem bounds_run {P : Program} {w : World} {ρ : Rho} {φ : Phi} {a : Act} {lo hi : Option Operand} {vl vh : Option V} {n cap : Nat} {q : Nat × Nat} (isSlice : Bool) (h : bnd vl vh n = some q) (hn : n ≤ cap)
    (hl : OptR ρ φ a lo vl) (hh : OptR ρ φ a hi vh) :
    (Instr.sliceBounds isSlice n cap (lo.map a.eval) (hi.map a.eval) none).run P w = .ok (q.1, q.2, cap) w ∧ q.1 ≤ q.2 ∧ q.2 ≤ n := by
  unfold bnd at h
  split at h
  · cases h
  rename_i hv hhv
  split at h
  · cases h
  rename_i lv hlv
  split at h
  rotate_left
  · cases h
  rename_i hc
  obtain ⟨c1, c2⟩ := and_true hc
  have c1 := ble_le c1
  have c2 := ble_le c2
  cases h
  refine ⟨?_, c1, c2⟩
  cases hi with
  | none =>
    dsimp only [OptR] at hh; subst hh
    dsimp only at hhv; cases hhv
    cases lo with
    | none =>
      dsimp only [OptR] at hl; subst hl
      dsimp only at hlv; cases hlv
      simp [Instr.sliceBounds]
    | some o =>
      obtain ⟨v, rfl, kv⟩ := hl
      simp [Instr.sliceBounds, bound_run hlv kv c1]
  | some p =>
    obtain ⟨v, rfl, kv⟩ := hh
    have hb : ∀ code, (Instr.sliceBound (a.eval p) cap code).run P w = .ok hv w := fun code => bound_run hhv kv (by omega) code
    cases lo with
    | none =>
      dsimp only [OptR] at hl; subst hl
      dsimp only at hlv; cases hlv
      simp [Instr.sliceBounds, hb]
    | some o =>
      obtain ⟨v', rfl, kv'⟩ := hl
      simp [Instr.sliceBounds, hb, bound_run hlv kv' c1]
end
end Go.Xe
