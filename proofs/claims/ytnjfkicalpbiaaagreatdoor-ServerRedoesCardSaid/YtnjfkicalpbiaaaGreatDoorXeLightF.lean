/-
  THE OPERATIONS THAT TURN NOTHING (the sixth part): look-ups, lengths; all of them together.
-/
import Derived.Test.YtnjfkicalpbiaaaGreatDoorXeLightE
set_option linter.unusedVariables false
set_option linter.unusedSimpArgs false
set_option linter.unnecessarySimpa false
namespace Go.Xe
open Go.RowKit
theorem run_getObj_map {P : Program} {w : World} {b : Nat} {es : Array MapEntry} {cl : Nat} (h : w.heap[b]? = some (.map es cl)) : (getObj b).run P w = .ok (.map es cl) w := by
  simp [getObj, Sem.run, h]
section
variable {C : Cxt} {x : Cx}
theorem Rel.map {φ : Phi} {S : St} {w : World} (R : Rel C φ S w) {B : Nat} {l : List (V × V)} {q : Q} (hB : S.heap.get B = some (.mp l)) (hq : φ B = some q) :
    ∃ es cl, w.heap[q.b]? = some (.map es cl) ∧ mapR C.ρ φ l es.toList ∧ (∀ e ∈ es.toList, e.born < cl) ∧ (es.toList.map (·.born)).Nodup := by
  obtain ⟨q', hq', ho⟩ := R.obj B _ hB
  rw [hq] at hq'; cases hq'
  exact ho
theorem tup2_R {ρ : Rho} {φ : Phi} {v : V} {X : Value} (k : VR ρ φ v X) (b : Bool) : VR ρ φ (.t [v, .b b]) (.tuple #[X, .bool b]) :=
  ⟨_, rfl, X, _, rfl, k, .bool b, [], rfl, rfl, rfl⟩
theorem lLookup_ok {t : TypeId} {m k : Operand} {ok : Bool} {q : Light} (h : lLookup C.P x t m k ok = .mk q) : LightOK C x (.lookup t m k ok) q := by
  unfold lLookup at h
  split at h
  · cases h
  rename_i f hf
  split at h
  · cases h
  rename_i g hg
  split at h
  rotate_left
  · cases h
  rename_i kt e hu
  split at h
  · cases h
  rename_i z hz
  split at h
  · cases h
  rename_i ke hke
  cases h
  obtain ⟨zv, hzr, hzc⟩ := zeroB_some hz
  have K := keyB_ok hke
  intro φ S w L F a v R E hs o' ho
  have kf := ev_some E hf
  have kg := ev_some E hg
  have kz : VR C.ρ φ z zv := cv_some zv hzc
  dsimp only at hs
  unfold lkup at hs
  split at hs
  · rename_i hv; rw [hv] at kf
    have kf : a.eval m = .map none := kf
    split at hs
    · cases hs
    rename_i r hr
    have hck := keyB_check (w := w) (P := C.P) hke hr kg true
    have hfi : (Instr.findKey kt (a.eval k) []).run C.P w = .ok none w := K.miss (l := []) kg (fun _ h => by cases h) rfl
    have hmain : (Instr.lookup t (a.eval m) (a.eval k) ok).run C.P w = .ok (if ok then .tuple #[zv, .bool false] else zv) w := by
      simp only [Instr.lookup, kf, Sem.run_bind, run_underlying hu, Result.andThen_ok, Sem.run_pure]
      simp [hck, hfi, hzr]
    cases ok with
    | true => cases hs; exact ⟨_, by simp only [execOp, ho]; exact lay_v hmain, tup2_R kz false⟩
    | false => cases hs; exact ⟨_, by simp only [execOp, ho]; exact lay_v hmain, kz⟩
  · rename_i B hv; rw [hv] at kf
    obtain ⟨r, hr0, e1⟩ := kf
    split at hs
    rotate_left
    · cases hs
    rename_i es hB
    split at hs
    · cases hs
    rename_i rr hrr
    obtain ⟨ents, cl, hh, hm, _, _⟩ := R.map hB hr0
    have hck := fun emp => keyB_check (w := w) (P := C.P) hke hrr kg emp
    split at hs
    · rename_i v' hget
      obtain ⟨l1, b, l2, rfl, hmiss, hhit, rfl⟩ := mget_some hget
      obtain ⟨es1, es2, e2, m1, m2, m3⟩ := mapR_append hm
      obtain ⟨en, rest, rfl, n1, n2, n3⟩ := m2
      have hfi := K.hit (w := w) (es2 := rest) kg hmiss m1 hhit n1
      have hmain : (Instr.lookup t (a.eval m) (a.eval k) ok).run C.P w = .ok (if ok then .tuple #[en.val, .bool true] else en.val) w := by
        simp only [Instr.lookup, e1, Sem.run_bind, run_underlying hu, Result.andThen_ok, run_getObj_map hh, Sem.run_pure]
        rw [hck]
        simp only [Result.andThen_ok, e2, hfi, Sem.run_bind, Sem.run_pure]
      cases ok with
      | true => cases hs; exact ⟨_, by simp only [execOp, ho]; exact lay_v hmain, tup2_R n2 true⟩
      | false => cases hs; exact ⟨_, by simp only [execOp, ho]; exact lay_v hmain, n2⟩
    · rename_i hget
      have hfi := K.miss (w := w) kg (mget_none hget) hm
      have hmain : (Instr.lookup t (a.eval m) (a.eval k) ok).run C.P w = .ok (if ok then .tuple #[zv, .bool false] else zv) w := by
        simp only [Instr.lookup, e1, Sem.run_bind, run_underlying hu, Result.andThen_ok, run_getObj_map hh, Sem.run_pure]
        rw [hck]
        simp only [Result.andThen_ok, hfi, hzr, Sem.run_bind, Sem.run_pure]
      cases ok with
      | true => cases hs; exact ⟨_, by simp only [execOp, ho]; exact lay_v hmain, tup2_R kz false⟩
      | false => cases hs; exact ⟨_, by simp only [execOp, ho]; exact lay_v hmain, kz⟩
    · cases hs
  · cases hs
/-- a builtin's call -/
theorem lay_b {P : Program} {w : World} {a : Act} {o : Oper} {c : Call} {b : Builtin} (ho : o.op = .call c) (hc : c.callee = .builtin b) {s : Sem Value} (hb : ∀ cs, builtin b c.argTypes o.type cs (c.args.map a.eval) = (do let y ← s; pure (.value y))) {X : Value}
    (h : s.run P w = .ok X w) : (execOp a.eval o).run P w = .ok (.value X) w := by
  simp only [execOp, ho, resolve, hc, Sem.run_bind, Sem.run_pure, Result.andThen_ok, invoke, hb, h]
theorem minI_run {P : Program} {w : World} {ρ : Rho} {φ : Phi} : ∀ {r : List V} {xs : List Value} {n : Int} {v : V}, minI n r = some v → VRL ρ φ r xs → ∃ X, (xs.foldlM Builtin.min2 (.int .i64 n)).run P w = .ok X w ∧ VR ρ φ v X
  | [], xs, n, v, h, k' => by cases h; cases k'; exact ⟨.int .i64 n, by simp, rfl⟩
  | b :: r, xs, n, v, h, k' => by
    obtain ⟨X, r', rfl, k1, k2⟩ := k'
    cases b with
    | i y =>
      simp only [minI] at h
      cases k1
      obtain ⟨Z, hZ, kZ⟩ := minI_run (P := P) (w := w) h k2
      refine ⟨Z, ?_, kZ⟩
      simp only [List.foldlM_cons, Sem.run_bind, Builtin.min2, Sem.run_pure, Result.andThen_ok]
      rw [ilt_eq] at hZ
      by_cases hlt : y < n <;> simp [hlt] at hZ ⊢ <;> exact hZ
    | _ => simp [minI] at h
theorem maxI_run {P : Program} {w : World} {ρ : Rho} {φ : Phi} : ∀ {r : List V} {xs : List Value} {n : Int} {v : V}, maxI n r = some v → VRL ρ φ r xs → ∃ X, (xs.foldlM Builtin.max2 (.int .i64 n)).run P w = .ok X w ∧ VR ρ φ v X
  | [], xs, n, v, h, k' => by cases h; cases k'; exact ⟨.int .i64 n, by simp, rfl⟩
  | b :: r, xs, n, v, h, k' => by
    obtain ⟨X, r', rfl, k1, k2⟩ := k'
    cases b with
    | i y =>
      simp only [maxI] at h
      cases k1
      obtain ⟨Z, hZ, kZ⟩ := maxI_run (P := P) (w := w) h k2
      refine ⟨Z, ?_, kZ⟩
      simp only [List.foldlM_cons, Sem.run_bind, Builtin.max2, Sem.run_pure, Result.andThen_ok]
      rw [ilt_eq] at hZ
      by_cases hlt : n < y <;> simp [hlt] at hZ ⊢ <;> exact hZ
    | _ => simp [maxI] at h
theorem minK_run {P : Program} {w : World} {ρ : Rho} {φ : Phi} {k : IntKind} : ∀ {r : List V} {xs : List Value} {n : Int} {v : V}, minK k n r = some v → VRL ρ φ r xs → ∃ X, (xs.foldlM Builtin.min2 (.int k n)).run P w = .ok X w ∧ VR ρ φ v X
  | [], xs, n, v, h, k' => by cases h; cases k'; exact ⟨.int k n, by simp, rfl⟩
  | b :: r, xs, n, v, h, k' => by
    obtain ⟨X, r', rfl, k1, k2⟩ := k'
    cases b with
    | k k2' y =>
      simp only [minK] at h
      split at h
      · rename_i hk
        rw [kEq_eq] at hk
        have hk := of_decide_eq_true hk
        subst hk
        cases k1
        obtain ⟨Z, hZ, kZ⟩ := minK_run (P := P) (w := w) h k2
        refine ⟨Z, ?_, kZ⟩
        simp only [List.foldlM_cons, Sem.run_bind, Builtin.min2, Sem.run_pure, Result.andThen_ok]
        rw [ilt_eq] at hZ
        by_cases hlt : y < n <;> simp [hlt] at hZ ⊢ <;> exact hZ
      · cases h
    | _ => simp [minK] at h
theorem maxK_run {P : Program} {w : World} {ρ : Rho} {φ : Phi} {k : IntKind} : ∀ {r : List V} {xs : List Value} {n : Int} {v : V}, maxK k n r = some v → VRL ρ φ r xs → ∃ X, (xs.foldlM Builtin.max2 (.int k n)).run P w = .ok X w ∧ VR ρ φ v X
  | [], xs, n, v, h, k' => by cases h; cases k'; exact ⟨.int k n, by simp, rfl⟩
  | b :: r, xs, n, v, h, k' => by
    obtain ⟨X, r', rfl, k1, k2⟩ := k'
    cases b with
    | k k2' y =>
      simp only [maxK] at h
      split at h
      · rename_i hk
        rw [kEq_eq] at hk
        have hk := of_decide_eq_true hk
        subst hk
        cases k1
        obtain ⟨Z, hZ, kZ⟩ := maxK_run (P := P) (w := w) h k2
        refine ⟨Z, ?_, kZ⟩
        simp only [List.foldlM_cons, Sem.run_bind, Builtin.max2, Sem.run_pure, Result.andThen_ok]
        rw [ilt_eq] at hZ
        by_cases hlt : n < y <;> simp [hlt] at hZ ⊢ <;> exact hZ
      · cases h
    | _ => simp [maxK] at h
theorem lMin_ok {c : Call} (hc : c.callee = .builtin .min) {q : Light} (h : lMin x c.args.toList = .mk q) : LightOK C x (.call c) q := by
  unfold lMin at h
  split at h
  · cases h
  rename_i f hf
  cases h
  intro φ S w L F a v R E hs o' ho
  have kf := evs_some E hf
  dsimp only at hs
  have hb : ∀ cs, builtin .min c.argTypes o'.type cs (c.args.map a.eval) = (do let y ← Builtin.min_ c.argTypes o'.type (c.args.map a.eval); pure (.value y)) := fun cs => rfl
  suffices ∃ X, (Builtin.min_ c.argTypes o'.type (c.args.map a.eval)).run C.P w = .ok X w ∧ VR C.ρ φ v X by
    obtain ⟨X, h1, h2⟩ := this
    exact ⟨X, lay_b ho hc hb h1, h2⟩
  unfold minV at hs
  unfold Builtin.min_
  rw [Array.toList_map]
  split at hs
  · rename_i n r he; rw [he] at kf
    obtain ⟨X, xs, e, k1, k2⟩ := kf
    cases k1
    rw [e]; exact minI_run hs k2
  · rename_i kd n r he; rw [he] at kf
    obtain ⟨X, xs, e, k1, k2⟩ := kf
    cases k1
    rw [e]; exact minK_run hs k2
  · cases hs
theorem lMax_ok {c : Call} (hc : c.callee = .builtin .max) {q : Light} (h : lMax x c.args.toList = .mk q) : LightOK C x (.call c) q := by
  unfold lMax at h
  split at h
  · cases h
  rename_i f hf
  cases h
  intro φ S w L F a v R E hs o' ho
  have kf := evs_some E hf
  dsimp only at hs
  have hb : ∀ cs, builtin .max c.argTypes o'.type cs (c.args.map a.eval) = (do let y ← Builtin.max_ c.argTypes o'.type (c.args.map a.eval); pure (.value y)) := fun cs => rfl
  suffices ∃ X, (Builtin.max_ c.argTypes o'.type (c.args.map a.eval)).run C.P w = .ok X w ∧ VR C.ρ φ v X by
    obtain ⟨X, h1, h2⟩ := this
    exact ⟨X, lay_b ho hc hb h1, h2⟩
  unfold maxV at hs
  unfold Builtin.max_
  rw [Array.toList_map]
  split at hs
  · rename_i n r he; rw [he] at kf
    obtain ⟨X, xs, e, k1, k2⟩ := kf
    cases k1
    rw [e]; exact maxI_run hs k2
  · rename_i kd n r he; rw [he] at kf
    obtain ⟨X, xs, e, k1, k2⟩ := kf
    cases k1
    rw [e]; exact maxK_run hs k2
  · cases hs
theorem lLen_ok {c : Call} (hc : c.callee = .builtin .len) {q : Light} (h : lLen C.P x c.args.toList c.argTypes.toList = .mk q) : LightOK C x (.call c) q := by
  unfold lLen at h
  split at h
  rotate_left
  · cases h
  rename_i p hp
  split at h
  · cases h
  rename_i f hf
  split at h
  rotate_left
  · cases h
  rename_i t ht
  have hargs : c.args = #[p] := by rw [← Array.toList_inj]; exact hp
  have htys : c.argTypes = #[t] := by rw [← Array.toList_inj]; exact ht
  have key : ∀ {φ : Phi} {w : World} {a : Act} {v : V} (o' : Oper), o'.op = .call c → (∃ X, (Builtin.len_ c.argTypes o'.type (c.args.map a.eval)).run C.P w = .ok X w ∧ VR C.ρ φ v X) → ∃ X, (execOp a.eval o').run C.P w = .ok (.value X) w ∧ VR C.ρ φ v X := by
    intro φ w a v o' ho ⟨X, h1, h2⟩
    exact ⟨X, lay_b ho hc (fun cs => rfl) h1, h2⟩
  split at h
  · rename_i hu
    cases h
    intro φ S w L F a v R E hs o' ho
    have kf := ev_some E hf
    refine key o' ho ?_
    dsimp only at hs
    unfold lenS at hs
    split at hs
    · rename_i l n hv; rw [hv] at kf
      cases hs
      obtain ⟨s, e, k1⟩ := kf
      have hsz := str_size (ρ := C.ρ) (φ := φ) ⟨s, rfl, k1⟩
      exact ⟨goInt s.size, by simp [Builtin.len_, hargs, htys, e, run_underlying hu], by rw [hsz]; rfl⟩
    · rename_i l hv; rw [hv] at kf
      cases hs
      obtain ⟨s, e, k1, _⟩ := kf
      have hsz := txt_size k1
      exact ⟨goInt s.size, by simp [Builtin.len_, hargs, htys, e, run_underlying hu], by rw [hsz]; rfl⟩
    · cases hs
  · rename_i el hu
    cases h
    intro φ S w L F a v R E hs o' ho
    have kf := ev_some E hf
    refine key o' ho ?_
    dsimp only at hs
    unfold lenSl at hs
    split at hs
    · rename_i hv; rw [hv] at kf
      have kf : a.eval p = .slice none 0 0 := kf
      cases hs
      exact ⟨goInt 0, by simp [Builtin.len_, hargs, htys, kf, run_underlying hu], rfl⟩
    · rename_i B o n z hv; rw [hv] at kf
      cases hs
      obtain ⟨q, off, cap, _, e, _⟩ := kf
      exact ⟨goInt n, by simp [Builtin.len_, hargs, htys, e, run_underlying hu], rfl⟩
    · cases hs
  · rename_i n el hu
    cases h
    intro φ S w L F a v R E hs o' ho
    cases hs
    exact key o' ho ⟨goInt n, by simp [Builtin.len_, hargs, htys, run_underlying hu], rfl⟩
  · rename_i kt el hu
    cases h
    intro φ S w L F a v R E hs o' ho
    have kf := ev_some E hf
    refine key o' ho ?_
    dsimp only at hs
    unfold lenM at hs
    split at hs
    · rename_i hv; rw [hv] at kf
      have kf : a.eval p = .map none := kf
      cases hs
      exact ⟨goInt 0, by simp [Builtin.len_, hargs, htys, kf, run_underlying hu], rfl⟩
    · rename_i B hv; rw [hv] at kf
      obtain ⟨q, hq, e⟩ := kf
      split at hs
      · rename_i es hB
        cases hs
        obtain ⟨ents, cl, hh, hm, _, _⟩ := R.map hB hq
        have hl := mapR_length hm
        have hl : ents.size = es.length := by rw [← hl]; simp
        exact ⟨goInt ents.size, by simp [Builtin.len_, hargs, htys, e, run_underlying hu, run_getObj_map hh], by rw [hl]; rfl⟩
      · cases hs
    · cases hs
  · cases h
theorem lSlData_ok {c : Call} (hc : c.callee = .builtin .unsafeSliceData) {q : Light} (h : lSlData x c.args.toList = .mk q) : LightOK C x (.call c) q := by
  unfold lSlData at h
  split at h
  · cases h
  rename_i f hf
  cases h
  intro φ S w L F a v R E hs o' ho
  have kf := evs_some E hf
  dsimp only at hs
  unfold slData at hs
  split at hs
  · rename_i hv; rw [hv] at kf
    cases hs
    obtain ⟨X, r, e0, k1, k2⟩ := kf
    cases k1; cases k2
    have hargs : c.args.map a.eval = #[.slice none 0 0] := by rw [← Array.toList_inj, Array.toList_map]; exact e0
    exact ⟨.pointer none, lay_b ho hc (s := Builtin.unsafeSliceData_ c.argTypes o'.type (c.args.map a.eval)) (fun cs => rfl) (by rw [hargs]; exact Lib.run_unsafeSliceData_nil w _ _ _ _), rfl⟩
  · rename_i B of n z hv; rw [hv] at kf
    obtain ⟨X, r, e0, k1, k2⟩ := kf
    cases k2
    obtain ⟨q', off, cap, hq, rfl, hle, hcp⟩ := k1
    have hargs : c.args.map a.eval = #[.slice (some ⟨q'.b, off, none⟩) n cap] := by rw [← Array.toList_inj, Array.toList_map]; exact e0
    split at hs
    · cases hs
    · rename_i _ hn0
      cases hs
      have hn0 : n ≠ 0 := fun h => hn0 h
      obtain ⟨c1, c2, _⟩ := hcp (by omega)
      exact ⟨.pointer (some ⟨q'.b, off, none⟩), lay_b ho hc (s := Builtin.unsafeSliceData_ c.argTypes o'.type (c.args.map a.eval)) (fun cs => rfl) (by rw [hargs]; exact Lib.run_unsafeSliceData_row w _ _ _ _ _ (by omega)), q', hq, c1, by rw [c2]⟩
  · cases hs
theorem lightB_ok {op : Op} {s : Light} (h : lightB C.P x op = .mk s) : LightOK C x op s := by
  unfold lightB at h
  split at h
  · exact (lMove_ok h).1
  · exact (lMove_ok h).2
  · exact lPick_ok h
  · exact lLoad_ok h
  · exact lNil_ok h
  · exact lBin_ok h _
  · exact lUn_ok h
  · exact lConv_ok h
  · exact lIface_ok h
  · exact lFunc_ok h
  · exact lBuild_ok h
  · exact lFieldA_ok h
  · exact lField_ok h
  · exact lIndexA_ok h
  · exact lIndex_ok h
  · exact lSlice_ok h
  · exact lExtract_ok h
  · exact lLookup_ok h
  · rename_i c
    unfold lCall at h
    split at h
    · rename_i hc; exact lSlData_ok hc h
    · rename_i hc; exact lLen_ok hc h
    · rename_i hc; exact lMin_ok hc h
    · rename_i hc; exact lMax_ok hc h
    · cases h
  · cases h
end
end Go.Xe
