/-
  THE OPERATIONS THAT TURN THE HEAP (the sixth part): copy, clear, calls; and all of them.
-/
import Derived.Test.YtnjfkicalpbiaaaGreatDoorXeHeavyE
set_option linter.unusedVariables false
set_option linter.unusedSimpArgs false
set_option linter.unnecessarySimpa false
namespace Go.Xe
open Go.RowKit
theorem strV_R {ρ : Rho} {φ : Phi} {l : List V} {n : Nat} {v : V} {ys : List Value} (h : strV l n = some v) (k : VRL ρ φ l ys) : ∃ bs : List UInt8, ys = bs.map (fun b => Value.int .u8 b.toNat) ∧ (bs.length = n → VR ρ φ v (.string ⟨bs.toArray⟩)) := by
  unfold strV at h
  split at h
  · rename_i m hm
    rw [frc_eq] at h
    cases h
    obtain ⟨bs, rfl, rfl⟩ := bytesS_R hm k
    exact ⟨bs, rfl, fun hlen => ⟨_, rfl, by rw [← hlen]; exact (strB_sOf bs).symm, by rw [← hlen]; exact sOf_lt bs⟩⟩
  · split at h
    · rename_i q hq
      cases h
      obtain ⟨bs, rfl, h1, h2⟩ := bytesY_R hq k
      exact ⟨bs, rfl, fun _ => mkTxt_R h2 (by simpa using h1)⟩
    · cases h
section
variable {C : Cxt} {x : Cx}
theorem firstCells_zero {φ : Phi} {size n : Nat} {v : V} {X : Value} (h : lenV v = some n) (k : VR C.ρ φ v X) (w : World) : ∃ cs : Array Value, cs.size = 0 ∧ (Builtin.firstCells size 0 X).run C.P w = .ok cs w := by
  unfold lenV at h
  split at h
  · cases h; cases k; exact ⟨#[], rfl, by simp [Builtin.firstCells]⟩
  · cases h; obtain ⟨q, off, cap, _, rfl, _⟩ := k; exact ⟨#[], rfl, by simp [Builtin.firstCells, loadCells, loadCellsFrom]⟩
  · cases h; obtain ⟨b, rfl, k1⟩ := k
    refine ⟨_, ?_, by simp only [Builtin.firstCells, Sem.run_pure]; rfl⟩
    rw [Array.size_map, ← Array.length_toList, Lib.extract_data]; simp
  · cases h; obtain ⟨b, rfl, k1⟩ := k
    refine ⟨_, ?_, by simp only [Builtin.firstCells, Sem.run_pure]; rfl⟩
    rw [Array.size_map, ← Array.length_toList, Lib.extract_data]; simp
  · cases h
theorem cpy_ok {t t' e size : Nat} (ht : C.P.underlying t = some (.slice e)) (hsz : szB C.P e = .mk size)
    {φ : Phi} {S S' : St} {w : World} (R : Rel C φ S w) {d y r : V} {X Y : Value} (k1 : VR C.ρ φ d X) (k2 : VR C.ρ φ y Y) (h : cpy size d y S = .ok r S') (ty : Nat) :
    ∃ φ' Z w', (Builtin.copy_ #[t, t'] ty #[X, Y]).run C.P w = .ok Z w' ∧ Ext φ φ' ∧ Rel C φ' S' w' ∧ VR C.ρ φ' r Z := by
  unfold cpy at h
  split at h
  · cases h
  rename_i b hb
  have hlen := lenV_run (P := C.P) (w := w) hb k2
  split at h
  · cases k1
    cases h
    obtain ⟨cs, e1, e2⟩ := firstCells_zero (size := size) hb k2 w
    refine ⟨φ, goInt 0, w, ?_, Ext.refl φ, R, rfl⟩
    simp [Builtin.copy_, run_underlying ht, hlen, run_sizeOf' hsz, e2]
  · rename_i B of len z
    simp only [frc_eq] at h
    split at h
    · cases h
    rename_i l hl
    obtain ⟨q, off, cap, hq, rfl, hle, hc⟩ := k1
    split at h
    rotate_left
    · cases h
    rename_i c lo m fz hB
    split at h
    rotate_left
    · cases h
    rename_i hcc
    obtain ⟨c1, hcc⟩ := and_true hcc
    obtain ⟨c2, hcc⟩ := and_true hcc
    obtain ⟨c3, c4⟩ := and_true hcc
    have c1 := blt_lt c1
    have c2 := beq_eq c2
    have c3 := ble_le c3
    have c4 : of + Nat.min b len * size ≤ m := ble_le c4
    subst c2
    cases h
    obtain ⟨ys, y1, y2, y3, y4⟩ := src_run R hl k2
    have hll : l.length = Nat.min b len * z := by rw [← y2.length, y3]
    obtain ⟨h1, h2⟩ := R.write hB hq c1 (o := of) (l := l) c3 (by omega) y2 y4
    have hst : (storeCells ⟨q.b, off, none⟩ ys).run C.P w = .ok () (w.setCells q.b (of - q.sh) ys) := by
      by_cases h0 : 0 < cap
      · obtain ⟨_, d2, _⟩ := hc h0
        rw [d2]; exact h1
      · have : ys = [] := List.length_eq_zero_iff.1 (by
          have hl0 : len = 0 := by omega
          have hm : Nat.min b len = 0 := by subst hl0; exact Nat.min_zero b
          rw [y3, hm, Nat.zero_mul])
        subst this
        simp [storeCells, World.setCells]
    refine ⟨φ, goInt (Nat.min b len), _, ?_, Ext.refl φ, h2, rfl⟩
    simp [Builtin.copy_, run_underlying ht, hlen, run_sizeOf' hsz, y1 w rfl, hst]
  · cases h
theorem hCopy_ok {c : Call} (hc : c.callee = .builtin .copy) {s : Step} (h : hCopy C.P x c.args.toList c.argTypes.toList = .mk s) : HeavyOK C x (.call c) s := by
  unfold hCopy at h
  split at h
  · cases h
  rename_i f hf
  split at h
  rotate_left
  · cases h
  rename_i t t' hts
  split at h
  · cases h
  rename_i e he
  split at h
  · cases h
  rename_i sz hsz
  cases h
  have hu := slElB_some he
  have hty : c.argTypes = #[t, t'] := by rw [← Array.toList_inj, hts]
  intro call φ S S' w L F a v _ R E hs o ho next Q hnx
  have kf := evs_some E hf
  dsimp only at hs
  unfold cpyL at hs
  split at hs
  rotate_left
  · cases hs
  rename_i s y hv; rw [hv] at kf
  obtain ⟨X, Y, e0, k1, k2⟩ := VRL.two kf
  have hargs : c.args.map a.eval = #[X, Y] := by rw [← Array.toList_inj, Array.toList_map]; exact e0
  obtain ⟨φ', Z, w', hrun, hx, R', kz⟩ := cpy_ok (t' := t') hu hsz R k1 k2 hs o.type
  have hb : ∀ cs, builtin .copy c.argTypes o.type cs (c.args.map a.eval) = (do let y ← Builtin.copy_ c.argTypes o.type (c.args.map a.eval); pure (.value y)) := fun cs => rfl
  refine wp_v hnx (lay_bw ho hc hb ?_) hx R' kz
  rw [hty, hargs]; exact hrun
theorem hClear_ok {c : Call} (hc : c.callee = .builtin .clear) {s : Step} (h : hClear C.P x c.args.toList c.argTypes.toList = .mk s) : HeavyOK C x (.call c) s := by
  unfold hClear at h
  split at h
  · cases h
  rename_i f hf
  split at h
  rotate_left
  · cases h
  rename_i t hts
  split at h
  · cases h
  rename_i e he
  split at h
  · cases h
  rename_i sz hsz
  split at h
  · cases h
  rename_i z hz
  split at h
  · cases h
  rename_i hzl
  have hzl := beq_eq hzl
  cases h
  have hu := slElB_some he
  obtain ⟨zv, hzr, hzc⟩ := zeroB_some hz
  have hty : c.argTypes = #[t] := by rw [← Array.toList_inj, hts]
  intro call φ S S' w L F a v _ R E hs o ho next Q hnx
  have kz := (cv_some (ρ := C.ρ) (φ := φ) zv hzc).cells C.scal
  have kf := evs_some E hf
  dsimp only at hs
  have hb : ∀ cs, builtin .clear c.argTypes o.type cs (c.args.map a.eval) = (do let y ← Builtin.clear_ c.argTypes o.type (c.args.map a.eval); pure (.value y)) := fun cs => rfl
  unfold clrL at hs
  split at hs
  · rename_i hv; rw [hv] at kf
    cases hs
    obtain ⟨X, e0, k1⟩ := VRL.one kf
    cases k1
    have hargs : c.args.map a.eval = #[.slice none 0 0] := by rw [← Array.toList_inj, Array.toList_map]; exact e0
    refine wp_v (X := .tuple #[]) hnx (lay_bw ho hc hb ?_) (Ext.refl φ) R ⟨#[], rfl, rfl⟩
    rw [hty, hargs]
    simp [Builtin.clear_, run_underlying hu]
  · rename_i B of n zz hv; rw [hv] at kf
    obtain ⟨X, e0, k1⟩ := VRL.one kf
    obtain ⟨q, off, cap, hq, rfl, hle, hcp⟩ := k1
    have hargs : c.args.map a.eval = #[.slice (some ⟨q.b, off, none⟩) n cap] := by rw [← Array.toList_inj, Array.toList_map]; exact e0
    split at hs
    · cases hs
      refine wp_v (X := .tuple #[]) hnx (lay_bw ho hc hb ?_) (Ext.refl φ) R ⟨#[], rfl, rfl⟩
      rw [hty, hargs]
      simp [Builtin.clear_, run_underlying hu]
    · rename_i _ hn0
      split at hs
      rotate_left
      · cases hs
      rename_i c' lo m fz hB
      split at hs
      rotate_left
      · cases hs
      rename_i hcc
      obtain ⟨c1, hcc⟩ := and_true hcc
      obtain ⟨c2, hcc⟩ := and_true hcc
      obtain ⟨c3, hcc⟩ := and_true hcc
      obtain ⟨c4, c5⟩ := and_true hcc
      have c1 := beq_eq c1
      have c2 := blt_lt c2
      have c3 := ble_le c3
      have c4 : of + n * sz ≤ m := ble_le c4
      subst c1
      cases hs
      have hn0 : n ≠ 0 := fun h => hn0 h
      obtain ⟨_, d2, _⟩ := hcp (by omega)
      subst d2
      have kr := rep_R (ρ := C.ρ) (φ := φ) (l := cells z) (zs := zv.cells) kz n
      obtain ⟨h1, h2⟩ := R.write hB hq c2 (o := of) c3 (by rw [rep_length, hzl]; exact c4) kr (scalars kr (flat_rep c5 n))
      refine wp_v (X := .tuple #[]) hnx (lay_bw ho hc hb ?_) (Ext.refl φ) h2 ⟨#[], rfl, rfl⟩
      rw [hty, hargs]
      obtain ⟨k, rfl⟩ : ∃ k, n = k + 1 := ⟨n - 1, by omega⟩
      simp only [Builtin.clear_, List.getElem?_toArray, List.getElem?_cons_zero, Sem.run_bind, run_underlying hu, Result.andThen_ok, hzr, Builtin.zeroCells, h1, Sem.run_pure]
  · cases hs
theorem hUStr_ok {c : Call} (hc : c.callee = .builtin .unsafeString) {s : Step} (h : hUStr C.P x c.args.toList c.argTypes.toList = .mk s) : HeavyOK C x (.call c) s := by
  unfold hUStr at h
  split at h
  · cases h
  rename_i f hf
  split at h
  rotate_left
  · cases h
  rename_i t t' hts
  split at h
  rotate_left
  · cases h
  rename_i e hu
  split at h
  · cases h
  rename_i sz hsz
  split at h
  · cases h
  rename_i hs1
  have hs1 := beq_eq hs1
  subst hs1
  cases h
  obtain ⟨i, hi, hsi⟩ := szB_some hsz
  have hco : C.P.cellsOf e = 1 := by simp [Program.cellsOf, hi, hsi]
  have hty : c.argTypes = #[t, t'] := by rw [← Array.toList_inj, hts]
  intro call φ S S' w L F a v _ R E hs o ho next Q hnx
  have kf := evs_some E hf
  dsimp only at hs
  have hb : ∀ cs, builtin .unsafeString c.argTypes o.type cs (c.args.map a.eval) = (do let y ← Builtin.unsafeString_ c.argTypes o.type (c.args.map a.eval); pure (.value y)) := fun cs => rfl
  unfold uStr at hs
  split at hs
  · rename_i hv; rw [hv] at kf
    cases hs
    obtain ⟨X, Y, e0, k1, k2⟩ := VRL.two kf
    cases k1
    have k2 : Y = .int .i64 0 := k2
    subst k2
    have hargs : c.args.map a.eval = #[.pointer none, .int .i64 0] := by rw [← Array.toList_inj, Array.toList_map]; exact e0
    refine wp_v (X := .string .empty) hnx (lay_bw ho hc hb ?_) (Ext.refl φ) R ⟨.empty, rfl, rfl, by simp⟩
    rw [hty, hargs]; exact Lib.run_unsafeString_none w _ _ _ _
  · rename_i B of n hv; rw [hv] at kf
    obtain ⟨X, Y, e0, k1, k2⟩ := VRL.two kf
    have k2 : Y = .int .i64 (Int.ofNat n) := k2
    subst k2
    obtain ⟨q, hq, hsh, rfl⟩ := k1
    have hargs : c.args.map a.eval = #[.pointer (some ⟨q.b, of - q.sh, none⟩), .int .i64 (Int.ofNat n)] := by rw [← Array.toList_inj, Array.toList_map]; exact e0
    split at hs
    · cases hs
      refine wp_v (X := .string .empty) hnx (lay_bw ho hc hb ?_) (Ext.refl φ) R ⟨.empty, rfl, rfl, by simp⟩
      rw [hty, hargs]; exact Lib.run_unsafeString_none w _ _ _ _
    · rename_i _ hn0
      have hn0 : n ≠ 0 := fun h => hn0 h
      split at hs
      rotate_left
      · cases hs
      rename_i c' lo m fz hB
      split at hs
      rotate_left
      · cases hs
      rename_i hcc
      obtain ⟨c1, hcc⟩ := and_true hcc
      obtain ⟨c2, hcc⟩ := and_true hcc
      obtain ⟨c3, hcc⟩ := and_true hcc
      obtain ⟨c4, hcc⟩ := and_true hcc
      obtain ⟨c5, c6⟩ := and_true hcc
      have c1 := beq_eq c1
      have c2 := beq_eq c2
      have c3 := beq_eq c3
      have c5 := ble_le c5
      have c6 := blt_lt c6
      subst c1
      subst c2
      split at hs
      rotate_left
      · cases hs
      rename_i l hl
      split at hs
      rotate_left
      · cases hs
      rename_i r hr
      cases hs
      have hsh0 : q.sh = 0 := by omega
      obtain ⟨ys, y1, y2, y3, y4⟩ := R.cells hB hq (Nat.le_refl 0) (by omega) hl
      obtain ⟨bs, rfl, hv⟩ := strV_R hr y1
      have hlen : bs.length = n := by simpa using y2
      have hv := hv hlen
      obtain ⟨q', hq', cs, fr, g1, g2, g3, g4, g5, g6⟩ := R.obj B _ hB
      rw [hq] at hq'; cases hq'
      have hrun := Lib.run_unsafeString_row (P := C.P) w t t' o.type e hu hco q.b cs.size (by simp only [World.shape?, g1, c3]) bs (by intro e; subst e; simp at hlen; exact hn0 hlen.symm) (by omega) (by omega)
        (fun j y hy => by
          rw [add_none]
          have := y3 j (Value.int .u8 y.toNat) (by simp [hy])
          simpa [hsh0] using this)
      have hw'h : (w.freeze ⟨q.b, 0, none⟩ n).heap = w.heap.modify q.b (fun
          | .cells c elem (lo, hi) => .cells c elem (if lo == hi then (0, 0 + n) else (min lo 0, max hi (0 + n)))
          | o => o) := by
        unfold World.freeze
        rw [if_neg hn0]
        rfl
      have hio : Io w (w.freeze ⟨q.b, 0, none⟩ n) := by
        unfold World.freeze
        rw [if_neg hn0]
        exact ⟨rfl, rfl, rfl⟩
      have hother : ∀ b, b ≠ q.b → (w.freeze ⟨q.b, 0, none⟩ n).heap[b]? = w.heap[b]? := fun b hne => by
        rw [hw'h, Array.getElem?_modify, if_neg (fun e => hne e.symm)]
      have R' : Rel C φ ⟨S.heap.put B (some (.row c' 0 m ⟨2, fz.ty⟩)), S.next⟩ (w.freeze ⟨q.b, 0, none⟩ n) := by
        refine R.turn hB hq hio (by rw [hw'h, Array.size_modify]) hother ?_
        refine ⟨cs, if fr.1 == fr.2 then (0, 0 + n) else (min fr.1 0, max fr.2 (0 + n)), ?_, g2, g3, g4, ?_, g6⟩
        · rw [hw'h, Array.getElem?_modify, if_pos rfl, g1]; rfl
        · have hfr : fr.1 = fr.2 ∨ fr.2 ≤ m := by
            match fz.k, g5, c4 with
            | 0, h, _ =>
              have h : fr = (0, 0) := h
              exact .inl (by rw [h])
            | 1, _, h => cases h
            | k + 2, h, _ =>
              have h : fr.2 ≤ m - q.sh := h
              exact .inr (by omega)
          show (if fr.1 == fr.2 then (0, 0 + n) else (min fr.1 0, max fr.2 (0 + n))).2 ≤ m - q.sh
          split
          · show 0 + n ≤ _; omega
          · rename_i hne
            have : fr.2 ≤ m := hfr.resolve_left (fun e => hne (by rw [e]; simp))
            show max fr.2 (0 + n) ≤ _
            omega
      refine wp_v (X := .string ⟨bs.toArray⟩) hnx (lay_bw ho hc hb ?_) (Ext.refl φ) R' hv
      rw [hty, hargs, hsh0]
      rw [hlen] at hrun
      exact hrun
  · cases hs
-- CALLS
theorem hFunc_ok {c : Call} {g : Nat} (hc : c.callee = .value (.func g)) {s : Step} (h : hFunc x g c.args.toList = .mk s) : HeavyOK C x (.call c) s := by
  unfold hFunc at h
  split at h
  · cases h
  rename_i f hf
  cases h
  intro call φ S S' w L F a v K R E hs o ho next Q hnx
  have kf := evs_some E hf
  have := K hs (Xs := c.args.map a.eval) (by rw [Array.toList_map]; exact kf) R o a next Q hnx
  unfold Oper.wp
  have he : (execOp a.eval o).run C.P w = (callFunc g (c.args.map a.eval)).run C.P w := by
    simp only [execOp, ho, resolve, hc, Act.eval, Deferred.ofValue, Sem.run_bind, Sem.run_pure, Result.andThen_ok, invoke]
    simp
  rw [he]; exact this
theorem hValue_ok {c : Call} {p : Operand} (hc : c.callee = .value p) {s : Step} (h : hValue x p c.args.toList = .mk s) : HeavyOK C x (.call c) s := by
  unfold hValue at h
  split at h
  · cases h
  rename_i f hf
  split at h
  · cases h
  rename_i g hg
  cases h
  intro call φ S S' w L F a v K R E hs o ho next Q hnx
  have kf := ev_some E hf
  have kg := evs_some E hg
  dsimp only at hs
  unfold callV at hs
  split at hs
  rotate_left
  · cases hs
  rename_i fn first caps hv; rw [hv] at kf
  obtain ⟨fs, cs, e1, k1, k2⟩ := kf
  have := K hs (Xs := fs ++ c.args.map a.eval ++ cs) (by rw [Array.toList_append, Array.toList_append, Array.toList_map]; exact (k1.append kg).append k2) R o a next Q hnx
  unfold Oper.wp
  have he : (execOp a.eval o).run C.P w = (callFunc fn (fs ++ c.args.map a.eval ++ cs)).run C.P w := by
    simp only [execOp, ho, resolve, hc, e1, Deferred.ofValue, Sem.run_bind, Sem.run_pure, Result.andThen_ok, invoke]
  rw [he]; exact this
theorem hCall_ok {c : Call} {s : Step} (h : hCall C.P x c = .mk s) : HeavyOK C x (.call c) s := by
  unfold hCall at h
  split at h
  · rename_i g hc; exact hFunc_ok hc h
  · rename_i p hne hc; exact hValue_ok hc h
  · rename_i hc; exact hAppend_ok hc h
  · rename_i hc; exact hCopy_ok hc h
  · rename_i hc; exact hDelete_ok hc h
  · rename_i hc; exact hClear_ok hc h
  · rename_i hc; exact hUStr_ok hc h
  · cases h
theorem heavyB_ok {op : Op} {s : Step} (h : heavyB C.P x op = .mk s) : HeavyOK C x op s := by
  unfold heavyB at h
  split at h
  · exact hAlloc_ok h
  · exact hBox_ok h
  · exact hBuildSl_ok h
  · exact hStore_ok h
  · cases h; exact hMakeMap_ok
  · exact hMakeSl_ok h
  · exact hConv_ok h
  · exact hMapUp_ok h
  · exact hCall_ok h
  · cases h
end
end Go.Xe
