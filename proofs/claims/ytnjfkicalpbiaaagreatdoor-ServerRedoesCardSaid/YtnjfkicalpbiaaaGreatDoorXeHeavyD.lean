/-
  THE OPERATIONS THAT TURN THE HEAP (the fourth part): maps, append, copy, clear, calls.
-/
import Derived.Test.YtnjfkicalpbiaaaGreatDoorXeHeavyC
set_option linter.unusedVariables false
set_option linter.unusedSimpArgs false
set_option linter.unnecessarySimpa false
namespace Go.Xe
open Go.RowKit
theorem modify_mid {l1 l2 : List MapEntry} {e : MapEntry} {es : Array MapEntry} (h : es.toList = l1 ++ e :: l2) (f : MapEntry → MapEntry) : (es.modify l1.length f).toList = l1 ++ f e :: l2 := by
  apply List.ext_getElem?
  intro i
  rw [Array.getElem?_toList, Array.getElem?_modify, ← Array.getElem?_toList, h]
  by_cases hi : l1.length = i
  · subst hi; simp
  · rw [if_neg hi]
    rcases Nat.lt_or_ge i l1.length with hl | hl
    · rw [List.getElem?_append_left hl, List.getElem?_append_left hl]
    · rw [List.getElem?_append_right hl, List.getElem?_append_right hl]
      obtain ⟨k, hk⟩ : ∃ k, i - l1.length = k + 1 := ⟨i - l1.length - 1, by omega⟩
      rw [hk]; simp
theorem erase_mid {l1 l2 : List MapEntry} {e : MapEntry} {es : Array MapEntry} (h : es.toList = l1 ++ e :: l2) : (es.eraseIdxIfInBounds l1.length).toList = l1 ++ l2 := by
  have hlt : l1.length < es.size := by rw [← Array.length_toList, h]; simp
  rw [Array.eraseIdxIfInBounds, dif_pos hlt, Array.toList_eraseIdx, h]
  simp [List.eraseIdx_append]
section
variable {C : Cxt} {x : Cx}
theorem keyT_some {P : Program} {t : Nat} {e : KEq} (h : keyT P t = .mk e) : ∃ kt el, P.underlying t = some (.map kt el) ∧ keyB P kt = .mk e := by
  unfold keyT at h
  split at h
  · rename_i kt el hu; exact ⟨kt, el, hu, h⟩
  · cases h
theorem hMapUp_ok {t : Nat} {m k v : Operand} {s : Step} (h : hMapUp C.P x t m k v = .mk s) : HeavyOK C x (.mapUpdate t m k v) s := by
  unfold hMapUp at h
  split at h
  · cases h
  rename_i f hf
  split at h
  · cases h
  rename_i g hg
  split at h
  · cases h
  rename_i hh hhv
  split at h
  · cases h
  rename_i e he
  cases h
  obtain ⟨kt, el, hu, hke⟩ := keyT_some he
  have K := keyB_ok hke
  intro call φ S S' w L F a v' _ R E hs o ho next Q hnx
  have kf := ev_some E hf
  have kg := ev_some E hg
  have kh := ev_some E hhv
  dsimp only at hs
  unfold mupd at hs
  split at hs
  rotate_left
  · cases hs
  rename_i B hv; rw [hv] at kf
  obtain ⟨q, hq, e1⟩ := kf
  split at hs
  rotate_left
  · cases hs
  rename_i es hB
  split at hs
  · cases hs
  rename_i rr hrr
  have hck := keyB_check (w := w) (P := C.P) hke hrr kg false
  obtain ⟨ents, cl, hhp, hm, hbo, hnd⟩ := R.map hB hq
  split at hs
  rotate_left
  · cases hs
  rename_i es' hset
  cases hs
  rcases mset_some hset with ⟨hmiss, rfl⟩ | ⟨l1, b, l2, rfl, hmiss, hhit, hsame, rfl⟩
  · have hfi := K.miss (w := w) kg hmiss hm
    have R' := R.remap (l' := es ++ [(g L F, hh L F)]) (es := ents.push { key := a.eval k, val := a.eval v, born := cl }) (cl := cl + 1) hB hq
      (by rw [Array.toList_push]; exact mapR_join hm ⟨_, [], rfl, kg, kh, rfl⟩)
      (by intro e he; rw [Array.toList_push] at he; rcases List.mem_append.1 he with he | he
          · have := hbo e he; omega
          · simp at he; subst he; show cl < cl + 1; omega)
      (by rw [Array.toList_push, List.map_append, List.nodup_append]
          refine ⟨hnd, by simp, ?_⟩
          intro a ha b hb
          simp at hb; subst hb
          obtain ⟨e, he, rfl⟩ := List.mem_map.1 ha
          have := hbo e he
          show e.born ≠ _; omega)
    refine wp_u hnx ?_ (Ext.refl φ) R'
    simp only [execOp, ho, e1]
    simp only [Instr.mapUpdate, Sem.run_bind, run_underlying hu, Result.andThen_ok, run_getObj_map hhp, hck, hfi, run_setObj_map hhp, Sem.run_pure]
  · obtain ⟨es1, es2, e2, m1, m2, m3⟩ := mapR_append hm
    obtain ⟨en, rest, rfl, n1, n2, n3⟩ := m2
    have hfi := K.hit (w := w) (es2 := rest) kg hmiss m1 hhit n1
    have hsb := same_eq hsame n1 kg
    have hmod := modify_mid e2 (fun e => { e with key := a.eval k, val := a.eval v })
    have hborn : (ents.modify es1.length (fun e => { e with key := a.eval k, val := a.eval v })).toList.map (·.born) = ents.toList.map (·.born) := by
      rw [hmod, e2]; simp
    have R' := R.remap (l' := l1 ++ (g L F, hh L F) :: l2) (es := ents.modify es1.length (fun e => { e with key := a.eval k, val := a.eval v })) (cl := cl) hB hq
      (by rw [hmod]; exact mapR_join m1 ⟨_, rest, rfl, kg, kh, n3⟩)
      (by intro e he
          have : e.born ∈ ents.toList.map (·.born) := by rw [← hborn]; exact List.mem_map.2 ⟨e, he, rfl⟩
          obtain ⟨e', he', h'⟩ := List.mem_map.1 this
          rw [← h']; exact hbo e' he')
      (by rw [hborn]; exact hnd)
    have hold : (ents[es1.length]?.map (·.key)).getD (a.eval k) = en.key := by
      rw [← Array.getElem?_toList, e2]; simp
    refine wp_u hnx ?_ (Ext.refl φ) R'
    simp only [execOp, ho, e1]
    simp only [Instr.mapUpdate, Sem.run_bind, run_underlying hu, Result.andThen_ok, run_getObj_map hhp, hck]
    rw [e2, hfi]
    simp only [Result.andThen_ok, hold, Instr.keyThatStays, hsb, if_true, Sem.run_bind, Sem.run_pure, run_setObj_map hhp]
/-- a builtin's call that ends in a value -/
theorem lay_bw {P : Program} {w w' : World} {a : Act} {o : Oper} {c : Call} {b : Builtin} (ho : o.op = .call c) (hc : c.callee = .builtin b) {s : Sem Value} (hb : ∀ cs, builtin b c.argTypes o.type cs (c.args.map a.eval) = (do let y ← s; pure (.value y))) {X : Value}
    (h : s.run P w = .ok X w') : (execOp a.eval o).run P w = .ok (.value X) w' := by
  simp only [execOp, ho, resolve, hc, Sem.run_bind, Sem.run_pure, Result.andThen_ok, invoke, hb, h]
theorem VRL.two {ρ : Rho} {φ : Phi} {x y : V} {xs : List Value} (k : VRL ρ φ [x, y] xs) : ∃ X Y, xs = [X, Y] ∧ VR ρ φ x X ∧ VR ρ φ y Y := by
  obtain ⟨X, r, rfl, k1, k2⟩ := k
  obtain ⟨Y, r, rfl, k3, k4⟩ := k2
  cases k4
  exact ⟨X, Y, rfl, k1, k3⟩
theorem VRL.one {ρ : Rho} {φ : Phi} {x : V} {xs : List Value} (k : VRL ρ φ [x] xs) : ∃ X, xs = [X] ∧ VR ρ φ x X := by
  obtain ⟨X, r, rfl, k1, k2⟩ := k
  cases k2
  exact ⟨X, rfl, k1⟩
theorem hDelete_ok {c : Call} (hc : c.callee = .builtin .delete) {s : Step} (h : hDelete C.P x c.args.toList c.argTypes.toList = .mk s) : HeavyOK C x (.call c) s := by
  unfold hDelete at h
  split at h
  · cases h
  rename_i f hf
  split at h
  rotate_left
  · cases h
  rename_i t ts hts
  split at h
  · cases h
  rename_i e he
  cases h
  obtain ⟨kt, el, hu, hke⟩ := keyT_some he
  have K := keyB_ok hke
  have hty : c.argTypes[0]? = some t := by rw [← Array.getElem?_toList, hts]; rfl
  intro call φ S S' w L F a v' _ R E hs o ho next Q hnx
  have kf := evs_some E hf
  dsimp only at hs
  have hb : ∀ cs, builtin .delete c.argTypes o.type cs (c.args.map a.eval) = (do let y ← Builtin.delete_ c.argTypes o.type (c.args.map a.eval); pure (.value y)) := fun cs => rfl
  unfold delL at hs
  split at hs
  · rename_i k hv; rw [hv] at kf
    obtain ⟨M, X, e0, k1, k2⟩ := VRL.two kf
    cases k1
    split at hs
    · cases hs
    rename_i rr hrr
    cases hs
    have hargs : c.args.map a.eval = #[.map none, X] := by rw [← Array.toList_inj, Array.toList_map]; exact e0
    have hck := keyB_check (w := w) (P := C.P) hke hrr k2 true
    refine wp_v (X := .tuple #[]) hnx (lay_bw ho hc hb ?_) (Ext.refl φ) R ⟨#[], rfl, rfl⟩
    simp [Builtin.delete_, hty, hargs, run_underlying hu, hck]
  · rename_i B k hv; rw [hv] at kf
    obtain ⟨M, X, e0, k1, k2⟩ := VRL.two kf
    obtain ⟨q, hq, rfl⟩ := k1
    have hargs : c.args.map a.eval = #[.map (some q.b), X] := by rw [← Array.toList_inj, Array.toList_map]; exact e0
    split at hs
    rotate_left
    · cases hs
    rename_i es hB
    split at hs
    · cases hs
    rename_i rr hrr
    obtain ⟨ents, cl, hhp, hm, hbo, hnd⟩ := R.map hB hq
    have hck := fun emp => keyB_check (w := w) (P := C.P) hke hrr k2 emp
    split at hs
    rotate_left
    · cases hs
    rename_i es' hdel
    cases hs
    rcases mdel_some hdel with ⟨hmiss, rfl⟩ | ⟨l1, b, l2, rfl, hmiss, hhit, rfl⟩
    · have hfi := K.miss (w := w) k2 hmiss hm
      have R' := R.remap (l' := es') (es := ents) (cl := cl) hB hq hm hbo hnd
      refine wp_v (X := .tuple #[]) hnx (lay_bw ho hc hb ?_) (Ext.refl φ) R' ⟨#[], rfl, rfl⟩
      simp only [Builtin.delete_, hty, hargs]
      simp only [List.getElem?_toArray, List.getElem?_cons_zero, List.getElem?_cons_succ, Sem.run_bind, run_underlying hu, Result.andThen_ok, run_getObj_map hhp, hck, hfi, run_setObj_map hhp, Sem.run_pure]
    · obtain ⟨es1, es2, e2, m1, m2, m3⟩ := mapR_append hm
      obtain ⟨en, rest, rfl, n1, n2, n3⟩ := m2
      have hfi := K.hit (w := w) (es2 := rest) k2 hmiss m1 hhit n1
      have her := erase_mid e2
      have R' := R.remap (l' := l1 ++ l2) (es := ents.eraseIdxIfInBounds es1.length) (cl := cl) hB hq (by rw [her]; exact mapR_join m1 n3)
        (by intro e he; rw [her] at he; exact hbo e (by rw [e2]; rcases List.mem_append.1 he with h | h <;> simp [h]))
        (by rw [her]
            rw [e2] at hnd
            simp only [List.map_append, List.map_cons] at hnd ⊢
            exact hnd.sublist (List.Sublist.append_left (List.sublist_cons_self ..) _))
      refine wp_v (X := .tuple #[]) hnx (lay_bw ho hc hb ?_) (Ext.refl φ) R' ⟨#[], rfl, rfl⟩
      simp only [Builtin.delete_, hty, hargs]
      simp only [List.getElem?_toArray, List.getElem?_cons_zero, List.getElem?_cons_succ, Sem.run_bind, run_underlying hu, Result.andThen_ok, run_getObj_map hhp, hck]
      rw [e2, hfi]
      simp only [Result.andThen_ok, Sem.run_bind, run_setObj_map hhp, Sem.run_pure]
  · cases hs
-- SLICES
theorem zeroB_len {P : Program} {t : Nat} {z : V} (h : zeroB P t = .mk z) (ρ : Rho) (hρ : ∀ i, Scalar (ρ.1 i)) : ∃ zv, (∀ w, (zeroValue t).run P w = .ok zv w) ∧ zv.cells.size = (cells z).length := by
  obtain ⟨zv, h1, h2⟩ := zeroB_some h
  have k := (cv_some (ρ := ρ) (φ := fun _ => none) zv h2).cells hρ
  exact ⟨zv, h1, by have := k.length; simpa using this⟩
theorem strB_mod : ∀ (n m : Nat), strB n (m % 256 ^ n) = strB n m
  | 0, m => rfl
  | n + 1, m => by
    have h1 : m % 256 ^ (n + 1) % 256 = m % 256 := Nat.mod_mod_of_dvd m (by rw [Nat.pow_succ]; exact Nat.dvd_mul_left ..)
    have h2 : m % 256 ^ (n + 1) / 256 = m / 256 % 256 ^ n := by rw [Nat.pow_succ, Nat.mul_comm, Nat.mod_mul_right_div_self]
    show (m % 256 ^ (n + 1) % 256).toUInt8 :: strB n (m % 256 ^ (n + 1) / 256) = (m % 256).toUInt8 :: strB n (m / 256)
    rw [h1, h2, strB_mod n]
theorem src_run {φ : Phi} {S : St} {w : World} (R : Rel C φ S w) {size n : Nat} {v : V} {l : List V} {X : Value} (h : src size n v S = some l) (k : VR C.ρ φ v X) :
    ∃ ys : List Value, (∀ w' : World, w'.heap = w.heap → (Builtin.firstCells size n X).run C.P w' = .ok ys.toArray w') ∧ VRL C.ρ φ l ys ∧ ys.length = n * size ∧ ∀ y ∈ ys, Scalar y := by
  cases v with
  | nils =>
    cases k
    simp only [src] at h
    split at h
    · cases h; exact ⟨[], by simp [Builtin.firstCells], rfl, by simp, fun y h => by cases h⟩
    · cases h
  | sl B o len z =>
    obtain ⟨hz, hn, q, off, cap, hq, rfl, hc, ys, k1, k2, k3, k4⟩ := src_sl R h k
    refine ⟨ys, ?_, k1, k2, k3⟩
    intro w' hw'
    have hl := run_loadCells_list (P := C.P) (w := w') ⟨q.b, off, none⟩ ys (fun j y hy => by rw [add_none]; have := k4 j y hy; unfold World.cell? at this ⊢; rw [hw']; exact this)
    simp only [Builtin.firstCells]
    rw [← k2]; exact hl
  | s L m =>
    obtain ⟨b, rfl, k1, k2⟩ := k
    simp only [src] at h
    split at h
    rotate_left
    · cases h
    rename_i hc
    obtain ⟨c1, c2⟩ := and_true hc
    have c1 := ble_le c1
    have c2 := beq_eq c2
    subst c2
    cases h
    have hb : b.size = L := str_size (ρ := C.ρ) (φ := φ) ⟨b, rfl, k1, k2⟩
    have ht : (b.data.toList.take n) = strB n (m % 256 ^ n) := by rw [k1, strB_take _ _ _ c1]
    refine ⟨(b.data.toList.take n).map fun b => Value.int .u8 b.toNat, ?_, ?_, ?_, ?_⟩
    · intro w' _
      simp only [Builtin.firstCells, Sem.run_pure]
      congr 1
      rw [← Array.toList_inj]
      simp only [Array.toList_map]
      rw [Lib.extract_data]; simp
    · rw [strB_bytes]
      have : strB n m = b.data.toList.take n := by
        rw [ht, strB_mod]
      rw [this]; exact bytesR _
    · rw [List.length_map, ht, strB_length, Nat.mul_one]
    · intro y hy
      obtain ⟨c, _, rfl⟩ := List.mem_map.1 hy
      rfl
  | y t =>
    cases t with
    | txt t =>
      obtain ⟨b, rfl, k1, k2⟩ := k
      simp only [src] at h
      split at h
      rotate_left
      · cases h
      rename_i hc
      obtain ⟨c1, c2⟩ := and_true hc
      have c1 := ble_le c1
      have c2 := beq_eq c2
      subst c2
      cases h
      have hb : b.size = t.length := txt_size k1
      refine ⟨(b.data.toList.take n).map fun b => Value.int .u8 b.toNat, ?_, ?_, ?_, ?_⟩
      · intro w' _
        simp only [Builtin.firstCells, Sem.run_pure]
        congr 1
        rw [← Array.toList_inj]
        simp only [Array.toList_map]
        rw [Lib.extract_data]; simp
      · exact cellsB_R (by rw [List.map_take, k1, List.map_take]) (okL_take k2 n)
      · rw [List.length_map, List.length_take, Nat.mul_one]
        have : b.data.toList.length = t.length := by rw [← hb]; exact Array.length_toList
        omega
      · intro y hy
        obtain ⟨c, _, rfl⟩ := List.mem_map.1 hy
        rfl
    | _ => simp [src] at h
  | _ => simp [src] at h
theorem lenV_run {ρ : Rho} {φ : Phi} {P : Program} {w : World} {v : V} {n : Nat} {X : Value} (h : lenV v = some n) (k : VR ρ φ v X) : (Builtin.lenOf X).run P w = .ok n w := by
  unfold lenV at h
  split at h
  · cases h; cases k; simp [Builtin.lenOf]
  · cases h; obtain ⟨q, off, cap, _, rfl, _⟩ := k; simp [Builtin.lenOf]
  · cases h
    obtain ⟨b, rfl, k1⟩ := k
    simp [Builtin.lenOf, str_size (ρ := ρ) (φ := φ) ⟨b, rfl, k1⟩]
  · cases h
    obtain ⟨b, rfl, k1, _⟩ := k
    simp [Builtin.lenOf, txt_size k1]
  · cases h
end
end Go.Xe
