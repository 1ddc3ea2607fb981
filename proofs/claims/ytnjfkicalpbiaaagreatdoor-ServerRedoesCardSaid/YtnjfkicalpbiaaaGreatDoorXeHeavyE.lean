/-
  THE OPERATIONS THAT TURN THE HEAP (the fifth part): append.
-/
import Derived.Test.YtnjfkicalpbiaaaGreatDoorXeHeavyD
import Derived.Deep.AppendSrc
set_option linter.unusedVariables false
set_option linter.unusedSimpArgs false
set_option linter.unnecessarySimpa false
namespace Go.Xe
open Go.RowKit
section
variable {C : Cxt} {x : Cx}
theorem srcTy_some {P : Program} {t : Nat} (h : srcTy P t = true) : (∃ e', P.underlying t = some (.slice e')) ∨ P.underlying t = some .string := by
  unfold srcTy at h
  split at h
  · rename_i e he; exact .inl ⟨e, he⟩
  · rename_i he; exact .inr he
  · cases h
theorem src_Src {φ : Phi} {S : St} {w : World} (R : Rel C φ S w) {size n : Nat} {v : V} {l : List V} {X : Value} (h : src size n v S = some l) (hl : lenV v = some n) (k : VR C.ρ φ v X) {t : Nat} (ht : srcTy C.P t = true) :
    ∃ ys : List Value, Src C.P size t X n ys w ∧ VRL C.ρ φ l ys := by
  obtain ⟨ys, h1, h2, h3, h4⟩ := src_run R h k
  exact ⟨ys, ⟨srcTy_some ht, fun w' => lenV_run hl k, h1 w rfl, h1 w.drew rfl, h3, h4⟩, h2⟩
/-- cells of a new row that append lays -/
theorem grown_get {olds news rest : List Value} {i : Nat} {y : Value} (h : (olds ++ news)[i]? = some y) : ((olds ++ news).toArray ++ rest.toArray)[i]? = some y := by
  have hi := (List.getElem?_eq_some_iff.1 h).1
  rw [Array.getElem?_append_left (by simpa using hi)]
  simpa using h
theorem row_rd {φ : Phi} {S : St} {w : World} (R : Rel C φ S w) {B : Nat} {c : T V} {lo n : Nat} {fz : Z} (hB : S.heap.get B = some (.row c lo n fz)) : ∀ (k : Nat) (o : Nat), lo ≤ o → o + k ≤ n → ∃ l, rd c k o = some l ∧ l.length = k ∧ ∀ i : Nat, i < k → l[i]? = c.get (o + i)
  | 0, o, _, _ => ⟨[], rfl, rfl, fun i h => by omega⟩
  | k + 1, o, h1, h2 => by
    obtain ⟨l, e1, e2, e3⟩ := row_rd R hB k (o + 1) (by omega) (by omega)
    obtain ⟨q, hq, _⟩ := R.obj B _ hB
    obtain ⟨v, y, g1, _⟩ := R.cell hB hq (o := o) h1 (by omega)
    refine ⟨v :: l, by simp [rd, g1, e1], by simp [e2], fun i hi => ?_⟩
    cases i with
    | zero => simp [g1]
    | succ i => rw [show o + (i + 1) = o + 1 + i by omega, ← e3 i (by omega)]; simp
theorem grow_ok {t t' e : Nat} {i : TypeInfo} {zv : Value} (ht : C.P.underlying t = some (.slice e)) (hi : C.P.info? e = some i) (hz : i.zero = some zv) (hzc : zv.cells.size = i.size) (hby : i.bytes ≤ 65536)
    {φ : Phi} {S : St} {w : World} (R : Rel C φ S w) {sLen sCap n : Nat} {base : Option Addr} {olds news : List Value} {X : Value} (hs : Src C.P i.size t' X n news w) (hold : (Builtin.firstCells i.size sLen (.slice base sLen sCap)).run C.P w.drew = .ok olds.toArray w.drew)
    (hg : sCap < sLen + n) (h6 : sLen + n < 1000000) (holdl : olds.length = sLen * i.size) (ty : Nat) (o : O) (sh : Nat)
    (ho : ∀ (cs : Array Value) (φ' : Phi), (∀ (j : Nat) y, (olds ++ news)[j]? = some y → cs[j]? = some y) → (sLen + n) * i.size ≤ cs.size → Ext φ φ' → objR C.ρ φ' o ⟨w.heap.size, sh, cs.size⟩ (some (.cells cs e))) :
    ∃ φ' cap w' sz, (Builtin.append_ #[t, t'] ty #[.slice base sLen sCap, X]).run C.P w = .ok (.slice (some ⟨w.heap.size, 0, none⟩) (sLen + n) cap) w' ∧ Ext φ φ' ∧ φ' S.next = some ⟨w.heap.size, sh, sz⟩ ∧ sLen + n ≤ cap ∧ cap * i.size ≤ sz ∧
      Rel C φ' ⟨S.heap.put S.next (some o), S.next + 1⟩ w' := by
  have hb : (sLen + n) * i.bytes ≤ 140737488355328 := by
    have : (sLen + n) * i.bytes ≤ 1000000 * 65536 := Nat.mul_le_mul (by omega) hby
    omega
  have hfit := growslice_fits (bytes := i.bytes) hg hb
  have hrun := run_append_grow_src (P := C.P) w t t' ty e i zv ht hi hz base sLen sCap olds hold X n news hs hg (by omega) hfit
  have hge := grownCap_ge w (sLen + n) sCap e
  let cap := grownCap w (sLen + n) sCap e
  let cs : Array Value := (olds ++ news).toArray ++ Builtin.zeroCells zv.cells (cap - (sLen + n))
  have hcs : cs.size = cap * i.size := by
    show ((olds ++ news).toArray ++ Builtin.zeroCells zv.cells (cap - (sLen + n))).size = _
    rw [Array.size_append]
    simp only [Builtin.zeroCells, Array.size_map, Array.size_range, List.size_toArray, List.length_append, holdl, hs.newsLen, hzc, ← Nat.add_mul]
    congr 1
    show sLen + n + (grownCap w (sLen + n) sCap e - (sLen + n)) = grownCap w (sLen + n) sCap e
    omega
  have R1 := R.drew
  obtain ⟨φ', he, hB, R'⟩ := R1.new o (.cells cs e) sh cs.size fun φ' he => ho cs φ' (fun j y hj => by
    have := grown_get (rest := (Builtin.zeroCells zv.cells (cap - (sLen + n))).toList) hj
    simpa using this) (by rw [hcs]; exact Nat.mul_le_mul_right _ hge) he
  exact ⟨φ', cap, _, cs.size, hrun, he, hB, hge, Nat.le_of_eq hcs.symm, R'⟩
theorem app_ok {t t' e : Nat} {i : TypeInfo} {zv : Value} (ht : C.P.underlying t = some (.slice e)) (ht' : srcTy C.P t' = true) (hi : C.P.info? e = some i) (hz : i.zero = some zv) (hzc : zv.cells.size = i.size) (hby : i.bytes ≤ 65536)
    {φ : Phi} {S S' : St} {w : World} (R : Rel C φ S w) {s y r : V} {X Y : Value} (k1 : VR C.ρ φ s X) (k2 : VR C.ρ φ y Y) (h : app e i.size s y S = .ok r S') (ty : Nat) :
    ∃ φ' Z w', (Builtin.append_ #[t, t'] ty #[X, Y]).run C.P w = .ok Z w' ∧ Ext φ φ' ∧ Rel C φ' S' w' ∧ VR C.ρ φ' r Z := by
  unfold app at h
  split at h
  · cases h
  rename_i n hn
  split at h
  · cases h
  rename_i l hl
  obtain ⟨news, hs, kl⟩ := src_Src R hl hn k2 ht'
  have hk := srcTy_some ht'
  have hsc : ∀ u ∈ news, Scalar u := hs.one
  have hll : l.length = n * i.size := by rw [← kl.length, hs.newsLen]
  split at h
  · -- nil
    cases k1
    split at h
    · cases h
      refine ⟨φ, .slice none 0 0, w, ?_, Ext.refl φ, R, rfl⟩
      rcases hk with ⟨e', hk⟩ | hk <;> simp [Builtin.append_, run_underlying ht, run_underlying hk, sizeOf, typeInfo, hi, hs.len, hs.cells]
    · rename_i _ hn0
      split at h
      rotate_left
      · cases h
      rename_i hlt
      have hlt := blt_lt hlt
      rw [mkRow_eq] at h
      cases h
      have hpos : 0 < n := Nat.pos_of_ne_zero hn0
      obtain ⟨φ', cap, w', sz, hrun, he, hB, h1, h2, R'⟩ := grow_ok (sLen := 0) (sCap := 0) (base := none) (olds := []) ht hi hz hzc hby R hs (by simp [Builtin.firstCells]) (by omega) (by omega) (by simp) ty (.row (wr .e 0 l) 0 l.length ⟨0, e⟩) 0
        (fun cs φ' hcs hsz he => ⟨cs, (0, 0), rfl, rfl, Nat.le_refl _, by simp only [Nat.zero_add] at hsz ⊢; omega, rfl, fun j _ hj => by
          have hv : l[j]? = some l[j] := List.getElem?_eq_getElem hj
          obtain ⟨y, g1, g2⟩ := kl.get hv
          refine ⟨l[j], y, ?_, hcs j y (by simpa using g1), VR.mono he _ _ g2, hsc y (List.mem_of_getElem? g1)⟩
          rw [wr_get, if_pos (by omega)]; simp⟩)
      rw [Nat.zero_add] at hrun h1
      exact ⟨φ', _, w', hrun, he, R', ⟨_, 0, cap, hB, rfl, h1, fun _ => ⟨Nat.le_refl _, rfl, by show 0 + cap * i.size ≤ sz; omega⟩⟩⟩
  · rename_i B of len z
    obtain ⟨q, off, cap, hq, rfl, hle, hc⟩ := k1
    split at h
    · split at h
      rotate_left
      · cases h
      cases h
      refine ⟨φ, .slice (some ⟨q.b, off, none⟩) len cap, w, ?_, Ext.refl φ, R, ⟨q, off, cap, hq, rfl, hle, hc⟩⟩
      have hnil : news = [] := List.length_eq_zero_iff.1 (by have := hs.newsLen; simpa using this)
      subst hnil
      rcases hk with ⟨e', hk⟩ | hk <;> simp [Builtin.append_, run_underlying ht, run_underlying hk, sizeOf, typeInfo, hi, hs.len, hs.cells, hle, storeCells]
    · rename_i _ hn0
      have hpos : 0 < n := Nat.pos_of_ne_zero hn0
      split at h
      rotate_left
      · cases h
      rename_i c lo m fz hB
      simp only [frc_eq, Nat.add_eq, Nat.mul_eq] at h
      split at h
      rotate_left
      · cases h
      rename_i hcc
      obtain ⟨d1, hcc⟩ := and_true hcc
      obtain ⟨dt, hcc⟩ := and_true hcc
      obtain ⟨d2, hcc⟩ := and_true hcc
      obtain ⟨d3, hcc⟩ := and_true hcc
      obtain ⟨d4, d5⟩ := and_true hcc
      have d1 := beq_eq d1
      have dt := beq_eq dt
      have d2 := blt_lt d2
      have d3 := ble_le d3
      have d4 := ble_le d4
      subst d1
      cases h
      obtain ⟨q', hq', hobj⟩ := R.obj B _ hB
      rw [hq] at hq'; cases hq'
      obtain ⟨cs, fr, g1, g2, g3, g4, g5, g6⟩ := hobj
      have hmul : (len + n) * i.size = len * i.size + n * i.size := Nat.add_mul ..
      by_cases hroom : len + n ≤ cap
      · obtain ⟨c1, c2, c3⟩ := hc (by omega)
        subst c2
        have hcm : (len + n) * i.size ≤ cap * i.size := Nat.mul_le_mul_right _ hroom
        have hcell : ∀ j, j < news.length → (w.cell? ⟨q.b, of - q.sh + len * i.size + j, none⟩).isSome = true := by
          intro j hj
          rw [hs.newsLen] at hj
          have : of - q.sh + len * i.size + j < cs.size := by omega
          simp [World.cell?, g1]; omega
        have hfro : ∀ j, j < news.length → w.frozen? ⟨q.b, of - q.sh + len * i.size + j, none⟩ = false := by
          intro j hj
          rw [hs.newsLen] at hj
          rcases Bool.or_eq_true_iff.1 d5 with d5 | d5
          · exact frR_free g5 (blt_lt d5) _ (by omega) g1
          · have d5 := beq_eq d5
            match fz.k, g5 with
            | 0, h => exact frR_free (fz := 0) (n := m) (sh := q.sh) h (by omega) _ (by omega) g1
            | 1, h => exact frR_free (fz := 1) (n := m) (sh := q.sh) h (by omega) _ (by omega) g1
            | _ + 2, h =>
              have h : fr.2 ≤ m - q.sh := h
              simp [World.frozen?, g1]
              omega
        have hrun := run_append_room_src (P := C.P) w t t' ty e i ht hi q.b (of - q.sh) len cap Y n news hs hroom hcell hfro
        obtain ⟨cs', p1, p2, p3⟩ := setCells_heap q.b news (of - q.sh + len * i.size) w cs fz.ty fr g1 (by rw [hs.newsLen]; omega)
        obtain ⟨φ', he, hB', R'⟩ := R.pass (o' := .row (wr c (of + len * i.size) l) of (of + (len + n) * i.size) fz) hB hq (setCells_io ..) (setCells_size ..) (fun b hb => setCells_other _ _ _ _ _ hb)
          (fun φ' he => ⟨cs', fr, p1, p2.trans g2, c1, by omega, by
              match fz.k, g5, d5 with
              | 0, h, _ => exact h
              | 1, h, _ => exact h
              | _ + 2, h, d5 =>
                have h : fr.2 ≤ m - q.sh := h
                have d5 : m = of + len * i.size := by
                  rcases Bool.or_eq_true_iff.1 d5 with d5 | d5
                  · have := blt_lt d5; omega
                  · exact (beq_eq d5).symm
                show fr.2 ≤ of + (len + n) * i.size - q.sh
                omega, fun j hj hj2 => by
              rw [p3, wr_get]
              by_cases hin : of + len * i.size ≤ j
              · have hlj : j - (of + len * i.size) < l.length := by omega
                have hv : l[j - (of + len * i.size)]? = some l[j - (of + len * i.size)] := List.getElem?_eq_getElem hlj
                obtain ⟨y, e1, e2⟩ := kl.get hv
                rw [if_pos (by omega), if_pos (by rw [hs.newsLen]; omega)]
                refine ⟨_, y, hv, ?_, VR.mono he _ _ e2, hsc y (List.mem_of_getElem? e1)⟩
                rw [← e1]; congr 1; omega
              · rw [if_neg (by omega), if_neg (by omega)]
                obtain ⟨v, y, e1, e2, e3, e4⟩ := g6 j (by omega) (by omega)
                exact ⟨v, y, e1, e2, VR.mono he _ _ e3, e4⟩⟩)
        exact ⟨φ', _, _, hrun, he, R', ⟨q, of - q.sh, cap, hB', rfl, hroom, fun _ => ⟨c1, rfl, c3⟩⟩⟩
      · -- a new row
        obtain ⟨ol, r1, r2, r3⟩ := row_rd R hB (len * i.size) of d3 d4
        obtain ⟨ys, y1, y2, y3, y4⟩ := R.cells hB hq d3 d4 r1
        have hold : (Builtin.firstCells i.size len (.slice (some ⟨q.b, off, none⟩) len cap)).run C.P w.drew = .ok ys.toArray w.drew := by
          by_cases h0 : len = 0
          · have : ys = [] := List.length_eq_zero_iff.1 (by rw [y2, h0]; simp)
            subst this; subst h0
            simp [Builtin.firstCells, loadCells, loadCellsFrom]
          · obtain ⟨c1, c2, c3⟩ := hc (by omega)
            subst c2
            have hl := run_loadCells_list (P := C.P) (w := w.drew) ⟨q.b, of - q.sh, none⟩ ys (fun j y hy => by rw [add_none]; exact y3 j y hy)
            simp only [Builtin.firstCells]
            rw [← y2]; exact hl
        have Rd := R.drop B
        obtain ⟨φ', cap', w', sz, hrun, he, hB', h1, h2, R'⟩ := grow_ok (olds := ys) ht hi hz hzc hby Rd hs hold (by omega) d2 y2 ty (.row (wr c (of + len * i.size) l) of (of + (len + n) * i.size) fz) of
          (fun cs φ' hcs hsz he => ⟨cs, (0, 0), by rw [dt], rfl, Nat.le_refl _, by show _ ≤ of + cs.size; omega, by
              match fz.k with
              | 0 => exact rfl
              | 1 => exact .inl rfl
              | _ + 2 => exact Nat.zero_le _, fun j hj hj2 => by
              show ∃ v y, _ ∧ cs[j - of]? = some y ∧ _
              rw [wr_get]
              by_cases hin : of + len * i.size ≤ j
              · have hlj : j - (of + len * i.size) < l.length := by omega
                have hv : l[j - (of + len * i.size)]? = some l[j - (of + len * i.size)] := List.getElem?_eq_getElem hlj
                obtain ⟨y, e1, e2⟩ := kl.get hv
                rw [if_pos (by omega)]
                refine ⟨_, y, hv, hcs _ y ?_, VR.mono he _ _ e2, hsc y (List.mem_of_getElem? e1)⟩
                rw [List.getElem?_append_right (by omega), ← e1]; congr 1; omega
              · rw [if_neg (by omega)]
                have hv := r3 (j - of) (by omega)
                have hlj : j - of < ol.length := by omega
                rw [List.getElem?_eq_getElem hlj, show of + (j - of) = j by omega] at hv
                obtain ⟨y, e1, e2⟩ := y1.get (List.getElem?_eq_getElem hlj)
                refine ⟨_, y, hv.symm, hcs _ y ?_, VR.mono he _ _ e2, y4 y (List.mem_of_getElem? e1)⟩
                rw [List.getElem?_append_left (by omega), e1]⟩)
        exact ⟨φ', _, w', hrun, he, R', ⟨_, 0, cap', hB', rfl, h1, fun _ => ⟨Nat.le_refl _, by show 0 = of - of; omega, by show 0 + cap' * i.size ≤ sz; omega⟩⟩⟩
  · cases h
theorem hAppend_ok {c : Call} (hc : c.callee = .builtin .append) {s : Step} (h : hAppend C.P x c.args.toList c.argTypes.toList = .mk s) : HeavyOK C x (.call c) s := by
  unfold hAppend at h
  split at h
  · cases h
  rename_i f hf
  split at h
  rotate_left
  · cases h
  rename_i t t' hts
  split at h
  · cases h
  rename_i e he
  split at h
  · cases h
  rename_i hsrc
  split at h
  · cases h
  rename_i sz hsz
  split at h
  · cases h
  rename_i z hz
  split at h
  · cases h
  rename_i hcc
  obtain ⟨c1, hcc⟩ := and_true hcc
  obtain ⟨c2, c3⟩ := and_true hcc
  have c3 := beq_eq c3
  cases h
  obtain ⟨i, hi, rfl⟩ := szB_some hsz
  have hby : i.bytes ≤ 65536 := by unfold smallB at c1; rw [hi] at c1; exact ble_le c1
  have hu := slElB_some he
  have hty : c.argTypes = #[t, t'] := by rw [← Array.toList_inj, hts]
  unfold zeroB at hz
  rw [hi] at hz
  dsimp only at hz
  split at hz
  rotate_left
  · cases hz
  rename_i zv hzv
  split at hz
  rotate_left
  · cases hz
  rename_i z' hcv
  cases hz
  have hzc : zv.cells.size = i.size := by
    have k := (cv_some (ρ := C.ρ) (φ := fun _ => none) zv hcv).cells C.scal
    have := k.length
    simp at this
    omega
  intro call φ S S' w L F a v _ R E hs o ho next Q hnx
  have kf := evs_some E hf
  dsimp only at hs
  unfold appL at hs
  split at hs
  rotate_left
  · cases hs
  rename_i s y hv; rw [hv] at kf
  obtain ⟨X, Y, e0, k1, k2⟩ := VRL.two kf
  have hargs : c.args.map a.eval = #[X, Y] := by rw [← Array.toList_inj, Array.toList_map]; exact e0
  obtain ⟨φ', Z, w', hrun, hx, R', kz⟩ := app_ok hu hsrc hi hzv hzc hby R k1 k2 hs o.type
  have hb : ∀ cs, builtin .append c.argTypes o.type cs (c.args.map a.eval) = (do let y ← Builtin.append_ c.argTypes o.type (c.args.map a.eval); pure (.value y)) := fun cs => rfl
  refine wp_v hnx (lay_bw ho hc hb ?_) hx R' kz
  rw [hty, hargs]; exact hrun
end
end Go.Xe
