/-
  A REGION WHOSE ORDER IS DRAWN: an operation over a world; what is done again.
-/
import Derived.Test.YtnjfkicalpbiaaaGreatDoorXeDraw
set_option linter.unusedVariables false
set_option linter.unusedSimpArgs false
set_option linter.unnecessarySimpa false
namespace Go.Xe
open Go.RowKit
theorem memT_spec : ∀ (l : List Operand) (t : Nat), t ∈ tmpsOf l ↔ Operand.tmp t ∈ l
  | [], t => by simp [tmpsOf]
  | x :: l, t => by cases x <;> simp [tmpsOf, memT_spec l]
theorem looks_op {all : List Oper} {o : Oper} {t : Nat} (h : Operand.tmp t ∈ o.op.operands) : t ∈ looks all o := by
  have : t ∈ tmpsOf o.op.operands.toList := (memT_spec _ _).2 (by simpa using h)
  unfold looks
  split
  · exact this
  · split
    · exact List.mem_cons_of_mem _ this
    · exact this
theorem nth_dst {arr : Array Oper} {j d : Nat} (h : (match nth arr.toList j with | some g => g.dst | none => none) = some d) : (arr[j]?).bind (·.dst) = some d := by
  rw [nth_get, Array.getElem?_toList] at h
  cases hj : arr[j]? with
  | none => rw [hj] at h; cases h
  | some g => rw [hj] at h; exact h
theorem nth_dst' {arr : Array Oper} {j d : Nat} (h : (arr[j]?).bind (·.dst) = some d) : (match nth arr.toList j with | some g => g.dst | none => none) = some d := by
  rw [nth_get, Array.getElem?_toList]
  cases hj : arr[j]? with
  | none => rw [hj] at h; cases h
  | some g => rw [hj] at h; exact h
theorem looks_guard {arr : Array Oper} {o : Oper} {q : Nat × Bool} (hg : o.guard = some q) {d : Nat} (h : (arr[q.1]?).bind (·.dst) = some d) : d ∈ looks arr.toList o := by
  unfold looks
  rw [hg]
  dsimp only
  rw [nth_get, Array.getElem?_toList]
  cases hj : arr[q.1]? with
  | none => rw [hj] at h; cases h
  | some g =>
    rw [hj] at h
    have h : g.dst = some d := h
    dsimp only
    rw [h]
    exact List.mem_cons_self ..
def agree (a a' : Act) (ts : List Nat) : Prop := ∀ t ∈ ts, slot a t = slot a' t
theorem exec_agree {arr : Array Oper} {a a' : Act} {o : Oper} (h : agree a a' (looks arr.toList o)) (hs : ∀ cs b, o.op ≠ .select cs b) : execOp a.eval o = execOp a'.eval o :=
  execOp_congr o hs fun x hx => by
    cases x with
    | tmp t => exact h t (looks_op hx)
    | _ => rfl
theorem wanted_agree {arr : Array Oper} {a a' : Act} {o : Oper} (h : agree a a' (looks arr.toList o)) : Region.wanted o (yielded arr a.tmps) = Region.wanted o (yielded arr a'.tmps) := by
  unfold Region.wanted
  cases hg : o.guard with
  | none => rfl
  | some q =>
    have : yielded arr a.tmps q.1 = yielded arr a'.tmps q.1 := by
      cases hd : (arr[q.1]?).bind (·.dst) with
      | none => unfold yielded; rw [hd]; rfl
      | some d => rw [yielded_slot hd, yielded_slot hd, h d (looks_guard hg hd)]
    dsimp only
    rw [this]
/-- what a light operation yields in a world -/
def Yl (P : Program) (arr : Array Oper) (o : Oper) (X : Value) (a : Act) (w : World) : Prop :=
  (Region.wanted o (yielded arr a.tmps) = true ∧ (execOp a.eval o).run P w = .ok (.value X) w) ∨ (Region.wanted o (yielded arr a.tmps) = false ∧ X = undef)
theorem Yl.agree {P : Program} {arr : Array Oper} {o : Oper} {X : Value} {a a' : Act} {w : World} (h : Yl P arr o X a w) (g : agree a a' (looks arr.toList o)) (hs : ∀ cs b, o.op ≠ .select cs b) : Yl P arr o X a' w := by
  unfold Yl at *
  rwa [exec_agree g hs, wanted_agree g] at h
theorem Yl.wpOp {P : Program} {arr : Array Oper} {i : Nat} {o : Oper} {X : Value} {a : Act} {w : World} {Q : Exit → Act → World → Prop} {K : Act → World → Prop} (hi : arr[i]? = some o) (h : Yl P arr o X a w) (k : K (a.put o.dst X) w) : wpOp P arr Q i K a w := by
  unfold Go.wpOp
  simp only [hi]
  rcases h with ⟨h1, h2⟩ | ⟨h1, rfl⟩
  · rw [if_pos h1]; refine .inl ?_; unfold Oper.wp; rw [h2]; exact k
  · rw [if_neg (by rw [h1]; simp)]; exact k
section
variable {C : Cxt} {x : Cx}
theorem guardG_ok {ρ : Rho} {φ : Phi} {arr : Array Oper} {o : Oper} {f : List V → Fr → Option Bool} (h : guardG x arr.toList o.guard = .mk f) {L : List V} {F : Fr} {a : Act} (E : Env ρ φ x L F a) {b : Bool} (hb : f L F = some b) : Region.wanted o (yielded arr a.tmps) = b := by
  unfold guardG at h
  split at h
  · rename_i hg
    cases h
    cases hb
    simp [Region.wanted, hg]
  · rename_i q hg
    split at h
    · cases h
    rename_i d hd
    have hd' := nth_dst hd
    split at h
    · cases h
    rename_i g hgd
    have k := tmp_some E hgd
    cases h
    have hw : Region.wanted o (yielded arr a.tmps) = (yielded arr a.tmps q.1 == some q.2) := by
      simp [Region.wanted, hg]
    rw [hw, yielded_slot hd']
    dsimp only at hb
    split at hb
    · rename_i b' hv
      rw [hv] at k
      cases hb
      rw [k, bEq_eq]
      cases b' <;> cases q.2 <;> rfl
    · rename_i vs hv
      rw [hv] at k
      cases hb
      obtain ⟨cs, e, _⟩ := k
      rw [e]; rfl
    · cases hb
theorem light_nosel {P : Program} {op : Op} {s : Light} (h : lightB P x op = .mk s) (cs : Array SelectCase) (b : Bool) : op ≠ .select cs b := by
  intro e; subst e; simp [lightB] at h
theorem heavy_nosel {P : Program} {op : Op} {s : Step} (h : heavyB P x op = .mk s) (cs : Array SelectCase) (b : Bool) : op ≠ .select cs b := by
  intro e; subst e; simp [heavyB] at h
theorem lightG_ok {arr : Array Oper} {o : Oper} {s : Light} (h : lightG C.P x arr.toList o = .mk s) : (∀ cs b, o.op ≠ .select cs b) ∧ ∀ {φ : Phi} {S : St} {w : World} {L : List V} {F : Fr} {a : Act} {v : V}, Rel C φ S w → Env C.ρ φ x L F a → s L F S = some v → ∃ X, Yl C.P arr o X a w ∧ VR C.ρ φ v X := by
  unfold lightG at h
  split at h
  · cases h
  rename_i s0 hs
  split at h
  · cases h
  rename_i g hg
  cases h
  refine ⟨light_nosel hs, fun {φ S w L F a v} R E hv => ?_⟩
  dsimp only at hv
  split at hv
  · rename_i hb
    obtain ⟨X, h1, h2⟩ := lightB_ok hs R E hv o rfl
    exact ⟨X, .inl ⟨guardG_ok hg E hb, h1⟩, h2⟩
  · rename_i hb
    cases hv
    exact ⟨undef, .inr ⟨guardG_ok hg E hb, rfl⟩, VR_u⟩
  · cases hv
-- SLOTS
theorem put_size (a : Act) (o : Option Nat) (X : Value) : (a.put o X).tmps.size = a.tmps.size := by cases o <;> simp [Act.put]
theorem slot_put_ne {a : Act} {o : Option Nat} {X : Value} {t : Nat} (h : o ≠ some t) : slot (a.put o X) t = slot a t := by
  cases o with
  | none => rfl
  | some d =>
    unfold slot Act.put
    simp only [Array.getD_eq_getD_getElem?]
    rw [Array.getElem?_setIfInBounds_ne (fun e => h (by rw [e]))]
theorem slot_put_eq {a a' : Act} (hs : a.tmps.size = a'.tmps.size) {d : Nat} {X : Value} : slot (a.put (some d) X) d = slot (a'.put (some d) X) d := by
  unfold slot Act.put
  simp only [Array.getD_eq_getD_getElem?]
  by_cases h : d < a.tmps.size
  · have h' : d < a'.tmps.size := by omega
    simp [h, h']
  · have h' : ¬ d < a'.tmps.size := by omega
    rw [Array.getElem?_eq_none (by simpa using h), Array.getElem?_eq_none (by simpa using h')]
theorem slot_put_congr {a a' : Act} (hs : a.tmps.size = a'.tmps.size) {o : Option Nat} {X : Value} {t : Nat} (h : o = some t ∨ slot a t = slot a' t) : slot (a.put o X) t = slot (a'.put o X) t := by
  by_cases ho : o = some t
  · subst ho; exact slot_put_eq hs
  · rw [slot_put_ne ho, slot_put_ne ho]; exact h.resolve_left ho
theorem put_put (a : Act) (o : Option Nat) (X : Value) : (a.put o X).put o X = a.put o X := by
  cases o with
  | none => rfl
  | some d => simp [Act.put]
/-- a slot laid again with what stands for the same value -/
theorem env_again {ρ : Rho} {φ : Phi} {L : List V} {F : Fr} {a : Act} (E : Env ρ φ x L F a) {o : Option Nat} {X : Value} (h : ∀ d, o = some d → ∃ k, idxOf d x.loc = some k ∧ VR ρ φ (L[k]?.getD u) X) : Env ρ φ x L F (a.put o X) := by
  refine ⟨by rw [put_size]; exact E.size, E.small, fun t h1 h2 h3 => ?_, fun t k hk => ?_⟩
  · rw [slot_put_ne (fun e => by obtain ⟨k, hk, _⟩ := h t e; rw [hk] at h3; cases h3)]
    exact E.glob t h1 h2 h3
  · by_cases he : o = some t
    · obtain ⟨k', hk', kX⟩ := h t he
      rw [hk] at hk'; cases hk'
      subst he
      by_cases hlt : t < a.tmps.size
      · rw [slot_put hlt, if_pos rfl]; exact kX
      · have : slot (a.put (some t) X) t = slot a t := by
          unfold slot Act.put
          simp only [Array.getD_eq_getD_getElem?]
          rw [Array.getElem?_eq_none (by simpa using hlt), Array.getElem?_eq_none (by simpa using hlt)]
        rw [this]; exact E.loc t k hk
    · rw [slot_put_ne he]; exact E.loc t k hk
/-- light ones done, the last first: none lays what an earlier one, or it itself, looks at -/
def LOrd (arr : Array Oper) : List Nat → Prop
  | [] => True
  | i :: r => (∀ o, arr[i]? = some o → (∀ t ∈ looks arr.toList o, o.dst ≠ some t) ∧ ∀ j ∈ r, ∀ oj, arr[j]? = some oj → (∀ t ∈ looks arr.toList oj, o.dst ≠ some t) ∧ ∀ d, o.dst = some d → oj.dst ≠ some d) ∧ LOrd arr r
theorem agains_ok {arr : Array Oper} {m : Nat} {φ : Phi} {S : St} {w : World} (R : Rel C φ S w) {L : List V} {F : Fr} (Dl : Nat → Prop) (hDl : ∀ i, Dl i → m.testBit i = false) :
    ∀ (ln : List Nat), LOrd arr ln → (∀ i ∈ ln, ∀ o d, arr[i]? = some o → o.dst = some d → ∃ k, idxOf d x.loc = some k) → ∀ {chk : Chk}, agains C.P x arr.toList m ln = .mk chk → chk L F S = true →
    ∀ {a : Act}, Env C.ρ φ x L F a → ∃ a', Env C.ρ φ x L F a' ∧ a'.defers = a.defers ∧ a'.tmps.size = a.tmps.size ∧ (∀ t, (∀ i ∈ ln, Dl i → ∀ o, arr[i]? = some o → o.dst ≠ some t) → slot a' t = slot a t) ∧
      ∀ i ∈ ln, Dl i → ∀ o, arr[i]? = some o → (∀ cs b, o.op ≠ .select cs b) ∧ ∃ X, Yl C.P arr o X a' w ∧ a'.put o.dst X = a'
  | [], _, _, chk, h, hc, a, E => ⟨a, E, rfl, rfl, fun _ _ => rfl, fun i hi => by cases hi⟩
  | i :: r, ht, hloc, chk, h, hc, a, E => by
    obtain ⟨hlo, ht'⟩ := ht
    simp only [agains] at h
    split at h
    · cases h
    rename_i f hf
    have ih : ∀ (hc : f L F S = true), _ := fun hc => agains_ok R Dl hDl r ht' (fun j hj => hloc j (List.mem_cons_of_mem _ hj)) hf hc E
    by_cases hD : Dl i
    · have hm := hDl i hD
      rw [tst_eq, hm] at h
      dsimp only at h
      split at h
      · cases h
      rename_i o ho
      have ho' : arr[i]? = some o := by rw [nth_get, Array.getElem?_toList] at ho; exact ho
      split at h
      · cases h
      rename_i g hg
      cases h
      dsimp only at hc
      split at hc
      rotate_left
      · cases hc
      rename_i hgt
      obtain ⟨a', E', hd', hs', hsl, hall⟩ := ih hc
      have key : (∀ cs b, o.op ≠ .select cs b) ∧ ∃ X, Yl C.P arr o X a' w ∧ Env C.ρ φ x L F (a'.put o.dst X) := by
        unfold again at hg
        split at hg
        · cases hg
        rename_i s hs
        obtain ⟨hns, hlg⟩ := lightG_ok hs
        split at hg
        · rename_i hdn
          cases hg
          dsimp only at hgt
          split at hgt
          · rename_i v hv
            obtain ⟨X, h1, h2⟩ := hlg R E' hv
            exact ⟨hns, X, h1, by rw [hdn]; exact E'⟩
          · cases hgt
        · rename_i d hdd
          split at hg
          · cases hg
          rename_i gt hgtm
          cases hg
          dsimp only at hgt
          split at hgt
          · rename_i v hv
            obtain ⟨X, h1, h2⟩ := hlg R E' hv
            refine ⟨hns, X, h1, env_again E' fun d' e => ?_⟩
            rw [hdd] at e; cases e
            obtain ⟨k, hk⟩ := hloc i (List.mem_cons_self ..) o d ho' hdd
            refine ⟨k, hk, ?_⟩
            have hv' := idV_eq _ _ hgt
            have : gt L F = L[k]?.getD u := by
              unfold Cx.tmp at hgtm
              rw [hk] at hgtm
              dsimp only at hgtm
              split at hgtm
              · cases hgtm
              · rename_i g' hg'
                cases hgtm
                exact nthB_some hg' L
            rw [← this, ← hv']; exact h2
          · cases hgt
      obtain ⟨hns, X, hY, EX⟩ := key
      obtain ⟨hself, hold⟩ := hlo o ho'
      refine ⟨a'.put o.dst X, EX, by rw [put_defers]; exact hd', by rw [put_size]; exact hs', fun t hnt => ?_, fun j hj hDj oj hoj => ?_⟩
      · rw [slot_put_ne (hnt i (List.mem_cons_self ..) hD o ho')]
        exact hsl t fun j hj => hnt j (List.mem_cons_of_mem _ hj)
      · by_cases hji : j = i
        · subst hji
          rw [ho'] at hoj; cases hoj
          exact ⟨hns, X, hY.agree (fun t ht => (slot_put_ne (hself t ht)).symm) hns, put_put ..⟩
        · have hj : j ∈ r := by
            cases hj with
            | head => exact absurd rfl hji
            | tail _ hj => exact hj
          obtain ⟨hnsj, X', hY', hp'⟩ := hall j hj hDj oj hoj
          obtain ⟨h1, h2⟩ := hold j hj oj hoj
          refine ⟨hnsj, X', hY'.agree (fun t ht => (slot_put_ne (h1 t ht)).symm) hnsj, ?_⟩
          rw [Act.put_comm a' X X' h2, hp']
    · -- not put off: nothing turns
      have hcf : f L F S = true := by
        split at h
        · cases h; exact hc
        · split at h
          · cases h
          split at h
          · cases h
          cases h
          dsimp only at hc
          split at hc
          · exact hc
          · cases hc
      obtain ⟨a', E', hd', hs', hsl, hall⟩ := ih hcf
      refine ⟨a', E', hd', hs', fun t hnt => hsl t fun j hj => hnt j (List.mem_cons_of_mem _ hj), fun j hj hDj => ?_⟩
      cases hj with
      | head => exact absurd hDj hD
      | tail _ hj => exact hall j hj hDj
-- A NEW BLOCK, FROM THE OPERANDS ALONE
def FreshOK (C : Cxt) (x : Cx) (op : Op) (f : Frs) : Prop :=
  ∀ {φ : Phi} {L : List V} {F : Fr} {a : Act} {o : O} {mk : Nat → V}, Env C.ρ φ x L F a → f L F = some (o, mk) → ∀ (w : World) (e : Oper), e.op = op →
    ∃ X y sz, (execOp a.eval e).run C.P w = .ok (.value X) (w.alloc y) ∧ (∀ φ', Ext φ φ' → objR C.ρ φ' o ⟨w.heap.size, 0, sz⟩ (some y)) ∧ ∀ φ' B, φ' B = some ⟨w.heap.size, 0, sz⟩ → VR C.ρ φ' (mk B) X
theorem row_objR {φ : Phi} {l : List V} {cs : Array Value} (k : VRL C.ρ φ l cs.toList) (hf : flat l = true) (e : TypeId) (b : Nat) : ∀ φ', Ext φ φ' → objR C.ρ φ' (.row (wr .e 0 l) 0 l.length ⟨0, e⟩) ⟨b, 0, cs.size⟩ (some (.cells cs e (0, 0))) := by
  intro φ' he
  obtain ⟨h1, h2⟩ := rowcells k hf
  refine ⟨cs, (0, 0), rfl, rfl, Nat.zero_le _, by simpa using h1, rfl, fun i _ hi => ?_⟩
  have hv : l[i]? = some l[i] := List.getElem?_eq_getElem hi
  obtain ⟨y, g1, g2, g3⟩ := h2 i _ hv
  refine ⟨l[i], y, ?_, by simpa using g1, VR.mono he _ _ g2, g3⟩
  rw [wr_get, if_pos (by omega)]
  simp
theorem frAlloc_ok {t : Nat} {f : Frs} (h : frAlloc C.P t = .mk f) : FreshOK C x (.alloc t) f := by
  unfold frAlloc at h
  split at h
  · cases h
  rename_i z hz
  split at h
  · cases h
  rename_i hf
  cases h
  obtain ⟨zv, hzr, hzc⟩ := zeroB_some hz
  intro φ L F a o mk E hv w e he
  cases hv
  have kz := (cv_some (ρ := C.ρ) (φ := φ) zv hzc).cells C.scal
  refine ⟨.pointer (some ⟨w.heap.size, 0, none⟩), .cells zv.cells t, zv.cells.size, ?_, row_objR kz hf t _, fun φ' B hB => ptr_new hB⟩
  simp only [execOp, he]
  refine lay_w ?_
  simp [Instr.alloc, hzr, run_newVar]
theorem frBuildSl_ok {t n : Nat} {ps : Array (Nat × Operand)} {s : Frs} (h : frBuildSl C.P x t n ps.toList = .mk s) : FreshOK C x (.buildSlice t n ps) s := by
  unfold frBuildSl at h
  split at h
  · cases h
  rename_i e he
  split at h
  · cases h
  rename_i sz hsz
  split at h
  · cases h
  rename_i z hz
  split at h
  · cases h
  rename_i hc
  obtain ⟨c1, hc⟩ := and_true hc
  obtain ⟨c2, c3⟩ := and_true hc
  have c1 : n * sz ≤ 1000000 := ble_le c1
  have c2 := blt_lt c2
  have c3 := beq_eq c3
  split at h
  · cases h
  rename_i g hg
  dsimp only at h
  cases h
  obtain ⟨zv, hzr, hzc⟩ := zeroB_some hz
  intro φ L F a o mk E hs w op ho
  have kz := (cv_some (ρ := C.ρ) (φ := φ) zv hzc).cells C.scal
  have hzs : zv.cells.size = sz := by have := kz.length; simp at this; omega
  dsimp only at hs
  split at hs
  rotate_left
  · cases hs
  rename_i l hl
  split at hs
  rotate_left
  · cases hs
  rename_i hfl
  cases hs
  have hu := slElB_some he
  let place : Nat → Option (Nat × Nat) := fun i => some (i * sz, sz)
  have hp : ∀ i q, elemPl sz i = .mk q → place i = some q := by
    intro i q hq; cases hq; rfl
  have kr := rep_R (ρ := C.ρ) (φ := φ) (l := cells z) (zs := zv.cells) kz n
  obtain ⟨cs', e1, e2, e3⟩ := parts_run C.scal E hp hg hl (by rw [rep_length, c3]; rfl) kr
  have hcs : cs'.size = n * sz := by have := e2.length; simp at this; rw [this, e3]; rfl
  refine ⟨.slice (some ⟨w.heap.size, 0, none⟩) n n, .cells cs' e, cs'.size, ?_, row_objR e2 hfl e _, fun φ' B hB => ⟨_, 0, n, hB, rfl, Nat.le_refl _, fun _ => ⟨Nat.le_refl _, rfl, by show 0 + n * sz ≤ cs'.size; omega⟩⟩⟩
  simp only [execOp, ho]
  refine lay_w ?_
  have hlim : ¬ n * sz > 2 ^ 24 := by omega
  have hfill : ∀ g : Nat → Value, (n * sz ≠ 0 → ∀ i, g i = zv.cells[i % zv.cells.size]!) → Instr.fill (fun i => some (i * sz, sz)) ((Array.range (n * sz)).map g) (ps.map fun (i, x) => (i, a.eval x)).toList = some cs' := by
    intro g hg0
    rw [Array.toList_map]
    have : (Array.range (n * sz)).map g = (Array.range (n * zv.cells.size)).map (zv.cells[· % zv.cells.size]!) := by
      rw [hzs]
      by_cases h0 : n * sz = 0
      · rw [h0, show Array.range 0 = #[] from rfl]; simp
      · congr 1; funext i; rw [hg0 h0 i, hzs]
    rw [this]
    exact e1
  simp only [Instr.buildSlice, Sem.run_bind, run_underlying hu, Result.andThen_ok, run_sizeOf' hsz, hlim, if_false]
  by_cases h0 : n * sz = 0
  · have := hfill (fun _ => default) (fun h => absurd h0 h)
    rw [if_pos h0]
    simp at this
    simp [newRow, this]
  · have := hfill (fun i => zv.cells[i % zv.cells.size]!) (fun _ _ => rfl)
    rw [if_neg h0]
    simp only [Sem.run_bind, hzr, Result.andThen_ok, Sem.run_pure]
    simp at this
    simp [newRow, this]
theorem frB_ok {op : Op} {f : Frs} (h : frB C.P x op = .mk f) : FreshOK C x op f := by
  unfold frB at h
  split at h
  · exact frAlloc_ok h
  · exact frBuildSl_ok h
  · cases h
    intro φ L F a o mk E hv w e he
    cases hv
    refine ⟨.map (some w.heap.size), .map #[] 0, 0, ?_, fun φ' _ => ⟨#[], 0, rfl, rfl, fun _ h => by simp at h, by simp⟩, fun φ' B hB => ⟨_, hB, rfl⟩⟩
    simp only [execOp, he]
    refine lay_w ?_
    simp [Instr.makeMap]
  · cases h
theorem fr_nosel {P : Program} {op : Op} {f : Frs} (h : frB P x op = .mk f) (cs : Array SelectCase) (b : Bool) : op ≠ .select cs b := by
  intro e; subst e; simp [frB] at h
theorem frG_some {P : Program} {o : Oper} {f : Frs} (h : frG P x o = .mk f) : o.guard = none ∧ frB P x o.op = .mk f := by
  unfold frG at h
  split at h
  · rename_i hg; exact ⟨hg, h⟩
  · cases h
end
end Go.Xe
