/-
  THE OPERATIONS THAT TURN THE HEAP, OR MAKE SOMETHING IN IT.
-/
import Derived.Test.YtnjfkicalpbiaaaGreatDoorXeLightF
import Derived.Laws.IdiomCopy
set_option linter.unusedVariables false
set_option linter.unusedSimpArgs false
set_option linter.unnecessarySimpa false
namespace Go.Xe
open Go.RowKit
def CallerOK (C : Cxt) (call : Caller) : Prop :=
  ∀ {f : Nat} {args : List V} {S S' : St} {v : V} {φ : Phi} {w : World} {Xs : Array Value}, call f args S = .ok v S' → VRL C.ρ φ args Xs.toList → Rel C φ S w →
    ∀ (o : Oper) (a : Act) (next : Act → World → Prop) (Q : Exit → Act → World → Prop), (∀ φ' X w', Ext φ φ' → Rel C φ' S' w' → VR C.ρ φ' v X → next (a.put o.dst X) w') →
      o.upon C.P a next Q ((callFunc f Xs).run C.P w)
def HeavyOK (C : Cxt) (x : Cx) (op : Op) (s : Step) : Prop :=
  ∀ {call : Caller} {φ : Phi} {S S' : St} {w : World} {L : List V} {F : Fr} {a : Act} {v : V}, CallerOK C call → Rel C φ S w → Env C.ρ φ x L F a → s call L F S = .ok v S' →
    ∀ (o : Oper), o.op = op → ∀ (next : Act → World → Prop) (Q : Exit → Act → World → Prop), (∀ φ' X w', Ext φ φ' → Rel C φ' S' w' → VR C.ρ φ' v X → next (a.put o.dst X) w') → o.wp C.P a w next Q
/-- what a run that ends in a value owes -/
theorem wp_v {C : Cxt} {φ : Phi} {S' : St} {w : World} {a : Act} {v : V} {o : Oper} {next : Act → World → Prop} {Q : Exit → Act → World → Prop}
    (hn : ∀ φ' X w', Ext φ φ' → Rel C φ' S' w' → VR C.ρ φ' v X → next (a.put o.dst X) w') {X : Value} {w' : World} {φ' : Phi} (h : (execOp a.eval o).run C.P w = .ok (.value X) w') (he : Ext φ φ') (R : Rel C φ' S' w') (k : VR C.ρ φ' v X) : o.wp C.P a w next Q := by
  unfold Oper.wp
  rw [h]
  exact hn φ' X w' he R k
theorem wp_u {C : Cxt} {φ : Phi} {S' : St} {w : World} {a : Act} {o : Oper} {next : Act → World → Prop} {Q : Exit → Act → World → Prop}
    (hn : ∀ φ' X w', Ext φ φ' → Rel C φ' S' w' → VR C.ρ φ' u X → next (a.put o.dst X) w') {w' : World} {φ' : Phi} (h : (execOp a.eval o).run C.P w = .ok .skip w') (he : Ext φ φ') (R : Rel C φ' S' w') : o.wp C.P a w next Q := by
  unfold Oper.wp
  rw [h]
  exact hn φ' undef w' he R ⟨#[], rfl, rfl⟩
theorem lay_w {P : Program} {s : Sem Value} {w w' : World} {X : Value} (h : s.run P w = .ok X w') : ((do let y ← s; pure (Next.value y)) : Sem Next).run P w = .ok (.value X) w' := by
  simp [h]
/-- a new row -/
theorem Rel.row {C : Cxt} {φ : Phi} {S : St} {w : World} (R : Rel C φ S w) {l : List V} {cs : Array Value} (hsz : l.length ≤ cs.size) (hk : ∀ (i : Nat) v, l[i]? = some v → ∃ y, cs[i]? = some y ∧ VR C.ρ φ v y ∧ Scalar y) (fz : Z) (fr : Nat × Nat)
    (hfr : frR fz.k l.length 0 cs.size fr) :
    ∃ φ', Ext φ φ' ∧ φ' S.next = some ⟨w.heap.size, 0, cs.size⟩ ∧ Rel C φ' ⟨S.heap.put S.next (some (.row (wr .e 0 l) 0 l.length fz)), S.next + 1⟩ (w.alloc (.cells cs fz.ty fr)) := by
  refine R.new (.row (wr .e 0 l) 0 l.length fz) (.cells cs fz.ty fr) 0 cs.size fun φ' he => ?_
  refine ⟨cs, fr, rfl, rfl, Nat.zero_le _, by simpa using hsz, hfr, fun i _ hi => ?_⟩
  have hv : l[i]? = some l[i] := List.getElem?_eq_getElem hi
  obtain ⟨y, h1, h2, h3⟩ := hk i _ hv
  refine ⟨l[i], y, ?_, by simpa using h1, VR.mono he _ _ h2, h3⟩
  rw [wr_get, if_pos (by omega)]
  simp
theorem rowcells {C : Cxt} {φ : Phi} {l : List V} {cs : Array Value} (k : VRL C.ρ φ l cs.toList) (hf : flat l = true) : l.length ≤ cs.size ∧ ∀ (i : Nat) v, l[i]? = some v → ∃ y, cs[i]? = some y ∧ VR C.ρ φ v y ∧ Scalar y := by
  refine ⟨by have := k.length; simp at this; omega, fun i v hv => ?_⟩
  obtain ⟨y, h1, h2⟩ := k.get hv
  exact ⟨y, by simpa using h1, h2, flat1_scalar C.scal (flat_get hf v (List.mem_of_getElem? hv)) h2⟩
theorem mkRow_eq (l : List V) (fz : Z) (S : St) (k : Nat → St → O2) : mkRow l fz S k = k S.next ⟨S.heap.put S.next (some (.row (wr .e 0 l) 0 l.length fz)), S.next + 1⟩ := by
  unfold mkRow; rw [frc_eq]
theorem run_newVar {P : Program} {w : World} (t : TypeId) (v : Value) : (newVar t v).run P w = .ok ⟨w.heap.size, 0, none⟩ (w.alloc (.cells v.cells t)) := by
  simp [newVar, newRow]
section
variable {C : Cxt} {x : Cx}
theorem ptr_new {ρ : Rho} {φ' : Phi} {B b sz : Nat} (h : φ' B = some ⟨b, 0, sz⟩) : VR ρ φ' (.p B 0) (.pointer (some ⟨b, 0, none⟩)) := ⟨_, h, Nat.le_refl _, rfl⟩
theorem hAlloc_ok {t : TypeId} {s : Step} (h : hAlloc C.P t = .mk s) : HeavyOK C x (.alloc t) s := by
  unfold hAlloc at h
  split at h
  · cases h
  rename_i z hz
  dsimp only at h
  split at h
  rotate_left
  · cases h
  rename_i hf
  cases h
  obtain ⟨zv, hzr, hzc⟩ := zeroB_some hz
  intro call φ S S' w L F a v _ R E hs o ho next Q hn
  dsimp only at hs
  rw [mkRow_eq] at hs
  cases hs
  have kz := (cv_some (ρ := C.ρ) (φ := φ) zv hzc).cells C.scal
  obtain ⟨h1, h2⟩ := rowcells kz hf
  obtain ⟨φ', he, hB, R'⟩ := R.row h1 h2 ⟨0, t⟩ (0, 0) rfl
  refine wp_v hn ?_ he R' (ptr_new hB)
  simp only [execOp, ho]
  refine lay_w ?_
  simp [Instr.alloc, hzr, run_newVar]
theorem hBox_ok {t : TypeId} {p : Operand} {s : Step} (h : hBox x t p = .mk s) : HeavyOK C x (.box t p) s := by
  unfold hBox at h
  split at h
  · cases h
  rename_i f hf
  cases h
  intro call φ S S' w L F a v _ R E hs o ho next Q hn
  dsimp only at hs
  split at hs
  rotate_left
  · cases hs
  rename_i hfl
  rw [mkRow_eq] at hs
  cases hs
  have kz := (ev_some E hf).cells C.scal
  obtain ⟨h1, h2⟩ := rowcells kz hfl
  obtain ⟨φ', he, hB, R'⟩ := R.row h1 h2 ⟨0, t⟩ (0, 0) rfl
  refine wp_v hn ?_ he R' (ptr_new hB)
  simp only [execOp, ho]
  refine lay_w ?_
  simp [Instr.box, run_newVar]
theorem rep_get (l : List V) (hl : 0 < l.length) : ∀ (n i : Nat), (rep l n)[i]? = if i < n * l.length then l[i % l.length]? else none
  | 0, i => by simp [rep]
  | n + 1, i => by
    show (l ++ rep l n)[i]? = _
    rw [List.getElem?_append]
    by_cases h : i < l.length
    · rw [if_pos h, if_pos (by rw [Nat.add_mul]; omega), Nat.mod_eq_of_lt h]
    · rw [if_neg h, rep_get l hl n (i - l.length)]
      have e : i % l.length = (i - l.length) % l.length := by
        conv => lhs; rw [show i = (i - l.length) + l.length by omega, Nat.add_mod_right]
      rw [e]
      by_cases h2 : i - l.length < n * l.length
      · rw [if_pos h2, if_pos (by rw [Nat.add_mul]; omega)]
      · rw [if_neg h2, if_neg (by rw [Nat.add_mul]; omega)]
theorem rep_length (l : List V) : ∀ n, (rep l n).length = n * l.length
  | 0 => by simp [rep]
  | n + 1 => by show (l ++ rep l n).length = _; rw [List.length_append, rep_length l n, Nat.add_mul]; omega
/-- a row of zero values -/
theorem rep_R {ρ : Rho} {φ : Phi} {l : List V} {zs : Array Value} (k : VRL ρ φ l zs.toList) (n : Nat) : VRL ρ φ (rep l n) ((Array.range (n * zs.size)).map (zs[· % zs.size]!)).toList := by
  have hlen : zs.size = l.length := by have := k.length; simpa using this
  refine VRL.of_get (by simp [rep_length, hlen]) fun i v hi => ?_
  by_cases h0 : 0 < l.length
  · rw [rep_get l h0] at hi
    split at hi
    · rename_i hlt
      obtain ⟨y, h1, h2⟩ := k.get hi
      refine ⟨y, ?_, h2⟩
      have hlt' : i < n * zs.size := by rw [hlen]; exact hlt
      have : zs[i % zs.size]? = some y := by rw [hlen]; simpa using h1
      simp only [Array.toList_map, List.getElem?_map, Array.toList_range, List.getElem?_range hlt', Option.map_some]
      simp [getElem!_def, this]
    · cases hi
  · have : l = [] := List.length_eq_zero_iff.1 (by omega)
    subst this
    have : ∀ n, rep ([] : List V) n = [] := by intro n; induction n with | zero => rfl | succ n ih => show [] ++ rep [] n = []; rw [ih]; rfl
    rw [this] at hi; simp at hi
end
end Go.Xe
