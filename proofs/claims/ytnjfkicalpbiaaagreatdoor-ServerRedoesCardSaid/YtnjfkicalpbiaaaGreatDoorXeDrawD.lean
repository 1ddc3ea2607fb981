/-
  A REGION WHOSE ORDER IS DRAWN: every order ends alike (the second part).
-/
import Derived.Test.YtnjfkicalpbiaaaGreatDoorXeDrawC
set_option linter.unusedVariables false
set_option linter.unusedSimpArgs false
set_option linter.unnecessarySimpa false
namespace Go.Xe
open Go.RowKit
theorem fresh1_spec : ∀ (l : List Oper) (i : Nat) (o : Oper), l[fresh1 i l - i]? = some o → i ≤ fresh1 i l ∧ isFr o.op = true
  | [], i, o, h => by simp at h
  | x :: r, i, o, h => by
    have hle : ∀ (l : List Oper) (i : Nat), i ≤ fresh1 i l := by
      intro l
      induction l with
      | nil => intro i; exact Nat.le_refl _
      | cons y l ih =>
        intro i
        simp only [fresh1]
        split
        · have := ih (i + 1); omega
        · split
          · exact Nat.le_refl _
          · have := ih (i + 1); omega
    refine ⟨hle _ _, ?_⟩
    simp only [fresh1] at h
    split at h
    · have := hle r (i + 1)
      rw [show fresh1 (i + 1) r - i = (fresh1 (i + 1) r - (i + 1)) + 1 by omega, List.getElem?_cons_succ] at h
      exact (fresh1_spec r (i + 1) o h).2
    · split at h
      · rename_i hf
        simp at h
        subst h; exact hf
      · have := hle r (i + 1)
        rw [show fresh1 (i + 1) r - i = (fresh1 (i + 1) r - (i + 1)) + 1 by omega, List.getElem?_cons_succ] at h
        exact (fresh1_spec r (i + 1) o h).2
theorem isFr_nosel {op : Op} (h : isFr op = true) (cs : Array SelectCase) (b : Bool) : op ≠ .select cs b := by
  intro e; subst e; simp [isFr] at h
theorem alloc_inj {w : World} {x y : Obj} (h : w.alloc x = w.alloc y) : x = y := by
  have h1 : (w.alloc x).heap[w.heap.size]? = some x := by show (w.heap.push x)[w.heap.size]? = _; simp
  have h2 : (w.alloc y).heap[w.heap.size]? = some y := by show (w.heap.push y)[w.heap.size]? = _; simp
  rw [h, h2] at h1; cases h1; rfl
section
variable {C : Cxt} {call : Caller} {nt U : Nat} {arr : Array Oper} {p : Nat} {Q : Exit → Act → World → Prop}
/-- what is to be shown of a state of the canonical run -/
def Goal (C : Cxt) (nt U : Nat) (arr : Array Oper) (p : Nat) (Q : Exit → Act → World → Prop) (loc : List (Option Nat)) (ln : List Nat) (D : Nat) (φ : Phi) (L : List V) (F : Fr) (S : St) : Prop :=
  ∀ ⦃pd : List (Nat × Obj)⦄ ⦃listed : Array Bool⦄ ⦃a b : Act⦄ ⦃w : World⦄, DInv C nt U arr (Ms arr) p pd loc ln D φ L F S listed a b w → ∀ (fuel : Nat) (unl : List Nat), (∀ j : Nat, listed[j]? = some false → j ∈ unl) → unl.length ≤ fuel → wpAny C.P .any arr Q fuel listed a w
theorem unl_erase {listed : Array Bool} {unl : List Nat} {j fuel : Nat} (hf : listed[j]? = some false) (hu : ∀ j : Nat, listed[j]? = some false → j ∈ unl) (hl : unl.length ≤ fuel + 1) :
    (∀ q : Nat, (listed.setIfInBounds j true)[q]? = some false → q ∈ unl.erase j) ∧ (unl.erase j).length ≤ fuel := by
  refine ⟨fun q hq => ?_, by rw [List.length_erase_of_mem (hu j hf)]; omega⟩
  rw [set_listed hf] at hq
  split at hq
  · cases hq
  · rename_i hne
    exact (List.mem_erase_of_ne hne).2 (hu q hq)
theorem not_listed {C : Cxt} {pd : List (Nat × Obj)} {loc : List (Option Nat)} {ln : List Nat} {D : Nat} {φ : Phi} {L : List V} {F : Fr} {S : St} {listed : Array Bool} {a b : Act} {w : World} (I : DInv C nt U arr (Ms arr) p pd loc ln D φ L F S listed a b w) {i : Nat} {o : Oper} (ho : arr[i]? = some o) (hD : D.testBit i = false) (hip : i ≠ p ∨ pd = []) : listed[i]? = some false := by
  have hil : listed[i]? ≠ some true := fun h => by
    rcases I.sub i h with h | ⟨h1, h2⟩
    · rw [hD] at h; cases h
    · rcases hip with h | h
      · exact h h1
      · exact h2 h
  have hlt := (Array.getElem?_eq_some_iff.1 ho).1
  have : listed[i]? = some (listed[i]'(by rw [I.lsz]; exact hlt)) := Array.getElem?_eq_getElem _
  rw [this] at hil ⊢
  cases hb : listed[i]'(by rw [I.lsz]; exact hlt) with
  | false => rfl
  | true => rw [hb] at hil; exact absurd rfl hil
/-- a step that all orders share -/
theorem sync_ok (hs : Shape arr p) (hsel : NoSelP arr p) {i m : Nat} {o : Oper} (ho : arr[i]? = some o) (hm : (Ms arr)[i]? = some m) (hip : i ≠ p) {loc : List (Option Nat)} {ln : List Nat} {D : Nat} (hD : D.testBit i = false) (hmD : ∀ k, m.testBit k = true → D.testBit k = true)
    (hsole : sole (bit D p) D p i 0 (Ms arr) = true) {put : Fr → V → Fr} (hput : dstB nt U o.dst = .mk put) {pre chk : Chk} (hpre : soon C.P ⟨nt, U, loc⟩ arr.toList (Ms arr) D p ln = .mk pre) (hchk : agains C.P ⟨nt, U, o.dst :: loc⟩ arr.toList m ln = .mk chk)
    {φ : Phi} {L : List V} {F : Fr} {S S' : St} {v : V} (hp : pre L F S = true) (hc : chk (v :: L) (put F v) S' = true)
    (next : ∀ φ', Ext φ φ' → Goal C nt U arr p Q (o.dst :: loc) ln (bit D i) φ' (v :: L) (put F v) S')
    (fire : ∀ {pd : List (Nat × Obj)} {listed : Array Bool} {a b : Act} {w : World}, DInv C nt U arr (Ms arr) p pd loc ln D φ L F S listed a b w → (∀ k ∈ edges o.after.toList, listed[k]? = some true) → ∀ (K' : Act → World → Prop), (∀ φ' X w', Ext φ φ' → Rel (C.hold pd) φ' S' w' → VR C.ρ φ' v X → K' (a.put o.dst X) w') → wpOp C.P arr Q i K' a w) :
    Goal C nt U arr p Q loc ln D φ L F S := by
  suffices ∀ (n : Nat) (pd : List (Nat × Obj)) (listed : Array Bool) (a b : Act) (w : World), DInv C nt U arr (Ms arr) p pd loc ln D φ L F S listed a b w → ∀ (fuel : Nat) (unl : List Nat), (∀ j : Nat, listed[j]? = some false → j ∈ unl) → unl.length ≤ fuel → fuel ≤ n → wpAny C.P .any arr Q fuel listed a w from
    fun pd listed a b w I fuel unl h1 h2 => this fuel pd listed a b w I fuel unl h1 h2 (Nat.le_refl _)
  intro n
  induction n with
  | zero =>
    intro pd listed a b w I fuel unl hu hl hn
    have : unl = [] := List.length_eq_zero_iff.1 (by omega)
    subst this
    have := hu i (not_listed I ho hD (.inl hip))
    cases this
  | succ n ih =>
    intro pd listed a b w I fuel unl hu hl hn
    cases fuel with
    | zero => exact ih pd listed a b w I 0 unl hu hl (Nat.zero_le _)
    | succ fuel =>
      have hif := not_listed I ho hD (.inl hip)
      refine ⟨fun hr => ?_, fun j hj => ?_⟩
      · obtain ⟨j, hj⟩ := some_ready I.lsz hs.low i i (Nat.le_refl _) hif
        rw [hr] at hj; cases hj
      · obtain ⟨hjf, oj, hoj, hej⟩ := ready_iff.1 hj
        obtain ⟨hu', hl'⟩ := unl_erase hjf hu hl
        cases hDj : D.testBit j with
        | true => exact I.late hs (fun _ => hsel) hj hDj fun a' I' => ih pd _ a' b w I' fuel (unl.erase j) hu' hl' (by omega)
        | false =>
          obtain ⟨mj, hmj⟩ := ms_at hoj
          have hmjl : ∀ q, mj.testBit q = true → listed[q]? = some true := anc_listed I.clo j j (Nat.le_refl _) oj mj hoj hmj hej
          have hji : j = i ∨ j = p := by
            have := sole_spec _ _ _ _ _ _ hsole j mj hmj (by simpa using hDj) (fun q hq => by
              rw [bit_test]
              rcases I.sub q (hmjl q hq) with h | ⟨h, _⟩
              · rw [h]; rfl
              · simp [h])
            simpa using this
          by_cases hjp : j = p
          · -- p comes before its time
            subst hjp
            have hpd : pd = [] := by
              rcases I.pnd with h | ⟨k, y, o', X, we, _, _, h, _⟩
              · exact h
              · rw [hjf] at h; cases h
            subst hpd
            have hmjD : ∀ q, mj.testBit q = true → D.testBit q = true := fun q hq => by
              rcases I.sub q (hmjl q hq) with h | ⟨_, h⟩
              · exact h
              · exact absurd rfl h
            unfold soon at hpre
            rw [nth_get, Array.getElem?_toList, hoj] at hpre
            dsimp only at hpre
            rw [nth_get, hmj] at hpre
            dsimp only at hpre
            rw [tst_eq, hDj, (subM_iff _ _).2 hmjD] at hpre
            simp only [Bool.not_true, Bool.or_self] at hpre
            split at hpre
            · cases hpre
            rename_i f hf
            split at hpre
            · cases hpre
            rename_i g hg
            cases hpre
            dsimp only at hp
            split at hp
            rotate_left
            · cases hp
            rename_i q hq
            obtain ⟨hgu, hfb⟩ := frG_some hf
            obtain ⟨X, y, sz, hex, hob, hvr⟩ := frB_ok (C := C) hfb I.env hq w oj rfl
            have hag := I.agree hs hoj hmj hmjl (fun h => absurd rfl h)
            have hexa : (execOp a.eval oj).run C.P w = .ok (.value X) (w.alloc y) := by rw [exec_agree hag (fr_nosel hfb)]; exact hex
            have hw : Region.wanted oj (yielded arr a.tmps) = true := by simp [Region.wanted, hgu]
            unfold Go.wpOp
            simp only [hoj]
            rw [if_pos hw]
            refine .inl ?_
            unfold Oper.wp
            rw [hexa]
            show wpAny C.P .any arr Q fuel (listed.setIfInBounds j true) (a.put oj.dst X) (w.alloc y)
            obtain ⟨b', E', d1, d2, d3, d4⟩ := agains_ok (C := C.hold [(w.heap.size, y)]) (x := ⟨nt, U, loc⟩) (I.rel.early y) (fun q => listed[q]? = some false) (fun q _ => Nat.zero_testBit q) ln I.lord (fun q hq oq d hoq hd => I.ld q oq d (I.lnD q hq) hoq hd) hg hp I.env
            have hself : ∀ t ∈ looks arr.toList oj, oj.dst ≠ some t := fun t ht e => by
              rcases hs.lk j oj mj hoj hmj j oj mj t hoj hmj e ht with h | h <;> exact absurd (anc_low hs j j (Nat.le_refl _) oj mj hoj hmj j h) (by omega)
            refine ih [(w.heap.size, y)] _ (a.put oj.dst X) b' _ ⟨I.rel.early y, E', I.fv, by rw [put_defers]; exact I.dfa, by rw [d1]; exact I.dfb, by rw [put_size, d2]; exact I.sz, by rw [Array.size_setIfInBounds]; exact I.lsz, ?_, I.anc, I.ld, ?_, ?_, I.lnD, ?_, I.nb, I.lord, ?_, ?_⟩ fuel (unl.erase j) hu' hl' (by omega)
            · refine .inr ⟨w.heap.size, y, oj, X, w, rfl, (Cxt.hold_none.1 I.rel.keep.new).1, by rw [set_listed hjf, if_pos rfl], hDj, hoj, ?_, rfl, put_put ..⟩
              rw [exec_agree (arr := arr) (a := a.put oj.dst X) (a' := a) (fun t ht => slot_put_ne (hself t ht)) (fr_nosel hfb)]
              exact hexa
            · intro q hq
              rw [set_listed hjf] at hq
              split at hq
              · rename_i e; exact .inr ⟨e, by simp⟩
              · rcases I.sub q hq with h | ⟨_, h⟩
                · exact .inl h
                · exact absurd rfl h
            · intro q oq hoq hq r hr
              rw [set_listed hjf] at hq ⊢
              split
              · rfl
              · split at hq
                · rename_i e; subst e; rw [hoj] at hoq; cases hoq; exact hej r hr
                · exact I.clo q oq hoq hq r hr
            · intro q hq hqf
              rw [set_listed hjf] at hqf
              split at hqf
              · cases hqf
              · exact I.dl q hq hqf
            · intro t ht ht'
              have hne : ∀ q ∈ ln, listed[q]? = some false → ∀ oq, arr[q]? = some oq → oq.dst ≠ some t := fun q hq hqf oq hoq => ht q hq (by rw [set_listed hjf, if_neg (show ¬ q = j from fun e' => by rw [e'] at hq; have := I.lnD j hq; rw [hDj] at this; cases this)]; exact hqf) oq hoq
              rw [slot_put_ne (ht' (by simp) oj hoj), d3 t hne]
              exact I.same t hne fun h => absurd rfl h
            · intro q hq hqf oq hoq
              rw [set_listed hjf] at hqf
              split at hqf
              · cases hqf
              · exact d4 q hq hqf oq hoq
          · have hji : j = i := hji.resolve_right hjp
            subst hji
            rw [ho] at hoj; cases hoj
            refine fire I hej _ fun φ' X w' e R' kX => ?_
            obtain ⟨b', I'⟩ := I.step hs ho hm hD hmD hif hej hput e R' kX hchk hc (fun h => h) (I.pnd_step hs (fun _ => hsel) ho hm hif hip (fun hne => by
              cases hb : m.testBit p with
              | false => rfl
              | true => have := hmD p hb; rw [I.pD hne] at this; cases this) X (bit D j) (fun hne => by
              rw [bit_test, I.pD hne]; simp; exact hip)) (fun h => h)
            exact next φ' e I' fuel (unl.erase j) hu' hl'
/-- p in its time -/
theorem fresh_ok (hs : Shape arr p) (hsel : NoSelP arr p) {m : Nat} {o : Oper} (ho : arr[p]? = some o) (hm : (Ms arr)[p]? = some m) {loc : List (Option Nat)} {ln : List Nat} {D : Nat} (hD : D.testBit p = false) (hmD : ∀ k, m.testBit k = true → D.testBit k = true)
    (hsole : sole D D p p 0 (Ms arr) = true) {put : Fr → V → Fr} (hput : dstB nt U o.dst = .mk put) {f : Frs} (hf : frG C.P ⟨nt, U, loc⟩ o = .mk f) {chk : Chk} (hchk : agains C.P ⟨nt, U, o.dst :: loc⟩ arr.toList m ln = .mk chk)
    {φ : Phi} {L : List V} {F : Fr} {S : St} {x : O} {mk : Nat → V} (hv : f L F = some (x, mk)) (hc : chk (mk S.next :: L) (put F (mk S.next)) ⟨S.heap.put S.next (some x), S.next + 1⟩ = true)
    (next : ∀ φ', Ext φ φ' → Goal C nt U arr p Q (o.dst :: loc) ln (bit D p) φ' (mk S.next :: L) (put F (mk S.next)) ⟨S.heap.put S.next (some x), S.next + 1⟩) :
    Goal C nt U arr p Q loc ln D φ L F S := by
  obtain ⟨hgu, hfb⟩ := frG_some hf
  intro pd listed a b w I fuel unl hu hl
  rcases I.pnd with hpd | ⟨k, y, o', X, we, hpd, hk, hlp, _, ho', hex, hwe, hpt⟩
  · -- it has not come yet
    subst hpd
    suffices ∀ (n : Nat) (listed : Array Bool) (a b : Act) (w : World), DInv C nt U arr (Ms arr) p [] loc ln D φ L F S listed a b w → ∀ (fuel : Nat) (unl : List Nat), (∀ j : Nat, listed[j]? = some false → j ∈ unl) → unl.length ≤ fuel → fuel ≤ n → wpAny C.P .any arr Q fuel listed a w from
      this fuel listed a b w I fuel unl hu hl (Nat.le_refl _)
    clear I hu hl
    intro n
    induction n with
    | zero =>
      intro listed a b w I fuel unl hu hl hn
      have : unl = [] := List.length_eq_zero_iff.1 (by omega)
      subst this
      have := hu p (not_listed I ho hD (.inr rfl))
      cases this
    | succ n ih =>
      intro listed a b w I fuel unl hu hl hn
      cases fuel with
      | zero => exact ih listed a b w I 0 unl hu hl (Nat.zero_le _)
      | succ fuel =>
        have hif := not_listed I ho hD (.inr rfl)
        refine ⟨fun hr => ?_, fun j hj => ?_⟩
        · obtain ⟨j, hj⟩ := some_ready I.lsz hs.low p p (Nat.le_refl _) hif
          rw [hr] at hj; cases hj
        · obtain ⟨hjf, oj, hoj, hej⟩ := ready_iff.1 hj
          obtain ⟨hu', hl'⟩ := unl_erase hjf hu hl
          cases hDj : D.testBit j with
          | true => exact I.late hs (fun _ => hsel) hj hDj fun a' I' => ih _ a' b w I' fuel (unl.erase j) hu' hl' (by omega)
          | false =>
            obtain ⟨mj, hmj⟩ := ms_at hoj
            have hmjl : ∀ q, mj.testBit q = true → listed[q]? = some true := anc_listed I.clo j j (Nat.le_refl _) oj mj hoj hmj hej
            have hji : j = p := by
              have := sole_spec _ _ _ _ _ _ hsole j mj hmj (by simpa using hDj) (fun q hq => by
                rcases I.sub q (hmjl q hq) with h | ⟨_, h⟩
                · exact h
                · exact absurd rfl h)
              simpa using this
            subst hji
            rw [ho] at hoj; cases hoj
            rw [hm] at hmj; cases hmj
            obtain ⟨X, y, sz, hex, hob, hvr⟩ := frB_ok (C := C) hfb I.env hv w o rfl
            have hag := I.agree hs ho hm hmjl (fun h => absurd rfl h)
            have hexa : (execOp a.eval o).run C.P w = .ok (.value X) (w.alloc y) := by rw [exec_agree hag (fr_nosel hfb)]; exact hex
            have hw : Region.wanted o (yielded arr a.tmps) = true := by simp [Region.wanted, hgu]
            unfold Go.wpOp
            simp only [ho]
            rw [if_pos hw]
            refine .inl ?_
            unfold Oper.wp
            rw [hexa]
            show wpAny C.P .any arr Q fuel (listed.setIfInBounds j true) (a.put o.dst X) (w.alloc y)
            obtain ⟨φ', e, hB, R'⟩ := I.rel.new x y 0 sz hob
            obtain ⟨b', I'⟩ := I.step hs ho hm hD hmD hif hej hput e (pd' := []) R' (hvr φ' _ hB) hchk hc (fun h => h) (.inl rfl) (fun h => h)
            exact next φ' e I' fuel (unl.erase j) hu' hl'
  · -- it has come already
    rw [ho] at ho'; cases ho'
    have hne : pd ≠ [] := by rw [hpd]; simp
    have hml := I.listed_anc ho hm hlp
    have hpm : ∀ (j : Nat) oj mj, D.testBit j = true → arr[j]? = some oj → (Ms arr)[j]? = some mj → ∀ t ∈ looks arr.toList oj, o.dst ≠ some t := fun j oj mj hj hoj hmj t ht e => by
      rcases hs.lk j oj mj hoj hmj p o m t ho hm e ht with h | h
      · have := I.anc j mj hj hmj p h; rw [hD] at this; cases this
      · rw [bar_no (hs.free o m ho hm) hoj e ht] at h; cases h
    have hself : ∀ t ∈ looks arr.toList o, o.dst ≠ some t := fun t ht e => by
      rcases hs.lk p o m ho hm p o m t ho hm e ht with h | h <;> exact absurd (anc_low hs p p (Nat.le_refl _) o m ho hm p h) (by omega)
    have hag := I.agree hs ho hm hml (fun _ => by
      cases hb : m.testBit p with
      | false => rfl
      | true => exact absurd (anc_low hs p p (Nat.le_refl _) o m ho hm p hb) (by omega))
    obtain ⟨X', y', sz, hex', hob, hvr⟩ := frB_ok (C := C) hfb I.env hv we o rfl
    rw [exec_agree hag (fr_nosel hfb), hex'] at hex
    injection hex with e1 e2
    injection e1 with e1
    have e2 := alloc_inj e2
    subst e1; subst e2
    rw [hwe] at hob hvr
    have hheld : (C.hold pd).kept k = some y' := Cxt.hold_some.2 (.inr ⟨hk, by rw [hpd]; simp [look]⟩)
    obtain ⟨φ', e, hB, R'⟩ := I.rel.adopt hheld (C' := C.hold []) ⟨rfl, rfl⟩ (fun q z hz => by
      rcases Cxt.hold_some.1 hz with h | ⟨_, h⟩
      · exact Cxt.hold_some.2 (.inl h)
      · cases h) (Cxt.hold_none.2 ⟨hk, rfl⟩) x 0 sz hob
    have kX := hvr φ' _ hB
    have hDb : ∀ j, D.testBit j = true → (bit D p).testBit j = true := fun j hj => by rw [bit_test, hj]; rfl
    refine next φ' e (pd := []) (b := b.put o.dst X') (a := a) (listed := listed) (w := w) ⟨R', put_some (I.env.mono e) hput kX, fv_put I.env.small I.fv hput _, I.dfa, by rw [put_defers]; exact I.dfb, by rw [put_size]; exact I.sz, I.lsz, .inl rfl, ?_, ?_, ?_, I.clo, fun j hj => hDb j (I.lnD j hj), ?_, I.nb, I.lord, ?_, ?_⟩ fuel unl hu hl
    · intro j mj hj hmj q hq
      rw [bit_test] at hj
      simp only [Bool.or_eq_true, decide_eq_true_eq] at hj
      rcases hj with hj | hj
      · exact hDb q (I.anc j mj hj hmj q hq)
      · subst hj; rw [hm] at hmj; cases hmj; exact hDb q (hmD q hq)
    · intro j oj d hj hoj hd
      rw [idxOf_cons]
      by_cases e : o.dst = some d
      · rw [if_pos e]; exact ⟨0, rfl⟩
      · rw [if_neg e]
        rw [bit_test] at hj
        simp only [Bool.or_eq_true, decide_eq_true_eq] at hj
        rcases hj with hj | hj
        · obtain ⟨q, hq⟩ := I.ld j oj d hj hoj hd; exact ⟨q + 1, by rw [hq]; rfl⟩
        · subst hj; rw [ho] at hoj; cases hoj; exact absurd hd e
    · intro q hq
      rcases I.sub q hq with h | ⟨h, _⟩
      · exact .inl (hDb q h)
      · exact .inl (by rw [bit_test, h]; simp)
    · intro q hq hqf
      rw [bit_test] at hq
      simp only [Bool.or_eq_true, decide_eq_true_eq] at hq
      rcases hq with hq | hq
      · exact I.dl q hq hqf
      · subst hq; rw [hlp] at hqf; cases hqf
    · intro t ht _
      have hpt' : slot a t = slot (a.put o.dst X') t := by rw [hpt]
      rw [hpt']
      refine slot_put_congr I.sz ?_
      by_cases e : o.dst = some t
      · exact .inl e
      · exact .inr (I.same t ht fun _ oj hoj => by rw [ho] at hoj; cases hoj; exact e)
    · intro q hq hqf oq hoq
      obtain ⟨hns, Y, hY, hpq⟩ := I.dly q hq hqf oq hoq
      obtain ⟨mq, hmq⟩ := ms_at hoq
      have hqD := I.lnD q hq
      refine ⟨hns, Y, hY.agree (fun t ht => (slot_put_ne (hpm q oq mq hqD hoq hmq t ht)).symm) hns, ?_⟩
      rw [Act.put_comm b X' Y (fun d e e' => by
        have := hs.dst p q o oq d ho hoq e e'
        rw [← this, hD] at hqD; cases hqD), hpq]
theorem opsD_ok (K : ∀ l, CallerOK (C.hold l) call) (hs : Shape arr p) (hsel : NoSelP arr p) : ∀ (r : List Nat) (loc : List (Option Nat)) (ln : List Nat) (D : Nat) {f : Cont}, opsD C.P nt U arr.toList (Ms arr) p loc ln D r = .mk f →
    ∀ {φ : Phi} {L : List V} {F : Fr} {S : St}, Holds C nt U φ (f call L F S) Q → Goal C nt U arr p Q loc ln D φ L F S := by
  intro r
  induction r with
  | nil =>
    intro loc ln D f h φ L F S hq pd listed a b w I fuel unl hu hl
    simp only [opsD] at h
    split at h
    rotate_left
    · cases h
    rename_i hallin
    cases h
    have hall := allIn_spec _ _ hallin
    have hpd : pd = [] := by
      rcases I.pnd with h | ⟨k, y, o', X, we, _, _, _, h, h', _⟩
      · exact h
      · have := hall p (by rw [Array.length_toList]; exact (Array.getElem?_eq_some_iff.1 h').1)
        rw [h] at this; cases this
    subst hpd
    suffices ∀ (n : Nat) (listed : Array Bool) (a : Act), DInv C nt U arr (Ms arr) p [] loc ln D φ L F S listed a b w → ∀ (fuel : Nat) (unl : List Nat), (∀ j : Nat, listed[j]? = some false → j ∈ unl) → unl.length ≤ fuel → fuel ≤ n → wpAny C.P .any arr Q fuel listed a w from
      this fuel listed a I fuel unl hu hl (Nat.le_refl _)
    clear I hu hl
    have hend : ∀ {listed : Array Bool} {a : Act}, DInv C nt U arr (Ms arr) p [] loc ln D φ L F S listed a b w → Region.ready .any arr listed = [] → Q .normal a w := fun {listed a} I hr =>
      hq φ a w (Ext.refl φ) I.rel.unhold (I.ends rfl fun i hf => by
        obtain ⟨j, hj⟩ := some_ready I.lsz hs.low i i (Nat.le_refl _) hf
        rw [hr] at hj; cases hj) I.dfa
    intro n
    induction n with
    | zero =>
      intro listed a I fuel unl hu hl hn
      refine wpAny_go (hend I) (fun i hi => ?_) fuel unl hu hl
      have : unl = [] := List.length_eq_zero_iff.1 (by omega)
      subst this
      have := hu i (ready_iff.1 hi).1
      cases this
    | succ n ih =>
      intro listed a I fuel unl hu hl hn
      cases fuel with
      | zero => exact ih listed a I 0 unl hu hl (Nat.zero_le _)
      | succ fuel =>
        refine ⟨hend I, fun i hi => ?_⟩
        have hf := (ready_iff.1 hi).1
        obtain ⟨hu', hl'⟩ := unl_erase hf hu hl
        have hlt : i < arr.toList.length := by rw [Array.length_toList, ← I.lsz]; exact (Array.getElem?_eq_some_iff.1 hf).1
        exact I.late hs (fun _ => hsel) hi (hall i hlt) fun a' I' => ih _ a' I' fuel (unl.erase i) hu' hl' (by omega)
  | cons i r ihr =>
    intro loc ln D f h φ L F S hq
    simp only [opsD] at h
    split at h
    · cases h
    rename_i o ho
    have ho : arr[i]? = some o := by rw [nth_get, Array.getElem?_toList] at ho; exact ho
    split at h
    · cases h
    rename_i m hm
    have hm : (Ms arr)[i]? = some m := by rw [nth_get] at hm; exact hm
    split at h
    · cases h
    rename_i hc
    obtain ⟨c1, c2⟩ := and_true hc
    have c1 : D.testBit i = false := by rw [tst_eq] at c1; simpa using c1
    have c2 := (subM_iff _ _).1 c2
    split at h
    · cases h
    rename_i put hput
    split at h
    · -- p
      rename_i hip
      have hip := beq_eq hip
      subst hip
      split at h
      · cases h
      rename_i hsole
      split at h
      · cases h
      rename_i fr hfr
      split at h
      · cases h
      rename_i chk hchk
      split at h
      · cases h
      rename_i k hk
      cases h
      unfold frCont at hq
      split at hq
      · exact hq.elim
      rename_i q hv
      simp only [frc_eq] at hq
      split at hq
      rotate_left
      · exact hq.elim
      rename_i hck
      exact fresh_ok hs hsel ho hm c1 c2 hsole hput hfr hchk hv hck fun φ' e => ihr _ _ _ hk (hq.mono e)
    · rename_i hip
      have hip : i ≠ p := fun e => by subst e; rw [Nat.beq_refl] at hip; cases hip
      split at h
      · rename_i s hsl
        split at h
        · -- a light one: done at once, whenever it comes
          rename_i hbar
          split at h
          · cases h
          rename_i k hk
          cases h
          dsimp only at hq
          split at hq
          rotate_left
          · exact hq.elim
          rename_i v hv
          obtain ⟨hns, hlg⟩ := lightG_ok hsl
          intro pd listed a b w I fuel unl hu hl
          obtain ⟨X, hY, kX⟩ := hlg I.rel.unhold I.env hv
          have hif := not_listed I ho c1 (.inl hip)
          have hDb : ∀ j, D.testBit j = true → (bit D i).testBit j = true := fun j hj => by rw [bit_test, hj]; rfl
          have hold : ∀ (j : Nat) oj mj, D.testBit j = true → arr[j]? = some oj → (Ms arr)[j]? = some mj → ∀ t ∈ looks arr.toList oj, o.dst ≠ some t := fun j oj mj hj hoj hmj t ht e => by
            rcases hs.lk j oj mj hoj hmj i o m t ho hm e ht with h | h
            · have := I.anc j mj hj hmj i h; rw [c1] at this; cases this
            · rw [bar_no hbar hoj e ht] at h; cases h
          have hself : ∀ t ∈ looks arr.toList o, o.dst ≠ some t := fun t ht e => by
            rcases hs.lk i o m ho hm i o m t ho hm e ht with h | h <;> exact absurd (anc_low hs i i (Nat.le_refl _) o m ho hm i h) (by omega)
          have hdd : ∀ j, D.testBit j = true → ∀ oj, arr[j]? = some oj → ∀ d, o.dst = some d → oj.dst ≠ some d := fun j hj oj hoj d e e' => by
            have := hs.dst i j o oj d ho hoj e e'
            rw [← this, c1] at hj; cases hj
          refine ihr _ _ _ hk hq (b := b.put o.dst X) (a := a) (listed := listed) (pd := pd) (w := w) ⟨I.rel, put_some I.env hput kX, fv_put I.env.small I.fv hput v, I.dfa, by rw [put_defers]; exact I.dfb, by rw [put_size]; exact I.sz, I.lsz, ?_, ?_, ?_, ?_, I.clo, ?_, ?_, ?_, ⟨fun o' ho' => by rw [ho] at ho'; cases ho'; exact ⟨hself, fun j hj oj hoj => ⟨fun t ht => by obtain ⟨mj, hmj⟩ := ms_at hoj; exact hold j oj mj (I.lnD j hj) hoj hmj t ht, hdd j (I.lnD j hj) oj hoj⟩⟩, I.lord⟩, ?_, ?_⟩ fuel unl hu hl
          · rcases I.pnd with h | ⟨k', y, o', X', we, h1, h2, h3, h4, h5, h6, h7, h8⟩
            · exact .inl h
            · exact .inr ⟨k', y, o', X', we, h1, h2, h3, by rw [bit_test, h4]; simp; exact hip, h5, h6, h7, h8⟩
          · intro j mj hj hmj q hq'
            rw [bit_test] at hj
            simp only [Bool.or_eq_true, decide_eq_true_eq] at hj
            rcases hj with hj | hj
            · exact hDb q (I.anc j mj hj hmj q hq')
            · subst hj; rw [hm] at hmj; cases hmj; exact hDb q (c2 q hq')
          · intro j oj d hj hoj hd
            rw [idxOf_cons]
            by_cases e : o.dst = some d
            · rw [if_pos e]; exact ⟨0, rfl⟩
            · rw [if_neg e]
              rw [bit_test] at hj
              simp only [Bool.or_eq_true, decide_eq_true_eq] at hj
              rcases hj with hj | hj
              · obtain ⟨q, hq'⟩ := I.ld j oj d hj hoj hd; exact ⟨q + 1, by rw [hq']; rfl⟩
              · subst hj; rw [ho] at hoj; cases hoj; exact absurd hd e
          · intro q hq'
            rcases I.sub q hq' with h | h
            · exact .inl (hDb q h)
            · exact .inr h
          · intro j hj
            cases hj with
            | head => rw [bit_test]; simp
            | tail _ hj => exact hDb j (I.lnD j hj)
          · intro j hj hjf
            rw [bit_test] at hj
            simp only [Bool.or_eq_true, decide_eq_true_eq] at hj
            rcases hj with hj | hj
            · exact List.mem_cons_of_mem _ (I.dl j hj hjf)
            · subst hj; exact List.mem_cons_self ..
          · intro j hj oj mj hoj hmj
            by_cases hji : j = i
            · subst hji; rw [ho] at hoj; cases hoj; rw [hm] at hmj; cases hmj; exact hbar
            · cases hj with
              | head => exact absurd rfl hji
              | tail _ hj => exact I.nb j hj oj mj hoj hmj
          · intro t ht ht'
            rw [slot_put_ne (ht i (List.mem_cons_self ..) hif o ho)]
            exact I.same t (fun j hj => ht j (List.mem_cons_of_mem _ hj)) ht'
          · intro j hj hjf oj hoj
            by_cases hji : j = i
            · subst hji
              rw [ho] at hoj; cases hoj
              exact ⟨hns, X, hY.agree (fun t ht => (slot_put_ne (hself t ht)).symm) hns, put_put ..⟩
            · have hj : j ∈ ln := by
                cases hj with
                | head => exact absurd rfl hji
                | tail _ hj => exact hj
              obtain ⟨hnsj, X', hY', hp'⟩ := I.dly j hj hjf oj hoj
              obtain ⟨mj, hmj⟩ := ms_at hoj
              refine ⟨hnsj, X', hY'.agree (fun t ht => (slot_put_ne (hold j oj mj (I.lnD j hj) hoj hmj t ht)).symm) hnsj, ?_⟩
              rw [Act.put_comm b X X' (hdd j (I.lnD j hj) oj hoj), hp']
        · -- a light one that bars
          split at h
          · cases h
          rename_i hsole
          split at h
          · cases h
          rename_i pre hpre
          split at h
          · cases h
          rename_i chk hchk
          split at h
          · cases h
          rename_i k hk
          cases h
          unfold ltCont at hq
          split at hq
          · exact hq.elim
          rename_i v hv
          split at hq
          · exact hq.elim
          rename_i hp
          split at hq
          rotate_left
          · exact hq.elim
          rename_i hck
          obtain ⟨hns, hlg⟩ := lightG_ok hsl
          refine sync_ok hs hsel ho hm hip c1 c2 hsole hput hpre hchk hp hck (fun φ' e => ihr _ _ _ hk (hq.mono e)) ?_
          intro pd listed a b w I hej K' hK'
          obtain ⟨X, hY, kX⟩ := hlg I.rel.unhold I.env hv
          have hag := I.agree hs ho hm (anc_listed I.clo i i (Nat.le_refl _) o m ho hm hej) (fun hne => by
            cases hb : m.testBit p with
            | false => rfl
            | true => have := c2 p hb; rw [I.pD hne] at this; cases this)
          exact (hY.agree (fun t ht => (hag t ht).symm) hns).wpOp ho (hK' φ X w (Ext.refl φ) I.rel kX)
      · -- a heavy one
        split at h
        · cases h
        rename_i hsole
        split at h
        · cases h
        rename_i s hsh
        split at h
        · cases h
        rename_i pre hpre
        split at h
        · cases h
        rename_i chk hchk
        split at h
        · cases h
        rename_i k hk
        cases h
        unfold hvCont at hq
        split at hq
        · exact hq.elim
        rename_i v S' hv
        split at hq
        · exact hq.elim
        rename_i hp
        split at hq
        rotate_left
        · exact hq.elim
        rename_i hck
        refine sync_ok hs hsel ho hm hip c1 c2 hsole hput hpre hchk hp hck (fun φ' e => ihr _ _ _ hk (hq.mono e)) ?_
        intro pd listed a b w I hej K' hK'
        have hag := I.agree hs ho hm (anc_listed I.clo i i (Nat.le_refl _) o m ho hm hej) (fun hne => by
          cases hb : m.testBit p with
          | false => rfl
          | true => have := c2 p hb; rw [I.pD hne] at this; cases this)
        unfold heavyG at hsh
        split at hsh
        · cases hsh
        rename_i s0 hs0
        split at hsh
        · cases hsh
        rename_i g hg
        cases hsh
        dsimp only at hv
        unfold Go.wpOp
        simp only [ho]
        split at hv
        · rename_i hgb
          have hw := guardG_ok hg I.env hgb
          rw [← wanted_agree hag] at hw
          rw [if_pos hw]
          refine .inl ?_
          have := heavyB_ok (C := C.hold pd) hs0 (K pd) I.rel I.env hv o rfl (fun b' w' => b'.defers = [] ∧ K' (a.put o.dst (slotO b' o.dst)) w') (fun _ _ _ => False)
            (fun φ' X w' e R' kX => ⟨by rw [put_defers]; exact I.dfb, by rw [put_slotO I.sz]; exact hK' φ' X w' e R' kX⟩)
          unfold Oper.wp at this ⊢
          rw [exec_agree hag (heavy_nosel hs0)]
          exact upon_change I.sz this
        · rename_i hgb
          cases hv
          have hw := guardG_ok hg I.env hgb
          rw [← wanted_agree hag] at hw
          rw [if_neg (by rw [hw]; simp)]
          exact hK' φ undef w (Ext.refl φ) I.rel VR_u
        · cases hv
theorem draw_ok (hm : C.P.follows .mixedOrders = true) (K : ∀ l, CallerOK (C.hold l) call) {id : Nat} {f : Cont} (h : drawB C.P nt U arr.toList = .mk f)
    {φ : Phi} {F : Fr} {S : St} {a : Act} {w : World} (R : Rel C φ S w) (E : Fok C.ρ φ nt U F a) (hd : a.defers = []) (hq : Holds C nt U φ (f call [] F S) Q) : (Code.region id arr true).wp C.P Q a w := by
  unfold drawB at h
  split at h
  · cases h
  rename_i hshape
  dsimp only at h
  split at h
  · cases h
  rename_i hc
  obtain ⟨c1, c2⟩ := and_true hc
  obtain ⟨hlow, _, hdst⟩ := shapeOk_spec _ _ _ hshape
  have hs : Shape arr (fresh1 0 arr.toList) := ⟨fun i o ho k hk => by have := hlow i o (by simpa using ho) k hk; omega, fun j j' o o' d h1 h2 => hdst j j' o o' d (by simpa using h1) (by simpa using h2),
    fun i o m ho hm j oj mj t hoj hmj hd ht => by
      have h1 := looksAll_spec _ _ _ _ _ c1 i o m (by simpa using ho) hm
      have h2 := looksOk_spec _ _ _ _ _ _ h1 j oj mj t (by simpa using hoj) hmj hd ht
      simpa using h2,
    fun o m ho hm => by
      unfold freeOk at c2
      rw [nth_get, Array.getElem?_toList, ho] at c2
      dsimp only at c2
      rw [nth_get, show (ancs arr.toList [])[fresh1 0 arr.toList]? = some m from hm] at c2
      simpa using c2⟩
  have hsel : NoSelP arr (fresh1 0 arr.toList) := fun o ho => isFr_nosel (fresh1_spec arr.toList 0 o (by simpa using ho)).2
  refine wp_region_any hm ?_
  refine opsD_ok K hs hsel _ [] [] 0 h hq (b := a) (pd := []) ⟨R.drew.hold, E, fun t k _ _ h => by simp [idxOf] at h, hd, hd, rfl, by simp, .inl rfl, fun i m h => by simp at h, fun i o d h => by simp at h, fun i h => ?_, fun i o _ h => ?_, fun i h => by simp at h, fun i h => by simp at h, fun i h => by simp at h, trivial, fun _ _ _ => rfl, fun i h => by simp at h⟩ arr.size (List.range arr.size) (fun j hj => ?_) (by simp)
  · have := Array.getElem?_eq_some_iff.1 h
    obtain ⟨h1, h2⟩ := this
    simp at h2
  · have := Array.getElem?_eq_some_iff.1 h
    obtain ⟨h1, h2⟩ := this
    simp at h2
  · have := (Array.getElem?_eq_some_iff.1 hj).1
    simpa using this
end
end Go.Xe
