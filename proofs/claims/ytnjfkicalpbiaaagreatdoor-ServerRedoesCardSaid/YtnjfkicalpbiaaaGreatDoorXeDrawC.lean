/-
  A REGION WHOSE ORDER IS DRAWN: every order ends alike.
-/
import Derived.Test.YtnjfkicalpbiaaaGreatDoorXeDrawB
set_option linter.unusedVariables false
set_option linter.unusedSimpArgs false
set_option linter.unnecessarySimpa false
namespace Go.Xe
open Go.RowKit
structure DInv (C : Cxt) (nt U : Nat) (arr : Array Oper) (ms : List Nat) (p : Nat) (pd : List (Nat × Obj)) (loc : List (Option Nat)) (ln : List Nat) (D : Nat) (φ : Phi) (L : List V) (F : Fr) (S : St) (listed : Array Bool) (a b : Act) (w : World) : Prop where
  rel : Rel (C.hold pd) φ S w
  env : Env C.ρ φ ⟨nt, U, loc⟩ L F b
  fv : ∀ t k, t < nt → tstB U t = true → idxOf t loc = some k → F.at t = L[k]?.getD u
  dfa : a.defers = []
  dfb : b.defers = []
  sz : a.tmps.size = b.tmps.size
  lsz : listed.size = arr.size
  pnd : pd = [] ∨ ∃ k y o X we, pd = [(k, y)] ∧ C.kept k = none ∧ listed[p]? = some true ∧ D.testBit p = false ∧ arr[p]? = some o ∧ (execOp a.eval o).run C.P we = .ok (.value X) (we.alloc y) ∧ we.heap.size = k ∧ a.put o.dst X = a
  anc : ∀ (i : Nat) m, D.testBit i = true → ms[i]? = some m → ∀ k, m.testBit k = true → D.testBit k = true
  ld : ∀ (i : Nat) o d, D.testBit i = true → arr[i]? = some o → o.dst = some d → ∃ k, idxOf d loc = some k
  sub : ∀ i : Nat, listed[i]? = some true → D.testBit i = true ∨ (i = p ∧ pd ≠ [])
  clo : ∀ (i : Nat) o, arr[i]? = some o → listed[i]? = some true → ∀ j ∈ edges o.after.toList, listed[j]? = some true
  lnD : ∀ i ∈ ln, D.testBit i = true
  dl : ∀ i : Nat, D.testBit i = true → listed[i]? = some false → i ∈ ln
  nb : ∀ i ∈ ln, ∀ o m, arr[i]? = some o → ms[i]? = some m → bar arr.toList m o.dst = false
  lord : LOrd arr ln
  same : ∀ t, (∀ i ∈ ln, listed[i]? = some false → ∀ o, arr[i]? = some o → o.dst ≠ some t) → (pd ≠ [] → ∀ o, arr[p]? = some o → o.dst ≠ some t) → slot a t = slot b t
  dly : ∀ i ∈ ln, listed[i]? = some false → ∀ o, arr[i]? = some o → (∀ cs b, o.op ≠ .select cs b) ∧ ∃ X, Yl C.P arr o X b w ∧ b.put o.dst X = b
theorem anc_listed {arr : Array Oper} {listed : Array Bool} (clo : ∀ (i : Nat) o, arr[i]? = some o → listed[i]? = some true → ∀ j ∈ edges o.after.toList, listed[j]? = some true) :
    ∀ (n i : Nat), i ≤ n → ∀ o m, arr[i]? = some o → (ancs arr.toList [])[i]? = some m → (∀ j ∈ edges o.after.toList, listed[j]? = some true) → ∀ k, m.testBit k = true → listed[k]? = some true := by
  intro n
  induction n with
  | zero =>
    intro i hi o m ho hm he k hk
    obtain ⟨pre, h1, h2, h3⟩ := ancs_at arr.toList [] i o (by simpa using ho)
    simp only [List.length_nil, Nat.zero_add] at h1 h3
    rw [hm] at h3; cases h3
    rcases (orM_spec _ _ _ _).1 hk with h | ⟨j, hj, rfl | ⟨q, hq, _⟩⟩
    · simp at h
    · exact he k hj
    · have := (List.getElem?_eq_some_iff.1 hq).1; omega
  | succ n ih =>
    intro i hi o m ho hm he k hk
    obtain ⟨pre, h1, h2, h3⟩ := ancs_at arr.toList [] i o (by simpa using ho)
    simp only [List.length_nil, Nat.zero_add] at h1 h3
    rw [hm] at h3; cases h3
    rcases (orM_spec _ _ _ _).1 hk with h | ⟨j, hj, rfl | ⟨q, hq, hqk⟩⟩
    · simp at h
    · exact he k hj
    · have hlt := (List.getElem?_eq_some_iff.1 hq).1
      have hi' := (Array.getElem?_eq_some_iff.1 ho).1
      have hoj : arr[j]? = some (arr[j]'(by omega)) := Array.getElem?_eq_getElem (by omega)
      exact ih j (by omega) _ q hoj (h2 j q hq) (clo j _ hoj (he j hj)) k hqk
theorem ready_iff {arr : Array Oper} {listed : Array Bool} {j : Nat} : j ∈ Region.ready .any arr listed ↔ listed[j]? = some false ∧ ∃ o, arr[j]? = some o ∧ ∀ k ∈ edges o.after.toList, listed[k]? = some true := by
  rw [mem_ready]
  have g1 : listed.getD j true = false ↔ listed[j]? = some false := by
    rw [Array.getD_eq_getD_getElem?]
    cases listed[j]? <;> simp
  have g2 : ∀ k, listed.getD k false = true ↔ listed[k]? = some true := by
    intro k
    rw [Array.getD_eq_getD_getElem?]
    cases listed[k]? <;> simp
  rw [g1]
  refine and_congr Iff.rfl (exists_congr fun o => and_congr Iff.rfl ?_)
  constructor
  · intro h k hk
    obtain ⟨e, he, hb, rfl⟩ := (edges_mem _ _).1 hk
    exact (g2 _).1 (h e (by simpa using he) hb)
  · intro h e he hb
    exact (g2 _).2 (h e.on ((edges_mem _ _).2 ⟨e, by simpa using he, hb, rfl⟩))
theorem some_ready {arr : Array Oper} {listed : Array Bool} (hs : listed.size = arr.size) (hl : ∀ (i : Nat) o, arr[i]? = some o → ∀ k ∈ edges o.after.toList, k < i) :
    ∀ (n i : Nat), i ≤ n → listed[i]? = some false → ∃ j, j ∈ Region.ready .any arr listed := by
  intro n
  induction n with
  | zero =>
    intro i hi h
    have hlt := (Array.getElem?_eq_some_iff.1 h).1
    have ho : arr[i]? = some (arr[i]'(by omega)) := Array.getElem?_eq_getElem (by omega)
    exact ⟨i, ready_iff.2 ⟨h, _, ho, fun k hk => absurd (hl i _ ho k hk) (by omega)⟩⟩
  | succ n ih =>
    intro i hi h
    have hlt := (Array.getElem?_eq_some_iff.1 h).1
    have ho : arr[i]? = some (arr[i]'(by omega)) := Array.getElem?_eq_getElem (by omega)
    by_cases hall : ∀ k ∈ edges (arr[i]'(by omega)).after.toList, listed[k]? = some true
    · exact ⟨i, ready_iff.2 ⟨h, _, ho, hall⟩⟩
    · have : ∃ k, k ∈ edges (arr[i]'(by omega)).after.toList ∧ ¬ listed[k]? = some true := Classical.byContradiction fun hn => hall fun k hk => Classical.byContradiction fun h' => hn ⟨k, hk, h'⟩
      obtain ⟨k, hk, hk'⟩ := this
      have hki := hl i _ ho k hk
      refine ih k (by omega) ?_
      have : listed[k]? = some (listed[k]'(by omega)) := Array.getElem?_eq_getElem (by omega)
      rw [this] at hk' ⊢
      cases hb : listed[k]'(by omega) with
      | false => rfl
      | true => rw [hb] at hk'; exact absurd rfl hk'
theorem set_listed {listed : Array Bool} {i : Nat} (h : listed[i]? = some false) (j : Nat) : (listed.setIfInBounds i true)[j]? = if j = i then some true else listed[j]? := by
  have hlt := (Array.getElem?_eq_some_iff.1 h).1
  by_cases e : j = i
  · subst e; rw [if_pos rfl]; simp [hlt]
  · rw [if_neg e, Array.getElem?_setIfInBounds_ne (fun h => e h.symm)]
/-- a slot's new value, read from the other's frame -/
def slotO (a : Act) : Option Nat → Value | some d => slot a d | none => undef
theorem put_slotO {a b : Act} (hs : a.tmps.size = b.tmps.size) (o : Option Nat) (X : Value) : a.put o (slotO (b.put o X) o) = a.put o X := by
  cases o with
  | none => rfl
  | some d =>
    by_cases h : d < b.tmps.size
    · have : slotO (b.put (some d) X) (some d) = X := by show slot _ d = X; rw [slot_put h, if_pos rfl]
      rw [this]
    · have h' : ¬ d < a.tmps.size := by omega
      simp only [Act.put]
      have g : ∀ Y, a.tmps.setIfInBounds d Y = a.tmps := fun Y => by
        apply Array.ext_getElem?
        intro j
        by_cases e : j = d
        · subst e; rw [Array.getElem?_eq_none (by simpa using h'), Array.getElem?_eq_none (by simpa using h')]
        · rw [Array.getElem?_setIfInBounds_ne (fun h => e h.symm)]
      rw [g, g]
theorem upon_change {P : Program} {o : Oper} {a b : Act} {K : Act → World → Prop} {Q : Exit → Act → World → Prop} (hs : a.tmps.size = b.tmps.size) {r : Result Next}
    (h : o.upon P b (fun b' w' => b'.defers = [] ∧ K (a.put o.dst (slotO b' o.dst)) w') (fun _ _ _ => False) r) : o.upon P a K Q r := by
  cases r with
  | ok n w' =>
    cases n <;> simp only [Oper.upon] at h ⊢
    case value v => rw [put_slotO hs] at h; exact h.2
    case skip => rw [put_slotO hs] at h; exact h.2
    case defer d =>
      have := h.1
      rw [put_defers] at this
      cases this
    case enter f args =>
      refine Calls.mono h fun e w'' he => ?_
      cases e with
      | returned v => have he := he.2; rw [put_slotO hs] at he; exact he
      | panicked c => exact he.elim
      | outgrown => obtain ⟨_, _, he⟩ := he; exact he.elim
    case row row args => exact Rows.mono h fun v w'' he => by rw [put_slotO hs] at he; exact he.2
  | halt x w' =>
    cases x <;> simp only [Oper.upon] at h ⊢
theorem wpAny_go {P : Program} {arr : Array Oper} {Q : Exit → Act → World → Prop} {listed : Array Bool} {a : Act} {w : World}
    (h0 : Region.ready .any arr listed = [] → Q .normal a w) (h1 : ∀ i ∈ Region.ready .any arr listed, ∀ (fuel : Nat) (unl : List Nat), (∀ j : Nat, (listed.setIfInBounds i true)[j]? = some false → j ∈ unl) → unl.length ≤ fuel → wpOp P arr Q i (wpAny P .any arr Q fuel (listed.setIfInBounds i true)) a w) :
    ∀ (fuel : Nat) (unl : List Nat), (∀ j : Nat, listed[j]? = some false → j ∈ unl) → unl.length ≤ fuel → wpAny P .any arr Q fuel listed a w
  | 0, unl, hu, hl => by
    have : unl = [] := List.length_eq_zero_iff.1 (by omega)
    subst this
    have hr : Region.ready .any arr listed = [] := List.eq_nil_iff_forall_not_mem.2 fun i hi => by have := hu i (ready_iff.1 hi).1; cases this
    exact ⟨hr, h0 hr⟩
  | fuel + 1, unl, hu, hl => by
    refine ⟨h0, fun i hi => ?_⟩
    have hf := (ready_iff.1 hi).1
    have hin := hu i hf
    refine h1 i hi fuel (unl.erase i) (fun j hj => ?_) (by rw [List.length_erase_of_mem hin]; omega)
    rw [set_listed hf] at hj
    split at hj
    · cases hj
    · rename_i hne
      exact (List.mem_erase_of_ne hne).2 (hu j hj)
/-- the checks on a region as it stands -/
structure Shape (arr : Array Oper) (p : Nat) : Prop where
  low : ∀ (i : Nat) o, arr[i]? = some o → ∀ k ∈ edges o.after.toList, k < i
  dst : ∀ (j j' : Nat) o o' d, arr[j]? = some o → arr[j']? = some o' → o.dst = some d → o'.dst = some d → j = j'
  lk : ∀ (i : Nat) o m, arr[i]? = some o → (ancs arr.toList [])[i]? = some m → ∀ (j : Nat) oj mj t, arr[j]? = some oj → (ancs arr.toList [])[j]? = some mj → oj.dst = some t → t ∈ looks arr.toList o → m.testBit j = true ∨ mj.testBit i = true
  free : ∀ o m, arr[p]? = some o → (ancs arr.toList [])[p]? = some m → bar arr.toList m o.dst = false
abbrev Ms (arr : Array Oper) : List Nat := ancs arr.toList []
theorem ms_at {arr : Array Oper} {i : Nat} {o : Oper} (h : arr[i]? = some o) : ∃ m, (Ms arr)[i]? = some m := by
  have hlt := (Array.getElem?_eq_some_iff.1 h).1
  exact ⟨(Ms arr)[i]'(by rw [ancs_length]; simp; exact hlt), List.getElem?_eq_getElem _⟩
theorem bar_no {arr : Array Oper} {o : Oper} {m i : Nat} {oi : Oper} {t : Nat} (h : bar arr.toList m o.dst = false) (hi : arr[i]? = some oi) (hd : o.dst = some t) (ht : t ∈ looks arr.toList oi) : m.testBit i = false := by
  cases hb : m.testBit i with
  | false => rfl
  | true => exact absurd ht (bar_spec h i oi t (by simpa using hi) hb hd)
theorem anc_low {arr : Array Oper} {p : Nat} (hs : Shape arr p) : ∀ (n i : Nat), i ≤ n → ∀ o m, arr[i]? = some o → (Ms arr)[i]? = some m → ∀ k, m.testBit k = true → k < i := by
  intro n
  induction n with
  | zero =>
    intro i hi o m ho hm k hk
    obtain ⟨pre, h1, h2, h3⟩ := ancs_at arr.toList [] i o (by simpa using ho)
    simp only [List.length_nil, Nat.zero_add] at h1 h3
    rw [hm] at h3; cases h3
    rcases (orM_spec _ _ _ _).1 hk with h | ⟨j, hj, rfl | ⟨q, hq, _⟩⟩
    · simp at h
    · exact hs.low i o ho k hj
    · have := (List.getElem?_eq_some_iff.1 hq).1; omega
  | succ n ih =>
    intro i hi o m ho hm k hk
    obtain ⟨pre, h1, h2, h3⟩ := ancs_at arr.toList [] i o (by simpa using ho)
    simp only [List.length_nil, Nat.zero_add] at h1 h3
    rw [hm] at h3; cases h3
    rcases (orM_spec _ _ _ _).1 hk with h | ⟨j, hj, rfl | ⟨q, hq, hqk⟩⟩
    · simp at h
    · exact hs.low i o ho k hj
    · have hlt := (List.getElem?_eq_some_iff.1 hq).1
      have hi' := (Array.getElem?_eq_some_iff.1 ho).1
      have hoj : arr[j]? = some (arr[j]'(by omega)) := Array.getElem?_eq_getElem (by omega)
      have := ih j (by omega) _ q hoj (h2 j q hq) k hqk
      omega
section
variable {C : Cxt} {nt U : Nat} {arr : Array Oper} {p : Nat} {pd : List (Nat × Obj)} {loc : List (Option Nat)} {ln : List Nat} {D : Nat} {φ : Phi} {L : List V} {F : Fr} {S : St} {listed : Array Bool} {a b : Act} {w : World}
/-- the frames agree on what an operation looks at, if what must go before it is listed, and done -/
theorem DInv.agree (I : DInv C nt U arr (Ms arr) p pd loc ln D φ L F S listed a b w) (hs : Shape arr p) {i m : Nat} {o : Oper} (ho : arr[i]? = some o) (hm : (Ms arr)[i]? = some m) (hl : ∀ k, m.testBit k = true → listed[k]? = some true) (hp : pd ≠ [] → m.testBit p = false) : agree a b (looks arr.toList o) := by
  intro t ht
  refine I.same t (fun j hj hf oj hoj e => ?_) fun hne oj hoj e => ?_
  · obtain ⟨mj, hmj⟩ := ms_at hoj
    rcases hs.lk i o m ho hm j oj mj t hoj hmj e ht with h | h
    · rw [hl j h] at hf; cases hf
    · rw [bar_no (I.nb j hj oj mj hoj hmj) ho e ht] at h; cases h
  · obtain ⟨mj, hmj⟩ := ms_at hoj
    rcases hs.lk i o m ho hm p oj mj t hoj hmj e ht with h | h
    · rw [hp hne] at h; cases h
    · rw [bar_no (hs.free oj mj hoj hmj) ho e ht] at h; cases h
theorem DInv.pD (I : DInv C nt U arr (Ms arr) p pd loc ln D φ L F S listed a b w) (hne : pd ≠ []) : D.testBit p = false := by
  rcases I.pnd with h | ⟨k, y, o, X, we, _, _, _, h, _⟩
  · exact absurd h hne
  · exact h
/-- the block that came early stays so, whatever slot is laid that it does not look at -/
theorem pnd_put {P : Program} {a : Act} {o oi : Oper} {X Y : Value} {we : World} {y : Obj} (hns : ∀ cs b, o.op ≠ .select cs b) (he : (execOp a.eval o).run P we = .ok (.value X) (we.alloc y)) (hp : a.put o.dst X = a) (h1 : ∀ t ∈ looks arr.toList o, oi.dst ≠ some t) (h2 : ∀ d, oi.dst = some d → o.dst ≠ some d) :
    (execOp (a.put oi.dst Y).eval o).run P we = .ok (.value X) (we.alloc y) ∧ (a.put oi.dst Y).put o.dst X = a.put oi.dst Y := by
  refine ⟨?_, ?_⟩
  · rw [exec_agree (arr := arr) (a := a.put oi.dst Y) (a' := a) (fun t ht => slot_put_ne (h1 t ht)) hns]; exact he
  · rw [Act.put_comm a Y X h2, hp]
/-- what comes before a listed operation is listed -/
theorem DInv.listed_anc (I : DInv C nt U arr (Ms arr) p pd loc ln D φ L F S listed a b w) {i m : Nat} {o : Oper} (ho : arr[i]? = some o) (hm : (Ms arr)[i]? = some m) (h : listed[i]? = some true) : ∀ k, m.testBit k = true → listed[k]? = some true :=
  anc_listed I.clo i i (Nat.le_refl _) o m ho hm (I.clo i o ho h)
/-- a light operation of p's kind does not select -/
def NoSelP (arr : Array Oper) (p : Nat) : Prop := ∀ o, arr[p]? = some o → ∀ cs b, o.op ≠ .select cs b
/-- the pending block goes on when slot after slot is laid -/
theorem DInv.pnd_step (I : DInv C nt U arr (Ms arr) p pd loc ln D φ L F S listed a b w) (hs : Shape arr p) (hsel : pd ≠ [] → NoSelP arr p) {i : Nat} {o : Oper} {m : Nat} (ho : arr[i]? = some o) (hm : (Ms arr)[i]? = some m) (hf : listed[i]? = some false) (hip : i ≠ p) (hmp : pd ≠ [] → m.testBit p = false) (X : Value) (D' : Nat) (hD : pd ≠ [] → D'.testBit p = false) :
    pd = [] ∨ ∃ k y o' X' we, pd = [(k, y)] ∧ C.kept k = none ∧ (listed.setIfInBounds i true)[p]? = some true ∧ D'.testBit p = false ∧ arr[p]? = some o' ∧ (execOp (a.put o.dst X).eval o').run C.P we = .ok (.value X') (we.alloc y) ∧ we.heap.size = k ∧ (a.put o.dst X).put o'.dst X' = a.put o.dst X := by
  rcases I.pnd with h | ⟨k, y, o', X', we, h1, h2, h3, h4, h5, h6, h7, h8⟩
  · exact .inl h
  · have hne : pd ≠ [] := by rw [h1]; simp
    obtain ⟨mp, hmpp⟩ := ms_at h5
    obtain ⟨g1, g2⟩ := pnd_put (arr := arr) (oi := o) (Y := X) (hsel hne o' h5) h6 h8 (fun t ht e => by
      rcases hs.lk p o' mp h5 hmpp i o m t ho hm e ht with h | h
      · have := I.listed_anc h5 hmpp h3 i h
        rw [hf] at this; cases this
      · rw [hmp hne] at h; cases h) (fun d e e' => hip (hs.dst i p o o' d ho h5 e e'))
    exact .inr ⟨k, y, o', X', we, h1, h2, by rw [set_listed hf, if_neg (fun e => hip e.symm)]; exact h3, hD hne, h5, g1, h7, g2⟩
/-- an operation that was put off -/
theorem DInv.late (I : DInv C nt U arr (Ms arr) p pd loc ln D φ L F S listed a b w) (hs : Shape arr p) (hsel : pd ≠ [] → NoSelP arr p) {i : Nat} (hr : i ∈ Region.ready .any arr listed) (hD : D.testBit i = true) {Q : Exit → Act → World → Prop} {K : Act → World → Prop}
    (hK : ∀ a', DInv C nt U arr (Ms arr) p pd loc ln D φ L F S (listed.setIfInBounds i true) a' b w → K a' w) : wpOp C.P arr Q i K a w := by
  obtain ⟨hf, o, ho, he⟩ := ready_iff.1 hr
  have hin := I.dl i hD hf
  obtain ⟨hns, X, hY, hp⟩ := I.dly i hin hf o ho
  obtain ⟨m, hm⟩ := ms_at ho
  have hmp : pd ≠ [] → m.testBit p = false := fun hne => by
    cases hb : m.testBit p with
    | false => rfl
    | true => have := I.anc i m hD hm p hb; rw [I.pD hne] at this; cases this
  have hag := I.agree hs ho hm (anc_listed I.clo i i (Nat.le_refl _) o m ho hm he) hmp
  have hY' : Yl C.P arr o X a w := hY.agree (fun t ht => (hag t ht).symm) hns
  refine hY'.wpOp ho (hK _ ⟨I.rel, I.env, I.fv, by rw [put_defers]; exact I.dfa, I.dfb, by rw [put_size]; exact I.sz, by rw [Array.size_setIfInBounds]; exact I.lsz, ?_, I.anc, I.ld, ?_, ?_, I.lnD, ?_, I.nb, I.lord, ?_, ?_⟩)
  · by_cases hne : pd = []
    · exact .inl hne
    · exact I.pnd_step hs hsel ho hm hf (fun e => by subst e; rw [I.pD hne] at hD; cases hD) hmp X D I.pD
  · intro j hj
    rw [set_listed hf] at hj
    split at hj
    · rename_i e; subst e; exact .inl hD
    · exact I.sub j hj
  · intro j oj hoj hj k hk
    rw [set_listed hf] at hj ⊢
    split
    · rfl
    · split at hj
      · rename_i e; subst e; rw [ho] at hoj; cases hoj; exact he k hk
      · exact I.clo j oj hoj hj k hk
  · intro j hj hjf
    rw [set_listed hf] at hjf
    split at hjf
    · cases hjf
    · exact I.dl j hj hjf
  · intro t ht ht'
    rw [← hp]
    refine slot_put_congr I.sz ?_
    by_cases e : o.dst = some t
    · exact .inl e
    · refine .inr (I.same t (fun j hj hjf oj hoj => ?_) ht')
      by_cases hji : j = i
      · subst hji; rw [ho] at hoj; cases hoj; exact e
      · exact ht j hj (by rw [set_listed hf, if_neg hji]; exact hjf) oj hoj
  · intro j hj hjf oj hoj
    rw [set_listed hf] at hjf
    split at hjf
    · cases hjf
    · exact I.dly j hj hjf oj hoj
theorem fv_put (hsm : nt ≤ 256) (h : ∀ t k, t < nt → tstB U t = true → idxOf t loc = some k → F.at t = L[k]?.getD u) {o : Option Nat} {f : Fr → V → Fr} (hf : dstB nt U o = .mk f) (v : V) :
    ∀ t k, t < nt → tstB U t = true → idxOf t (o :: loc) = some k → (f F v).at t = (v :: L)[k]?.getD u := by
  intro t k h1 h2 h3
  rw [idxOf_cons] at h3
  cases o with
  | none =>
    cases hf
    simp only [reduceCtorEq, if_false, Option.map_eq_some_iff] at h3
    obtain ⟨k', hk', rfl⟩ := h3
    simpa using h t k' h1 h2 hk'
  | some d =>
    simp only [dstB] at hf
    split at hf
    rotate_left
    · cases hf
    split at h3
    · rename_i e
      cases h3; cases e
      split at hf
      · rw [setB_some hf F v t (by omega), if_pos rfl]; rfl
      · rename_i hno; rw [h2] at hno; cases hno
    · rename_i e
      have hne : t ≠ d := fun h => e (by rw [h])
      simp only [Option.map_eq_some_iff] at h3
      obtain ⟨k', hk', rfl⟩ := h3
      have : (f F v).at t = F.at t := by
        split at hf
        · rw [setB_some hf F v t (by omega), if_neg hne]
        · cases hf; rfl
      rw [this]
      simpa using h t k' h1 h2 hk'
theorem DInv.ends (I : DInv C nt U arr (Ms arr) p pd loc ln D φ L F S listed a b w) (hpd : pd = []) (hall : ∀ i : Nat, listed[i]? ≠ some false) : Fok C.ρ φ nt U F a := by
  have hs : ∀ t, slot a t = slot b t := fun t => I.same t (fun i _ hf => absurd hf (hall i)) (fun h => absurd hpd h)
  refine ⟨by rw [I.sz]; exact I.env.size, I.env.small, fun t h1 h2 _ => ?_, fun t d h => by simp [idxOf] at h⟩
  rw [hs]
  cases hk : idxOf t loc with
  | none => exact I.env.glob t h1 h2 hk
  | some k =>
    rw [I.fv t k h1 h2 hk]
    exact I.env.loc t k hk
/-- behind a step that all orders share: what was put off is done again -/
theorem DInv.step (I : DInv C nt U arr (Ms arr) p pd loc ln D φ L F S listed a b w) (hs : Shape arr p) {i m : Nat} {o : Oper} (ho : arr[i]? = some o) (hm : (Ms arr)[i]? = some m) (hD : D.testBit i = false) (hmD : ∀ k, m.testBit k = true → D.testBit k = true) (hf : listed[i]? = some false)
    (hej : ∀ k ∈ edges o.after.toList, listed[k]? = some true) {put : Fr → V → Fr} (hput : dstB nt U o.dst = .mk put) {φ' : Phi} {X : Value} {v : V} {S' : St} {w' : World} (e : Ext φ φ') {pd' : List (Nat × Obj)} (R' : Rel (C.hold pd') φ' S' w') (kX : VR C.ρ φ' v X) {chk : Chk} (hchk : agains C.P ⟨nt, U, o.dst :: loc⟩ arr.toList m ln = .mk chk) (hck : chk (v :: L) (put F v) S' = true)
    (hpd : pd' ≠ [] → pd ≠ [])
    (hpnd : pd' = [] ∨ ∃ k y o' X' we, pd' = [(k, y)] ∧ C.kept k = none ∧ (listed.setIfInBounds i true)[p]? = some true ∧ (bit D i).testBit p = false ∧ arr[p]? = some o' ∧ (execOp (a.put o.dst X).eval o').run C.P we = .ok (.value X') (we.alloc y) ∧ we.heap.size = k ∧ (a.put o.dst X).put o'.dst X' = a.put o.dst X)
    (hpn : pd ≠ [] → pd' ≠ []) :
    ∃ b', DInv C nt U arr (Ms arr) p pd' (o.dst :: loc) ln (bit D i) φ' (v :: L) (put F v) S' (listed.setIfInBounds i true) (a.put o.dst X) b' w' := by
  have hml : ∀ q, m.testBit q = true → listed[q]? = some true := anc_listed I.clo i i (Nat.le_refl _) o m ho hm hej
  have hlds : ∀ (j : Nat) oj d, (bit D i).testBit j = true → arr[j]? = some oj → oj.dst = some d → ∃ q, idxOf d (o.dst :: loc) = some q := fun j oj d hj hoj hd => by
    rw [idxOf_cons]
    by_cases e : o.dst = some d
    · rw [if_pos e]; exact ⟨0, rfl⟩
    · rw [if_neg e]
      rw [bit_test] at hj
      simp only [Bool.or_eq_true, decide_eq_true_eq] at hj
      rcases hj with hj | hj
      · obtain ⟨q, hq⟩ := I.ld j oj d hj hoj hd; exact ⟨q + 1, by rw [hq]; rfl⟩
      · subst hj; rw [ho] at hoj; cases hoj; exact absurd hd e
  have hDb : ∀ j, D.testBit j = true → (bit D i).testBit j = true := fun j hj => by rw [bit_test, hj]; rfl
  obtain ⟨b', E', d1, d2, d3, d4⟩ := agains_ok (C := C.hold pd') (x := ⟨nt, U, o.dst :: loc⟩) R' (fun q => listed[q]? = some false) (fun q hq => by cases hb : m.testBit q with | false => rfl | true => rw [hml q hb] at hq; cases hq) ln I.lord (fun q hq oq d => hlds q oq d (hDb q (I.lnD q hq))) hchk hck (put_some (I.env.mono e) hput kX)
  refine ⟨b', R', E', fv_put I.env.small I.fv hput v, by rw [put_defers]; exact I.dfa, by rw [d1, put_defers]; exact I.dfb, by rw [put_size, d2, put_size]; exact I.sz, by rw [Array.size_setIfInBounds]; exact I.lsz, hpnd, ?_, hlds, ?_, ?_, fun j hj => hDb j (I.lnD j hj), ?_, I.nb, I.lord, ?_, ?_⟩
  · intro j mj hj hmj k hk
    rw [bit_test] at hj
    simp only [Bool.or_eq_true, decide_eq_true_eq] at hj
    rcases hj with hj | hj
    · exact hDb k (I.anc j mj hj hmj k hk)
    · subst hj; rw [hm] at hmj; cases hmj; exact hDb k (hmD k hk)
  · intro q hq
    rw [set_listed hf] at hq
    rw [bit_test]
    split at hq
    · rename_i e; subst e; exact .inl (by simp)
    · rcases I.sub q hq with h | ⟨h1, h2⟩
      · exact .inl (by rw [h]; rfl)
      · exact .inr ⟨h1, hpn h2⟩
  · intro q oq hoq hq r hr
    rw [set_listed hf] at hq ⊢
    split
    · rfl
    · split at hq
      · rename_i e; subst e; rw [ho] at hoq; cases hoq; exact hej r hr
      · exact I.clo q oq hoq hq r hr
  · intro q hq hqf
    rw [set_listed hf] at hqf
    split at hqf
    · cases hqf
    · rename_i hqi
      rw [bit_test] at hq
      simp only [Bool.or_eq_true, decide_eq_true_eq] at hq
      rcases hq with hq | hq
      · exact I.dl q hq hqf
      · exact absurd hq.symm hqi
  · intro t ht ht'
    have hne : ∀ q ∈ ln, listed[q]? = some false → ∀ oq, arr[q]? = some oq → oq.dst ≠ some t := fun q hq hqf oq hoq => ht q hq (by rw [set_listed hf, if_neg (show ¬ q = i from fun e' => by rw [e'] at hq; have := I.lnD i hq; rw [hD] at this; cases this)]; exact hqf) oq hoq
    rw [d3 t hne]
    exact slot_put_congr I.sz (.inr (I.same t hne fun h => ht' (hpn h)))
  · intro q hq hqf oq hoq
    rw [set_listed hf] at hqf
    split at hqf
    · cases hqf
    · exact d4 q hq hqf oq hoq
end
end Go.Xe
