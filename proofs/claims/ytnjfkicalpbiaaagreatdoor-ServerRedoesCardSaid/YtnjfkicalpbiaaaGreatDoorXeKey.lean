/-
  MAPS: what is found, laid and taken away.
-/
import Derived.Test.YtnjfkicalpbiaaaGreatDoorXeEq
set_option linter.unusedVariables false
set_option linter.unusedSimpArgs false
set_option linter.unnecessarySimpa false
namespace Go.Xe
open Go.RowKit
def Miss (e : KEq) (k : V) (l : List (V × V)) : Prop := ∀ a ∈ l, e k a.1 = some false
theorem mget_none {e : KEq} {k : V} : ∀ {l : List (V × V)}, mget e k l = some none → Miss e k l
  | [], _, a, h => by cases h
  | b :: l, h, a, ha => by
    simp only [mget] at h
    split at h
    · cases h
    · rename_i hb
      cases ha with
      | head => exact hb
      | tail _ ha => exact mget_none h a ha
    · cases h
theorem mget_some {e : KEq} {k v : V} : ∀ {l : List (V × V)}, mget e k l = some (some v) → ∃ l1 a l2, l = l1 ++ a :: l2 ∧ Miss e k l1 ∧ e k a.1 = some true ∧ a.2 = v
  | [], h => by cases h
  | b :: l, h => by
    simp only [mget] at h
    split at h
    · rename_i hb; cases h; exact ⟨[], b, l, rfl, (fun a ha => by cases ha), hb, rfl⟩
    · rename_i hb
      obtain ⟨l1, a, l2, rfl, h1, h2, h3⟩ := mget_some h
      exact ⟨b :: l1, a, l2, rfl, fun x hx => by cases hx with | head => exact hb | tail _ hx => exact h1 x hx, h2, h3⟩
    · cases h
theorem mset_some {e : KEq} {k v : V} : ∀ {l l' : List (V × V)}, mset e k v l = some l' → (Miss e k l ∧ l' = l ++ [(k, v)]) ∨ ∃ l1 a l2, l = l1 ++ a :: l2 ∧ Miss e k l1 ∧ e k a.1 = some true ∧ same a.1 k = true ∧ l' = l1 ++ (k, v) :: l2
  | [], l', h => by cases h; exact .inl ⟨fun a ha => (by cases ha), rfl⟩
  | b :: l, l', h => by
    simp only [mset] at h
    split at h
    · rename_i hb
      split at h
      · rename_i hs; cases h; exact .inr ⟨[], b, l, rfl, (fun a ha => by cases ha), hb, hs, rfl⟩
      · cases h
    · rename_i hb
      split at h
      · rename_i r hr
        cases h
        rcases mset_some hr with ⟨h1, rfl⟩ | ⟨l1, a, l2, rfl, h1, h2, h3, rfl⟩
        · exact .inl ⟨fun x hx => by cases hx with | head => exact hb | tail _ hx => exact h1 x hx, rfl⟩
        · exact .inr ⟨b :: l1, a, l2, rfl, fun x hx => by cases hx with | head => exact hb | tail _ hx => exact h1 x hx, h2, h3, rfl⟩
      · cases h
    · cases h
theorem mdel_some {e : KEq} {k : V} : ∀ {l l' : List (V × V)}, mdel e k l = some l' → (Miss e k l ∧ l' = l) ∨ ∃ l1 a l2, l = l1 ++ a :: l2 ∧ Miss e k l1 ∧ e k a.1 = some true ∧ l' = l1 ++ l2
  | [], l', h => by cases h; exact .inl ⟨fun a ha => (by cases ha), rfl⟩
  | b :: l, l', h => by
    simp only [mdel] at h
    split at h
    · rename_i hb; cases h; exact .inr ⟨[], b, _, rfl, (fun a ha => by cases ha), hb, rfl⟩
    · rename_i hb
      split at h
      · rename_i r hr
        cases h
        rcases mdel_some hr with ⟨h1, rfl⟩ | ⟨l1, a, l2, rfl, h1, h2, rfl⟩
        · exact .inl ⟨fun x hx => by cases hx with | head => exact hb | tail _ hx => exact h1 x hx, rfl⟩
        · exact .inr ⟨b :: l1, a, l2, rfl, fun x hx => by cases hx with | head => exact hb | tail _ hx => exact h1 x hx, h2, rfl⟩
      · cases h
    · cases h
theorem mapR_append {ρ : Rho} {φ : Phi} : ∀ {l1 l2 : List (V × V)} {es : List MapEntry}, mapR ρ φ (l1 ++ l2) es → ∃ es1 es2, es = es1 ++ es2 ∧ mapR ρ φ l1 es1 ∧ mapR ρ φ l2 es2 ∧ es1.length = l1.length
  | [], l2, es, h => ⟨[], es, rfl, rfl, h, rfl⟩
  | a :: l1, l2, es, h => by
    obtain ⟨e, r, rfl, k1, k2, k3⟩ := h
    obtain ⟨es1, es2, rfl, g1, g2, g3⟩ := mapR_append k3
    exact ⟨e :: es1, es2, rfl, ⟨e, es1, rfl, k1, k2, g1⟩, g2, by simp [g3]⟩
theorem mapR_join {ρ : Rho} {φ : Phi} : ∀ {l1 l2 : List (V × V)} {es1 es2 : List MapEntry}, mapR ρ φ l1 es1 → mapR ρ φ l2 es2 → mapR ρ φ (l1 ++ l2) (es1 ++ es2)
  | [], l2, es1, es2, h, h' => by cases h; exact h'
  | a :: l1, l2, es1, es2, h, h' => by
    obtain ⟨e, r, rfl, k1, k2, k3⟩ := h
    exact ⟨e, r ++ es2, rfl, k1, k2, mapR_join k3 h'⟩
theorem mapR_length {ρ : Rho} {φ : Phi} : ∀ {l : List (V × V)} {es : List MapEntry}, mapR ρ φ l es → es.length = l.length
  | [], es, h => by cases h; rfl
  | a :: l, es, h => by obtain ⟨e, r, rfl, _, _, k3⟩ := h; simp [mapR_length k3]
section
variable {P : Program} {w : World} {ρ : Rho} {φ : Phi}
/-- a plain kind of keys: what is told at once -/
def Leaf (e : KEq) (d : TypeDesc) : Prop := ∀ {ρ : Rho} {φ : Phi} {x y : V} {X Y : Value} {r : Bool}, e x y = some r → VR ρ φ x X → VR ρ φ y Y → Instr.sameNow d X Y = some r
theorem leaf_int (k : IntKind) : Leaf eqInt (.int k) := by
  intro ρ φ x y X Y r h k1 k2
  obtain ⟨kd, a, b, rfl, rfl, rfl⟩ := eqInt_run h k1 k2
  simp [Instr.sameNow]
theorem leaf_str : Leaf eqStr .string := by
  intro ρ φ x y X Y r h k1 k2
  obtain ⟨a, b, rfl, rfl, rfl⟩ := eqStr_some h k1 k2
  simp [Instr.sameNow, beq_toListBytes]
theorem leaf_bool : Leaf eqBool .bool := by
  intro ρ φ x y X Y r h k1 k2
  obtain ⟨a, b, rfl, rfl, rfl⟩ := eqBool_some h k1 k2
  simp [Instr.sameNow]
theorem findNow_miss {e : KEq} {d : TypeDesc} (hl : Leaf e d) {k : V} {K : Value} (kk : VR ρ φ k K) : ∀ {l : List (V × V)} {es es2 : List MapEntry} (i : Nat), Miss e k l → mapR ρ φ l es →
    Instr.findNow d K (es ++ es2) i = Instr.findNow d K es2 (i + es.length)
  | [], es, es2, i, _, h => by cases h; rfl
  | a :: l, es, es2, i, hm, h => by
    obtain ⟨x, r, rfl, k1, k2, k3⟩ := h
    have := hl (hm a (List.mem_cons_self ..)) kk k1
    simp only [List.cons_append, Instr.findNow, this]
    rw [findNow_miss hl kk (i + 1) (fun b hb => hm b (List.mem_cons_of_mem _ hb)) k3]
    simp only [List.length_cons]; congr 1; omega
theorem findAsking_miss {t : TypeId} {e : KEq} (hl : ∀ {x y : V} {X Y : Value} {r : Bool}, e x y = some r → VR ρ φ x X → VR ρ φ y Y → (Op.equal t X Y).run P w = .ok r w) {k : V} {K : Value} (kk : VR ρ φ k K) :
    ∀ {l : List (V × V)} {es es2 : List MapEntry} (i : Nat), Miss e k l → mapR ρ φ l es → (Instr.findAsking t K (es ++ es2) i).run P w = (Instr.findAsking t K es2 (i + es.length)).run P w
  | [], es, es2, i, _, h => by cases h; rfl
  | a :: l, es, es2, i, hm, h => by
    obtain ⟨x, r, rfl, k1, k2, k3⟩ := h
    have := hl (hm a (List.mem_cons_self ..)) kk k1
    simp only [List.cons_append, Instr.findAsking, Sem.run_bind, this, Result.andThen_ok, Bool.false_eq_true, if_false]
    rw [findAsking_miss hl kk (i + 1) (fun b hb => hm b (List.mem_cons_of_mem _ hb)) k3]
    simp only [List.length_cons]; congr 2; omega
/-- what a kind of keys is found by -/
structure KeyOK (P : Program) (t : TypeId) (e : KEq) : Prop where
  miss : ∀ {w : World} {ρ : Rho} {φ : Phi} {k : V} {K : Value} {l : List (V × V)} {es : List MapEntry}, VR ρ φ k K → Miss e k l → mapR ρ φ l es → (Instr.findKey t K es).run P w = .ok none w
  hit : ∀ {w : World} {ρ : Rho} {φ : Phi} {k : V} {K : Value} {l : List (V × V)} {a : V × V} {es es2 : List MapEntry} {x : MapEntry}, VR ρ φ k K → Miss e k l → mapR ρ φ l es → e k a.1 = some true → VR ρ φ a.1 x.key →
    (Instr.findKey t K (es ++ x :: es2)).run P w = .ok (some (es.length, x.val)) w
theorem keyOK_leaf {t : TypeId} {d : TypeDesc} {e : KEq} (ht : P.underlying t = some d) (hl : Leaf e d) : KeyOK P t e := by
  refine ⟨fun {w ρ φ k K l es} kk hm h => ?_, fun {w ρ φ k K l a es es2 x} kk hm h ha hx => ?_⟩
  · have := findNow_miss hl kk (es2 := []) 0 hm h
    simp only [List.append_nil] at this
    simp [Instr.findKey, run_underlying ht, this, Instr.findNow]
  · have := findNow_miss hl kk (es2 := x :: es2) 0 hm h
    have h2 := hl ha kk hx
    simp [Instr.findKey, run_underlying ht, this, Instr.findNow, h2]
theorem keyOK_struct {t : TypeId} {fs : Array Field} {e : St → KEq} (ht : P.underlying t = some (.struct fs)) (he : eqB P 6 t = .mk e) {q : KEq} (hq : ∀ {x y : V} {r : Bool}, q x y = some r → e ⟨.e, 0⟩ x y = some r) : KeyOK P t q := by
  have ask : ∀ {w : World} {ρ : Rho} {φ : Phi} {x y : V} {X Y : Value} {r : Bool}, q x y = some r → VR ρ φ x X → VR ρ φ y Y → (Op.equal t X Y).run P w = .ok r w :=
    fun {w ρ φ x y X Y r} h k k' => eqB_run (ptrOK_none _ _) he (hq h) k k' _ (by decide)
  have hn : ∀ (K : Value) (x : MapEntry) (l : List MapEntry) (i : Nat), Instr.findNow (.struct fs) K (x :: l) i = none := by
    intro K x l i; simp [Instr.findNow, Instr.sameNow]
  refine ⟨fun {w ρ φ k K l es} kk hm h => ?_, fun {w ρ φ k K l a es es2 x} kk hm h ha hx => ?_⟩
  · have := findAsking_miss (P := P) (w := w) ask kk (es2 := []) 0 hm h
    simp only [List.append_nil] at this
    cases es with
    | nil => simp [Instr.findKey, run_underlying ht, Instr.findNow]
    | cons x es =>
      simp only [Instr.findKey, Sem.run_bind, run_underlying ht, Result.andThen_ok, hn, this]
      simp [Instr.findAsking]
  · have := findAsking_miss (P := P) (w := w) ask kk (es2 := x :: es2) 0 hm h
    have h2 := ask (w := w) ha kk hx
    have hne : ∀ i, Instr.findNow (.struct fs) K (es ++ x :: es2) i = none := by
      intro i; cases es <;> exact hn _ _ _ _
    simp only [Instr.findKey, Sem.run_bind, run_underlying ht, Result.andThen_ok, hne, this]
    simp [Instr.findAsking, h2]
theorem keyB_ok {t : TypeId} {e : KEq} (h : keyB P t = .mk e) : KeyOK P t e := by
  unfold keyB at h
  split at h
  · rename_i k ht; cases h; exact keyOK_leaf ht (leaf_int k)
  · rename_i ht; cases h; exact keyOK_leaf ht leaf_str
  · rename_i ht; cases h; exact keyOK_leaf ht leaf_bool
  · rename_i fs ht
    split at h
    · cases h
    · rename_i q hq
      cases h
      refine keyOK_struct ht hq fun {x y r} h => ?_
      split at h
      · exact h
      · cases h
  · cases h
-- may it be a key?
theorem ckFs_run {emp : Bool} {d : Nat} {e : Nat → Box (St → KEq)} {S : St} (ih : ∀ t f, e t = .mk f → ∀ {x : V} {X : Value}, f S x x = some true → VR ρ φ x X → (Instr.checkKey emp d t X).run P w = .ok () w) :
    ∀ {fs : List Field} {g : St → List V → List V → Option Bool}, eqFs P e fs = .mk g → ∀ {l : List V} {xs : Array Value}, g S l l = some true → VRL ρ φ l xs.toList →
      ((forIn fs PUnit.unit fun f _ => (do
        if f.name ≠ "_" then do
          let y ← part f.type xs f.offset
          Instr.checkKey emp d f.type y
          pure (ForInStep.yield PUnit.unit)
        else pure (ForInStep.yield PUnit.unit) : Sem (ForInStep PUnit))) : Sem PUnit).run P w = .ok PUnit.unit w
  | [], g, h, l, xs, _, _ => by simp
  | f :: fs, g, h, l, xs, hr, k => by
    simp only [eqFs] at h
    split at h
    · cases h
    rename_i hname
    have hname : f.name ≠ "_" := by simpa using hname
    split at h
    · cases h
    rename_i p hp
    split at h
    · cases h
    rename_i q hq
    split at h
    · cases h
    rename_i g' hg'
    cases h
    dsimp only at hr
    split at hr
    · cases hr
    rename_i x hx
    split at hr
    · cases hr
    rename_i y hy
    cases hy
    split at hr
    · rename_i he
      obtain ⟨X, hX, kX⟩ := partB_run (w := w) hp hx k
      simp only [List.forIn_cons, Sem.run_bind]
      simp only [hname, ne_eq, not_false_eq_true, if_true, Sem.run_bind, hX, Result.andThen_ok, ih _ _ hq he kX, Sem.run_pure]
      exact ckFs_run ih hg' hr k
    · cases hr
    · cases hr
theorem ck_run {emp : Bool} : ∀ {d t : Nat} {e : St → KEq}, eqB P d t = .mk e → ∀ {S : St} {x : V} {X : Value}, e S x x = some true → VR ρ φ x X → ∀ n, d ≤ n → (Instr.checkKey emp n t X).run P w = .ok () w := by
  intro d
  induction d with
  | zero => intro t e h; cases h
  | succ d ih =>
    intro t e h S x X hr k n hn
    obtain ⟨n, rfl⟩ : ∃ m, n = m + 1 := ⟨n - 1, by omega⟩
    simp only [eqB] at h
    split at h
    · rename_i kd ht; cases h
      obtain ⟨kd', a, b, rfl, _, _⟩ := eqInt_run hr k k
      simp [Instr.checkKey, run_underlying ht]
    · rename_i ht; cases h
      obtain ⟨s, s', rfl, _, _⟩ := eqStr_some hr k k
      simp [Instr.checkKey, run_underlying ht]
    · rename_i ht; cases h
      obtain ⟨a, b, rfl, _, _⟩ := eqBool_some hr k k
      simp [Instr.checkKey, run_underlying ht]
    · rename_i el ht; simp [Instr.checkKey, run_underlying ht]
    · rename_i el ht; simp [Instr.checkKey, run_underlying ht]
    · rename_i a b ht; simp [Instr.checkKey, run_underlying ht]
    · rename_i a b c ht; simp [Instr.checkKey, run_underlying ht]
    · rename_i ms ht; cases h
      dsimp only at hr
      unfold eqIf at hr
      split at hr
      · cases hr
      · cases hr
      · cases hr
    · rename_i fs ht
      split at h
      · cases h
      split at h
      · cases h
      rename_i g hg
      cases h
      unfold aggEq at hr
      split at hr
      · obtain ⟨xs, rfl, k⟩ := k
        have := ckFs_run (w := w) (emp := emp) (d := n) (S := S) (fun t f hf {x X} hr k => ih hf hr k n (by omega)) hg hr k
        simp only [Instr.checkKey, Sem.run_bind, run_underlying ht, Result.andThen_ok]
        rw [← Array.forIn_toList]
        simp only [ne_eq] at this ⊢
        rw [this]
        rfl
      · cases hr
    · cases h
theorem keyB_check {t : TypeId} {e : KEq} (h : keyB P t = .mk e) {k : V} {K : Value} {r : Bool} (hr : e k k = some r) (kk : VR ρ φ k K) (emp : Bool) :
    (Instr.checkKey emp 10000 t K).run P w = .ok () w := by
  show (Instr.checkKey emp (9999 + 1) t K).run P w = .ok () w
  unfold keyB at h
  split at h
  · rename_i ht
    have hc : ∀ n, (Instr.checkKey emp (n + 1) t K).run P w = .ok () w := by intro n; simp [Instr.checkKey, run_underlying ht]
    exact hc 9999
  · rename_i ht
    have hc : ∀ n, (Instr.checkKey emp (n + 1) t K).run P w = .ok () w := by intro n; simp [Instr.checkKey, run_underlying ht]
    exact hc 9999
  · rename_i ht
    have hc : ∀ n, (Instr.checkKey emp (n + 1) t K).run P w = .ok () w := by intro n; simp [Instr.checkKey, run_underlying ht]
    exact hc 9999
  · rename_i fs ht
    split at h
    · cases h
    · rename_i q hq
      cases h
      dsimp only at hr
      split at hr
      · rename_i hs; exact ck_run hq hs kk (9999 + 1) (by decide)
      · cases hr
  · cases h
end
end Go.Xe
