/-
  '==': what the executor tells is what the model tells.
-/
import Derived.Test.YtnjfkicalpbiaaaGreatDoorXeSym
import Derived.Laws.StructEq
set_option linter.unusedVariables false
set_option linter.unusedSimpArgs false
set_option linter.unnecessarySimpa false
namespace Go.Xe
open Go.RowKit
def PtrOK (φ : Phi) (S : St) (w : World) : Prop :=
  ∀ B B' c lo n t c' lo' n' t' q q', B ≠ B' → S.heap.get B = some (.row c lo n ⟨0, t⟩) → S.heap.get B' = some (.row c' lo' n' ⟨0, t'⟩) → φ B = some q → φ B' = some q' →
    q.b ≠ q'.b ∧ (∃ cs e, w.heap[q.b]? = some (.cells cs e (0, 0))) ∧ (∃ cs e, w.heap[q'.b]? = some (.cells cs e (0, 0)))
theorem Rel.ptrOK {C : Cxt} {φ : Phi} {S : St} {w : World} (R : Rel C φ S w) : PtrOK φ S w := by
  intro B B' c lo n t c' lo' n' t' q q' hne h h' hq hq'
  refine ⟨fun e => hne (R.inj B B' _ _ q q' h h' hq hq' e), ?_, ?_⟩
  · obtain ⟨r, hr, cs, fr, k1, _, _, _, k2, _⟩ := R.obj B _ h
    rw [hq] at hr; cases hr
    simp only [frR] at k2; subst k2
    exact ⟨cs, _, k1⟩
  · obtain ⟨r, hr, cs, fr, k1, _, _, _, k2, _⟩ := R.obj B' _ h'
    rw [hq'] at hr; cases hr
    simp only [frR] at k2; subst k2
    exact ⟨cs, _, k1⟩
theorem ptrOK_none (φ : Phi) (w : World) : PtrOK φ ⟨.e, 0⟩ w := by
  intro B B' c lo n t c' lo' n' t' q q' _ h; rw [T.get_e] at h; cases h
section
variable {P : Program} {w : World}
theorem run_sameAddr_apart {b b' o o' : Nat} (hb : b ≠ b') {cs cs' : Array Value} {e e' : TypeId} (h : w.heap[b]? = some (.cells cs e (0, 0))) (h' : w.heap[b']? = some (.cells cs' e' (0, 0))) :
    (sameAddr ⟨b, o, none⟩ ⟨b', o', none⟩).run P w = .ok false w := by
  have hf : ∀ o, w.frozen? ⟨b, o, none⟩ = false := fun o => by simp [World.frozen?, h]
  have hf' : ∀ o, w.frozen? ⟨b', o, none⟩ = false := fun o => by simp [World.frozen?, h']
  have hs : w.shape? b = some (e, cs.size) := by simp [World.shape?, h]
  have hs' : w.shape? b' = some (e', cs'.size) := by simp [World.shape?, h']
  have hbb : (b == b') = false := by simpa using hb
  simp [sameAddr, hbb, noView, viewAt, mayBeOne, stringish, hf, hf', hs, hs']
theorem partB_run {ρ : Rho} {φ : Phi} {t off : Nat} {p : List V → Option V} (h : partB P t off = .mk p) {l : List V} {v : V} (hv : p l = some v) {xs : Array Value} (k : VRL ρ φ l xs.toList) :
    ∃ X, (part t xs off).run P w = .ok X w ∧ VR ρ φ v X := by
  unfold partB at h
  split at h
  · cases h
  · rename_i hg
    cases h
    dsimp only at hv
    rw [nth_get] at hv
    obtain ⟨X, hX, kX⟩ := k.get hv
    refine ⟨X, ?_, kX⟩
    simp only [part, Sem.run_bind, run_isAg hg, Result.andThen_ok, Bool.false_eq_true, if_false]
    have : xs[off]? = some X := by simpa using hX
    simp [this]
  · rename_i hg
    split at h
    · cases h
    · rename_i n hn
      cases h
      dsimp only at hv
      split at hv
      rotate_left
      · cases hv
      rename_i hle
      rw [nble] at hle
      have hle : off + n ≤ l.length := by simpa using hle
      cases hv
      have hlen := k.length
      refine ⟨.agg (xs.extract off (off + n)), ?_, ⟨_, rfl, ?_⟩⟩
      · simp [part, run_isAg hg, run_sizeOf' hn]
      · refine VRL.of_get ?_ fun i v hi => ?_
        · simp only [Array.toList_extract, List.length_take, List.length_drop, List.extract_eq_take_drop] at *; omega
        · rw [List.getElem?_take] at hi
          split at hi
          · rename_i hin
            rw [List.getElem?_drop] at hi
            obtain ⟨X, hX, kX⟩ := k.get hi
            refine ⟨X, ?_, kX⟩
            simp only [Array.toList_extract, List.extract_eq_take_drop, List.getElem?_take, List.getElem?_drop]
            rw [if_pos (by omega)]; exact hX
          · cases hi
end
theorem eqY_run {ρ : Rho} {t : Y} {X : Value} {n : Int} {r : Bool} (h : eqY t n = some r) (k : t.R ρ X) : ∃ a, X = .int .i64 a ∧ r = (a == n) ∧ r = (n == a) := by
  unfold eqY at h
  split at h
  · rename_i id off lo hi
    split at h
    · rename_i e
      cases h
      obtain ⟨a, rfl, _, h1, h2⟩ := k
      rw [ilt_eq, ilt_eq, iadd_eq, iadd_eq] at e
      have hne : a + off ≠ n := by
        rcases (Bool.or_eq_true _ _ ▸ e : _ ∨ _) with e | e <;> have e := of_decide_eq_true e <;> omega
      exact ⟨a + off, rfl, by symm; exact beq_false_of_ne hne, by symm; exact beq_false_of_ne hne.symm⟩
    · cases h
  · cases h
theorem dec_beq {a b : Int} {p : Prop} [Decidable p] (h : p ↔ a = b) : decide p = (a == b) := by
  by_cases e : a = b
  · subst e; simp [h.2 rfl]
  · rw [decide_eq_false (fun q => e (h.1 q)), beq_false_of_ne e]
theorem eqNums {ρ : Rho} {l r : List By} {b : Bool} (h : eqBs l r = some b) (hl : l.length = r.length) : b = ((valBs ρ l : Int) == (valBs ρ r : Int)) := by
  rw [eqBs_some (ρ := ρ) h]
  refine dec_beq ⟨fun e => ?_, fun e => ?_⟩
  · rw [valBs_map e]
  · exact valBs_inj hl (by omega)
theorem eqYY_run {ρ : Rho} {t t' : Y} {X X' : Value} {r : Bool} (h : eqYY t t' = some r) (k : t.R ρ X) (k' : t'.R ρ X') : ∃ kd a b, X = .int kd a ∧ X' = .int kd b ∧ r = (a == b) := by
  unfold eqYY at h
  split at h
  · split at h
    · rename_i e
      have e := Nat.eq_of_beq_eq_true e
      subst e
      cases h
      obtain ⟨m, rfl, h0, _, _⟩ := k
      obtain ⟨m', rfl, h0', _, _⟩ := k'
      rw [h0] at h0'; cases h0'
      refine ⟨_, _, _, rfl, rfl, ?_⟩
      rw [ieq_eq]
      exact dec_beq (by omega)
    · cases h
  · split at h
    · rename_i e
      rw [kEq_eq] at e
      have e := of_decide_eq_true e
      subst e
      obtain ⟨rfl, _, hk⟩ := k
      obtain ⟨rfl, _, hk'⟩ := k'
      refine ⟨_, _, _, rfl, rfl, eqNums h ?_⟩
      rw [hk] at hk'; exact Option.some.inj hk'
    · cases h
  · cases h
theorem eqNK_run {ρ : Rho} {t : Y} {kd : IntKind} {n : Int} {X : Value} {r : Bool} (h : eqNK t kd n = some r) (k : t.R ρ X) : ∃ a, X = .int kd a ∧ r = (a == n) ∧ r = (n == a) := by
  unfold eqNK at h
  split at h
  · split at h
    · rename_i e
      rw [kEq_eq] at e
      have e := of_decide_eq_true e
      subst e
      split at h
      · rename_i q hq
        obtain ⟨rfl, _, hk⟩ := k
        obtain ⟨e1, _, hk'⟩ := numBy_some (ρ := ρ) (φ := fun _ => none) (X := .int kd n) hq rfl
        cases e1
        have hl := Option.some.inj (hk.symm.trans hk')
        refine ⟨_, rfl, eqNums h hl, ?_⟩
        rw [eqNums h hl]
        exact BEq.comm
      · cases h
    · cases h
  · cases h
theorem eqInt_run {ρ : Rho} {φ : Phi} {x y : V} {X Y : Value} {r : Bool} (h : eqInt x y = some r) (k : VR ρ φ x X) (k' : VR ρ φ y Y) : ∃ kd a b, X = .int kd a ∧ Y = .int kd b ∧ r = (a == b) := by
  unfold eqInt at h
  split at h
  · split at h
    · cases h; cases k; cases k'; exact ⟨_, _, _, rfl, rfl, by rw [ieq_eq]; rfl⟩
    · cases k
      obtain ⟨a, rfl, _, h2⟩ := eqY_run h k'
      exact ⟨_, _, _, rfl, rfl, h2⟩
    · cases h
  · split at h
    · cases k'
      obtain ⟨a, rfl, h1, _⟩ := eqY_run h k
      exact ⟨_, _, _, rfl, rfl, h1⟩
    · exact eqYY_run h k k'
    · cases k'
      obtain ⟨a, rfl, h1, _⟩ := eqNK_run h k
      exact ⟨_, _, _, rfl, rfl, h1⟩
    · cases h
  · split at h
    · split at h
      · rename_i hk
        rw [kEq_eq] at hk
        have hk := of_decide_eq_true hk
        subst hk
        cases h; cases k; cases k'; exact ⟨_, _, _, rfl, rfl, by rw [ieq_eq]; rfl⟩
      · cases h
    · cases k
      obtain ⟨a, rfl, _, h2⟩ := eqNK_run h k'
      exact ⟨_, _, _, rfl, rfl, h2⟩
    · cases h
  · cases h
theorem eqTxt {ρ : Rho} {l r : List By} {b : Bool} {s s' : ByteArray} (h : eqBs l r = some b) (h1 : s.data.toList.map UInt8.toNat = l.map (By.val ρ)) (h2 : s'.data.toList.map UInt8.toNat = r.map (By.val ρ)) : b = (s.toList == s'.toList) := by
  rw [eqBs_some (ρ := ρ) h, ByteArray.toList_eq, ByteArray.toList_eq]
  by_cases e : s.data.toList = s'.data.toList
  · rw [e]; simp [← h1, ← h2, e]
  · rw [decide_eq_false (fun q => e (toNat_inj (by rw [h1, h2, q]))), beq_false_of_ne e]
theorem eqStr_some {ρ : Rho} {φ : Phi} {x y : V} {X Y : Value} {r : Bool} (h : eqStr x y = some r) (k : VR ρ φ x X) (k' : VR ρ φ y Y) : ∃ s s', X = .string s ∧ Y = .string s' ∧ r = (s.toList == s'.toList) := by
  unfold eqStr at h
  split at h
  · split at h
    · cases h
      obtain ⟨s, rfl, k1⟩ := k
      obtain ⟨s', rfl, k1'⟩ := k'
      exact ⟨s, s', rfl, rfl, (eqStr_run (ρ := ρ) (φ := φ) ⟨s, rfl, k1⟩ ⟨s', rfl, k1'⟩).symm⟩
    · obtain ⟨s, rfl, h1, _⟩ := txtBy_some (ρ := ρ) (φ := φ) (v := .s _ _) rfl k
      obtain ⟨s', rfl, h2, _⟩ := k'
      exact ⟨s, s', rfl, rfl, eqTxt h h1 h2⟩
    · cases h
  · split at h
    · rename_i q hq
      obtain ⟨s, rfl, h1, _⟩ := k
      obtain ⟨s', rfl, h2, _⟩ := txtBy_some (ρ := ρ) (φ := φ) hq k'
      exact ⟨s, s', rfl, rfl, eqTxt h h1 h2⟩
    · cases h
  · cases h
theorem eqBool_some {ρ : Rho} {φ : Phi} {x y : V} {X Y : Value} {r : Bool} (h : eqBool x y = some r) (k : VR ρ φ x X) (k' : VR ρ φ y Y) : ∃ a b, X = .bool a ∧ Y = .bool b ∧ r = (a == b) := by
  unfold eqBool at h
  split at h
  · split at h
    · cases h; cases k; cases k'; exact ⟨_, _, rfl, rfl, bEq_eq _ _⟩
    · cases h
  · cases h
section
variable {P : Program} {w : World} {ρ : Rho} {φ : Phi} {S : St}
theorem eqPtr_run (hp : PtrOK φ S w) {t e n : Nat} (ht : P.underlying t = some (.pointer e)) (he : szB P e = .mk (n + 1)) {x y : V} {X Y : Value} {r : Bool} (h : eqPtr S x y = some r) (k : VR ρ φ x X) (k' : VR ρ φ y Y) (d : Nat) :
    (Op.equalIn (d + 1) t X Y).run P w = .ok r w := by
  unfold eqPtr at h
  split at h
  · split at h
    · cases h; cases k; cases k'; simp [Op.equalIn, run_underlying ht]
    · cases h; cases k; obtain ⟨q, _, _, rfl⟩ := k'; simp [Op.equalIn, run_underlying ht]
    · cases h
  · rename_i B o
    obtain ⟨q, hq, hs, rfl⟩ := k
    split at h
    · cases h; cases k'; simp [Op.equalIn, run_underlying ht]
    · rename_i B' o'
      obtain ⟨q', hq', hs', rfl⟩ := k'
      have step : (Op.equalIn (d + 1) t (.pointer (some ⟨q.b, o - q.sh, none⟩)) (.pointer (some ⟨q'.b, o' - q'.sh, none⟩))).run P w = (sameAddr ⟨q.b, o - q.sh, none⟩ ⟨q'.b, o' - q'.sh, none⟩).run P w := by
        simp [Op.equalIn, run_underlying ht, run_sizeOf' he]
      rw [step]
      split at h
      · rename_i hB
        rw [nbeq] at hB
        have hB := of_decide_eq_true hB
        subst hB
        rw [hq] at hq'; cases hq'
        cases h
        rw [nbeq]
        by_cases ho : o = o'
        · subst ho; simp [sameAddr]
        · have : o - q.sh ≠ o' - q.sh := by omega
          simp [sameAddr, ho, this]
      · rename_i hB
        rw [nbeq] at hB
        have hB : B ≠ B' := by simpa using hB
        split at h
        · rename_i h1
          split at h
          · rename_i h2
            cases h
            obtain ⟨hne, ⟨cs, e1, k1⟩, ⟨cs', e1', k1'⟩⟩ := hp B B' _ _ _ _ _ _ _ _ q q' hB h1 h2 hq hq'
            exact run_sameAddr_apart hne k1 k1'
          · cases h
        · cases h
    · cases h
  · cases h
theorem eqSl_run {t e : Nat} (ht : P.underlying t = some (.slice e)) {x y : V} {X Y : Value} {r : Bool} (h : eqSl x y = some r) (k : VR ρ φ x X) (k' : VR ρ φ y Y) (d : Nat) :
    (Op.equalIn (d + 1) t X Y).run P w = .ok r w := by
  unfold eqSl at h
  split at h
  · split at h
    · cases h; cases k; cases k'; simp [Op.equalIn, run_underlying ht]
    · cases h; cases k; obtain ⟨q, o, c, _, rfl, _⟩ := k'; simp [Op.equalIn, run_underlying ht]
    · cases h
  · obtain ⟨q, o, c, _, rfl, _⟩ := k
    split at h
    · cases h; cases k'; simp [Op.equalIn, run_underlying ht]
    · cases h
  · cases h
theorem eqMap_run {t kt e : Nat} (ht : P.underlying t = some (.map kt e)) {x y : V} {X Y : Value} {r : Bool} (h : eqMap x y = some r) (k : VR ρ φ x X) (k' : VR ρ φ y Y) (d : Nat) :
    (Op.equalIn (d + 1) t X Y).run P w = .ok r w := by
  unfold eqMap at h
  split at h
  · split at h
    · cases h; cases k; cases k'; simp [Op.equalIn, run_underlying ht]
    · cases h; cases k; obtain ⟨q, _, rfl⟩ := k'; simp [Op.equalIn, run_underlying ht]
    · cases h
  · obtain ⟨q, _, rfl⟩ := k
    split at h
    · cases h; cases k'; simp [Op.equalIn, run_underlying ht]
    · cases h
  · cases h
theorem eqFn_run {t : Nat} {a b : Array TypeId} {c : Bool} (ht : P.underlying t = some (.func a b c)) {x y : V} {X Y : Value} {r : Bool} (h : eqFn x y = some r) (k : VR ρ φ x X) (k' : VR ρ φ y Y) (d : Nat) :
    (Op.equalIn (d + 1) t X Y).run P w = .ok r w := by
  unfold eqFn at h
  split at h
  · split at h
    · cases h; cases k; cases k'; simp [Op.equalIn, run_underlying ht]
    · cases h; cases k; obtain ⟨fs, cs, rfl, _⟩ := k'; simp [Op.equalIn, run_underlying ht]
    · cases h
  · obtain ⟨fs, cs, rfl, _⟩ := k
    split at h
    · cases h; cases k'; simp [Op.equalIn, run_underlying ht]
    · cases h
  · cases h
theorem eqIf_run {t : Nat} {ms : Array (String × TypeId)} (ht : P.underlying t = some (.interface ms)) {x y : V} {X Y : Value} {r : Bool} (h : eqIf x y = some r) (k : VR ρ φ x X) (k' : VR ρ φ y Y) (d : Nat) :
    (Op.equalIn (d + 1) t X Y).run P w = .ok r w := by
  unfold eqIf at h
  split at h
  · split at h
    · cases h; cases k; obtain ⟨y, rfl, _⟩ := k'; simp [Op.equalIn, run_underlying ht]
    · cases h
  · obtain ⟨y, rfl, _⟩ := k
    split at h
    · cases h; cases k'; simp [Op.equalIn, run_underlying ht]
    · cases h
  · cases h
theorem eqFs_run {e : Nat → Box (St → KEq)} {d : Nat} (ih : ∀ t f, e t = .mk f → ∀ {x y : V} {X Y : Value} {r : Bool}, f S x y = some r → VR ρ φ x X → VR ρ φ y Y → (Op.equalIn d t X Y).run P w = .ok r w) :
    ∀ {fs : List Field} {g : St → List V → List V → Option Bool}, eqFs P e fs = .mk g → ∀ {l m : List V} {xs ys : Array Value} {r : Bool}, g S l m = some r → VRL ρ φ l xs.toList → VRL ρ φ m ys.toList →
      (Op.eqFields d xs ys fs).run P w = .ok r w
  | [], g, h, l, m, xs, ys, r, hr, _, _ => by cases h; cases hr; simp [Op.eqFields]
  | f :: fs, g, h, l, m, xs, ys, r, hr, k, k' => by
    simp only [eqFs] at h
    split at h
    · cases h
    rename_i hname
    have hname : f.name ≠ "_" := by simpa using hname
    split at h
    · cases h
    rename_i p hp
    split at h
    · cases h
    rename_i q hq
    split at h
    · cases h
    rename_i g' hg'
    cases h
    dsimp only at hr
    split at hr
    · cases hr
    rename_i x hx
    split at hr
    · cases hr
    rename_i y hy
    obtain ⟨X, hX, kX⟩ := partB_run (w := w) hp hx k
    obtain ⟨Y, hY, kY⟩ := partB_run (w := w) hp hy k'
    simp only [Op.eqFields, hname, ne_eq, not_false_eq_true, if_true, Sem.run_bind, hX, hY, Result.andThen_ok]
    split at hr
    · rename_i he
      rw [ih _ _ hq he kX kY]
      simp only [Result.andThen_ok, Bool.not_true, Bool.false_eq_true, if_false]
      exact eqFs_run ih hg' hr k k'
    · rename_i he
      cases hr
      rw [ih _ _ hq he kX kY]
      simp
    · cases hr
theorem eqB_run (hp : PtrOK φ S w) : ∀ {d t : Nat} {e : St → KEq}, eqB P d t = .mk e → ∀ {x y : V} {X Y : Value} {r : Bool}, e S x y = some r → VR ρ φ x X → VR ρ φ y Y → ∀ n, d ≤ n → (Op.equalIn n t X Y).run P w = .ok r w := by
  intro d
  induction d with
  | zero => intro t e h; cases h
  | succ d ih =>
    intro t e h x y X Y r hr k k' n hn
    obtain ⟨n, rfl⟩ : ∃ m, n = m + 1 := ⟨n - 1, by omega⟩
    simp only [eqB] at h
    split at h
    · rename_i kd ht; cases h
      obtain ⟨kd', a, b, rfl, rfl, rfl⟩ := eqInt_run hr k k'
      exact run_equalIn_int w n t kd' kd a b ht
    · rename_i ht; cases h
      obtain ⟨s, s', rfl, rfl, rfl⟩ := eqStr_some hr k k'
      exact run_equalIn_string w n t s s' ht
    · rename_i ht; cases h
      obtain ⟨a, b, rfl, rfl, rfl⟩ := eqBool_some hr k k'
      exact run_equalIn_bool' w n t a b ht
    · rename_i el ht
      split at h
      · rename_i m hm; cases h
        exact eqPtr_run hp ht hm hr k k' n
      · cases h
    · rename_i el ht; cases h; exact eqSl_run ht hr k k' n
    · rename_i a b ht; cases h; exact eqMap_run ht hr k k' n
    · rename_i a b c ht; cases h; exact eqFn_run ht hr k k' n
    · rename_i ms ht; cases h; exact eqIf_run ht hr k k' n
    · rename_i fs ht
      split at h
      · cases h
      rename_i hst
      have hst : P.stoodInHeld t = false ∧ P.eqGuardType P.depth t = false := by simpa using hst
      split at h
      · cases h
      rename_i g hg
      cases h
      unfold aggEq at hr
      split at hr
      · split at hr
        · obtain ⟨xs, rfl, k⟩ := k
          obtain ⟨ys, rfl, k'⟩ := k'
          have hf : P.fieldsOf t = fs := by simp [Program.fieldsOf, ht]
          rw [run_equalIn_struct w n t xs ys (by rw [hf]; exact ht) hst.1, hf]
          exact eqFs_run (d := n) (fun t f hf {x y X Y r} hr k k' => ih hf hr k k' n (by omega)) hg hr k k'
        · cases hr
      · cases hr
    · cases h
theorem guard_run {d t : Nat} {e : St → KEq} (h : eqB P d t = .mk e) {x y : V} {X Y : Value} {r : Bool} (hr : e S x y = some r) (k : VR ρ φ x X) (k' : VR ρ φ y Y) (op : BinOp) (ox oy : Operand) :
    (eqGuard op t ox oy X Y).run P w = .ok () w := by
  have plain : ∀ X Y : Value, (∀ a b, X = .agg a → Y = .agg b → False) → (X = .nilIface → Y = .nilIface → False) → (eqGuard op t ox oy X Y).run P w = .ok () w := by
    intro X Y h1 h2
    cases op <;> simp only [eqGuard] <;> first
      | rfl
      | (cases X <;> cases Y <;> first | rfl | exact (h1 _ _ rfl rfl).elim | exact (h2 rfl rfl).elim)
  cases d with
  | zero => cases h
  | succ d =>
    simp only [eqB] at h
    split at h
    · cases h
      obtain ⟨kd', a, b, rfl, rfl, rfl⟩ := eqInt_run hr k k'
      exact plain _ _ (fun _ _ h => by cases h) (fun h => by cases h)
    · cases h
      obtain ⟨s, s', rfl, rfl, rfl⟩ := eqStr_some hr k k'
      exact plain _ _ (fun _ _ h => by cases h) (fun h => by cases h)
    · cases h
      obtain ⟨a, b, rfl, rfl, rfl⟩ := eqBool_some hr k k'
      exact plain _ _ (fun _ _ h => by cases h) (fun h => by cases h)
    · split at h
      · cases h
        unfold eqPtr at hr
        split at hr
        · cases k; exact plain _ _ (fun _ _ h => by cases h) (fun h => by cases h)
        · obtain ⟨q, _, _, rfl⟩ := k; exact plain _ _ (fun _ _ h => by cases h) (fun h => by cases h)
        · cases hr
      · cases h
    · cases h
      dsimp only at hr
      unfold eqSl at hr
      split at hr
      · cases k; exact plain _ _ (fun _ _ h => by cases h) (fun h => by cases h)
      · obtain ⟨q, o, c, _, rfl, _⟩ := k; exact plain _ _ (fun _ _ h => by cases h) (fun h => by cases h)
      · cases hr
    · cases h
      dsimp only at hr
      unfold eqMap at hr
      split at hr
      · cases k; exact plain _ _ (fun _ _ h => by cases h) (fun h => by cases h)
      · obtain ⟨q, _, rfl⟩ := k; exact plain _ _ (fun _ _ h => by cases h) (fun h => by cases h)
      · cases hr
    · cases h
      dsimp only at hr
      unfold eqFn at hr
      split at hr
      · cases k; exact plain _ _ (fun _ _ h => by cases h) (fun h => by cases h)
      · obtain ⟨fs, cs, rfl, _⟩ := k; exact plain _ _ (fun _ _ h => by cases h) (fun h => by cases h)
      · cases hr
    · cases h
      dsimp only at hr
      unfold eqIf at hr
      split at hr
      · split at hr
        · cases k; obtain ⟨y, rfl, _⟩ := k'; exact plain _ _ (fun _ _ h => by cases h) (fun _ h => by cases h)
        · cases hr
      · obtain ⟨y, rfl, _⟩ := k; exact plain _ _ (fun _ _ h => by cases h) (fun h => by cases h)
      · cases hr
    · split at h
      · cases h
      rename_i hst
      have hst : P.stoodInHeld t = false ∧ P.eqGuardType P.depth t = false := by simpa using hst
      split at h
      · cases h
      cases h
      unfold aggEq at hr
      split at hr
      · split at hr
        · obtain ⟨xs, rfl, k⟩ := k
          obtain ⟨ys, rfl, k'⟩ := k'
          exact run_eqGuard_agg w op t ox oy xs ys hst.2
        · cases hr
      · cases hr
    · cases h
def Oth : Value → Prop
  | .int .. | .float .. | .complex .. | .string .. => False
  | _ => True
theorem eq_kinds {d t : Nat} {e : St → KEq} (h : eqB P d t = .mk e) {x y : V} {X Y : Value} {r : Bool} (hr : e S x y = some r) (k : VR ρ φ x X) (k' : VR ρ φ y Y) :
    (∃ kd a b, X = .int kd a ∧ Y = .int kd b ∧ r = (a == b)) ∨ (∃ s s', X = .string s ∧ Y = .string s' ∧ r = (s.toList == s'.toList)) ∨ Oth X := by
  cases d with
  | zero => cases h
  | succ d =>
    simp only [eqB] at h
    split at h
    · cases h; exact .inl (eqInt_run hr k k')
    · cases h; exact .inr (.inl (eqStr_some hr k k'))
    · cases h
      obtain ⟨a, b, rfl, rfl, rfl⟩ := eqBool_some hr k k'
      exact .inr (.inr trivial)
    · split at h
      · cases h
        unfold eqPtr at hr
        split at hr
        · cases k; exact .inr (.inr trivial)
        · obtain ⟨q, _, _, rfl⟩ := k; exact .inr (.inr trivial)
        · cases hr
      · cases h
    · cases h
      dsimp only at hr
      unfold eqSl at hr
      split at hr
      · cases k; exact .inr (.inr trivial)
      · obtain ⟨q, o, c, _, rfl, _⟩ := k; exact .inr (.inr trivial)
      · cases hr
    · cases h
      dsimp only at hr
      unfold eqMap at hr
      split at hr
      · cases k; exact .inr (.inr trivial)
      · obtain ⟨q, _, rfl⟩ := k; exact .inr (.inr trivial)
      · cases hr
    · cases h
      dsimp only at hr
      unfold eqFn at hr
      split at hr
      · cases k; exact .inr (.inr trivial)
      · obtain ⟨fs, cs, rfl, _⟩ := k; exact .inr (.inr trivial)
      · cases hr
    · cases h
      dsimp only at hr
      unfold eqIf at hr
      split at hr
      · cases k; exact .inr (.inr trivial)
      · obtain ⟨y, rfl, _⟩ := k; exact .inr (.inr trivial)
      · cases hr
    · split at h
      · cases h
      split at h
      · cases h
      cases h
      unfold aggEq at hr
      split at hr
      · obtain ⟨xs, rfl, k⟩ := k; exact .inr (.inr trivial)
      · cases hr
    · cases h
theorem run_binEq {d t : Nat} {e : St → KEq} (h : eqB P d t = .mk e) {x y : V} {X Y : Value} {r : Bool} (hr : e S x y = some r) (k : VR ρ φ x X) (k' : VR ρ φ y Y)
    (hrun : (Op.equalIn 10000 t X Y).run P w = .ok r w) : (binOp .eql t X Y).run P w = .ok (.bool r) w ∧ (binOp .neq t X Y).run P w = .ok (.bool (!r)) w := by
  rcases eq_kinds h hr k k' with ⟨kd, a, b, rfl, rfl, rfl⟩ | ⟨s, s', rfl, rfl, rfl⟩ | ho
  · refine ⟨by simp [binOp, Op.intCmp], ?_⟩
    simp only [binOp, Op.intCmp, bne, ne_eq, not_true_eq_false, if_false]; rfl
  · exact ⟨by simp [binOp, Op.stringOp], by simp [binOp, Op.stringOp]⟩
  · have hq : (Op.equal t X Y).run P w = .ok r w := hrun
    have h1 : binOp .eql t X Y = (do pure (.bool (← Op.equal t X Y))) := by
      cases X <;> first | exact ho.elim | rfl
    have h2 : binOp .neq t X Y = (do pure (.bool (!(← Op.equal t X Y)))) := by
      cases X <;> first | exact ho.elim | rfl
    rw [h1, h2]
    exact ⟨by simp only [Sem.run_bind, hq, Result.andThen_ok, Sem.run_pure], by simp only [Sem.run_bind, hq, Result.andThen_ok, Sem.run_pure]⟩
end
end Go.Xe
