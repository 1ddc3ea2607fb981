/-
  CODE, FUNCTIONS, CALLS.
-/
import Derived.Test.YtnjfkicalpbiaaaGreatDoorXeDrawD
import Derived.Laws.Externs
set_option linter.unusedVariables false
set_option linter.unusedSimpArgs false
set_option linter.unnecessarySimpa false
namespace Go.Xe
open Go.RowKit
theorem wp_loop_n {P : Program} {Q : Exit → Act → World → Prop} {c : Code} (J : Nat → Act → World → Prop) (h0 : ∀ a w, ¬ J 0 a w) (round : ∀ n a w, J (n + 1) a w → c.wp P (Exit.then (J n) Q) a w) {n : Nat} {a : Act} {w : World} (h : J n a w) : (Code.loop c).wp P Q a w := by
  intro b k cs
  have key : ∀ n a w, J n a w → ∃ e a' w', Q e a' w' ∧ Arrives P (lone (b.at a (.code c :: .inLoop c :: k)) cs w) b k cs e a' w' := by
    intro n
    induction n with
    | zero => exact fun a w h => absurd h (h0 a w)
    | succ n ih =>
      intro a w h
      obtain ⟨e, a1, w1, hq, harr⟩ := round n a w h b (.inLoop c :: k) cs
      cases e with
      | normal =>
        obtain ⟨e2, a2, w2, hq2, harr2⟩ := ih a1 w1 hq
        exact ⟨e2, a2, w2, hq2, .of_steps (Steps.trans harr (.one step_inLoop)) harr2⟩
      | exit id => exact ⟨_, a1, w1, hq, .pass (x := .inLoop c) rfl (fun _ _ => .inl (by simp)) harr⟩
      | goto l => exact ⟨_, a1, w1, hq, .pass (x := .inLoop c) rfl (fun _ _ => .inl (by simp)) harr⟩
      | ret => exact ⟨_, a1, w1, hq, .pass (x := .inLoop c) rfl (fun _ _ => .inl (by simp)) harr⟩
      | panic ch => exact ⟨_, a1, w1, hq, .pass (x := .inLoop c) rfl (fun _ _ => .inl (by simp)) harr⟩
      | outgrown => exact ⟨_, a1, w1, hq, .pass (x := .inLoop c) rfl (fun _ _ => .inl (by simp)) harr⟩
  obtain ⟨e, a', w', hq, harr⟩ := key n a w h
  exact ⟨e, a', w', hq, .of_steps (.one step_loop) harr⟩
theorem caller_own {C : Cxt} {call : Caller} (K : ∀ l, CallerOK (C.hold l) call) : CallerOK C call := by
  intro f args S S' v φ w Xs h k R o a next Q hn
  exact K [] h k R.hold o a next Q fun φ' X w' e R' kX => hn φ' X w' e R'.unhold kX
section
variable {C : Cxt} {call : Caller} {nt U : Nat}
theorem den_ok (hm : C.P.follows .mixedOrders = true) (K : ∀ l, CallerOK (C.hold l) call) : ∀ (c : Code) {f : CCont}, den C.P nt U c = .mk f → ∀ {φ : Phi} {F : Fr} {S : St} {a : Act} {w : World} {Q : Exit → Act → World → Prop},
    Rel C φ S w → Fok C.ρ φ nt U F a → a.defers = [] → Holds C nt U φ (f call F S) Q → c.wp C.P Q a w := by
  intro c
  induction c with
  | skip =>
    intro f h φ F S a w Q R E hd hq
    cases h
    exact wp_skip (hq φ a w (Ext.refl φ) R E hd)
  | region id ops draw =>
    intro f h φ F S a w Q R E hd hq
    unfold den at h
    dsimp only at h
    split at h
    · cases h; exact hq.elim
    rename_i g hg
    cases h
    cases draw with
    | false => exact region_ok (caller_own K) hg R E hd hq
    | true => exact draw_ok hm K hg R E hd hq
  | seq x y ihx ihy =>
    intro f h φ F S a w Q R E hd hq
    unfold den at h
    dsimp only at h
    split at h
    · cases h
    rename_i g hg
    split at h
    · cases h
    rename_i g' hg'
    cases h
    dsimp only at hq
    refine wp_seq (ihx hg R E hd ?_)
    revert hq
    cases g call F S with
    | bad => exact fun hq => hq.elim
    | norm F' S' => exact fun hq φ' a' w' e R' E' hd' => ihy hg' R' E' hd' (hq.mono e)
    | exit id F' S' => exact fun hq => hq
    | ret F' S' => exact fun hq => hq
  | cond o x y ihx ihy =>
    intro f h φ F S a w Q R E hd hq
    unfold den at h
    dsimp only at h
    split at h
    · cases h; exact hq.elim
    rename_i e he
    split at h
    · cases h
    rename_i g hg
    split at h
    · cases h
    rename_i g' hg'
    cases h
    have k := ev_some E he
    dsimp only at hq
    split at hq
    · rename_i hv; rw [hv] at k
      exact wp_cond_true k (ihx hg R E hd hq)
    · rename_i hv; rw [hv] at k
      exact wp_cond_false k (ihy hg' R E hd hq)
    · exact hq.elim
  | block id x ih =>
    intro f h φ F S a w Q R E hd hq
    unfold den at h
    dsimp only at h
    split at h
    · cases h
    rename_i g hg
    cases h
    dsimp only at hq
    refine wp_block (ih hg R E hd ?_)
    revert hq
    cases g call F S with
    | bad => exact fun hq => hq.elim
    | norm F' S' => exact fun hq => hq
    | exit j F' S' =>
      intro hq φ' a' w' e R' E' hd'
      dsimp only at hq
      show if j = id then Q .normal a' w' else Q (.exit j) a' w'
      split at hq
      · rename_i hb
        rw [if_pos (beq_eq hb)]
        exact hq φ' a' w' e R' E' hd'
      · rename_i hb
        rw [if_neg (fun e => by subst e; rw [Nat.beq_refl] at hb; cases hb)]
        exact hq φ' a' w' e R' E' hd'
    | ret F' S' => exact fun hq => hq
  | loop x ih =>
    intro f h φ F S a w Q R E hd hq
    unfold den at h
    dsimp only at h
    split at h
    · cases h
    rename_i g hg
    cases h
    refine wp_loop_n (fun n a w => ∃ φ F S, Rel C φ S w ∧ Fok C.ρ φ nt U F a ∧ a.defers = [] ∧ Holds C nt U φ (iter (g call) n F S) Q) ?_ ?_ (n := 100000) ⟨φ, F, S, R, E, hd, hq⟩
    · rintro a w ⟨φ, F, S, _, _, _, hq⟩
      exact hq.elim
    · rintro n a w ⟨φ, F, S, R0, E, hd, hq⟩
      refine ih hg R0 E hd ?_
      have hq : Holds C nt U φ (Xe.R.rec (motive := fun _ => Xe.R) .bad (fun F S => iter (g call) n F S) (fun id F S => .exit id F S) (fun F S => .ret F S) (g call F S)) Q := hq
      revert hq
      cases g call F S with
      | bad => exact fun hq => hq.elim
      | norm F' S' => exact fun hq φ' a' w' e R' E' hd' => ⟨φ', F', S', R', E', hd', hq.mono e⟩
      | exit id F' S' => exact fun hq => hq
      | ret F' S' => exact fun hq => hq
  | rangeFunc o ps x y ihx ihy =>
    intro f h φ F S a w Q R E hd hq
    cases h; exact hq.elim
  | exit id =>
    intro f h φ F S a w Q R E hd hq
    cases h
    exact wp_exit (hq φ a w (Ext.refl φ) R E hd)
  | scope x ih =>
    intro f h φ F S a w Q R E hd hq
    cases h; exact hq.elim
  | label l =>
    intro f h φ F S a w Q R E hd hq
    cases h
    exact wp_label (hq φ a w (Ext.refl φ) R E hd)
  | goto l =>
    intro f h φ F S a w Q R E hd hq
    cases h; exact hq.elim
  | ret =>
    intro f h φ F S a w Q R E hd hq
    cases h
    exact wp_ret (hq φ a w (Ext.refl φ) R E hd)
  | refuse s =>
    intro f h φ F S a w Q R E hd hq
    cases h; exact hq.elim
-- RESULTS
theorem resB_ok : ∀ (rs : List ResultVar) {g : Fr → St → Option (List V)}, resB C.P nt U rs = .mk g → ∀ {φ : Phi} {F : Fr} {S : St} {a : Act} {w : World} {l : List V}, Rel C φ S w → Fok C.ρ φ nt U F a → g F S = some l →
    ∃ Xs : List Value, (rs.mapM fun (r : ResultVar) => (match r with
      | .tmp t => (pure (a.tmps.getD t undef) : Sem Value)
      | .cell p t => do loadVar t (← asAddr (a.tmps.getD p undef)))).run C.P w = .ok Xs w ∧ VRL C.ρ φ l Xs
  | [], g, h, φ, F, S, a, w, l, R, E, hl => by
    cases h; cases hl
    exact ⟨[], by simp, rfl⟩
  | .tmp t :: r, g, h, φ, F, S, a, w, l, R, E, hl => by
    simp only [resB] at h
    split at h
    · cases h
    rename_i f hf
    split at h
    · cases h
    rename_i g' hg'
    cases h
    dsimp only at hl
    split at hl
    rotate_left
    · cases hl
    rename_i l' hl'
    cases hl
    obtain ⟨Xs, h1, h2⟩ := resB_ok r hg' R E hl'
    refine ⟨a.tmps.getD t undef :: Xs, ?_, ⟨_, _, rfl, tmp_some E hf, h2⟩⟩
    rw [List.mapM_cons]
    simp only [Sem.run_bind, Sem.run_pure, Result.andThen_ok, h1]
  | .cell p t :: r, g, h, φ, F, S, a, w, l, R, E, hl => by
    simp only [resB] at h
    split at h
    · cases h
    rename_i f hf
    split at h
    · cases h
    rename_i ag hag
    split at h
    · cases h
    rename_i n hn
    split at h
    · cases h
    rename_i g' hg'
    split at h
    · cases h
    rename_i hc
    cases h
    dsimp only at hl
    split at hl
    rotate_left
    · cases hl
    rename_i v hv
    split at hl
    rotate_left
    · cases hl
    rename_i l' hl'
    cases hl
    obtain ⟨Xs, h1, h2⟩ := resB_ok r hg' R E hl'
    have k := tmp_some E hf
    obtain ⟨Y, hY, kY⟩ := run_loadAt hag hn hc R k hv
    refine ⟨Y :: Xs, ?_, ⟨_, _, rfl, kY, h2⟩⟩
    rw [List.mapM_cons]
    have : ∃ ad, a.tmps.getD p undef = .pointer (some ad) := by
      unfold ldv at hv
      split at hv
      · rename_i B o hp
        rw [hp] at k
        obtain ⟨q, _, _, e⟩ := k
        exact ⟨_, e⟩
      · cases hv
    obtain ⟨ad, had⟩ := this
    have hY' : (loadVar t ad).run C.P w = .ok Y w := by
      have e : slot a p = a.tmps.getD p undef := rfl
      rw [e, had] at hY
      simpa [Instr.loadAt, Instr.sureAddr] using hY
    have hfst : (do loadVar t (← asAddr (a.tmps.getD p undef)) : Sem Value).run C.P w = .ok Y w := by
      rw [had]; simp [asAddr, hY']
    rw [Sem.run_bind]
    refine Eq.trans (congrArg (fun r => Result.andThen r _) hfst) ?_
    simp only [Result.andThen_ok, Sem.run_bind, h1, Sem.run_pure]
theorem results_ok {fn : Func} {g : Fr → St → Option (List V)} (h : resB C.P nt U fn.results.toList = .mk g) {φ : Phi} {F : Fr} {S : St} {a : Act} {w : World} {l : List V} (R : Rel C φ S w) (E : Fok C.ρ φ nt U F a) (hl : g F S = some l) :
    ∃ X, (results fn a.tmps).run C.P w = .ok X w ∧ VR C.ρ φ (tup l) X := by
  obtain ⟨Xs, h1, h2⟩ := resB_ok fn.results.toList h R E hl
  have hmm : (fn.results.mapM fun (r : ResultVar) => (match r with
      | .tmp t => (pure (a.tmps.getD t undef) : Sem Value)
      | .cell p t => do loadVar t (← asAddr (a.tmps.getD p undef)))).run C.P w = .ok Xs.toArray w := by
    rw [Array.mapM_eq_mapM_toList, Sem.run_map, h1]; rfl
  have hr : (results fn a.tmps).run C.P w = .ok (if h : Xs.toArray.size = 1 then Xs.toArray[0] else .tuple Xs.toArray) w := by
    unfold results
    rw [Sem.run_bind]
    refine Eq.trans (congrArg (fun r => Result.andThen r _) hmm) ?_
    simp
  refine ⟨_, hr, ?_⟩
  match l, h2 with
  | [], k => cases k; exact ⟨#[], rfl, rfl⟩
  | [v], k => obtain ⟨X, rfl, k1⟩ := VRL.one k; simpa [tup] using k1
  | v :: v' :: l, k =>
    have hl := k.length
    have : ¬ Xs.toArray.size = 1 := by simp at hl ⊢; omega
    rw [dif_neg this]
    exact ⟨Xs.toArray, rfl, k⟩
end
-- A FUNCTION
theorem argsIn_ok : ∀ (l : List V) (k : Nat) (F F' : Fr), argsIn k l F = .mk F' → k + l.length ≤ 256 → ∀ t, t < 256 → F'.at t = if k ≤ t ∧ t < k + l.length then l[t - k]?.getD u else F.at t
  | [], k, F, F', h, hs, t, ht => by cases h; rw [if_neg (by simp)]
  | v :: l, k, F, F', h, hs, t, ht => by
    simp only [argsIn] at h
    split at h
    · cases h
    rename_i f hf
    simp only [List.length_cons] at hs
    have := argsIn_ok l (k + 1) _ _ h (by omega) t ht
    rw [this, setB_some hf F v t ht]
    simp only [List.length_cons]
    by_cases e : t = k
    · subst e
      rw [if_neg (by omega), if_pos rfl, if_pos (by omega)]; simp
    · rw [if_neg e]
      by_cases hc : k + 1 ≤ t ∧ t < k + 1 + l.length
      · rw [if_pos hc, if_pos (by omega), show t - k = (t - (k + 1)) + 1 by omega]; simp
      · rw [if_neg hc, if_neg (by omega)]
theorem sel_rep {α : Type} (x : α) (d : Nat) : (N4.rep x).sel d = x := by
  unfold N4.sel N4.rep
  split <;> rfl
theorem none_at (t : Nat) : Fr.at Fr.none t = u := by
  unfold Fr.at Fr.none
  rw [sel_rep, sel_rep, sel_rep, sel_rep]
/-- what a call owes -/
def Ret (C : Cxt) (φ : Phi) (v : V) (S' : St) : Ending → World → Prop
  | .returned X, w' => ∃ φ', Ext φ φ' ∧ Rel C φ' S' w' ∧ VR C.ρ φ' v X
  | _, _ => False
theorem funB_ok {C : Cxt} (hm : C.P.follows .mixedOrders = true) {call : Caller} (K : ∀ l, CallerOK (C.hold l) call) {g : Nat} {fn : Func} {c : Code} (hf : C.P.funcs[g]? = some fn) (hb : fn.body = some c) {b : Caller → List V → St → O2} (h : funB C.P fn c = .mk b)
    {args : List V} {S S' : St} {v : V} {φ : Phi} {w : World} {Xs : Array Value} (hr : b call args S = .ok v S') (k : VRL C.ρ φ args Xs.toList) (R : Rel C φ S w) : Calls C.P g Xs w (Ret C φ v S') := by
  unfold funB at h
  split at h
  · cases h
  rename_i hnt
  have hnt := ble_le hnt
  simp only [frc_eq] at h
  split at h
  · cases h
  rename_i d hd
  split at h
  · cases h
  rename_i rs hrs
  cases h
  dsimp only at hr
  split at hr
  · cases hr
  rename_i hal
  have hal := ble_le hal
  split at hr
  · cases hr
  rename_i F hF
  have hlen : Xs.size = args.length := by have := k.length; simpa using this
  refine calls_of_wp hf hb (den_ok hm K c hd (F := F) (S := S) (φ := φ) R ?_ rfl ?_)
  · refine ⟨by simp; omega, hnt, fun t h1 h2 _ => ?_, fun t d h => by simp [idxOf] at h⟩
    have h1 : t < fn.ntmps := h1
    rw [argsIn_ok args 0 _ _ hF (by omega) t (by omega)]
    unfold slot
    rw [Array.getD_eq_getD_getElem?]
    by_cases ht : t < args.length
    · rw [if_pos (by omega)]
      have hv : args[t]? = some args[t] := List.getElem?_eq_getElem ht
      obtain ⟨X, e1, e2⟩ := k.get hv
      rw [Array.getElem?_append_left (by omega)]
      have e1 : Xs[t]? = some X := by simpa using e1
      rw [e1, Nat.sub_zero, hv]
      exact e2
    · rw [if_neg (by omega), none_at t, Array.getElem?_append_right (by omega)]
      cases hx : (Array.replicate (fn.ntmps - Xs.size) undef)[t - Xs.size]? with
      | none => exact VR_u
      | some y =>
        have := Array.getElem?_eq_some_iff.1 hx
        obtain ⟨_, e⟩ := this
        simp at e
        subst e
        exact VR_u
  · revert hr
    cases d call F S with
    | bad => intro hr; cases hr
    | exit id F' S1 => intro hr; cases hr
    | norm F' S1 =>
      intro hr φ' a w' e R' E' hdf
      dsimp only at hr
      unfold fin at hr
      split at hr
      rotate_left
      · cases hr
      rename_i l hl
      cases hr
      obtain ⟨X, h1, h2⟩ := results_ok hrs R' E' hl
      exact ⟨hdf, X, h1, φ', e, R', h2⟩
    | ret F' S1 =>
      intro hr φ' a w' e R' E' hdf
      dsimp only at hr
      unfold fin at hr
      split at hr
      rotate_left
      · cases hr
      rename_i l hl
      cases hr
      obtain ⟨X, h1, h2⟩ := results_ok hrs R' E' hl
      exact ⟨hdf, X, h1, φ', e, R', h2⟩
/-- a call of a function with a body, seen from the operation that calls -/
theorem enters {C : Cxt} {g : Nat} {fn : Func} {c : Code} (hf : C.P.funcs[g]? = some fn) (hb : fn.body = some c) (hn : (fn.name == "runtime.NumGoroutine") = false) (Xs : Array Value) (w : World) : (callFunc g Xs).run C.P w = .ok (.enter g Xs) w := by
  have hn' : ¬ fn.name = "runtime.NumGoroutine" := by simpa using hn
  simp [callFunc, hf, hb, hn']
theorem upon_ret {C : Cxt} {φ : Phi} {v : V} {S' : St} {o : Oper} {a : Act} {next : Act → World → Prop} {Q : Exit → Act → World → Prop} {g : Nat} {Xs : Array Value} {w : World} (h : Calls C.P g Xs w (Ret C φ v S'))
    (hn : ∀ φ' X w', Ext φ φ' → Rel C φ' S' w' → VR C.ρ φ' v X → next (a.put o.dst X) w') : o.upon C.P a next Q (.ok (.enter g Xs) w) := by
  rw [Oper.upon_enter]
  refine Calls.mono h fun e w' he => ?_
  cases e with
  | returned X => obtain ⟨φ', h1, h2, h3⟩ := he; exact hn φ' X w' h1 h2 h3
  | panicked c => exact he.elim
  | outgrown => exact he.elim
/-- what a function of the table by hand owes -/
def NatOK (C : Cxt) (N : Natives) : Prop :=
  ∀ g n, N g = some n → ∀ {args : List V} {S S' : St} {v : V} {φ : Phi} {w : World} {Xs : Array Value}, n args S = .ok v S' → VRL C.ρ φ args Xs.toList → Rel C φ S w →
    ∀ (o : Oper) (a : Act) (next : Act → World → Prop) (Q : Exit → Act → World → Prop), (∀ φ' X w', Ext φ φ' → Rel C φ' S' w' → VR C.ρ φ' v X → next (a.put o.dst X) w') →
      o.upon C.P a next Q ((callFunc g Xs).run C.P w)
def NoNum (P : Program) : Prop := ∀ (g : Nat) (fn : Func), P.funcs[g]? = some fn → fn.body.isSome = true → (fn.name == "runtime.NumGoroutine") = false
theorem callN_ok {P : Program} (hm : P.follows .mixedOrders = true) (hnn : NoNum P) {N : Natives} (hN : ∀ C : Cxt, C.P = P → NatOK C N) : ∀ (n : Nat) (C : Cxt), C.P = P → CallerOK C (callN P N n) := by
  intro n
  induction n with
  | zero =>
    intro C hC g args S S' v φ w Xs h
    cases h
  | succ n ih =>
    intro C hC g args S S' v φ w Xs h k R o a next Q hnx
    subst hC
    have h : (match bodyB C.P N g with | .no => O2.bad | .mk b => b (callN C.P N n) args S) = .ok v S' := h
    split at h
    · cases h
    rename_i b hb
    unfold bodyB at hb
    split at hb
    · rename_i nt hnt
      cases hb
      exact hN C rfl g nt hnt h k R o a next Q hnx
    · split at hb
      · cases hb
      rename_i fn hf
      split at hb
      · cases hb
      rename_i c hc
      rw [enters hf hc (hnn g fn hf (by rw [hc]; rfl))]
      exact upon_ret (funB_ok hm (fun l => ih (C.hold l) rfl) hf hc hb h k R) hnx
/-- A RUN of the executor shows what a call ends in. -/
theorem run_ok {C : Cxt} (hm : C.P.follows .mixedOrders = true) (hnn : NoNum C.P) {N : Natives} (hN : ∀ C' : Cxt, C'.P = C.P → NatOK C' N) {n g : Nat} {fn : Func} {c : Code} (hf : C.P.funcs[g]? = some fn) (hc : fn.body = some c) {b : Caller → List V → St → O2} (hb : funB C.P fn c = .mk b)
    {args : List V} {S S' : St} {v : V} {φ : Phi} {w : World} {Xs : Array Value} (h : b (callN C.P N n) args S = .ok v S') (k : VRL C.ρ φ args Xs.toList) (R : Rel C φ S w) : Calls C.P g Xs w (Ret C φ v S') :=
  funB_ok hm (fun l => callN_ok hm hnn hN n (C.hold l) rfl) hf hc hb h k R
end Go.Xe
