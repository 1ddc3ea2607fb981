/-
  THE OPERATIONS THAT TURN NOTHING.
-/
import Derived.Test.YtnjfkicalpbiaaaGreatDoorXeKey
set_option linter.unusedVariables false
set_option linter.unusedSimpArgs false
set_option linter.unnecessarySimpa false
namespace Go.Xe
open Go.RowKit
def LightOK (C : Cxt) (x : Cx) (op : Op) (s : Light) : Prop :=
  ∀ {φ : Phi} {S : St} {w : World} {L : List V} {F : Fr} {a : Act} {v : V}, Rel C φ S w → Env C.ρ φ x L F a → s L F S = some v →
    ∀ o : Oper, o.op = op → ∃ X, (execOp a.eval o).run C.P w = .ok (.value X) w ∧ VR C.ρ φ v X
theorem lay_v {P : Program} {s : Sem Value} {w : World} {X : Value} (h : s.run P w = .ok X w) : ((do let y ← s; pure (Next.value y)) : Sem Next).run P w = .ok (.value X) w := by
  simp [h]
section
variable {C : Cxt} {x : Cx}
theorem lMove_ok {o : Operand} {s : Light} (h : lMove x o = .mk s) : LightOK C x (.move o) s ∧ LightOK C x (.assign o) s := by
  unfold lMove at h
  split at h
  · cases h
  rename_i f hf
  cases h
  constructor <;>
  · intro φ S w L F a v R E hs o' ho
    cases hs
    exact ⟨_, by simp [execOp, ho], ev_some E hf⟩
theorem lPick_ok {c p q : Operand} {s : Light} (h : lPick x c p q = .mk s) : LightOK C x (.pick c p q) s := by
  unfold lPick at h
  split at h
  · cases h
  rename_i fc hc
  split at h
  · cases h
  rename_i fp hp
  split at h
  · cases h
  rename_i fq hq
  cases h
  intro φ S w L F a v R E hs o' ho
  have kc := ev_some E hc
  have kp := ev_some E hp
  have kq := ev_some E hq
  dsimp only at hs
  split at hs
  · rename_i he; rw [he] at kc; cases hs
    have kc : a.eval c = .bool true := kc
    exact ⟨_, by simp [execOp, ho, kc, asBool], kp⟩
  · rename_i he; rw [he] at kc; cases hs
    have kc : a.eval c = .bool false := kc
    exact ⟨_, by simp [execOp, ho, kc, asBool], kq⟩
  · cases hs
theorem lLoad_ok {t : Nat} {p : Operand} {s : Light} (h : lLoad C.P x t p = .mk s) : LightOK C x (.load t p) s := by
  unfold lLoad at h
  split at h
  · cases h
  rename_i g hg
  split at h
  · cases h
  rename_i n hn
  split at h
  · cases h
  rename_i f hf
  split at h
  · rename_i hgn
    cases h
    intro φ S w L F a v R E hs o' ho
    obtain ⟨Y, hY, kY⟩ := run_loadAt hg hn hgn R (ev_some E hf) hs
    exact ⟨Y, by simp only [execOp, ho]; exact lay_v hY, kY⟩
  · cases h
theorem lNil_ok {p : Operand} {s : Light} (h : lNil x p = .mk s) : LightOK C x (.nilCheck p) s := by
  unfold lNil at h
  split at h
  · cases h
  rename_i f hf
  cases h
  intro φ S w L F a v R E hs o' ho
  have k := ev_some E hf
  dsimp only at hs
  unfold nilC at hs
  split at hs
  · rename_i B q he; rw [he] at k; cases hs
    obtain ⟨q, hq, hs, e⟩ := k
    exact ⟨_, by simp [execOp, ho, e], ⟨q, hq, hs, rfl⟩⟩
  · rename_i g fi ca he; rw [he] at k; cases hs
    obtain ⟨fs, cs, e, k1, k2⟩ := k
    exact ⟨_, by simp [execOp, ho, e], ⟨fs, cs, rfl, k1, k2⟩⟩
  · cases hs
theorem bin_run {ρ : Rho} {φ : Phi} {P : Program} {op : BinOp} (h1 : op ≠ .eql) (h2 : op ≠ .neq) {x y v : V} {X Y : Value} (h : bin op x y = some v) (k : VR ρ φ x X) (k' : VR ρ φ y Y) (t : TypeId) (w : World) :
    ∃ Z, (binOp op t X Y).run P w = .ok Z w ∧ VR ρ φ v Z := by
  unfold bin at h
  split at h
  · cases k; cases k'
    split at h
    · cases h; simp only [frcI_eq, i64_eq, iadd_eq]; exact ⟨_, by simp [binOp, Op.intArith], rfl⟩
    · cases h; simp only [frcI_eq, i64_eq, isub_eq]; exact ⟨_, by simp [binOp, Op.intArith], rfl⟩
    · by_cases h3 : op = .shl ∨ op = .shr
      · exact shift_run h h3 t w
      · exact arith_run h (fun e => h3 (.inl e)) (fun e => h3 (.inr e)) t w
  · cases k; cases k'
    split at h
    · exact shift_run h (.inl rfl) t w
    · exact shift_run h (.inr rfl) t w
    · rename_i h3 h4
      split at h
      · rename_i hk
        rw [kEq_eq] at hk
        have hk := of_decide_eq_true hk
        subst hk
        exact arith_run h (fun e => h3 e) (fun e => h4 e) t w
      · cases h
  · cases k; cases k'
    split at h
    · exact shift_run h (.inl rfl) t w
    · exact shift_run h (.inr rfl) t w
    · cases h
  · cases k; cases k'
    split at h
    · exact shift_run h (.inl rfl) t w
    · exact shift_run h (.inr rfl) t w
    · cases h
  · rename_i l n l' n'
    obtain ⟨s, rfl, k1, k2⟩ := k
    obtain ⟨s', rfl, k1', k2'⟩ := k'
    split at h
    · rw [frc_eq] at h
      split at h
      · rename_i hle
        rw [nble] at hle
        have hle : l + l' ≤ 4294967296 := by simpa using hle
        cases h
        have e1 := str_size (ρ := ρ) (φ := φ) ⟨s, rfl, k1, k2⟩
        have e2 := str_size (ρ := ρ) (φ := φ) ⟨s', rfl, k1', k2'⟩
        have hb : ¬ ((s.size + s'.size : Nat) : Int) > IntKind.i64.max := by
          rw [e1, e2]; simp [IntKind.max, IntKind.signed, IntKind.bits]; omega
        refine ⟨.string (s ++ s'), by simp only [binOp, Op.stringOp, hb, if_false]; rfl, ?_⟩
        rw [frc_eq]
        exact strR_append ⟨s, rfl, k1, k2⟩ ⟨s', rfl, k1', k2'⟩
      · cases h
    · exact absurd rfl h1
    · exact absurd rfl h2
    · cases h
  · exact binY_run h k k' t w
theorem lAr_ok {op : BinOp} (h1 : op ≠ .eql) (h2 : op ≠ .neq) {p q : Operand} {s : Light} (h : lAr x op p q = .mk s) (t ty : TypeId) : LightOK C x (.binOp op t p q ty) s := by
  unfold lAr at h
  split at h
  · cases h
  rename_i f hf
  split at h
  · cases h
  rename_i g hg
  cases h
  intro φ S w L F a v R E hs o' ho
  obtain ⟨Z, hZ, kZ⟩ := bin_run (P := C.P) h1 h2 hs (ev_some E hf) (ev_some E hg) t w
  refine ⟨Z, ?_, kZ⟩
  simp only [execOp, ho]
  refine lay_v ?_
  have : (eqGuard op t p q (a.eval p) (a.eval q)).run C.P w = .ok () w := by cases op <;> first | rfl | exact absurd rfl h1 | exact absurd rfl h2
  simp [this, hZ]
theorem lEq_ok {op : BinOp} (h1 : op = .eql ∨ op = .neq) {p q : Operand} {t : TypeId} {s : Light} (h : lEq C.P x op t p q = .mk s) (ty : TypeId) : LightOK C x (.binOp op t p q ty) s := by
  unfold lEq at h
  split at h
  · cases h
  rename_i f hf
  split at h
  · cases h
  rename_i g hg
  split at h
  · cases h
  rename_i e he
  cases h
  intro φ S w L F a v R E hs o' ho
  have kf := ev_some E hf
  have kg := ev_some E hg
  dsimp only at hs
  unfold eqV at hs
  split at hs
  · cases hs
  rename_i r hr
  have hrun := eqB_run (w := w) R.ptrOK he hr kf kg 10000 (by decide)
  have hgu := guard_run (w := w) he hr kf kg op p q
  have hb := run_binEq he hr kf kg hrun
  rcases h1 with rfl | rfl
  · cases hs
    exact ⟨.bool r, by simp only [execOp, ho]; exact lay_v (by simp [hgu, hb.1]), rfl⟩
  · cases hs
    exact ⟨.bool (!r), by simp only [execOp, ho]; exact lay_v (by simp [hgu, hb.2]), rfl⟩
theorem lBin_ok {op : BinOp} {p q : Operand} {t : TypeId} {s : Light} (h : lBin C.P x op t p q = .mk s) (ty : TypeId) : LightOK C x (.binOp op t p q ty) s := by
  unfold lBin at h
  split at h
  · exact lEq_ok (.inl rfl) h ty
  · exact lEq_ok (.inr rfl) h ty
  · rename_i h1 h2; exact lAr_ok (fun e => h1 e) (fun e => h2 e) h t ty
theorem lUn_ok {op : UnOp} {t : TypeId} {p : Operand} {s : Light} (h : lUn x op p = .mk s) : LightOK C x (.unOp op t p) s := by
  unfold lUn at h
  split at h
  · cases h
  rename_i f hf
  split at h
  · cases h
    intro φ S w L F a v R E hs o' ho
    have k := ev_some E hf
    dsimp only at hs
    unfold unNot at hs
    split at hs
    · rename_i b he; rw [he] at k; cases hs
      have k : a.eval p = .bool b := k
      exact ⟨.bool (!b), by simp only [execOp, ho, k]; exact lay_v (by simp [Op.unary]), by show _ = _; cases b <;> rfl⟩
    · cases hs
  · cases h
    intro φ S w L F a v R E hs o' ho
    have k := ev_some E hf
    dsimp only at hs
    unfold unNeg at hs
    split at hs
    · rename_i n he; rw [he] at k
      have k : a.eval p = .int .i64 n := k
      obtain ⟨Z, hZ, kZ⟩ := arith_run (ρ := C.ρ) (φ := φ) (P := C.P) hs (by simp) (by simp) 0 w
      exact ⟨Z, by simp only [execOp, ho, k]; exact lay_v (by simpa [Op.unary, binOp] using hZ), kZ⟩
    · rename_i kd n he; rw [he] at k
      have k : a.eval p = .int kd n := k
      obtain ⟨Z, hZ, kZ⟩ := arith_run (ρ := C.ρ) (φ := φ) (P := C.P) hs (by simp) (by simp) 0 w
      exact ⟨Z, by simp only [execOp, ho, k]; exact lay_v (by simpa [Op.unary, binOp] using hZ), kZ⟩
    · cases hs
  · cases h
    intro φ S w L F a v R E hs o' ho
    have k := ev_some E hf
    dsimp only at hs
    unfold unXor at hs
    split at hs
    · rename_i n he; rw [he] at k
      have k : a.eval p = .int .i64 n := k
      obtain ⟨Z, hZ, kZ⟩ := arith_run (ρ := C.ρ) (φ := φ) (P := C.P) hs (by simp) (by simp) 0 w
      exact ⟨Z, by simp only [execOp, ho, k]; exact lay_v (by simpa [Op.unary, binOp, IntKind.signed] using hZ), kZ⟩
    · rename_i kd n he; rw [he] at k
      have k : a.eval p = .int kd n := k
      obtain ⟨Z, hZ, kZ⟩ := arith_run (ρ := C.ρ) (φ := φ) (P := C.P) hs (by simp) (by simp) 0 w
      refine ⟨Z, ?_, kZ⟩
      simp only [execOp, ho, k]
      refine lay_v ?_
      rw [show Op.unary .xor (.int kd n) = Op.intBits .xor kd (if kd.signed then -1 else kd.max) n from rfl]
      cases kd <;> simpa [binOp, IntKind.signed] using hZ
    · cases hs
  · cases h
end
end Go.Xe
