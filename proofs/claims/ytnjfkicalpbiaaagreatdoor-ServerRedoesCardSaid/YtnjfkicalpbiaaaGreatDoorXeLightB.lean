/-
  THE OPERATIONS THAT TURN NOTHING (the second part).
-/
import Derived.Lib.Builder
import Derived.Lib.UnsafeStr
import Derived.Test.YtnjfkicalpbiaaaGreatDoorXeLight
import Derived.Laws.BytesArg
set_option linter.unusedVariables false
set_option linter.unusedSimpArgs false
set_option linter.unnecessarySimpa false
namespace Go.Xe
open Go.RowKit
theorem nat?_R {ρ : Rho} {φ : Phi} {v : V} {X : Value} {n : Nat} (h : nat? v = some n) (k : VR ρ φ v X) : ∃ kd, X = .int kd (n : Int) := by
  unfold nat? at h
  split at h
  · cases h; exact ⟨.i64, k⟩
  · cases h; exact ⟨_, k⟩
  · cases h
theorem bytesS_R {ρ : Rho} {φ : Phi} : ∀ {l : List V} {m : Nat} {ys : List Value}, bytesS l = some m → VRL ρ φ l ys → ∃ bs : List UInt8, ys = bs.map (fun b => Value.int .u8 b.toNat) ∧ m = sOf (bs.map (·.toNat)) := by
  intro l
  induction l with
  | nil => intro m ys h k; cases h; cases k; exact ⟨[], rfl, rfl⟩
  | cons v l ih =>
    intro m ys h k
    obtain ⟨y, r, rfl, k1, k2⟩ := k
    unfold bytesS at h
    split at h
    · rename_i he; cases he
    · rename_i b l' he
      cases he
      split at h
      · rename_i n hn
        split at h
        · rename_i hb
          rw [nblt] at hb
          have hb : b < 256 := by simpa using hb
          cases h
          obtain ⟨bs, rfl, rfl⟩ := ih hn k2
          cases k1
          have e : b.toUInt8.toNat = b := by simp [Nat.toUInt8, UInt8.toNat_ofNat']; omega
          refine ⟨b.toUInt8 :: bs, ?_, ?_⟩
          · simp only [List.map_cons, e]; rfl
          · simp only [List.map_cons, sOf, e]; rfl
        · cases h
      · cases h
    · cases h
theorem src_sl {C : Cxt} {φ : Phi} {S : St} {w : World} (R : Rel C φ S w) {size n B o len z : Nat} {l : List V} (h : src size n (.sl B o len z) S = some l) {X : Value} (k : VR C.ρ φ (.sl B o len z) X) :
    z = size ∧ n ≤ len ∧ ∃ q off cap, φ B = some q ∧ X = .slice (some ⟨q.b, off, none⟩) len cap ∧ len ≤ cap ∧ ∃ ys : List Value, VRL C.ρ φ l ys ∧ ys.length = n * size ∧ (∀ y ∈ ys, Scalar y) ∧ (∀ j y, ys[j]? = some y → w.cell? ⟨q.b, off + j, none⟩ = some y) := by
  simp only [src] at h
  split at h
  rotate_left
  · cases h
  rename_i c lo sz fz hB
  split at h
  rotate_left
  · cases h
  rename_i hc
  obtain ⟨h1, hc⟩ := and_true hc
  obtain ⟨h2, hc⟩ := and_true hc
  obtain ⟨h3, h4⟩ := and_true hc
  rw [nbeq] at h1; rw [nble] at h2 h3 h4
  have h1 := of_decide_eq_true h1
  have h2 := of_decide_eq_true h2
  have h3 := of_decide_eq_true h3
  have h4 := of_decide_eq_true h4
  subst h1
  obtain ⟨q, off, cap, hq, rfl, hl, hz⟩ := k
  obtain ⟨ys, k1, k2, k3, k4⟩ := R.cells hB hq h3 h4 h
  refine ⟨rfl, h2, q, off, cap, hq, rfl, hl, ys, k1, k2, k4, fun j y hy => ?_⟩
  by_cases hcap : 0 < cap
  · obtain ⟨g1, rfl, g3⟩ := hz hcap
    exact k3 j y hy
  · have : len = 0 := by omega
    have : n = 0 := by omega
    subst this
    simp at k2
    subst k2
    simp at hy
section
variable {C : Cxt} {x : Cx}
theorem liesAt_head {P : Program} {e : TypeId} (hc : P.cellsOf e ≠ 0) (count : Nat) (hn : 1 ≤ count) : liesAt P P.depth e count 0 e 1 = true := by
  have hd : P.depth = (2 * (P.types.size + Made.depth) + 1) + 1 := rfl
  rw [hd]
  simp only [liesAt, Bool.or_eq_true]
  left
  rw [hd]
  simp [rowAt, hc, hn, sameLayout]
theorem lConv_ok {s d : TypeId} {p : Operand} {q : Light} (h : lConv C.P x s d p = .mk q) : LightOK C x (.convert s d p) q := by
  unfold lConv at h
  split at h
  · cases h
  rename_i f hf
  split at h
  · rename_i k hd
    split at h
    · rename_i ds hs0
      cases h
      intro φ S w L F a v R E hs o' ho
      have kf := ev_some E hf
      have hsome : (C.P.underlying s).isSome = true := by rw [hs0]; rfl
      have key : ∀ kd n, a.eval p = .int kd n → ∃ X, (execOp a.eval o').run C.P w = .ok (.value X) w ∧ VR C.ρ φ (mkI k (k.wrap n)) X := by
        intro kd n e
        refine ⟨.int k (k.wrap n), ?_, mkI_R _ _⟩
        simp only [execOp, ho, e]
        exact lay_v (by simp [convert, run_underlying hs0, run_underlying hd, Conv.intToInt])
      dsimp only at hs
      unfold cvInt at hs
      split at hs
      · rename_i n he; rw [he] at kf; cases hs; rw [frcI_eq]; exact key .i64 n kf
      · rename_i kd n he; rw [he] at kf; cases hs; rw [frcI_eq]; exact key kd n kf
      · rename_i t he; rw [he] at kf
        obtain ⟨kd, n, e, kv⟩ := cvY_run (φ := φ) hs kf
        refine ⟨.int k (k.wrap n), ?_, kv⟩
        simp only [execOp, ho, e]
        exact lay_v (by simp [convert, run_underlying hs0, run_underlying hd, Conv.intToInt])
      · cases hs
    · cases h
  · rename_i hd
    split at h
    · rename_i hs0
      cases h
      intro φ S w L F a v R E hs o' ho
      have kf := ev_some E hf
      dsimp only at hs
      unfold cvStr at hs
      split at hs
      · rename_i l n he; rw [he] at kf; cases hs
        obtain ⟨b, e, k1⟩ := kf
        refine ⟨.string b, ?_, b, rfl, k1⟩
        simp only [execOp, ho, e]
        exact lay_v (by simp [convert, run_underlying hs0, run_underlying hd])
      · rename_i l he; rw [he] at kf; cases hs
        obtain ⟨b, e, k1⟩ := kf
        refine ⟨.string b, ?_, b, rfl, k1⟩
        simp only [execOp, ho, e]
        exact lay_v (by simp [convert, run_underlying hs0, run_underlying hd])
      · cases hs
    · rename_i e hs0
      split at h
      · rename_i he8
        cases h
        intro φ S w L F a v R E hs o' ho
        have kf := ev_some E hf
        dsimp only at hs
        unfold cvBytes at hs
        split at hs
        · rename_i he; rw [he] at kf; cases hs
          have kf : a.eval p = .slice none 0 0 := kf
          refine ⟨.string .empty, ?_, .empty, rfl, rfl, by simp⟩
          simp only [execOp, ho, kf]
          exact lay_v (by rw [run_convert_bytes_string w s d e none 0 0 hs0 he8 hd]; rfl)
        · rename_i B o n z he; rw [he] at kf
          split at hs
          · rename_i l hl
            split at hs
            · rename_i m hm
              cases hs
              obtain ⟨hz, hn, q, off, cap, hq, e1, hc, ys, k1, k2, k3, k4⟩ := src_sl R hl kf
              obtain ⟨bs, rfl, rfl⟩ := bytesS_R hm k1
              have hlen : bs.length = n := by simpa using k2
              refine ⟨.string ⟨bs.toArray⟩, ?_, ?_⟩
              · simp only [execOp, ho, e1]
                refine lay_v ?_
                have hl := run_loadCells_list (P := C.P) (w := w) ⟨q.b, off, none⟩ (bs.map fun b => Value.int .u8 b.toNat) (fun j y hy => by rw [add_none]; exact k4 j y hy)
                rw [show (bs.map fun b => Value.int .u8 b.toNat).length = n by simpa using hlen] at hl
                have hl' : (loadCells ⟨q.b, off, none⟩ n).run C.P w = .ok ((bs.map fun b => (b.toNat : Int)).map (Value.int .u8)).toArray w := by rw [hl]; simp
                rw [run_convert_bytes_string w s d e _ n cap hs0 he8 hd, run_bytesToString w _ n cap _ hl', foldl_push_bytes]
                simp only [ByteArray.empty, ByteArray.emptyWithCapacity, List.map_map]
                have e2 : ∀ l : List UInt8, l.map ((fun n : Int => UInt8.ofNat n.toNat) ∘ fun b : UInt8 => (b.toNat : Int)) = l := by
                  intro l; induction l with | nil => rfl | cons b l ih => simp [ih]
                rw [e2]; simp; rfl
              · rw [frc_eq]
                exact ⟨_, rfl, by rw [← hlen]; exact (strB_sOf bs).symm, by rw [← hlen]; exact sOf_lt bs⟩
            · split at hs
              · rename_i by' hm
                cases hs
                obtain ⟨hz, hn, q, off, cap, hq, e1, hc, ys, k1, k2, k3, k4⟩ := src_sl R hl kf
                obtain ⟨bs, rfl, hb1, hb2⟩ := bytesY_R hm k1
                have hlen : bs.length = n := by simpa using k2
                refine ⟨.string ⟨bs.toArray⟩, ?_, mkTxt_R hb2 (by simpa using hb1)⟩
                simp only [execOp, ho, e1]
                refine lay_v ?_
                have hl := run_loadCells_list (P := C.P) (w := w) ⟨q.b, off, none⟩ (bs.map fun b => Value.int .u8 b.toNat) (fun j y hy => by rw [add_none]; exact k4 j y hy)
                rw [show (bs.map fun b => Value.int .u8 b.toNat).length = n by simpa using hlen] at hl
                have hl' : (loadCells ⟨q.b, off, none⟩ n).run C.P w = .ok ((bs.map fun b => (b.toNat : Int)).map (Value.int .u8)).toArray w := by rw [hl]; simp
                rw [run_convert_bytes_string w s d e _ n cap hs0 he8 hd, run_bytesToString w _ n cap _ hl', foldl_push_bytes]
                simp only [ByteArray.empty, ByteArray.emptyWithCapacity, List.map_map]
                have e2 : ∀ l : List UInt8, l.map ((fun n : Int => UInt8.ofNat n.toNat) ∘ fun b : UInt8 => (b.toNat : Int)) = l := by
                  intro l; induction l with | nil => rfl | cons b l ih => simp [ih]
                rw [e2]; simp; rfl
              · cases hs
          · cases hs
        · cases hs
      · cases h
    · cases h
  · rename_i hd
    split at h
    rotate_left
    · cases h
    rename_i t hs0
    split at h
    rotate_left
    · cases h
    rename_i n hn
    split at h
    · cases h
    rename_i hn0
    cases h
    obtain ⟨i, hi, hsz⟩ := szB_some hn
    intro φ S w L F a v R E hs o' ho
    have kf := ev_some E hf
    dsimp only at hs
    unfold toUns at hs
    split at hs
    · rename_i he; rw [he] at kf; cases hs
      have kf : a.eval p = .pointer none := kf
      refine ⟨.pointer none, ?_, rfl⟩
      simp only [execOp, ho, kf]
      exact lay_v (by simp [convert, run_underlying hs0, run_underlying hd, Conv.unsafePointer])
    · rename_i B of he; rw [he] at kf
      split at hs
      rotate_left
      · cases hs
      rename_i c lo m fz hB
      split at hs
      rotate_left
      · cases hs
      rename_i hc
      cases hs
      obtain ⟨c1, c2⟩ := and_true hc
      have c1 : lo ≤ of := by simpa using c1
      have c2 : of < m := by simpa [Nat.blt_eq] using c2
      have kf0 := kf
      obtain ⟨q, hq, hsh, e1⟩ := kf
      obtain ⟨q', hq', cs, fr, g1, g2, g3, g4, _⟩ := R.obj B _ hB
      rw [hq] at hq'; cases hq'
      refine ⟨_, ?_, e1 ▸ kf0⟩
      simp only [execOp, ho, e1]
      refine lay_v (Lib.run_to_unsafe (e := fz.ty) (cells := cs.size) w ⟨q.b, of - q.sh, none⟩ hs0 hd hi ?_ ?_ ?_)
      · rw [hsz]; intro e; subst e; cases hn0
      · simp only [World.shape?, g1]
      · show of - q.sh < cs.size; omega
    · cases hs
  · rename_i t hd
    split at h
    rotate_left
    · cases h
    rename_i hs0
    split at h
    rotate_left
    · cases h
    rename_i n hn
    split at h
    · cases h
    rename_i hn0
    cases h
    obtain ⟨i, hi, hsz⟩ := szB_some hn
    intro φ S w L F a v R E hs o' ho
    have kf := ev_some E hf
    dsimp only at hs
    unfold ofUns at hs
    split at hs
    · rename_i he; rw [he] at kf; cases hs
      have kf : a.eval p = .pointer none := kf
      refine ⟨.pointer none, ?_, rfl⟩
      simp only [execOp, ho, kf]
      exact lay_v (by simp [convert, run_underlying hs0, run_underlying hd, Conv.unsafePointer])
    · rename_i B of he; rw [he] at kf
      split at hs
      rotate_left
      · cases hs
      rename_i c lo m fz hB
      split at hs
      rotate_left
      · cases hs
      rename_i hc
      cases hs
      obtain ⟨c1, hc⟩ := and_true hc
      obtain ⟨c2, c3⟩ := and_true hc
      have c1 : of = 0 := Nat.eq_of_beq_eq_true c1
      have c2 : fz.ty = t := Nat.eq_of_beq_eq_true c2
      have c3 : n ≤ m := by simpa using c3
      have kf0 := kf
      obtain ⟨q, hq, hsh, e1⟩ := kf
      obtain ⟨q', hq', cs, fr, g1, g2, g3, g4, _⟩ := R.obj B _ hB
      rw [hq] at hq'; cases hq'
      have hco : C.P.cellsOf t = n := by simp [Program.cellsOf, hi, hsz]
      have hnp : n ≠ 0 := by intro e; subst e; cases hn0
      refine ⟨_, ?_, e1 ▸ kf0⟩
      simp only [execOp, ho, e1]
      refine lay_v (Lib.run_from_unsafe (e := fz.ty) (cells := cs.size) w ⟨q.b, of - q.sh, none⟩ hs0 hd hi ?_ ?_)
      · simp only [World.shape?, g1]
      · show liesAt C.P C.P.depth fz.ty (cs.size / C.P.cellsOf fz.ty) (of - q.sh) t 1 = true
        rw [c2, hco, show of - q.sh = 0 by omega]
        exact liesAt_head (by rw [hco]; exact hnp) _ (by
          have : 1 * n ≤ cs.size := by omega
          exact (Nat.le_div_iff_mul_le (by omega)).2 this)
    · cases hs
  · cases h
theorem lIface_ok {t : TypeId} {p : Operand} {q : Light} (h : lIface C.P x t p = .mk q) : LightOK C x (.makeInterface t p) q := by
  unfold lIface at h
  split at h
  · cases h
  rename_i f hf
  split at h
  · cases h
  · rename_i d hd hu
    cases h
    intro φ S w L F a v R E hs o' ho
    cases hs
    refine ⟨.iface t (a.eval p), ?_, _, rfl, ev_some E hf⟩
    simp only [execOp, ho]
    refine lay_v ?_
    cases d <;> first | exact absurd rfl (hd _) | simp [Instr.makeInterface, run_underlying hu]
  · cases h
theorem lFunc_ok {g : Nat} {first caps : Array Operand} {q : Light} (h : lFunc x g first.toList caps.toList = .mk q) : LightOK C x (.makeFunc (.func g) first caps) q := by
  unfold lFunc at h
  split at h
  · cases h
  rename_i f hf
  split at h
  · cases h
  rename_i k hk
  cases h
  intro φ S w L F a v R E hs o' ho
  cases hs
  refine ⟨.func (.func g) (first.map a.eval) (caps.map a.eval), ?_, _, _, rfl, ?_, ?_⟩
  · simp only [execOp, ho]
    exact lay_v (by simp [Instr.makeFunc])
  · rw [Array.toList_map]; exact evs_some E hf
  · rw [Array.toList_map]; exact evs_some E hk
theorem lExtract_ok {p : Operand} {i : Nat} {q : Light} (h : lExtract x p i = .mk q) : LightOK C x (.extract p i) q := by
  unfold lExtract at h
  split at h
  · cases h
  rename_i f hf
  cases h
  intro φ S w L F a v R E hs o' ho
  have k := ev_some E hf
  dsimp only at hs
  unfold extr at hs
  split at hs
  · rename_i l he; rw [he] at k
    obtain ⟨cs, e, k⟩ := k
    rw [nth_get] at hs
    obtain ⟨X, hX, kX⟩ := k.get hs
    refine ⟨X, ?_, kX⟩
    simp only [execOp, ho, e]
    have : cs[i]? = some X := by simpa using hX
    exact lay_v (by simp [Instr.extract, this])
  · cases hs
theorem lFieldA_ok {t : TypeId} {p : Operand} {i : Nat} {q : Light} (h : lFieldA C.P x t p i = .mk q) : LightOK C x (.fieldAddr t p i) q := by
  unfold lFieldA at h
  split at h
  · cases h
  rename_i f hf
  split at h
  · cases h
  rename_i fd hfd
  split at h
  · cases h
  rename_i n hn
  split at h
  · cases h
  rename_i hn0
  rw [nbeq] at hn0
  have hn0 : n ≠ 0 := by simpa using hn0
  cases h
  obtain ⟨fs, hu, hfi⟩ := fieldB_some hfd
  intro φ S w L F a v R E hs o' ho
  have k := ev_some E hf
  dsimp only at hs
  unfold fldA at hs
  split at hs
  · rename_i B o he; rw [he] at k
    obtain ⟨q, hq, hsh, e⟩ := k
    cases hs
    rw [frc_eq]
    refine ⟨.pointer (some ⟨q.b, o - q.sh + fd.offset, none⟩), ?_, q, hq, by show q.sh ≤ o + fd.offset; omega, ?_⟩
    · simp only [execOp, ho, e]
      refine lay_v ?_
      simp [Instr.fieldAt, run_underlying hu, hfi, Instr.sureAddr, fieldPlace, run_sizeOf' hn, hn0, add_none]
    · show _ = Value.pointer (some ⟨q.b, o + fd.offset - q.sh, none⟩)
      rw [show o + fd.offset - q.sh = o - q.sh + fd.offset by omega]
  · cases hs
theorem lField_ok {t : TypeId} {p : Operand} {i : Nat} {q : Light} (h : lField C.P x t p i = .mk q) : LightOK C x (.field t p i) q := by
  unfold lField at h
  split at h
  · cases h
  rename_i f hf
  split at h
  · cases h
  rename_i fd hfd
  obtain ⟨fs, hu, hfi⟩ := fieldB_some hfd
  have key : ∀ {l : List V} {v : V} {φ : Phi} {w : World} {a : Act} {pt : List V → Option V}, partB C.P fd.type fd.offset = .mk pt → pt l = some v → VR C.ρ φ (.a l) (a.eval p) → ∀ o' : Oper, o'.op = .field t p i → ∃ X, (execOp a.eval o').run C.P w = .ok (.value X) w ∧ VR C.ρ φ v X := by
    intro l v φ w a pt hpt hv k o' ho
    obtain ⟨cs, e, k⟩ := k
    obtain ⟨X, hX, kX⟩ := partB_run (w := w) hpt hv k
    refine ⟨X, ?_, kX⟩
    simp only [execOp, ho, e]
    exact lay_v (by simp [Instr.field, run_underlying hu, hfi, asAgg, hX])
  split at h
  · cases h
  · rename_i hg
    cases h
    intro φ S w L F a v R E hs o' ho
    have k := ev_some E hf
    dsimp only at hs
    unfold fldV at hs
    split at hs
    · rename_i l he; rw [he] at k
      exact key (pt := fun l => nth l fd.offset) (by simp [partB, hg]) hs k o' ho
    · cases hs
  · rename_i hg
    split at h
    · cases h
    rename_i n hn
    cases h
    intro φ S w L F a v R E hs o' ho
    have k := ev_some E hf
    dsimp only at hs
    unfold fldS at hs
    split at hs
    · rename_i l he; rw [he] at k
      exact key (pt := fun l => match Nat.ble (Nat.add fd.offset n) l.length with | true => some (.a ((l.drop fd.offset).take n)) | false => none) (by unfold partB; rw [hg]; dsimp only; rw [hn]; rfl) hs k o' ho
    · cases hs
end
end Go.Xe
