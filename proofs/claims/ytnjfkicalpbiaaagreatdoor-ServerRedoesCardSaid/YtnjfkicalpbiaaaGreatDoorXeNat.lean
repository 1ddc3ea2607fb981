/-
  FUNCTIONS TAKEN BY A CONTRACT: what stands behind each.
-/
import Derived.Test.YtnjfkicalpbiaaaGreatDoorXeFun
import Derived.Test.YtnjfkicalpbiaaaGreatDoorNat1
import Derived.Lib.Repeat
set_option linter.unusedVariables false
set_option linter.unusedSimpArgs false
set_option linter.unnecessarySimpa false
namespace Go.Xe
open Go.RowKit
/-- a call that leaves what was there -/
theorem Rel.below {C : Cxt} {φ : Phi} {S : St} {w w' : World} (h : Rel C φ S w) (b : Below w.heap.size w w') : Rel C φ S w' := by
  refine ⟨fun B o hB => ?_, h.inj, h.fresh, fun B q hq => ⟨(h.lt B q hq).1, Nat.lt_of_lt_of_le (h.lt B q hq).2 b.size⟩, ⟨b.os.trans h.keep.os, b.tape.trans h.keep.tape, b.output.trans h.keep.output, Nat.le_trans h.keep.size b.size, fun k x hk => ?_⟩⟩
  · obtain ⟨q, hq, ho⟩ := h.obj B o hB
    exact ⟨q, hq, by rw [b.block _ (h.lt B q hq).2]; exact ho⟩
  · have h1 := h.keep.block k x hk
    rw [b.block k (Array.getElem?_eq_some_iff.1 h1).1]; exact h1
/-- what one function of the table owes -/
def OneOK (C : Cxt) (g : Nat) (n : List V → St → O2) : Prop :=
  ∀ {args : List V} {S S' : St} {v : V} {φ : Phi} {w : World} {Xs : Array Value}, n args S = .ok v S' → VRL C.ρ φ args Xs.toList → Rel C φ S w →
    ∀ (o : Oper) (a : Act) (next : Act → World → Prop) (Q : Exit → Act → World → Prop), (∀ φ' X w', Ext φ φ' → Rel C φ' S' w' → VR C.ρ φ' v X → next (a.put o.dst X) w') →
      o.upon C.P a next Q ((callFunc g Xs).run C.P w)
theorem one_of_calls {C : Cxt} {g : Nat} {fn : Func} (hf : C.P.funcs[g]? = some fn) (hb : fn.body.isSome = true) (hn : (fn.name == "runtime.NumGoroutine") = false) {n : List V → St → O2}
    (h : ∀ {args : List V} {S S' : St} {v : V} {φ : Phi} {w : World} {Xs : Array Value}, n args S = .ok v S' → VRL C.ρ φ args Xs.toList → Rel C φ S w → Calls C.P g Xs w (Ret C φ v S')) : OneOK C g n := by
  intro args S S' v φ w Xs hr k R o a next Q hnx
  obtain ⟨c, hc⟩ := Option.isSome_iff_exists.1 hb
  rw [enters hf hc hn]
  exact upon_ret (h hr k R) hnx
/-- a call that yields a value and leaves what was there -/
theorem ret_below {C : Cxt} {φ : Phi} {S : St} {v : V} {X : Value} {g : Nat} {Xs : Array Value} {w : World} (R : Rel C φ S w) (k : VR C.ρ φ v X) (h : Calls C.P g Xs w fun e w' => e = .returned X ∧ Below w.heap.size w w') : Calls C.P g Xs w (Ret C φ v S) :=
  Calls.mono h fun e w' ⟨he, hb⟩ => by subst he; exact ⟨φ, Ext.refl φ, R.below hb, k⟩
-- THE CHECK SUM
def crcB (l : List UInt8) (x : Nat) : Nat := l.foldl (fun x c => crcByte x c.toNat) x
theorem crcS_eq : ∀ (l n x : Nat), crcS l n x = crcB (strB l n) x
  | 0, _, _ => rfl
  | l + 1, n, x => by
    simp only [crcS, frc_eq, strB, crcB, List.foldl_cons]
    rw [crcS_eq l]
    congr 2
    have : (n % 256).toUInt8.toNat = n % 256 := by simp [Nat.toUInt8, UInt8.toNat_ofNat']
    rw [this]; rfl
def strOf : Value → ByteArray | .string s => s | _ => ⟨#[]⟩
def crcVs (xs : List Value) (x : Nat) : Nat := xs.foldl (fun x v => crcB (strOf v).data.toList x) x
theorem crcL_R {ρ : Rho} {φ : Phi} : ∀ {l : List V} {ys : List Value} {x r : Nat}, crcL l x = some r → VRL ρ φ l ys → r = crcVs ys x ∧ ∀ y ∈ ys, ∃ s, y = .string s ∧ s.size ≤ 4294967296
  | [], ys, x, r, h, k => by cases h; cases k; exact ⟨rfl, fun y hy => by cases hy⟩
  | v :: l, ys, x, r, h, k => by
    cases v <;> simp only [crcL, reduceCtorEq] at h
    rename_i L m
    split at h
    rotate_left
    · cases h
    rename_i hL
    obtain ⟨y, r', rfl, ⟨s, rfl, k1, k2⟩, k3⟩ := k
    rw [frc_eq] at h
    obtain ⟨h1, h2⟩ := crcL_R h k3
    have hsz : s.size = L := str_size (ρ := ρ) (φ := φ) ⟨s, rfl, k1, k2⟩
    refine ⟨?_, fun y hy => ?_⟩
    · rw [h1, crcS_eq, ← k1]; rfl
    · cases hy with
      | head => exact ⟨s, rfl, by rw [hsz]; exact ble_le hL⟩
      | tail _ hy => exact h2 y hy
theorem bit_lt {x : Nat} (h : x < 2 ^ 32) : crcBit x < 2 ^ 32 := by
  show (x >>> 1) ^^^ (3988292384 * (x &&& 1)) < 2 ^ 32
  apply Nat.xor_lt_two_pow
  · rw [Nat.shiftRight_eq_div_pow]; omega
  · rw [Nat.and_one_is_mod]
    have : x % 2 = 0 ∨ x % 2 = 1 := by omega
    rcases this with h | h <;> rw [h] <;> omega
theorem crcByte_lt {x c : Nat} (h : x < 2 ^ 32) (hc : c < 256) : crcByte x c < 2 ^ 32 := by
  unfold crcByte
  have : Nat.xor x c < 2 ^ 32 := Nat.xor_lt_two_pow h (by omega)
  exact bit_lt (bit_lt (bit_lt (bit_lt (bit_lt (bit_lt (bit_lt (bit_lt this)))))))
theorem crcs_lt (ρ : Rho) : ∀ (l : List By) {x : Nat}, x < 2 ^ 32 → By.crcs ρ l x < 2 ^ 32
  | [], x, h => by simpa [By.crcs] using h
  | b :: r, x, h => by simp only [By.crcs]; exact crcs_lt ρ r (crcByte_lt h (b.val_lt ρ))
theorem crcs_bytes {ρ : Rho} : ∀ {l : List By} {bs : List UInt8} {x : Nat}, bs.map UInt8.toNat = l.map (By.val ρ) → By.crcs ρ l x = crcB bs x
  | [], [], _, _ => by simp [By.crcs, crcB]
  | [], _ :: _, _, h => by simp at h
  | _ :: _, [], _, h => by simp at h
  | b :: l, c :: bs, x, h => by
    simp only [List.map_cons, List.cons.injEq] at h
    simp only [By.crcs, crcB, List.foldl_cons]
    rw [← h.1]
    exact crcs_bytes h.2
theorem crcs_append (ρ : Rho) : ∀ (l r : List By) (x : Nat), By.crcs ρ (l ++ r) x = By.crcs ρ r (By.crcs ρ l x)
  | [], r, x => by simp [By.crcs]
  | b :: l, r, x => by simp only [List.cons_append, By.crcs]; exact crcs_append ρ l r _
theorem txtsBy_R {ρ : Rho} {φ : Phi} : ∀ {l : List V} {ys : List Value} {q : List By}, txtsBy l = some q → VRL ρ φ l ys → okL ρ q ∧ (∀ x, By.crcs ρ q x = crcVs ys x) ∧ ∀ y ∈ ys, ∃ s, y = .string s ∧ s.size ≤ 4294967296
  | [], ys, q, h, k => by cases h; cases k; exact ⟨okL_nil ρ, fun x => by simp [By.crcs, crcVs], fun y hy => by cases hy⟩
  | v :: l, ys, q, h, k => by
    obtain ⟨y, r, rfl, k1, k2⟩ := k
    simp only [txtsBy] at h
    split at h
    rotate_left
    · cases h
    rename_i t ht
    split at h
    rotate_left
    · cases h
    rename_i hle
    split at h
    rotate_left
    · cases h
    rename_i q' hq
    cases h
    obtain ⟨s, rfl, e1, o1⟩ := txtBy_some (ρ := ρ) (φ := φ) ht k1
    obtain ⟨o2, e2, e3⟩ := txtsBy_R hq k2
    refine ⟨okL_append o1 o2, fun x => ?_, fun y hy => ?_⟩
    · rw [crcs_append, e2, crcs_bytes e1]; rfl
    · cases hy with
      | head => exact ⟨s, rfl, by rw [txt_size e1]; exact ble_le hle⟩
      | tail _ hy => exact e3 y hy
theorem four_val (X : Nat) (h : X < 2 ^ 32) : X / 256 ^ 0 % 256 + 256 * (X / 256 ^ 1 % 256 + 256 * (X / 256 ^ 2 % 256 + 256 * (X / 256 ^ 3 % 256 + 256 * 0))) = X := by
  simp only [Nat.pow_zero, Nat.div_one, show 256 ^ 1 = 256 from rfl, show 256 ^ 2 = 65536 from rfl, show 256 ^ 3 = 16777216 from rfl]
  omega
theorem crcVs_up (xs : List Value) (x : Nat) (up : Nat → Nat) (h0 : up 0 = x) (hs : ∀ (j : Nat) y, xs[j]? = some y → up (j + 1) = crcB (strOf y).data.toList (up j)) : crcVs xs x = up xs.length := by
  have key : ∀ (k : Nat), k ≤ xs.length → crcVs (xs.take k) x = up k := by
    intro k
    induction k with
    | zero => intro _; simp [crcVs, h0]
    | succ k ih =>
      intro hk
      have hlt : k < xs.length := by omega
      rw [List.take_succ_eq_append_getElem hlt]
      show List.foldl _ _ _ = _
      rw [List.foldl_append]
      have := ih (by omega)
      show crcB (strOf xs[k]).data.toList (crcVs (xs.take k) x) = _
      rw [this, hs k xs[k] (List.getElem?_eq_getElem hlt)]
  have := key xs.length (Nat.le_refl _)
  rwa [List.take_length] at this
theorem sumOf_ok {C : Cxt} {g : Nat} (up : (Nat → ByteArray) → Nat → Nat) (h0 : ∀ ss, up ss 0 = 4294967295) (h1 : ∀ ss k, up ss (k + 1) = crcB (ss k).data.toList (up ss k))
    (walk : ∀ (b o n cap : Nat) (ss : Nat → ByteArray) (w : World), n ≤ 9223372036854775807 → (∀ j, j < n → w.cell? ⟨b, o + j, none⟩ = some (.string (ss j))) → (∀ j, (ss j).size ≤ 9223372036854775807) →
      Calls C.P g #[.slice (some ⟨b, o, none⟩) n cap] w fun e w' => e = .returned (.int .u32 ((4294967295 ^^^ up ss n : Nat) : Int)) ∧ w' = w)
    (nil : ∀ w : World, Calls C.P g #[.slice none 0 0] w fun e w' => e = .returned (.int .u32 0) ∧ w' = w)
    {args : List V} {S S' : St} {v : V} {φ : Phi} {w : World} {Xs : Array Value} (hr : sumOf args S = .ok v S') (k : VRL C.ρ φ args Xs.toList) (R : Rel C φ S w) : Calls C.P g Xs w (Ret C φ v S') := by
  unfold sumOf at hr
  split at hr
  · cases hr
    obtain ⟨X, e0, k1⟩ := VRL.one k
    cases k1
    have : Xs = #[.slice none 0 0] := by rw [← Array.toList_inj]; exact e0
    subst this
    exact Calls.mono (nil w) fun e w' ⟨h1, h2⟩ => by subst h1; subst h2; exact ⟨φ, Ext.refl φ, R, rfl⟩
  · rename_i B of n
    obtain ⟨X, e0, q, off, cap, hq, rfl, hle, hc⟩ := VRL.one k
    have : Xs = #[.slice (some ⟨q.b, off, none⟩) n cap] := by rw [← Array.toList_inj]; exact e0
    subst this
    split at hr
    rotate_left
    · cases hr
    rename_i c lo sz fz hB
    split at hr
    rotate_left
    · cases hr
    rename_i hcc
    obtain ⟨c1, hcc⟩ := and_true hcc
    obtain ⟨c2, c3⟩ := and_true hcc
    have c1 := ble_le c1
    have c2 : of + n ≤ sz := ble_le c2
    have c3 := ble_le c3
    split at hr
    rotate_left
    · cases hr
    rename_i l hl
    have fin : ∀ (ys : List Value) (hl : ys.length = n) (hc3 : ∀ (j : Nat) y, ys[j]? = some y → w.cell? ⟨q.b, (of - q.sh) + j, none⟩ = some y) (hs : ∀ y ∈ ys, ∃ s, y = .string s ∧ s.size ≤ 4294967296) {v : V} (kv : VR C.ρ φ v (.int .u32 (Int.ofNat (Nat.xor 4294967295 (crcVs ys 4294967295))))),
        Calls C.P g #[.slice (some ⟨q.b, off, none⟩) n cap] w (Ret C φ v S) := by
      intro ys y2 y3 hx2 v kv
      let ss : Nat → ByteArray := fun j => match ys[j]? with | some y => strOf y | none => ⟨#[]⟩
      have hss : ∀ (j : Nat) y, ys[j]? = some y → ss j = strOf y := fun j y h => by show (match ys[j]? with | some y => strOf y | none => ⟨#[]⟩) = _; rw [h]
      refine Calls.mono (walk q.b off n cap ss w (by omega) (fun j hj => ?_) (fun j => ?_)) fun e w' ⟨e1, e2⟩ => ?_
      · have hv : ys[j]? = some (ys[j]'(by omega)) := List.getElem?_eq_getElem (by omega)
        obtain ⟨s, hs, _⟩ := hx2 _ (List.mem_of_getElem? hv)
        obtain ⟨_, hoff, _⟩ := hc (by omega)
        rw [hss j _ hv, hs, hoff, y3 j _ hv, hs]; rfl
      · cases hv : ys[j]? with
        | none => show (match ys[j]? with | some y => strOf y | none => ⟨#[]⟩).size ≤ _; rw [hv]; exact Nat.zero_le _
        | some y =>
          obtain ⟨s, hs, hsz⟩ := hx2 _ (List.mem_of_getElem? hv)
          rw [hss j _ hv, hs]
          show s.size ≤ _; omega
      · subst e1; subst e2
        refine ⟨φ, Ext.refl φ, R, ?_⟩
        have hup : crcVs ys 4294967295 = up ss ys.length := crcVs_up ys 4294967295 (up ss) (h0 ss) fun j y hy => by rw [h1, hss j y hy]
        rw [hup, y2] at kv
        exact kv
    obtain ⟨ys, y1, y2, y3, y4⟩ := R.cells hB hq c1 c2 hl
    split at hr
    · rename_i x hx
      rw [frc_eq] at hr
      cases hr
      obtain ⟨hx1, hx2⟩ := crcL_R hx y1
      refine fin ys y2 y3 hx2 ?_
      show Value.int .u32 _ = Value.int .u32 (Int.ofNat (Nat.xor 4294967295 x))
      rw [hx1]
    · split at hr
      · rename_i p hp
        cases hr
        obtain ⟨o1, e1, hx2⟩ := txtsBy_R hp y1
        refine fin ys y2 y3 hx2 ?_
        have ok : okL C.ρ [By.crc 0 p, .crc 1 p, .crc 2 p, .crc 3 p] := fun b hb => by
          simp only [List.mem_cons, List.not_mem_nil, or_false] at hb
          rcases hb with rfl | rfl | rfl | rfl <;> trivial
        have := mkNum_R (ρ := C.ρ) (φ := φ) (k := .u32) ok rfl
        have e : valBs C.ρ [By.crc 0 p, .crc 1 p, .crc 2 p, .crc 3 p] = Nat.xor 4294967295 (crcVs ys 4294967295) := by
          have hlt : Nat.xor 4294967295 (crcVs ys 4294967295) < 2 ^ 32 := Nat.xor_lt_two_pow (by omega) (by rw [← e1]; exact crcs_lt _ _ (by omega))
          simp only [valBs, By.val, e1]
          exact four_val _ hlt
        rw [e] at this
        exact this
      · cases hr
  · cases hr
-- TEXTS
theorem strB_zero : ∀ l, strB l 0 = List.replicate l 0
  | 0 => rfl
  | l + 1 => by
    show (0 % 256).toUInt8 :: strB l (0 / 256) = _
    rw [Nat.zero_div, strB_zero l]; rfl
theorem repS_lt (l n : Nat) (h : n < 256 ^ l) : ∀ k, repS l n k < 256 ^ (k * l)
  | 0 => by simp [repS]
  | k + 1 => by
    have ih := repS_lt l n h k
    show Nat.add n (Nat.shiftLeft (repS l n k) (Nat.mul 8 l)) < _
    have e : Nat.shiftLeft (repS l n k) (Nat.mul 8 l) = repS l n k * 256 ^ l := by
      show (repS l n k) <<< (8 * l) = _
      rw [Nat.shiftLeft_eq, Nat.pow_mul]
    rw [e]
    show n + repS l n k * 256 ^ l < _
    rw [Nat.add_mul, Nat.pow_add, Nat.one_mul]
    have h2 : repS l n k + 1 ≤ 256 ^ (k * l) := ih
    have h3 := Nat.mul_le_mul_right (256 ^ l) h2
    rw [Nat.add_mul] at h3
    omega
theorem repS_str (l n : Nat) (h : n < 256 ^ l) : ∀ k, strB (k * l) (repS l n k) = Lib.repeatL (strB l n) k
  | 0 => by simp [strB, Lib.repeatL]
  | k + 1 => by
    show strB ((k + 1) * l) (Nat.add n (Nat.shiftLeft (repS l n k) (Nat.mul 8 l))) = _
    have e : Nat.shiftLeft (repS l n k) (Nat.mul 8 l) = repS l n k * 256 ^ l := by
      show (repS l n k) <<< (8 * l) = _
      rw [Nat.shiftLeft_eq, Nat.pow_mul]
    rw [e, show (k + 1) * l = l + k * l by rw [Nat.add_mul]; omega]
    show strB (l + k * l) (n + repS l n k * 256 ^ l) = _
    rw [strB_append l (k * l) n _ h, repS_str l n h k]
    rfl
theorem repeatS_ok {C : Cxt} {g : Nat}
    (walk : ∀ (s : ByteArray) (c : Nat) (w : World), c ≤ 9223372036854775807 → s.size * c ≤ 140737488355328 → Calls C.P g #[.string s, .int .i64 c] w fun e w' => e = .returned (.string ⟨(Lib.repeatL s.data.toList c).toArray⟩) ∧ Below w.heap.size w w')
    {args : List V} {S S' : St} {v : V} {φ : Phi} {w : World} {Xs : Array Value} (hr : repeatS args S = .ok v S') (k : VRL C.ρ φ args Xs.toList) (R : Rel C φ S w) : Calls C.P g Xs w (Ret C φ v S') := by
  unfold repeatS at hr
  split at hr
  rotate_left
  · cases hr
  rename_i l n c
  rw [frc_eq] at hr
  split at hr
  rotate_left
  · cases hr
  rename_i hcc
  obtain ⟨c1, c2⟩ := and_true hcc
  have c1 := ble_le c1
  have c2 : c * l ≤ 1000000000 := ble_le c2
  rw [frc_eq] at hr
  cases hr
  obtain ⟨X, Y, e0, ⟨s, rfl, k1, k2⟩, k3⟩ := VRL.two k
  have k3 : Y = .int .i64 (c : Int) := k3
  subst k3
  have : Xs = #[.string s, .int .i64 (c : Int)] := by rw [← Array.toList_inj]; exact e0
  subst this
  have hsz : s.size = l := str_size (ρ := C.ρ) (φ := φ) ⟨s, rfl, k1, k2⟩
  refine ret_below R ?_ (walk s c w (by omega) (by rw [hsz, Nat.mul_comm]; omega))
  refine ⟨_, rfl, ?_, ?_⟩
  · show Lib.repeatL s.data.toList c = strB (c * l) _
    rw [k1]
    split
    · rw [strB_zero, strB_zero, Lib.repeatL_replicate]
    · rw [repS_str l n k2 c]
  · show _ < 256 ^ (c * l)
    split
    · exact Nat.pow_pos (by omega)
    · exact repS_lt l n k2 c
theorem cloneS_ok {C : Cxt} {g : Nat}
    (walk : ∀ (s : ByteArray) (w : World), s.size ≤ 281474976710656 → Calls C.P g #[.string s] w fun e w' => e = .returned (.string s) ∧ Below w.heap.size w w')
    {args : List V} {S S' : St} {v : V} {φ : Phi} {w : World} {Xs : Array Value} (hr : cloneS args S = .ok v S') (k : VRL C.ρ φ args Xs.toList) (R : Rel C φ S w) : Calls C.P g Xs w (Ret C φ v S') := by
  unfold cloneS at hr
  split at hr
  · rename_i l n
    split at hr
    rotate_left
    · cases hr
    rename_i hl
    have hl := ble_le hl
    cases hr
    obtain ⟨X, e0, s, rfl, k1, k2⟩ := VRL.one k
    have : Xs = #[.string s] := by rw [← Array.toList_inj]; exact e0
    subst this
    have hsz : s.size = l := str_size (ρ := C.ρ) (φ := φ) ⟨s, rfl, k1, k2⟩
    exact ret_below R ⟨s, rfl, k1, k2⟩ (walk s w (by omega))
  · rename_i l
    split at hr
    rotate_left
    · cases hr
    rename_i hl
    have hl := ble_le hl
    cases hr
    obtain ⟨X, e0, s, rfl, k1, k2⟩ := VRL.one k
    have : Xs = #[.string s] := by rw [← Array.toList_inj]; exact e0
    subst this
    have hsz : s.size = l.length := txt_size k1
    exact ret_below R ⟨s, rfl, k1, k2⟩ (walk s w (by omega))
  · cases hr
theorem sameP_ok {C : Cxt} {g : Nat} (walk : ∀ (x : Value) (w : World), (callFunc g #[x]).run C.P w = .ok (.value x) w) : OneOK C g sameP := by
  intro args S S' v φ w Xs hr k R o a next Q hnx
  unfold sameP at hr
  split at hr
  rotate_left
  · cases hr
  cases hr
  obtain ⟨X, e0, k1⟩ := VRL.one k
  have : Xs = #[X] := by rw [← Array.toList_inj]; exact e0
  subst this
  rw [walk X w]
  exact hnx φ X w (Ext.refl φ) R k1
theorem natives_ok {C : Cxt} {fsum frep fclo fesc : Nat} (h1 : OneOK C fsum sumOf) (h2 : OneOK C frep repeatS) (h3 : OneOK C fclo cloneS) (h4 : OneOK C fesc sameP) : NatOK C (natives fsum frep fclo fesc) := by
  intro g n hn
  unfold natives at hn
  split at hn
  · rename_i h; cases hn; rw [beq_eq h]; exact h1
  · split at hn
    · rename_i h; cases hn; rw [beq_eq h]; exact h2
    · split at hn
      · rename_i h; cases hn; rw [beq_eq h]; exact h3
      · split at hn
        · rename_i h; cases hn; rw [beq_eq h]; exact h4
        · cases hn
end Go.Xe
