/-
  WHAT THE EXECUTOR's VALUES AND HEAP SAY OF THE MODEL's.
-/
import Derived.Test.YtnjfkicalpbiaaaGreatDoorXeMap
import Derived.Calls
import Derived.Laws.Sem
import Derived.Laws.World
import Derived.Below
set_option linter.unusedVariables false
set_option linter.unusedSimpArgs false
set_option linter.unnecessarySimpa false
namespace Go.Xe
open Go.RowKit
/-- where a block lies: its number in the world; by how much its places lie lower there; how many cells it has there -/
structure Q where
  b : Nat
  sh : Nat
  sz : Nat
abbrev Phi := Nat → Option Q
def byteOf (x : Value) (j : Nat) : Nat := match x with
  | .int _ n => n.toNat / 256 ^ j % 256
  | .string s => ((s.data.toList[j]?).map UInt8.toNat).getD 0
  | _ => 0
def intOf : Value → Int | .int _ n => n | _ => 0
/-- letter 0 is no number 0 -/
def NZf (f : Nat → Value) : Prop := ∃ j, j < 8 ∧ byteOf (f 0) j ≠ 0
abbrev Rho := {f : Nat → Value // NZf f}
mutual
def By.val (ρ : Rho) : By → Nat
  | .c n => n % 256
  | .at i j => byteOf (ρ.1 i) j
  | .lin i off _ _ => (intOf (ρ.1 i) + off).toNat % 256
  | .crc j l => Nat.xor 4294967295 (By.crcs ρ l 4294967295) / 256 ^ j % 256
def By.crcs (ρ : Rho) : List By → Nat → Nat
  | [], x => x
  | b :: r, x => By.crcs ρ r (crcByte x (By.val ρ b))
end
/-- what holds of a byte's letter -/
def By.ok (ρ : Rho) : By → Prop
  | .lin i off lo hi => ∃ n, ρ.1 i = .int .i64 n ∧ lo ≤ n ∧ n ≤ hi ∧ 0 ≤ lo + off ∧ hi + off ≤ 255
  | _ => True
def okL (ρ : Rho) (l : List By) : Prop := ∀ b ∈ l, b.ok ρ
def valBs (ρ : Rho) : List By → Nat
  | [] => 0
  | b :: r => b.val ρ + 256 * valBs ρ r
def Y.R (ρ : Rho) : Y → Value → Prop
  | .sym id, x => x = ρ.1 id
  | .int id off lo hi, x => ∃ n, x = .int .i64 (n + off) ∧ ρ.1 id = .int .i64 n ∧ lo ≤ n ∧ n ≤ hi
  | .num k l, x => x = .int k (valBs ρ l) ∧ okL ρ l ∧ bytesK k = some l.length
  | .txt l, x => ∃ s : ByteArray, x = .string s ∧ s.data.toList.map UInt8.toNat = l.map (By.val ρ) ∧ okL ρ l
/-- a text's bytes -/
def strB : Nat → Nat → List UInt8
  | 0, _ => []
  | l + 1, n => (n % 256).toUInt8 :: strB l (n / 256)
def slR (φ : Phi) (B o len z : Nat) (x : Value) : Prop :=
  ∃ q off cap, φ B = some q ∧ x = .slice (some ⟨q.b, off, none⟩) len cap ∧ len ≤ cap ∧ (0 < cap → q.sh ≤ o ∧ off = o - q.sh ∧ off + cap * z ≤ q.sz)
mutual
def VR (ρ : Rho) (φ : Phi) : V → Value → Prop
  | .b b, x => x = .bool b
  | .i n, x => x = .int .i64 n
  | .k k n, x => x = .int k n
  | .s l n, x => ∃ s : ByteArray, x = .string s ∧ s.data.toList = strB l n ∧ n < 256 ^ l
  | .nilp, x => x = .pointer none
  | .p B o, x => ∃ q, φ B = some q ∧ q.sh ≤ o ∧ x = .pointer (some ⟨q.b, o - q.sh, none⟩)
  | .nils, x => x = .slice none 0 0
  | .sl B o len z, x => slR φ B o len z x
  | .nilm, x => x = .map none
  | .m B, x => ∃ q, φ B = some q ∧ x = .map (some q.b)
  | .f g first caps, x => ∃ fs cs : Array Value, x = .func (.func g) fs cs ∧ VRL ρ φ first fs.toList ∧ VRL ρ φ caps cs.toList
  | .nilf, x => x = .nilFunc
  | .ifc t v, x => ∃ y, x = .iface t y ∧ VR ρ φ v y
  | .nili, x => x = .nilIface
  | .a l, x => ∃ cs : Array Value, x = .agg cs ∧ VRL ρ φ l cs.toList
  | .t l, x => ∃ cs : Array Value, x = .tuple cs ∧ VRL ρ φ l cs.toList
  | .y t, x => t.R ρ x
def VRL (ρ : Rho) (φ : Phi) : List V → List Value → Prop
  | [], xs => xs = []
  | v :: l, xs => ∃ x r, xs = x :: r ∧ VR ρ φ v x ∧ VRL ρ φ l r
end
def Ext (φ φ' : Phi) : Prop := ∀ B q, φ B = some q → φ' B = some q
theorem Ext.refl (φ : Phi) : Ext φ φ := fun _ _ h => h
theorem Ext.trans {φ φ' φ'' : Phi} (h : Ext φ φ') (h' : Ext φ' φ'') : Ext φ φ'' := fun B q e => h' B q (h B q e)
mutual
theorem VR.mono {ρ : Rho} {φ φ' : Phi} (h : Ext φ φ') : ∀ (v : V) (x : Value), VR ρ φ v x → VR ρ φ' v x
  | .b _, _, k => k
  | .i _, _, k => k
  | .k _ _, _, k => k
  | .s _ _, _, k => k
  | .nilp, _, k => k
  | .p _ _, _, ⟨q, e, k⟩ => ⟨q, h _ _ e, k⟩
  | .nils, _, k => k
  | .sl _ _ _ _, _, ⟨q, o, c, e, k⟩ => ⟨q, o, c, h _ _ e, k⟩
  | .nilm, _, k => k
  | .m _, _, ⟨q, e, k⟩ => ⟨q, h _ _ e, k⟩
  | .f _ _ _, _, ⟨fs, cs, e, k, l⟩ => ⟨fs, cs, e, VRL.mono h _ _ k, VRL.mono h _ _ l⟩
  | .nilf, _, k => k
  | .ifc _ _, _, ⟨y, e, k⟩ => ⟨y, e, VR.mono h _ _ k⟩
  | .nili, _, k => k
  | .a _, _, ⟨cs, e, k⟩ => ⟨cs, e, VRL.mono h _ _ k⟩
  | .t _, _, ⟨cs, e, k⟩ => ⟨cs, e, VRL.mono h _ _ k⟩
  | .y _, _, k => k
theorem VRL.mono {ρ : Rho} {φ φ' : Phi} (h : Ext φ φ') : ∀ (v : List V) (x : List Value), VRL ρ φ v x → VRL ρ φ' v x
  | [], _, k => k
  | _ :: _, _, ⟨x, r, e, k, l⟩ => ⟨x, r, e, VR.mono h _ _ k, VRL.mono h _ _ l⟩
end
theorem VRL.length {ρ : Rho} {φ : Phi} : ∀ {l : List V} {xs : List Value}, VRL ρ φ l xs → xs.length = l.length
  | [], _, k => by simp [VRL] at k; simp [k]
  | _ :: l, _, k => by simp only [VRL] at k; obtain ⟨x, r, rfl, _, k⟩ := k; simp [VRL.length k]
theorem VRL.get {ρ : Rho} {φ : Phi} : ∀ {l : List V} {xs : List Value}, VRL ρ φ l xs → ∀ {i : Nat} {v : V}, l[i]? = some v → ∃ x, xs[i]? = some x ∧ VR ρ φ v x
  | [], _, _, i, v, h => by simp at h
  | _ :: l, _, k, i, v, h => by
    simp only [VRL] at k
    obtain ⟨x, r, rfl, k1, k⟩ := k
    cases i with
    | zero => simp at h; subst h; exact ⟨x, by simp, k1⟩
    | succ i => simp at h; obtain ⟨y, e, k2⟩ := VRL.get k h; exact ⟨y, by simpa using e, k2⟩
theorem VRL.of_get {ρ : Rho} {φ : Phi} : ∀ {l : List V} {xs : List Value}, xs.length = l.length → (∀ (i : Nat) (v : V), l[i]? = some v → ∃ x, xs[i]? = some x ∧ VR ρ φ v x) → VRL ρ φ l xs
  | [], xs, h, _ => by cases xs <;> simp_all [VRL]
  | v :: l, [], h, _ => by simp at h
  | v :: l, x :: xs, h, k => by
    simp only [VRL]
    obtain ⟨y, e, k0⟩ := k 0 v (by simp)
    simp at e; subst e
    exact ⟨_, xs, rfl, k0, VRL.of_get (by simpa using h) fun i w hw => by obtain ⟨z, e, q⟩ := k (i + 1) w (by simpa using hw); exact ⟨z, by simpa using e, q⟩⟩
theorem VRL.append {ρ : Rho} {φ : Phi} : ∀ {l l' : List V} {xs xs' : List Value}, VRL ρ φ l xs → VRL ρ φ l' xs' → VRL ρ φ (l ++ l') (xs ++ xs')
  | [], _, _, _, h, h' => by simp [VRL] at h; subst h; simpa using h'
  | v :: l, _, _, _, h, h' => by
    simp only [VRL] at h
    obtain ⟨x, r, rfl, k1, k⟩ := h
    simp only [List.cons_append, VRL]
    exact ⟨x, _, rfl, k1, VRL.append k h'⟩
theorem nth_get {α : Type} : ∀ (l : List α) (i : Nat), nth l i = l[i]?
  | [], i => by cases i <;> rfl
  | x :: l, 0 => rfl
  | x :: l, i + 1 => by show nth l i = _; rw [nth_get l i]; simp

/-- no value of several cells -/
def Scalar (x : Value) : Prop := x.oneCell' = true
theorem Scalar.cells {x : Value} (h : Scalar x) : x.cells = #[x] := by cases x <;> simp_all [Scalar, Value.oneCell', Value.cells]
theorem flat1_scalar {ρ : Rho} (hρ : ∀ i, Scalar (ρ.1 i)) {φ : Phi} {v : V} {x : Value} (h : flat1 v = true) (k : VR ρ φ v x) : Scalar x := by
  cases v <;> simp only [flat1, VR, Bool.false_eq_true] at h k
  all_goals first
    | (subst k; rfl)
    | (obtain ⟨s, rfl, _⟩ := k; rfl)
    | (obtain ⟨q, _, _, rfl⟩ := k; rfl)
    | (obtain ⟨q, _, rfl⟩ := k; rfl)
    | (obtain ⟨q, o, c, _, rfl, _⟩ := k; rfl)
    | (obtain ⟨fs, cs, rfl, _⟩ := k; rfl)
    | (rename_i t; cases t; · subst k; exact hρ _
       · obtain ⟨n, rfl, _⟩ := k; rfl
       · obtain ⟨rfl, _⟩ := k; rfl
       · obtain ⟨s, rfl, _⟩ := k; rfl)
theorem flat_get : ∀ {l : List V}, flat l = true → ∀ v ∈ l, flat1 v = true
  | [], _, v, h => by cases h
  | x :: l, hf, v, h => by
    simp only [flat] at hf
    split at hf
    · rename_i hx
      cases h with
      | head => exact hx
      | tail _ h => exact flat_get hf v h
    · cases hf
theorem flat_append : ∀ {l r : List V}, flat l = true → flat r = true → flat (l ++ r) = true
  | [], r, _, h => h
  | x :: l, r, h, h' => by
    simp only [flat] at h
    split at h
    · rename_i hx
      simp only [List.cons_append, flat, hx]
      exact flat_append h h'
    · cases h
theorem flat_rep {l : List V} (h : flat l = true) : ∀ n, flat (rep l n) = true
  | 0 => rfl
  | n + 1 => flat_append h (flat_rep h n)
/-- the cells of a value -/
theorem VR.cells {ρ : Rho} (hρ : ∀ i, Scalar (ρ.1 i)) {φ : Phi} {v : V} {x : Value} (k : VR ρ φ v x) : VRL ρ φ (Xe.cells v) x.cells.toList := by
  cases v
  case a l => simp only [VR] at k; obtain ⟨cs, rfl, k⟩ := k; exact k
  case t l => have k' := k; simp only [VR] at k; obtain ⟨cs, rfl, _⟩ := k; exact ⟨_, [], rfl, k', rfl⟩
  all_goals
    have hs : Scalar x := flat1_scalar hρ (v := _) (by rfl) k
    rw [hs.cells]
    exact ⟨x, [], rfl, k, rfl⟩
theorem cellLen_eq (v : V) : cellLen v = (Xe.cells v).length := by cases v <;> rfl

-- THE HEAP
/-- frozen cells of a row -/
def frR (fz n sh size : Nat) (fr : Nat × Nat) : Prop :=
  match fz with
  | 0 => fr = (0, 0)
  | 1 => fr = (0, 0) ∨ fr = (size, size + 1)
  | _ => fr.2 ≤ n - sh
def rowR (ρ : Rho) (φ : Phi) (c : T V) (lo n : Nat) (fz : Z) (q : Q) (x : Option Obj) : Prop :=
  ∃ (cs : Array Value) (fr : Nat × Nat), x = some (.cells cs fz.ty fr) ∧ cs.size = q.sz ∧ q.sh ≤ lo ∧ n ≤ q.sh + q.sz ∧ frR fz.k n q.sh q.sz fr ∧
    ∀ i, lo ≤ i → i < n → ∃ v y, c.get i = some v ∧ cs[i - q.sh]? = some y ∧ VR ρ φ v y ∧ Scalar y
/-- the entries of a map, in the order in which they came -/
def mapR (ρ : Rho) (φ : Phi) : List (V × V) → List MapEntry → Prop
  | [], es => es = []
  | a :: l, es => ∃ e r, es = e :: r ∧ VR ρ φ a.1 e.key ∧ VR ρ φ a.2 e.val ∧ mapR ρ φ l r
def objR (ρ : Rho) (φ : Phi) (o : O) (q : Q) (x : Option Obj) : Prop :=
  match o with
  | .row c lo n fz => rowR ρ φ c lo n fz q x
  | .mp l => ∃ (es : Array MapEntry) (clock : Nat), x = some (.map es clock) ∧ mapR ρ φ l es.toList ∧ (∀ e ∈ es.toList, e.born < clock) ∧ (es.toList.map (·.born)).Nodup
/-- what stays: the program; the first world's own; blocks with what lies in them -/
structure Cxt where
  P : Program
  w0 : World
  kept : Nat → Option Obj
  ρ : Rho
  scal : ∀ i, Scalar (ρ.1 i)
structure Keep (C : Cxt) (w : World) : Prop where
  os : w.os = C.w0.os
  tape : w.tape = C.w0.tape
  output : w.output = C.w0.output
  size : C.w0.heap.size ≤ w.heap.size
  block : ∀ (k : Nat) x, C.kept k = some x → w.heap[k]? = some x
structure Rel (C : Cxt) (φ : Phi) (S : St) (w : World) : Prop where
  obj : ∀ B o, S.heap.get B = some o → ∃ q, φ B = some q ∧ objR C.ρ φ o q (w.heap[q.b]?)
  inj : ∀ B B' o o' q q', S.heap.get B = some o → S.heap.get B' = some o' → φ B = some q → φ B' = some q' → q.b = q'.b → B = B'
  fresh : ∀ B, S.next ≤ B → φ B = none ∧ S.heap.get B = none
  lt : ∀ B q, φ B = some q → C.kept q.b = none ∧ q.b < w.heap.size
  keep : Keep C w
theorem mapR.mono {ρ : Rho} {φ φ' : Phi} (h : Ext φ φ') : ∀ {l : List (V × V)} {es : List MapEntry}, mapR ρ φ l es → mapR ρ φ' l es
  | [], _, k => k
  | _ :: _, _, ⟨e, r, k1, k2, k3, k4⟩ => ⟨e, r, k1, VR.mono h _ _ k2, VR.mono h _ _ k3, mapR.mono h k4⟩
theorem objR.mono {ρ : Rho} {φ φ' : Phi} (h : Ext φ φ') {o : O} {q : Q} {x : Option Obj} (k : objR ρ φ o q x) : objR ρ φ' o q x := by
  cases o with
  | row c lo n fz =>
    obtain ⟨cs, fr, h1, h2, h3, h4, h5, h6⟩ := k
    refine ⟨cs, fr, h1, h2, h3, h4, h5, fun i hi hn => ?_⟩
    obtain ⟨v, y, k1, k2, k3, k4⟩ := h6 i hi hn
    exact ⟨v, y, k1, k2, VR.mono h _ _ k3, k4⟩
  | mp l =>
    obtain ⟨es, cl, h1, h2, h3⟩ := k
    exact ⟨es, cl, h1, mapR.mono h h2, h3⟩
theorem Rel.drew {C : Cxt} {φ : Phi} {S : St} {w : World} (h : Rel C φ S w) : Rel C φ S w.drew :=
  ⟨h.obj, h.inj, h.fresh, h.lt, ⟨h.keep.os, h.keep.tape, h.keep.output, h.keep.size, h.keep.block⟩⟩
theorem Ext.add {φ : Phi} {B : Nat} (q : Q) (h : φ B = none) : Ext φ (fun i => if i = B then some q else φ i) := by
  intro i r e
  by_cases hi : i = B
  · subst hi; rw [h] at e; cases e
  · simp [hi, e]
theorem Keep.new {C : Cxt} {w : World} (h : Keep C w) : C.kept w.heap.size = none := by
  cases hk : C.kept w.heap.size with
  | none => rfl
  | some x => have := (Array.getElem?_eq_some_iff.1 (h.block _ x hk)).1; omega
theorem Keep.alloc {C : Cxt} {w : World} (h : Keep C w) (x : Obj) : Keep C (w.alloc x) :=
  ⟨h.os, h.tape, h.output, by have := h.size; simp; omega, fun k y hk => by
    have h1 := h.block k y hk
    rw [Below.heap_alloc _ _ _ (Array.getElem?_eq_some_iff.1 h1).1]; exact h1⟩
/-- two worlds that differ in their heaps alone -/
structure Io (w w' : World) : Prop where
  os : w'.os = w.os
  tape : w'.tape = w.tape
  output : w'.output = w.output
theorem Keep.turn {C : Cxt} {w w' : World} (h : Keep C w) (hw : Io w w') {b : Nat} (hk : C.kept b = none) (hs : w'.heap.size = w.heap.size) (hb : ∀ k, k ≠ b → w'.heap[k]? = w.heap[k]?) : Keep C w' :=
  ⟨hw.os.trans h.os, hw.tape.trans h.tape, hw.output.trans h.output, by rw [hs]; exact h.size, fun k y e => by
    rw [hb k (fun e' => by subst e'; rw [hk] at e; cases e)]; exact h.block k y e⟩
/-- a new block -/
theorem Rel.new {C : Cxt} {φ : Phi} {S : St} {w : World} (h : Rel C φ S w) (o : O) (x : Obj) (sh sz : Nat)
    (ho : ∀ φ', Ext φ φ' → objR C.ρ φ' o ⟨w.heap.size, sh, sz⟩ (some x)) :
    ∃ φ', Ext φ φ' ∧ φ' S.next = some ⟨w.heap.size, sh, sz⟩ ∧ Rel C φ' ⟨S.heap.put S.next (some o), S.next + 1⟩ (w.alloc x) := by
  have hf := h.fresh S.next (Nat.le_refl _)
  have he : Ext φ (fun i => if i = S.next then some (⟨w.heap.size, sh, sz⟩ : Q) else φ i) := Ext.add _ hf.1
  refine ⟨_, he, by simp, ⟨?_, ?_, ?_, ?_, ?_⟩⟩
  · intro B o' hB
    rw [T.get_put] at hB
    by_cases hn : B = S.next
    · subst hn
      simp at hB; subst hB
      refine ⟨⟨w.heap.size, sh, sz⟩, by simp, ?_⟩
      have : (w.alloc x).heap[w.heap.size]? = some x := by show (w.heap.push x)[w.heap.size]? = _; simp
      show objR C.ρ _ o _ ((w.alloc x).heap[w.heap.size]?)
      rw [this]
      exact ho _ he
    · rw [if_neg hn] at hB
      obtain ⟨q, hq, ho'⟩ := h.obj B o' hB
      refine ⟨q, by simp [hn, hq], ?_⟩
      rw [Below.heap_alloc _ _ _ (h.lt B q hq).2]
      exact objR.mono he ho'
  · intro B B' o1 o2 q q' h1 h2 e1 e2 hb
    rw [T.get_put] at h1 h2
    by_cases hn : B = S.next <;> by_cases hn' : B' = S.next
    · rw [hn, hn']
    · subst hn
      simp at e1; subst e1
      simp [hn'] at e2
      have := (h.lt B' q' e2).2
      simp at hb; omega
    · subst hn'
      simp at e2; subst e2
      simp [hn] at e1
      have := (h.lt B q e1).2
      simp at hb; omega
    · rw [if_neg hn] at h1; rw [if_neg hn'] at h2
      simp [hn] at e1; simp [hn'] at e2
      exact h.inj B B' o1 o2 q q' h1 h2 e1 e2 hb
  · intro B hB
    have hB' : S.next + 1 ≤ B := hB
    have hne : B ≠ S.next := by omega
    have := h.fresh B (by omega)
    exact ⟨by simp [hne, this.1], by rw [T.get_put, if_neg hne]; exact this.2⟩
  · intro B q hq
    by_cases hn : B = S.next
    · subst hn; simp at hq; subst hq
      exact ⟨h.keep.new, by simp⟩
    · simp [hn] at hq
      have := h.lt B q hq
      exact ⟨this.1, by simp; omega⟩
  · exact h.keep.alloc x
/-- a block turned where it lies -/
theorem Rel.turn {C : Cxt} {φ : Phi} {S : St} {w w' : World} (h : Rel C φ S w) {B : Nat} {o o' : O} {q : Q} (hB : S.heap.get B = some o) (hq : φ B = some q)
    (hw : Io w w') (hs : w'.heap.size = w.heap.size) (hb : ∀ b, b ≠ q.b → w'.heap[b]? = w.heap[b]?)
    (ho : objR C.ρ φ o' q (w'.heap[q.b]?)) : Rel C φ ⟨S.heap.put B (some o'), S.next⟩ w' := by
  refine ⟨?_, ?_, ?_, ?_, h.keep.turn hw (h.lt B q hq).1 hs hb⟩
  · intro A x hA
    rw [T.get_put] at hA
    by_cases hn : A = B
    · subst hn; simp at hA; subst hA; exact ⟨q, hq, ho⟩
    · rw [if_neg hn] at hA
      obtain ⟨r, hr, hx⟩ := h.obj A x hA
      refine ⟨r, hr, ?_⟩
      rw [hb r.b (fun e => hn (h.inj A B x o r q hA hB hr hq e))]
      exact hx
  · intro A A' x x' r r' h1 h2 e1 e2 e
    have k : ∀ A x, (S.heap.put B (some o')).get A = some x → ∃ x, S.heap.get A = some x := by
      intro A x hA
      rw [T.get_put] at hA
      by_cases hn : A = B
      · exact ⟨o, hn ▸ hB⟩
      · rw [if_neg hn] at hA; exact ⟨x, hA⟩
    obtain ⟨y, hy⟩ := k A x h1
    obtain ⟨y', hy'⟩ := k A' x' h2
    exact h.inj A A' y y' r r' hy hy' e1 e2 e
  · intro A hA
    have := h.fresh A hA
    refine ⟨this.1, ?_⟩
    rw [T.get_put]
    by_cases hn : A = B
    · subst hn; rw [this.2] at hB; cases hB
    · rw [if_neg hn]; exact this.2
  · intro A r hr
    have := h.lt A r hr
    exact ⟨this.1, by rw [hs]; exact this.2⟩
/-- a block let go -/
theorem Rel.drop {C : Cxt} {φ : Phi} {S : St} {w : World} (h : Rel C φ S w) (B : Nat) : Rel C φ ⟨S.heap.put B none, S.next⟩ w := by
  have k : ∀ A x, (S.heap.put B none).get A = some x → S.heap.get A = some x := by
    intro A x hA
    rw [T.get_put] at hA
    by_cases hn : A = B
    · subst hn; simp at hA
    · rw [if_neg hn] at hA; exact hA
  refine ⟨fun A x hA => h.obj A x (k A x hA), fun A A' x x' r r' h1 h2 => h.inj A A' x x' r r' (k A x h1) (k A' x' h2), fun A hA => ?_, h.lt, h.keep⟩
  have := h.fresh A hA
  refine ⟨this.1, ?_⟩
  rw [T.get_put]
  split
  · rfl
  · exact this.2
/-- a block goes on under a new number -/
theorem Rel.pass {C : Cxt} {φ : Phi} {S : St} {w w' : World} (h : Rel C φ S w) {B : Nat} {o o' : O} {q : Q} (hB : S.heap.get B = some o) (hq : φ B = some q)
    (hw : Io w w') (hs : w'.heap.size = w.heap.size) (hb : ∀ b, b ≠ q.b → w'.heap[b]? = w.heap[b]?)
    (ho : ∀ φ', Ext φ φ' → objR C.ρ φ' o' q (w'.heap[q.b]?)) :
    ∃ φ', Ext φ φ' ∧ φ' S.next = some q ∧ Rel C φ' ⟨(S.heap.put B none).put S.next (some o'), S.next + 1⟩ w' := by
  have hf := h.fresh S.next (Nat.le_refl _)
  have he : Ext φ (fun i => if i = S.next then some q else φ i) := Ext.add _ hf.1
  have hBn : B ≠ S.next := by intro e; subst e; rw [hf.2] at hB; cases hB
  have k : ∀ A x, A ≠ S.next → ((S.heap.put B none).put S.next (some o')).get A = some x → A ≠ B ∧ S.heap.get A = some x := by
    intro A x hA hx
    rw [T.get_put, if_neg hA, T.get_put] at hx
    by_cases hn : A = B
    · subst hn; simp at hx
    · rw [if_neg hn] at hx; exact ⟨hn, hx⟩
  refine ⟨_, he, by simp, ⟨?_, ?_, ?_, ?_, h.keep.turn hw (h.lt B q hq).1 hs hb⟩⟩
  · intro A x hA
    by_cases hn : A = S.next
    · subst hn
      rw [T.get_put_same] at hA; cases hA
      exact ⟨q, by simp, ho _ he⟩
    · obtain ⟨hne, hx⟩ := k A x hn hA
      obtain ⟨r, hr, hx'⟩ := h.obj A x hx
      refine ⟨r, by simp [hn, hr], ?_⟩
      rw [hb r.b (fun e => hne (h.inj A B x o r q hx hB hr hq e))]
      exact objR.mono he hx'
  · intro A A' x x' r r' h1 h2 e1 e2 e
    by_cases hn : A = S.next <;> by_cases hn' : A' = S.next
    · rw [hn, hn']
    · obtain ⟨hne, hx⟩ := k A' x' hn' h2
      simp [hn'] at e2; simp [hn] at e1; subst e1
      exact absurd (h.inj A' B x' o r' q hx hB e2 hq e.symm) hne
    · obtain ⟨hne, hx⟩ := k A x hn h1
      simp [hn'] at e2; simp [hn] at e1; subst e2
      exact absurd (h.inj A B x o r q hx hB e1 hq e) hne
    · simp [hn] at e1; simp [hn'] at e2
      exact h.inj A A' x x' r r' (k A x hn h1).2 (k A' x' hn' h2).2 e1 e2 e
  · intro A hA
    have hA' : S.next + 1 ≤ A := hA
    have hne : A ≠ S.next := by omega
    have := h.fresh A (by omega)
    refine ⟨by simp [hne, this.1], ?_⟩
    rw [T.get_put, if_neg hne, T.get_put]
    split
    · rfl
    · exact this.2
  · intro A r hr
    by_cases hn : A = S.next
    · simp [hn] at hr; subst hr; have := h.lt B q hq; exact ⟨this.1, by rw [hs]; exact this.2⟩
    · simp [hn] at hr; have := h.lt A r hr; exact ⟨this.1, by rw [hs]; exact this.2⟩
-- BLOCKS HELD
/-- blocks that are held besides -/
def look (l : List (Nat × Obj)) (b : Nat) : Option Obj :=
  match l with
  | [] => none
  | (k, x) :: r => if k = b then some x else look r b
def Cxt.hold (C : Cxt) (l : List (Nat × Obj)) : Cxt := { C with kept := fun b => match C.kept b with | some x => some x | none => look l b }
theorem Cxt.hold_some {C : Cxt} {l : List (Nat × Obj)} {b : Nat} {x : Obj} : (C.hold l).kept b = some x ↔ C.kept b = some x ∨ (C.kept b = none ∧ look l b = some x) := by
  simp only [Cxt.hold]
  cases C.kept b <;> simp
theorem Cxt.hold_none {C : Cxt} {l : List (Nat × Obj)} {b : Nat} : (C.hold l).kept b = none ↔ C.kept b = none ∧ look l b = none := by
  simp only [Cxt.hold]
  cases C.kept b <;> simp
theorem Rel.unhold {C : Cxt} {l : List (Nat × Obj)} {φ : Phi} {S : St} {w : World} (h : Rel (C.hold l) φ S w) : Rel C φ S w :=
  ⟨h.obj, h.inj, h.fresh, fun B q hq => ⟨(Cxt.hold_none.1 (h.lt B q hq).1).1, (h.lt B q hq).2⟩, ⟨h.keep.os, h.keep.tape, h.keep.output, h.keep.size, fun k x e => h.keep.block k x (Cxt.hold_some.2 (.inl e))⟩⟩
theorem Rel.hold {C : Cxt} {φ : Phi} {S : St} {w : World} (h : Rel C φ S w) : Rel (C.hold []) φ S w :=
  ⟨h.obj, h.inj, h.fresh, fun B q hq => ⟨Cxt.hold_none.2 ⟨(h.lt B q hq).1, rfl⟩, (h.lt B q hq).2⟩, ⟨h.keep.os, h.keep.tape, h.keep.output, h.keep.size, fun k x e => h.keep.block k x (by
    rcases Cxt.hold_some.1 e with e | ⟨_, e⟩
    · exact e
    · cases e)⟩⟩
/-- a block laid that the executor's heap does not show yet -/
theorem Rel.early {C : Cxt} {l : List (Nat × Obj)} {φ : Phi} {S : St} {w : World} (h : Rel (C.hold l) φ S w) (x : Obj) : Rel (C.hold ((w.heap.size, x) :: l)) φ S (w.alloc x) := by
  refine ⟨fun B o hB => ?_, h.inj, h.fresh, fun B q hq => ?_, ⟨h.keep.os, h.keep.tape, h.keep.output, by have : C.w0.heap.size ≤ w.heap.size := h.keep.size; show C.w0.heap.size ≤ _; simp; omega, fun k y e => ?_⟩⟩
  · obtain ⟨q, hq, ho⟩ := h.obj B o hB
    refine ⟨q, hq, ?_⟩
    rw [Below.heap_alloc _ _ _ (h.lt B q hq).2]
    exact ho
  · have := h.lt B q hq
    refine ⟨?_, by simp; omega⟩
    rw [Cxt.hold_none] at this ⊢
    refine ⟨this.1.1, ?_⟩
    simp only [look]
    rw [if_neg (by omega)]
    exact this.1.2
  · rcases Cxt.hold_some.1 e with e | ⟨e0, e⟩
    · have h1 := h.keep.block k y (Cxt.hold_some.2 (.inl e))
      rw [Below.heap_alloc _ _ _ (Array.getElem?_eq_some_iff.1 h1).1]; exact h1
    · simp only [look] at e
      split at e
      · rename_i hk
        cases e; subst hk
        show (w.heap.push x)[w.heap.size]? = _
        simp
      · have h1 := h.keep.block k y (Cxt.hold_some.2 (.inr ⟨e0, e⟩))
        rw [Below.heap_alloc _ _ _ (Array.getElem?_eq_some_iff.1 h1).1]; exact h1
/-- a held block shown at last -/
theorem Rel.adopt {C : Cxt} {φ : Phi} {S : St} {w : World} (h : Rel C φ S w) {b : Nat} {x : Obj} (hk : C.kept b = some x) {C' : Cxt} (hC : C'.w0 = C.w0 ∧ C'.ρ = C.ρ) (hsub : ∀ (k : Nat) y, C'.kept k = some y → C.kept k = some y) (hb : C'.kept b = none) (o : O) (sh sz : Nat)
    (ho : ∀ φ', Ext φ φ' → objR C.ρ φ' o ⟨b, sh, sz⟩ (some x)) :
    ∃ φ', Ext φ φ' ∧ φ' S.next = some ⟨b, sh, sz⟩ ∧ Rel C' φ' ⟨S.heap.put S.next (some o), S.next + 1⟩ w := by
  have hf := h.fresh S.next (Nat.le_refl _)
  have he : Ext φ (fun i => if i = S.next then some (⟨b, sh, sz⟩ : Q) else φ i) := Ext.add _ hf.1
  have hbw := h.keep.block b x hk
  have hne : ∀ A q, φ A = some q → q.b ≠ b := fun A q hq e => by have := (h.lt A q hq).1; rw [e, hk] at this; cases this
  have hnone : ∀ k, C.kept k = none → C'.kept k = none := fun k hk => by
    cases e : C'.kept k with
    | none => rfl
    | some y => rw [hsub k y e] at hk; cases hk
  refine ⟨_, he, by simp, ⟨?_, ?_, ?_, ?_, ⟨by rw [hC.1]; exact h.keep.os, by rw [hC.1]; exact h.keep.tape, by rw [hC.1]; exact h.keep.output, by rw [hC.1]; exact h.keep.size, fun k y e => h.keep.block k y (hsub k y e)⟩⟩⟩
  · intro A o' hA
    rw [T.get_put] at hA
    rw [hC.2]
    by_cases hn : A = S.next
    · subst hn
      simp at hA; subst hA
      refine ⟨⟨b, sh, sz⟩, by simp, ?_⟩
      rw [hbw]
      exact ho _ he
    · rw [if_neg hn] at hA
      obtain ⟨q, hq, ho'⟩ := h.obj A o' hA
      exact ⟨q, by simp [hn, hq], objR.mono he ho'⟩
  · intro A A' o1 o2 q q' h1 h2 e1 e2 hbb
    rw [T.get_put] at h1 h2
    by_cases hn : A = S.next <;> by_cases hn' : A' = S.next
    · rw [hn, hn']
    · subst hn
      simp at e1; subst e1
      simp [hn'] at e2
      exact absurd hbb.symm (hne A' q' e2)
    · subst hn'
      simp at e2; subst e2
      simp [hn] at e1
      exact absurd hbb (hne A q e1)
    · rw [if_neg hn] at h1; rw [if_neg hn'] at h2
      simp [hn] at e1; simp [hn'] at e2
      exact h.inj A A' o1 o2 q q' h1 h2 e1 e2 hbb
  · intro A hA
    have hA' : S.next + 1 ≤ A := hA
    have hne : A ≠ S.next := by omega
    have := h.fresh A (by omega)
    exact ⟨by simp [hne, this.1], by rw [T.get_put, if_neg hne]; exact this.2⟩
  · intro A q hq
    by_cases hn : A = S.next
    · subst hn; simp at hq; subst hq
      exact ⟨hb, (Array.getElem?_eq_some_iff.1 hbw).1⟩
    · simp [hn] at hq
      have := h.lt A q hq
      exact ⟨hnone _ this.1, this.2⟩
end Go.Xe
