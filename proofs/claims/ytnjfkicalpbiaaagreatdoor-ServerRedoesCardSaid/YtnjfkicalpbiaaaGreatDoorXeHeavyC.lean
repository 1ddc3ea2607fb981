/-
  THE OPERATIONS THAT TURN THE HEAP (the third part): bytes of texts, maps.
-/
import Derived.Test.YtnjfkicalpbiaaaGreatDoorXeHeavyB
set_option linter.unusedVariables false
set_option linter.unusedSimpArgs false
set_option linter.unnecessarySimpa false
namespace Go.Xe
open Go.RowKit
theorem strB_bytes : ∀ (l n : Nat), sBytes l n = (strB l n).map fun b => V.k .u8 (b.toNat : Int)
  | 0, n => rfl
  | l + 1, n => by
    simp only [sBytes, frc_eq, strB, List.map_cons]
    rw [strB_bytes l]
    congr 2
    simp [Nat.toUInt8, UInt8.toNat_ofNat']
    rfl
theorem bytesR {ρ : Rho} {φ : Phi} : ∀ (bs : List UInt8), VRL ρ φ (bs.map fun b => V.k .u8 (b.toNat : Int)) (bs.map fun b => Value.int .u8 b.toNat)
  | [] => rfl
  | _ :: bs => ⟨_, _, rfl, rfl, bytesR bs⟩
theorem freeze_new (w : World) (cs : Array Value) (e : TypeId) : (w.alloc (.cells cs e)).freeze ⟨w.heap.size, cs.size, none⟩ 1 = w.alloc (.cells cs e (cs.size, cs.size + 1)) := by
  unfold World.freeze World.alloc
  simp only [Nat.one_ne_zero, if_false]
  congr 1
  apply Array.ext_getElem?
  intro i
  rw [Array.getElem?_modify]
  by_cases h : w.heap.size = i
  · subst h; simp
  · rw [if_neg h]
    simp only [Array.getElem?_push]
    rw [if_neg (fun e => h e.symm), if_neg (fun e => h e.symm)]
theorem heap_new (w : World) (o : Obj) : (w.alloc o).heap[w.heap.size]? = some o := by show (w.heap.push o)[w.heap.size]? = _; simp
theorem run_mark_new {P : Program} (w : World) (cs : Array Value) (e : TypeId) : (markStringish ⟨w.heap.size, 0, none⟩).run P (w.alloc (.cells cs e)) = .ok () (w.alloc (.cells cs e (cs.size, cs.size + 1))) := by
  have hsh : (w.alloc (.cells cs e)).shape? w.heap.size = some (e, cs.size) := by
    simp only [World.shape?, heap_new]
  simp only [markStringish, Sem.run_bind, run_shape, hsh, Result.andThen_ok, run_freeze, freeze_new]
section
variable {C : Cxt} {x : Cx}
theorem bytesRow_ok {s d e : TypeId} (hd : C.P.underlying d = some (.slice e)) (he : C.P.underlying e = some (.int .u8)) (hs0 : C.P.underlying s = some .string) {φ : Phi} {S S' : St} {w : World} {a : Act} {r : V} {p : Operand} (R : Rel C φ S w)
    {b : ByteArray} (e1 : a.eval p = .string b) {ls : List V} (kc : VRL C.ρ φ ls (b.data.toList.map fun b => Value.int .u8 b.toNat)) (h : mkRow ls ⟨1, e⟩ S (fun B S => .ok (.sl B 0 ls.length 1) S) = .ok r S') (o : Oper) (ho : o.op = .convert s d p) (next : Act → World → Prop) (Q : Exit → Act → World → Prop)
    (hn : ∀ φ' X w', Ext φ φ' → Rel C φ' S' w' → VR C.ρ φ' r X → next (a.put o.dst X) w') : o.wp C.P a w next Q := by
  rw [mkRow_eq] at h
  cases h
  have hsz : ls.length = b.size := by
    have := kc.length
    rw [List.length_map] at this
    rw [← this]; exact Array.length_toList
  have R1 := R.drew
  have hcapT : ∀ t : Nat, b.size ≤ (Question.appendCap b.size 0 e).cut t := fun t => by simp [Question.cut]
  let cap := (Question.appendCap b.size 0 e).cut (w.tape w.drawn (.appendCap b.size 0 e))
  let cs : Array Value := b.data.map (fun b => Value.int .u8 b.toNat) ++ Array.replicate (cap - b.size) (.int .u8 0)
  have hcs : cs.size = cap := by
    have := hcapT (w.tape w.drawn (.appendCap b.size 0 e))
    show (b.data.map _ ++ Array.replicate _ _).size = cap
    rw [Array.size_append, Array.size_map, Array.size_replicate]
    show b.size + (cap - b.size) = cap
    omega
  have hlc : ls.length ≤ cap := by rw [hsz]; exact hcapT _
  have hcell : ∀ (i : Nat) v, ls[i]? = some v → ∃ y, cs[i]? = some y ∧ VR C.ρ φ v y ∧ Scalar y := by
    intro i v hv
    obtain ⟨y, h1, h2⟩ := kc.get hv
    have hi : i < b.data.size := by
      have := List.getElem?_eq_some_iff.1 h1
      obtain ⟨hi, _⟩ := this
      simpa using hi
    refine ⟨y, ?_, h2, ?_⟩
    · rw [← h1]
      show (b.data.map _ ++ Array.replicate _ _)[i]? = _
      rw [Array.getElem?_append_left (by simpa using hi)]
      simp
    · simp only [List.getElem?_map, Option.map_eq_some_iff] at h1
      obtain ⟨c, _, rfl⟩ := h1
      rfl
  obtain ⟨φ', hx, hB, R'⟩ := R1.row (l := ls) (cs := cs) (by rw [hcs]; exact hlc) hcell ⟨1, e⟩ (cs.size, cs.size + 1) (.inr rfl)
  refine wp_v (X := .slice (some ⟨w.heap.size, 0, none⟩) ls.length cap) hn ?_ hx R' ⟨_, 0, cap, hB, rfl, hlc, fun _ => ⟨Nat.le_refl _, rfl, by show 0 + cap * 1 ≤ cs.size; omega⟩⟩
  simp only [execOp, ho, e1]
  refine lay_w ?_
  have hf : ¬ (Question.appendCap b.size 0 e).forced = true := by simp [Question.forced]
  simp only [convert, Sem.run_bind, run_underlying hd, run_underlying hs0, run_underlying he, Result.andThen_ok, Conv.stringToBytes, run_choose, hf, if_false, World.drew_eq]
  have hm := run_mark_new (P := C.P) w.drew cs e
  simp only [newRow, Sem.run_bind, run_newObj, Result.andThen_ok, Sem.run_pure, World.alloc_eq, Question.forced, Bool.false_eq_true, if_false]
  rw [show (b.data.map (fun b => Value.int .u8 b.toNat) ++ Array.replicate ((Question.appendCap b.size 0 e).cut (w.tape w.drawn (.appendCap b.size 0 e)) - b.size) (.int .u8 0)) = cs from rfl]
  rw [hm]
  show Result.ok (Value.slice (some ⟨w.heap.size, 0, none⟩) b.size cap) _ = Result.ok (Value.slice (some ⟨w.heap.size, 0, none⟩) ls.length cap) _
  rw [hsz]
theorem bytesOf_ok {s d e : TypeId} (hd : C.P.underlying d = some (.slice e)) (he : C.P.underlying e = some (.int .u8)) (hs0 : C.P.underlying s = some .string) {φ : Phi} {S S' : St} {w : World} {a : Act} {v r : V} {p : Operand} (R : Rel C φ S w)
    (k : VR C.ρ φ v (a.eval p)) (h : bytesOf e S v = .ok r S') (o : Oper) (ho : o.op = .convert s d p) (next : Act → World → Prop) (Q : Exit → Act → World → Prop)
    (hn : ∀ φ' X w', Ext φ φ' → Rel C φ' S' w' → VR C.ρ φ' r X → next (a.put o.dst X) w') : o.wp C.P a w next Q := by
  unfold bytesOf at h
  split at h
  · rename_i l n
    obtain ⟨b, e1, k1, k2⟩ := k
    have hln : (sBytes l n).length = l := by rw [strB_bytes, List.length_map, strB_length]
    refine bytesRow_ok hd he hs0 R e1 (ls := sBytes l n) ?_ (by rw [hln]; exact h) o ho next Q hn
    rw [strB_bytes, ← k1]; exact bytesR _
  · rename_i l
    obtain ⟨b, e1, k1, k2⟩ := k
    refine bytesRow_ok hd he hs0 R e1 (ls := l.map cellB) (cellsB_R k1 k2) (by rw [List.length_map]; exact h) o ho next Q hn
  · cases h
theorem bytesId_ok {s d e : TypeId} (hsd : s = d) (hd : C.P.underlying d = some (.slice e)) (he : C.P.underlying e = some (.int .u8)) {φ : Phi} {S S' : St} {w : World} {a : Act} {v r : V} {p : Operand} (R : Rel C φ S w)
    (k : VR C.ρ φ v (a.eval p)) (h : bytesId S v = .ok r S') (o : Oper) (ho : o.op = .convert s d p) (next : Act → World → Prop) (Q : Exit → Act → World → Prop)
    (hn : ∀ φ' X w', Ext φ φ' → Rel C φ' S' w' → VR C.ρ φ' r X → next (a.put o.dst X) w') : o.wp C.P a w next Q := by
  subst hsd
  unfold bytesId at h
  split at h
  rotate_left
  · cases h
  rename_i B of n z
  split at h
  rotate_left
  · cases h
  rename_i c lo sz fz hB
  split at h
  rotate_left
  · cases h
  rename_i hfz
  have hfz := blt_lt hfz
  cases h
  have k0 := k
  obtain ⟨q, off, cap, hq, e1, hl, hc⟩ := k
  obtain ⟨q', hq', hobj⟩ := R.obj B _ hB
  rw [hq] at hq'; cases hq'
  obtain ⟨cs, fr, g1, g2, g3, g4, g5, g6⟩ := hobj
  have hfr : fr = (0, 0) ∨ fr = (q.sz, q.sz + 1) := by
    match fz.k, hfz, g5 with
    | 0, _, h => exact .inl h
    | 1, _, h => exact h
  let w' : World := w.freeze ⟨q.b, cs.size, none⟩ 1
  have hw'h : w'.heap = w.heap.modify q.b (fun
      | .cells c elem (lo, hi) => .cells c elem (if lo == hi then (cs.size, cs.size + 1) else (min lo cs.size, max hi (cs.size + 1)))
      | o => o) := rfl
  have hb : w'.heap[q.b]? = some (.cells cs fz.ty (q.sz, q.sz + 1)) := by
    rw [hw'h, Array.getElem?_modify, if_pos rfl, g1]
    rcases hfr with rfl | rfl
    · simp [g2]
    · simp [g2]
  have hother : ∀ b, b ≠ q.b → w'.heap[b]? = w.heap[b]? := by
    intro b hne
    rw [hw'h, Array.getElem?_modify, if_neg (fun e => hne e.symm)]
  have R' : Rel C φ ⟨S.heap.put B (some (.row c lo sz ⟨1, fz.ty⟩)), S.next⟩ w' := by
    refine R.turn hB hq ⟨rfl, rfl, rfl⟩ (by rw [hw'h, Array.size_modify]) hother ?_
    exact ⟨cs, (q.sz, q.sz + 1), hb, g2, g3, g4, .inr rfl, g6⟩
  refine wp_v (X := .slice (some ⟨q.b, off, none⟩) n cap) hn ?_ (Ext.refl φ) R' (e1 ▸ k0)
  simp only [execOp, ho, e1]
  refine lay_w ?_
  have hsh : w.shape? q.b = some (fz.ty, cs.size) := by simp only [World.shape?, g1]
  simp only [convert, Sem.run_bind, run_underlying hd, run_underlying he, Result.andThen_ok, beq_self_eq_true, markStringish, run_shape, hsh, run_freeze, Sem.run_pure]
  rfl
theorem hConv_ok {s d : TypeId} {p : Operand} {st : Step} (h : hConv C.P x s d p = .mk st) : HeavyOK C x (.convert s d p) st := by
  unfold hConv at h
  split at h
  · cases h
  rename_i f hf
  split at h
  rotate_left
  · cases h
  rename_i e hd
  split at h
  rotate_left
  · cases h
  rename_i he
  split at h
  · rename_i hs0
    cases h
    intro call φ S S' w L F a v _ R E hs o ho next Q hn
    exact bytesOf_ok hd he hs0 R (ev_some E hf) hs o ho next Q hn
  · rename_i e' hs0
    split at h
    · cases h
    rename_i hsd
    have hsd := beq_eq hsd
    cases h
    intro call φ S S' w L F a v _ R E hs o ho next Q hn
    exact bytesId_ok hsd hd he R (ev_some E hf) hs o ho next Q hn
  · cases h
-- MAPS
theorem same_eq {ρ : Rho} {φ : Phi} {x y : V} {X Y : Value} (h : same x y = true) (k : VR ρ φ x X) (k' : VR ρ φ y Y) : Instr.sameBits 10000 X Y = true := by
  have leaf : ∀ {x y : V} {X Y : Value}, sameS x y = true → VR ρ φ x X → VR ρ φ y Y → ∀ n, Instr.sameBits n X Y = true := by
    intro x y X Y h k k' n
    unfold sameS at h
    split at h
    · cases k; cases k'; rw [ieq_eq] at h; have h := of_decide_eq_true h; subst h; cases n <;> simp [Instr.sameBits]
    · cases k; cases k'
      obtain ⟨h1, h2⟩ := and_true h
      rw [kEq_eq] at h1; rw [ieq_eq] at h2
      have h1 := of_decide_eq_true h1; have h2 := of_decide_eq_true h2
      subst h1; subst h2; cases n <;> simp [Instr.sameBits]
    · obtain ⟨h1, h2⟩ := and_true h
      have h1 := beq_eq h1; have h2 := beq_eq h2
      subst h1; subst h2
      obtain ⟨s, rfl, k1, _⟩ := k
      obtain ⟨s', rfl, k1', _⟩ := k'
      have : s = s' := by
        obtain ⟨⟨a⟩⟩ := s; obtain ⟨⟨b⟩⟩ := s'
        simp only at k1 k1'
        rw [k1, k1']
      subst this
      have hss : (s == s) = true := by rw [beq_toListBytes]; simp
      cases n <;> simp [Instr.sameBits, hss]
    · cases k; cases k'
      rw [bEq_eq] at h
      cases n <;> simpa [Instr.sameBits] using h
    · rename_i t t'
      obtain ⟨h0, h⟩ := and_true h
      have h := sameY_eq _ _ h
      subst h
      cases t with
      | sym i => cases h0
      | int i off lo hi =>
        obtain ⟨m, rfl, h0, _⟩ := k
        obtain ⟨m', rfl, h0', _⟩ := k'
        rw [h0] at h0'; cases h0'
        cases n <;> simp [Instr.sameBits]
      | num kd l =>
        obtain ⟨rfl, _⟩ := k
        obtain ⟨rfl, _⟩ := k'
        cases n <;> simp [Instr.sameBits]
      | txt l =>
        obtain ⟨s, rfl, k1, _⟩ := k
        obtain ⟨s', rfl, k1', _⟩ := k'
        have : s = s' := by
          obtain ⟨⟨a⟩⟩ := s; obtain ⟨⟨b⟩⟩ := s'
          have := toNat_inj (k1.trans k1'.symm)
          simp only at this
          rw [this]
        subst this
        have hss : (s == s) = true := by rw [beq_toListBytes]; simp
        cases n <;> simp [Instr.sameBits, hss]
    · cases h
  have list : ∀ {l r : List V} {xs ys : List Value}, sameLs l r = true → VRL ρ φ l xs → VRL ρ φ r ys → xs.length = ys.length ∧ ∀ n, (xs.zip ys).all (fun (x, y) => Instr.sameBits n x y) = true := by
    intro l
    induction l with
    | nil =>
      intro r xs ys h k k'
      cases r with
      | nil => cases k; cases k'; exact ⟨rfl, fun n => rfl⟩
      | cons => cases h
    | cons v l ih =>
      intro r xs ys h k k'
      cases r with
      | nil => cases h
      | cons v' r =>
        obtain ⟨h1, h2⟩ := and_true h
        obtain ⟨X, xs, rfl, k1, k2⟩ := k
        obtain ⟨Y, ys, rfl, k1', k2'⟩ := k'
        obtain ⟨g1, g2⟩ := ih h2 k2 k2'
        exact ⟨by simp [g1], fun n => by simp only [List.zip_cons_cons, List.all_cons, leaf h1 k1 k1' n, g2 n, Bool.and_self]⟩
  unfold same at h
  split at h
  · split at h
    · obtain ⟨xs, rfl, k⟩ := k
      obtain ⟨ys, rfl, k'⟩ := k'
      obtain ⟨g1, g2⟩ := list h k k'
      have : ∀ n, Instr.sameBits (n + 1) (.agg xs) (.agg ys) = true := by
        intro n
        simp only [Instr.sameBits]
        rw [g2 n]
        simp at g1
        simp [g1]
      exact this 9999
    · cases h
  · exact leaf h k k' 10000
theorem run_setObj_map {P : Program} {w : World} {b : Nat} {es : Array MapEntry} {cl : Nat} (h : w.heap[b]? = some (.map es cl)) (o : Obj) : (setObj b o).run P w = .ok () { w with heap := w.heap.setIfInBounds b o } := by
  simp [setObj, Sem.run, h]
theorem Rel.remap {φ : Phi} {S : St} {w : World} (R : Rel C φ S w) {B : Nat} {l l' : List (V × V)} {q : Q} (hB : S.heap.get B = some (.mp l)) (hq : φ B = some q) {es : Array MapEntry} {cl : Nat} (hm : mapR C.ρ φ l' es.toList) (hb : ∀ e ∈ es.toList, e.born < cl) (hn : (es.toList.map (·.born)).Nodup) :
    Rel C φ ⟨S.heap.put B (some (.mp l')), S.next⟩ { w with heap := w.heap.setIfInBounds q.b (.map es cl) } := by
  have hlt := (R.lt B q hq).2
  have hother : ∀ b, b ≠ q.b → (w.heap.setIfInBounds q.b (.map es cl))[b]? = w.heap[b]? := fun b hne => Array.getElem?_setIfInBounds_ne (fun e => hne e.symm)
  refine R.turn hB hq ⟨rfl, rfl, rfl⟩ (by simp) hother ?_
  · refine ⟨es, cl, ?_, hm, hb, hn⟩
    show (w.heap.setIfInBounds q.b (.map es cl))[q.b]? = _
    simp [hlt]
end
end Go.Xe
