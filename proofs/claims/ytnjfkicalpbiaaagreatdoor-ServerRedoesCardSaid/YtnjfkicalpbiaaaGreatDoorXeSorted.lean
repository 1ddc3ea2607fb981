/-
  slices.Sorted(maps.Keys(m)) at keys of the kind int: what stands behind the executor's own way.
-/
import Derived.Test.YtnjfkicalpbiaaaGreatDoorXeNat
import Derived.Test.YtnjfkicalpbiaaaGreatDoorNat3
import Derived.Laws.AppendOwn
import Derived.MapKept
set_option linter.unusedVariables false
set_option linter.unusedSimpArgs false
set_option linter.unnecessarySimpa false
namespace Go.Xe
open Go.RowKit
theorem Rel.newAt {C : Cxt} {φ : Phi} {S : St} {w : World} (h : Rel C φ S w) {b : Nat} {x : Obj} (hb : w.heap[b]? = some x) (hk : C.kept b = none) (hne : ∀ A q, φ A = some q → q.b ≠ b) (o : O) (sh sz : Nat)
    (ho : ∀ φ', Ext φ φ' → objR C.ρ φ' o ⟨b, sh, sz⟩ (some x)) :
    ∃ φ', Ext φ φ' ∧ φ' S.next = some ⟨b, sh, sz⟩ ∧ Rel C φ' ⟨S.heap.put S.next (some o), S.next + 1⟩ w := by
  let C1 : Cxt := ⟨C.P, C.w0, fun k => if k = b then some x else C.kept k, C.ρ, C.scal⟩
  have h1 : Rel C1 φ S w := by
    refine ⟨h.obj, h.inj, h.fresh, fun B q hq => ⟨?_, (h.lt B q hq).2⟩, ⟨h.keep.os, h.keep.tape, h.keep.output, h.keep.size, fun k y hy => ?_⟩⟩
    · show (if q.b = b then some x else C.kept q.b) = none
      rw [if_neg (hne B q hq)]; exact (h.lt B q hq).1
    · have hy : (if k = b then some x else C.kept k) = some y := hy
      by_cases e : k = b
      · rw [if_pos e] at hy; cases hy; rw [e]; exact hb
      · rw [if_neg e] at hy; exact h.keep.block k y hy
  refine h1.adopt (C' := C) (b := b) (x := x) (by show (if b = b then some x else C.kept b) = some x; rw [if_pos rfl]) ⟨rfl, rfl⟩ (fun k y hy => ?_) hk o sh sz ho
  show (if k = b then some x else C.kept k) = some y
  by_cases e : k = b
  · rw [e, hk] at hy; cases hy
  · rw [if_neg e]; exact hy
theorem keysOf_R {ρ : Rho} {φ : Phi} : ∀ {l : List (V × V)} {es : List MapEntry} {ks : List Int}, keysOf l = some ks → mapR ρ φ l es → es.map (·.key) = ks.map (Value.int .i64) ∧ es.length = l.length
  | [], es, ks, h, k => by cases h; cases k; exact ⟨rfl, rfl⟩
  | a :: l, es, ks, h, k => by
    obtain ⟨e, r, rfl, k1, k2, k3⟩ := k
    simp only [keysOf] at h
    split at h
    rotate_left
    · cases h
    rename_i n hn
    split at h
    rotate_left
    · cases h
    rename_i q hq
    cases h
    rw [hn] at k1
    obtain ⟨h1, h2⟩ := keysOf_R hq k3
    have k1 : e.key = .int .i64 n := k1
    exact ⟨by simp [k1, h1], by simp [h2]⟩
theorem memI_eq (k : Int) : ∀ l, memI k l = decide (k ∈ l)
  | [] => by simp [memI]
  | x :: l => by
    simp only [memI, memI_eq k l, ieq_eq, List.mem_cons]
    by_cases h : x = k
    · simp [h]
    · have h' : ¬ k = x := fun e => h e.symm
      simp [h, h']
theorem nodupI_eq : ∀ {l}, nodupI l = true → l.Nodup
  | [], _ => List.nodup_nil
  | x :: l, h => by
    simp only [nodupI] at h
    have h1 := (Bool.and_eq_true _ _ ▸ h : _ ∧ _)
    rw [memI_eq] at h1
    refine List.nodup_cons.2 ⟨?_, nodupI_eq h1.2⟩
    have := h1.1
    simpa using this
theorem midI_eq : ∀ {l}, midI l = true → ∀ k ∈ l, -4611686018427387904 ≤ k ∧ k ≤ 4611686018427387904
  | x :: l, h, k, hk => by
    simp only [midI] at h
    have h1 := (Bool.and_eq_true _ _ ▸ h : _ ∧ _)
    rcases List.mem_cons.1 hk with rfl | hk
    · exact mid_some h1.1
    · exact midI_eq h1.2 k hk
theorem insK_perm (k : Int) : ∀ l, (insK k l).Perm (k :: l)
  | [] => List.Perm.refl _
  | x :: l => by
    simp only [insK]
    split
    · exact List.Perm.refl _
    · exact ((insK_perm k l).cons x).trans (List.Perm.swap k x l)
theorem sortK_perm : ∀ l, (sortK l).Perm l
  | [] => List.Perm.refl _
  | k :: l => (insK_perm k _).trans ((sortK_perm l).cons k)
theorem insK_sorted (k : Int) : ∀ l, l.Pairwise (· ≤ ·) → (insK k l).Pairwise (· ≤ ·)
  | [], _ => by simp [insK]
  | x :: l, h => by
    simp only [insK]
    have h0 := List.pairwise_cons.1 h
    split
    · rename_i e
      rw [ile_eq] at e
      have e := of_decide_eq_true e
      refine List.pairwise_cons.2 ⟨fun y hy => ?_, h⟩
      rcases List.mem_cons.1 hy with rfl | hy
      · exact e
      · exact Int.le_trans e (h0.1 y hy)
    · rename_i e
      rw [ile_eq] at e
      have e := of_decide_eq_false e
      refine List.pairwise_cons.2 ⟨fun y hy => ?_, insK_sorted k l h0.2⟩
      rcases List.mem_cons.1 ((insK_perm k l).mem_iff.1 hy) with rfl | hy
      · omega
      · exact h0.1 y hy
theorem sortK_sorted : ∀ l, (sortK l).Pairwise (· ≤ ·)
  | [] => List.Pairwise.nil
  | k :: l => insK_sorted k _ (sortK_sorted l)
theorem sorted_same {a b : List Int} (h : a.Perm b) (ha : a.Pairwise (· ≤ ·)) (hb : b.Pairwise (· ≤ ·)) : a = b :=
  h.eq_of_pairwise (le := (· ≤ ·)) (fun x y _ _ h1 h2 => Int.le_antisymm h1 h2) ha hb
theorem mergeSort_sortK {ss ks : List Int} (h : ss.Perm ks) : ss.mergeSort (fun x y => decide (x ≤ y)) = sortK ks := by
  refine sorted_same ?_ ?_ (sortK_sorted ks)
  · exact (List.mergeSort_perm ss _).trans (h.trans (sortK_perm ks).symm)
  · have := List.pairwise_mergeSort (le := fun x y : Int => decide (x ≤ y)) (by intro a b c h1 h2; simp at *; omega) (by intro a b; simp; omega) ss
    exact this.imp (by intro a b h; simpa using h)
theorem sortedS_ok {C : Cxt} {g fk ty : Nat}
    (walk : ∀ (Bm b : Nat) (w : World) (es : Array MapEntry) (clock : Nat) (ks : List Int), w.cell? ⟨Bm, 0, none⟩ = some (.map (some b)) → Bm < w.heap.size → w.heap[b]? = some (.map es clock) → MapKept.Stamped es clock → es.toList.map (·.key) = ks.map (Value.int .i64) → es.size ≤ 1000000 → (∀ k ∈ ks, -4611686018427387904 ≤ k ∧ k ≤ 4611686018427387904) → ks.Nodup →
      Calls C.P g #[.func (.func fk) #[] #[.pointer (some ⟨Bm, 0, none⟩)]] w fun e w' => ∃ (v : Value) (ss : List Int), e = .returned v ∧ ss.Perm ks ∧
        w'.ownsRow w.heap.size ty 1 v ss.length ((ss.mergeSort (fun x y => decide (x ≤ y))).map (Value.int .i64)) ∧ (v = .slice none 0 0 ↔ ss = []) ∧ Below w.heap.size w w')
    {args : List V} {S S' : St} {v : V} {φ : Phi} {w : World} {Xs : Array Value} (hr : sortedS fk ty args S = .ok v S') (k : VRL C.ρ φ args Xs.toList) (R : Rel C φ S w) : Calls C.P g Xs w (Ret C φ v S') := by
  unfold sortedS at hr
  split at hr
  rotate_left
  · cases hr
  rename_i gf Bc o
  split at hr
  rotate_left
  · cases hr
  rename_i hg
  obtain ⟨hg1, hg2⟩ := and_true hg
  have hg1 := beq_eq hg1
  have hg2 := beq_eq hg2
  subst hg1; subst hg2
  split at hr
  rotate_left
  · cases hr
  rename_i B hB
  split at hr
  rotate_left
  · cases hr
  rename_i es hes
  split at hr
  rotate_left
  · cases hr
  rename_i hsz
  have hsz := blt_lt hsz
  obtain ⟨X, e0, fs, cs, rfl, kf, kc⟩ := VRL.one k
  have hfs : fs = #[] := by rw [← Array.toList_inj]; exact kf
  subst hfs
  obtain ⟨Y, e1, q, hq, hs, rfl⟩ := VRL.one kc
  have hcs : cs = #[.pointer (some ⟨q.b, 0 - q.sh, none⟩)] := by rw [← Array.toList_inj]; exact e1
  subst hcs
  have hsh : q.sh = 0 := by omega
  have : Xs = #[.func (.func gf) #[] #[.pointer (some ⟨q.b, 0, none⟩)]] := by rw [← Array.toList_inj, e0, hsh]
  subst this
  -- the cell that holds the map
  have hcell : ∃ qb, φ B = some qb ∧ w.cell? ⟨q.b, 0, none⟩ = some (.map (some qb.b)) := by
    simp only [ldv] at hB
    split at hB
    rotate_left
    · cases hB
    rename_i c lo n fz hrow
    split at hB
    rotate_left
    · cases hB
    rename_i hcc
    obtain ⟨c1, c2⟩ := and_true hcc
    have c1 := ble_le c1
    have c2 : 0 + 1 ≤ n := ble_le c2
    obtain ⟨q', hq', r, fr, g1, g2, g3, g4, g5, g6⟩ := R.obj Bc _ hrow
    rw [hq] at hq'; cases hq'
    obtain ⟨v', y, k1, k2, k3, k4⟩ := g6 0 c1 (by omega)
    have hB : c.get 0 = some (.m B) := hB
    rw [hB] at k1; cases k1
    obtain ⟨qb, hqb, rfl⟩ := k3
    refine ⟨qb, hqb, ?_⟩
    rw [show 0 - q.sh = 0 by omega] at k2
    simp [World.cell?, g1, k2]
  obtain ⟨qb, hqb, hcell⟩ := hcell
  obtain ⟨qb', hqb', mes, clock, m1, m2, m3, m4⟩ := R.obj B _ hes
  rw [hqb] at hqb'; cases hqb'
  have hBm : q.b < w.heap.size := (R.lt Bc q hq).2
  have hlen : mes.size = es.length := by
    have : ∀ {l : List (V × V)} {r : List MapEntry}, mapR C.ρ φ l r → r.length = l.length := by
      intro l
      induction l with
      | nil => intro r h; cases h; rfl
      | cons a l ih => intro r h; obtain ⟨e, r', rfl, _, _, h'⟩ := h; simp [ih h']
    rw [← Array.length_toList]; exact this m2
  have finish : ∀ (ks : List Int), keysOf es = some ks → ks.Nodup → midI ks = true → (∀ (w' : World) (X : Value), w'.ownsRow w.heap.size ty 1 X (sortK ks).length ((sortK ks).map (Value.int .i64)) → (X = .slice none 0 0 ↔ ks = []) → Below w.heap.size w w' → Ret C φ v S' (.returned X) w') → Calls C.P g #[.func (.func gf) #[] #[.pointer (some ⟨q.b, 0, none⟩)]] w (Ret C φ v S') := by
    intro ks hks hnd hmid hfin
    obtain ⟨e1, _⟩ := keysOf_R hks m2
    have hst : MapKept.Stamped mes clock := ⟨m3, m4, by
      rw [e1]
      exact List.pairwise_map.2 (hnd.imp (fun hab h => hab (by cases h; rfl)))⟩
    refine Calls.mono (walk q.b qb.b w mes clock ks hcell hBm m1 hst e1 (by omega) (midI_eq hmid) hnd) fun e w' ⟨X, ss, he, hp, hrow, hnil, hb⟩ => ?_
    subst he
    have hms := mergeSort_sortK hp
    rw [hms] at hrow
    have hl : ss.length = (sortK ks).length := by rw [hp.length_eq, (sortK_perm ks).length_eq]
    rw [hl] at hrow
    refine hfin w' X hrow ?_ hb
    rw [hnil]
    constructor
    · intro h; subst h; exact hp.symm.eq_nil
    · intro h; subst h; exact hp.eq_nil
  split at hr
  · rename_i hk0
    cases hr
    refine finish [] hk0 List.nodup_nil rfl fun w' X hrow hnil hb => ?_
    have hX := hnil.2 rfl
    subst hX
    exact ⟨φ, Ext.refl φ, R.below hb, rfl⟩
  · rename_i a l hk1
    split at hr
    rotate_left
    · cases hr
    rename_i hnd
    rw [mkRow_eq] at hr
    cases hr
    obtain ⟨hmd, hnd⟩ := and_true hnd
    refine finish (a :: l) hk1 (nodupI_eq hnd) hmd fun w' X hrow hnil hb => ?_
    obtain ⟨_, hrow⟩ := hrow
    rcases hrow with ⟨hX, _⟩ | ⟨gb, cap, cur, rfl, hge, hcur, hle, hmax, hcs, htk⟩
    · exact absurd (hnil.1 hX) (by simp)
    · rw [Nat.mul_one] at hcs htk
      have Rb := R.below hb
      have hkn : C.kept gb = none := by
        cases e : C.kept gb with
        | none => rfl
        | some x =>
          have := R.keep.block gb x e
          have := (Array.getElem?_eq_some_iff.1 this).1
          omega
      obtain ⟨φ', he, hn, R'⟩ := Rb.newAt hcur hkn (fun A q hq e => by have := (R.lt A q hq).2; omega) (.row (wr .e 0 ((sortK (a :: l)).map .i)) 0 ((sortK (a :: l)).map V.i).length ⟨0, ty⟩) 0 cur.size (fun φ' _ => by
        refine ⟨cur, (0, 0), rfl, rfl, Nat.le_refl _, ?_, rfl, fun i _ hi => ?_⟩
        · show ((sortK (a :: l)).map V.i).length ≤ 0 + cur.size
          rw [List.length_map, hcs]; omega
        · rw [List.length_map] at hi
          have hget : ((sortK (a :: l)).map V.i)[i]? = some (.i (sortK (a :: l))[i]) := by rw [List.getElem?_map, List.getElem?_eq_getElem hi]; rfl
          refine ⟨.i (sortK (a :: l))[i], .int .i64 (sortK (a :: l))[i], ?_, ?_, rfl, rfl⟩
          · rw [wr_get, if_pos (by simp; omega)]
            simpa using hget
          · have h1 : (cur.toList.take (sortK (a :: l)).length)[i]? = some (Value.int .i64 (sortK (a :: l))[i]) := by
              rw [htk, List.getElem?_map, List.getElem?_eq_getElem hi]; rfl
            rw [List.getElem?_take, if_pos hi] at h1
            simpa using h1)
      refine ⟨φ', he, R', ⟨gb, 0, cur.size⟩, 0, cap, hn, rfl, ?_, fun _ => ⟨Nat.le_refl _, rfl, ?_⟩⟩
      · exact hle
      · show 0 + cap * 1 ≤ cur.size
        omega
  · cases hr
theorem withSorted_ok {C : Cxt} {N : Natives} {fs fk ty : Nat} (h : NatOK C N) (h1 : OneOK C fs (sortedS fk ty)) : NatOK C (withSorted N fs fk ty) := by
  intro g n hn
  unfold withSorted at hn
  split at hn
  · rename_i e; cases hn; rw [beq_eq e]; exact h1
  · exact h _ _ hn
end Go.Xe
