/-
  THE FUNCTIONS TAKEN BY A CONTRACT, AT THIS PROGRAM: the check sum by its walk; strings.Repeat, Clone, slices.Sorted(maps.Keys) off the shelf.
-/
import Derived.Test.YtnjfkicalpbiaaaGreatDoorTryzMinPlain
import Derived.Test.YtnjfkicalpbiaaaGreatDoorTryzSum
import Derived.Test.YtnjfkicalpbiaaaGreatDoorXeSorted
import Derived.Maps.Own
import Derived.Maps.Range
import Derived.KernelRfl
set_option linter.unusedVariables false
set_option linter.unusedSimpArgs false
set_option linter.unnecessarySimpa false
namespace Go.Proofs
open Go.Xe Go.RowKit Go.Maps
theorem Tryz.mixed : Tryz.prog.follows .mixedOrders = true := by kernel_rfl
theorem Tryz.noNum : NoNum Tryz.prog := by
  have h : (Tryz.prog.funcs.toList.all fun fn => !(fn.name == "runtime.NumGoroutine")) = true := by kernel_rfl
  intro g fn hf _
  rw [List.all_eq_true] at h
  have := h fn (by have := Array.mem_of_getElem? hf; simpa using this)
  simpa using this
theorem Tryz.nat0_ok (C : Cxt) (hC : C.P = Tryz.prog) : NatOK C (natives 131 92 172 185) := by
  have e1 : OneOK C 131 sumOf := one_of_calls (fn := Tryz.f131) (by rw [hC]; exact Tryz.func131) (by kernel_rfl) (by kernel_rfl) (sumOf_ok SumOf.up (fun _ => rfl) (fun _ _ => rfl) (by rw [hC]; exact Tryz.sumOf_walk) (by rw [hC]; exact Tryz.sumOf_nil))
  have e2 : OneOK C 92 repeatS := one_of_calls (fn := Tryz.f92) (by rw [hC]; exact Tryz.func92) (by kernel_rfl) (by kernel_rfl) (repeatS_ok (by rw [hC]; exact Tryz.strings_Repeat))
  have e3 : OneOK C 172 cloneS := one_of_calls (fn := Tryz.f172) (by rw [hC]; exact Tryz.func172) (by kernel_rfl) (by kernel_rfl) (cloneS_ok (by rw [hC]; exact Tryz.stringslite_Clone))
  have e4 : OneOK C 185 sameP := sameP_ok fun x w => by
    rw [hC, run_callFunc_extern Tryz.func185 (by kernel_rfl) (by kernel_rfl) (by kernel_rfl) (e := Extern.AbiNoEscape.same) (by kernel_rfl)]
    rfl
  exact natives_ok e1 e2 e3 e4
/-- slices.Sort's two contracts at this program. -/
theorem Tryz.sortsA (m : Nat) : AnyZI.SortsIn Tryz.prog Tryz.sortedA_ren Fence.wide m :=
  ⟨fun blk off cap ss W hH hblk hsz => callsIn_wide.2 (AnyM.slices_Sort_int Tryz.sortA blk off cap ss W hH hblk hsz),
   fun p cap W => callsIn_wide.2 (AnyM.slices_Sort_int_none Tryz.sortA p cap W)⟩
theorem Tryz.sorted_walk (Bm b : Nat) (w : World) (es : Array MapEntry) (clock : Nat) (ks : List Int) (hcell : w.cell? ⟨Bm, 0, none⟩ = some (.map (some b))) (hBm : Bm < w.heap.size) (hb : w.heap[b]? = some (.map es clock)) (hst : MapKept.Stamped es clock)
    (hks : es.toList.map (·.key) = ks.map (Value.int .i64)) (hsz : es.size ≤ 1000000) (hmid : ∀ k ∈ ks, -4611686018427387904 ≤ k ∧ k ≤ 4611686018427387904) (hnd : ks.Nodup) :
    Calls Tryz.prog 199 #[.func (.func 226) #[] #[.pointer (some ⟨Bm, 0, none⟩)]] w fun e w' => ∃ (v : Value) (ss : List Int), e = .returned v ∧ ss.Perm ks ∧
      w'.ownsRow w.heap.size 3 1 v ss.length ((ss.mergeSort (fun x y => decide (x ≤ y))).map (Value.int .i64)) ∧ (v = .slice none 0 0 ↔ ss = []) ∧ Below w.heap.size w w' := by
  let R : Value → Option (DataW Unit × List MemPlace) := fun _ => some (.nil, [])
  have hrd : ∀ x ∈ es.toList, ∃ k, k ∈ ks ∧ WideElems.rd Tryz.prog 3 R x = some (.int .i64 k, .nil) := by
    intro x hx
    have hm : x.key ∈ ks.map (Value.int .i64) := by rw [← hks]; exact List.mem_map_of_mem hx
    obtain ⟨k, hk, e⟩ := List.mem_map.1 hm
    refine ⟨k, hk, ?_⟩
    have hw : (Lit.int .i64 k).wf = true := by
      have := hmid k hk
      simp [Lit.wf, IntKind.min, IntKind.max, IntKind.signed, IntKind.bits]
      omega
    unfold WideElems.rd
    rw [← e, keyOf_int_mk Tryz.underlying3 hw]
    rfl
  have hown : w.ownsMap Tryz.prog 3 R b es.size (.map ((es.toList.map (WideElems.rg Tryz.prog 3 R)).foldr DataW.insert [])) :=
    ⟨es, clock, hb, ⟨by show es.size ≤ 2 ^ 63 - 1; omega, hst, fun x hx => by obtain ⟨k, _, h⟩ := hrd x hx; exact ⟨_, h⟩⟩, Nat.le_refl _, rfl⟩
  have hperm : (intKeys (.map ((es.toList.map (WideElems.rg Tryz.prog 3 R)).foldr DataW.insert []))).Perm ks := by
    show (((es.toList.map (WideElems.rg Tryz.prog 3 R)).foldr DataW.insert []).map fun p => Go.intOf p.1).Perm ks
    refine ((Go.WideShapes.sorted_perm _).map _).trans ?_
    rw [List.map_map]
    have : es.toList.map ((fun p => Go.intOf p.1) ∘ WideElems.rg Tryz.prog 3 R) = ks := by
      have h2 : ∀ (l : List MapEntry) (q : List Int), (∀ x ∈ l, ∃ k, WideElems.rd Tryz.prog 3 R x = some (.int .i64 k, .nil) ∧ x.key = .int .i64 k) → l.map (·.key) = q.map (Value.int .i64) → l.map ((fun p => Go.intOf p.1) ∘ WideElems.rg Tryz.prog 3 R) = q := by
        intro l
        induction l with
        | nil => intro q _ h; cases q with | nil => rfl | cons => cases h
        | cons x l ih =>
          intro q hx h
          cases q with
          | nil => cases h
          | cons k q =>
            simp only [List.map_cons, List.cons.injEq] at h
            obtain ⟨k', e1, e2⟩ := hx x (List.mem_cons_self ..)
            rw [h.1] at e2; cases e2
            simp only [List.map_cons, List.cons.injEq]
            exact ⟨by simp [WideElems.rg, e1, Go.intOf], ih q (fun y hy => hx y (List.mem_cons_of_mem _ hy)) h.2⟩
      refine h2 es.toList ks (fun x hx => ?_) hks
      have hm : x.key ∈ ks.map (Value.int .i64) := by rw [← hks]; exact List.mem_map_of_mem hx
      obtain ⟨k, hk, e⟩ := List.mem_map.1 hm
      refine ⟨k, ?_, e.symm⟩
      have hw : (Lit.int .i64 k).wf = true := by
        have := hmid k hk
        simp [Lit.wf, IntKind.min, IntKind.max, IntKind.signed, IntKind.bits]
        omega
      unfold WideElems.rd
      rw [← e, keyOf_int_mk Tryz.underlying3 hw]
      rfl
    rw [this]
  have hsize : Maps.size (.map ((es.toList.map (WideElems.rg Tryz.prog 3 R)).foldr DataW.insert [])) ≤ 1000000 := by
    rw [size_eq, (Go.WideShapes.sorted_perm _).length_eq, List.length_map, Array.length_toList]; exact hsz
  have hseq : SeqGives Fence.wide 2 Tryz.prog 226 #[.pointer (some ⟨Bm, 0, none⟩)] encZ (fun ss => ss.Perm (intKeys (.map ((es.toList.map (WideElems.rg Tryz.prog 3 R)).foldr DataW.insert [])))) (Maps.size (.map ((es.toList.map (WideElems.rg Tryz.prog 3 R)).foldr DataW.insert []))) w :=
    AnyZI.keys_gives (ρ := Tryz.keysA_ren) { Tryz.keysA with } Fence.wide _ trivial rfl (by omega) Bm b es.size _ _ hBm hcell hown
  have cS := AnyZI.sorted_in Tryz.sortedA Fence.wide 5 trivial trivial trivial trivial rfl (by omega) (Tryz.sortsA _) (enters_of Tryz.func225 (by kernel_rfl) rfl) 226 #[.pointer (some ⟨Bm, 0, none⟩)] trivial (enters_of Tryz.func226 (by kernel_rfl) rfl) _ _ (by show _ ≤ 2 ^ 63 - 1; omega) (by omega) w hseq
  refine Calls.mono (callsIn_wide.1 cS) fun e w' ⟨v, ss, he, hS, hrow, hnil, hbl⟩ => ⟨v, ss, he, hS.trans hperm, hrow, hnil, hbl⟩
theorem Tryz.nat_ok (C : Cxt) (hC : C.P = Tryz.prog) : NatOK C (withSorted (natives 131 92 172 185) 199 226 3) :=
  withSorted_ok (Tryz.nat0_ok C hC) (one_of_calls (fn := Tryz.f199) (by rw [hC]; exact Tryz.func199) (by kernel_rfl) (by kernel_rfl) (sortedS_ok (by rw [hC]; exact Tryz.sorted_walk)))
end Go.Proofs
