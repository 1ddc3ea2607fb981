/-
  THE QUICK FORM IS THE VERY SAME: what turns the heap; regions; functions; calls.
-/
import Derived.Test.YtnjfkicalpbiaaaGreatDoorXeFastC
set_option linter.unusedVariables false
set_option linter.unusedSimpArgs false
set_option linter.unnecessarySimpa false
namespace Go.Xf
open Go.Xe
variable (P : Program)
theorem mkRow'_eq (l : List V) (fz : Z) (S : St) (k : Nat → St → O2) : mkRow' l fz S k = mkRow l fz S k := by
  unfold mkRow' mkRow
  rw [wr'_eq, len'_eq]
theorem hAlloc'_eq (t : Nat) : hAlloc' P t = hAlloc P t := by
  unfold hAlloc' hAlloc
  cases zeroB P t <;> first | rfl | skip
  rename_i z
  simp only [wr'_eq, len'_eq]
  cases flat (cells z) <;> rfl
theorem iteB_eq (b : Bool) (x : O2) : iteB b x = match b with | true => x | false => .bad := by cases b <;> rfl
theorem hBox'_eq (x : Cx) (t : Nat) (a : Operand) : hBox' x t a = hBox x t a := by
  unfold hBox' hBox
  cases x.ev a <;> first | rfl | skip
  rename_i f
  show Box.mk _ = Box.mk _
  congr 1
  funext c L F S
  rw [cells'_eq, flat'_eq, mkRow'_eq]
  cases flat (cells (f L F)) <;> rfl
theorem hBuildSl'_eq (x : Cx) (t n : Nat) (ps : List (Nat × Operand)) : hBuildSl' P x t n ps = hBuildSl P x t n ps := by
  unfold hBuildSl' hBuildSl
  simp only [partsB'_eq]
  cases slElB P t <;> first | rfl | skip
  rename_i e
  simp only
  cases szB P e <;> first | rfl | skip
  rename_i sz
  simp only
  cases zeroB P e <;> first | rfl | skip
  rename_i z
  simp only
  cases (and (Nat.ble (Nat.mul n sz) 1000000) (and (Nat.blt 0 sz) (Nat.beq (cells z).length sz))) <;> first | rfl | skip
  simp only
  cases partsB x (Nat.mul n sz) (elemPl sz) ps <;> first | rfl | skip
  rename_i g
  show Box.mk _ = Box.mk _
  congr 1
  funext c L F S
  rcases g L F (rep (cells z) n) with _ | l
  · rfl
  · show Bool.rec (motive := fun _ => O2) .bad (mkRow' l ⟨0, e⟩ S fun B S => .ok (.sl B 0 n sz) S) (flat' l) = (match flat l with | true => _ | false => O2.bad)
    rw [flat'_eq, mkRow'_eq]
    cases flat l <;> rfl
theorem stv'_eq (size : Nat) (a v : V) (S : St) : stv' size a v S = stv size a v S := by
  cases a <;> first | rfl | skip
  rename_i B o
  show asRow .bad _ (T.get S.heap B) = (match T.get S.heap B with | some (.row c lo n fz) => _ | _ => O2.bad)
  rcases T.get S.heap B with _ | (⟨c, lo, n, fz⟩ | es) <;> first | rfl | skip
  show iteB (Nat.ble (Nat.succ fz.k) 2) (iteB (Nat.ble lo o) (iteB (Nat.ble (Nat.add o size) n) (iteB (Nat.beq (cellLen' v) size) (iteB (flat' (cells' v)) (.ok u ⟨T.put S.heap B (some (.row (wr' c o (cells' v)) lo n fz)), S.next⟩))))) =
    (match and (Nat.blt fz.k 2) (and (Nat.ble lo o) (and (Nat.ble (Nat.add o size) n) (and (Nat.beq (cellLen v) size) (flat (cells v))))) with | true => _ | false => O2.bad)
  rw [show Nat.blt fz.k 2 = Nat.ble (Nat.succ fz.k) 2 from rfl, cellLen'_eq, cells'_eq, flat'_eq, wr'_eq]
  cases Nat.ble (Nat.succ fz.k) 2 <;> first | rfl | skip
  cases Nat.ble lo o <;> first | rfl | skip
  cases Nat.ble (Nat.add o size) n <;> first | rfl | skip
  cases Nat.beq (cellLen v) size <;> first | rfl | skip
  cases flat (cells v) <;> rfl
theorem st1_eq (a v : V) (S : St) (h : isAgV v = false) : st1 a v S = stv 1 a v S := by
  rw [← stv'_eq]
  cases a <;> first | rfl | skip
  rename_i B o
  show asRow O2.bad _ (T.get S.heap B) = asRow O2.bad _ (T.get S.heap B)
  rcases T.get S.heap B with _ | (⟨c, lo, n, fz⟩ | es) <;> first | rfl | skip
  show iteB (Nat.ble (Nat.succ fz.k) 2) (iteB (Nat.ble lo o) (iteB (Nat.ble (Nat.succ o) n) (.ok u ⟨T.put S.heap B (some (.row (T.put c o (some v)) lo n fz)), S.next⟩))) =
    iteB (Nat.ble (Nat.succ fz.k) 2) (iteB (Nat.ble lo o) (iteB (Nat.ble (Nat.add o 1) n) (iteB (Nat.beq (cellLen' v) 1) (iteB (flat' (cells' v)) (.ok u ⟨T.put S.heap B (some (.row (wr' c o (cells' v)) lo n fz)), S.next⟩)))))
  have h1 : Nat.beq (cellLen' v) 1 = true := by cases v <;> first | rfl | cases h
  have h2 : cells' v = [v] := by cases v <;> first | rfl | cases h
  have h3 : flat' [v] = true := by
    show Bool.rec (motive := fun _ => Bool) false true (Bool.rec (motive := fun _ => Bool) true false (isAgV v)) = true
    rw [h]
  rw [h1, h2, h3, wr'_eq]; rfl
theorem hStore'_eq (x : Cx) (t : Nat) (a v : Operand) : hStore' P x t a v = hStore P x t a v := by
  unfold hStore' hStore
  cases szB P t <;> first | rfl | skip
  rename_i n
  cases x.ev a <;> first | rfl | skip
  cases x.ev v <;> first | rfl | skip
  rename_i f g
  simp only
  cases h : Nat.beq n 1
  · show Box.mk _ = Box.mk _
    congr 1
    funext c L F S
    exact stv'_eq _ _ _ _
  · have : n = 1 := Nat.eq_of_beq_eq_true h
    subst this
    show Box.mk _ = Box.mk _
    congr 1
    funext c L F S
    cases e : isAgV (g L F)
    · exact st1_eq _ _ _ e
    · exact stv'_eq _ _ _ _
theorem mkSl'_eq (e : Nat) (z : V) (sz : Nat) (a b : V) (S : St) : mkSl' e z sz a b S = mkSl e z sz a b S := by
  unfold mkSl' mkSl
  rw [asN_eq, asN_eq]
  rcases nat? a with _ | n
  · rfl
  rcases nat? b with _ | m
  · rfl
  show iteB (Nat.ble n m) (iteB (Nat.ble (Nat.succ m) 1000000) (iteB (flat' (cells' z)) (mkRow' (rep' (cells' z) m) ⟨0, e⟩ S fun B S => .ok (.sl B 0 n sz) S))) = (match and (Nat.ble n m) (and (Nat.blt m 1000000) (flat (cells z))) with | true => _ | false => O2.bad)
  rw [flat'_eq, cells'_eq, rep'_eq, mkRow'_eq, show Nat.blt m 1000000 = Nat.ble (Nat.succ m) 1000000 from rfl]
  cases Nat.ble n m <;> cases Nat.ble (Nat.succ m) 1000000 <;> cases flat (cells z) <;> rfl
theorem hMakeSl'_eq (x : Cx) (t : Nat) (l c : Operand) : hMakeSl' P x t l c = hMakeSl P x t l c := by
  unfold hMakeSl' hMakeSl
  have h1 : mkSl' = mkSl := by funext e z s a b S; exact mkSl'_eq e z s a b S
  rw [h1]; rfl
theorem bytesOf'_eq (e : Nat) (S : St) (v : V) : bytesOf' e S v = bytesOf e S v := by
  cases v <;> first | rfl | skip
  rename_i l n
  show mkRow' (sBytes' l n) ⟨1, e⟩ S _ = mkRow (sBytes l n) ⟨1, e⟩ S _
  rw [mkRow'_eq, sBytes'_eq]
theorem hConv'_eq (x : Cx) (s d : Nat) (a : Operand) : hConv' P x s d a = hConv P x s d a := by
  unfold hConv' hConv
  have h1 : bytesOf' = bytesOf := by funext e S v; exact bytesOf'_eq e S v
  rw [h1]; rfl
theorem keyT'_eq (t : Nat) : keyT' P t = keyT P t := by
  unfold keyT' keyT
  simp only [keyB'_eq]
  rfl
theorem hMapUp'_eq (x : Cx) (t : Nat) (m k v : Operand) : hMapUp' P x t m k v = hMapUp P x t m k v := by
  unfold hMapUp' hMapUp
  simp only [keyT'_eq]
  rfl
theorem lenV'_eq (v : V) : lenV' v = lenV v := by cases v <;> rfl
theorem app'_eq (ty size : Nat) (s x : V) (S : St) : app' ty size s x S = app ty size s x S := by
  unfold app' app
  rw [lenV'_eq]
  rcases lenV x with _ | n
  · rfl
  simp only [src'_eq]
  rcases src size n x S with _ | l
  · rfl
  cases s <;> first | rfl | skip
  · show by2 _ _ _ n = _
    cases n with
    | zero => rfl
    | succ n =>
      have : ∀ a b : O2, by2 a b b (n + 1) = b := fun a b => by cases n <;> rfl
      rw [this, mkRow'_eq, show Nat.ble (Nat.succ (n + 1)) 1000000 = Nat.blt (n + 1) 1000000 from rfl]
      show iteB _ _ = _
      rw [iteB_eq]
      rfl
  · rename_i B o len z
    cases n with
    | zero =>
      show iteB (Nat.beq z size) _ = _
      rw [iteB_eq]
      rfl
    | succ n =>
      show asRow .bad _ (T.get S.heap B) = (match T.get S.heap B with | some (.row c lo sz fz) => _ | _ => O2.bad)
      rcases T.get S.heap B with _ | (⟨c, lo, sz, fz⟩ | es) <;> first | rfl | skip
      simp only [asRow, frc_eq, wr'_eq]
      rw [show Nat.blt (Nat.add len (n + 1)) 1000000 = Nat.ble (Nat.succ (Nat.add len (n + 1))) 1000000 from rfl, show Nat.blt fz.k 2 = Nat.ble (Nat.succ fz.k) 2 from rfl]
      cases Nat.beq z size <;> first | rfl | skip
      cases Nat.beq fz.ty ty <;> first | rfl | skip
      cases Nat.ble (Nat.succ (Nat.add len (n + 1))) 1000000 <;> first | rfl | skip
      cases Nat.ble lo o <;> first | rfl | skip
      cases Nat.ble (Nat.add o (Nat.mul len size)) sz <;> first | rfl | skip
      cases Nat.ble (Nat.succ fz.k) 2 <;> cases Nat.beq (Nat.add o (Nat.mul len size)) sz <;> rfl
theorem cpy'_eq (size : Nat) (d x : V) (S : St) : cpy' size d x S = cpy size d x S := by
  have core : ∀ (b B o a z : Nat), (frc (min' b a) fun n => Option.rec (motive := fun _ => O2) .bad (fun l => asRow O2.bad (fun c lo sz fz =>
      iteB (Nat.ble (Nat.succ fz.k) 2) (iteB (Nat.beq z size) (iteB (Nat.ble lo o) (iteB (Nat.ble (Nat.add o (Nat.mul n size)) sz)
        (.ok (.i (.ofNat n)) ⟨T.put S.heap B (some (.row (wr' c o l) lo sz fz)), S.next⟩))))) (T.get S.heap B)) (src' size n x S)) =
      (frc (min b a) fun n => (match src size n x S with
      | none => O2.bad
      | some l => (match S.heap.get B with
        | some (.row c lo sz fz) => (match and (Nat.blt fz.k 2) (and (Nat.beq z size) (and (Nat.ble lo o) (Nat.ble (Nat.add o (Nat.mul n size)) sz))) with
          | true => .ok (.i (.ofNat n)) ⟨S.heap.put B (some (.row (wr c o l) lo sz fz)), S.next⟩
          | false => .bad)
        | _ => .bad))) := by
    intro b B o a z
    simp only [frc_eq, min'_eq, src'_eq]
    rcases src size (min b a) x S with _ | l
    · rfl
    show asRow O2.bad _ (T.get S.heap B) = (match T.get S.heap B with | some (.row c lo sz fz) => _ | _ => O2.bad)
    rcases T.get S.heap B with _ | (⟨c, lo, sz, fz⟩ | es) <;> first | rfl | skip
    show iteB (Nat.ble (Nat.succ fz.k) 2) (iteB (Nat.beq z size) (iteB (Nat.ble lo o) (iteB (Nat.ble (Nat.add o (Nat.mul (min b a) size)) sz) (.ok (.i (.ofNat (min b a))) ⟨T.put S.heap B (some (.row (wr' c o l) lo sz fz)), S.next⟩)))) = (match and (Nat.ble (Nat.succ fz.k) 2) (and (Nat.beq z size) (and (Nat.ble lo o) (Nat.ble (Nat.add o (Nat.mul (min b a) size)) sz))) with | true => _ | false => O2.bad)
    rw [wr'_eq]
    cases Nat.ble (Nat.succ fz.k) 2 <;> cases Nat.beq z size <;> cases Nat.ble lo o <;> cases Nat.ble (Nat.add o (Nat.mul (min b a) size)) sz <;> rfl
  unfold cpy' cpy
  rw [lenV'_eq]
  rcases lenV x with _ | b
  · rfl
  cases d <;> first | rfl | skip
  exact core _ _ _ _ _
theorem l2_app (e sz : Nat) (S : St) (l : List V) : l2 .bad (fun s x => app' e sz s x S) l = appL e sz S l := by
  rcases l with _ | ⟨x, _ | ⟨y, _ | ⟨z, l⟩⟩⟩ <;> first | rfl | exact app'_eq _ _ _ _ _
theorem l2_cpy (sz : Nat) (S : St) (l : List V) : l2 .bad (fun s x => cpy' sz s x S) l = cpyL sz S l := by
  rcases l with _ | ⟨x, _ | ⟨y, _ | ⟨z, l⟩⟩⟩ <;> first | rfl | exact cpy'_eq _ _ _ _
theorem hAppend'_eq (x : Cx) (args : List Operand) (ts : List Nat) : hAppend' P x args ts = hAppend P x args ts := by
  unfold hAppend' hAppend
  simp only [l2_app]
  rfl
theorem hCopy'_eq (x : Cx) (args : List Operand) (ts : List Nat) : hCopy' P x args ts = hCopy P x args ts := by
  unfold hCopy' hCopy
  simp only [l2_cpy]
  rfl
theorem hDelete'_eq (x : Cx) (args : List Operand) (ts : List Nat) : hDelete' P x args ts = hDelete P x args ts := by
  unfold hDelete' hDelete
  simp only [keyT'_eq]
  rfl
theorem callV'_eq (call : Caller) (args : List V) (S : St) (v : V) : callV' call args S v = callV call args S v := by
  cases v <;> first | rfl | skip
  show call _ (appL' _ (appL' _ _)) S = call _ _ S
  rw [app'L_eq, app'L_eq, List.append_assoc]
theorem hValue'_eq (x : Cx) (v : Operand) (args : List Operand) : hValue' x v args = hValue x v args := by
  unfold hValue' hValue
  have h1 : callV' = callV := by funext c a S v; exact callV'_eq c a S v
  rw [h1]; rfl
theorem hCall'_eq (x : Cx) (c : Call) : hCall' P x c = hCall P x c := by
  unfold hCall' hCall
  simp only [hValue'_eq, hAppend'_eq, hCopy'_eq, hDelete'_eq]
  rfl
theorem heavyB'_eq (x : Cx) (o : Op) : heavyB' P x o = heavyB P x o := by
  unfold heavyB' heavyB
  simp only [hAlloc'_eq, hBox'_eq, hBuildSl'_eq, hStore'_eq, hMakeSl'_eq, hConv'_eq, hMapUp'_eq, hCall'_eq]
  rfl
theorem guardB'_eq (x : Cx) (ops : List Oper) (go skip : Cont) (g : Option (Nat × Bool)) : guardB' x ops go skip g = guardB x ops go skip g := by
  cases g with
  | none => rfl
  | some q =>
    obtain ⟨i, b⟩ := q
    unfold guardB' guardB
    dsimp only
    rcases nth ops i with _ | o
    · rfl
    show (match o.dst with | none => _ | some d => (match x.tmp d with | .no => _ | .mk g => _)) = (match o.dst with | none => _ | some d => (match x.tmp d with | .no => _ | .mk g => _))
    rcases o.dst with _ | d
    · rfl
    show (match x.tmp d with | .no => _ | .mk g => _) = (match x.tmp d with | .no => _ | .mk g => _)
    cases x.tmp d <;> first | rfl | skip
    rename_i g
    cases b <;> (show Box.mk _ = Box.mk _; congr 1; funext c L F S; cases g L F <;> first | rfl | (rename_i b; cases b <;> rfl))
theorem opB'_eq (x : Cx) (ops : List Oper) (o : Oper) (k : Cont) : opB' P x ops o k = opB P x ops o k := by
  unfold opB' opB
  simp only [lightB'_eq, heavyB'_eq, guardB'_eq]
  rfl
theorem opsB'_eq (nt U : Nat) (all : List Oper) : ∀ (l : List Oper) (loc : List (Option Nat)), opsB' P nt U all loc l = opsB P nt U all loc l
  | [], _ => rfl
  | o :: r, loc => by
    simp only [opsB', opsB, opsB'_eq nt U all r, opB'_eq]
    rfl
theorem guardG'_some (x : Cx) (all : List Oper) (q : Nat × Bool) : guardG' x all (some q) = guardG x all (some q) := by
  obtain ⟨i, b⟩ := q
  unfold guardG' guardG
  dsimp only
  rcases nth all i with _ | o
  · rfl
  show (match o.dst with | none => _ | some d => (match x.tmp d with | .no => _ | .mk g => _)) = (match o.dst with | none => _ | some d => (match x.tmp d with | .no => _ | .mk g => _))
  rcases o.dst with _ | d
  · rfl
  show (match x.tmp d with | .no => _ | .mk g => _) = (match x.tmp d with | .no => _ | .mk g => _)
  cases x.tmp d <;> first | rfl | skip
  rename_i g
  cases b <;> (show Box.mk _ = Box.mk _; congr 1; funext L F; cases g L F <;> first | rfl | (rename_i b; cases b <;> rfl))
theorem lightG'_eq (x : Cx) (all : List Oper) (o : Oper) : lightG' P x all o = lightG P x all o := by
  unfold lightG' lightG
  rw [lightB'_eq]
  cases lightB P x o.op <;> first | rfl | skip
  rename_i s
  simp only
  cases o.guard with
  | none => rfl
  | some q =>
    simp only [guardG'_some]
    cases guardG x all (some q) <;> first | rfl | skip
    rename_i g
    show Box.mk _ = Box.mk _
    congr 1
    funext L F S
    rcases g L F with _ | (_ | _) <;> rfl
theorem heavyG'_eq (x : Cx) (all : List Oper) (o : Oper) : heavyG' P x all o = heavyG P x all o := by
  unfold heavyG' heavyG
  rw [heavyB'_eq]
  cases heavyB P x o.op <;> first | rfl | skip
  rename_i s
  simp only
  cases o.guard with
  | none => rfl
  | some q =>
    simp only [guardG'_some]
    cases guardG x all (some q) <;> first | rfl | skip
    rename_i g
    show Box.mk _ = Box.mk _
    congr 1
    funext c L F S
    rcases g L F with _ | (_ | _) <;> rfl
theorem again'_eq (x : Cx) (all : List Oper) (o : Oper) : again' P x all o = again P x all o := by
  unfold again' again
  rw [lightG'_eq]
  cases lightG P x all o <;> first | rfl | skip
  rename_i s
  simp only
  cases o.dst with
  | none =>
    show Box.mk _ = Box.mk _
    congr 1
    funext L F S
    cases s L F S <;> rfl
  | some d =>
    simp only
    cases x.tmp d <;> first | rfl | skip
    show Box.mk _ = Box.mk _
    congr 1
    funext L F S
    cases s L F S <;> rfl
theorem agains'_eq (x : Cx) (all : List Oper) (m : Nat) : ∀ l, agains' P x all m l = agains P x all m l
  | [] => rfl
  | i :: r => by
    simp only [agains', agains, agains'_eq x all m r, again'_eq]
    cases agains P x all m r <;> first | rfl | skip
    simp only
    cases tstB m i <;> first | rfl | skip
    simp only
    cases nth all i <;> first | rfl | skip
    simp only
    rename_i f o
    cases again P x all o <;> first | rfl | skip
    rename_i g
    show Box.mk _ = Box.mk _
    congr 1
    funext L F S
    cases g L F S <;> rfl
theorem frCont'_eq (f : Frs) (chk : Chk) (put : Fr → V → Fr) (k : Cont) : frCont' f chk put k = frCont f chk put k := by
  funext c L F S
  unfold frCont' frCont
  rcases f L F with _ | q
  · rfl
  simp only [frc_eq]
  cases chk (q.2 S.next :: L) (put F (q.2 S.next)) ⟨T.put S.heap S.next (some q.1), Nat.succ S.next⟩ <;> rfl
theorem ltCont'_eq (s : Light) (pre chk : Chk) (put : Fr → V → Fr) (k : Cont) : ltCont' s pre chk put k = ltCont s pre chk put k := by
  funext c L F S
  unfold ltCont' ltCont
  rcases s L F S with _ | v
  · rfl
  simp only
  cases pre L F S <;> first | rfl | skip
  cases chk (v :: L) (put F v) S <;> rfl
theorem hvCont'_eq (s : Step) (pre chk : Chk) (put : Fr → V → Fr) (k : Cont) : hvCont' s pre chk put k = hvCont s pre chk put k := by
  funext c L F S
  unfold hvCont' hvCont
  rcases s c L F S with _ | ⟨v, S'⟩
  · rfl
  simp only
  cases pre L F S <;> first | rfl | skip
  cases chk (v :: L) (put F v) S' <;> rfl
theorem soon'_eq (x : Cx) (all : List Oper) (ms : List Nat) (D p : Nat) (ln : List Nat) : soon' P x all ms D p ln = soon P x all ms D p ln := by
  unfold soon' soon
  simp only [agains'_eq]
  cases nth all p <;> first | rfl | skip
  rename_i o
  simp only
  cases nth ms p <;> first | rfl | skip
  rename_i m
  simp only
  cases or (tstB D p) (not (subM m D)) <;> first | rfl | skip
  simp only
  cases frG P x o <;> first | rfl | skip
  simp only
  cases agains P x all 0 ln <;> first | rfl | skip
  rename_i f g
  show Box.mk _ = Box.mk _
  congr 1
  funext L F S
  cases f L F <;> rfl
theorem lightK_eq (s : Light) (put : Fr → V → Fr) (k : Cont) : (fun (c : Caller) (L : List V) (F : Fr) (S : St) => Option.rec (motive := fun _ => R) .bad (fun v => k c (v :: L) (put F v) S) (s L F S)) = (fun c L F S => match s L F S with | some v => k c (v :: L) (put F v) S | none => .bad) := by
  funext c L F S
  cases s L F S <;> rfl
theorem opsD'_eq (nt U : Nat) (all : List Oper) (ms : List Nat) (p : Nat) : ∀ (l : List Nat) (loc : List (Option Nat)) (ln : List Nat) (D : Nat), opsD' P nt U all ms p loc ln D l = opsD P nt U all ms p loc ln D l
  | [], _, _, _ => rfl
  | i :: r, loc, ln, D => by
    simp only [opsD', opsD, opsD'_eq nt U all ms p r, lightG'_eq, heavyG'_eq, agains'_eq, soon'_eq, frCont'_eq, ltCont'_eq, hvCont'_eq, lightK_eq]
    rfl
theorem drawB'_eq (nt U : Nat) (all : List Oper) : drawB' P nt U all = drawB P nt U all := by
  unfold drawB' drawB
  simp only [opsD'_eq]
  rfl
theorem den'_eq (nt U : Nat) (c : Code) : den' P nt U c = den P nt U c := by
  induction c with
  | region n ops draw =>
    show (match (match draw with | false => opsB' P nt U ops.toList [] ops.toList | true => drawB' P nt U ops.toList) with | .no => _ | .mk f => _) = (match (match draw with | false => opsB P nt U ops.toList [] ops.toList | true => drawB P nt U ops.toList) with | .no => _ | .mk f => _)
    rw [opsB'_eq, drawB'_eq]
  | seq a b iha ihb =>
    show (match den' P nt U a with | .no => _ | .mk f => (match den' P nt U b with | .no => _ | .mk g => _)) = (match den P nt U a with | .no => _ | .mk f => (match den P nt U b with | .no => _ | .mk g => _))
    rw [iha, ihb]
  | cond x a b iha ihb =>
    show (match (Cx.mk nt U []).ev x with | .no => _ | .mk e => (match den' P nt U a with | .no => _ | .mk f => (match den' P nt U b with | .no => _ | .mk g => _))) = (match (Cx.mk nt U []).ev x with | .no => _ | .mk e => (match den P nt U a with | .no => _ | .mk f => (match den P nt U b with | .no => _ | .mk g => _)))
    rw [iha, ihb]
    cases (Cx.mk nt U []).ev x <;> first | rfl | skip
    cases den P nt U a <;> first | rfl | skip
    cases den P nt U b <;> first | rfl | skip
    rename_i e f g
    show Box.mk _ = Box.mk _
    congr 1
    funext c F S
    show Option.rec (motive := fun _ => R) .bad (fun b => Bool.rec (motive := fun _ => R) (g c F S) (f c F S) b) (asB (e [] F)) = (match e [] F with | .b true => f c F S | .b false => g c F S | _ => .bad)
    cases e [] F <;> first | rfl | (rename_i b; cases b <;> rfl)
  | block id a iha =>
    show (match den' P nt U a with | .no => _ | .mk f => _) = (match den P nt U a with | .no => _ | .mk f => _)
    rw [iha]
    cases den P nt U a <;> first | rfl | skip
    rename_i f
    show Box.mk _ = Box.mk _
    congr 1
    funext c F S
    show R.rec (motive := fun _ => R) _ _ _ _ _ = R.rec (motive := fun _ => R) _ _ _ _ _
    cases f c F S <;> first | rfl | skip
    rename_i j F' S'
    show Bool.rec (motive := fun _ => R) (.exit j F' S') (.norm F' S') (Nat.beq j id) = (match Nat.beq j id with | true => _ | false => _)
    cases Nat.beq j id <;> rfl
  | loop a iha =>
    show (match den' P nt U a with | .no => _ | .mk f => _) = (match den P nt U a with | .no => _ | .mk f => _)
    rw [iha]
  | _ => rfl
theorem resB'_eq (nt U : Nat) : ∀ l, resB' P nt U l = resB P nt U l
  | [] => rfl
  | .tmp t :: r => by
    simp only [resB', resB, resB'_eq nt U r]
    cases (Cx.mk nt U []).tmp t <;> first | rfl | skip
    simp only
    cases resB P nt U r <;> first | rfl | skip
    rename_i f g
    show Box.mk _ = Box.mk _
    congr 1
    funext F S
    cases g F S <;> rfl
  | .cell a t :: r => by
    simp only [resB', resB, resB'_eq nt U r]
    cases (Cx.mk nt U []).tmp a <;> first | rfl | skip
    simp only
    cases isAg P t <;> first | rfl | skip
    simp only
    cases szB P t <;> first | rfl | skip
    simp only
    cases resB P nt U r <;> first | rfl | skip
    rename_i f ag n g
    simp only
    cases or ag (Nat.beq n 1) <;> first | rfl | skip
    show Box.mk _ = Box.mk _
    congr 1
    funext F S
    rcases ldv ag n (f [] F) S with _ | v
    · rfl
    show Option.rec (motive := fun _ => Option (List V)) none _ (g F S) = (match g F S with | some l => _ | none => none)
    cases g F S <;> rfl
theorem tup'_eq (l : List V) : tup' l = tup l := by
  rcases l with _ | ⟨x, _ | ⟨y, l⟩⟩ <;> rfl
theorem fin'_eq (g : Fr → St → Option (List V)) (F : Fr) (S : St) : fin' g F S = fin g F S := by
  unfold fin' fin
  cases g F S with
  | none => rfl
  | some l => show O2.ok (tup' l) S = _; rw [tup'_eq]
theorem argsB_some : ∀ (n k : Nat), k + n = 257 → 0 < n → ∃ g, argsB n k = .mk g ∧ ∀ l F, g l F = match argsIn k l F with | .no => none | .mk F => some F
  | 0, k, _, h => by omega
  | n + 1, k, h, _ => by
    simp only [argsB]
    cases hs : setB k with
    | no =>
      refine ⟨_, rfl, fun l F => ?_⟩
      cases l with
      | nil => rfl
      | cons v l => simp only [argsIn, hs]
    | mk f =>
      by_cases hn : 0 < n
      · obtain ⟨g, e, hg⟩ := argsB_some n (k + 1) (by omega) hn
        simp only [e]
        refine ⟨_, rfl, fun l F => ?_⟩
        cases l with
        | nil => rfl
        | cons v l => simp only [argsIn, hs]; exact hg l (f F v)
      · have hk : k = 256 := by omega
        subst hk
        exfalso
        have : setB 256 = .no := rfl
        rw [this] at hs; cases hs
set_option maxRecDepth 10000 in
theorem argsAll_some : ∃ g, argsAll = .mk g ∧ ∀ l F, g l F = match argsIn 0 l F with | .no => none | .mk F => some F := argsB_some 257 0 rfl (Nat.succ_pos _)
theorem funB'_eq (fn : Func) (c : Code) : funB' P fn c = funB P fn c := by
  unfold funB' funB
  cases Nat.ble fn.ntmps 256 with
  | false => rfl
  | true =>
    simp only [frc_eq, den'_eq, resB'_eq]
    cases den P fn.ntmps (useR fn.results.toList (useC c 0)) c with
    | no => simp only
    | mk b =>
      simp only
      cases resB P fn.ntmps (useR fn.results.toList (useC c 0)) fn.results.toList with
      | no => simp only
      | mk g =>
        obtain ⟨ar, e, h⟩ := argsAll_some
        rw [e]
        have key : ∀ (call : Caller) (args : List V) (S : St), (Bool.rec (motive := fun _ => O2) .bad (Option.rec (motive := fun _ => O2) .bad (fun F => R.rec (motive := fun _ => O2) .bad (fun F S => fin' g F S) (fun _ _ _ => .bad)
            (fun F S => fin' g F S) (b call F S)) (ar args Fr.none)) (Nat.ble (len' args) fn.ntmps) : O2) = (match Nat.ble args.length fn.ntmps with
        | false => O2.bad
        | true => match argsIn 0 args Fr.none with
        | .no => .bad
        | .mk F => R.rec (motive := fun _ => O2) .bad (fun F S => fin g F S) (fun _ _ _ => .bad)
            (fun F S => fin g F S) (b call F S)) := by
          intro call args S
          rw [len'_eq, h]
          cases Nat.ble args.length fn.ntmps with
          | false => rfl
          | true =>
            cases argsIn 0 args Fr.none with
            | no => rfl
            | mk F =>
              have hf : fin' g = fin g := by funext F S; exact fin'_eq g F S
              rw [hf]
        exact congrArg Box.mk (funext fun call => funext fun args => funext fun S => key call args S)
theorem bodyB'_eq (N : Natives) (f : Nat) : bodyB' P N f = bodyB P N f := by
  unfold bodyB' bodyB
  cases N f with
  | some g => rfl
  | none =>
    dsimp only
    cases P.funcs[f]? with
    | none => rfl
    | some fn =>
      dsimp only
      cases fn.body with
      | none => rfl
      | some c => exact funB'_eq P fn c
theorem callN'_eq (N : Natives) : ∀ n, callN' P N n = callN P N n
  | 0 => rfl
  | n + 1 => by
    funext f args S
    have e1 : callN' P N (n + 1) f args S = Box.rec (motive := fun _ => O2) .bad (fun b => b (callN' P N n) args S) (bodyB' P N f) := rfl
    have e2 : callN P N (n + 1) f args S = (match bodyB P N f with | .no => O2.bad | .mk b => b (callN P N n) args S) := rfl
    rw [e1, e2, callN'_eq N n, bodyB'_eq]
    cases bodyB P N f with
    | no => rfl
    | mk b => rfl
end Go.Xf
