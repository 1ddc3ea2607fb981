/-
  THE CHECK SUM BY A TABLE, AND THE FUNCTIONS TAKEN BY A CONTRACT IN A QUICKER FORM: the very same.
-/
import Derived.Test.YtnjfkicalpbiaaaGreatDoorNat1
import Derived.Test.YtnjfkicalpbiaaaGreatDoorXeFastD
import Derived.KernelRfl
set_option linter.unusedVariables false
set_option linter.unusedSimpArgs false
set_option linter.unnecessarySimpa false
namespace Go.Xf
open Go.Xe
noncomputable section
def crcTab : Nat := 191781931866985559621651535760735696673856346713887891597305215034209910220001862487342664719235424489376241530245261416506414575980417952467156150107317449804134056257716516419112328720131160031456481696823125446157373092479201248890302123815375087579814780306302465238014574686590130429322061672822152808302584144548153239526865349163683956765968513272069020595772598256391810863039343892818777390988989484387641140032565380688427043259765038805963005205961532183550801462253286244137065761003679520439085992511812747153023950988237051482297475963397445683294857871623710491443494995887883262049609400235784616301914504614852100915093667425320505522569448617573499542922012206538552994923376999879042244179649278486539688567765080810044274289792776818305348943521622626710878290771699129542630700634428853941830696095884539637866540751870989118613898226745049792152623499445281592614081205541985653143393913751853573884386717370504757525450126884015918318526676861728753890367452704650663987939986219768247293259525516712103938189788961727671665583423846301460611946049409459047739687307696235742781609353855728368690241567495209394945831800246045226053014789794812648147087782064443448838513940732911263420963033260564074243893655912557635729647410566500980880275296686932139551470048159522442188851388406016990108609539131275206406529452392139356697170450224378375281123940131103967815428442222478921241843802992958207175757710557124203243943652857525217714700783116853765558053940146905689184430570662124197438683992896538427266983469967391681636142474704834532560212491641513769109191453119295486434232583946536159882324212284713050838488706228253289835044432504923553683244983660554148621837806481305441008673570324340892415493266799132762194172577680912505944139402575723473831901219655706623634449032441308172682686423497289006274475542693850888413509354855109888442809400614039731828034881315553093408757249612302925815547436960120920974901163960048042280802561087650605423221541518940157925281902321885507580234243366499257305095335897959299004866716736669236430206354864789374467091307116826402984124475471120986056028650311289461216452641219222976814212486281160700097480526596597474635034066400713689500662174516288603424994162219769371242282901951357062625582355266271642761008964271320703341335927815387129432557369825457457303399345465981718607329281771814792602549895867734643022520164827992332349645685502120161683551602918412611264947206183976960
def crcS' (l n x : Nat) : Nat :=
  Nat.rec (motive := fun _ => Nat → Nat → Nat) (fun _ x => x)
    (fun _ ih n x => frc (Nat.xor x (Nat.land n 255)) fun y => frc (Nat.xor (Nat.shiftRight y 8) (Nat.land (Nat.shiftRight crcTab (Nat.mul 32 (Nat.land y 255))) 4294967295)) fun z => ih (Nat.shiftRight n 8) z) l n x
def crcL' (l : List V) (x : Nat) : Option Nat :=
  List.rec (motive := fun _ => Nat → Option Nat) (fun x => some x)
    (fun v _ ih x => W.rec (motive := fun _ => Option Nat) (fun _ => none) (fun _ _ => none) (fun l n => iteO (Nat.ble l 4294967296) (frc (crcS' l n x) ih)) none (vw v)) l x
def symOf (l : List V) (S : St) : O2 := match txtsBy l with
  | some q => .ok (mkNum .u32 [.crc 0 q, .crc 1 q, .crc 2 q, .crc 3 q]) S
  | none => .bad
def sumOf' (args : List V) (S : St) : O2 :=
  List.rec (motive := fun _ => O2) .bad (fun v r _ => List.rec (motive := fun _ => O2)
    (asSl .bad (.ok (.k .u32 0) S) (fun B o n z => iteB (Nat.beq z 1) (asRow .bad (fun c lo sz _ => iteB (Nat.ble lo o) (iteB (Nat.ble (Nat.add o n) sz) (iteB (Nat.ble n 1000000)
      (Option.rec (motive := fun _ => O2) .bad (fun l => Option.rec (motive := fun _ => O2) (symOf l S) (fun x => frc (Nat.xor 4294967295 x) fun y => .ok (.k .u32 (.ofNat y)) S) (crcL' l 4294967295)) (rd' c n o))))) (T.get S.heap B))) v)
    (fun _ _ _ => .bad) r) args
def cloneS' (args : List V) (S : St) : O2 :=
  List.rec (motive := fun _ => O2) .bad (fun v r _ => List.rec (motive := fun _ => O2)
    (W.rec (motive := fun _ => O2) (fun _ => .bad) (fun _ _ => .bad) (fun l n => iteB (Nat.ble l 1000000000) (.ok (.s l n) S)) (cloneS [v] S) (vw v))
    (fun _ _ _ => .bad) r) args
end
-- THE TABLE
theorem bit_xor (a b : Nat) : crcBit (a ^^^ b) = crcBit a ^^^ crcBit b := by
  show ((a ^^^ b) >>> 1) ^^^ (3988292384 * ((a ^^^ b) &&& 1)) = ((a >>> 1) ^^^ (3988292384 * (a &&& 1))) ^^^ ((b >>> 1) ^^^ (3988292384 * (b &&& 1)))
  rw [Nat.shiftRight_xor_distrib, Nat.and_xor_distrib_right]
  have ha : a &&& 1 = 0 ∨ a &&& 1 = 1 := by rw [Nat.and_one_is_mod]; omega
  have hb : b &&& 1 = 0 ∨ b &&& 1 = 1 := by rw [Nat.and_one_is_mod]; omega
  have e : ∀ x y p q : Nat, (x ^^^ y) ^^^ (p ^^^ q) = (x ^^^ p) ^^^ (y ^^^ q) := fun x y p q => by
    rw [Nat.xor_assoc, Nat.xor_assoc, ← Nat.xor_assoc y, Nat.xor_comm y p, Nat.xor_assoc p]
  rcases ha with h | h <;> rcases hb with h' | h' <;> rw [h, h'] <;> rw [e] <;> simp
theorem bit_even (z : Nat) : crcBit (2 * z) = z := by
  show ((2 * z) >>> 1) ^^^ (3988292384 * ((2 * z) &&& 1)) = z
  rw [Nat.and_one_is_mod, Nat.shiftRight_eq_div_pow]
  have h1 : 2 * z % 2 = 0 := by omega
  have h2 : 2 * z / 2 ^ 1 = z := by omega
  rw [h1, h2]; simp
def bit8 (y : Nat) : Nat := crcBit (crcBit (crcBit (crcBit (crcBit (crcBit (crcBit (crcBit y)))))))
theorem bit8_xor (a b : Nat) : bit8 (a ^^^ b) = bit8 a ^^^ bit8 b := by simp only [bit8, bit_xor]
theorem bit8_high (z : Nat) : bit8 (256 * z) = z := by
  have : 256 * z = 2 * (2 * (2 * (2 * (2 * (2 * (2 * (2 * z))))))) := by omega
  unfold bit8
  rw [this]
  simp only [bit_even]
def tabAt (y : Nat) : Nat := Nat.land (Nat.shiftRight crcTab (Nat.mul 32 y)) 4294967295
theorem tab_all : ((List.range 256).all fun y => Nat.beq (tabAt y) (bit8 y)) = true := by kernel_rfl
theorem tab_eq (y : Nat) (h : y < 256) : tabAt y = bit8 y := by
  have := List.all_eq_true.1 tab_all y (List.mem_range.2 h)
  exact Nat.eq_of_beq_eq_true this
theorem split8 (y : Nat) : y = (256 * (y / 256)) ^^^ (y % 256) := by
  apply Nat.eq_of_testBit_eq
  intro i
  rw [Nat.testBit_xor, show 256 * (y / 256) = 2 ^ 8 * (y / 2 ^ 8) from rfl, show y % 256 = y % 2 ^ 8 from rfl, Nat.testBit_mod_two_pow, Nat.testBit_two_pow_mul, Nat.testBit_div_two_pow]
  by_cases h : i < 8
  · have : ¬ (8 ≤ i) := by omega
    simp [h, this]
  · have h' : 8 ≤ i := by omega
    have : i - 8 + 8 = i := by omega
    simp [h, h', this]
theorem bit8_tab (y : Nat) : Nat.xor (Nat.shiftRight y 8) (tabAt (Nat.land y 255)) = bit8 y := by
  have e : Nat.land y 255 = y % 256 := land255 y
  rw [e, tab_eq _ (Nat.mod_lt _ (by omega))]
  have h : bit8 y = bit8 ((256 * (y / 256)) ^^^ (y % 256)) := by rw [← split8]
  rw [h, bit8_xor, bit8_high, show Nat.shiftRight y 8 = y / 256 from Nat.shiftRight_eq_div_pow y 8]
  rfl
theorem crcS'_eq : ∀ l n x : Nat, crcS' l n x = crcS l n x
  | 0, _, _ => rfl
  | l + 1, n, x => by
    show frc (Nat.xor x (Nat.land n 255)) (fun y => frc (Nat.xor (Nat.shiftRight y 8) (tabAt (Nat.land y 255))) fun z => crcS' l (Nat.shiftRight n 8) z) = _
    rw [frc_eq, frc_eq, crcS'_eq l, bit8_tab, land255, show Nat.shiftRight n 8 = Nat.div n 256 from Nat.shiftRight_eq_div_pow n 8]
    simp only [crcS, frc_eq]
    rfl
theorem crcL'_eq : ∀ (l : List V) (x : Nat), crcL' l x = crcL l x
  | [], _ => rfl
  | v :: l, x => by
    cases v <;> first | rfl | skip
    rename_i k n
    show iteO (Nat.ble k 4294967296) (frc (crcS' k n x) (crcL' l)) = _
    rw [frc_eq, crcS'_eq, crcL'_eq l]
    simp only [crcL, frc_eq]
    cases Nat.ble k 4294967296 <;> rfl
theorem sumOf'_eq (args : List V) (S : St) : sumOf' args S = sumOf args S := by
  rcases args with _ | ⟨v, _ | ⟨w, r⟩⟩
  · rfl
  · cases v <;> first | rfl | skip
    rename_i B o n z
    show iteB (Nat.beq z 1) (asRow .bad (fun c lo sz _ => iteB (Nat.ble lo o) (iteB (Nat.ble (Nat.add o n) sz) (iteB (Nat.ble n 1000000)
      (Option.rec (motive := fun _ => O2) .bad (fun l => Option.rec (motive := fun _ => O2) (symOf l S) (fun x => frc (Nat.xor 4294967295 x) fun y => .ok (.k .u32 (.ofNat y)) S) (crcL' l 4294967295)) (rd' c n o))))) (T.get S.heap B)) = _
    by_cases h : z = 1
    · subst h
      show asRow .bad _ (T.get S.heap B) = (match T.get S.heap B with | some (.row c lo sz _) => _ | _ => O2.bad)
      rcases T.get S.heap B with _ | (⟨c, lo, sz, fz⟩ | es) <;> first | rfl | skip
      show iteB (Nat.ble lo o) (iteB (Nat.ble (Nat.add o n) sz) (iteB (Nat.ble n 1000000) _)) = (match and (Nat.ble lo o) (and (Nat.ble (Nat.add o n) sz) (Nat.ble n 1000000)) with | true => _ | false => O2.bad)
      rw [rd'_eq]
      cases Nat.ble lo o <;> first | rfl | skip
      cases Nat.ble (Nat.add o n) sz <;> first | rfl | skip
      cases Nat.ble n 1000000 <;> first | rfl | skip
      show Option.rec (motive := fun _ => O2) .bad _ (rd c n o) = (match rd c n o with | some l => _ | none => O2.bad)
      rcases rd c n o with _ | l
      · rfl
      show Option.rec (motive := fun _ => O2) (symOf l S) _ (crcL' l 4294967295) = (match crcL l 4294967295 with | some x => _ | none => symOf l S)
      rw [crcL'_eq]
      cases crcL l 4294967295 <;> rfl
    · have h1 : Nat.beq z 1 = false := by rw [nbeq]; simp [h]
      rw [h1]
      unfold sumOf
      split
      · rename_i e; cases e
      · rename_i e; cases e; exact absurd rfl h
      · rfl
  · unfold sumOf
    split
    · rename_i e; cases e
    · rename_i e; cases e
    · rfl
theorem cloneS'_eq (args : List V) (S : St) : cloneS' args S = cloneS args S := by
  rcases args with _ | ⟨v, _ | ⟨w, r⟩⟩
  · rfl
  · cases v <;> first | rfl | skip
    rename_i l n
    show iteB (Nat.ble l 1000000000) _ = (match Nat.ble l 1000000000 with | true => _ | false => O2.bad)
    rw [iteB_eq]; rfl
  · cases v <;> first | rfl | (rename_i t; cases t <;> rfl)
noncomputable section
def natives' (fsum frep fclo fesc : Nat) : Natives := fun f =>
  Bool.rec (motive := fun _ => Option (List V → St → O2)) (Bool.rec (motive := fun _ => Option (List V → St → O2)) (Bool.rec (motive := fun _ => Option (List V → St → O2)) (Bool.rec (motive := fun _ => Option (List V → St → O2)) none (some sameP) (Nat.beq f fesc)) (some cloneS') (Nat.beq f fclo)) (some repeatS) (Nat.beq f frep)) (some sumOf') (Nat.beq f fsum)
end
theorem natives'_eq (a b c d : Nat) : natives' a b c d = natives a b c d := by
  have h1 : sumOf' = sumOf := by funext x S; exact sumOf'_eq x S
  have h2 : cloneS' = cloneS := by funext x S; exact cloneS'_eq x S
  funext f
  unfold natives' natives
  rw [h1, h2]
  cases Nat.beq f a <;> first | rfl | skip
  cases Nat.beq f b <;> first | rfl | skip
  cases Nat.beq f c <;> first | rfl | skip
  cases Nat.beq f d <;> rfl
end Go.Xf
