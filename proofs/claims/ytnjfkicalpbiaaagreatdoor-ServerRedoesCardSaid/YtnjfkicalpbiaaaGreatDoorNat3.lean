/-
  slices.Sorted(maps.Keys(m)) at keys of the kind int: what the executor does in its place. (definitions alone)
-/
import Derived.Test.YtnjfkicalpbiaaaGreatDoorNat1
set_option linter.unusedVariables false
set_option linter.unusedSimpArgs false
set_option linter.unnecessarySimpa false
namespace Go.Xe
noncomputable section
def keysOf : List (V × V) → Option (List Int)
  | [] => some []
  | p :: r => (match p.1 with
    | .i k => (match keysOf r with | some l => some (k :: l) | none => none)
    | _ => none)
def insK (k : Int) : List Int → List Int
  | [] => [k]
  | x :: l => (match ile k x with | true => k :: x :: l | false => x :: insK k l)
def sortK : List Int → List Int
  | [] => []
  | k :: l => insK k (sortK l)
def memI (k : Int) : List Int → Bool
  | [] => false
  | x :: l => or (ieq x k) (memI k l)
def nodupI : List Int → Bool
  | [] => true
  | x :: l => and (not (memI x l)) (nodupI l)
def midI : List Int → Bool
  | [] => true
  | x :: l => and (mid x) (midI l)
/-- fk: the iterator that maps.Keys hands back; ty: the type of the keys -/
def sortedS (fk ty : Nat) (args : List V) (S : St) : O2 :=
  match args with
  | [.f g [] [.p Bc o]] => (match and (Nat.beq g fk) (Nat.beq o 0) with
    | true => (match ldv false 1 (.p Bc o) S with
      | some (.m B) => (match S.heap.get B with
        | some (.mp es) => (match Nat.blt es.length 1000000 with
          | true => (match keysOf es with
            | some [] => .ok .nils S
            | some (k :: l) => (match and (midI (k :: l)) (nodupI (k :: l)) with
              | true => mkRow ((sortK (k :: l)).map .i) ⟨0, ty⟩ S fun B S => .ok (.sl B 0 (sortK (k :: l)).length 1) S
              | false => .bad)
            | none => .bad)
          | false => .bad)
        | _ => .bad)
      | _ => .bad)
    | false => .bad)
  | _ => .bad
def withSorted (N : Natives) (fs fk ty : Nat) : Natives := fun f => match Nat.beq f fs with
  | true => some (sortedS fk ty)
  | false => N f
end
/-- does a run end in 'true'? -/
def isT : O2 → Bool
  | .ok (.b true) _ => true
  | _ => false
end Go.Xe
