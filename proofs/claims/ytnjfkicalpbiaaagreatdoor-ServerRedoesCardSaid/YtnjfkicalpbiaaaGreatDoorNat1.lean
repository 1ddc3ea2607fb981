/-
  FUNCTIONS TAKEN BY A CONTRACT: what the executor does in their place. (definitions alone)
-/
import Derived.Test.YtnjfkicalpbiaaaGreatDoorXeDef
set_option linter.unusedVariables false
set_option linter.unusedSimpArgs false
set_option linter.unnecessarySimpa false
namespace Go.Xe
noncomputable section
def crcS : Nat → Nat → Nat → Nat
  | 0, _, x => x
  | l + 1, n, x => frc (crcByte x (Nat.mod n 256)) fun y => crcS l (Nat.div n 256) y
def crcL : List V → Nat → Option Nat
  | [], x => some x
  | .s l n :: r, x => (match Nat.ble l 4294967296 with | true => frc (crcS l n x) fun y => crcL r y | false => none)
  | _, _ => none
/-- the bytes of texts -/
def txtsBy : List V → Option (List By)
  | [] => some []
  | v :: r => (match txtBy v with
    | some l => (match Nat.ble l.length 4294967296 with
      | true => (match txtsBy r with | some q => some (l ++ q) | none => none)
      | false => none)
    | none => none)
def sumOf (args : List V) (S : St) : O2 :=
  match args with
  | [.nils] => .ok (.k .u32 0) S
  | [.sl B o n 1] => (match S.heap.get B with
    | some (.row c lo sz _) => (match and (Nat.ble lo o) (and (Nat.ble (Nat.add o n) sz) (Nat.ble n 1000000)) with
      | true => (match rd c n o with
        | some l => (match crcL l 4294967295 with
          | some x => frc (Nat.xor 4294967295 x) fun y => .ok (.k .u32 (.ofNat y)) S
          | none => (match txtsBy l with
            | some q => .ok (mkNum .u32 [.crc 0 q, .crc 1 q, .crc 2 q, .crc 3 q]) S
            | none => .bad))
        | none => .bad)
      | false => .bad)
    | _ => .bad)
  | _ => .bad
def repS (l n : Nat) : Nat → Nat
  | 0 => 0
  | k + 1 => sCat l n (repS l n k)
def repeatS (args : List V) (S : St) : O2 :=
  match args with
  | [.s l n, .i (.ofNat k)] => frc (Nat.mul k l) fun kl => (match and (Nat.ble k 1000000000) (Nat.ble kl 1000000000) with
    | true => frc (match n with | 0 => 0 | n => repS l n k) fun m => .ok (.s kl m) S
    | false => .bad)
  | _ => .bad
def cloneS (args : List V) (S : St) : O2 :=
  match args with
  | [.s l n] => (match Nat.ble l 1000000000 with | true => .ok (.s l n) S | false => .bad)
  | [.y (.txt l)] => (match Nat.ble l.length 1000000000 with | true => .ok (.y (.txt l)) S | false => .bad)
  | _ => .bad
def sameP (args : List V) (S : St) : O2 :=
  match args with
  | [.p B o] => .ok (.p B o) S
  | _ => .bad
/-- the table: each function's number, and what it is -/
def natives (fsum frep fclo fesc : Nat) : Natives := fun f =>
  match Nat.beq f fsum with
  | true => some sumOf
  | false => match Nat.beq f frep with
    | true => some repeatS
    | false => match Nat.beq f fclo with
      | true => some cloneS
      | false => match Nat.beq f fesc with
        | true => some sameP
        | false => none
end
end Go.Xe
