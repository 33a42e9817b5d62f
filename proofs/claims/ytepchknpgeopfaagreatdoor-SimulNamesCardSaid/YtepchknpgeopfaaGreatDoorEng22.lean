/-
  THE ENGINE, part 22: words for the terms that a program of mine prints of each function.
-/
import Derived.Test.YtepchknpgeopfaaGreatDoorEng21
set_option linter.unusedVariables false
set_option linter.unusedSimpArgs false
namespace Go.Proofs.YtepchknpgeopfaaGreatDoor.E
open Go

/-- By the way out. -/
def exK {β : Type} (e : Ex) (n r : M β) (x : Nat → M β) : M β :=
  match e with
  | .normal => n
  | .ret => r
  | .exit j => x j

/-- A method of what an interface holds. -/
def invV (P : Program) (call : CallF) (name : String) (r : Value) (args : List Value) : M Value :=
  match r with
  | .iface t v => (match methP P t name with
    | some f => call f (v :: args)
    | none => M.fail)
  | _ => M.fail

/-- A map made with a number told: the number must be one. -/
def makeMapV (alc : Option Nat) (x : Value) : M Value :=
  match (match x with | .int _ _ => true | _ => false) with
  | true => M.bind (newAt alc (.map [] [] 0)) fun b => M.pure (.map (some b))
  | false => M.fail

/-- A struct or an array out of its parts. -/
def buildM (P : Program) (t : TypeId) (parts : List (Nat × Value)) : M Value :=
  match zeroL P t, places P t parts with
  | some z, some ps => if placesOk P t = true then M.lift ((fillP z ps).map fun cs => .agg cs.toArray) else M.fail
  | _, _ => M.fail

/-- A slice out of its parts. -/
def buildSliceM (P : Program) (alc : Option Nat) (t : TypeId) (n : Nat) (parts : List (Nat × Value)) : M Value :=
  match elemOfSl P t with
  | some e => (match zeroL P e, places P t parts with
    | some z, some ps => if n * P.cellsOf e ≤ 2 ^ 24 ∧ z.length = P.cellsOf e then (match fillP (List.replicate n z).flatten ps with
      | some cs => M.bind (newRow alc e cs) fun b => M.pure (.slice (some ⟨b, 0, none⟩) n n)
      | none => M.fail) else M.fail
    | _, _ => M.fail)
  | none => M.fail

def convInt (k : IntKind) (x : Value) : M Value :=
  match x with
  | .int _ n => M.pure (.int k (k.wrap n))
  | _ => M.fail

def convStr (x : Value) : M Value :=
  match x with
  | .string t => M.pure (.string t)
  | _ => M.fail

/-- The step from one way of writing to a function's meaning. -/
theorem den_of_body {E : Env} {f : FuncId} {fn : Func} {ann : Ann} {args : List Value} {m : M Value} (hp : E.prim f = none) (hf : E.P.funcs[f]? = some fn) (ha : E.ann f = ann)
    (h : evBody E.P (den E) lpD ann fn args = m) {H : AH} {r : Value × AH} (hr : m H = some r) : den E f args H = some r :=
  den_body hp hf (by rw [ha, h]; exact hr)

end Go.Proofs.YtepchknpgeopfaaGreatDoor.E
