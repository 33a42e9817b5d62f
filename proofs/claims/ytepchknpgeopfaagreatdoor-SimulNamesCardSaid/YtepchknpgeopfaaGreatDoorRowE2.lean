/-
  locklesslaw22.SimulNames: a world that holds the listed variables.
-/
import Derived.Test.YtepchknpgeopfaaGreatDoorRowE
set_option linter.unusedVariables false
set_option linter.unusedSimpArgs false
namespace Go.Proofs.YtepchknpgeopfaaGreatDoor.simulNames
open Go.ChangeShapes Go.WideShapes Go.ChangeAt Go.RowKit
set_option maxRecDepth 100000

/-- The cells of a flat datum. -/
def flat : DataW Unit → List Value
  | .lit (.int k n) => [.int k n]
  | .agg ps => flats ps
  | _ => []
where
  flats : List (DataW Unit) → List Value
    | [] => []
    | .lit (.int k n) :: r => .int k n :: flats r
    | .agg ps :: r => flatl ps ++ flats r
    | _ :: r => flats r
  flatl : List (DataW Unit) → List Value
    | [] => []
    | .lit (.int k n) :: r => .int k n :: flatl r
    | _ :: r => flatl r

/-- A WORLD FOR THE WITNESS: the settled one; the tables as they are laid; the two errors behind them. -/
noncomputable def laidWorld (os : Os) : World :=
  let N := (World.settled Tryz.prog os).heap.size
  let w0 := World.holding Tryz.prog os ⟨#[
    .cells #[.string ⟨#[105, 110, 118, 97, 108, 105, 100, 32, 115, 121, 110, 116, 97, 120]⟩] 426,
    .cells #[.string ⟨#[118, 97, 108, 117, 101, 32, 111, 117, 116, 32, 111, 102, 32, 114, 97, 110, 103, 101]⟩] 426], #[], []⟩
  let put (h : Array Obj) (g : Nat) (cs : Array Value) : Array Obj := h.modify g fun
    | .cells _ t frozen => .cells cs t frozen
    | o => o
  let h1 := put w0.heap 1 (flat Rows.laid_internal_strconv_uint64pow10).toArray
  let h2 := put h1 2 (flat Rows.laid_unicode_utf8_first).toArray
  let h3 := put h2 3 (flat Rows.laid_unicode_utf8_acceptRanges).toArray
  let h4 := put h3 4 #[.iface 424 (.pointer (some ⟨N, 0, none⟩))]
  let h5 := put h4 5 #[.iface 424 (.pointer (some ⟨N + 1, 0, none⟩))]
  let h6 := put h5 6 (flat Rows.laid_math_bits_deBruijn32tab).toArray
  let h7 := put h6 7 (flat Rows.laid_math_bits_deBruijn64tab).toArray
  { w0 with heap := h7 }

theorem laid_met (os : Os) : laidMet Tryz.prog Rows.simulNamesRow.laid ((laidWorld os).forCall (fun _ _ => 0) ⟨#[], #[.int .i64 0, .string ⟨#[]⟩], []⟩).memory :=
  laidMet_of_run' 8 (by kernel_rfl) (by kernel_rfl)

theorem reads (os : Os) {H : Type} (enc : TypeId × Value → H) : ∃ places, DataW.whole enc Tryz.prog ((laidWorld os).forCall (fun _ _ => 0) ⟨#[], #[.int .i64 0, .string ⟨#[]⟩], []⟩).memory Tryz.f3.params.toList Rows.simulNamesSpec.vars false #[Value.int .i64 0, Value.string ⟨#[]⟩].toList 8 = some ([.lit (.int .i64 0), .lit (.string [])], [], places) :=
  ⟨[], by kernel_rfl⟩

end Go.Proofs.YtepchknpgeopfaaGreatDoor.simulNames
