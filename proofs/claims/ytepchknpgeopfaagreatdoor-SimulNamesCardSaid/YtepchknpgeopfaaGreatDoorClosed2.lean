/-
  SEAT E: with these runs known: lib.Program of the stack.
-/
import Derived.Test.YtepchknpgeopfaaGreatDoorClosed1
set_option linter.unusedVariables false
set_option linter.unusedSimpArgs false
namespace Go.Proofs.YtepchknpgeopfaaGreatDoor.E
open Go Go.Proofs
set_option maxRecDepth 100000

def give0 (rows : List RowB) (v : Value) (a : List Value) : M Value :=
  match a with
  | [] => giveM rows v
  | _ => M.fail

noncomputable def give0T (rows : List RowB) (v : Value) (a : List Value) : TM Value :=
  match a with
  | [] => giveT rows v
  | _ => TM.fail

theorem give0_sim (rows : List RowB) (v : Value) (a : List Value) : SimT (give0T rows v a) (give0 rows v a) := by
  unfold give0T give0
  cases a with
  | nil => exact giveT_sim rows v
  | cons x xs => exact SimT.fail _

theorem give0_ok {P : Program} {f : FuncId} {rows : List RowB} {v : Value} (hc : ∀ H : AH, CallAt P f [] H (mapV (H.next + ·) v) (H.lay rows)) {a : List Value} {H H' : AH} {u : Value} (h : give0 rows v a H = some (u, H')) : CallAt P f a H u H' := by
  unfold give0 at h
  cases a with
  | nil => cases h; exact hc H
  | cons x xs => cases h

def prim1 (f : FuncId) : Option (List Value → M Value) :=
  match f with
  | 5 => some (give0 crows5 cval5)
  | 127 => some (give0 crows127 cval127)
  | f => prim0 f

noncomputable def prim1T (f : FuncId) : Option (List Value → TM Value) :=
  match f with
  | 5 => some (give0T crows5 cval5)
  | 127 => some (give0T crows127 cval127)
  | f => prim0T f

noncomputable def E1 : Env := { P := Tryz.prog, ann := annS, prim := prim1 }

theorem E1.ok : E1.Ok := by
  refine ⟨mixed, noGoroutine, fun f p hp args H v H' h => ?_⟩
  have hp' : prim1 f = some p := hp
  unfold prim1 at hp'
  split at hp'
  · cases hp'; exact give0_ok callAt_5 h
  · cases hp'; exact give0_ok callAt_127 h
  · exact E0.ok.2.2 f p hp' args H v H' h

theorem prim1_sim : PrimSim E1 prim1T := by
  intro f
  show match prim1T f with
    | some pT => ∃ p, prim1 f = some p ∧ ∀ args, SimT (pT args) (p args)
    | none => prim1 f = none
  by_cases h5 : f = 5
  · subst h5; exact ⟨_, rfl, fun a => give0_sim _ _ a⟩
  by_cases h127 : f = 127
  · subst h127; exact ⟨_, rfl, fun a => give0_sim _ _ a⟩
  have e1 : prim1T f = prim0T f := by
    unfold prim1T; split <;> first | rfl | (exfalso; simp_all; done)
  have e2 : prim1 f = prim0 f := by
    unfold prim1; split <;> first | rfl | (exfalso; simp_all; done)
  rw [e1, e2]
  exact prim0_sim f

def gs32 : List Nat := [1066, 1009, 2298]
def cval32 : Value := (.tuple #[(.agg #[(.string ⟨#[115, 116, 97, 99, 107]⟩), (.int .i64 (1)), (.slice (some ⟨0, 0, some 2⟩) 2 2)]), (.int .i64 (0))])
def crows32 : List RowB := [⟨151, [(.string ⟨#[112, 117, 115, 104]⟩), (.slice (some ⟨1, 0, some 11⟩) 7 7), (.string ⟨#[112, 111, 112]⟩), (.slice (some ⟨2, 0, some 11⟩) 15 15)], true⟩,
  ⟨158, [(.int .i64 (19)), (.bool false), (.int .i64 (0)), (.int .i64 (0)), (.int .i64 (0)), (.int .i64 (-1)), (.int .i64 (2)), (.int .i64 (0)), (.int .i64 (0)), (.int .i64 (0)), (.int .i64 (0)), (.int .i64 (14)), (.bool false), (.int .i64 (0)), (.int .i64 (0)), (.int .i64 (0)), (.int .i64 (12)), (.int .i64 (0)), (.int .i64 (0)), (.int .i64 (0)), (.int .i64 (0)), (.int .i64 (0)), (.int .i64 (13)), (.bool false), (.int .i64 (1)), (.int .i64 (-1)), (.int .i64 (0)), (.int .i64 (0)), (.int .i64 (0)), (.int .i64 (0)), (.int .i64 (0)), (.int .i64 (0)), (.int .i64 (0)), (.int .i64 (14)), (.bool false), (.int .i64 (0)), (.int .i64 (0)), (.int .i64 (0)), (.int .i64 (1)), (.int .i64 (0)), (.int .i64 (0)), (.int .i64 (0)), (.int .i64 (1)), (.int .i64 (0)), (.int .i64 (15)), (.bool true), (.int .i64 (2)), (.int .i64 (-1)), (.int .i64 (0)), (.int .i64 (1)), (.int .i64 (0)), (.int .i64 (0)), (.int .i64 (0)), (.int .i64 (0)), (.int .i64 (0)), (.int .i64 (7)), (.bool false), (.int .i64 (0)), (.int .i64 (2)), (.int .i64 (0)), (.int .i64 (-1)), (.int .i64 (0)), (.int .i64 (0)), (.int .i64 (0)), (.int .i64 (0)), (.int .i64 (2)), (.int .i64 (25)), (.bool false), (.int .i64 (0)), (.int .i64 (0)), (.int .i64 (0)), (.int .i64 (-1)), (.int .i64 (0)), (.int .i64 (0)), (.int .i64 (0)), (.int .i64 (0)), (.int .i64 (0))], true⟩,
  ⟨158, [(.int .i64 (23)), (.bool false), (.int .i64 (0)), (.int .i64 (0)), (.int .i64 (0)), (.int .i64 (0)), (.int .i64 (0)), (.int .i64 (0)), (.int .i64 (0)), (.int .i64 (0)), (.int .i64 (0)), (.int .i64 (13)), (.bool true), (.int .i64 (0)), (.int .i64 (-1)), (.int .i64 (0)), (.int .i64 (0)), (.int .i64 (0)), (.int .i64 (0)), (.int .i64 (0)), (.int .i64 (0)), (.int .i64 (0)), (.int .i64 (7)), (.bool false), (.int .i64 (0)), (.int .i64 (0)), (.int .i64 (0)), (.int .i64 (-1)), (.int .i64 (0)), (.int .i64 (0)), (.int .i64 (0)), (.int .i64 (0)), (.int .i64 (13)), (.int .i64 (22)), (.bool false), (.int .i64 (0)), (.int .i64 (0)), (.int .i64 (0)), (.int .i64 (0)), (.int .i64 (0)), (.int .i64 (0)), (.int .i64 (0)), (.int .i64 (0)), (.int .i64 (0)), (.int .i64 (13)), (.bool false), (.int .i64 (1)), (.int .i64 (-1)), (.int .i64 (0)), (.int .i64 (0)), (.int .i64 (0)), (.int .i64 (0)), (.int .i64 (0)), (.int .i64 (0)), (.int .i64 (0)), (.int .i64 (8)), (.bool false), (.int .i64 (0)), (.int .i64 (0)), (.int .i64 (0)), (.int .i64 (1)), (.int .i64 (0)), (.int .i64 (0)), (.int .i64 (0)), (.int .i64 (0)), (.int .i64 (1)), (.int .i64 (13)), (.bool false), (.int .i64 (2)), (.int .i64 (0)), (.int .i64 (0)), (.int .i64 (0)), (.int .i64 (0)), (.int .i64 (0)), (.int .i64 (0)), (.int .i64 (1)), (.int .i64 (0)), (.int .i64 (15)), (.bool true), (.int .i64 (3)), (.int .i64 (-1)), (.int .i64 (0)), (.int .i64 (0)), (.int .i64 (0)), (.int .i64 (2)), (.int .i64 (0)), (.int .i64 (0)), (.int .i64 (0)), (.int .i64 (7)), (.bool false), (.int .i64 (0)), (.int .i64 (3)), (.int .i64 (0)), (.int .i64 (-1)), (.int .i64 (0)), (.int .i64 (0)), (.int .i64 (0)), (.int .i64 (0)), (.int .i64 (1)), (.int .i64 (13)), (.bool false), (.int .i64 (4)), (.int .i64 (0)), (.int .i64 (0)), (.int .i64 (0)), (.int .i64 (0)), (.int .i64 (0)), (.int .i64 (0)), (.int .i64 (0)), (.int .i64 (0)), (.int .i64 (20)), (.bool false), (.int .i64 (0)), (.int .i64 (0)), (.int .i64 (0)), (.int .i64 (0)), (.int .i64 (0)), (.int .i64 (0)), (.int .i64 (0)), (.int .i64 (0)), (.int .i64 (0)), (.int .i64 (24)), (.bool false), (.int .i64 (0)), (.int .i64 (0)), (.int .i64 (0)), (.int .i64 (0)), (.int .i64 (0)), (.int .i64 (0)), (.int .i64 (0)), (.int .i64 (0)), (.int .i64 (0)), (.int .i64 (25)), (.bool false), (.int .i64 (0)), (.int .i64 (0)), (.int .i64 (0)), (.int .i64 (4)), (.int .i64 (0)), (.int .i64 (0)), (.int .i64 (0)), (.int .i64 (0)), (.int .i64 (0)), (.int .i64 (24)), (.bool false), (.int .i64 (0)), (.int .i64 (0)), (.int .i64 (0)), (.int .i64 (0)), (.int .i64 (0)), (.int .i64 (0)), (.int .i64 (0)), (.int .i64 (0)), (.int .i64 (0)), (.int .i64 (25)), (.bool false), (.int .i64 (0)), (.int .i64 (0)), (.int .i64 (0)), (.int .i64 (-1)), (.int .i64 (-1)), (.int .i64 (0)), (.int .i64 (0)), (.int .i64 (0)), (.int .i64 (0))], true⟩]
theorem run32 : outOf (evFunQ qTab prim1T 3000 32 [.string ⟨#[115, 116, 97, 99, 107]⟩] ⟨0, .e⟩) gs32 = some (mapV (gs32.getD · 0) cval32, crows32.map fun r => some (r.blk (gs32.getD · 0))) := by kernel_rfl
theorem callAt_32 (H : AH) : CallAt Tryz.prog 32 [.string ⟨#[115, 116, 97, 99, 107]⟩] H (mapV (H.next + ·) cval32) (H.lay crows32) :=
  callAt_out qTab_ok E1.ok rfl rfl prim1_sim run32 (by decide) (by kernel_rfl) (by kernel_rfl) rfl (by decide) H


end Go.Proofs.YtepchknpgeopfaaGreatDoor.E
