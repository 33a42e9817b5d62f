/-
  SEAT E: the law's own check of sanity is true, whatever lies in memory.
-/
import Derived.Test.YtepchknpgeopfaaGreatDoorClosed2
set_option linter.unusedVariables false
set_option linter.unusedSimpArgs false
namespace Go.Proofs.YtepchknpgeopfaaGreatDoor.E
open Go Go.Proofs
set_option maxRecDepth 100000

/-- Are these the letters of the first structure's name? -/
def isStack : List Value → Bool
  | [.string s] => eqB (bl s) [115, 116, 97, 99, 107]
  | _ => false

def prog32 (a : List Value) : M Value := bif isStack a then giveM crows32 cval32 else M.fail
noncomputable def prog32T (a : List Value) : TM Value := bif isStack a then giveT crows32 cval32 else TM.fail

theorem isStack_eq {a : List Value} (h : isStack a = true) : a = [.string ⟨#[115, 116, 97, 99, 107]⟩] := by
  unfold isStack at h
  split at h
  · rename_i s
    rw [eqB_eq] at h
    have e := eq_of_beq h
    have : s = ⟨#[115, 116, 97, 99, 107]⟩ := ba_ext e
    rw [this]
  · cases h

theorem prog32_sim (a : List Value) : SimT (prog32T a) (prog32 a) := by
  unfold prog32T prog32
  cases isStack a with
  | true => exact giveT_sim _ _
  | false => exact SimT.fail _

theorem prog32_ok {a : List Value} {H H' : AH} {u : Value} (h : prog32 a H = some (u, H')) : CallAt Tryz.prog 32 a H u H' := by
  unfold prog32 at h
  cases hs : isStack a with
  | true =>
    rw [hs] at h
    rw [isStack_eq hs]
    cases h
    exact callAt_32 H
  | false => rw [hs] at h; cases h

def prim2 (f : FuncId) : Option (List Value → M Value) :=
  match f with
  | 32 => some prog32
  | f => prim1 f

noncomputable def prim2T (f : FuncId) : Option (List Value → TM Value) :=
  match f with
  | 32 => some prog32T
  | f => prim1T f

noncomputable def E2 : Env := { P := Tryz.prog, ann := annS, prim := prim2 }

theorem E2.ok : E2.Ok := by
  refine ⟨mixed, noGoroutine, fun f p hp args H v H' h => ?_⟩
  have hp' : prim2 f = some p := hp
  unfold prim2 at hp'
  split at hp'
  · cases hp'; exact prog32_ok h
  · exact E1.ok.2.2 f p hp' args H v H' h

theorem prim2_sim : PrimSim E2 prim2T := by
  intro f
  show match prim2T f with
    | some pT => ∃ p, prim2 f = some p ∧ ∀ args, SimT (pT args) (p args)
    | none => prim2 f = none
  by_cases h5 : f = 32
  · subst h5; exact ⟨_, rfl, fun a => prog32_sim a⟩
  have e1 : prim2T f = prim1T f := by
    unfold prim2T; split <;> first | rfl | (exfalso; simp_all; done)
  have e2 : prim2 f = prim1 f := by
    unfold prim2; split <;> first | rfl | (exfalso; simp_all; done)
  rw [e1, e2]
  exact prim1_sim f

theorem runAwake : outOf (evFunQ qTab prim2T 3000 4 [] ⟨0, .e⟩) [] = some (.bool true, []) := by kernel_rfl

theorem AH.lay_nil (H : AH) : H.lay [] = H := AH.ext rfl fun b => by simp [AH.lay]

theorem callAt_awake (H : AH) : CallAt Tryz.prog 4 [] H (.bool true) H := by
  have := callAt_out qTab_ok E2.ok rfl rfl prim2_sim (rows := []) (v := .bool true) runAwake rfl rfl rfl rfl List.nodup_nil H
  rw [AH.lay_nil] at this
  exact this

end Go.Proofs.YtepchknpgeopfaaGreatDoor.E
