/-
  SEAT E: the facts of its program that the engine asks for; the functions that are taken by contracts.
-/
import Derived.Test.YtepchknpgeopfaaGreatDoorAnnE
import Derived.Test.YtepchknpgeopfaaGreatDoorEng27
import Derived.Test.YtepchknpgeopfaaGreatDoorLastE
import Derived.Test.YtepchknpgeopfaaGreatDoorChecked
import Derived.KernelRfl
import Derived.Eval
set_option linter.unusedVariables false
set_option linter.unusedSimpArgs false
namespace Go.Proofs.YtepchknpgeopfaaGreatDoor.E
open Go Go.Proofs

theorem mixed : Tryz.prog.follows .mixedOrders = true := Tryz.checked.mixed

theorem noGoroutines : (Tryz.prog.funcs.toList.all fun fn => !(fn.name == "runtime.NumGoroutine")) = true := by kernel_rfl

theorem noGoroutine (f : Nat) (fn : Func) (h : Tryz.prog.funcs[f]? = some fn) : (fn.name == "runtime.NumGoroutine") = false := by
  have h1 := noGoroutines
  rw [List.all_eq_true] at h1
  have h2 := h1 fn (by
    have h3 : Tryz.prog.funcs.toList[f]? = some fn := by rw [Array.getElem?_toList]; exact h
    exact List.mem_of_getElem? h3)
  simpa using h2

theorem ext300 : ExtFn Tryz.prog 300 Extern.BytealgCount.count := ⟨Tryz.f300, by kernel_rfl, by kernel_rfl, by kernel_rfl, by kernel_rfl, by kernel_rfl⟩
theorem ext329 : ExtFn Tryz.prog 329 Extern.BytealgIndexByte.indexByte := ⟨Tryz.f329, by kernel_rfl, by kernel_rfl, by kernel_rfl, by kernel_rfl, by kernel_rfl⟩
theorem ext160 : ExtFn Tryz.prog 160 Extern.MapsClone.clone := ⟨Tryz.f160, by kernel_rfl, by kernel_rfl, by kernel_rfl, by kernel_rfl, by kernel_rfl⟩
theorem ext230 : ExtFn Tryz.prog 230 Extern.AbiNoEscape.same := ⟨Tryz.f230, by kernel_rfl, by kernel_rfl, by kernel_rfl, by kernel_rfl, by kernel_rfl⟩

def lastOfP : List Value → M Value
  | [.slice _ 0 _, .int .i64 _] => M.pure (.int .i64 (-1))
  | _ => M.fail

theorem callAt_lastOf {args : List Value} {H H' : AH} {v : Value} (h : lastOfP args H = some (v, H')) : CallAt Tryz.prog 290 args H v H' := by
  unfold lastOfP at h
  split at h
  · rename_i a c k
    cases h
    refine .inl ⟨⟨Tryz.f290, by kernel_rfl, by kernel_rfl, by kernel_rfl⟩, fun ρ w cargs hR hL => ?_⟩
    obtain ⟨y, ys, e1, r1, hL⟩ := lrel1 hL
    cases hL with
    | cons r2 hL =>
      cases r2
      cases hL
      obtain ⟨a', c', rfl⟩ : ∃ a' c', y = .slice a' 0 c' := by cases r1 <;> exact ⟨_, _, rfl⟩
      have e : cargs = #[.slice a' 0 c', .int .i64 k] := by apply Array.ext'; exact e1
      subst e
      refine (Tryz.lastOf_nil c' a' k w).mono ?_
      rintro e w' ⟨rfl, hB⟩
      refine ⟨_, ρ, rfl, ⟨hR.fresh, fun b i hb => Nat.lt_of_lt_of_le (hR.inh b i hb) hB.size, fun b x hb => ?_, hR.inj⟩, ⟨.refl _, hB.size, fun cb hl _ => hB.block cb hl, fun _ h => .inl h, fun _ h => .inl h, fun _ _ _ h => h, fun _ _ _ h => h, hB.os, hB.output, Nat.le_refl _⟩, .int _ _⟩
      obtain ⟨i, hi, hr⟩ := hR.blk b x hb
      exact ⟨i, hi, hr.same (hB.block _ (hR.inh b i hi))⟩
  · cases h

def prim0 (f : FuncId) : Option (List Value → M Value) :=
  match f with
  | 300 => some countP
  | 329 => some indexByteP
  | 160 => some cloneP
  | 230 => some sameP
  | 290 => some lastOfP
  | _ => none

noncomputable def prim0T (f : FuncId) : Option (List Value → TM Value) :=
  match f with
  | 300 => some fun a => pureT (countP a)
  | 329 => some fun a => pureT (indexByteP a)
  | 160 => some fun a => stepT (cloneP a) []
  | 230 => some fun a => pureT (sameP a)
  | 290 => some fun a => pureT (lastOfP a)
  | _ => none

noncomputable def E0 : Env := { P := Tryz.prog, ann := annS, prim := prim0 }

theorem E0.ok : E0.Ok := by
  refine ⟨mixed, noGoroutine, fun f p hp args H v H' h => ?_⟩
  have hp' : prim0 f = some p := hp
  unfold prim0 at hp'
  split at hp' <;> cases hp'
  · exact callAt_count ext300 h
  · exact callAt_indexByte ext329 h
  · exact callAt_clone ext160 h
  · exact callAt_same ext230 h
  · exact callAt_lastOf h

theorem read_count (a : List Value) : ReadM (countP a) := by
  unfold countP; split
  · exact (PureM.pure _).read
  · exact ReadM.fail
theorem read_index (a : List Value) : ReadM (indexByteP a) := by
  unfold indexByteP; split
  · exact (PureM.pure _).read
  · exact ReadM.fail
theorem read_same (a : List Value) : ReadM (sameP a) := by
  unfold sameP; split
  · exact (PureM.pure _).read
  · exact ReadM.fail
theorem read_last (a : List Value) : ReadM (lastOfP a) := by
  unfold lastOfP; split
  · exact (PureM.pure _).read
  · exact ReadM.fail
theorem foot_clone (a : List Value) : Foot [] (cloneP a) := by
  unfold cloneP; split
  · refine Foot.bind (fun H u H' e => ?_) fun q => Foot.bind (Foot.newAt (fun b h => by cases h)) fun _ => Foot.pure _
    unfold getM3 at e
    cases hm : mapAt3 H _ with
    | none => rw [hm] at e; cases e
    | some q => rw [hm] at e; cases e; exact ⟨Nat.le_refl _, fun _ _ _ => rfl⟩
  · exact Foot.fail

theorem prim0_sim : PrimSim E0 prim0T := by
  intro f
  show match prim0T f with
    | some pT => ∃ p, prim0 f = some p ∧ ∀ args, SimT (pT args) (p args)
    | none => prim0 f = none
  unfold prim0T prim0
  split <;> rename_i h0 <;> (try (split at h0 <;> cases h0))
  · exact ⟨_, rfl, fun a => SimT.read (read_count a)⟩
  · exact ⟨_, rfl, fun a => SimT.read (read_index a)⟩
  · exact ⟨_, rfl, fun a => SimT.step (foot_clone a)⟩
  · exact ⟨_, rfl, fun a => SimT.read (read_same a)⟩
  · exact ⟨_, rfl, fun a => SimT.read (read_last a)⟩
  · rfl

end Go.Proofs.YtepchknpgeopfaaGreatDoor.E
