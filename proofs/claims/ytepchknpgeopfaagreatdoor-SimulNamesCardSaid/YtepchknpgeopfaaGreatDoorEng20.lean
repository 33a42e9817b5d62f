/-
  THE ENGINE, part 20: functions. What the evaluator gives, the program does.
-/
import Derived.Test.YtepchknpgeopfaaGreatDoorEng19
set_option linter.unusedVariables false
set_option linter.unusedSimpArgs false
namespace Go.Proofs.YtepchknpgeopfaaGreatDoor.E
open Go

variable {P : Program} {ρ : Emb} {H H' : AH} {w : World}

theorem iter_ok (m : Nat) : LoopOk (fun step vs => iter step m vs) := fun step vs H r H1 h => ⟨m, h⟩

/-- One result. -/
def resG (tmps : Array Value) : ResultVar → Sem Value
  | .tmp t => pure (tmps.getD t undef)
  | .cell a t => do loadVar t (← asAddr (tmps.getD a undef))

theorem evRes_sim {n : Nat} {fr : Fr} {a : Act} (hR : Rel ρ H w) (hf : FrRel ρ n fr a) {v : Value} {H1 : AH} : ∀ (rs : List ResultVar) (k : List Value → M Value), evRes P fr rs k H = some (v, H1) →
    ∃ vs vcs, k vs H = some (v, H1) ∧ LRel ρ vs vcs ∧ All2 (fun r vc => (resG a.tmps r).run P w = .ok vc w) rs vcs
  | [], k, h => ⟨[], [], h, .nil, .nil⟩
  | .tmp t :: rest, k, h => by
    unfold evRes at h
    obtain ⟨vs, vcs, h1, h2, h3⟩ := evRes_sim hR hf rest _ h
    exact ⟨fr t :: vs, a.tmps.getD t undef :: vcs, h1, .cons (hf.rel t) h2, .cons rfl h3⟩
  | .cell b t :: rest, k, h => by
    unfold evRes at h
    have hb := bind_some h
    clear h
    obtain ⟨x, H2, h1, h2⟩ := hb
    obtain ⟨e, vc, g1, g2⟩ := load_sim hR (hf.rel b) h1
    rw [e] at h2
    obtain ⟨vs, vcs, k1, k2, k3⟩ := evRes_sim hR hf rest _ h2
    refine ⟨x :: vs, vc :: vcs, k1, .cons g2 k2, .cons ?_ k3⟩
    unfold resG
    unfold Instr.loadAt at g1
    cases hx : a.tmps.getD b undef with
    | pointer q =>
      cases q with
      | some q =>
        simp only [hx, Instr.sureAddr, pure_bind] at g1
        simp only [asAddr, hx, pure_bind]
        exact g1
      | none => simp [hx, Instr.sureAddr] at g1
    | _ => simp [hx, Instr.sureAddr] at g1

theorem run_mapM {α : Type} {f : α → Sem Value} {as : Array α} {vcs : List Value} (h : All2 (fun r vc => (f r).run P w = .ok vc w) as.toList vcs) : (as.mapM f).run P w = .ok vcs.toArray w := by
  have key : ∀ (l : List α) (vcs : List Value), All2 (fun r vc => (f r).run P w = .ok vc w) l vcs → (l.mapM f).run P w = .ok vcs w := by
    intro l vcs h
    induction h with
    | nil => simp
    | cons h _ ih => simp only [List.mapM_cons, Sem.run_bind, h, ih, Result.andThen_ok, Sem.run_pure]
  rw [Array.mapM_eq_mapM_toList, map_eq_pure_bind, Sem.run_bind, key _ _ h, Result.andThen_ok, Sem.run_pure]

theorem resV_sim {fn : Func} {a : Act} {vs vcs : List Value} (h2 : LRel ρ vs vcs) (h3 : All2 (fun r vc => (resG a.tmps r).run P w = .ok vc w) fn.results.toList vcs) :
    ∃ vc, (results fn a.tmps).run P w = .ok vc w ∧ VRel ρ (resV vs) vc := by
  have hr : (results fn a.tmps).run P w = .ok (if h : vcs.toArray.size = 1 then vcs.toArray[0] else .tuple vcs.toArray) w := by
    have e : results fn a.tmps = (do
        let vs ← fn.results.mapM (resG a.tmps)
        pure (if h : vs.size = 1 then vs[0] else .tuple vs)) := rfl
    rw [e]
    simp only [Sem.run_bind, run_mapM (f := resG a.tmps) h3, Result.andThen_ok, Sem.run_pure]
  refine ⟨_, hr, ?_⟩
  cases h2 with
  | nil => simp [resV]; exact Ltup .nil
  | cons h t =>
    cases t with
    | nil => simpa [resV] using h
    | cons h' t' =>
      have := Ltup (All2.cons h (All2.cons h' t'))
      simpa [resV] using this

theorem args_rel {n : Nat} {args : List Value} {cargs : Array Value} (h : LRel ρ args cargs.toList) (hl : args.length ≤ n) :
    FrRel ρ n (fun i => args.getD i undef) { tmps := cargs ++ Array.replicate (n - cargs.size) undef, defers := [] } := by
  have hlen : args.length = cargs.size := by simpa using h.length
  refine ⟨rfl, by simp; omega, fun i => ?_⟩
  have e : (cargs ++ Array.replicate (n - cargs.size) undef).getD i undef = cargs.toList.getD i undef := by
    rw [Array.getD_eq_getD_getElem?, Array.getElem?_append, List.getD_eq_getElem?_getD]
    by_cases hi : i < cargs.size
    · rw [if_pos hi]; simp
    · rw [if_neg hi, Array.getElem?_replicate]
      rw [List.getElem?_eq_none (by simpa using hi)]
      split <;> rfl
  show VRel ρ (args.getD i undef) ((cargs ++ Array.replicate (n - cargs.size) undef).getD i undef)
  rw [e]
  exact h.getD i

theorem evBody_sim {call : CallF} {lp : LoopF} (hm : P.follows .mixedOrders = true) (hc : CallOk P call) (hlp : LoopOk lp) {f : FuncId} {fn : Func} {ann : Ann} {args : List Value} {v : Value}
    (hf : P.funcs[f]? = some fn) (hn : (fn.name == "runtime.NumGoroutine") = false) (h : evBody P call lp ann fn args H = some (v, H')) : CallAt P f args H v H' := by
  unfold evBody at h
  cases hb : fn.body with
  | none => simp [hb, M.fail] at h
  | some c =>
    simp only [hb] at h
    by_cases hl : args.length ≤ fn.ntmps
    · rw [if_pos hl] at h
      refine .inl ⟨⟨fn, hf, hn, by simp [hb]⟩, fun ρ w cargs hR hargs => calls_of_wp hf hb ?_⟩
      refine (evC_told hm hc hlp c).1 ann _ _ ρ H w _ v H' _ h hR (args_rel hargs hl) fun ex fr' a' H2 w' ρ' k1 k2 k3 k4 => ?_
      have fin : evRes P fr' fn.results.toList (fun vs => M.pure (resV vs)) H2 = some (v, H') → a'.defers = [] ∧ ∃ vc, (results fn a'.tmps).run P w' = .ok vc w' ∧ CallPost ρ H w v H' (.returned vc) w' := by
        intro g
        obtain ⟨vs, vcs, g1, g2, g3⟩ := evRes_sim k2 k3 _ _ g
        obtain ⟨rfl, rfl⟩ := pure_some g1
        obtain ⟨vc, g4, g5⟩ := resV_sim g2 g3
        exact ⟨k3.defers, vc, g4, vc, ρ', rfl, k2, k4, g5⟩
      cases ex with
      | normal => exact fin k1
      | ret => exact fin k1
      | exit id => simp [k0, M.fail] at k1
    · rw [if_neg hl] at h; cases h

/-- What is given without proof by the evaluator has been shown of the model. -/
def Env.Ok (E : Env) : Prop := E.P.follows .mixedOrders = true ∧ (∀ (f : Nat) fn, E.P.funcs[f]? = some fn → (fn.name == "runtime.NumGoroutine") = false) ∧
  ∀ f p, E.prim f = some p → ∀ args H v H', p args H = some (v, H') → CallAt E.P f args H v H'

theorem evFun_sim {E : Env} (hE : E.Ok) : ∀ (m : Nat), CallOk E.P (evFun E m)
  | 0 => fun f args H v H' h => by simp [evFun, M.fail] at h
  | m + 1 => fun f args H v H' h => by
    unfold evFun at h
    cases hp : E.prim f with
    | some p =>
      simp only [hp] at h
      exact hE.2.2 f p hp args H v H' h
    | none =>
      simp only [hp] at h
      cases hf : E.P.funcs[f]? with
      | none => simp [hf, M.fail] at h
      | some fn =>
        simp only [hf] at h
        exact evBody_sim hE.1 (evFun_sim hE m) (iter_ok m) hf (hE.2.1 f fn hf) h

end Go.Proofs.YtepchknpgeopfaaGreatDoor.E
