/-
  THE ENGINE, part 25: runs over a table of the functions' terms; closed runs seen from any world.
-/
import Derived.Test.YtepchknpgeopfaaGreatDoorEng24
set_option linter.unusedVariables false
set_option linter.unusedSimpArgs false
namespace Go.Proofs.YtepchknpgeopfaaGreatDoor.E
open Go

/-! #### Words for the printed terms -/

def exKT {β : Type} (e : Ex) (n r : TM β) (x : Nat → TM β) : TM β :=
  match e with
  | .normal => n
  | .ret => r
  | .exit j => x j

abbrev QFn := CallT → LoopT → List Value → TM Value

/-- A term of a function gives what the evaluator gives. -/
def QOk (P : Program) (ann : FuncId → Ann) (f : FuncId) (q : QFn) : Prop :=
  ∃ fn, P.funcs[f]? = some fn ∧ ∀ call lp args T r, q call lp args T = some r → evBodyT P call lp (ann f) fn args T = some r

noncomputable def evFunQ (tab : FuncId → Option QFn) (prim : FuncId → Option (List Value → TM Value)) : Nat → CallT
  | 0 => fun _ _ => TM.fail
  | m + 1 => fun f args =>
    match prim f with
    | some p => p args
    | none =>
      match tab f with
      | some q => q (evFunQ tab prim m) (fun step vs => iterT step m vs) args
      | none => TM.fail

theorem evFunQ_eq {P : Program} {ann : FuncId → Ann} {tab : FuncId → Option QFn} {prim : FuncId → Option (List Value → TM Value)} (ht : ∀ f q, tab f = some q → QOk P ann f q) {E : Env} (hP : E.P = P) (ha : E.ann = ann) (hp : PrimSim E prim) :
    ∀ (m : Nat), CallSim (evFunQ tab prim m) (evFun E m)
  | 0 => fun _ _ => SimT.fail _
  | m + 1 => fun f args => by
    have h := hp f
    intro T v T' e
    unfold evFunQ at e
    unfold evFun
    cases hx : prim f with
    | some pT =>
      simp only [hx] at h e
      obtain ⟨p, h1, h2⟩ := h
      simp only [h1]
      exact h2 args _ _ _ e
    | none =>
      simp only [hx] at h e
      simp only [h]
      cases hq : tab f with
      | none => simp only [hq] at e; cases e
      | some q =>
        simp only [hq] at e
        obtain ⟨fn, hf, hall⟩ := ht f q hq
        have e2 := hall _ _ _ _ _ e
        subst hP
        subst ha
        simp only [hf]
        exact evBodyT_sim (evFunQ_eq ht rfl rfl hp m) (fun sT s hs vs => iterT_sim hs m vs) _ _ _ _ _ _ e2

/-- A quick run tells the meaning. -/
theorem den_of_q {P : Program} {ann : FuncId → Ann} {tab : FuncId → Option QFn} {prim : FuncId → Option (List Value → TM Value)} (ht : ∀ f q, tab f = some q → QOk P ann f q) {E : Env} (hP : E.P = P) (ha : E.ann = ann) (hp : PrimSim E prim)
    {m : Nat} {f : FuncId} {args : List Value} {T T' : TH} {v : Value} (h : evFunQ tab prim m f args T = some (v, T')) : den E f args T.ah = some (v, T'.ah) :=
  den_iff.2 ⟨m, evFunQ_eq ht hP ha hp m f args _ _ _ h⟩

/-! #### Tables in rows -/

def okRow (P : Program) (ann : FuncId → Ann) : List (Option QFn) → Nat → Prop
  | [], _ => True
  | none :: r, n => okRow P ann r (n + 1)
  | some q :: r, n => QOk P ann n q ∧ okRow P ann r (n + 1)

theorem okRow_get {P : Program} {ann : FuncId → Ann} : ∀ {l : List (Option QFn)} {n i : Nat} {q : QFn}, okRow P ann l n → l.getD i none = some q → QOk P ann (n + i) q
  | [], n, i, q, _, h => by simp at h
  | none :: r, n, 0, q, _, h => by simp at h
  | none :: r, n, i + 1, q, ho, h => by
    have := okRow_get (n := n + 1) (i := i) ho (by simpa using h)
    have e : n + 1 + i = n + (i + 1) := by omega
    rw [e] at this; exact this
  | some q' :: r, n, 0, q, ho, h => by simp at h; subst h; exact ho.1
  | some q' :: r, n, i + 1, q, ho, h => by
    have := okRow_get (n := n + 1) (i := i) ho.2 (by simpa using h)
    have e : n + 1 + i = n + (i + 1) := by omega
    rw [e] at this; exact this

/-- A run from nothing, seen from any world: it leaves no trace that counts. -/
theorem callAt_closed {P : Program} {f : FuncId} {v : Value} {S' : AH} (h : CallAt P f [] ⟨0, fun _ => none⟩ v S') (hv : plainC v = true) (H : AH) : CallAt P f [] H v H := by
  have hlit : ∀ {ρ : Emb} {vc : Value}, VRel ρ v vc → ∀ ρ' : Emb, VRel ρ' v vc := by
    intro ρ vc hr ρ'
    cases hr <;> first | (simp [plainC, E.junk] at hv; done) | constructor
  have hR0 : ∀ w : World, Rel (fun _ => none) ⟨0, fun _ => none⟩ w := fun w =>
    ⟨fun _ _ => rfl, (fun _ _ h => by cases h), (fun _ _ h => by cases h), (fun _ _ _ _ _ _ h => by cases h)⟩
  have key : ∀ {ρ : Emb} {w w' : World} {ρ' : Emb}, Rel ρ H w → Evo none (fun _ => none) ⟨0, fun _ => none⟩ w ρ' S' w' → Rel ρ H w' ∧ Evo none ρ H w ρ H w' := by
    intro ρ w w' ρ' hR hE
    have hk : ∀ cb, cb < w.heap.size → w'.heap[cb]? = w.heap[cb]? := fun cb hl => hE.keep cb hl (fun ⟨b, x, i, hb, _⟩ => by cases hb)
    refine ⟨⟨hR.fresh, fun b i hb => Nat.lt_of_lt_of_le (hR.inh b i hb) hE.size, fun b x hb => ?_, hR.inj⟩, ⟨.refl _, hE.size, fun cb hl _ => hk cb hl, fun _ h => .inl h, fun _ h => .inl h, fun _ _ _ h => h, fun _ _ _ h => h, hE.os, hE.out, Nat.le_refl _⟩⟩
    obtain ⟨i, hi, hr⟩ := hR.blk b x hb
    exact ⟨i, hi, hr.same (hk _ (hR.inh b i hi))⟩
  rcases h with ⟨he, h⟩ | h
  · refine .inl ⟨he, fun ρ w cargs hR hL => ?_⟩
    have hn : cargs.toList = [] := by cases hc : cargs.toList with
      | nil => rfl
      | cons x xs => rw [hc] at hL; cases hL
    refine (h (fun _ => none) w cargs (hR0 w) (by rw [hn]; exact .nil)).mono ?_
    intro e w' hp
    obtain ⟨vc, ρ', h0, h1, h2, h3⟩ := hp
    obtain ⟨k1, k2⟩ := key hR h2
    exact ⟨vc, ρ, h0, k1, k2, hlit h3 ρ⟩
  · refine .inr fun ρ w cargs hR hL => ?_
    have hn : cargs.toList = [] := by cases hc : cargs.toList with
      | nil => rfl
      | cons x xs => rw [hc] at hL; cases hL
    obtain ⟨w', vc, ρ', h0, h1, h2, h3⟩ := h (fun _ => none) w cargs (hR0 w) (by rw [hn]; exact .nil)
    obtain ⟨k1, k2⟩ := key hR h2
    exact ⟨w', vc, ρ, h0, k1, k2, hlit h3 ρ⟩

end Go.Proofs.YtepchknpgeopfaaGreatDoor.E
