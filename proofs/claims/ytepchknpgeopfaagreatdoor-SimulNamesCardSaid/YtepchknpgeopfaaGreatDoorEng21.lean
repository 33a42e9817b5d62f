/-
  THE ENGINE, part 21: the meaning of a function, without fuel.
-/
import Derived.Test.YtepchknpgeopfaaGreatDoorEng20
set_option linter.unusedVariables false
set_option linter.unusedSimpArgs false
namespace Go.Proofs.YtepchknpgeopfaaGreatDoor.E
open Go

/-- What Y gives, X gives from some fuel on. -/
def Lim {α : Type} (X : Nat → M α) (Y : M α) : Prop := ∀ H r, Y H = some r → ∃ m0, ∀ m, m0 ≤ m → X m H = some r

theorem Lim.const {α : Type} (Y : M α) : Lim (fun _ => Y) Y := fun H r h => ⟨0, fun _ _ => h⟩
theorem Lim.fail {α : Type} (X : Nat → M α) : Lim X M.fail := fun H r h => by cases h

theorem Lim.bind {α β : Type} {X : Nat → M α} {Y : M α} {K : Nat → α → M β} {L : α → M β} (h : Lim X Y) (hk : ∀ a, Lim (fun m => K m a) (L a)) : Lim (fun m => M.bind (X m) (K m)) (M.bind Y L) := by
  intro H r hr
  obtain ⟨r1, r2⟩ := r
  obtain ⟨a, H1, h1, h2⟩ := bind_some hr
  obtain ⟨m1, g1⟩ := h H _ h1
  obtain ⟨m2, g2⟩ := hk a H1 _ h2
  refine ⟨max m1 m2, fun m hm => ?_⟩
  have e1 := g1 m (by omega)
  have e2 := g2 m (by omega)
  show (match X m H with | some (a, H') => K m a H' | none => none) = _
  rw [e1]
  exact e2

theorem Lim.congr {α : Type} {X X' : Nat → M α} {Y Y' : M α} (h : Lim X Y) (hx : ∀ m, X' m = X m) (hy : Y' = Y) : Lim X' Y' := by
  have : X' = X := funext hx
  rw [this, hy]; exact h

theorem Lim.again {X : Nat → M Value} {Y : M Value} (h : Lim X Y) (v : Value) : Lim (fun m => E.again (X m) v) (E.again Y v) := by
  intro H r hr
  obtain ⟨r1, r2⟩ := r
  obtain ⟨rfl, H2, h2⟩ := again_some hr
  obtain ⟨m0, g⟩ := h _ _ h2
  refine ⟨m0, fun m hm => ?_⟩
  show E.again (X m) v r2 = _
  simp only [E.again, g m hm]
  simp

section
variable {P : Program} {call : Nat → CallF} {callY : CallF}

/-- The calls' meanings, from some fuel on. -/
def CallLim (call : Nat → CallF) (callY : CallF) : Prop := ∀ f args, Lim (fun m => call m f args) (callY f args)

theorem evOp_lim (hc : CallLim call callY) {alc : Option Nat} {ρ : Operand → Value} (o : Oper) : Lim (fun m => evOp P (call m) alc ρ o) (evOp P callY alc ρ o) := by
  obtain ⟨dst, op, ty, pos, after, guard⟩ := o
  cases op <;> try exact Lim.const _
  case makeFunc fn first captured => cases fn <;> exact Lim.const _
  case next it b => cases b <;> exact Lim.const _
  case typeAssert x xt t b => cases b <;> exact Lim.const _
  case call c =>
    obtain ⟨callee, args, ats⟩ := c
    cases callee with
    | builtin b => exact Lim.const _
    | value f =>
      show Lim (fun m => callV (call m) (ρ f) (args.toList.map ρ)) (callV callY (ρ f) (args.toList.map ρ))
      unfold callV
      split
      · exact hc _ _
      · exact Lim.fail _
    | invoke r name =>
      show Lim (fun m => match ρ r with
        | .iface t v => (match methP P t name with
          | some f => call m f (v :: args.toList.map ρ)
          | none => M.fail)
        | _ => M.fail) (match ρ r with
        | .iface t v => (match methP P t name with
          | some f => callY f (v :: args.toList.map ρ)
          | none => M.fail)
        | _ => M.fail)
      split
      · split
        · exact hc _ _
        · exact Lim.fail _
      · exact Lim.fail _

theorem guardM_lim {c : Option Bool} {X : Nat → M Value} {Y : M Value} (h : Lim X Y) : Lim (fun m => guardM c (X m)) (guardM c Y) := by
  unfold guardM
  split
  · exact h
  · exact Lim.const _
  · exact Lim.fail _

theorem evG_lim (hc : CallLim call callY) {alc : Option Nat} {ops : Array Oper} {fr : Fr} (o : Oper) : Lim (fun m => evG P (call m) alc ops fr o) (evG P callY alc ops fr o) := by
  unfold evG
  split
  · exact evOp_lim hc o
  · split
    · exact guardM_lim (evOp_lim hc o)
    · exact Lim.const _

theorem evOps_lim {β : Type} (hc : CallLim call callY) {n : Nat} {ops : Array Oper} {k : Nat → Fr → M β} {kY : Fr → M β} (hk : ∀ fr, Lim (fun m => k m fr) (kY fr)) :
    ∀ (l : List Oper) (fr : Fr), Lim (fun m => evOps P (call m) n ops l (k m) fr) (evOps P callY n ops l kY fr)
  | [], fr => hk fr
  | o :: rest, fr => by
    have gen : Lim (fun m => M.bind (evG P (call m) none ops fr o) fun v => evOps P (call m) n ops rest (k m) (putF n fr o.dst v)) (M.bind (evG P callY none ops fr o) fun v => evOps P callY n ops rest kY (putF n fr o.dst v)) :=
      (evG_lim hc o).bind fun v => evOps_lim hc hk rest _
    cases hg : o.guard with
    | some jw => exact gen.congr (fun m => by simp only [evOps, hg]) (by simp only [evOps, hg])
    | none =>
      cases ht : totV (ev fr) o.op with
      | none => exact gen.congr (fun m => by simp only [evOps, hg, ht]) (by simp only [evOps, hg, ht])
      | some v => exact (evOps_lim hc (n := n) (ops := ops) hk rest (putF n fr o.dst v)).congr (fun m => by simp only [evOps, hg, ht]) (by simp only [evOps, hg, ht])

theorem evSteps_lim {β : Type} (hc : CallLim call callY) {n base : Nat} {ops : Array Oper} {k : Nat → Fr → M β} {kY : Fr → M β} (hk : ∀ fr, Lim (fun m => k m fr) (kY fr)) :
    ∀ (l : List Step) (sv : Nat → Option (Fr × Value)) (fr : Fr), Lim (fun m => evSteps P (call m) n base ops l sv (k m) fr) (evSteps P callY n base ops l sv kY fr)
  | [], sv, fr => hk fr
  | .ex i :: rest, sv, fr => by
    cases ho : ops.toList[i]? with
    | none => exact (Lim.fail (fun m => evSteps P (call m) n base ops (.ex i :: rest) sv (k m) fr)).congr (fun _ => rfl) (by simp only [evSteps, ho])
    | some o =>
      have gen := (evG_lim (P := P) hc (alc := some (base + i)) (ops := ops) (fr := fr) o).bind fun v => evSteps_lim hc (n := n) (base := base) (ops := ops) hk rest (fun j => bif Nat.beq j i then some (fr, v) else sv j) (putF n fr o.dst v)
      cases hg : o.guard with
      | some jw => exact gen.congr (fun m => by simp only [evSteps, ho, hg]) (by simp only [evSteps, ho, hg])
      | none =>
        cases ht : totV (ev fr) o.op with
        | none => exact gen.congr (fun m => by simp only [evSteps, ho, hg, ht]) (by simp only [evSteps, ho, hg, ht])
        | some v => exact (evSteps_lim hc (n := n) (base := base) (ops := ops) hk rest (fun j => bif Nat.beq j i then some (fr, v) else sv j) (putF n fr o.dst v)).congr (fun m => by simp only [evSteps, ho, hg, ht]) (by simp only [evSteps, ho, hg, ht])
  | .rc i :: rest, sv, fr => by
    cases ho : ops.toList[i]? with
    | none => exact (Lim.fail (fun m => evSteps P (call m) n base ops (.rc i :: rest) sv (k m) fr)).congr (fun _ => rfl) (by simp only [evSteps, ho])
    | some o =>
      cases hs : sv i with
      | none => exact (Lim.fail (fun m => evSteps P (call m) n base ops (.rc i :: rest) sv (k m) fr)).congr (fun _ => rfl) (by simp only [evSteps, ho, hs])
      | some fv =>
        obtain ⟨fr', v⟩ := fv
        exact (((evG_lim (P := P) hc (alc := none) (ops := ops) (fr := fr') o).again v).bind fun _ => evSteps_lim hc (n := n) (base := base) (ops := ops) hk rest sv fr).congr (fun m => by simp only [evSteps, ho, hs]) (by simp only [evSteps, ho, hs])

/-- The loops' meanings, from some fuel on. -/
def LoopLim (lp : Nat → LoopF) (lpY : LoopF) : Prop := ∀ (step : Nat → List Value → M R) (stepY : List Value → M R), (∀ vs, Lim (fun m => step m vs) (stepY vs)) → ∀ vs, Lim (fun m => lp m (step m) vs) (lpY stepY vs)

variable {lp : Nat → LoopF} {lpY : LoopF}

def TellsLim (P : Program) (call : Nat → CallF) (callY : CallF) (lp : Nat → LoopF) (lpY : LoopF) (n : Nat) (c : Code) : Prop :=
  ∀ {β : Type} (ann : Ann) (k : Nat → Ex → Fr → M β) (kY : Ex → Fr → M β) (fr : Fr), (∀ ex fr, Lim (fun m => k m ex fr) (kY ex fr)) →
    Lim (fun m => evC P (call m) (lp m) n ann c (k m) fr) (evC P callY lpY n ann c kY fr)

theorem condB_lim {β : Type} {v : Value} {X X' : Nat → M β} {Y Y' : M β} (h : Lim X Y) (h' : Lim X' Y') : Lim (fun m => condB v (X m) (X' m)) (condB v Y Y') := by
  unfold condB
  split
  · exact h
  · exact h'
  · exact Lim.fail _

theorem onlyN_lim {β : Type} {e : Ex} {X : Nat → M β} {Y : M β} (h : Lim X Y) : Lim (fun m => onlyN e (X m)) (onlyN e Y) := by
  unfold onlyN
  split
  · exact h
  · exact Lim.fail _

theorem blkK_lim {β : Type} {id : Nat} {k : Nat → Ex → Fr → M β} {kY : Ex → Fr → M β} (hk : ∀ ex fr, Lim (fun m => k m ex fr) (kY ex fr)) : ∀ ex fr, Lim (fun m => blkK id (k m) ex fr) (blkK id kY ex fr) := by
  intro ex fr
  cases ex with
  | normal => exact hk .normal fr
  | ret => exact hk .ret fr
  | exit j =>
    cases hb : Nat.beq j id with
    | true => exact (hk .normal fr).congr (fun m => by simp only [blkK, hb, cond_true]) (by simp only [blkK, hb, cond_true])
    | false => exact (hk (.exit j) fr).congr (fun m => by simp only [blkK, hb, cond_false]) (by simp only [blkK, hb, cond_false])

theorem evC_lim (hc : CallLim call callY) (hlp : LoopLim lp lpY) {n : Nat} (c : Code) : TellsLim P call callY lp lpY n c ∧ ∀ body, c = .loop body → TellsLim P call callY lp lpY n body := by
  have jk : ∀ (ks : List Nat) ex fr, Lim (fun (_ : Nat) => jn ks ex fr) (jn ks ex fr) := fun ks ex fr => Lim.const _
  induction c with
  | skip => exact ⟨fun ann k kY fr hk => hk .normal fr, fun _ e => by cases e⟩
  | label l => exact ⟨fun ann k kY fr hk => hk .normal fr, fun _ e => by cases e⟩
  | ret => exact ⟨fun ann k kY fr hk => hk .ret fr, fun _ e => by cases e⟩
  | exit id => exact ⟨fun ann k kY fr hk => hk (.exit id) fr, fun _ e => by cases e⟩
  | region id ops draw =>
    refine ⟨fun ann k kY fr hk => ?_, fun _ e => by cases e⟩
    cases draw with
    | false => exact evOps_lim hc (fun fr => hk .normal fr) ops.toList fr
    | true =>
      cases ann with
      | draw steps =>
        by_cases hp : planOk P ops steps = true
        · refine Lim.congr (X := fun m => M.bind (reserve ops.size) fun base => evSteps P (call m) n base ops steps (fun _ => none) (k m .normal) fr) (Y := M.bind (reserve ops.size) fun base => evSteps P callY n base ops steps (fun _ => none) (kY .normal) fr)
            ((Lim.const _).bind fun base => evSteps_lim hc (fun fr => hk .normal fr) steps _ fr) (fun m => ?_) ?_
          · unfold evC; rw [if_pos hp]
          · unfold evC; rw [if_pos hp]
        · have : evC P callY lpY n (.draw steps) (.region id ops true) kY fr = M.fail := by unfold evC; rw [if_neg hp]
          rw [this]; exact Lim.fail _
      | _ => exact Lim.fail _
  | seq x y ihx ihy =>
    refine ⟨fun ann k kY fr hk => ?_, fun _ e => by cases e⟩
    cases ann with
    | seq p q =>
      refine ihx.1 p _ _ fr fun ex fr => ?_
      cases ex with
      | normal => exact ihy.1 q k kY fr hk
      | ret => exact hk .ret fr
      | exit id => exact hk (.exit id) fr
    | _ => exact Lim.fail _
  | cond o x y ihx ihy =>
    refine ⟨fun ann k kY fr hk => ?_, fun _ e => by cases e⟩
    cases ann with
    | cond p q => exact condB_lim (ihx.1 p k kY fr hk) (ihy.1 q k kY fr hk)
    | join ks p q =>
      exact (condB_lim (ihx.1 p (fun _ => jn ks) (jn ks) fr (jk ks)) (ihy.1 q (fun _ => jn ks) (jn ks) fr (jk ks))).bind fun r => hk r.1 (scatter ks r.2)
    | joinN ks p q =>
      exact (condB_lim (ihx.1 p (fun _ => jn ks) (jn ks) fr (jk ks)) (ihy.1 q (fun _ => jn ks) (jn ks) fr (jk ks))).bind fun r => onlyN_lim (hk .normal (scatter ks r.2))
    | _ => exact Lim.fail _
  | block id c ih =>
    refine ⟨fun ann k kY fr hk => ?_, fun _ e => by cases e⟩
    cases ann with
    | blockJ ks x =>
      have := (ih.1 x (fun _ => jn ks) (jn ks) fr (jk ks)).bind fun r => hk (unblk id r.1) (scatter ks r.2)
      cases c <;> exact this
    | blockN ks x =>
      have := (ih.1 x (fun _ => jn ks) (jn ks) fr (jk ks)).bind fun r => onlyN_lim (e := unblk id r.1) (hk .normal (scatter ks r.2))
      cases c <;> exact this
    | block x =>
      have := ih.1 x (fun m => blkK id (k m)) (blkK id kY) fr (blkK_lim hk)
      cases c <;> exact this
    | loop ks x =>
      cases c with
      | loop body =>
        have hb := @ih.2
        have hbody : TellsLim P call callY lp lpY n body := by
          unfold TellsLim; intro β; exact hb body rfl
        exact (hlp _ _ (fun vs => hbody x (fun _ => jn ks) (jn ks) (scatter ks vs) (jk ks)) (gather ks fr)).bind fun r => hk (unblk id r.1) (scatter ks r.2)
      | _ => exact Lim.fail _
    | loopN ks x =>
      cases c with
      | loop body =>
        have hb := @ih.2
        have hbody : TellsLim P call callY lp lpY n body := by
          unfold TellsLim; intro β; exact hb body rfl
        exact (hlp _ _ (fun vs => hbody x (fun _ => jn ks) (jn ks) (scatter ks vs) (jk ks)) (gather ks fr)).bind fun r => onlyN_lim (e := unblk id r.1) (hk .normal (scatter ks r.2))
      | _ => exact Lim.fail _
    | _ => cases c <;> exact Lim.fail _
  | scope c ih => exact ⟨fun ann k kY fr hk => ih.1 ann k kY fr hk, fun _ e => by cases e⟩
  | loop c ih =>
    have h1 := @ih.1
    refine ⟨fun ann k kY fr hk => ?_, fun body e => by cases e; unfold TellsLim; intro β; exact h1⟩
    cases ann <;> exact Lim.fail _
  | _ =>
    refine ⟨fun ann k kY fr hk => ?_, fun _ e => by cases e⟩
    cases ann <;> exact Lim.fail _

theorem evBody_lim (hc : CallLim call callY) (hlp : LoopLim lp lpY) (ann : Ann) (fn : Func) (args : List Value) : Lim (fun m => evBody P (call m) (lp m) ann fn args) (evBody P callY lpY ann fn args) := by
  unfold evBody
  split
  · rename_i c _
    split
    · exact (evC_lim hc hlp c).1 ann _ _ _ fun ex fr => Lim.const _
    · exact Lim.fail _
  · exact Lim.fail _

end

/-! ### More fuel gives the same -/

theorem iter_step {step step' : List Value → M R} (h : ∀ vs H r, step vs H = some r → step' vs H = some r) : ∀ (n m : Nat), n ≤ m → ∀ vs H r, iter step n vs H = some r → iter step' m vs H = some r
  | 0, _, _, _, _, _, e => by simp [iter, M.fail] at e
  | n + 1, 0, hl, _, _, _, _ => by omega
  | n + 1, m + 1, hl, vs, H, r, e => by
    obtain ⟨r1, r2⟩ := r
    unfold iter at e
    have hb := bind_some e
    clear e
    obtain ⟨a, H1, h1, h2⟩ := hb
    have e1 := h _ _ _ h1
    cases ha : a.1 with
    | normal =>
      rw [ha] at h2
      have e2 := iter_step h n m (by omega) _ _ _ h2
      simp only [iter, M.bind, e1, ha]
      exact e2
    | ret =>
      rw [ha] at h2
      simp only [iter, M.bind, e1, ha]
      exact h2
    | exit id =>
      rw [ha] at h2
      simp only [iter, M.bind, e1, ha]
      exact h2

/-- The rounds, round for round. -/
theorem iter_lim {step : Nat → List Value → M R} {stepY : List Value → M R} (hs : ∀ vs, Lim (fun m => step m vs) (stepY vs)) :
    ∀ (n : Nat) vs H r, iter stepY n vs H = some r → ∃ m0, ∀ q, m0 ≤ q → iter (step q) n vs H = some r
  | 0, vs, H, r, e => by simp [iter, M.fail] at e
  | n + 1, vs, H, r, e => by
    obtain ⟨r1, r2⟩ := r
    unfold iter at e
    have hb := bind_some e
    clear e
    obtain ⟨a, H1, h1, h2⟩ := hb
    obtain ⟨m1, g1⟩ := hs vs H _ h1
    cases ha : a.1 with
    | normal =>
      rw [ha] at h2
      obtain ⟨m2, g2⟩ := iter_lim hs n _ _ _ h2
      refine ⟨max m1 m2, fun q hq => ?_⟩
      have e1 : step q vs H = some (a, H1) := g1 q (by omega)
      have e2 := g2 q (by omega)
      simp only [iter, M.bind, e1, ha]
      exact e2
    | ret =>
      rw [ha] at h2
      refine ⟨m1, fun q hq => ?_⟩
      have e1 : step q vs H = some (a, H1) := g1 q hq
      simp only [iter, M.bind, e1, ha]
      exact h2
    | exit id =>
      rw [ha] at h2
      refine ⟨m1, fun q hq => ?_⟩
      have e1 : step q vs H = some (a, H1) := g1 q hq
      simp only [iter, M.bind, e1, ha]
      exact h2

theorem evFun_step (E : Env) : ∀ (m : Nat) f args H r, evFun E m f args H = some r → evFun E (m + 1) f args H = some r
  | 0, f, args, H, r, h => by simp [evFun, M.fail] at h
  | m + 1, f, args, H, r, h => by
    unfold evFun at h ⊢
    cases hp : E.prim f with
    | some p => simp only [hp] at h ⊢; exact h
    | none =>
      simp only [hp] at h ⊢
      cases hf : E.P.funcs[f]? with
      | none => simp [hf, M.fail] at h
      | some fn =>
        simp only [hf] at h ⊢
        have hc : CallLim (fun _ => evFun E (m + 1)) (evFun E m) := fun g as H r e => ⟨0, fun _ _ => evFun_step E m g as H r e⟩
        have hl : LoopLim (fun _ step vs => iter step (m + 1) vs) (fun step vs => iter step m vs) := by
          intro step stepY hs vs H r e
          obtain ⟨m0, g⟩ := iter_lim hs m vs H r e
          exact ⟨m0, fun q hq => iter_step (fun _ _ _ e => e) m (m + 1) (by omega) _ _ _ (g q hq)⟩
        obtain ⟨m0, g⟩ := evBody_lim (P := E.P) hc hl (E.ann f) fn args H r h
        exact g m0 (Nat.le_refl _)

theorem evFun_mono (E : Env) {m m' : Nat} (hl : m ≤ m') {f : FuncId} {args : List Value} {H : AH} {r : Value × AH} (h : evFun E m f args H = some r) : evFun E m' f args H = some r := by
  induction hl with
  | refl => exact h
  | step _ ih => exact evFun_step E _ f args H r ih

/-! ### The meaning -/

open Classical in
/-- The meaning of a function. -/
noncomputable def den (E : Env) : CallF := fun f args H => if h : ∃ r, ∃ m, evFun E m f args H = some r then some (Classical.choose h) else none

open Classical in
/-- The meaning of a loop. -/
noncomputable def lpD : LoopF := fun step vs H => if h : ∃ r, ∃ m, iter step m vs H = some r then some (Classical.choose h) else none

theorem den_iff {E : Env} {f : FuncId} {args : List Value} {H : AH} {r : Value × AH} : den E f args H = some r ↔ ∃ m, evFun E m f args H = some r := by
  unfold den
  constructor
  · intro h
    split at h
    · rename_i hx
      cases h
      exact Classical.choose_spec hx
    · cases h
  · rintro ⟨m, h⟩
    have hx : ∃ r, ∃ m, evFun E m f args H = some r := ⟨r, m, h⟩
    rw [dif_pos hx]
    obtain ⟨m', h'⟩ := Classical.choose_spec hx
    have a := evFun_mono E (Nat.le_max_left m m') h
    have b := evFun_mono E (Nat.le_max_right m m') h'
    rw [a] at b
    cases b; rfl

theorem lpD_iff {step : List Value → M R} {vs : List Value} {H : AH} {r : R × AH} : lpD step vs H = some r ↔ ∃ m, iter step m vs H = some r := by
  unfold lpD
  constructor
  · intro h
    split at h
    · rename_i hx
      cases h
      exact Classical.choose_spec hx
    · cases h
  · rintro ⟨m, h⟩
    have hx : ∃ r, ∃ m, iter step m vs H = some r := ⟨r, m, h⟩
    rw [dif_pos hx]
    obtain ⟨m', h'⟩ := Classical.choose_spec hx
    have a := iter_step (fun _ _ _ e => e) m (max m m') (Nat.le_max_left m m') _ _ _ h
    have b := iter_step (fun _ _ _ e => e) m' (max m m') (Nat.le_max_right m m') _ _ _ h'
    rw [a] at b
    cases b; rfl

theorem den_lim (E : Env) : CallLim (evFun E) (den E) := fun f args H r h => by
  obtain ⟨m, h⟩ := den_iff.1 h
  exact ⟨m, fun m' hm => evFun_mono E hm h⟩

theorem lpD_lim : LoopLim (fun m step vs => iter step m vs) lpD := by
  intro step stepY hs vs H r e
  obtain ⟨n, e⟩ := lpD_iff.1 e
  obtain ⟨m0, g⟩ := iter_lim hs n vs H r e
  exact ⟨max m0 n, fun q hq => iter_step (fun _ _ _ e => e) n q (by omega) _ _ _ (g q (by omega))⟩

/-- A function's body gives its meaning. -/
theorem den_body {E : Env} {f : FuncId} {fn : Func} (hp : E.prim f = none) (hf : E.P.funcs[f]? = some fn) {args : List Value} {H : AH} {r : Value × AH} (h : evBody E.P (den E) lpD (E.ann f) fn args H = some r) : den E f args H = some r := by
  obtain ⟨m0, g⟩ := evBody_lim (P := E.P) (den_lim E) lpD_lim (E.ann f) fn args H r h
  refine den_iff.2 ⟨m0 + 1, ?_⟩
  unfold evFun
  simp only [hp, hf]
  exact g m0 (Nat.le_refl _)

theorem den_prim {E : Env} {f : FuncId} {p : List Value → M Value} (hp : E.prim f = some p) {args : List Value} {H : AH} {r : Value × AH} (h : p args H = some r) : den E f args H = some r := by
  refine den_iff.2 ⟨1, ?_⟩
  unfold evFun
  simp only [hp]
  exact h

/-- What the meaning gives, the program does. -/
theorem den_sim {E : Env} (hE : E.Ok) {f : FuncId} {args : List Value} {H H' : AH} {v : Value} (h : den E f args H = some (v, H')) : CallAt E.P f args H v H' := by
  obtain ⟨m, h⟩ := den_iff.1 h
  exact evFun_sim hE m f args H v H' h

end Go.Proofs.YtepchknpgeopfaaGreatDoor.E
