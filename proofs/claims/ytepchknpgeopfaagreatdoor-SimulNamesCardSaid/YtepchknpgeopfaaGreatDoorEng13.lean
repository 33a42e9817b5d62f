/-
  THE ENGINE, part 13: calls; an operation with its guard; a region in the order of its text.
-/
import Derived.Test.YtepchknpgeopfaaGreatDoorEng12
set_option linter.unusedVariables false
set_option linter.unusedSimpArgs false
namespace Go.Proofs.YtepchknpgeopfaaGreatDoor.E
open Go

variable {P : Program}

/-- What is known of the calls that the evaluator makes. -/
def CallPost (ρ : Emb) (H : AH) (w : World) (v : Value) (H' : AH) : Ending → World → Prop := fun e w' => ∃ vc ρ', e = .returned vc ∧ Rel ρ' H' w' ∧ Evo none ρ H w ρ' H' w' ∧ VRel ρ' v vc

def Enters (P : Program) (f : FuncId) : Prop := ∃ fn, P.funcs[f]? = some fn ∧ (fn.name == "runtime.NumGoroutine") = false ∧ fn.body.isSome = true

def CallAt (P : Program) (f : FuncId) (args : List Value) (H : AH) (v : Value) (H' : AH) : Prop :=
  (Enters P f ∧ ∀ ρ w (cargs : Array Value), Rel ρ H w → LRel ρ args cargs.toList → Calls P f cargs w (CallPost ρ H w v H')) ∨
  (∀ ρ w (cargs : Array Value), Rel ρ H w → LRel ρ args cargs.toList → ∃ w' vc ρ', (callFunc f cargs).run P w = .ok (.value vc) w' ∧ Rel ρ' H' w' ∧ Evo none ρ H w ρ' H' w' ∧ VRel ρ' v vc)

def CallOk (P : Program) (call : CallF) : Prop := ∀ f args H v H', call f args H = some (v, H') → CallAt P f args H v H'

variable {ρ : Emb} {H H' : AH} {w : World} {alc : Option Nat}

/-- The operation's own wp, at a continuation. -/
theorem upon_done {o : Oper} {a : Act} {K : Act → World → Prop} {Q : Exit → Act → World → Prop} {v : Value} (h : Done alc P (execOp a.eval o) ρ H w v H')
    (hK : ∀ vc w' ρ', Rel ρ' H' w' → Evo alc ρ H w ρ' H' w' → VRel ρ' v vc → K (a.put o.dst vc) w') : o.wp P a w K Q := by
  obtain ⟨n, w', vc, ρ', h1, h2, h3, h4, h5⟩ := h
  unfold Oper.wp
  rw [h1]
  rcases h2 with rfl | ⟨rfl, rfl⟩
  · exact hK vc w' ρ' h3 h4 h5
  · exact hK _ w' ρ' h3 h4 h5

theorem callFunc_enters {f : FuncId} (h : Enters P f) (args : Array Value) : (callFunc f args).run P w = .ok (.enter f args) w := by
  obtain ⟨fn, h1, h2, h3⟩ := h
  have h3' : fn.body.isNone = false := by cases hb : fn.body <;> simp [hb] at h3 ⊢
  simp only [callFunc, Sem.run_bind, run_program, Result.andThen_ok, h1, h2, Bool.false_eq_true, if_false, h3', Sem.run_pure]

theorem upon_call {o : Oper} {a : Act} {K : Act → World → Prop} {Q : Exit → Act → World → Prop} {v : Value} {f : FuncId} {args : List Value} {cargs : Array Value} (hR : Rel ρ H w) (hargs : LRel ρ args cargs.toList) (hc : CallAt P f args H v H')
    (hex : (execOp a.eval o).run P w = (callFunc f cargs).run P w)
    (hK : ∀ vc w' ρ', Rel ρ' H' w' → Evo alc ρ H w ρ' H' w' → VRel ρ' v vc → K (a.put o.dst vc) w') : o.wp P a w K Q := by
  unfold Oper.wp
  rw [hex]
  rcases hc with ⟨he, hc⟩ | hc
  · rw [callFunc_enters he]
    refine (hc ρ w cargs hR hargs).mono fun e w' ⟨vc, ρ', h1, h2, h3, h4⟩ => ?_
    subst h1
    exact hK vc w' ρ' h2 h3.weaken h4
  · obtain ⟨w', vc, ρ', h1, h2, h3, h4⟩ := hc ρ w cargs hR hargs
    rw [h1]
    exact hK vc w' ρ' h2 h3.weaken h4

theorem methP_run {t : TypeId} {name : String} {f : FuncId} {v : Value} (h : methP P t name = some f) : (method (P.types.size + Made.depth) t v name).run P w = .ok (f, v) w := by
  have hfuel : P.types.size + Made.depth = (P.types.size + 99) + 1 := rfl
  rw [hfuel]
  generalize P.types.size + 99 = fuel
  unfold methP at h
  split at h
  · rename_i i hi
    split at h
    · rename_i m hm
      split at h
      · rename_i hp
        have hpl : m.path.toList = [] := by
          have : m.path = #[] := by simpa using hp
          rw [this]
        split at h
        · rename_i g ptr hg
          have key : (receiverAt t (.val v) ptr (if m.path.isEmpty then some ((name.splitOn ".").getLastD name) else none)).run P w = .ok v w ∧ g = f := by
            split at h
            · rename_i el hu
              split at h
              · rename_i hptr
                cases h
                subst hptr
                exact ⟨by simp [receiverAt, run_underlying' w hu, Place.get], rfl⟩
              · cases h
            · rename_i d hne hu
              split at h
              · cases h
              · rename_i hptr
                cases h
                simp only [Bool.not_eq_true] at hptr
                subst hptr
                refine ⟨?_, rfl⟩
                simp only [receiverAt, Sem.run_bind, run_underlying' w hu, Result.andThen_ok]
                cases d <;> first | rfl | exact absurd rfl (hne _)
            · cases h
          obtain ⟨k1, rfl⟩ := key
          simp only [method, Sem.run_bind, run_typeInfo' w hi, Result.andThen_ok, hm, hpl, follow, Sem.run_pure, hg, k1]
        · cases h
      · cases h
    · cases h
  · cases h

theorem evOp_call {call : CallF} {alc : Option Nat} {f : Operand → Value} {a : Act} (hc : CallOk P call) (hfg : ∀ x, VRel ρ (f x) (a.eval x)) (hR : Rel ρ H w) {o : Oper} (hn : isFnCall o.op = true) {v : Value}
    (h : evOp P call alc f o H = some (v, H')) {K : Act → World → Prop} {Q : Exit → Act → World → Prop}
    (hK : ∀ vc w' ρ', Rel ρ' H' w' → Evo alc ρ H w ρ' H' w' → VRel ρ' v vc → K (a.put o.dst vc) w') : o.wp P a w K Q := by
  obtain ⟨dst, op, ty, pos, after, guard⟩ := o
  cases op <;> simp only [isFnCall] at hn <;> try (cases hn; done)
  rename_i c
  obtain ⟨callee, args, argTypes⟩ := c
  cases callee with
  | builtin b => simp [isFnCall] at hn
  | value fo =>
    simp only [evOp, evCall, callV] at h
    have hfo := hfg fo
    cases hf : f fo with
    | func fn first captured =>
      obtain ⟨q, rfl⟩ : ∃ q, fn = .func q := by cases fn <;> first | exact ⟨_, rfl⟩ | (simp [hf, M.fail] at h)
      simp only [hf] at h
      rw [hf] at hfo
      generalize hg : a.eval fo = gfo at hfo
      cases hfo with
      | func _ hs ht hx hy =>
        rename_i first' captured'
        refine upon_call (cargs := first' ++ args.map a.eval ++ captured') hR ?_ (hc _ _ _ _ _ h) ?_ hK
        · have := (arrL hs hx).append ((maps_rel hfg args.toList).append (arrL ht hy))
          simpa using this
        · simp only [execOp, resolve, hg, Deferred.ofValue, Sem.run_bind, Sem.run_pure, Result.andThen_ok, invoke]
    | _ => simp [hf, M.fail] at h
  | invoke r name =>
    simp only [evOp, evCall] at h
    have hr := hfg r
    cases hf : f r with
    | iface t u =>
      simp only [hf] at h
      rw [hf] at hr
      generalize hg : a.eval r = gr at hr
      cases hr with
      | iface _ hu =>
        rename_i u'
        cases hq : methP P t name with
        | some q =>
          simp only [hq] at h
          refine upon_call (cargs := #[u'] ++ args.map a.eval) hR ?_ (hc _ _ _ _ _ h) ?_ hK
          · have := All2.cons hu (maps_rel hfg args.toList)
            simpa using this
          · have e1 : (#[Value.iface t u'] ++ args.map a.eval)[0]? = some (.iface t u') := by
              rw [Array.getElem?_append_left (by simp)]; rfl
            have e2 : (#[Value.iface t u'] ++ args.map a.eval).extract 1 (#[Value.iface t u'] ++ args.map a.eval).size = args.map a.eval := by
              apply Array.ext'; simp [List.extract, List.take_of_length_le]
            simp only [execOp, resolve, hg, Sem.run_bind, Sem.run_pure, Result.andThen_ok, invoke, e1, e2, callMethod, run_program, methP_run hq]
        | none => simp [hq, M.fail] at h
    | _ => simp [hf, M.fail] at h

/-! ### Frames -/

structure FrRel (ρ : Emb) (n : Nat) (fr : Fr) (a : Act) : Prop where
  defers : a.defers = []
  size : a.tmps.size = n
  rel : ∀ i, VRel ρ (fr i) (a.tmps.getD i undef)

theorem FrRel.mono {ρ' : Emb} (he : Ext ρ ρ') {n : Nat} {fr : Fr} {a : Act} (h : FrRel ρ n fr a) : FrRel ρ' n fr a := ⟨h.defers, h.size, fun i => (h.rel i).mono he⟩

theorem FrRel.ev {n : Nat} {fr : Fr} {a : Act} (h : FrRel ρ n fr a) (x : Operand) : VRel ρ (ev fr x) (a.eval x) := by
  cases x with
  | tmp t => exact h.rel t
  | const v =>
    simp only [E.ev, Act.eval]
    split
    · rename_i hp; exact plainV_rel hp ρ
    · exact .junk _
  | global g => exact .junk _
  | func f => exact .func _ rfl rfl (fun i h => by simp at h) (fun i h => by simp at h)

theorem FrRel.put {n : Nat} {fr : Fr} {a : Act} {v vc : Value} (h : FrRel ρ n fr a) (hv : VRel ρ v vc) (dst : Option Tmp) : FrRel ρ n (putF n fr dst v) (a.put dst vc) := by
  cases dst with
  | none => exact h
  | some d =>
    refine ⟨h.defers, by simp [Act.put, h.size], fun i => ?_⟩
    simp only [putF, Act.put]
    have hs := h.size
    split
    · rename_i hd
      by_cases e : i = d
      · subst e
        have e1 : Nat.beq i i = true := Nat.beq_refl i
        have e2 : (a.tmps.setIfInBounds i vc).getD i undef = vc := by
          rw [Array.getD_eq_getD_getElem?]
          simp [hs, hd]
        show VRel ρ (bif Nat.beq i i then v else fr i) _
        rw [e1, e2]
        exact hv
      · have e' : Nat.beq i d = false := by
          cases hb : Nat.beq i d with
          | false => rfl
          | true => exact absurd (Nat.eq_of_beq_eq_true hb) e
        simp only [e', cond_false]
        rw [Array.getD_eq_getD_getElem?, Array.getElem?_setIfInBounds_ne (Ne.symm e), ← Array.getD_eq_getD_getElem?]
        exact h.rel i
    · rename_i hd
      have hd' : ¬ d < n := by assumption
      have : a.tmps.setIfInBounds d vc = a.tmps := by
        apply Array.ext'
        rw [Array.toList_setIfInBounds, List.set_eq_of_length_le (by rw [Array.length_toList, hs]; exact Nat.le_of_not_lt hd')]
      rw [this]
      exact h.rel i

theorem undef_of_rel {x : Value} (h : VRel ρ (.tuple #[]) x) : x = .tuple #[] := by
  cases h with
  | tup hs hx =>
    rename_i xs
    have : xs = #[] := by apply Array.eq_empty_of_size_eq_zero; simpa using hs.symm
    rw [this]

/-- The guard of an operation, told by the evaluator, is the model's. -/
theorem wantV_sim {n : Nat} {fr : Fr} {a : Act} (hf : FrRel ρ n fr a) {ops : Array Oper} {o : Oper} {j : Nat} {want : Bool} {d : Tmp} {b : Bool} (hg : o.guard = some (j, want)) (hd : ((ops.toList[j]?).bind (·.dst)) = some d)
    (hw : wantV (fr d) want = some b) : Region.wanted o (yielded ops a.tmps) = b := by
  have hr := hf.rel d
  have hd' : ((ops[j]?).bind (·.dst)) = some d := by rw [← Array.getElem?_toList]; exact hd
  unfold Region.wanted
  simp only [hg]
  unfold yielded
  simp only [hd', Option.bind_some]
  unfold wantV at hw
  split at hw
  · rename_i c hc
    cases hw
    rw [hc] at hr
    cases hx : a.tmps[d]? with
    | none => rw [Array.getD_eq_getD_getElem?, hx] at hr; cases hr
    | some x =>
      rw [Array.getD_eq_getD_getElem?, hx] at hr
      simp only [Option.getD_some] at hr
      cases hr
      simp
  · rename_i vs hvs
    split at hw
    · rename_i he
      cases hw
      have hvs' : vs = #[] := by simpa using he
      rw [hvs, hvs'] at hr
      have hx := undef_of_rel hr
      cases hxx : a.tmps[d]? with
      | none => rfl
      | some x =>
        rw [Array.getD_eq_getD_getElem?, hxx] at hx
        simp only [Option.getD_some] at hx
        subst hx
        rfl
    · cases hw
  · cases hw

/-- An operation with its guard. -/
theorem evG_sim {call : CallF} {alc : Option Nat} {n : Nat} {ops : Array Oper} {fr : Fr} {a : Act} {o : Oper} (hc : CallOk P call) (hR : Rel ρ H w) (hf : FrRel ρ n fr a) (hF : Free ρ alc) {v : Value}
    (h : evG P call alc ops fr o H = some (v, H')) {K : Act → World → Prop} {Q : Exit → Act → World → Prop}
    (hK : ∀ vc w' ρ', Rel ρ' H' w' → Evo alc ρ H w ρ' H' w' → VRel ρ' v vc → K (a.put o.dst vc) w') :
    if Region.wanted o (yielded ops a.tmps) = true then o.wp P a w K Q ∨ (o.asks P a w ∧ LetsOut Q) else K (a.put o.dst undef) w := by
  have run : evOp P call alc (ev fr) o H = some (v, H') → o.wp P a w K Q := by
    intro h
    cases hn : isFnCall o.op with
    | true => exact evOp_call hc (fun x => hf.ev x) hR hn h hK
    | false => exact upon_done (evOp_sim (fun x => hf.ev x) hR hF hn h) hK
  have skip : v = undef → H' = H → K (a.put o.dst undef) w := by
    rintro rfl rfl
    exact hK undef w ρ hR (.refl _ _ _) VRel.undef
  unfold evG at h
  cases hg : o.guard with
  | none =>
    simp only [hg] at h
    have : Region.wanted o (yielded ops a.tmps) = true := by simp [Region.wanted, hg]
    rw [if_pos this]
    exact .inl (run h)
  | some jw =>
    obtain ⟨j, want⟩ := jw
    simp only [hg] at h
    cases hd : ((ops.toList[j]?).bind (·.dst)) with
    | none =>
      simp only [hd] at h
      obtain ⟨rfl, rfl⟩ := pure_some h
      have hd' : ((ops[j]?).bind (·.dst)) = none := by rw [← Array.getElem?_toList]; exact hd
      have : Region.wanted o (yielded ops a.tmps) = false := by simp [Region.wanted, hg, yielded, hd']
      rw [if_neg (by simp [this])]
      exact skip rfl rfl
    | some d =>
      simp only [hd] at h
      unfold guardM at h
      cases hw : wantV (fr d) want with
      | none => simp [hw, M.fail] at h
      | some b =>
        have hwb := wantV_sim hf hg hd hw
        simp only [hw] at h
        cases b with
        | true => rw [if_pos hwb]; exact .inl (run h)
        | false =>
          obtain ⟨rfl, rfl⟩ := pure_some h
          rw [if_neg (by simp [hwb])]
          exact skip rfl rfl

/-- A region in the order of its text. -/
theorem evOps_sim {β : Type} {call : CallF} {n : Nat} {ops : Array Oper} (hc : CallOk P call) {k : Fr → M β} {r : β} {H1 : AH} {Q : Exit → Act → World → Prop} : ∀ (l : List Oper) (i : Nat) (ρ : Emb) (H : AH) (w : World) (fr : Fr) (a : Act),
    (∀ j, l[j]? = ops[i + j]?) → Rel ρ H w → FrRel ρ n fr a → evOps P call n ops l k fr H = some (r, H1) →
    (∀ fr' a' H' w' ρ', k fr' H' = some (r, H1) → Rel ρ' H' w' → FrRel ρ' n fr' a' → Evo none ρ H w ρ' H' w' → Q .normal a' w') → wpOps P ops Q (List.range' i l.length) a w
  | [], i, ρ, H, w, fr, a, _, hR, hf, h, hQ => by
    simp only [evOps] at h
    simpa [wpOps] using hQ fr a H w ρ h hR hf (.refl _ _ _)
  | o :: l, i, ρ, H, w, fr, a, hl, hR, hf, h, hQ => by
    have h0 : ops[i]? = some o := by simpa using (hl 0).symm
    have hl' : ∀ j, l[j]? = ops[i + 1 + j]? := fun j => by have := hl (j + 1); simpa [Nat.add_assoc, Nat.add_comm 1 j] using this
    rw [List.length_cons, List.range'_succ, wpOps_cons]
    simp only [wpOp, h0]
    -- one operation, then the rest
    have step : ∀ v H', evG P call none ops fr o H = some (v, H') → evOps P call n ops l k (putF n fr o.dst v) H' = some (r, H1) →
        if Region.wanted o (yielded ops a.tmps) = true then o.wp P a w (wpOps P ops Q (List.range' (i + 1) l.length)) Q ∨ (o.asks P a w ∧ LetsOut Q) else wpOps P ops Q (List.range' (i + 1) l.length) (a.put o.dst undef) w := by
      intro v H' he hrest
      refine evG_sim hc hR hf (fun b hb => by cases hb) he fun vc w' ρ' h2 h3 h4 => ?_
      exact evOps_sim hc l (i + 1) ρ' H' w' _ _ hl' h2 ((hf.mono h3.ext).put h4 o.dst) hrest fun fr' a' H2 w2 ρ2 k1 k2 k3 k4 => hQ fr' a' H2 w2 ρ2 k1 k2 k3 (h3.trans k4)
    simp only [evOps] at h
    have hcase : (∃ v, o.guard = none ∧ totV (ev fr) o.op = some v ∧ evOps P call n ops l k (putF n fr o.dst v) H = some (r, H1)) ∨
        M.bind (evG P call none ops fr o) (fun v => evOps P call n ops l k (putF n fr o.dst v)) H = some (r, H1) := by
      cases hg : o.guard with
      | none =>
        cases ht : totV (ev fr) o.op with
        | none => simp only [hg, ht] at h; exact .inr h
        | some v => simp only [hg, ht] at h; exact .inl ⟨v, rfl, rfl, h⟩
      | some jw => simp only [hg] at h; exact .inr h
    rcases hcase with ⟨v, hg, ht, h⟩ | h
    · refine step v H ?_ h
      unfold evG
      simp only [hg]
      unfold totV at ht
      split at ht
      · rename_i x hx; cases ht; simp only [evOp, hx]; rfl
      · rename_i x hx; cases ht; simp only [evOp, hx]; rfl
      · cases ht
    · obtain ⟨v, H', h1, h2⟩ := bind_some h
      exact step v H' h1 h2

end Go.Proofs.YtepchknpgeopfaaGreatDoor.E
