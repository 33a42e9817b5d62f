/-
  THE ENGINE, part 12: every operation but a call of a function.
-/
import Derived.Test.YtepchknpgeopfaaGreatDoorEng11
set_option linter.unusedVariables false
set_option linter.unusedSimpArgs false
namespace Go.Proofs.YtepchknpgeopfaaGreatDoor.E
open Go

variable {P : Program} {ρ : Emb} {H H' : AH} {w : World} {alc : Option Nat}

def NextIs (n : Next) (v : Value) : Prop := n = .value v ∨ (n = .skip ∧ v = undef)

/-- The operation is carried out, and leaves a value related to v. -/
def Done (alc : Option Nat) (P : Program) (s : Sem Next) (ρ : Emb) (H : AH) (w : World) (v : Value) (H' : AH) : Prop :=
  ∃ n w' vc ρ', s.run P w = .ok n w' ∧ NextIs n vc ∧ Rel ρ' H' w' ∧ Evo alc ρ H w ρ' H' w' ∧ VRel ρ' v vc

theorem Makes.done {s : Sem Value} {v : Value} (h : Makes alc P s ρ H w v H') : Done alc P (do pure (.value (← s))) ρ H w v H' := by
  obtain ⟨w', vc, ρ', h1, h2, h3, h4⟩ := h
  exact ⟨.value vc, w', vc, ρ', by simp only [Sem.run_bind, h1, Result.andThen_ok, Sem.run_pure], .inl rfl, h2, h3, h4⟩

theorem Gives.done {s : Sem Value} {v : Value} (h : Gives P s ρ w v) (hR : Rel ρ H w) : Done alc P (do pure (.value (← s))) ρ H w v H := (h.makes hR).done

theorem maps_rel {f g : Operand → Value} (hfg : ∀ x, VRel ρ (f x) (g x)) : ∀ (xs : List Operand), LRel ρ (xs.map f) (xs.map g)
  | [] => .nil
  | x :: xs => .cons (hfg x) (maps_rel hfg xs)

theorem parts_rel {f g : Operand → Value} (hfg : ∀ x, VRel ρ (f x) (g x)) : ∀ (xs : List (Nat × Operand)), All2 (fun (a b : Nat × Value) => a.1 = b.1 ∧ VRel ρ a.2 b.2) (xs.map fun (i, x) => (i, f x)) (xs.map fun (i, x) => (i, g x))
  | [] => .nil
  | (i, x) :: xs => .cons ⟨rfl, hfg x⟩ (parts_rel hfg xs)

/-- Calls of functions, through a value or an interface. -/
def isFnCall : Op → Bool
  | .call { callee := .value _, .. } | .call { callee := .invoke _ _, .. } => true
  | _ => false

theorem evOp_sim {call : CallF} {alc : Option Nat} {f g : Operand → Value} (hfg : ∀ x, VRel ρ (f x) (g x)) (hR : Rel ρ H w) (hF : Free ρ alc) {o : Oper} (hnc : isFnCall o.op = false) {v : Value}
    (h : evOp P call alc f o H = some (v, H')) : Done alc P (execOp g o) ρ H w v H' := by
  obtain ⟨dst, op, ty, pos, after, guard⟩ := o
  generalize hm : evOp P call alc f ⟨dst, op, ty, pos, after, guard⟩ = mm at h
  cases op <;> simp only [evOp] at hm <;> simp only [execOp]
  case move x => subst hm; obtain ⟨rfl, rfl⟩ := pure_some h; exact ⟨_, w, _, ρ, rfl, .inl rfl, hR, .refl _ _ _, hfg x⟩
  case assign x => subst hm; obtain ⟨rfl, rfl⟩ := pure_some h; exact ⟨_, w, _, ρ, rfl, .inl rfl, hR, .refl _ _ _, hfg x⟩
  case pick c a b =>
    subst hm
    obtain ⟨h1, rfl⟩ := lift_some h
    obtain ⟨x, e, hv⟩ := sim_pick (hfg c) (hfg a) (hfg b) h1
    refine ⟨.value (if x then g a else g b), w, _, ρ, ?_, .inl rfl, hR, .refl _ _ _, hv⟩
    simp only [e, Sem.run_bind, asBool, Sem.run_pure, Result.andThen_ok]
  case alloc t =>
    split at hm
    · subst hm; rename_i z hz; exact (sim_alloc hR hF hz h).done
    · subst hm; cases h
  case box t x => subst hm; exact (sim_box hR hF (hfg x) h).done
  case build t parts =>
    split at hm
    · rename_i z ps hz hps
      split at hm
      · rename_i hpo
        subst hm
        obtain ⟨h1, rfl⟩ := lift_some h
        cases hfi : fillP z ps with
        | none => simp [hfi] at h1
        | some cs =>
          simp [hfi] at h1
          subst h1
          refine (Gives.done (sim_build hz hps ?_ hpo hfi) hR)
          have := parts_rel hfg parts.toList
          simpa using this
      · subst hm; cases h
    · subst hm; cases h
  case buildSlice t n parts =>
    split at hm
    · rename_i e he
      unfold elemOfSl at he
      split at he
      · rename_i e' hu
        cases he
        split at hm
        · rename_i z ps hz hps
          split at hm
          · rename_i hc
            split at hm
            · rename_i cs hcs
              subst hm
              refine (sim_buildSlice hR hF hu hz hc.2 hc.1 hps ?_ hcs h).done
              have := parts_rel hfg parts.toList
              simpa using this
            · subst hm; cases h
          · subst hm; cases h
        · subst hm; cases h
      · cases he
    · subst hm; cases h
  case insert t m k x =>
    split at hm
    · rename_i kt et hu
      split at hm
      · rename_i kk hkk
        subst hm
        obtain ⟨rfl, w', h1, h2, h3⟩ := sim_update hR hu hkk (hfg m) (hfg k) (hfg x) h
        exact ⟨.skip, w', _, ρ, by simp only [Sem.run_bind, h1, Result.andThen_ok, Sem.run_pure], .inr ⟨rfl, rfl⟩, h2, h3, VRel.undef⟩
      · subst hm; cases h
    · subst hm; cases h
  case load t a =>
    subst hm
    obtain ⟨rfl, vc, h1, h2⟩ := load_sim hR (hfg a) h
    exact Gives.done ⟨vc, h1, h2⟩ hR
  case store t a x =>
    split at hm
    · rename_i hi
      obtain ⟨i, hi⟩ := Option.isSome_iff_exists.1 hi
      subst hm
      obtain ⟨rfl, w', h1, h2, h3⟩ := store_sim hR hi (hfg a) (hfg x) h
      exact ⟨.skip, w', _, ρ, by simp only [Sem.run_bind, h1, Result.andThen_ok, Sem.run_pure], .inr ⟨rfl, rfl⟩, h2, h3, VRel.undef⟩
    · subst hm; cases h
  case nilCheck x =>
    subst hm
    obtain ⟨h1, rfl⟩ := lift_some h
    obtain ⟨_, h3⟩ := sim_nilChk (hfg x) h1
    refine ⟨.value (g x), w, _, ρ, ?_, .inl rfl, hR, .refl _ _ _, h3⟩
    have hx := hfg x
    generalize g x = gx at hx h3 ⊢
    generalize f x = fx at hx h1
    unfold nilChk at h1
    split at h1 <;> cases h1 <;> cases hx <;> rfl
  case binOp op t x y u =>
    subst hm
    obtain ⟨h1, rfl⟩ := lift_some h
    exact (sim_nil x y (hfg x) (hfg y) h1).done hR
  case unOp op t x =>
    subst hm
    obtain ⟨h1, rfl⟩ := lift_some h
    exact (sim_un (hfg x) h1).done hR
  case convert s d x =>
    split at hm
    · rename_i k1 k hs hd
      split at hm
      · rename_i k2 n hx
        subst hm
        obtain ⟨rfl, rfl⟩ := pure_some h
        have e := hfg x
        rw [hx] at e
        generalize g x = gx at e ⊢
        cases e
        exact Gives.done ⟨_, by simp only [convert, Sem.run_bind, run_underlying' w hs, run_underlying' w hd, Result.andThen_ok, Conv.intToInt, Sem.run_pure], .int _ _⟩ hR
      · subst hm; cases h
    · rename_i hs hd
      split at hm
      · rename_i t hx
        subst hm
        obtain ⟨rfl, rfl⟩ := pure_some h
        have e := hfg x
        rw [hx] at e
        generalize g x = gx at e ⊢
        cases e
        exact Gives.done ⟨_, by simp only [convert, Sem.run_bind, run_underlying' w hs, run_underlying' w hd, Result.andThen_ok, Sem.run_pure], .str _⟩ hR
      · subst hm; cases h
    · rename_i e hs hd
      split at hm
      · rename_i he
        subst hm
        obtain ⟨t, e1, hm⟩ := sim_toRunes (P := P) hR hF (hfg x) h
        obtain ⟨w', vc, ρ', h1, h2, h3, h4⟩ := hm
        refine Makes.done ⟨w', vc, ρ', ?_, h2, h3, h4⟩
        rw [e1]
        simp only [convert, Sem.run_bind, run_underlying' w hs, run_underlying' w hd, run_underlying' w he, Result.andThen_ok, h1]
      · rename_i he
        subst hm
        obtain ⟨t, e1, hm⟩ := sim_toBytes (P := P) hR hF (hfg x) h
        obtain ⟨w', vc, ρ', h1, h2, h3, h4⟩ := hm
        refine Makes.done ⟨w', vc, ρ', ?_, h2, h3, h4⟩
        rw [e1]
        simp only [convert, Sem.run_bind, run_underlying' w hs, run_underlying' w hd, run_underlying' w he, Result.andThen_ok, h1]
      · subst hm; cases h
    · rename_i t hs hd
      split at hm
      · rename_i hi
        obtain ⟨ti, hi⟩ := Option.isSome_iff_exists.1 hi
        subst hm
        obtain ⟨rfl, hg⟩ := sim_toUnsafe (P := P) hR hs hd hi (hfg x) h
        have hg' : Gives P (convert s d (g x)) ρ w v := by
          obtain ⟨vc, k1, k2⟩ := hg
          refine ⟨vc, ?_, k2⟩
          simp only [convert, Sem.run_bind, run_underlying' w hs, run_underlying' w hd, Result.andThen_ok, k1]
        exact hg'.done hR
      · subst hm; cases h
    · rename_i t hs hd
      split at hm
      · rename_i hi
        obtain ⟨ti, hi⟩ := Option.isSome_iff_exists.1 hi
        subst hm
        obtain ⟨rfl, hg⟩ := sim_ofUnsafe (P := P) hR hs hd hi (hfg x) h
        have hg' : Gives P (convert s d (g x)) ρ w v := by
          obtain ⟨vc, k1, k2⟩ := hg
          refine ⟨vc, ?_, k2⟩
          simp only [convert, Sem.run_bind, run_underlying' w hs, run_underlying' w hd, Result.andThen_ok, k1]
        exact hg'.done hR
      · subst hm; cases h
    · subst hm; cases h
  case makeInterface t x =>
    split at hm
    · subst hm; cases h
    · subst hm; cases h
    · rename_i hne hn
      subst hm
      obtain ⟨rfl, rfl⟩ := pure_some h
      cases hu : P.underlying t with
      | none => exact absurd hu (fun e => by simp_all)
      | some d =>
        refine Gives.done ⟨.iface t (g x), ?_, .iface _ (hfg x)⟩ hR
        simp only [Instr.makeInterface, Sem.run_bind, run_underlying' w hu, Result.andThen_ok]
        cases d <;> first | rfl | (exfalso; simp_all)
  case makeFunc fn first captured =>
    cases fn with
    | func q =>
      subst hm
      obtain ⟨rfl, rfl⟩ := pure_some h
      refine Gives.done ⟨_, rfl, ?_⟩ hR
      obtain ⟨a1, a2⟩ := Larr (ρ := ρ) (xs := first.map f) (xs' := first.map g) (by simpa using maps_rel hfg first.toList)
      obtain ⟨b1, b2⟩ := Larr (ρ := ρ) (xs := captured.map f) (xs' := captured.map g) (by simpa using maps_rel hfg captured.toList)
      exact .func _ a1 b1 a2 b2
    | _ => subst hm; cases h
  case makeMap t r =>
    split at hm
    · rename_i kt et hu hr
      subst hm
      refine (sim_makeMap hR hF hu ?_ h).done
      intro x hx
      cases r with
      | none => cases hx
      | some y =>
        simp only [Option.map_some, Option.some.injEq] at hx
        subst hx
        have e := hfg y
        simp only at hr
        split at hr
        · rename_i k n hy
          rw [hy] at e
          generalize g y = gy at e ⊢
          cases e
          exact ⟨_, _, rfl⟩
        · cases hr
    · subst hm; cases h
  case makeSlice t l c =>
    split at hm
    · rename_i e he
      unfold elemOfSl at he
      split at he
      · rename_i e' hu
        cases he
        split at hm
        · rename_i z hz
          split at hm
          · rename_i hzl
            subst hm
            exact (sim_makeSl hR hF hu hz hzl (hfg l) (hfg c) h).done
          · subst hm; cases h
        · subst hm; cases h
      · cases he
    · subst hm; cases h
  case slice t x lo hi mx =>
    split at hm
    · rename_i hu
      split at hm
      · subst hm; cases h
      · rename_i hmx
        subst hm
        obtain ⟨h1, rfl⟩ := lift_some h
        cases mx with
        | some _ => simp at hmx
        | none =>
          have e2 : hi.map g = hi.map f := by
            unfold sliceStr at h1
            split at h1
            · split at h1
              · rename_i a b c d; exact bnd_rel hfg c
              · cases h1
            · cases h1
          have e1 : lo.map g = lo.map f := by
            unfold sliceStr at h1
            split at h1
            · split at h1
              · rename_i a b c d; exact bnd_rel hfg d
              · cases h1
            · cases h1
          rw [e1, e2]
          exact (sim_sliceStr hu (hfg x) h1).done hR
    · rename_i e hu
      split at hm
      · rename_i he
        subst hm
        obtain ⟨h1, rfl⟩ := lift_some h
        have es : lo.map g = lo.map f ∧ hi.map g = hi.map f ∧ mx.map g = mx.map f := by
          unfold sliceSl at h1
          split at h1
          · split at h1
            · rename_i a b c
              exact ⟨bnd_rel hfg a, bnd_rel hfg b, bnd_rel hfg c⟩
            · cases h1
          · split at h1
            · rename_i l hh c a b d
              exact ⟨bnd_rel hfg a, bnd_rel hfg b, bnd_rel hfg d⟩
            · cases h1
          · cases h1
        rw [es.1, es.2.1, es.2.2]
        exact (sim_sliceSl hu he (hfg x) h1).done hR
      · subst hm; cases h
    · rename_i n e hu
      split at hm
      · subst hm; cases h
      · rename_i hmx
        simp only [not_or, Bool.not_eq_true, Bool.not_eq_false] at hmx
        subst hm
        obtain ⟨h1, rfl⟩ := lift_some h
        cases mx with
        | some _ => simp at hmx
        | none =>
          have es : lo.map g = lo.map f ∧ hi.map g = hi.map f := by
            unfold sliceAr at h1
            split at h1
            · split at h1
              · rename_i l hh a b
                exact ⟨bnd_rel hfg a, bnd_rel hfg b⟩
              · cases h1
            · cases h1
          rw [es.1, es.2]
          exact ((sim_sliceAr (w := w) hmx.2 (hfg x) h1).1 hu).done hR
    · rename_i a hu
      split at hm
      · rename_i n e hua
        split at hm
        · subst hm; cases h
        · rename_i hmx
          simp only [not_or, Bool.not_eq_true, Bool.not_eq_false] at hmx
          subst hm
          obtain ⟨h1, rfl⟩ := lift_some h
          cases mx with
          | some _ => simp at hmx
          | none =>
            have es : lo.map g = lo.map f ∧ hi.map g = hi.map f := by
              unfold sliceAr at h1
              split at h1
              · split at h1
                · rename_i l hh a b
                  exact ⟨bnd_rel hfg a, bnd_rel hfg b⟩
                · cases h1
              · cases h1
            rw [es.1, es.2]
            exact ((sim_sliceAr (w := w) hmx.2 (hfg x) h1).2 a hu hua).done hR
      · subst hm; cases h
    · subst hm; cases h
  case fieldAddr t x fl =>
    split at hm
    · rename_i fd hfd
      split at hm
      · subst hm; cases h
      · rename_i h0
        subst hm
        obtain ⟨h1, rfl⟩ := lift_some h
        exact (sim_fieldAddr hfd h0 (hfg x) h1).done hR
    · subst hm; cases h
  case field t x fl =>
    split at hm
    · rename_i fd hfd
      split at hm
      · rename_i h0
        subst hm
        obtain ⟨h1, rfl⟩ := lift_some h
        exact (sim_field hfd h0 (hfg x) h1).done hR
      · subst hm; cases h
    · subst hm; cases h
  case indexAddr t x i =>
    split at hm
    · rename_i n e hu
      split at hm
      · rename_i he
        subst hm
        obtain ⟨h1, rfl⟩ := lift_some h
        exact (sim_indexP hu he (hfg x) (hfg i) h1).done hR
      · subst hm; cases h
    · rename_i e hu
      split at hm
      · rename_i he
        subst hm
        obtain ⟨h1, rfl⟩ := lift_some h
        exact (sim_indexS hu he (hfg x) (hfg i) h1).done hR
      · subst hm; cases h
    · subst hm; cases h
  case index t x i =>
    split at hm
    · rename_i hu
      subst hm
      obtain ⟨h1, rfl⟩ := lift_some h
      exact (sim_indexStr hu (hfg x) (hfg i) h1).done hR
    · rename_i n e hu
      split at hm
      · rename_i he
        subst hm
        obtain ⟨h1, rfl⟩ := lift_some h
        exact (sim_indexArr hu he (hfg x) (hfg i) h1).done hR
      · subst hm; cases h
    · subst hm; cases h
  case lookup t m k ok =>
    split at hm
    · rename_i kt et hu
      split at hm
      · rename_i kk i hkk hi
        split at hm
        · rename_i z hz
          split at hm
          · rename_i hp
            subst hm
            obtain ⟨rfl, h1⟩ := sim_lookup (P := P) hR hu hkk hi hz hp (hfg m) (hfg k) h
            exact h1.done hR
          · subst hm; cases h
        · subst hm; cases h
      · subst hm; cases h
    · subst hm; cases h
  case mapUpdate t m k x =>
    split at hm
    · rename_i kt et hu
      split at hm
      · rename_i kk hkk
        subst hm
        obtain ⟨rfl, w', h1, h2, h3⟩ := sim_update hR hu hkk (hfg m) (hfg k) (hfg x) h
        exact ⟨.skip, w', _, ρ, by simp only [Sem.run_bind, h1, Result.andThen_ok, Sem.run_pure], .inr ⟨rfl, rfl⟩, h2, h3, VRel.undef⟩
      · subst hm; cases h
    · subst hm; cases h
  case range t x =>
    split at hm
    · subst hm; rename_i hu; exact (sim_rangeStr hR hF hu (hfg x) h).done
    · subst hm; rename_i hu; exact (sim_rangeMap hR hF hu (hfg x) h).done
    · subst hm; cases h
  case next it s =>
    cases s with
    | true => subst hm; exact (sim_nextStr hR (hfg it) h).done
    | false => subst hm; exact (sim_nextMap hR (hfg it) h).done
  case entry it =>
    subst hm
    obtain ⟨rfl, hg⟩ := sim_entry (P := P) hR (hfg it) h
    exact hg.done hR
  case extract t i =>
    subst hm
    obtain ⟨h1, rfl⟩ := lift_some h
    exact (sim_extr (hfg t) h1).done hR
  case typeAssert x xt t ok =>
    cases ok with
    | true => subst hm; cases h
    | false =>
      subst hm
      obtain ⟨h1, rfl⟩ := lift_some h
      exact (sim_assert (hfg x) h1).done hR
  case call c =>
    obtain ⟨callee, args, argTypes⟩ := c
    cases callee with
    | value _ => simp [isFnCall] at hnc
    | invoke _ _ => simp [isFnCall] at hnc
    | builtin b =>
      have hex : ∀ s : Sem Value, (∀ args', args' = args.map g → (builtin b argTypes ty ((args.map fun | .const _ => true | _ => false)) args' = do pure (.value (← s)))) →
          Done alc P (do pure (.value (← s))) ρ H w v H' → Done alc P (do
            let d ← resolve g ⟨.builtin b, args, argTypes⟩ ty
            invoke d.target d.args) ρ H w v H' := by
        intro s hs hd
        have e : (do let d ← resolve g ⟨.builtin b, args, argTypes⟩ ty; invoke d.target d.args : Sem Next) = (do pure (.value (← s))) := hs _ rfl
        rw [e]; exact hd
      unfold evCall at hm
      simp only at hm
      split at hm
      · rename_i x y t t' rest ha ht
        have ha' : args = #[x, y] := by apply Array.ext'; exact ha
        subst ha'
        have h0 : argTypes[0]? = some t := by rw [← Array.getElem?_toList, ht]; rfl
        have h1 : argTypes[1]? = some t' := by rw [← Array.getElem?_toList, ht]; rfl
        split at hm
        · subst hm; cases h
        · rename_i e d hni he hd
          unfold elemOfSl at he
          split at he
          · rename_i e' hu
            cases he
            split at hm
            · rename_i z hz
              split at hm
              · rename_i hzl
                subst hm
                refine hex (Builtin.append_ argTypes ty #[g x, g y]) (fun args' e => by subst e; rw [show (#[x, y] : Array Operand).map g = #[g x, g y] from by simp]; rfl) ?_
                exact (sim_append hR hF h0 h1 ⟨hu, d, hd, fun k e => hni k e⟩ hz hzl.1 hzl.2 (hfg x) (hfg y) h).done
              · subst hm; cases h
            · subst hm; cases h
          · cases he
        · subst hm; cases h
      · rename_i x t rest ha ht
        have ha' : args = #[x] := by apply Array.ext'; exact ha
        subst ha'
        have h0 : argTypes[0]? = some t := by rw [← Array.getElem?_toList, ht]; rfl
        subst hm
        unfold lenT at h
        split at h
        · rename_i hd
          cases hu : P.underlying t with
          | none => rw [hu] at hd; cases hf : f x <;> simp [descOk, hf] at hd
          | some d =>
            rw [hu] at hd
            obtain ⟨rfl, hg⟩ := sim_len (P := P) (ty := ty) hR h0 hu hd (hfg x) h
            exact hex (Builtin.len_ argTypes ty #[g x]) (fun args' e => by subst e; rw [show (#[x] : Array Operand).map g = #[g x] from by simp]; rfl) (hg.done hR)
        · cases h
      · rename_i x y t rest ha ht
        have ha' : args = #[x, y] := by apply Array.ext'; exact ha
        subst ha'
        have h0 : argTypes[0]? = some t := by rw [← Array.getElem?_toList, ht]; rfl
        split at hm
        · rename_i e he
          unfold elemOfSl at he
          split at he
          · rename_i e' hu
            cases he
            split at hm
            · rename_i hi
              obtain ⟨i, hi⟩ := Option.isSome_iff_exists.1 hi
              subst hm
              refine hex (Builtin.copy_ argTypes ty #[g x, g y]) (fun args' e => by subst e; rw [show (#[x, y] : Array Operand).map g = #[g x, g y] from by simp]; rfl) ?_
              exact (sim_copy hR h0 hu hi (hfg x) (hfg y) h).done
            · subst hm; cases h
          · cases he
        · subst hm; cases h
      · rename_i x t rest ha ht
        have ha' : args = #[x] := by apply Array.ext'; exact ha
        subst ha'
        have h0 : argTypes[0]? = some t := by rw [← Array.getElem?_toList, ht]; rfl
        split at hm
        · rename_i e he
          unfold elemOfSl at he
          split at he
          · rename_i e' hu
            cases he
            split at hm
            · rename_i z hz
              subst hm
              refine hex (Builtin.clear_ argTypes ty #[g x]) (fun args' e => by subst e; rw [show (#[x] : Array Operand).map g = #[g x] from by simp]; rfl) ?_
              exact (sim_clear hR h0 hu hz (hfg x) h).done
            · subst hm; cases h
          · cases he
        · subst hm; cases h
      · rename_i m k t rest ha ht
        have ha' : args = #[m, k] := by apply Array.ext'; exact ha
        subst ha'
        have h0 : argTypes[0]? = some t := by rw [← Array.getElem?_toList, ht]; rfl
        split at hm
        · rename_i kt et hu
          split at hm
          · rename_i kk hkk
            subst hm
            refine hex (Builtin.delete_ argTypes ty #[g m, g k]) (fun args' e => by subst e; rw [show (#[m, k] : Array Operand).map g = #[g m, g k] from by simp]; rfl) ?_
            exact (sim_delete hR h0 hu hkk (hfg m) (hfg k) h).done
          · subst hm; cases h
        · subst hm; cases h
      · rename_i x ha
        have ha' : args = #[x] := by apply Array.ext'; exact ha
        subst ha'
        subst hm
        obtain ⟨h1, rfl⟩ := lift_some h
        exact hex (Builtin.unsafeSliceData_ argTypes ty #[g x]) (fun args' e => by subst e; rw [show (#[x] : Array Operand).map g = #[g x] from by simp]; rfl) ((sim_data (hfg x) h1).done hR)
      · rename_i x y t rest ha ht
        have ha' : args = #[x, y] := by apply Array.ext'; exact ha
        subst ha'
        have h0 : argTypes[0]? = some t := by rw [← Array.getElem?_toList, ht]; rfl
        subst hm
        exact hex (Builtin.unsafeString_ argTypes ty #[g x, g y]) (fun args' e => by subst e; rw [show (#[x, y] : Array Operand).map g = #[g x, g y] from by simp]; rfl) (sim_strAt hR h0 (hfg x) (hfg y) h).done
      · rename_i x xs ha
        subst hm
        obtain ⟨h1, rfl⟩ := lift_some h
        obtain ⟨vc, h2, h3⟩ := sim_mmAll (P := P) (w := w) (hfg x) (maps_rel hfg xs) h1
        refine hex (Builtin.min_ argTypes ty (args.map g)) (fun args' e => by subst e; rfl) (Gives.done ⟨vc, ?_, h2⟩ hR)
        simp only [Builtin.min_, Array.toList_map, ha, List.map_cons]
        simpa using h3
      · rename_i x xs ha
        subst hm
        obtain ⟨h1, rfl⟩ := lift_some h
        obtain ⟨vc, h2, h3⟩ := sim_mmAll (P := P) (w := w) (hfg x) (maps_rel hfg xs) h1
        refine hex (Builtin.max_ argTypes ty (args.map g)) (fun args' e => by subst e; rfl) (Gives.done ⟨vc, ?_, h2⟩ hR)
        simp only [Builtin.max_, Array.toList_map, ha, List.map_cons]
        simpa using h3
      · subst hm; cases h
  all_goals (subst hm; cases h; done)

end Go.Proofs.YtepchknpgeopfaaGreatDoor.E
