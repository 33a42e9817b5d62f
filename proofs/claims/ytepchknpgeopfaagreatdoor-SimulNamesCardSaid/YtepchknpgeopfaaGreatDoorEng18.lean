/-
  THE ENGINE, part 18: a region that draws, whole.
-/
import Derived.Test.YtepchknpgeopfaaGreatDoorEng17
set_option linter.unusedVariables false
set_option linter.unusedSimpArgs false
namespace Go.Proofs.YtepchknpgeopfaaGreatDoor.E
open Go

variable {P : Program}

section
variable {call : CallF} {n base : Nat} {ops : Array Oper} {fr0 : Fr} {Hs : AH} {s : PS} {sv : Nat → Option (Fr × Value)} {frE : Fr} {HE : AH} {ord : List Nat} {F : Nat → Fr} {Hc : Nat → AH} {V : Nat → Value}
variable {ρ0 : Emb} {H0 : AH} {w0 : World}

theorem wpAny_of {Q : Exit → Act → World → Prop} (hc : CallOk P call) (hA : Acc P call n base ops fr0 Hs s sv frE HE ord F Hc V) (hdue : s.due = []) (hsl : slotsOk ops (befores ops) = true) (hall : ∀ i, i < ops.size → i ∈ ord) (hbase : H0.next ≤ base)
    (hQ : ∀ a w ρ, Rel ρ HE w → FrRel ρ n frE a → Evo none ρ0 H0 w0 ρ HE w → Q .normal a w) :
    ∀ (fuel : Nat) (listed : Array Bool) (ρ : Emb) (a : Act) (w : World) (p : Nat) (G : AH), listed.size = ops.size → Inv P n base ops ord F Hc ρ0 H0 w0 (Lst listed) ρ a w p G →
      (∃ l : List Nat, l.length = fuel ∧ ∀ j, j < ops.size → ¬ Lst listed j → j ∈ l) → wpAny P .any ops Q fuel listed a w := by
  have getT : ∀ {listed : Array Bool} {j : Nat}, listed.size = ops.size → j < ops.size → (listed.getD j true = false ↔ ¬ Lst listed j) := by
    intro listed j hs hj
    have : j < listed.size := by omega
    simp [Lst, Array.getD, this]
  have posn : ∀ {i : Nat}, i < ops.size → ∃ q, ord[q]? = some i := fun h => by
    obtain ⟨q, hq, e⟩ := List.getElem_of_mem (hall _ h)
    exact ⟨q, by rw [List.getElem?_eq_getElem hq, e]⟩
  -- when nothing is ready, all is listed
  have full : ∀ {listed : Array Bool}, listed.size = ops.size → Region.ready .any ops listed = [] → ∀ (q i : Nat), ord[q]? = some i → Lst listed i := by
    intro listed hs hr q
    induction q using Nat.strongRecOn with
    | ind q ih =>
      intro i hq
      cases hb : listed.getD i false with
      | true => exact hb
      | false =>
        have hi := hA.lt i (List.mem_of_getElem? hq)
        obtain ⟨o, ho⟩ := hA.op hq
        have : i ∈ Region.ready .any ops listed := mem_ready.2 ⟨(getT hs hi).2 (by simp [Lst, hb]), o, ho, fun e he hbi => by
          obtain ⟨q', h1, h2⟩ := hA.asks q i o hq ho e he hbi
          exact ih q' h1 e.on h2⟩
        rw [hr] at this
        cases this
  -- then the state is the last one
  have close : ∀ {listed : Array Bool} {ρ : Emb} {a : Act} {w : World} {p : Nat} {G : AH}, listed.size = ops.size → Inv P n base ops ord F Hc ρ0 H0 w0 (Lst listed) ρ a w p G →
      Region.ready .any ops listed = [] → Q .normal a w := by
    intro listed ρ a w p G hs hI hr
    have hL := full hs hr
    obtain ⟨s1, s2, s3⟩ := hA.seg ord.length hI.heap.ple (Nat.le_refl _) fun q' j a1 _ hq' hk => hI.heap.noeff q' j a1 hq' hk (hL q' j hq')
    have hG : G = HE := by
      rw [← hA.Hn]
      refine AH.ext (by rw [s1, hI.heap.gn]) fun b => ?_
      by_cases hm : ∃ j q', ord[q']? = some j ∧ p ≤ q' ∧ Mk P base ops Hc j q' ∧ b = base + j
      · obtain ⟨j, q', h1, h2, h3, e⟩ := hm
        have hlt : q' < ord.length := (List.getElem?_eq_some_iff.1 h1).1
        rw [e, hI.heap.g1 j q' h1 h2 h3 (hL q' j h1), s3 j q' h1 h2 hlt h3]
      · rw [hI.heap.g2 b fun j q' h1 h2 h3 _ e => hm ⟨j, q', h1, h2, h3, e⟩, s2 b fun j q' h1 h2 _ h3 e => hm ⟨j, q', h1, h2, h3, e⟩]
    subst hG
    refine hQ a w ρ hI.rel ⟨hI.defers, hI.tsize, fun d => ?_⟩ hI.evo
    obtain ⟨pd, hpd, hw, hv⟩ := hI.fr d
    have : F ord.length d = F pd d := hA.frame ord.length hpd (Nat.le_refl _) fun q' i o a1 _ hq' ho hd => by
      have := (hw q' i o hq' ho hd).1 (hL q' i hq')
      omega
    rw [← hA.Fn, this]
    exact hv
  intro fuel
  induction fuel with
  | zero =>
    intro listed ρ a w p G hs hI ⟨l, hl, hun⟩
    have hl' : l = [] := List.length_eq_zero_iff.1 hl
    have hr : Region.ready .any ops listed = [] := by
      cases h : Region.ready .any ops listed with
      | nil => rfl
      | cons x xs =>
        have hx : x ∈ Region.ready .any ops listed := by rw [h]; simp
        obtain ⟨h1, o, ho, _⟩ := mem_ready.1 hx
        have hxs : x < ops.size := (Array.getElem?_eq_some_iff.1 ho).1
        have := hun x hxs ((getT hs hxs).1 h1)
        rw [hl'] at this; cases this
    exact ⟨hr, close hs hI hr⟩
  | succ fuel ih =>
    intro listed ρ a w p G hs hI ⟨l, hl, hun⟩
    refine ⟨close hs hI, fun i hi => ?_⟩
    obtain ⟨h1, o, ho, h2⟩ := mem_ready.1 hi
    have his : i < ops.size := (Array.getElem?_eq_some_iff.1 ho).1
    have hnl : ¬ Lst listed i := (getT hs his).1 h1
    obtain ⟨q, hq⟩ := posn his
    refine hI.step (L' := Lst (listed.setIfInBounds i true)) hc hA hdue hsl hbase hq ho hnl h2 (fun j => lst_set (by omega)) fun ρ' a' w' p' G' hI' => ?_
    refine ih _ ρ' a' w' p' G' (by simp [hs]) hI' ⟨l.erase i, ?_, fun j hj hnj => ?_⟩
    · rw [List.length_erase_of_mem (hun i his hnl), hl]; rfl
    · have hne : ¬ (Lst listed j ∨ j = i) := fun h => hnj ((lst_set (by omega)).2 h)
      exact (List.mem_erase_of_ne fun e => hne (.inr e)).2 (hun j hj fun h => hne (.inl h))

end

variable {ρ : Emb} {H H' : AH} {w : World}

/-- A region that draws its order. -/
theorem draw_sim {β : Type} {call : CallF} {n id : Nat} {ops : Array Oper} {steps : List Step} {k : Fr → M β} {fr : Fr} {a : Act} {r : β} {H1 : AH} {Q : Exit → Act → World → Prop} (hm : P.follows .mixedOrders = true) (hc : CallOk P call)
    (hpl : planOk P ops steps = true) (hR : Rel ρ H w) (hf : FrRel ρ n fr a)
    (h : M.bind (reserve ops.size) (fun base => evSteps P call n base ops steps (fun _ => none) k fr) H = some (r, H1))
    (hQ : ∀ fr' a' H' w' ρ', k fr' H' = some (r, H1) → Rel ρ' H' w' → FrRel ρ' n fr' a' → Evo none ρ H w ρ' H' w' → Q .normal a' w') : (Code.region id ops true).wp P Q a w := by
  refine wp_region_any hm ?_
  have hb := bind_some h
  clear h
  obtain ⟨base, H2, h1, h⟩ := hb
  simp only [reserve, Option.some.injEq, Prod.mk.injEq] at h1
  obtain ⟨rfl, rfl⟩ := h1
  unfold planOk at hpl
  simp only [Bool.and_eq_true] at hpl
  obtain ⟨hsl, hpl⟩ := hpl
  cases hp : planGo P ops (befores ops) steps { done := [], effs := [], allocSince := false, due := [] } with
  | none => simp [hp] at hpl
  | some sf =>
    simp only [hp, Bool.and_eq_true, List.isEmpty_iff, List.all_eq_true] at hpl
    obtain ⟨hdue, hdone⟩ := hpl
    have hA0 : Acc P call n H.next ops fr (H.skip ops.size) { done := [], effs := [], allocSince := false, due := [] } (fun _ => none) fr (H.skip ops.size) [] (fun _ => fr) (fun _ => H.skip ops.size) (fun _ => junk) :=
      ⟨rfl, rfl, rfl, rfl, rfl, fun i h => (by cases h), List.nodup_nil, fun q i h => by simp at h, fun q i o h => by simp at h, fun q i o h => by simp at h, fun q i o h => by simp at h, fun q i h => by simp at h, fun q i h => by simp at h,
        fun q i h => by simp at h, fun q i h => by simp at h, fun _ q i h => by simp at h, fun q i o q' e h => by simp at h⟩
    obtain ⟨sv', fr', HE, ord, F, Hc, V, hA, hk⟩ := evSteps_acc steps _ _ _ _ _ _ _ _ hA0 h hp
    have hall : ∀ i, i < ops.size → i ∈ ord := fun i hi => by
      have := hdone i (List.mem_range.2 hi)
      rw [← hA.done] at this
      simpa using this
    have hat : ∀ b, H.next ≤ b → H.at_ b = none := fun b hb => by
      cases hx : H.at_ b with
      | none => rfl
      | some x => have := hR.low hx; omega
    refine wpAny_of (ρ0 := ρ) (H0 := H) (w0 := w) hc hA hdue hsl hall (Nat.le_refl _) (fun a' w' ρ' h1 h2 h3 => hQ fr' a' HE w' ρ' hk h1 h2 h3) ops.size _ ρ a _ 0 (H.skip ops.size) (by simp) ?_
      ⟨List.range ops.size, by simp, fun j hj _ => List.mem_range.2 hj⟩
    have nl : ∀ j, ¬ Lst (Array.replicate ops.size false) j := fun j => by
      unfold Lst
      rw [Array.getD_eq_getD_getElem?, Array.getElem?_replicate]
      split <;> simp
    refine ⟨fun i o hi => absurd hi (nl i), ⟨Nat.zero_le _, .inl rfl, fun q e _ _ _ hl => nl e hl, by rw [hA.H0], fun j q _ _ _ hl => absurd hl (nl j), fun b _ => by rw [hA.H0], fun j q hq _ => ?_, ?_⟩, ?_, fun j _ _ => hR.fresh _ (by omega), ?_, hf.defers, hf.size, fun d => ⟨0, Nat.zero_le _, fun q i o _ _ _ => ⟨fun hl => absurd hl (nl i), fun h => by omega⟩, ?_⟩⟩
    · rw [hA.H0]; exact hat _ (by omega)
    · rw [hA.H0]; exact Nat.le_refl _
    · exact ⟨fun b hb => hR.fresh b (by simp only [AH.skip] at hb; omega), hR.inh, fun b x hx => let ⟨i, hi, hbl⟩ := hR.blk b x hx; ⟨i, hi, hbl.same rfl⟩, hR.inj⟩
    · exact ⟨.refl _, Nat.le_refl _, fun _ _ _ => rfl, fun cb h => .inl h, fun cb h => .inl h, fun _ _ _ h => h, fun _ _ _ h => h, rfl, rfl, Nat.le_add_right _ _⟩
    · rw [hA.F0]; exact hf.rel d

end Go.Proofs.YtepchknpgeopfaaGreatDoor.E
