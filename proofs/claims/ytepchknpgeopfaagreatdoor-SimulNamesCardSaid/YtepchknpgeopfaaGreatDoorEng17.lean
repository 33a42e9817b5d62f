/-
  THE ENGINE, part 17: a region that draws: every order does what the chosen one does.
-/
import Derived.Test.YtepchknpgeopfaaGreatDoorEng16
set_option linter.unusedVariables false
set_option linter.unusedSimpArgs false
namespace Go.Proofs.YtepchknpgeopfaaGreatDoor.E
open Go

variable {P : Program}

abbrev Lst (listed : Array Bool) (j : Nat) : Prop := listed.getD j false = true

theorem lst_set {listed : Array Bool} {i j : Nat} (hi : i < listed.size) : Lst (listed.setIfInBounds i true) j ↔ Lst listed j ∨ j = i := by
  unfold Lst
  by_cases e : i = j
  · subst e; simp [hi]
  · rw [getD_set_ne false e]
    constructor
    · exact .inl
    · rintro (h | h)
      · exact h
      · exact absurd h.symm e

/-- The heap, when so many operations are listed. -/
structure HI (P : Program) (base : Nat) (ops : Array Oper) (ord : List Nat) (Hc : Nat → AH) (L : Nat → Prop) (p : Nat) (G : AH) : Prop where
  ple : p ≤ ord.length
  hp : p = 0 ∨ ∃ e, 0 < p ∧ ord[p - 1]? = some e ∧ kd P ops e = .eff ∧ L e
  noeff : ∀ (q : Nat) e, p ≤ q → ord[q]? = some e → kd P ops e = .eff → ¬ L e
  gn : G.next = (Hc p).next
  g1 : ∀ j (q : Nat), ord[q]? = some j → p ≤ q → Mk P base ops Hc j q → L j → G.at_ (base + j) = (Hc (q + 1)).at_ (base + j)
  g2 : ∀ b, (∀ j (q : Nat), ord[q]? = some j → p ≤ q → Mk P base ops Hc j q → L j → b ≠ base + j) → G.at_ b = (Hc p).at_ b
  no : ∀ j (q : Nat), ord[q]? = some j → p ≤ q → (Hc p).at_ (base + j) = none
  low : base + ops.size ≤ (Hc p).next

structure Inv (P : Program) (n base : Nat) (ops : Array Oper) (ord : List Nat) (F : Nat → Fr) (Hc : Nat → AH) (ρ0 : Emb) (H0 : AH) (w0 : World) (L : Nat → Prop) (ρ : Emb) (a : Act) (w : World) (p : Nat) (G : AH) : Prop where
  closed : Closed ops L
  heap : HI P base ops ord Hc L p G
  rel : Rel ρ G w
  rfree : ∀ j, j < ops.size → ¬ L j → ρ (base + j) = none
  evo : Evo none ρ0 H0 w0 ρ G w
  defers : a.defers = []
  tsize : a.tmps.size = n
  fr : ∀ d, ∃ pd, pd ≤ ord.length ∧ (∀ (q : Nat) i o, ord[q]? = some i → ops[i]? = some o → o.dst = some d → (L i ↔ q < pd)) ∧ VRel ρ (F pd d) (a.tmps.getD d undef)

theorem names_spec {ops : Array Oper} {o : Oper} {d : Tmp} (h : seenBy ops o d ∨ o.dst = some d) : (namesOf o ++ guardTmp ops o).contains d = true := by
  rw [List.contains_iff_mem]
  rcases h with (⟨x, hx, rfl⟩ | ⟨j, w, hg, hd⟩) | h
  · refine List.mem_append_left _ (List.mem_append_right _ (List.mem_filterMap.2 ⟨.tmp d, by simpa using hx, rfl⟩))
  · refine List.mem_append_right _ ?_
    unfold guardTmp
    simp only [hg, hd]
    simp
  · exact List.mem_append_left _ (List.mem_append_left _ (by simp [h]))

theorem slots_spec {ops : Array Oper} (h : slotsOk ops (befores ops) = true) {i k : Nat} {o ok : Oper} {d : Tmp} (ho : ops[i]? = some o) (hk : ops[k]? = some ok) (hne : k ≠ i) (hd : ok.dst = some d)
    (hs : seenBy ops o d ∨ o.dst = some d) : comesBefore (befores ops) i k = true ∨ comesBefore (befores ops) k i = true := by
  unfold slotsOk at h
  rw [List.all_eq_true] at h
  have m : ∀ {j : Nat} {oj : Oper}, ops[j]? = some oj → (oj, j) ∈ ops.toList.zipIdx := fun {j oj} hj => by
    rw [List.mem_zipIdx_iff_getElem?]; simpa using hj
  have h1 := h (ok, k) (m hk)
  simp only [List.all_eq_true] at h1
  have h2 := h1 (o, i) (m ho)
  simp only [hd, names_spec hs, Bool.not_true, Bool.false_or, Bool.or_eq_true, beq_iff_eq] at h2
  rcases h2 with h2 | h2 | h2
  · exact absurd h2.symm hne
  · exact .inl h2
  · exact .inr h2

section
variable {call : CallF} {n base : Nat} {ops : Array Oper} {fr0 : Fr} {Hs : AH} {s : PS} {sv : Nat → Option (Fr × Value)} {frE : Fr} {HE : AH} {ord : List Nat} {F : Nat → Fr} {Hc : Nat → AH} {V : Nat → Value}
variable {ρ0 : Emb} {H0 : AH} {w0 : World} {L L' : Nat → Prop} {ρ : Emb} {a : Act} {w : World} {p : Nat} {G : AH}

/-- An operation that is no effect and makes no block leaves the heap as it is. -/
theorem HI.same (hA : Acc P call n base ops fr0 Hs s sv frE HE ord F Hc V) (h : HI P base ops ord Hc L p G) {i q : Nat} (hq : ord[q]? = some i) (hL : ∀ j, L' j ↔ L j ∨ j = i) (hk : kd P ops i ≠ .eff) (hm : ¬ Mk P base ops Hc i q) : HI P base ops ord Hc L' p G where
  ple := h.ple
  hp := h.hp.imp id fun ⟨e, a, b, c, d⟩ => ⟨e, a, b, c, (hL e).2 (.inl d)⟩
  noeff q' e hpq hq' hke hl := by
    rcases (hL e).1 hl with g | g
    · exact h.noeff q' e hpq hq' hke g
    · subst g; exact hk hke
  gn := h.gn
  g1 j q' hq' hpq hmk hl := by
    rcases (hL j).1 hl with g | g
    · exact h.g1 j q' hq' hpq hmk g
    · subst g; rw [hA.uniq hq hq'] at hm; exact absurd hmk hm
  g2 b hb := h.g2 b fun j q' a b c d => hb j q' a b c ((hL j).2 (.inl d))
  no := h.no
  low := h.low

theorem Mk.not_same {j q : Nat} (h : Mk P base ops Hc j q) : Hc (q + 1) ≠ Hc q := by
  obtain ⟨_, x, _, h1, h2⟩ := h
  intro e
  have : (Hc (q + 1)).at_ (base + j) = some x := by rw [h2]; simp [AH.with]
  rw [e, h1] at this
  cases this

theorem Inv.step {Q : Exit → Act → World → Prop} (hc : CallOk P call) (hA : Acc P call n base ops fr0 Hs s sv frE HE ord F Hc V) (hdue : s.due = []) (hsl : slotsOk ops (befores ops) = true) (hbase : H0.next ≤ base)
    (hI : Inv P n base ops ord F Hc ρ0 H0 w0 L ρ a w p G) {i q : Nat} {o : Oper} (hq : ord[q]? = some i) (ho : ops[i]? = some o) (hi : ¬ L i) (hr : ∀ e ∈ o.after, Region.binds .any e = true → L e.on) (hL : ∀ j, L' j ↔ L j ∨ j = i)
    {K : Act → World → Prop} (hK : ∀ ρ' a' w' p' G', Inv P n base ops ord F Hc ρ0 H0 w0 L' ρ' a' w' p' G' → K a' w') : wpOp P ops Q i K a w := by
  have hlt : i < ops.size := hA.lt i (List.mem_of_getElem? hq)
  have qlt : q < ord.length := (List.getElem?_eq_some_iff.1 hq).1
  have hkd : kd P ops i = opKind P o.op := kd_eq ho
  have rB : ∀ j, comesBefore (befores ops) j i = true → L j := fun j hb => hA.readyB hI.closed hq ho hr hb
  have nS : ∀ {j q' : Nat}, ord[q']? = some j → L j → comesBefore (befores ops) i j = true → False := fun hq' hj hb => hi (hA.closed hI.closed _ _ _ hq' hj hb)
  have hop := hA.run q i o hq ho
  -- the slots that the operation names
  have named : ∀ d, seenBy ops o d ∨ o.dst = some d → VRel ρ (F q d) (a.tmps.getD d undef) := by
    intro d hd
    obtain ⟨pd, hpd, hw, hv⟩ := hI.fr d
    have cl : ∀ (q' : Nat) k ok, ord[q']? = some k → ops[k]? = some ok → ok.dst = some d → k ≠ i → (L k ↔ q' < q) := by
      intro q' k ok hq' hok hdk hne
      rcases slots_spec hsl ho hok hne hdk hd with hb | hb
      · constructor
        · intro hl; exact absurd hb (fun hb => nS hq' hl hb)
        · intro hl
          obtain ⟨q2, h1, h2⟩ := hA.before q' k i hq' hb
          have := hA.uniq hq h2
          omega
      · constructor
        · intro _
          obtain ⟨q2, h1, h2⟩ := hA.before q i k hq hb
          have := hA.uniq hq' h2
          omega
        · intro _; exact rB k hb
    have : F q d = F pd d := by
      rcases Nat.le_total pd q with h1 | h1
      · refine hA.frame q h1 (Nat.le_of_lt qlt) fun q' k ok a1 a2 hq' hok hdk => ?_
        have hne : k ≠ i := fun e => by subst e; have := hA.uniq hq hq'; omega
        have hl := (cl q' k ok hq' hok hdk hne).2 a2
        have := (hw q' k ok hq' hok hdk).1 hl
        omega
      · refine (hA.frame pd h1 hpd fun q' k ok a1 a2 hq' hok hdk => ?_).symm
        have hl := (hw q' k ok hq' hok hdk).2 a2
        have hne : k ≠ i := fun e => by subst e; exact hi hl
        have := (cl q' k ok hq' hok hdk hne).1 hl
        omega
    rw [this]; exact hv
  classical
  let hyb : Fr := fun d => if seenBy ops o d ∨ o.dst = some d then F q d else junk
  have hfr : FrRel ρ n hyb a := ⟨hI.defers, hI.tsize, fun d => by
    show VRel ρ (if seenBy ops o d ∨ o.dst = some d then F q d else junk) _
    split
    · rename_i h; exact named d h
    · exact .junk _⟩
  have hcg : ∀ alc, evG P call alc ops hyb o = evG P call alc ops (F q) o := fun alc => evG_congr fun t ht => if_pos (.inl ht)
  have hfree : Free ρ (some (base + i)) := fun b hb => by cases hb; exact hI.rfree i hlt hi
  have hclosed : Closed ops L' := fun j oj hj hoj e he hb => (hL e.on).2 (by
    rcases (hL j).1 hj with g | g
    · exact .inl (hI.closed j oj g hoj e he hb)
    · subst g; rw [ho] at hoj; cases hoj; exact .inl (hr e he hb))
  -- what is left when the heap is settled
  have fin : ∀ vc ρ' w' p' G', Rel ρ' G' w' → Evo (some (base + i)) ρ G w ρ' G' w' → VRel ρ' (V i) vc → HI P base ops ord Hc L' p' G' → K (a.put o.dst vc) w' := by
    intro vc ρ' w' p' G' h1 h2 h3 h4
    refine hK ρ' _ w' p' G' ⟨hclosed, h4, h1, fun j hj hnl => ?_, hI.evo.then h2 (by omega), ?_, ?_, fun d => ?_⟩
    · have hnl' : ¬ L j := fun h => hnl ((hL j).2 (.inl h))
      have hji : j ≠ i := fun e => hnl ((hL j).2 (.inr e))
      refine h2.low (base + j) ?_ (fun e => by simp only [Option.some.injEq] at e; omega) (hI.rfree j hj hnl')
      rw [hI.heap.gn]
      have := hI.heap.low
      omega
    · exact ((hfr.mono h2.ext).put h3 o.dst).defers
    · exact ((hfr.mono h2.ext).put h3 o.dst).size
    · by_cases hd : o.dst = some d
      · refine ⟨q + 1, qlt, fun q' k ok hq' hok hdk => ?_, ?_⟩
        · rw [hL]
          by_cases hki : k = i
          · subst hki
            have := hA.uniq hq hq'
            exact ⟨fun _ => by omega, fun _ => .inr rfl⟩
          · have hqq : q' ≠ q := fun e => by subst e; rw [hq] at hq'; cases hq'; exact hki rfl
            rcases slots_spec hsl ho hok hki hdk (.inr hd) with hb | hb
            · constructor
              · rintro (hl | hl)
                · exact absurd hb (fun hb => nS hq' hl hb)
                · exact absurd hl hki
              · intro hl
                obtain ⟨q2, g1, g2⟩ := hA.before q' k i hq' hb
                have := hA.uniq hq g2
                omega
            · constructor
              · intro _
                obtain ⟨q2, g1, g2⟩ := hA.before q i k hq hb
                have := hA.uniq hq' g2
                omega
              · intro _; exact .inl (rB k hb)
        · have := ((hfr.mono h2.ext).put h3 o.dst).rel d
          have e : F (q + 1) d = putF n hyb o.dst (V i) d := by
            rw [hA.fr q i o hq ho, hd]
            simp only [putF]
            by_cases hl : d < n
            · rw [if_pos hl, if_pos hl, Nat.beq_refl]; rfl
            · rw [if_neg hl, if_neg hl]
              show F q d = if seenBy ops o d ∨ o.dst = some d then F q d else junk
              rw [if_pos (.inr hd)]
          rw [e]; exact this
      · obtain ⟨pd, hpd, hw, hv⟩ := hI.fr d
        refine ⟨pd, hpd, fun q' k ok hq' hok hdk => ?_, ?_⟩
        · have hki : k ≠ i := fun e => by subst e; rw [ho] at hok; cases hok; exact hd hdk
          rw [hL, ← hw q' k ok hq' hok hdk]
          exact ⟨fun h => h.resolve_right hki, .inl⟩
        · have : (a.put o.dst vc).tmps.getD d undef = a.tmps.getD d undef := by
            cases hdd : o.dst with
            | none => rfl
            | some d' =>
              have hne : d' ≠ d := fun e => hd (by rw [hdd, e])
              simp only [Act.put]
              rw [Array.getD_eq_getD_getElem?, Array.getElem?_setIfInBounds_ne hne, ← Array.getD_eq_getD_getElem?]
          rw [this]; exact hv.mono h2.ext
  -- into the model's words
  have go : ∀ {alc : Option Nat} {S S' : AH}, Rel ρ S w → Free ρ alc → evG P call alc ops (F q) o S = some (V i, S') →
      (∀ vc w' ρ', Rel ρ' S' w' → Evo alc ρ S w ρ' S' w' → VRel ρ' (V i) vc → K (a.put o.dst vc) w') → wpOp P ops Q i K a w := by
    intro alc S S' h1 h2 h3 h4
    have := evG_sim (Q := Q) hc h1 hfr h2 (by rw [hcg]; exact h3) h4
    unfold wpOp
    rw [ho]
    exact this
  have hG0 : G.at_ (base + i) = none := by
    cases h : G.at_ (base + i) with
    | none => rfl
    | some x => obtain ⟨j, hj, _⟩ := hI.rel.blk _ x h; rw [hI.rfree i hlt hi] at hj; cases hj
  have hGl : base + i < G.next := by rw [hI.heap.gn]; have := hI.heap.low; omega
  -- the blocks made early
  have mkL : ∀ {j q' : Nat}, Mk P base ops Hc j q' → ∃ x, x.wr = true ∧ (Hc (q' + 1)).at_ (base + j) = some x := by
    rintro j q' ⟨_, x, h1, _, h2⟩
    exact ⟨x, h1, by rw [h2]; simp [AH.with]⟩
  cases hkk : opKind P o.op with
  | pure =>
    have hki : kd P ops i ≠ .eff := by rw [hkd, hkk]; exact fun h => by cases h
    refine go (alc := some (base + i)) hI.rel hfree ((pureG hkk _ _ _ hop).2 G) fun vc w' ρ' h1 h2 h3 => fin vc ρ' w' p G h1 h2 h3 (hI.heap.same hA hq hL hki fun hm => ?_)
    have := hm.1
    rw [hkd, hkk] at this; cases this
  | alloc =>
    have hki : kd P ops i ≠ .eff := by rw [hkd, hkk]; exact fun h => by cases h
    rcases makeG hkk _ _ _ hop with ⟨e, h⟩ | ⟨x, hx, hl, h0, e, h⟩
    · refine go (alc := some (base + i)) hI.rel hfree (h G) fun vc w' ρ' h1 h2 h3 => fin vc ρ' w' p G h1 h2 h3 (hI.heap.same hA hq hL hki fun hm => hm.not_same e)
    · have hm : Mk P base ops Hc i q := ⟨hkd.trans hkk, x, hx, h0, e⟩
      have hpq : p ≤ q := by
        rcases hI.heap.hp with h | ⟨e1, h1, h2, h3, h4⟩
        · omega
        · by_cases hle : p ≤ q
          · exact hle
          · have hne : p - 1 ≠ q := fun e => by
              rw [e, hq] at h2; cases h2; exact hi h4
            exact absurd (hA.allocs (p - 1) e1 h2 h3 q i (by omega) hq (hkd.trans hkk)) fun hb => nS h2 h4 hb
      refine go (alc := some (base + i)) hI.rel hfree (h G hGl hG0) fun vc w' ρ' h1 h2 h3 => fin vc ρ' w' p _ h1 h2 h3 ?_
      refine ⟨hI.heap.ple, hI.heap.hp.imp id fun ⟨e, a, b, c, d⟩ => ⟨e, a, b, c, (hL e).2 (.inl d)⟩, fun q' e hpq hq' hke hl => ?_, hI.heap.gn, fun j q' hq' hpq' hmk hl => ?_, fun b hb => ?_, hI.heap.no, hI.heap.low⟩
      · rcases (hL e).1 hl with g | g
        · exact hI.heap.noeff q' e hpq hq' hke g
        · subst g; exact hki hke
      · by_cases hji : j = i
        · subst hji
          have := hA.uniq hq hq'
          subst this
          rw [e]
          simp [AH.with]
        · have : base + j ≠ base + i := by omega
          simp only [AH.with, if_neg this]
          exact hI.heap.g1 j q' hq' hpq' hmk (((hL j).1 hl).resolve_right hji)
      · have : b ≠ base + i := hb i q hq hpq hm ((hL i).2 (.inr rfl))
        simp only [AH.with, if_neg this]
        exact hI.heap.g2 b fun j q' a b c d => hb j q' a b c ((hL j).2 (.inl d))
  | read =>
    have hki : kd P ops i ≠ .eff := by rw [hkd, hkk]; exact fun h => by cases h
    have hkr : kd P ops i = .read := hkd.trans hkk
    -- the look, at the heap behind the last effect
    have look : ∃ alc, (alc = none ∨ alc = some (base + i)) ∧ evG P call alc ops (F q) o (Hc p) = some (V i, Hc p) := by
      rcases Nat.lt_or_ge q p with hpq | hpq
      · rcases hI.heap.hp with h | ⟨e1, h1, h2, h3, h4⟩
        · omega
        · have hne : p - 1 ≠ q := fun e => by
            rw [e, hq] at h2; cases h2; exact hi h4
          have hnb : comesBefore (befores ops) i e1 = false := by
            cases hb : comesBefore (befores ops) i e1 with
            | false => rfl
            | true => exact (nS h2 h4 hb).elim
          rcases hA.again q i o (p - 1) e1 hq ho hkr (by omega) h2 h3 hnb with ⟨hd, _⟩ | ⟨H', hH⟩
          · rw [hdue] at hd; cases hd
          · rw [show p - 1 + 1 = p by omega] at hH
            have := readG hkk _ _ _ hH
            subst this
            exact ⟨none, .inl rfl, hH⟩
      · have hne : ∀ q' j, p ≤ q' → q' < q → ord[q']? = some j → kd P ops j ≠ .eff := fun q' j a1 a2 hq' hk =>
          hI.heap.noeff q' j a1 hq' hk (hA.effsL hI.closed _ q i q' j rfl hq (.inr hkr) rB a2 hq' hk)
        obtain ⟨s1, s2, _⟩ := hA.seg q hpq (Nat.le_of_lt qlt) hne
        have hH : Hc q = Hc p := AH.ext s1 fun b => s2 b fun j q' hq' a1 a2 hm => by
          obtain ⟨q2, j2, b1, b2, b3, b4⟩ := hA.noalloc q i hq hkr q' j a2 hq' hm.1
          exact absurd b4 (hne q2 j2 (by omega) b2 b3)
        have := readG hkk _ _ _ hop
        rw [this] at hop
        rw [hH] at hop
        exact ⟨some (base + i), .inr rfl, hop⟩
    obtain ⟨alc, halc, hlk⟩ := look
    have hfr' : Free ρ alc := by
      rcases halc with rfl | rfl
      · intro b hb; cases hb
      · exact hfree
    let E : Nat → Prop := fun b => ∃ j q', ord[q']? = some j ∧ p ≤ q' ∧ Mk P base ops Hc j q' ∧ L j ∧ b = base + j
    have hEo : ∀ b, ¬ E b → G.at_ b = (Hc p).at_ b := fun b hb => hI.heap.g2 b fun j q' h1 h2 h3 h4 e => hb ⟨j, q', h1, h2, h3, h4, e⟩
    have hEi : ∀ b, E b → b < (Hc p).next ∧ some (base + i) ≠ some b ∧ (Hc p).at_ b = none ∧ ∀ x, G.at_ b = some x → x.wr = true := by
      rintro b ⟨j, q', h1, h2, h3, h4, rfl⟩
      have hj := hA.lt j (List.mem_of_getElem? h1)
      refine ⟨by have := hI.heap.low; omega, fun e => ?_, hI.heap.no j q' h1 h2, fun x hx => ?_⟩
      · simp only [Option.some.injEq] at e
        have : i = j := by omega
        subst this; exact hi h4
      · rw [hI.heap.g1 j q' h1 h2 h3 h4] at hx
        obtain ⟨y, hy, e⟩ := mkL h3
        rw [e] at hx; cases hx; exact hy
    have hsub : Rel ρ (Hc p) w := hI.rel.sub hI.heap.gn.symm fun b x hx => by
      by_cases e : E b
      · rw [(hEi b e).2.2.1] at hx; cases hx
      · rw [hEo b e]; exact hx
    refine go hsub hfr' hlk fun vc w' ρ' h1 h2 h3 => ?_
    have h2' : Evo (some (base + i)) ρ (Hc p) w ρ' (Hc p) w' := by
      rcases halc with rfl | rfl
      · exact h2.weaken
      · exact h2
    obtain ⟨m1, m2⟩ := Rel.more hI.rel hI.heap.gn.symm hEi hEo h1 h2'
    have hov : over E G (Hc p) = G := AH.ext hI.heap.gn.symm fun b => by
      by_cases e : E b
      · rw [over_in e]
      · rw [over_out e, hEo b e]
    rw [hov] at m1 m2
    refine fin vc ρ' w' p G m1 m2 h3 (hI.heap.same hA hq hL hki fun hm => ?_)
    have := hm.1
    rw [hkr] at this; cases this
  | eff =>
    have hke : kd P ops i = .eff := hkd.trans hkk
    have effL : ∀ (q' e : Nat), q' < q → ord[q']? = some e → kd P ops e = .eff → L e := fun q' e a1 a2 a3 => hA.effsL hI.closed _ q i q' e rfl hq (.inl hke) rB a1 a2 a3
    have hpq : p ≤ q := by
      rcases hI.heap.hp with h | ⟨e1, h1, h2, h3, h4⟩
      · omega
      · by_cases hle : p ≤ q
        · exact hle
        · have hne : p - 1 ≠ q := fun e => by
            rw [e, hq] at h2; cases h2; exact hi h4
          exact absurd (hA.effsL hI.closed _ (p - 1) e1 q i rfl h2 (.inl h3) (fun j hb => hA.closed hI.closed _ _ _ h2 h4 hb) (by omega) hq hke) hi
    have hne : ∀ q' j, p ≤ q' → q' < q → ord[q']? = some j → kd P ops j ≠ .eff := fun q' j a1 a2 hq' hk => hI.heap.noeff q' j a1 hq' hk (effL q' j a2 hq' hk)
    obtain ⟨s1, s2, s3⟩ := hA.seg q hpq (Nat.le_of_lt qlt) hne
    have allL : ∀ {j q' : Nat}, ord[q']? = some j → q' < q → Mk P base ops Hc j q' → L j := fun h1 h2 h3 => rB _ (hA.allocs q i hq hke _ _ h2 h1 h3.1)
    -- what the chosen order has not made yet
    have hno : ∀ {j q' : Nat}, ord[q']? = some j → q ≤ q' → (Hc q).at_ (base + j) = none := by
      intro j q' h1 h2
      rw [s2 (base + j) fun j2 q2 k1 k2 k3 k4 e => ?_]
      · exact hI.heap.no j q' h1 (by omega)
      · have : j = j2 := by omega
        subst this
        have := hA.uniq h1 k1
        omega
    let E : Nat → Prop := fun b => ∃ j q', ord[q']? = some j ∧ q + 1 ≤ q' ∧ Mk P base ops Hc j q' ∧ L j ∧ b = base + j
    have hEo : ∀ b, ¬ E b → G.at_ b = (Hc q).at_ b := by
      intro b hb
      by_cases hm : ∃ j q', ord[q']? = some j ∧ p ≤ q' ∧ Mk P base ops Hc j q' ∧ L j ∧ b = base + j
      · obtain ⟨j, q', h1, h2, h3, h4, e⟩ := hm
        have hlt' : q' < q := by
          rcases Nat.lt_trichotomy q' q with g | g | g
          · exact g
          · subst g; rw [hq] at h1; cases h1; exact absurd h4 hi
          · exact absurd ⟨j, q', h1, g, h3, h4, e⟩ hb
        rw [e, hI.heap.g1 j q' h1 h2 h3 h4, s3 j q' h1 h2 hlt' h3]
      · rw [hI.heap.g2 b fun j q' h1 h2 h3 h4 e => hm ⟨j, q', h1, h2, h3, h4, e⟩, s2 b fun j q' h1 h2 h3 h4 e => hm ⟨j, q', h1, h2, h4, allL h1 h3 h4, e⟩]
    have hEi : ∀ b, E b → b < (Hc q).next ∧ some (base + i) ≠ some b ∧ (Hc q).at_ b = none ∧ ∀ x, G.at_ b = some x → x.wr = true := by
      rintro b ⟨j, q', h1, h2, h3, h4, rfl⟩
      have hj := hA.lt j (List.mem_of_getElem? h1)
      refine ⟨by rw [s1]; have := hI.heap.low; omega, fun e => ?_, hno h1 (by omega), fun x hx => ?_⟩
      · simp only [Option.some.injEq] at e
        have : i = j := by omega
        subst this; exact hi h4
      · rw [hI.heap.g1 j q' h1 (by omega) h3 h4] at hx
        obtain ⟨y, hy, e⟩ := mkL h3
        rw [e] at hx; cases hx; exact hy
    have hgn : (Hc q).next = G.next := by rw [s1, hI.heap.gn]
    have hsub : Rel ρ (Hc q) w := hI.rel.sub hgn fun b x hx => by
      by_cases e : E b
      · rw [(hEi b e).2.2.1] at hx; cases hx
      · rw [hEo b e]; exact hx
    refine go (alc := some (base + i)) hsub hfree hop fun vc w' ρ' h1 h2 h3 => ?_
    obtain ⟨m1, m2⟩ := Rel.more hI.rel hgn hEi hEo h1 h2
    refine fin vc ρ' w' (q + 1) _ m1 m2 h3 ⟨qlt, .inr ⟨i, by omega, by simpa using hq, hke, (hL i).2 (.inr rfl)⟩, fun q' e hpq' hq' hke' hl => ?_, rfl, fun j q' hq' hpq' hmk hl => ?_, fun b hb => ?_, fun j q' hq' hpq' => ?_, ?_⟩
    · rcases (hL e).1 hl with g | g
      · exact hI.heap.noeff q' e (by omega) hq' hke' g
      · subst g; have := hA.uniq hq hq'; omega
    · have hji : j ≠ i := fun e => by subst e; have := hA.uniq hq hq'; omega
      have hLj := ((hL j).1 hl).resolve_right hji
      rw [over_in ⟨j, q', hq', hpq', hmk, hLj, rfl⟩]
      exact hI.heap.g1 j q' hq' (by omega) hmk hLj
    · exact over_out fun ⟨j, q', k1, k2, k3, k4, k5⟩ => hb j q' k1 k2 k3 ((hL j).2 (.inl k4)) k5
    · have hj := hA.lt j (List.mem_of_getElem? hq')
      refine h2.dead (base + j) (by rw [s1]; have := hI.heap.low; omega) (fun e => ?_) (hno hq' (by omega))
      simp only [Option.some.injEq] at e
      have : i = j := by omega
      subst this
      have := hA.uniq hq hq'
      omega
    · have := h2.next
      have := hI.heap.low
      rw [s1] at *
      omega

end

end Go.Proofs.YtepchknpgeopfaaGreatDoor.E
