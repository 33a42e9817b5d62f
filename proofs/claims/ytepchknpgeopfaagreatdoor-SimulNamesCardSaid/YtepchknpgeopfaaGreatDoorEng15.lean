/-
  THE ENGINE, part 15: the chosen order of a region that draws, told as a row of states.
-/
import Derived.Test.YtepchknpgeopfaaGreatDoorEng14
set_option linter.unusedVariables false
set_option linter.unusedSimpArgs false
namespace Go.Proofs.YtepchknpgeopfaaGreatDoor.E
open Go

variable {P : Program}

def kd (P : Program) (ops : Array Oper) (i : Nat) : Kind := match ops[i]? with
  | some o => opKind P o.op
  | none => .pure

theorem kd_eq {ops : Array Oper} {i : Nat} {o : Oper} (h : ops[i]? = some o) : kd P ops i = opKind P o.op := by simp [kd, h]

/-- What one step of the plan asks and does. -/
structure ExStep (P : Program) (ops : Array Oper) (s : PS) (i : Nat) (o : Oper) (s' : PS) : Prop where
  due0 : s.due = []
  fresh : i ∉ s.done
  asks : ∀ e ∈ o.after, Region.binds .any e = true → e.on ∈ s.done
  done : s'.done = i :: s.done
  last : kd P ops i = .eff ∨ kd P ops i = .read → ∀ e, s.effs.head? = some e → comesBefore (befores ops) e i = true
  noalloc : kd P ops i = .read → s.allocSince = false
  allocs : kd P ops i = .eff → ∀ j ∈ s.done, kd P ops j = .alloc → comesBefore (befores ops) j i = true
  ne : kd P ops i ≠ .eff → s'.effs = s.effs ∧ s'.due = [] ∧ (s'.allocSince = false → s.allocSince = false ∧ kd P ops i ≠ .alloc)
  eff : kd P ops i = .eff → s'.effs = i :: s.effs ∧ ∀ j ∈ s.done, kd P ops j = .read → comesBefore (befores ops) j i = false → j ∈ s'.due

theorem planStep_ex {ops : Array Oper} {s s' : PS} {i : Nat} {o : Oper} (ho : ops[i]? = some o) (h : planStep P ops (befores ops) s (.ex i) = some s') : ExStep P ops s i o s' := by
  have ho' : ops.toList[i]? = some o := by simpa using ho
  have hk : kd P ops i = opKind P o.op := kd_eq ho
  unfold planStep at h
  simp only [ho'] at h
  cases hdue : s.due with
  | cons d ds => simp [hdue] at h
  | nil =>
    simp only [hdue] at h
    split at h
    · cases h
    · rename_i h1
      split at h
      · cases h
      · rename_i h2
        rcases hg : o.guard with _ | ⟨jg, wg⟩ <;> simp only [hg] at h
        all_goals
          split at h
          · cases h
          · rename_i h3
            have hfresh : i ∉ s.done := by simpa using h1
            have hasks : ∀ e ∈ o.after, Region.binds .any e = true → e.on ∈ s.done := by
              simp only [Bool.not_eq_true', Bool.not_eq_false, List.all_eq_true, Bool.or_eq_true, Bool.not_eq_eq_eq_not, Bool.not_true, List.contains_iff_mem] at h2
              intro e he hb
              rcases h2 e (by simpa using he) with g | g
              · rw [hb] at g; cases g
              · simpa using g
            cases hkk : opKind P o.op with
            | pure =>
              simp only [hkk] at h
              cases h
              rw [hkk] at hk
              exact ⟨hdue, hfresh, hasks, rfl, by simp [hk], by simp [hk], by simp [hk], fun _ => ⟨rfl, rfl, fun e => ⟨e, by simp [hk]⟩⟩, by simp [hk]⟩
            | alloc =>
              simp only [hkk] at h
              cases h
              rw [hkk] at hk
              exact ⟨hdue, hfresh, hasks, rfl, by simp [hk], by simp [hk], by simp [hk], fun _ => ⟨rfl, rfl, fun e => by cases e⟩, by simp [hk]⟩
            | read =>
              simp only [hkk] at h
              rw [hkk] at hk
              split at h
              · cases h
              · rename_i h4
                cases h
                simp only [Bool.or_eq_true, Bool.not_eq_true', not_or, Bool.not_eq_true, Bool.not_eq_false] at h4
                exact ⟨hdue, hfresh, hasks, rfl, fun _ e he => by simpa [he] using h4.2, fun _ => h4.1, by simp [hk], fun _ => ⟨rfl, rfl, fun e => ⟨e, by simp [hk]⟩⟩, by simp [hk]⟩
            | eff =>
              simp only [hkk] at h
              rw [hkk] at hk
              split at h
              · cases h
              · rename_i h4
                split at h
                · cases h
                · rename_i h5
                  cases h
                  simp only [Bool.not_eq_true', Bool.not_eq_false] at h4
                  simp only [Bool.not_eq_true', Bool.not_eq_false, List.all_eq_true] at h5
                  refine ⟨hdue, hfresh, hasks, rfl, fun _ e he => by simpa [he] using h4, by simp [hk], fun _ j hj hja => ?_, by simp [hk], fun _ => ⟨rfl, fun j hj hjr hb => ?_⟩⟩
                  · have := h5 j hj
                    unfold kd at hja
                    cases hoj : ops[j]? with
                    | none => simp [hoj] at hja
                    | some oj =>
                      simp only [hoj] at hja
                      simp only [Array.getElem?_toList, hoj, hja, Kind.isAlloc, Bool.not_true, Bool.false_or] at this
                      exact this
                  · refine List.mem_filter.2 ⟨hj, ?_⟩
                    unfold kd at hjr
                    cases hoj : ops[j]? with
                    | none => simp [hoj] at hjr
                    | some oj =>
                      simp only [hoj] at hjr
                      simp [hoj, hjr, Kind.isRead, hb]

/-- The states of the chosen order. -/
structure Acc (P : Program) (call : CallF) (n base : Nat) (ops : Array Oper) (fr0 : Fr) (H0 : AH) (s : PS) (sv : Nat → Option (Fr × Value)) (fr : Fr) (H : AH)
    (ord : List Nat) (F : Nat → Fr) (Hc : Nat → AH) (V : Nat → Value) : Prop where
  F0 : F 0 = fr0
  H0 : Hc 0 = H0
  Fn : F ord.length = fr
  Hn : Hc ord.length = H
  done : ord.reverse = s.done
  lt : ∀ i ∈ ord, i < ops.size
  nodup : ord.Nodup
  sv : ∀ (q : Nat) i, ord[q]? = some i → sv i = some (F q, V i)
  asks : ∀ (q : Nat) i o, ord[q]? = some i → ops[i]? = some o → ∀ e ∈ o.after, Region.binds .any e = true → ∃ q', q' < q ∧ ord[q']? = some e.on
  fr : ∀ (q : Nat) i o, ord[q]? = some i → ops[i]? = some o → F (q + 1) = putF n (F q) o.dst (V i)
  run : ∀ (q : Nat) i o, ord[q]? = some i → ops[i]? = some o → evG P call (some (base + i)) ops (F q) o (Hc q) = some (V i, Hc (q + 1))
  last : ∀ (q : Nat) i, ord[q]? = some i → kd P ops i = .eff ∨ kd P ops i = .read → ∀ q' j, q' < q → ord[q']? = some j → kd P ops j = .eff →
    (∀ q'' j', q' < q'' → q'' < q → ord[q'']? = some j' → kd P ops j' ≠ .eff) → comesBefore (befores ops) j i = true
  noalloc : ∀ (q : Nat) i, ord[q]? = some i → kd P ops i = .read → ∀ q' j, q' < q → ord[q']? = some j → kd P ops j = .alloc → ∃ q'' j', q' < q'' ∧ q'' < q ∧ ord[q'']? = some j' ∧ kd P ops j' = .eff
  allocs : ∀ (q : Nat) i, ord[q]? = some i → kd P ops i = .eff → ∀ q' j, q' < q → ord[q']? = some j → kd P ops j = .alloc → comesBefore (befores ops) j i = true
  effs : ∀ (q : Nat) i, ord[q]? = some i → kd P ops i = .eff → (∀ q'' j', q < q'' → ord[q'']? = some j' → kd P ops j' ≠ .eff) → s.effs.head? = some i
  since : s.allocSince = false → ∀ (q : Nat) i, ord[q]? = some i → kd P ops i = .alloc → ∃ q'' j', q < q'' ∧ ord[q'']? = some j' ∧ kd P ops j' = .eff
  again : ∀ (q : Nat) i o q' e, ord[q]? = some i → ops[i]? = some o → kd P ops i = .read → q < q' → ord[q']? = some e → kd P ops e = .eff → comesBefore (befores ops) i e = false →
    (i ∈ s.due ∧ q' + 1 = ord.length) ∨ ∃ H', evG P call none ops (F q) o (Hc (q' + 1)) = some (V i, H')

def upto {α : Type} (m : Nat) (f : Nat → α) (x : α) : Nat → α := fun q => if q ≤ m then f q else x

theorem snoc_get {l : List Nat} {i q j : Nat} (h : (l ++ [i])[q]? = some j) : (q < l.length ∧ l[q]? = some j) ∨ (q = l.length ∧ j = i) := by
  rcases Nat.lt_trichotomy q l.length with h1 | h1 | h1
  · exact .inl ⟨h1, by rwa [List.getElem?_append_left h1] at h⟩
  · subst h1; right; simp at h; exact ⟨rfl, h.symm⟩
  · rw [List.getElem?_eq_none (by simp; omega)] at h; cases h

theorem snoc_old {l : List Nat} {i q j : Nat} (h : l[q]? = some j) : (l ++ [i])[q]? = some j := by
  have : q < l.length := (List.getElem?_eq_some_iff.1 h).1
  rw [List.getElem?_append_left this]; exact h

section
variable {call : CallF} {n base : Nat} {ops : Array Oper} {fr0 : Fr} {H0 : AH} {s s' : PS} {sv : Nat → Option (Fr × Value)} {fr : Fr} {H H' : AH} {ord : List Nat} {F : Nat → Fr} {Hc : Nat → AH} {V : Nat → Value}

theorem Acc.ex (hA : Acc P call n base ops fr0 H0 s sv fr H ord F Hc V) {i : Nat} {o : Oper} {v : Value} (ho : ops[i]? = some o) (hS : ExStep P ops s i o s')
    (hv : evG P call (some (base + i)) ops fr o H = some (v, H')) :
    Acc P call n base ops fr0 H0 s' (fun j => bif Nat.beq j i then some (fr, v) else sv j) (putF n fr o.dst v) H' (ord ++ [i])
      (upto ord.length F (putF n fr o.dst v)) (upto ord.length Hc H') (fun j => if j = i then v else V j) := by
  have hni : i ∉ ord := fun h => hS.fresh (by rw [← hA.done]; simpa using h)
  have hne : ∀ {q j : Nat}, ord[q]? = some j → j ≠ i := fun h e => hni (by subst e; exact List.mem_of_getElem? h)
  have lenlt : ∀ {q j : Nat}, ord[q]? = some j → q < ord.length := fun h => (List.getElem?_eq_some_iff.1 h).1
  have mem : ∀ {j : Nat}, j ∈ s.done → ∃ q, q < ord.length ∧ ord[q]? = some j := fun h => by
    rw [← hA.done] at h
    obtain ⟨q, hq, e⟩ := List.getElem_of_mem (List.mem_reverse.1 h)
    exact ⟨q, hq, by rw [List.getElem?_eq_getElem hq, e]⟩
  have mem' : ∀ {q j : Nat}, ord[q]? = some j → j ∈ s.done := fun h => by rw [← hA.done]; exact List.mem_reverse.2 (List.mem_of_getElem? h)
  have F1 : ∀ {α : Type} (f : Nat → α) (x : α) q, q ≤ ord.length → upto ord.length f x q = f q := fun f x q h => by simp [upto, h]
  have F2 : ∀ {α : Type} (f : Nat → α) (x : α), upto ord.length f x (ord.length + 1) = x := fun f x => if_neg (by omega)
  refine ⟨by rw [F1 _ _ _ (Nat.zero_le _)]; exact hA.F0, by rw [F1 _ _ _ (Nat.zero_le _)]; exact hA.H0, by rw [List.length_append]; exact F2 _ _, by rw [List.length_append]; exact F2 _ _,
    by rw [hS.done, ← hA.done]; simp, ?_, ?_, ?_, ?_, ?_, ?_, ?_, ?_, ?_, ?_, ?_, ?_⟩
  · intro j hj
    rcases List.mem_append.1 hj with h | h
    · exact hA.lt j h
    · simp at h; subst h; exact (Array.getElem?_eq_some_iff.1 ho).1
  · rw [List.nodup_append]
    exact ⟨hA.nodup, by simp, fun a ha b hb => by simp at hb; subst hb; exact fun e => hni (e ▸ ha)⟩
  · intro q j hq
    rcases snoc_get hq with ⟨h1, h2⟩ | ⟨rfl, rfl⟩
    · have hj := hne h2
      have : Nat.beq j i = false := by
        cases hb : Nat.beq j i with
        | false => rfl
        | true => exact absurd (Nat.eq_of_beq_eq_true hb) hj
      simp only [this, cond_false, if_neg hj]
      rw [F1 _ _ _ (Nat.le_of_lt h1)]
      exact hA.sv q j h2
    · simp only [Nat.beq_refl, cond_true, if_true]
      rw [F1 _ _ _ (Nat.le_refl _), hA.Fn]
  · intro q j oj hq hoj e he hb
    rcases snoc_get hq with ⟨h1, h2⟩ | ⟨rfl, rfl⟩
    · obtain ⟨q', g1, g2⟩ := hA.asks q j oj h2 hoj e he hb
      exact ⟨q', g1, snoc_old g2⟩
    · rw [ho] at hoj; cases hoj
      obtain ⟨q', g1, g2⟩ := mem (hS.asks e he hb)
      exact ⟨q', g1, snoc_old g2⟩
  · intro q j oj hq hoj
    rcases snoc_get hq with ⟨h1, h2⟩ | ⟨rfl, rfl⟩
    · rw [F1 _ _ _ (Nat.le_of_lt h1), F1 _ _ _ h1, if_neg (hne h2)]
      exact hA.fr q j oj h2 hoj
    · rw [ho] at hoj; cases hoj
      rw [F2, F1 _ _ _ (Nat.le_refl _), hA.Fn, if_pos rfl]
  · intro q j oj hq hoj
    rcases snoc_get hq with ⟨h1, h2⟩ | ⟨rfl, rfl⟩
    · rw [F1 _ _ _ (Nat.le_of_lt h1), F1 _ _ _ h1, F1 _ _ _ (Nat.le_of_lt h1), if_neg (hne h2)]
      exact hA.run q j oj h2 hoj
    · rw [ho] at hoj; cases hoj
      rw [F2, F1 _ _ _ (Nat.le_refl _), F1 _ _ _ (Nat.le_refl _), hA.Fn, hA.Hn, if_pos rfl]
      exact hv
  · intro q j hq hk q' j2 hlt hq' hk' hbet
    rcases snoc_get hq with ⟨h1, h2⟩ | ⟨rfl, rfl⟩
    · rcases snoc_get hq' with ⟨g1, g2⟩ | ⟨rfl, rfl⟩
      · exact hA.last q j h2 hk q' j2 hlt g2 hk' fun q'' j' a b c => hbet q'' j' a b (snoc_old c)
      · omega
    · rcases snoc_get hq' with ⟨g1, g2⟩ | ⟨rfl, rfl⟩
      · exact hS.last hk j2 (hA.effs q' j2 g2 hk' fun q'' j' a c => hbet q'' j' a (lenlt c) (snoc_old c))
      · omega
  · intro q j hq hk q' j2 hlt hq' hk'
    rcases snoc_get hq with ⟨h1, h2⟩ | ⟨rfl, rfl⟩
    · rcases snoc_get hq' with ⟨g1, g2⟩ | ⟨rfl, rfl⟩
      · obtain ⟨q'', j', a, b, c, d⟩ := hA.noalloc q j h2 hk q' j2 hlt g2 hk'
        exact ⟨q'', j', a, b, snoc_old c, d⟩
      · omega
    · rcases snoc_get hq' with ⟨g1, g2⟩ | ⟨rfl, rfl⟩
      · obtain ⟨q'', j', a, c, d⟩ := hA.since (hS.noalloc hk) q' j2 g2 hk'
        exact ⟨q'', j', a, lenlt c, snoc_old c, d⟩
      · omega
  · intro q j hq hk q' j2 hlt hq' hk'
    rcases snoc_get hq with ⟨h1, h2⟩ | ⟨rfl, rfl⟩
    · rcases snoc_get hq' with ⟨g1, g2⟩ | ⟨rfl, rfl⟩
      · exact hA.allocs q j h2 hk q' j2 hlt g2 hk'
      · omega
    · rcases snoc_get hq' with ⟨g1, g2⟩ | ⟨rfl, rfl⟩
      · exact hS.allocs hk j2 (mem' g2) hk'
      · omega
  · intro q j hq hk hbet
    rcases snoc_get hq with ⟨h1, h2⟩ | ⟨rfl, rfl⟩
    · have hki : kd P ops i ≠ .eff := hbet ord.length i h1 (by simp)
      rw [(hS.ne hki).1]
      exact hA.effs q j h2 hk fun q'' j' a c => hbet q'' j' a (snoc_old c)
    · rw [(hS.eff hk).1]; rfl
  · intro hs q j hq hk
    by_cases hki : kd P ops i = .eff
    · rcases snoc_get hq with ⟨h1, h2⟩ | ⟨rfl, rfl⟩
      · exact ⟨ord.length, i, h1, by simp, hki⟩
      · rw [hki] at hk; cases hk
    · obtain ⟨_, _, h3⟩ := hS.ne hki
      obtain ⟨h4, h5⟩ := h3 hs
      rcases snoc_get hq with ⟨h1, h2⟩ | ⟨rfl, rfl⟩
      · obtain ⟨q'', j', a, c, d⟩ := hA.since h4 q j h2 hk
        exact ⟨q'', j', a, snoc_old c, d⟩
      · exact absurd hk h5
  · intro q j oj q' e hq hoj hk hlt hq' hke hb
    rcases snoc_get hq with ⟨h1, h2⟩ | ⟨rfl, rfl⟩
    · rcases snoc_get hq' with ⟨g1, g2⟩ | ⟨rfl, rfl⟩
      · rcases hA.again q j oj q' e h2 hoj hk hlt g2 hke hb with ⟨a, _⟩ | a
        · rw [hS.due0] at a; cases a
        · right
          rw [F1 _ _ _ (Nat.le_of_lt h1), F1 _ _ _ g1, if_neg (hne h2)]
          exact a
      · left
        exact ⟨(hS.eff hke).2 j (mem' h2) hk hb, by simp⟩
    · rcases snoc_get hq' with ⟨g1, g2⟩ | ⟨rfl, rfl⟩
      · omega
      · omega

theorem Acc.rc (hA : Acc P call n base ops fr0 H0 s sv fr H ord F Hc V) {i : Nat} {o : Oper} {rest : List Nat} {fr' : Fr} {v : Value} (ho : ops[i]? = some o) (hd : s.due = i :: rest) (hsv : sv i = some (fr', v))
    (hv : evG P call none ops fr' o H = some (v, H')) : Acc P call n base ops fr0 H0 { s with due := rest } sv fr H ord F Hc V := by
  refine ⟨hA.F0, hA.H0, hA.Fn, hA.Hn, hA.done, hA.lt, hA.nodup, hA.sv, hA.asks, hA.fr, hA.run, hA.last, hA.noalloc, hA.allocs, hA.effs, hA.since, fun q j oj q' e hq hoj hk hlt hq' hke hb => ?_⟩
  rcases hA.again q j oj q' e hq hoj hk hlt hq' hke hb with ⟨a, b⟩ | a
  · rw [hd] at a
    cases a with
    | head =>
      have := hA.sv q _ hq
      rw [hsv] at this
      cases this
      rw [ho] at hoj; cases hoj
      right
      rw [b, hA.Hn]
      exact ⟨H', hv⟩
    | tail _ a => exact .inl ⟨a, b⟩
  · exact .inr a

theorem evG_tot {alc : Option Nat} {o : Oper} {v : Value} (hg : o.guard = none) (ht : totV (ev fr) o.op = some v) : evG P call alc ops fr o H = some (v, H) := by
  unfold evG
  simp only [hg]
  unfold totV at ht
  split at ht
  · rename_i x hx; cases ht; simp only [evOp, hx]; rfl
  · rename_i x hx; cases ht; simp only [evOp, hx]; rfl
  · cases ht

theorem again_some {x : M Value} {v : Value} {u : Unit} (h : E.again x v H = some (u, H')) : H' = H ∧ ∃ H2, x H = some (v, H2) := by
  unfold E.again at h
  split at h
  · rename_i v' H2 hx
    split at h
    · rename_i e; cases h; subst e; exact ⟨rfl, _, hx⟩
    · cases h
  · cases h

theorem evSteps_acc {β : Type} {k : Fr → M β} {r : β} {H1 : AH} {sf : PS} : ∀ (steps : List Step) (s : PS) (sv : Nat → Option (Fr × Value)) (fr : Fr) (H : AH) (ord : List Nat) (F : Nat → Fr) (Hc : Nat → AH) (V : Nat → Value),
    Acc P call n base ops fr0 H0 s sv fr H ord F Hc V → evSteps P call n base ops steps sv k fr H = some (r, H1) → planGo P ops (befores ops) steps s = some sf →
    ∃ sv' fr' H' ord' F' Hc' V', Acc P call n base ops fr0 H0 sf sv' fr' H' ord' F' Hc' V' ∧ k fr' H' = some (r, H1)
  | [], s, sv, fr, H, ord, F, Hc, V, hA, h, hp => by
    simp only [planGo, Option.some.injEq] at hp
    subst hp
    exact ⟨sv, fr, H, ord, F, Hc, V, hA, h⟩
  | .ex i :: rest, s, sv, fr, H, ord, F, Hc, V, hA, h, hp => by
    unfold planGo at hp
    cases hs : planStep P ops (befores ops) s (.ex i) with
    | none => simp [hs] at hp
    | some s' =>
      simp only [hs] at hp
      unfold evSteps at h
      cases ho : ops.toList[i]? with
      | none => simp [ho, M.fail] at h
      | some o =>
        have ho' : ops[i]? = some o := by simpa using ho
        simp only [ho] at h
        have hS := planStep_ex ho' hs
        have step : ∀ v H', evG P call (some (base + i)) ops fr o H = some (v, H') →
            evSteps P call n base ops rest (fun j => bif Nat.beq j i then some (fr, v) else sv j) k (putF n fr o.dst v) H' = some (r, H1) →
            ∃ sv' fr' H' ord' F' Hc' V', Acc P call n base ops fr0 H0 sf sv' fr' H' ord' F' Hc' V' ∧ k fr' H' = some (r, H1) := fun v H' a b =>
          evSteps_acc rest s' _ _ _ _ _ _ _ (hA.ex ho' hS a) b hp
        cases hg : o.guard with
        | none =>
          cases ht : totV (ev fr) o.op with
          | none =>
            simp only [hg, ht] at h
            have hb := bind_some h
            clear h
            obtain ⟨v, H', a, b⟩ := hb
            exact step v H' a b
          | some v =>
            simp only [hg, ht] at h
            exact step v H (evG_tot hg ht) h
        | some jw =>
          simp only [hg] at h
          have hb := bind_some h
          clear h
          obtain ⟨v, H', a, b⟩ := hb
          exact step v H' a b
  | .rc i :: rest, s, sv, fr, H, ord, F, Hc, V, hA, h, hp => by
    unfold planGo at hp
    cases hs : planStep P ops (befores ops) s (.rc i) with
    | none => simp [hs] at hp
    | some s' =>
      simp only [hs] at hp
      unfold evSteps at h
      unfold planStep at hs
      cases hd : s.due with
      | nil => simp [hd] at hs
      | cons j due =>
        simp only [hd] at hs
        split at hs
        · rename_i hij
          have hij : i = j := by simpa using hij
          subst hij
          cases hs
          cases ho : ops.toList[i]? with
          | none => simp [ho, M.fail] at h
          | some o =>
            cases hsv : sv i with
            | none => simp [ho, hsv, M.fail] at h
            | some fv =>
              obtain ⟨fr', v⟩ := fv
              simp only [ho, hsv] at h
              have hb := bind_some h
              clear h
              obtain ⟨u, H', a, b⟩ := hb
              obtain ⟨rfl, H2, a⟩ := again_some a
              exact evSteps_acc rest _ sv fr H' ord F Hc V (hA.rc (by simpa using ho) hd hsv a) b hp
        · cases hs

end

end Go.Proofs.YtepchknpgeopfaaGreatDoor.E
