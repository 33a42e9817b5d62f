/-
  THE ENGINE, part 16: a region that draws, in every order.
-/
import Derived.Test.YtepchknpgeopfaaGreatDoorEng15
set_option linter.unusedVariables false
set_option linter.unusedSimpArgs false
namespace Go.Proofs.YtepchknpgeopfaaGreatDoor.E
open Go

variable {P : Program}

/-! ### A heap, and the same with some blocks more -/

theorem AH.ext {G H : AH} (h1 : G.next = H.next) (h2 : ∀ b, G.at_ b = H.at_ b) : G = H := by
  cases G; cases H
  simp only at h1 h2
  subst h1
  congr
  exact funext h2

theorem Rel.sub {ρ : Emb} {G S : AH} {w : World} (hR : Rel ρ G w) (hn : S.next = G.next) (hs : ∀ b x, S.at_ b = some x → G.at_ b = some x) : Rel ρ S w :=
  ⟨fun b h => hR.fresh b (hn ▸ h), hR.inh, fun b x h => hR.blk b x (hs b x h), fun b b' x y i i' h h' => hR.inj b b' x y i i' (hs _ _ h) (hs _ _ h')⟩

open Classical in
/-- What E names as G has it, all else as S has it. -/
noncomputable def over (E : Nat → Prop) (G S : AH) : AH := { next := S.next, at_ := fun b => if E b then G.at_ b else S.at_ b }

theorem over_in {E : Nat → Prop} {G S : AH} {b : Nat} (h : E b) : (over E G S).at_ b = G.at_ b := by simp [over, h]
theorem over_out {E : Nat → Prop} {G S : AH} {b : Nat} (h : ¬ E b) : (over E G S).at_ b = S.at_ b := by simp [over, h]

/-- What is done to the smaller heap is done to the greater one, and the blocks more stand as they stood. -/
theorem Rel.more {alc : Option Nat} {ρ ρ' : Emb} {G S S' : AH} {w w' : World} {E : Nat → Prop} (hR : Rel ρ G w) (hn : S.next = G.next)
    (hE : ∀ b, E b → b < S.next ∧ alc ≠ some b ∧ S.at_ b = none ∧ ∀ x, G.at_ b = some x → x.wr = true) (ho : ∀ b, ¬ E b → G.at_ b = S.at_ b)
    (hR' : Rel ρ' S' w') (hV : Evo alc ρ S w ρ' S' w') : Rel ρ' (over E G S') w' ∧ Evo alc ρ G w ρ' (over E G S') w' := by
  have sub : ∀ {b x}, S.at_ b = some x → ¬ E b ∧ G.at_ b = some x := by
    intro b x h
    by_cases e : E b
    · rw [(hE b e).2.2.1] at h; cases h
    · exact ⟨e, by rw [ho b e]; exact h⟩
  have footG : ∀ {cb}, foot ρ S cb → foot ρ G cb := fun ⟨b, x, i, h, r⟩ => ⟨b, x, i, (sub h).2, r⟩
  have occG : ∀ {cb}, occ ρ S cb → occ ρ G cb := fun ⟨b, x, i, h, r⟩ => ⟨b, x, i, (sub h).2, r⟩
  -- a block more is no place of the smaller heap's
  have apart : ∀ {b x i}, E b → G.at_ b = some x → ρ b = some i → ¬ occ ρ S i.cb := by
    rintro b x i hb hx hi ⟨b', y, j, hy, hj, e⟩
    obtain ⟨hb', hy'⟩ := sub hy
    exact hR.inj b b' x y i j hx hy' hi hj (fun e => by subst e; exact hb' hb) ((hE b hb).2.2.2 x hx) e.symm
  have notfoot : ∀ {cb}, ¬ occ ρ S cb → ¬ foot ρ S cb := fun h ⟨b, x, i, a, _, c, d⟩ => h ⟨b, x, i, a, c, d⟩
  have emb : ∀ {b x}, E b → G.at_ b = some x → ∃ i, ρ b = some i ∧ ρ' b = some i ∧ i.cb < w.heap.size ∧ BlkR ρ' w' i x := by
    intro b x hb hx
    obtain ⟨i, hi, hbl⟩ := hR.blk b x hx
    have hlt := hR.inh b i hi
    exact ⟨i, hi, hV.ext _ _ hi, hlt, (hbl.same (hV.keep _ hlt (notfoot (apart hb hx hi)))).mono hV.ext⟩
  have far : ∀ {b x i}, E b → G.at_ b = some x → ρ b = some i → ¬ occ ρ' S' i.cb := by
    intro b x i hb hx hi hc
    rcases hV.occs _ hc with h | h
    · exact apart hb hx hi h
    · have := hR.inh b i hi; omega
  refine ⟨⟨fun b h => hR'.fresh b h, hR'.inh, fun b x hx => ?_, fun b b' x y i i' hx hy hi hi' hne hw => ?_⟩, ⟨hV.ext, hV.size, fun cb hl hf => hV.keep cb hl fun h => hf (footG h), fun cb hf => ?_, fun cb hf => ?_, fun b h1 h2 h3 => hV.low b (hn ▸ h1) h2 h3, fun b h1 h2 h3 => ?_, hV.os, hV.out, hn ▸ hV.next⟩⟩
  · by_cases e : E b
    · rw [over_in e] at hx
      obtain ⟨i, _, h2, _, h4⟩ := emb e hx
      exact ⟨i, h2, h4⟩
    · rw [over_out e] at hx
      exact hR'.blk b x hx
  · by_cases e : E b
    · rw [over_in e] at hx
      obtain ⟨j, g1, g2, _, _⟩ := emb e hx
      rw [hi] at g2; cases g2
      by_cases e' : E b'
      · rw [over_in e'] at hy
        obtain ⟨j', k1, k2, _, _⟩ := emb e' hy
        rw [hi'] at k2; cases k2
        exact hR.inj b b' x y _ _ hx hy g1 k1 hne hw
      · rw [over_out e'] at hy
        exact fun h => far e hx g1 ⟨b', y, i', hy, hi', h.symm⟩
    · rw [over_out e] at hx
      by_cases e' : E b'
      · rw [over_in e'] at hy
        obtain ⟨j', k1, k2, _, _⟩ := emb e' hy
        rw [hi'] at k2; cases k2
        exact fun h => far e' hy k1 ⟨b, x, i, hx, hi, h⟩
      · rw [over_out e'] at hy
        exact hR'.inj b b' x y i i' hx hy hi hi' hne hw
  · obtain ⟨b, x, i, hx, hw, hi, e⟩ := hf
    by_cases eb : E b
    · rw [over_in eb] at hx
      obtain ⟨j, g1, g2, _, _⟩ := emb eb hx
      rw [hi] at g2; cases g2
      exact .inl ⟨b, x, i, hx, hw, g1, e⟩
    · rw [over_out eb] at hx
      rcases hV.foots cb ⟨b, x, i, hx, hw, hi, e⟩ with h | h
      · exact .inl (footG h)
      · exact .inr h
  · obtain ⟨b, x, i, hx, hi, e⟩ := hf
    by_cases eb : E b
    · rw [over_in eb] at hx
      obtain ⟨j, g1, g2, _, _⟩ := emb eb hx
      rw [hi] at g2; cases g2
      exact .inl ⟨b, x, i, hx, g1, e⟩
    · rw [over_out eb] at hx
      rcases hV.occs cb ⟨b, x, i, hx, hi, e⟩ with h | h
      · exact .inl (occG h)
      · exact .inr h
  · by_cases e : E b
    · rw [over_in e]; exact h3
    · rw [over_out e]
      exact hV.dead b (hn ▸ h1) h2 (by rw [← ho b e]; exact h3)

/-- Behind a computation, one that has its own number above the first's. -/
theorem Evo.then {ρ ρ' ρ'' : Emb} {H H' H'' : AH} {w w' w'' : World} {c : Nat} (h : Evo none ρ H w ρ' H' w') (h' : Evo (some c) ρ' H' w' ρ'' H'' w'') (hc : H.next ≤ c) : Evo none ρ H w ρ'' H'' w'' where
  ext := h.ext.trans h'.ext
  size := Nat.le_trans h.size h'.size
  keep cb hl hf := by
    have hf' : ¬ foot ρ' H' cb := fun hc => by
      rcases h.foots cb hc with h1 | h1
      · exact hf h1
      · omega
    rw [h'.keep cb (Nat.lt_of_lt_of_le hl h.size) hf', h.keep cb hl hf]
  foots cb hc := by
    rcases h'.foots cb hc with h1 | h1
    · exact h.foots cb h1
    · exact .inr (Nat.le_trans h.size h1)
  occs cb hc := by
    rcases h'.occs cb hc with h1 | h1
    · exact h.occs cb h1
    · exact .inr (Nat.le_trans h.size h1)
  low b h1 h2 h3 := h'.low b (Nat.lt_of_lt_of_le h1 h.next) (fun e => by cases e; omega) (h.low b h1 h2 h3)
  dead b h1 h2 h3 := h'.dead b (Nat.lt_of_lt_of_le h1 h.next) (fun e => by cases e; omega) (h.dead b h1 h2 h3)
  os := h'.os.trans h.os
  out := h'.out.trans h.out
  next := Nat.le_trans h.next h'.next

/-! ### Facts of the chosen order -/

section
variable {call : CallF} {n base : Nat} {ops : Array Oper} {fr0 : Fr} {Hs : AH} {s : PS} {sv : Nat → Option (Fr × Value)} {frE : Fr} {HE : AH} {ord : List Nat} {F : Nat → Fr} {Hc : Nat → AH} {V : Nat → Value}

theorem Acc.uniq (hA : Acc P call n base ops fr0 Hs s sv frE HE ord F Hc V) {q q' i : Nat} (h : ord[q]? = some i) (h' : ord[q']? = some i) : q = q' := by
  obtain ⟨h1, e1⟩ := List.getElem?_eq_some_iff.1 h
  obtain ⟨h2, e2⟩ := List.getElem?_eq_some_iff.1 h'
  exact (List.getElem_inj hA.nodup).1 (e1.trans e2.symm)

theorem Acc.op (hA : Acc P call n base ops fr0 Hs s sv frE HE ord F Hc V) {q i : Nat} (h : ord[q]? = some i) : ∃ o, ops[i]? = some o :=
  ⟨_, Array.getElem?_eq_getElem (hA.lt i (List.mem_of_getElem? h))⟩

/-- What stands before an operation comes before it in the chosen order. -/
theorem Acc.before (hA : Acc P call n base ops fr0 Hs s sv frE HE ord F Hc V) : ∀ (q i j : Nat), ord[q]? = some i → comesBefore (befores ops) j i = true → ∃ q', q' < q ∧ ord[q']? = some j := by
  intro q
  induction q using Nat.strongRecOn with
  | ind q ih =>
    intro i j hq hb
    obtain ⟨o, ho⟩ := hA.op hq
    obtain ⟨e, he, hbi, h⟩ := before_step ho hb
    obtain ⟨q1, h1, h2⟩ := hA.asks q i o hq ho e he hbi
    rcases h with rfl | h
    · exact ⟨q1, h1, h2⟩
    · obtain ⟨q2, h3, h4⟩ := ih q1 h1 e.on j h2 h
      exact ⟨q2, by omega, h4⟩

/-- A set of operations that holds with each all that it asks for. -/
def Closed (ops : Array Oper) (L : Nat → Prop) : Prop := ∀ i o, L i → ops[i]? = some o → ∀ e ∈ o.after, Region.binds .any e = true → L e.on

theorem Acc.closed (hA : Acc P call n base ops fr0 Hs s sv frE HE ord F Hc V) {L : Nat → Prop} (hL : Closed ops L) : ∀ (q i j : Nat), ord[q]? = some i → L i → comesBefore (befores ops) j i = true → L j := by
  intro q
  induction q using Nat.strongRecOn with
  | ind q ih =>
    intro i j hq hi hb
    obtain ⟨o, ho⟩ := hA.op hq
    obtain ⟨e, he, hbi, h⟩ := before_step ho hb
    have hLe := hL i o hi ho e he hbi
    obtain ⟨q1, h1, h2⟩ := hA.asks q i o hq ho e he hbi
    rcases h with rfl | h
    · exact hLe
    · exact ih q1 h1 e.on j h2 hLe h

/-- What stands before an operation that is ready is listed. -/
theorem Acc.readyB (hA : Acc P call n base ops fr0 Hs s sv frE HE ord F Hc V) {L : Nat → Prop} (hL : Closed ops L) {q i : Nat} {o : Oper} (hq : ord[q]? = some i) (ho : ops[i]? = some o)
    (hr : ∀ e ∈ o.after, Region.binds .any e = true → L e.on) {j : Nat} (hb : comesBefore (befores ops) j i = true) : L j := by
  obtain ⟨e, he, hbi, h⟩ := before_step ho hb
  obtain ⟨q1, h1, h2⟩ := hA.asks q i o hq ho e he hbi
  rcases h with rfl | h
  · exact hr e he hbi
  · exact hA.closed hL q1 e.on j h2 (hr e he hbi) h

/-- The effects before an effect or a look whose forerunners are listed are listed. -/
theorem Acc.effsL (hA : Acc P call n base ops fr0 Hs s sv frE HE ord F Hc V) {L : Nat → Prop} (hL : Closed ops L) : ∀ (d q i q' e : Nat), q - q' = d → ord[q]? = some i → kd P ops i = .eff ∨ kd P ops i = .read →
    (∀ j, comesBefore (befores ops) j i = true → L j) → q' < q → ord[q']? = some e → kd P ops e = .eff → L e := by
  intro d
  induction d using Nat.strongRecOn with
  | ind d ih =>
    intro q i q' e hd hq hk hb hlt hq' hke
    by_cases hbet : ∃ q'' j', q' < q'' ∧ q'' < q ∧ ord[q'']? = some j' ∧ kd P ops j' = .eff
    · obtain ⟨q'', j', a, b, c, hj'⟩ := hbet
      have hLj : L j' := ih (q - q'') (by omega) q i q'' j' rfl hq hk hb b c hj'
      exact ih (q'' - q') (by omega) q'' j' q' e rfl c (.inl hj') (fun j hj => hA.closed hL q'' j' j c hLj hj) a hq' hke
    · exact hb e (hA.last q i hq hk q' e hlt hq' hke fun q'' j' a b c h => hbet ⟨q'', j', a, b, c, h⟩)

/-- The operation makes a block. -/
def Mk (P : Program) (base : Nat) (ops : Array Oper) (Hc : Nat → AH) (j q : Nat) : Prop := kd P ops j = .alloc ∧ ∃ x, x.wr = true ∧ (Hc q).at_ (base + j) = none ∧ Hc (q + 1) = (Hc q).with (Hc q).next (base + j) x

theorem Acc.one (hA : Acc P call n base ops fr0 Hs s sv frE HE ord F Hc V) {q i : Nat} (hq : ord[q]? = some i) (hne : kd P ops i ≠ .eff) : Hc (q + 1) = Hc q ∨ Mk P base ops Hc i q := by
  obtain ⟨o, ho⟩ := hA.op hq
  have hr := hA.run q i o hq ho
  have hk : kd P ops i = opKind P o.op := kd_eq ho
  cases hkk : opKind P o.op with
  | pure => exact .inl (pureG hkk _ _ _ hr).1
  | read => exact .inl (readG hkk _ _ _ hr)
  | alloc =>
    rcases makeG hkk _ _ _ hr with h | ⟨x, h1, h2, h3, h4, h5⟩
    · exact .inl h.1
    · exact .inr ⟨hk.trans hkk, x, h1, h3, h4⟩
  | eff => exact absurd (hk.trans hkk) hne

/-- A stretch without an effect. -/
theorem Acc.seg (hA : Acc P call n base ops fr0 Hs s sv frE HE ord F Hc V) {p : Nat} : ∀ (q : Nat), p ≤ q → q ≤ ord.length → (∀ q' j, p ≤ q' → q' < q → ord[q']? = some j → kd P ops j ≠ .eff) →
    (Hc q).next = (Hc p).next ∧
    (∀ b, (∀ j q', ord[q']? = some j → p ≤ q' → q' < q → Mk P base ops Hc j q' → b ≠ base + j) → (Hc q).at_ b = (Hc p).at_ b) ∧
    (∀ j q', ord[q']? = some j → p ≤ q' → q' < q → Mk P base ops Hc j q' → (Hc q).at_ (base + j) = (Hc (q' + 1)).at_ (base + j)) := by
  intro q
  induction q with
  | zero =>
    intro hpq _ _
    have : p = 0 := by omega
    subst this
    exact ⟨rfl, fun _ _ => rfl, fun j q' _ _ h => by omega⟩
  | succ q ih =>
    intro hpq hlen hne
    by_cases hp : p = q + 1
    · subst hp
      exact ⟨rfl, fun _ _ => rfl, fun j q' _ h1 h2 => by omega⟩
    · obtain ⟨h1, h2, h3⟩ := ih (by omega) (by omega) fun q' j a b => hne q' j a (by omega)
      have hq : ord[q]? = some ord[q] := List.getElem?_eq_getElem (by omega)
      generalize hi : ord[q] = i at hq
      rcases hA.one hq (hne q i (by omega) (by omega) hq) with e | hm
      · rw [e]
        refine ⟨h1, fun b hb => h2 b fun j q' a c d => hb j q' a c (by omega), fun j q' a c d m => ?_⟩
        by_cases hq' : q' = q
        · subst hq'
          rw [e]
        · exact h3 j q' a c (by omega) m
      · obtain ⟨hk, x, hx, h0, e⟩ := hm
        refine ⟨by rw [e]; exact h1, fun b hb => ?_, fun j q' a c d m => ?_⟩
        · have hbi : b ≠ base + i := hb i q hq (by omega) (by omega) ⟨hk, x, hx, h0, e⟩
          rw [e]
          simp only [AH.with, if_neg hbi]
          exact h2 b fun j q' a c d => hb j q' a c (by omega)
        · by_cases hq' : q' = q
          · subst hq'; rfl
          · have hji : j ≠ i := fun ej => by subst ej; exact hq' (hA.uniq a hq)
            have : base + j ≠ base + i := by omega
            rw [e]
            simp only [AH.with, if_neg this]
            exact h3 j q' a c (by omega) m

/-- Two states of the frame agree at a slot that nothing between them writes. -/
theorem Acc.frame (hA : Acc P call n base ops fr0 Hs s sv frE HE ord F Hc V) {d p : Nat} : ∀ (q : Nat), p ≤ q → q ≤ ord.length → (∀ q' i o, p ≤ q' → q' < q → ord[q']? = some i → ops[i]? = some o → o.dst ≠ some d) → F q d = F p d := by
  intro q
  induction q with
  | zero => intro h _ _; have : p = 0 := by omega
            subst this; rfl
  | succ q ih =>
    intro hpq hlen hne
    by_cases hp : p = q + 1
    · subst hp; rfl
    · have hq : ord[q]? = some ord[q] := List.getElem?_eq_getElem (by omega)
      generalize hi : ord[q] = i at hq
      obtain ⟨o, ho⟩ := hA.op hq
      rw [hA.fr q i o hq ho, ← ih (by omega) (by omega) fun q' i o a b => hne q' i o a (by omega)]
      have := hne q i o (by omega) (by omega) hq ho
      cases hd' : o.dst with
      | none => rfl
      | some d' =>
        simp only [putF]
        by_cases hl : d' < n
        · rw [if_pos hl]
          have hdd : d ≠ d' := fun e => this (by rw [hd', e])
          have : Nat.beq d d' = false := by
            cases hb : Nat.beq d d' with
            | false => rfl
            | true => exact absurd (Nat.eq_of_beq_eq_true hb) hdd
          simp only [this, cond_false]
        · rw [if_neg hl]

end

end Go.Proofs.YtepchknpgeopfaaGreatDoor.E
