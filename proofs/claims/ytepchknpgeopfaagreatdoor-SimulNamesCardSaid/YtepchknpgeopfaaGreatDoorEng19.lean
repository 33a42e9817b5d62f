/-
  THE ENGINE, part 19: code.
-/
import Derived.Test.YtepchknpgeopfaaGreatDoorEng18
import Derived.Scope
set_option linter.unusedVariables false
set_option linter.unusedSimpArgs false
namespace Go.Proofs.YtepchknpgeopfaaGreatDoor.E
open Go

variable {P : Program} {ρ : Emb} {H H' : AH} {w : World}

def exOf : Ex → Exit
  | .normal => .normal
  | .ret => .ret
  | .exit id => .exit id

theorem look_of (fr : Fr) (i : Nat) : ∀ (ks : List Nat) (vs : List Value) (j : Nat), (∀ q, q < ks.length → vs.getD (j + q) junk = fr (ks.getD q 0)) → look vs ks j i = fr i ∨ look vs ks j i = junk
  | [], vs, j, _ => .inr rfl
  | k :: ks, vs, j, h => by
    unfold look
    cases hb : Nat.beq k i with
    | true =>
      have e := Nat.eq_of_beq_eq_true hb
      subst e
      simp only [cond_true]
      left
      have := h 0 (by simp)
      simpa using this
    | false =>
      simp only [cond_false]
      refine look_of fr i ks vs (j + 1) fun q hq => ?_
      have := h (q + 1) (by simp; omega)
      simpa [Nat.add_assoc, Nat.add_comm 1 q] using this

theorem scatter_rel {n : Nat} {fr : Fr} {a : Act} (h : FrRel ρ n fr a) (ks : List Nat) : FrRel ρ n (scatter ks (gather ks fr)) a := by
  refine ⟨h.defers, h.size, fun i => ?_⟩
  rcases look_of fr i ks (gather ks fr) 0 (fun q hq => by
    simp only [gather, Nat.zero_add]
    simp [hq]) with e | e
  · unfold scatter; rw [e]; exact h.rel i
  · unfold scatter; rw [e]; exact .junk _

/-- The state that a run of code leaves. -/
def Leaves (n : Nat) (ρ : Emb) (H : AH) (w : World) (ex : Ex) (fr' : Fr) (H' : AH) (e : Exit) (a' : Act) (w' : World) : Prop :=
  ∃ ρ', e = exOf ex ∧ Rel ρ' H' w' ∧ FrRel ρ' n fr' a' ∧ Evo none ρ H w ρ' H' w'

/-- A loop from its round on. -/
def LoopAt (P : Program) (c : Code) (Q : Exit → Act → World → Prop) (a : Act) (w : World) : Prop :=
  ∀ (b : Frame) (k : List Item) (cs : List Frame), ∃ e a' w', Q e a' w' ∧ Arrives P (lone (b.at a (.code c :: .inLoop c :: k)) cs w) b k cs e a' w'

theorem LoopAt.loop {c : Code} {Q : Exit → Act → World → Prop} {a : Act} {w : World} (h : LoopAt P c Q a w) : (Code.loop c).wp P Q a w :=
  fun b k cs => let ⟨e, a', w', q, r⟩ := h b k cs; ⟨e, a', w', q, .of_steps (.one step_loop) r⟩

theorem LoopAt.mono {c : Code} {Q Q' : Exit → Act → World → Prop} {a : Act} {w : World} (h : LoopAt P c Q a w) (hq : ∀ e a w, Q e a w → Q' e a w) : LoopAt P c Q' a w :=
  fun b k cs => let ⟨e, a', w', q, r⟩ := h b k cs; ⟨e, a', w', hq _ _ _ q, r⟩

theorem LoopAt.round {c : Code} {Q : Exit → Act → World → Prop} {a : Act} {w : World} (h : c.wp P (fun e a' w' => (e = .normal ∧ LoopAt P c Q a' w') ∨ (e ≠ .normal ∧ Q e a' w')) a w) : LoopAt P c Q a w := by
  intro b k cs
  obtain ⟨e, a₁, w₁, hq, harr⟩ := h b (.inLoop c :: k) cs
  rcases hq with ⟨rfl, hq⟩ | ⟨hne, hq⟩
  · obtain ⟨e₂, a₂, w₂, hq₂, harr₂⟩ := hq b k cs
    exact ⟨e₂, a₂, w₂, hq₂, .of_steps (Steps.trans harr (.one step_inLoop)) harr₂⟩
  · exact ⟨e, a₁, w₁, hq, .pass (x := .inLoop c) rfl (fun _ _ => .inl hne) harr⟩

theorem exOf_normal {ex : Ex} (h : exOf ex = .normal) : ex = .normal := by cases ex <;> simp [exOf] at h ⊢

/-- What is asked of a round, to know the loop. -/
theorem loop_sim {n : Nat} {c : Code} {ks : List Nat} {step : List Value → M R}
    (hs : ∀ (ρ : Emb) (H : AH) (w : World) (a : Act) (vs : List Value) (r : R) (H1 : AH), Rel ρ H w → FrRel ρ n (scatter ks vs) a → step vs H = some (r, H1) → c.wp P (Leaves n ρ H w r.1 (scatter ks r.2) H1) a w) :
    ∀ (m : Nat) (ρ : Emb) (H : AH) (w : World) (a : Act) (vs : List Value) (r : R) (H1 : AH), Rel ρ H w → FrRel ρ n (scatter ks vs) a → iter step m vs H = some (r, H1) → LoopAt P c (Leaves n ρ H w r.1 (scatter ks r.2) H1) a w
  | 0, _, _, _, _, _, _, _, _, _, h => by simp [iter, M.fail] at h
  | m + 1, ρ, H, w, a, vs, r, H1, hR, hf, h => by
    unfold iter at h
    have hb := bind_some h
    clear h
    obtain ⟨r1, H2, h1, h2⟩ := hb
    refine LoopAt.round (wp_mono (hs ρ H w a vs r1 H2 hR hf h1) fun e a' w' ⟨ρ', he, k1, k2, k3⟩ => ?_)
    obtain ⟨ex1, vs1⟩ := r1
    simp only at h2 he k2
    cases ex1 with
    | normal =>
      left
      refine ⟨he, (loop_sim hs m ρ' H2 w' a' vs1 r H1 k1 k2 h2).mono fun e a2 w2 ⟨ρ2, he2, g1, g2, g3⟩ => ⟨ρ2, he2, g1, g2, k3.trans g3⟩⟩
    | ret =>
      obtain ⟨rfl, rfl⟩ := pure_some h2
      exact .inr ⟨by rw [he]; simp [exOf], ρ', he, k1, k2, k3⟩
    | exit id =>
      obtain ⟨rfl, rfl⟩ := pure_some h2
      exact .inr ⟨by rw [he]; simp [exOf], ρ', he, k1, k2, k3⟩

/-- What is known of the loops' meaning. -/
def LoopOk (lp : LoopF) : Prop := ∀ (step : List Value → M R) vs H r H1, lp step vs H = some (r, H1) → ∃ m, iter step m vs H = some (r, H1)

theorem jn_some {ks : List Nat} {ex : Ex} {fr : Fr} {r : R} {H1 : AH} (h : jn ks ex fr H = some (r, H1)) : r = (ex, gather ks fr) ∧ H1 = H := by
  unfold jn at h
  exact pure_some h

theorem onlyN_some {β : Type} {e : Ex} {m : M β} {H : AH} {r : β × AH} (h : onlyN e m H = some r) : e = .normal ∧ m H = some r := by
  cases e with
  | normal => exact ⟨rfl, h⟩
  | ret => cases h
  | exit j => cases h

/-- What the evaluator tells of a piece of code, the model does. -/
def Told (P : Program) (call : CallF) (lp : LoopF) (n : Nat) (c : Code) : Prop :=
  ∀ {β : Type} (ann : Ann) (k : Ex → Fr → M β) (fr : Fr) (ρ : Emb) (H : AH) (w : World) (a : Act) (r : β) (H1 : AH) (Q : Exit → Act → World → Prop), evC P call lp n ann c k fr H = some (r, H1) → Rel ρ H w → FrRel ρ n fr a →
    (∀ ex fr' a' H' w' ρ', k ex fr' H' = some (r, H1) → Rel ρ' H' w' → FrRel ρ' n fr' a' → Evo none ρ H w ρ' H' w' → Q (exOf ex) a' w') → c.wp P Q a w

theorem evC_told {call : CallF} {lp : LoopF} {n : Nat} (hm : P.follows .mixedOrders = true) (hc : CallOk P call) (hlp : LoopOk lp) (c : Code) :
    Told P call lp n c ∧ ∀ body, c = .loop body → Told P call lp n body := by
  -- a run of code that is joined: what it leaves is one state
  have joined : ∀ {c : Code}, Told P call lp n c →
      ∀ (ann : Ann) (ks : List Nat) (fr : Fr) (ρ : Emb) (H : AH) (w : World) (a : Act) (r : R) (H1 : AH), evC P call lp n ann c (jn ks) fr H = some (r, H1) → Rel ρ H w → FrRel ρ n fr a → c.wp P (Leaves n ρ H w r.1 (scatter ks r.2) H1) a w := by
    intro c ih ann ks fr ρ H w a r H1 h hR hf
    refine ih ann (jn ks) fr ρ H w a r H1 _ h hR hf fun ex fr' a' H' w' ρ' k1 k2 k3 k4 => ?_
    obtain ⟨rfl, rfl⟩ := jn_some k1
    exact ⟨ρ', rfl, k2, scatter_rel k3 ks, k4⟩
  induction c with
  | skip =>
    refine ⟨?_, fun body e => by cases e⟩
    intro β ann k fr ρ H w a r H1 Q h hR hf hQ
    unfold evC at h
    exact wp_skip (hQ .normal fr a H w ρ h hR hf (.refl _ _ _))
  | label l =>
    refine ⟨?_, fun body e => by cases e⟩
    intro β ann k fr ρ H w a r H1 Q h hR hf hQ
    unfold evC at h
    exact wp_label (hQ .normal fr a H w ρ h hR hf (.refl _ _ _))
  | ret =>
    refine ⟨?_, fun body e => by cases e⟩
    intro β ann k fr ρ H w a r H1 Q h hR hf hQ
    unfold evC at h
    exact wp_ret (hQ .ret fr a H w ρ h hR hf (.refl _ _ _))
  | exit id =>
    refine ⟨?_, fun body e => by cases e⟩
    intro β ann k fr ρ H w a r H1 Q h hR hf hQ
    unfold evC at h
    exact wp_exit (hQ (.exit id) fr a H w ρ h hR hf (.refl _ _ _))
  | region id ops draw =>
    refine ⟨?_, fun body e => by cases e⟩
    intro β ann k fr ρ H w a r H1 Q h hR hf hQ
    cases draw with
    | false =>
      unfold evC at h
      refine wp_region ?_
      have := evOps_sim hc ops.toList 0 ρ H w fr a (Q := Q) (fun j => by simp) hR hf h fun fr' a' H' w' ρ' k1 k2 k3 k4 => hQ .normal fr' a' H' w' ρ' k1 k2 k3 k4
      rw [List.range_eq_range']
      simpa using this
    | true =>
      cases ann with
      | draw steps =>
        unfold evC at h
        by_cases hp : planOk P ops steps = true
        · rw [if_pos hp] at h
          exact draw_sim hm hc hp hR hf h fun fr' a' H' w' ρ' k1 k2 k3 k4 => hQ .normal fr' a' H' w' ρ' k1 k2 k3 k4
        · rw [if_neg hp] at h; cases h
      | _ => unfold evC at h; simp [M.fail] at h
  | seq x y ihx ihy =>
    refine ⟨?_, fun body e => by cases e⟩
    intro β ann k fr ρ H w a r H1 Q h hR hf hQ
    cases ann with
    | seq p q =>
      unfold evC at h
      refine wp_seq (ihx.1 p _ fr ρ H w a r H1 _ h hR hf fun ex fr' a' H' w' ρ' k1 k2 k3 k4 => ?_)
      cases ex with
      | normal => exact ihy.1 q k fr' ρ' H' w' a' r H1 Q k1 k2 k3 fun ex fr2 a2 H2 w2 ρ2 g1 g2 g3 g4 => hQ ex fr2 a2 H2 w2 ρ2 g1 g2 g3 (k4.trans g4)
      | ret => exact hQ .ret fr' a' H' w' ρ' k1 k2 k3 k4
      | exit id => exact hQ (.exit id) fr' a' H' w' ρ' k1 k2 k3 k4
    | _ => unfold evC at h; simp [M.fail] at h
  | cond o x y ihx ihy =>
    refine ⟨?_, fun body e => by cases e⟩
    intro β ann k fr ρ H w a r H1 Q h hR hf hQ
    have cnd : ∀ {γ : Type} {m1 m2 : M γ} {r1 : γ} {H2 : AH}, condB (ev fr o) m1 m2 H = some (r1, H2) → (a.eval o = .bool true ∧ m1 H = some (r1, H2)) ∨ (a.eval o = .bool false ∧ m2 H = some (r1, H2)) := by
      intro γ m1 m2 r1 H2 h
      have hv := hf.ev o
      unfold condB at h
      cases he : ev fr o with
      | bool t =>
        rw [he] at h hv
        generalize hg : a.eval o = g at hv
        cases hv
        cases t with
        | true => exact .inl ⟨rfl, h⟩
        | false => exact .inr ⟨rfl, h⟩
      | _ => rw [he] at h; simp [M.fail] at h
    cases ann with
    | cond p q =>
      unfold evC at h
      rcases cnd h with ⟨e, h⟩ | ⟨e, h⟩
      · exact wp_cond_true e (ihx.1 p k fr ρ H w a r H1 Q h hR hf hQ)
      · exact wp_cond_false e (ihy.1 q k fr ρ H w a r H1 Q h hR hf hQ)
    | joinN ks p q =>
      unfold evC at h
      have hb := bind_some h
      clear h
      obtain ⟨r1, H2, h1, h2⟩ := hb
      obtain ⟨e2, h2⟩ := onlyN_some h2
      have post : ∀ e a' w', Leaves n ρ H w r1.1 (scatter ks r1.2) H2 e a' w' → Q e a' w' := by
        rintro e a' w' ⟨ρ', rfl, k1, k2, k3⟩
        exact hQ r1.1 (scatter ks r1.2) a' H2 w' ρ' (by rw [e2]; exact h2) k1 k2 k3
      rcases cnd h1 with ⟨e, h⟩ | ⟨e, h⟩
      · exact wp_cond_true e (wp_mono (joined ihx.1 p ks fr ρ H w a r1 H2 h hR hf) post)
      · exact wp_cond_false e (wp_mono (joined ihy.1 q ks fr ρ H w a r1 H2 h hR hf) post)
    | join ks p q =>
      unfold evC at h
      have hb := bind_some h
      clear h
      obtain ⟨r1, H2, h1, h2⟩ := hb
      have post : ∀ e a' w', Leaves n ρ H w r1.1 (scatter ks r1.2) H2 e a' w' → Q e a' w' := by
        rintro e a' w' ⟨ρ', rfl, k1, k2, k3⟩
        exact hQ r1.1 (scatter ks r1.2) a' H2 w' ρ' h2 k1 k2 k3
      rcases cnd h1 with ⟨e, h⟩ | ⟨e, h⟩
      · exact wp_cond_true e (wp_mono (joined ihx.1 p ks fr ρ H w a r1 H2 h hR hf) post)
      · exact wp_cond_false e (wp_mono (joined ihy.1 q ks fr ρ H w a r1 H2 h hR hf) post)
    | _ => unfold evC at h; simp [M.fail] at h
  | block id c ih =>
    refine ⟨?_, fun body e => by cases e⟩
    intro β ann k fr ρ H w a r H1 Q h hR hf hQ
    -- the ways out of a block
    have outs : ∀ ex fr' a' H' w' ρ', blkK id k ex fr' H' = some (r, H1) → Rel ρ' H' w' → FrRel ρ' n fr' a' → Evo none ρ H w ρ' H' w' → Exit.inBlock id Q (exOf ex) a' w' := by
      intro ex fr' a' H' w' ρ' k1 k2 k3 k4
      cases ex with
      | normal => exact hQ .normal fr' a' H' w' ρ' k1 k2 k3 k4
      | ret => exact hQ .ret fr' a' H' w' ρ' k1 k2 k3 k4
      | exit j =>
        simp only [blkK] at k1
        simp only [exOf, Exit.inBlock]
        cases hb : Nat.beq j id with
        | true =>
          rw [hb] at k1
          rw [if_pos (Nat.eq_of_beq_eq_true hb)]
          exact hQ .normal fr' a' H' w' ρ' k1 k2 k3 k4
        | false =>
          rw [hb] at k1
          have hne : j ≠ id := fun e => by rw [e, Nat.beq_refl] at hb; cases hb
          rw [if_neg hne]
          exact hQ (.exit j) fr' a' H' w' ρ' k1 k2 k3 k4
    -- from outside
    have outs' : ∀ ex fr' a' H' w' ρ', k (unblk id ex) fr' H' = some (r, H1) → Rel ρ' H' w' → FrRel ρ' n fr' a' → Evo none ρ H w ρ' H' w' → Exit.inBlock id Q (exOf ex) a' w' := by
      intro ex fr' a' H' w' ρ' k1 k2 k3 k4
      refine outs ex fr' a' H' w' ρ' ?_ k2 k3 k4
      cases ex with
      | normal => exact k1
      | ret => exact k1
      | exit j =>
        cases hb : Nat.beq j id with
        | true => simp only [unblk, hb, cond_true] at k1; simp only [blkK, hb, cond_true]; exact k1
        | false => simp only [unblk, hb, cond_false] at k1; simp only [blkK, hb, cond_false]; exact k1
    have blockJ : ∀ (ks : List Nat) (x : Ann), M.bind (evC P call lp n x c (jn ks) fr) (fun r => k (unblk id r.1) (scatter ks r.2)) H = some (r, H1) → (Code.block id c).wp P Q a w := by
      intro ks x h
      have hb := bind_some h
      clear h
      obtain ⟨r1, H2, h1, h2⟩ := hb
      refine wp_block (wp_mono (joined ih.1 x ks fr ρ H w a r1 H2 h1 hR hf) ?_)
      rintro e a' w' ⟨ρ', rfl, k1, k2, k3⟩
      exact outs' r1.1 (scatter ks r1.2) a' H2 w' ρ' h2 k1 k2 k3
    have blockN : ∀ (ks : List Nat) (x : Ann), M.bind (evC P call lp n x c (jn ks) fr) (fun r => onlyN (unblk id r.1) (k .normal (scatter ks r.2))) H = some (r, H1) → (Code.block id c).wp P Q a w := by
      intro ks x h
      have hb := bind_some h
      clear h
      obtain ⟨r1, H2, h1, h2⟩ := hb
      obtain ⟨e2, h2⟩ := onlyN_some h2
      refine wp_block (wp_mono (joined ih.1 x ks fr ρ H w a r1 H2 h1 hR hf) ?_)
      rintro e a' w' ⟨ρ', rfl, k1, k2, k3⟩
      exact outs' r1.1 (scatter ks r1.2) a' H2 w' ρ' (by rw [e2]; exact h2) k1 k2 k3
    have plain : ∀ (x : Ann), evC P call lp n x c (blkK id k) fr H = some (r, H1) → (Code.block id c).wp P Q a w := fun x h =>
      wp_block (ih.1 x (blkK id k) fr ρ H w a r H1 _ h hR hf outs)
    cases ann with
    | blockJ ks x =>
      have : evC P call lp n (.blockJ ks x) (.block id c) k fr = M.bind (evC P call lp n x c (jn ks) fr) (fun r => k (unblk id r.1) (scatter ks r.2)) := by
        cases c <;> rfl
      rw [this] at h
      exact blockJ ks x h
    | blockN ks x =>
      have : evC P call lp n (.blockN ks x) (.block id c) k fr = M.bind (evC P call lp n x c (jn ks) fr) (fun r => onlyN (unblk id r.1) (k .normal (scatter ks r.2))) := by
        cases c <;> rfl
      rw [this] at h
      exact blockN ks x h
    | block x =>
      have : evC P call lp n (.block x) (.block id c) k fr = evC P call lp n x c (blkK id k) fr := by
        cases c <;> rfl
      rw [this] at h
      exact plain x h
    | loop ks x =>
      cases c with
      | loop body =>
        have : evC P call lp n (.loop ks x) (.block id (.loop body)) k fr = M.bind (lp (fun vs => evC P call lp n x body (jn ks) (scatter ks vs)) (gather ks fr)) (fun r => k (unblk id r.1) (scatter ks r.2)) := by
          rfl
        rw [this] at h
        have hb := bind_some h
        clear h
        obtain ⟨r1, H2, h1, h2⟩ := hb
        obtain ⟨m, h1⟩ := hlp _ _ _ _ _ h1
        have ihb : Told P call lp n body := by
          have q := @ih.2
          unfold Told
          intro β
          exact q body rfl
        have hL := loop_sim (P := P) (c := body) (fun ρ H w a vs r H1 k1 k2 k3 => joined ihb x ks (scatter ks vs) ρ H w a r H1 k3 k1 k2) m ρ H w a (gather ks fr) r1 H2 hR (scatter_rel hf ks) h1
        refine wp_block (wp_mono hL.loop ?_)
        rintro e a' w' ⟨ρ', rfl, k1, k2, k3⟩
        exact outs' r1.1 (scatter ks r1.2) a' H2 w' ρ' h2 k1 k2 k3
      | _ => exact absurd h (by intro h; cases h)
    | loopN ks x =>
      cases c with
      | loop body =>
        have : evC P call lp n (.loopN ks x) (.block id (.loop body)) k fr = M.bind (lp (fun vs => evC P call lp n x body (jn ks) (scatter ks vs)) (gather ks fr)) (fun r => onlyN (unblk id r.1) (k .normal (scatter ks r.2))) := by
          rfl
        rw [this] at h
        have hb := bind_some h
        clear h
        obtain ⟨r1, H2, h1, h2⟩ := hb
        obtain ⟨e2, h2⟩ := onlyN_some h2
        obtain ⟨m, h1⟩ := hlp _ _ _ _ _ h1
        have ihb : Told P call lp n body := by
          have q := @ih.2
          unfold Told
          intro β
          exact q body rfl
        have hL := loop_sim (P := P) (c := body) (fun ρ H w a vs r H1 k1 k2 k3 => joined ihb x ks (scatter ks vs) ρ H w a r H1 k3 k1 k2) m ρ H w a (gather ks fr) r1 H2 hR (scatter_rel hf ks) h1
        refine wp_block (wp_mono hL.loop ?_)
        rintro e a' w' ⟨ρ', rfl, k1, k2, k3⟩
        exact outs' r1.1 (scatter ks r1.2) a' H2 w' ρ' (by rw [e2]; exact h2) k1 k2 k3
      | _ => exact absurd h (by intro h; cases h)
    | _ => cases c <;> exact absurd h (by intro h; cases h)
  | scope c ih =>
    refine ⟨?_, fun body e => by cases e⟩
    intro β ann k fr ρ H w a r H1 Q h hR hf hQ
    unfold evC at h
    refine wp_scope_straight (ih.1 ann k fr ρ H w a r H1 _ h hR hf fun ex fr' a' H' w' ρ' k1 k2 k3 k4 => ?_)
    have := hQ ex fr' a' H' w' ρ' k1 k2 k3 k4
    cases ex <;> exact this
  | loop c ih =>
    refine ⟨?_, fun body e => by cases e; exact ih.1⟩
    intro β ann k fr ρ H w a r H1 Q h hR hf hQ
    cases ann <;> simp [evC, M.fail] at h
  | _ =>
    refine ⟨?_, fun body e => by cases e⟩
    intro β ann k fr ρ H w a r H1 Q h hR hf hQ
    cases ann <;> simp [evC, M.fail] at h

end Go.Proofs.YtepchknpgeopfaaGreatDoor.E
