/-
  THE ENGINE, part 6: arithmetic, aggregates, slices of slices, lengths: at related operands the model gives a related value, in the same world.
-/
import Derived.Test.YtepchknpgeopfaaGreatDoorEng5
set_option linter.unusedVariables false
set_option linter.unusedSimpArgs false
namespace Go.Proofs.YtepchknpgeopfaaGreatDoor.E
open Go

variable {P : Program} {ρ : Emb} {w : World}

theorem eq1_junk_r (x : Value) : eq1 x junk = none := by
  cases x <;> first
    | rfl
    | (rename_i a; cases a <;> rfl)
    | (rename_i a _ _; cases a <;> rfl)
theorem eq1_junk_l (x : Value) : eq1 junk x = none := by cases x <;> rfl
theorem eqV_junk_r (t : TypeId) (x : Value) : eqV P t x junk = none := by
  unfold eqV
  split
  · rename_i h; exact absurd h (by simp [E.junk])
  · rename_i h; exact absurd h (by simp [E.junk])
  · rw [eq1_junk_r]; split <;> rfl
theorem eqV_junk_l (t : TypeId) (x : Value) : eqV P t junk x = none := by
  unfold eqV
  split
  · rename_i h; exact absurd h (by simp [E.junk])
  · rename_i h; exact absurd h (by simp [E.junk])
  · rw [eq1_junk_l]; split <;> rfl

theorem sim_bin {op : BinOp} {t : TypeId} {x y xc yc v : Value} (ox oy : Operand) (hx : VRel ρ x xc) (hy : VRel ρ y yc) (h : binV P op t x y = some v) :
    Gives P (do eqGuard op t ox oy xc yc; binOp op t xc yc) ρ w v := by
  unfold binV at h
  split at h
  · rename_i k a k' b
    cases hx; cases hy
    have g : (eqGuard op t ox oy (.int k a) (.int k' b)).run P w = .ok () w := by cases op <;> rfl
    split at h
    · obtain ⟨h1, h2⟩ := sim_shift (P := P) (w := w) (k' := k') t h
      exact ⟨v, by simp only [Sem.run_bind, g, Result.andThen_ok]; exact h1, h2 ρ⟩
    · obtain ⟨h1, h2⟩ := sim_shift (P := P) (w := w) (k' := k') t h
      exact ⟨v, by simp only [Sem.run_bind, g, Result.andThen_ok]; exact h1, h2 ρ⟩
    · rename_i n1 n2
      split at h
      · rename_i e
        subst e
        obtain ⟨h1, h2⟩ := sim_int (P := P) (w := w) t ⟨fun e => n1 e, fun e => n2 e⟩ h
        exact ⟨v, by simp only [Sem.run_bind, g, Result.andThen_ok]; exact h1, h2 ρ⟩
      · cases h
  · rename_i a b
    cases hx; cases hy
    have g : (eqGuard op t ox oy (.string a) (.string b)).run P w = .ok () w := by cases op <;> rfl
    obtain ⟨h1, h2⟩ := sim_str (P := P) (w := w) t h
    exact ⟨v, by simp only [Sem.run_bind, g, Result.andThen_ok]; exact h1, h2 ρ⟩
  · rename_i ni ns
    have eqlB : ∀ b, eqV P t x y = some b → (binOp .eql t xc yc).run P w = .ok (.bool b) w ∧ (binOp .neq t xc yc).run P w = .ok (.bool !b) w := by
      intro b hb
      obtain ⟨_, h2⟩ := sim_eq (w := w) hx hy hb
      have notint : ∀ k a k' b', ¬ (xc = .int k a ∧ yc = .int k' b') := by
        rintro k a k' b' ⟨rfl, rfl⟩
        cases hx with
        | int => cases hy with
          | int => exact ni _ _ _ _ rfl rfl
          | junk => rw [eqV_junk_r] at hb; cases hb
        | junk => rw [eqV_junk_l] at hb; cases hb
      have notstr : ∀ a b', ¬ (xc = .string a ∧ yc = .string b') := by
        rintro a b' ⟨rfl, rfl⟩
        cases hx with
        | str => cases hy with
          | str => exact ns _ _ rfl rfl
          | junk => rw [eqV_junk_r] at hb; cases hb
        | junk => rw [eqV_junk_l] at hb; cases hb
      have notfl : ∀ k a k' b', ¬ (xc = .float k a ∧ yc = .float k' b') := by
        rintro k a k' b' ⟨rfl, rfl⟩
        cases hx; rw [eqV_junk_l] at hb; cases hb
      have notcx : ∀ k a b k' a' b', ¬ (xc = .complex k a b ∧ yc = .complex k' a' b') := by
        rintro k a b1 k' a' b' ⟨rfl, rfl⟩
        cases hx; rw [eqV_junk_l] at hb; cases hb
      constructor
      · unfold binOp
        split <;> first
          | (exact absurd ⟨rfl, rfl⟩ (notint _ _ _ _))
          | (exact absurd ⟨rfl, rfl⟩ (notstr _ _))
          | (exact absurd ⟨rfl, rfl⟩ (notfl _ _ _ _))
          | (exact absurd ⟨rfl, rfl⟩ (notcx _ _ _ _ _ _))
          | (simp_all; done)
      · unfold binOp
        split <;> first
          | (exact absurd ⟨rfl, rfl⟩ (notint _ _ _ _))
          | (exact absurd ⟨rfl, rfl⟩ (notstr _ _))
          | (exact absurd ⟨rfl, rfl⟩ (notfl _ _ _ _))
          | (exact absurd ⟨rfl, rfl⟩ (notcx _ _ _ _ _ _))
          | (simp_all; done)
    split at h
    · cases hb : eqV P t x y with
      | none => simp [hb] at h
      | some b =>
        simp [hb] at h
        subst h
        obtain ⟨h1, _⟩ := sim_eq (w := w) hx hy hb
        exact ⟨_, by simp only [Sem.run_bind, h1, Result.andThen_ok]; exact (eqlB b hb).1, .bool _⟩
    · cases hb : eqV P t x y with
      | none => simp [hb] at h
      | some b =>
        simp [hb] at h
        subst h
        obtain ⟨h1, _⟩ := sim_eq (w := w) hx hy hb
        exact ⟨_, by simp only [Sem.run_bind, h1, Result.andThen_ok]; exact (eqlB b hb).2, .bool _⟩
    · cases h

theorem sim_nil {op : BinOp} {t : TypeId} {x y xc yc v : Value} (ox oy : Operand) (hx : VRel ρ x xc) (hy : VRel ρ y yc) (h : (bif isNilC ox || isNilC oy then binNil P op t x y else binV P op t x y) = some v) :
    Gives P (do eqGuard op t ox oy xc yc; binOp op t xc yc) ρ w v := by
  cases hc : isNilC ox || isNilC oy with
  | false => rw [hc] at h; exact sim_bin ox oy hx hy h
  | true =>
    rw [hc, cond_true] at h
    unfold binNil at h
    split at h
    · split at h
      · rename_i ms hu
        cases hx; cases hy
        have g : (eqGuard op t ox oy .nilIface .nilIface).run P w = .ok () w := by
          rcases Bool.or_eq_true_iff.1 hc with h1 | h1
          · have : ox = .const .nilIface := by unfold isNilC at h1; split at h1 <;> first | rfl | cases h1
            subst this
            cases op <;> rfl
          · have : oy = .const .nilIface := by unfold isNilC at h1; split at h1 <;> first | rfl | cases h1
            subst this
            cases op <;> first | rfl | (cases ox <;> rfl)
        have e1 : (Op.equal t .nilIface .nilIface).run P w = .ok true w := by
          have gen : ∀ d, (Op.equalIn (d + 1) t .nilIface .nilIface).run P w = .ok true w := by
            intro d
            simp only [Op.equalIn, Sem.run_bind, run_underlying' w hu, Result.andThen_ok, Sem.run_pure]
          exact gen 9999
        split at h <;> cases h
        · exact ⟨_, by simp only [Sem.run_bind, g, Result.andThen_ok, binOp, e1, Sem.run_pure, Sem.run_map], .bool _⟩
        · exact ⟨_, by simp only [Sem.run_bind, g, Result.andThen_ok, binOp, e1, Sem.run_pure, Sem.run_map]; rfl, .bool _⟩
      · cases h
    · exact sim_bin ox oy hx hy h

theorem sim_un {op : UnOp} {x xc v : Value} (hx : VRel ρ x xc) (h : unV op x = some v) : Gives P (Op.unary op xc) ρ w v := by
  unfold unV at h
  split at h <;> cases h
  · cases hx; exact ⟨_, rfl, .bool _⟩
  · cases hx; exact ⟨_, rfl, .int _ _⟩
  · cases hx; exact ⟨_, rfl, .int _ _⟩

/-! ### Aggregates -/

theorem fold_splice (off : Nat) : ∀ (vs : List Value) (k : Nat) (cells : Array Value), off + k + vs.length ≤ cells.size →
    ((vs.zipIdx k).foldl (fun cs (p : Value × Nat) => cs.setIfInBounds (off + p.2) p.1) cells).toList = cells.toList.take (off + k) ++ vs ++ cells.toList.drop (off + k + vs.length)
  | [], k, cells, _ => by simp
  | v :: vs, k, cells, h => by
    simp only [List.zipIdx_cons, List.foldl_cons]
    rw [fold_splice off vs (k + 1) _ (by simp at h ⊢; omega)]
    have e := list_seg_step cells.toList (off + k) v vs (by simp at h ⊢; omega)
    simpa [Array.toList_setIfInBounds, Nat.add_assoc] using e

theorem splice_rel {xs ys vs us : List Value} (h : LRel ρ xs ys) (h' : LRel ρ vs us) (o : Nat) : LRel ρ (splice xs o vs) (splice ys o us) := by
  unfold splice
  rw [← h'.length]
  exact ((h.take o).append h').append (h.drop _)

/-- Parts at places: the concrete parts are laid by the model's own 'fill'. -/
theorem fillP_sim {place : Nat → Option (Nat × Nat)} : ∀ {ps : List (Nat × Nat × Value)} {qs : List (Nat × Value)} {cs : List Value} {cells : List Value} {cc : Array Value},
    LRel ρ cells cc.toList → All2 (fun (p : Nat × Nat × Value) (q : Nat × Value) => place q.1 = some (p.1, p.2.1) ∧ VRel ρ p.2.2 q.2) ps qs → fillP cells ps = some cs →
    ∃ cc', Instr.fill place cc qs = some cc' ∧ LRel ρ cs cc'.toList
  | [], qs, cs, cells, cc, hl, hp, h => by
    cases hp
    simp only [fillP] at h; cases h
    exact ⟨cc, rfl, hl⟩
  | (o, n, v) :: ps, qs, cs, cells, cc, hl, hp, h => by
    cases hp with
    | cons h1 h2 =>
      rename_i q qs
      obtain ⟨i, u⟩ := q
      obtain ⟨hpl, hv⟩ := h1
      simp only [fillP] at h
      split at h
      · rename_i hc
        obtain ⟨c1, c2, c3⟩ := hc
        obtain ⟨hcr, _⟩ := cells_rel hv c3
        have e1 : u.cells.size = n := by have := hcr.length; simp only [Array.length_toList] at this c1; omega
        have e2 : cc.size = cells.length := by have := hl.length; simp at this; omega
        have hsp := fold_splice o u.cells.toList 0 cc (by simp; omega)
        have hl' : LRel ρ (splice cells o v.cells.toList) (u.cells.zipIdx.foldl (fun cs (c, j) => cs.setIfInBounds (o + j) c) cc).toList := by
          have := splice_rel hl hcr o
          rw [show (u.cells.zipIdx.foldl (fun cs (c, j) => cs.setIfInBounds (o + j) c) cc).toList = splice cc.toList o u.cells.toList from ?_]
          · exact this
          · rw [← Array.foldl_toList, Array.toList_zipIdx]
            simpa [splice] using hsp
        obtain ⟨cc', h3, h4⟩ := fillP_sim hl' h2 h
        refine ⟨cc', ?_, h4⟩
        simp only [Instr.fill, hpl]
        rw [if_neg (by simp; omega)]
        exact h3
      · cases h

theorem mapM_some {α β : Type} (f : α → Sem β) (g : α → β) : ∀ (l : List α), (∀ x ∈ l, (f x).run P w = .ok (g x) w) → (l.mapM f).run P w = .ok (l.map g) w
  | [], _ => by simp
  | x :: xs, h => by
    rw [List.mapM_cons]
    simp [h x (by simp), mapM_some f g xs (fun y hy => h y (by simp [hy]))]

theorem lit_plain {v : Value} (h : plainC v = true) (ρ : Emb) : VRel ρ v v := by
  unfold plainC at h
  split at h <;> first | (cases h; done) | constructor

theorem plainV_rel {v : Value} (h : plainV v = true) (ρ : Emb) : VRel ρ v v := by
  unfold plainV at h
  split at h
  · rename_i cs
    refine .agg rfl fun i h1 h2 => lit_plain (?_ : plainC cs[i] = true) ρ
    simp only [List.all_eq_true] at h
    exact h _ (by simp)
  · exact .iface _ (lit_plain h ρ)
  · exact lit_plain h ρ

theorem plain_cells {v : Value} (h : v.cells.toList.all plainC = true) (ρ : Emb) : LRel ρ v.cells.toList v.cells.toList := by
  simp only [List.all_eq_true] at h
  refine All2.of_get rfl fun i a b ha hb => ?_
  rw [ha] at hb; cases hb
  exact lit_plain (h a (List.mem_of_getElem? ha)) ρ

theorem zero_rel {t : TypeId} {z : List Value} (h : zeroL P t = some z) : (∀ ρ : Emb, LRel ρ z z) ∧ ∃ i v, P.info? t = some i ∧ i.zero = some v ∧ z = v.cells.toList := by
  unfold zeroL at h
  split at h
  · rename_i i hi
    split at h
    · rename_i v hv
      split at h
      · rename_i hp
        cases h
        exact ⟨fun ρ => plain_cells hp ρ, i, v, hi, hv, rfl⟩
      · cases h
    · cases h
  · cases h

theorem places_rel {t : TypeId} : ∀ {xs : List (Nat × Value)} {ps : List (Nat × Nat × Value)} {ys : List (Nat × Value)}, places P t xs = some ps → All2 (fun (a b : Nat × Value) => a.1 = b.1 ∧ VRel ρ a.2 b.2) xs ys →
    ∀ (place : Nat → Option (Nat × Nat)), (∀ i r, (match P.underlying t with
      | some (.struct fs) => (match fs.toList[i]? with
        | some f => some (f.offset, P.cellsOf f.type)
        | none => none)
      | some (.array _ e) | some (.slice e) => some (i * P.cellsOf e, P.cellsOf e)
      | _ => none) = some r → place i = some r) →
    All2 (fun (p : Nat × Nat × Value) (q : Nat × Value) => place q.1 = some (p.1, p.2.1) ∧ VRel ρ p.2.2 q.2) ps ys
  | [], ps, ys, h, hr, place, hp => by
    cases hr
    simp only [places] at h; cases h
    exact .nil
  | (i, v) :: xs, ps, ys, h, hr, place, hp => by
    cases hr with
    | cons h1 h2 =>
      rename_i q ys
      obtain ⟨j, u⟩ := q
      obtain ⟨e, hv⟩ := h1
      simp only at e
      subst e
      simp only [places] at h
      split at h
      · rename_i o n l ho hl
        cases h
        exact .cons ⟨hp _ _ ho, hv⟩ (places_rel hl h2 place hp)
      · cases h

theorem sim_build {t : TypeId} {z cs : List Value} {xs : List (Nat × Value)} {ys : Array (Nat × Value)} {ps : List (Nat × Nat × Value)} (hz : zeroL P t = some z) (hps : places P t xs = some ps)
    (hr : All2 (fun (a b : Nat × Value) => a.1 = b.1 ∧ VRel ρ a.2 b.2) xs ys.toList) (hs : placesOk P t = true) (h : fillP z ps = some cs) : Gives P (Instr.build t ys) ρ w (.agg cs.toArray) := by
  obtain ⟨hzr, i, v, hi, hzv, rfl⟩ := zero_rel hz
  unfold placesOk at hs
  split at hs
  · rename_i fs hu
    simp only [List.all_eq_true] at hs
    have hpl := places_rel (ρ := ρ) hps hr (fun k => (fs.map fun f => (f.offset, P.cellsOf f.type))[k]?) (fun k r hk => by
      rw [hu] at hk
      simp only at hk
      split at hk
      · rename_i f hf
        cases hk
        simp only [Array.getElem?_toList] at hf
        simp [hf]
      · cases hk)
    obtain ⟨cc', h1, h2⟩ := fillP_sim (hzr ρ) hpl h
    refine ⟨.agg cc', ?_, ?_⟩
    · have hm : (fs.mapM fun f => (do pure (f.offset, ← sizeOf f.type) : Sem (Nat × Nat))).run P w = .ok (fs.map fun f => (f.offset, P.cellsOf f.type)) w := by
        rw [Array.mapM_eq_mapM_toList]
        simp only [Sem.run_map]
        rw [mapM_some _ (fun f : Field => (f.offset, P.cellsOf f.type)) fs.toList (fun f hf => ?_)]
        · simp only [Result.andThen]
          congr 1
          apply Array.ext'
          simp
        · obtain ⟨j, hj⟩ := Option.isSome_iff_exists.1 (hs f hf)
          simp [run_sizeOf' w hj]
      simp only [Instr.build, Sem.run_bind, run_zeroValue' w hi hzv, Result.andThen_ok, run_underlying' w hu, hm, h1, Sem.run_pure]
    · have := Lagg h2
      simpa using this
  · rename_i n e hu
    obtain ⟨j, hj⟩ := Option.isSome_iff_exists.1 hs
    have hpl := places_rel (ρ := ρ) hps hr (fun k => some (k * P.cellsOf e, P.cellsOf e)) (fun k r hk => by
      rw [hu] at hk
      exact hk)
    obtain ⟨cc', h1, h2⟩ := fillP_sim (place := fun k => some (k * P.cellsOf e, P.cellsOf e)) (hzr ρ) hpl h
    refine ⟨.agg cc', ?_, ?_⟩
    · simp only [Instr.build, Sem.run_bind, run_zeroValue' w hi hzv, Result.andThen_ok, run_underlying' w hu, run_sizeOf' w hj, h1, Sem.run_pure]
    · have := Lagg h2
      simpa using this
  · cases hs

end Go.Proofs.YtepchknpgeopfaaGreatDoor.E
