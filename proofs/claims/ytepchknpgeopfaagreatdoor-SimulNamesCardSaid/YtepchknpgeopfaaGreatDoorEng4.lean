/-
  THE ENGINE, part 4: operations on values alone: what the evaluator gives is what the model gives, at related operands.
-/
import Derived.Test.YtepchknpgeopfaaGreatDoorEng3
import Derived.ChangeKeysEq
set_option linter.unusedVariables false
set_option linter.unusedSimpArgs false
namespace Go.Proofs.YtepchknpgeopfaaGreatDoor.E
open Go

/-! ### Equality of aggregates -/

theorem eq1_key {k : KK} {x y : Value} (hx : keyOk k x = true) (hy : keyOk k y = true) {b : Bool} (h : eq1 x y = some b) : ∀ (P : Program) (w : World) (d : Nat) (t : TypeId), kkOf (P.underlying t) = some k →
    (Op.equalIn (d + 1) t x y).run P w = .ok b w := by
  intro P w d t ht
  unfold kkOf at ht
  split at ht <;> cases ht <;> cases x <;> simp [keyOk] at hx <;> cases y <;> simp [keyOk] at hy
  · rename_i q hu k1 a k2 c
    simp only [eq1] at h
    split at h
    · rename_i e; cases h; subst e; exact run_equalIn_int w d t _ _ a c hu
    · cases h
  · rename_i hu a c
    simp only [eq1] at h; cases h
    rw [run_equalIn_string w d t a c hu, beq_toListBytes]
  · rename_i hu a c
    simp only [eq1] at h; cases h
    exact run_equalIn_bool w d t a c hu

theorem fitsK_append {ks ls : List KK} : ∀ {xs : List Value}, fitsK (ks ++ ls) xs = true → fitsK ks (xs.take ks.length) = true ∧ fitsK ls (xs.drop ks.length) = true := by
  induction ks with
  | nil => intro xs h; exact ⟨by simp [fitsK], by simpa using h⟩
  | cons k ks ih =>
    intro xs h
    cases xs with
    | nil => simp [fitsK] at h
    | cons x xs =>
      simp only [List.cons_append, fitsK, Bool.and_eq_true] at h
      obtain ⟨h1, h2⟩ := ih h.2
      exact ⟨by simp [fitsK, h.1, h1], by simpa using h2⟩

theorem fitsK_length {ks : List KK} : ∀ {xs : List Value}, fitsK ks xs = true → xs.length = ks.length := by
  induction ks with
  | nil => intro xs h; cases xs <;> simp [fitsK] at h ⊢
  | cons k ks ih => intro xs h; cases xs with
    | nil => simp [fitsK] at h
    | cons x xs => simp only [fitsK, Bool.and_eq_true] at h; simp [ih h.2]

theorem eqCells_append : ∀ {xs ys xs' ys' : List Value} {b : Bool}, xs.length = ys.length → eqCells (xs ++ xs') (ys ++ ys') = some b →
    ∃ c d, eqCells xs ys = some c ∧ eqCells xs' ys' = some d ∧ b = (c && d)
  | [], [], _, _, b, _, h => ⟨true, b, rfl, h, by simp⟩
  | [], _ :: _, _, _, _, hl, _ => by simp at hl
  | _ :: _, [], _, _, _, hl, _ => by simp at hl
  | x :: xs, y :: ys, xs', ys', b, hl, h => by
    simp only [List.cons_append, eqCells] at h
    split at h
    · rename_i b1 b2 h1 h2
      cases h
      obtain ⟨c, d, h3, h4, rfl⟩ := eqCells_append (by simpa using hl) h2
      exact ⟨b1 && c, d, by simp [eqCells, h1, h3], h4, by simp [Bool.and_assoc]⟩
    · cases h

/-- A value of a type, made of so many cells. -/
def valOf (P : Program) (t : TypeId) (xs : List Value) : Value := if isAggT P t = true then .agg xs.toArray else xs.getD 0 undef

theorem run_part_valOf {P : Program} (w : World) {t : TypeId} {xs : Array Value} {off : Nat} (hu : (P.underlying t).isSome = true) (hl : isAggT P t = false → off < xs.size) (h1 : isAggT P t = false → P.cellsOf t = 1) :
    (part t xs off).run P w = .ok (valOf P t ((xs.toList.drop off).take (P.cellsOf t))) w := by
  obtain ⟨d, hd⟩ := Option.isSome_iff_exists.1 hu
  obtain ⟨i, hi⟩ := info_of_underlying hd
  unfold isAggT at h1 hl
  have agg : isAggB (some d) = true → (isAgg t).run P w = .ok true w := by
    intro h; simp only [isAgg, Sem.run_bind, run_underlying' w hd, Result.andThen_ok]; cases d <;> simp [isAggB] at h ⊢
  have plain : isAggB (some d) = false → (isAgg t).run P w = .ok false w := by
    intro h; simp only [isAgg, Sem.run_bind, run_underlying' w hd, Result.andThen_ok]; cases d <;> simp [isAggB] at h ⊢
  cases hb : isAggB (some d)
  · have hc := h1 (by rw [hd]; exact hb)
    have hlt : off < xs.size := hl (by rw [hd]; exact hb)
    simp only [part, Sem.run_bind, plain hb, Result.andThen_ok, Bool.false_eq_true, if_false, valOf, isAggT, hd, hb, hc]
    simp [hlt, List.getD, List.getElem?_take, List.getElem?_drop]
  · simp only [part, Sem.run_bind, agg hb, Result.andThen_ok, if_true, valOf, isAggT, hd, hb, run_sizeOf' w hi, Sem.run_pure]
    congr 2
    apply Array.ext'
    simp [List.extract]

def EqOk (P : Program) (d : Nat) : Prop := ∀ (t : TypeId) (ks : List KK), flatK P d t = some ks → ∀ (D : Nat), d ≤ D → ∀ (xs ys : List Value), fitsK ks xs = true → fitsK ks ys = true → ∀ (b : Bool), eqCells xs ys = some b →
  ∀ (w : World), (Op.equalIn D t (valOf P t xs) (valOf P t ys)).run P w = .ok b w

theorem flatK_one {P : Program} {d : Nat} {t : TypeId} {ks : List KK} (h : flatK P d t = some ks) : (P.underlying t).isSome = true ∧ (isAggT P t = false → ks.length = 1) := by
  cases d with
  | zero => simp [flatK] at h
  | succ d =>
    simp only [flatK] at h
    split at h
    all_goals (try (cases h; done))
    all_goals rename_i hu
    all_goals refine ⟨by simp [hu], fun ha => ?_⟩
    · cases h; rfl
    · cases h; rfl
    · cases h; rfl
    · simp [isAggT, isAggB, hu] at ha
    · simp [isAggT, isAggB, hu] at ha

theorem eqFields_ok {P : Program} {d D : Nat} (ih : EqOk P d) (hD : d ≤ D) (w : World) (X Y : Array Value) : ∀ (fs : List Field) (ks0 ks : List KK),
    fs.foldl (fun acc f => match acc, flatK P d f.type with
      | some ks, some l => if f.name != "_" && f.offset == ks.length && P.cellsOf f.type == l.length then some (ks ++ l) else none
      | _, _ => none) (some ks0) = some ks →
    ∃ ls, ks = ks0 ++ ls ∧ (fitsK ls (X.toList.drop ks0.length) = true → fitsK ls (Y.toList.drop ks0.length) = true → ∀ b, eqCells (X.toList.drop ks0.length) (Y.toList.drop ks0.length) = some b →
      (Op.eqFields D X Y fs).run P w = .ok b w)
  | [], ks0, ks, h => by
    simp at h
    refine ⟨[], by simp [h], fun hx hy b hb => ?_⟩
    have e1 : X.toList.drop ks0.length = [] := List.eq_nil_of_length_eq_zero (fitsK_length hx)
    have e2 : Y.toList.drop ks0.length = [] := List.eq_nil_of_length_eq_zero (fitsK_length hy)
    rw [e1, e2] at hb
    simp only [eqCells] at hb; cases hb
    simp [Op.eqFields]
  | f :: fs, ks0, ks, h => by
    rw [List.foldl_cons] at h
    have dead : ∀ fs : List Field, fs.foldl (fun acc f => match acc, flatK P d f.type with
      | some ks, some l => if f.name != "_" && f.offset == ks.length && P.cellsOf f.type == l.length then some (ks ++ l) else none
      | _, _ => none) none = none := by
      intro fs; induction fs with
      | nil => rfl
      | cons g gs ihg => rw [List.foldl_cons]; exact ihg
    cases hf : flatK P d f.type with
    | none => simp only [hf] at h; rw [dead] at h; cases h
    | some l =>
      simp only [hf] at h
      by_cases hc : (f.name != "_" && f.offset == ks0.length && P.cellsOf f.type == l.length) = true
      · rw [if_pos hc] at h
        simp only [Bool.and_eq_true, bne_iff_ne, beq_iff_eq] at hc
        obtain ⟨⟨hn, ho⟩, hs⟩ := hc
        obtain ⟨ls, rfl, hrest⟩ := eqFields_ok ih hD w X Y fs (ks0 ++ l) ks h
        refine ⟨l ++ ls, by simp, fun hx hy b hb => ?_⟩
        obtain ⟨hx1, hx2⟩ := fitsK_append hx
        obtain ⟨hy1, hy2⟩ := fitsK_append hy
        rw [List.drop_drop] at hx2 hy2
        have lx := fitsK_length hx1
        have ly := fitsK_length hy1
        rw [← List.take_append_drop l.length (X.toList.drop ks0.length), ← List.take_append_drop l.length (Y.toList.drop ks0.length)] at hb
        obtain ⟨c, e, hb1, hb2, rfl⟩ := eqCells_append (by rw [lx, ly]) hb
        rw [List.drop_drop, List.drop_drop] at hb2
        obtain ⟨hu, h1⟩ := flatK_one hf
        have px := run_part_valOf (xs := X) (off := f.offset) w hu (fun ha => by have := h1 ha; rw [ho]; simp at lx; omega) (fun ha => by rw [hs]; exact h1 ha)
        have py := run_part_valOf (xs := Y) (off := f.offset) w hu (fun ha => by have := h1 ha; rw [ho]; simp at ly; omega) (fun ha => by rw [hs]; exact h1 ha)
        rw [hs, ho] at px py
        have he := ih f.type l hf D hD _ _ hx1 hy1 c hb1 w
        simp only [Op.eqFields, ne_eq, hn, not_false_eq_true, if_true, Sem.run_bind, ho, px, py, Result.andThen_ok, he]
        cases c
        · simp
        · simp only [Bool.not_true, Bool.false_eq_true, if_false, Bool.true_and]
          exact hrest (by simpa using hx2) (by simpa using hy2) e (by simpa using hb2)
      · rw [if_neg hc, dead] at h
        cases h

theorem eqItems_ok {P : Program} {d D : Nat} (ih : EqOk P d) (hD : d ≤ D) (w : World) (X Y : Array Value) {e : TypeId} {l : List KK} (hf : flatK P d e = some l) (hs : P.cellsOf e = l.length) : ∀ (n j : Nat),
    fitsK (List.replicate n l).flatten (X.toList.drop (j * l.length)) = true → fitsK (List.replicate n l).flatten (Y.toList.drop (j * l.length)) = true → ∀ b, eqCells (X.toList.drop (j * l.length)) (Y.toList.drop (j * l.length)) = some b →
      (Op.eqItems D e (P.cellsOf e) X Y (List.range' j n)).run P w = .ok b w
  | 0, j, hx, hy, b, hb => by
    simp only [List.replicate, List.flatten_nil] at hx hy
    have e1 : X.toList.drop (j * l.length) = [] := List.eq_nil_of_length_eq_zero (fitsK_length hx)
    have e2 : Y.toList.drop (j * l.length) = [] := List.eq_nil_of_length_eq_zero (fitsK_length hy)
    rw [e1, e2] at hb
    simp only [eqCells] at hb; cases hb
    simp [Op.eqItems]
  | n + 1, j, hx, hy, b, hb => by
    rw [List.replicate_succ, List.flatten_cons] at hx hy
    obtain ⟨hx1, hx2⟩ := fitsK_append hx
    obtain ⟨hy1, hy2⟩ := fitsK_append hy
    rw [List.drop_drop, show j * l.length + l.length = (j + 1) * l.length from by rw [Nat.add_mul]; omega] at hx2 hy2
    have lx := fitsK_length hx1
    have ly := fitsK_length hy1
    rw [← List.take_append_drop l.length (X.toList.drop (j * l.length)), ← List.take_append_drop l.length (Y.toList.drop (j * l.length))] at hb
    obtain ⟨c, e', hb1, hb2, rfl⟩ := eqCells_append (by rw [lx, ly]) hb
    rw [List.drop_drop, List.drop_drop, show j * l.length + l.length = (j + 1) * l.length from by rw [Nat.add_mul]; omega] at hb2
    obtain ⟨hu, h1⟩ := flatK_one hf
    have px := run_part_valOf (xs := X) (off := j * l.length) w hu (fun ha => by have := h1 ha; simp at lx; omega) (fun ha => by rw [hs]; exact h1 ha)
    have py := run_part_valOf (xs := Y) (off := j * l.length) w hu (fun ha => by have := h1 ha; simp at ly; omega) (fun ha => by rw [hs]; exact h1 ha)
    rw [hs] at px py
    have he := ih e l hf D hD _ _ hx1 hy1 c hb1 w
    rw [List.range'_succ]
    simp only [Op.eqItems, Sem.run_bind, hs, px, py, Result.andThen_ok, he]
    cases c
    · simp
    · simp only [Bool.not_true, Bool.false_eq_true, if_false, Bool.true_and]
      have := eqItems_ok ih hD w X Y hf hs n (j + 1) hx2 hy2 e' hb2
      rwa [hs] at this

theorem eqOk (P : Program) : ∀ d, EqOk P d
  | 0 => fun t ks h => by simp [flatK] at h
  | d + 1 => by
    intro t ks h D hD xs ys hx hy b hb w
    obtain ⟨D, rfl⟩ : ∃ m, D = m + 1 := ⟨D - 1, by omega⟩
    have scalar : ∀ k, ks = [k] → kkOf (P.underlying t) = some k → isAggT P t = false → (Op.equalIn (D + 1) t (valOf P t xs) (valOf P t ys)).run P w = .ok b w := by
      intro k hk hu ha
      subst hk
      have one : ∀ {zs : List Value}, fitsK [k] zs = true → ∃ z, zs = [z] ∧ keyOk k z = true := by
        intro zs hz
        cases zs with
        | nil => simp [fitsK] at hz
        | cons z zs =>
          cases zs with
          | nil => exact ⟨z, rfl, by simpa [fitsK] using hz⟩
          | cons _ _ => simp [fitsK] at hz
      obtain ⟨x, rfl, hx1⟩ := one hx
      obtain ⟨y, rfl, hy1⟩ := one hy
      · simp only [eqCells] at hb
        split at hb
        · rename_i b1 b2 h1 h2
          cases h2; cases hb
          simp only [valOf, ha, Bool.false_eq_true, if_false, List.getD_cons_zero, Bool.and_true]
          exact eq1_key hx1 hy1 h1 P w D t hu
        · cases hb
    simp only [flatK] at h
    split at h
    all_goals (try (cases h; done))
    · rename_i hu; cases h; exact scalar .bool rfl (by simp [kkOf, hu]) (by simp [isAggT, isAggB, hu])
    · rename_i hu; cases h; exact scalar .int rfl (by simp [kkOf, hu]) (by simp [isAggT, isAggB, hu])
    · rename_i hu; cases h; exact scalar .str rfl (by simp [kkOf, hu]) (by simp [isAggT, isAggB, hu])
    · rename_i fs hu
      split at h
      · cases h
      · rename_i hst
        have hfo : P.fieldsOf t = fs := by simp [Program.fieldsOf, hu]
        have hag : isAggT P t = true := by simp [isAggT, isAggB, hu]
        obtain ⟨ls, e, hrun⟩ := eqFields_ok (eqOk P d) (show d ≤ D by omega) w xs.toArray ys.toArray fs.toList [] ks h
        simp only [List.nil_append] at e
        subst e
        simp only [valOf, hag, if_true]
        rw [run_equalIn_struct w D t _ _ (by rw [hfo]; exact hu) (by simpa using hst), hfo]
        exact hrun (by simpa using hx) (by simpa using hy) b (by simpa using hb)
    · rename_i n e hu
      split at h
      · rename_i l hl
        split at h
        · rename_i hs
          cases h
          have hag : isAggT P t = true := by simp [isAggT, isAggB, hu]
          simp only [beq_iff_eq] at hs
          obtain ⟨dd, hdd⟩ := Option.isSome_iff_exists.1 (flatK_one hl).1
          obtain ⟨i, hi⟩ := info_of_underlying hdd
          simp only [valOf, hag, if_true]
          rw [run_equalIn_array w D xs.toArray ys.toArray hu hi, List.range_eq_range']
          exact eqItems_ok (eqOk P d) (show d ≤ D by omega) w xs.toArray ys.toArray hl hs n 0 (by simpa using hx) (by simpa using hy) b (by simpa using hb)
        · cases h
      · cases h

end Go.Proofs.YtepchknpgeopfaaGreatDoor.E
