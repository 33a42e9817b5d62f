/-
  THE ENGINE, part 8: operations that make a block; maps; append, copy, clear.
-/
import Derived.Test.YtepchknpgeopfaaGreatDoorEng7
import Derived.Laws.AppendOwn
set_option linter.unusedVariables false
set_option linter.unusedSimpArgs false
namespace Go.Proofs.YtepchknpgeopfaaGreatDoor.E
open Go

variable {P : Program} {alc : Option Nat}

/-- The model's computation gives a value related to v, in a world that bears H'. -/
def Makes (alc : Option Nat) (P : Program) (s : Sem Value) (ρ : Emb) (H : AH) (w : World) (v : Value) (H' : AH) : Prop :=
  ∃ w' vc ρ', s.run P w = .ok vc w' ∧ Rel ρ' H' w' ∧ Evo alc ρ H w ρ' H' w' ∧ VRel ρ' v vc

theorem Gives.makes {s : Sem Value} {ρ : Emb} {H : AH} {w : World} {v : Value} (h : Gives P s ρ w v) (hR : Rel ρ H w) : Makes alc P s ρ H w v H :=
  let ⟨vc, h1, h2⟩ := h
  ⟨w, vc, ρ, h1, hR, .refl _ _ _, h2⟩

variable {ρ : Emb} {H H' : AH} {w : World}

theorem bind_some {α β : Type} {x : M α} {k : α → M β} {H H' : AH} {r : β} (h : M.bind x k H = some (r, H')) : ∃ a H1, x H = some (a, H1) ∧ k a H1 = some (r, H') := by
  unfold M.bind at h
  split at h
  · rename_i a H1 hx; exact ⟨a, H1, hx, h⟩
  · cases h

theorem lift_some {α : Type} {o : Option α} {H H' : AH} {r : α} (h : M.lift o H = some (r, H')) : o = some r ∧ H' = H := by
  unfold M.lift at h
  split at h
  · cases h; exact ⟨rfl, rfl⟩
  · cases h

theorem pure_some {α : Type} {a r : α} {H H' : AH} (h : M.pure a H = some (r, H')) : r = a ∧ H' = H := by
  unfold M.pure at h; cases h; exact ⟨rfl, rfl⟩

theorem take_self_rel {xs ys : List Value} (h : LRel ρ xs ys) : LRel ρ xs (ys.take xs.length) := by
  rw [h.length, List.take_length]; exact h

/-- A row made of cells that are all known. -/
theorem newRow_full {alc : Option Nat} {e : TypeId} {cs : List Value} {cc : Array Value} {b : Nat} (hR : Rel ρ H w) (hf : Free ρ alc) (h : newRow alc e cs H = some (b, H')) (hcs : LRel ρ cs cc.toList) :
    ∃ ρ', Ext ρ ρ' ∧ ρ' b = some ⟨w.heap.size, 0, cs.length, cc.size⟩ ∧ Rel ρ' H' { w with heap := w.heap.push (.cells cc e (0, 0)) } ∧ Evo alc ρ H w ρ' H' { w with heap := w.heap.push (.cells cc e (0, 0)) } :=
  newRow_sim hR hf h [] (take_self_rel hcs) (by have := hcs.length; simp at this; omega) (fun _ => by have := hcs.length; simpa using this)

theorem newRow_ok {alc : Option Nat} {e : TypeId} {cs : List Value} {b : Nat} (h : newRow alc e cs H = some (b, H')) : cs.all cellOk = true := by
  unfold newRow at h
  split at h
  · assumption
  · cases h

theorem sim_alloc {alc : Option Nat} {t : TypeId} {z : List Value} {v : Value} (hR : Rel ρ H w) (hf : Free ρ alc) (hz : zeroL P t = some z)
    (h : M.bind (newRow alc t z) (fun b => M.pure (.pointer (some ⟨b, 0, none⟩))) H = some (v, H')) : Makes alc P (Instr.alloc t true (.tuple #[])) ρ H w v H' := by
  obtain ⟨hzr, i, zv, hi, hzv, rfl⟩ := zero_rel hz
  obtain ⟨b, H1, h1, h2⟩ := bind_some h
  obtain ⟨rfl, rfl⟩ := pure_some h2
  obtain ⟨ρ', he, hb, hR', hE⟩ := newRow_full (cc := zv.cells) hR hf h1 (hzr ρ)
  refine ⟨_, .pointer (some ⟨w.heap.size, 0, none⟩), ρ', ?_, hR', hE, .ptr' hb rfl⟩
  simp [Instr.alloc, run_zeroValue' w hi hzv, newVar, Go.newRow]

theorem sim_box {alc : Option Nat} {t : TypeId} {x xc v : Value} (hR : Rel ρ H w) (hf : Free ρ alc) (hx : VRel ρ x xc) (h : box alc t x H = some (v, H')) : Makes alc P (Instr.box t xc) ρ H w v H' := by
  unfold box at h
  obtain ⟨b, H1, h1, h2⟩ := bind_some h
  obtain ⟨rfl, rfl⟩ := pure_some h2
  obtain ⟨hcr, _⟩ := cells_rel hx (newRow_ok h1)
  obtain ⟨ρ', he, hb, hR', hE⟩ := newRow_full (cc := xc.cells) hR hf h1 hcr
  refine ⟨_, .pointer (some ⟨w.heap.size, 0, none⟩), ρ', ?_, hR', hE, .ptr' hb rfl⟩
  simp [Instr.box, newVar, Go.newRow]

theorem zero_cells (z : Array Value) : ∀ n, (List.range (n * z.size)).map (fun i => z[i % z.size]!) = (List.replicate n z.toList).flatten
  | 0 => by simp
  | n + 1 => by
    rw [List.replicate_succ', List.flatten_append, ← zero_cells z n, Nat.add_mul, Nat.one_mul, List.range_add, List.map_append]
    congr 1
    simp only [List.map_map, List.flatten_cons, List.flatten_nil, List.append_nil]
    apply List.ext_getElem?
    intro i
    by_cases hi : i < z.size
    · simp only [List.getElem?_map, List.getElem?_range hi, Option.map_some, Function.comp, Array.getElem?_toList]
      rw [Nat.mul_add_mod_self_right, Nat.mod_eq_of_lt hi, Array.getElem?_eq_getElem hi]
      simp [hi]
    · simp [Nat.le_of_not_lt hi]

theorem zeros_rel {z : List Value} (hz : LRel ρ z z) : ∀ n, LRel ρ (List.replicate n z).flatten (List.replicate n z).flatten
  | 0 => .nil
  | n + 1 => by rw [List.replicate_succ, List.flatten_cons]; exact hz.append (zeros_rel hz n)

theorem sim_buildSlice {alc : Option Nat} {t e : TypeId} {n : Nat} {z cs : List Value} {xs : List (Nat × Value)} {ys : Array (Nat × Value)} {ps : List (Nat × Nat × Value)} {v : Value} (hR : Rel ρ H w) (hf : Free ρ alc)
    (hu : P.underlying t = some (.slice e)) (hz : zeroL P e = some z) (hzl : z.length = P.cellsOf e) (hsz : n * P.cellsOf e ≤ 2 ^ 24) (hps : places P t xs = some ps)
    (hr : All2 (fun (a b : Nat × Value) => a.1 = b.1 ∧ VRel ρ a.2 b.2) xs ys.toList) (hfi : fillP (List.replicate n z).flatten ps = some cs)
    (h : M.bind (newRow alc e cs) (fun b => M.pure (.slice (some ⟨b, 0, none⟩) n n)) H = some (v, H')) : Makes alc P (Instr.buildSlice t n ys) ρ H w v H' := by
  obtain ⟨hzr, i, zv, hi, hzv, rfl⟩ := zero_rel hz
  obtain ⟨b, H1, h1, h2⟩ := bind_some h
  obtain ⟨rfl, rfl⟩ := pure_some h2
  have hpl := places_rel (ρ := ρ) hps hr (fun k => some (k * P.cellsOf e, P.cellsOf e)) (fun k r hk => by rw [hu] at hk; exact hk)
  let zero : Array Value := if n * P.cellsOf e = 0 then #[] else zv.cells
  have hcells : ((Array.range (n * P.cellsOf e)).map (zero[· % zero.size]!)).toList = (List.replicate n zv.cells.toList).flatten := by
    by_cases h0 : n * P.cellsOf e = 0
    · rw [← zero_cells, show zv.cells.size = P.cellsOf e from by simpa using hzl, h0]; simp
    · have : zero = zv.cells := by simp [zero, h0]
      rw [this, ← zero_cells, show zv.cells.size = P.cellsOf e from by simpa using hzl]
      simp
  obtain ⟨cc', g1, g2⟩ := fillP_sim (place := fun k => some (k * P.cellsOf e, P.cellsOf e)) (cc := (Array.range (n * P.cellsOf e)).map (zero[· % zero.size]!)) (by rw [hcells]; exact zeros_rel (hzr ρ) n) hpl hfi
  obtain ⟨ρ', he, hb, hR', hE⟩ := newRow_full (cc := cc') hR hf h1 g2
  refine ⟨_, .slice (some ⟨w.heap.size, 0, none⟩) n n, ρ', ?_, hR', hE, .sl hb (Nat.le_refl _) (.inl rfl)⟩
  have hnot : ¬ n * P.cellsOf e > 2 ^ 24 := by omega
  by_cases h0 : n * P.cellsOf e = 0
  · have hz0 : zero = #[] := by simp only [zero, h0, if_true]
    rw [hz0] at g1
    simp only [Instr.buildSlice, Sem.run_bind, run_underlying' w hu, Result.andThen_ok, run_sizeOf' w hi, hnot, if_false]
    simp only [h0, if_true, Sem.run_bind, Sem.run_pure, Result.andThen_ok] at g1 ⊢
    simp only [g1, Sem.run_bind, Sem.run_pure, Result.andThen_ok, Go.newRow, run_newObj]
  · have hz0 : zero = zv.cells := by simp only [zero, h0, if_false]
    rw [hz0] at g1
    simp only [Instr.buildSlice, Sem.run_bind, run_underlying' w hu, Result.andThen_ok, run_sizeOf' w hi, hnot, if_false, h0] at g1 ⊢
    simp only [Sem.run_bind, run_zeroValue' w hi hzv, Sem.run_pure, Result.andThen_ok, g1, Go.newRow, run_newObj]

theorem wrap_small {n : Int} (h0 : 0 ≤ n) (h1 : n < 2 ^ 63) : IntKind.i64.wrap n = n := by
  simp only [IntKind.wrap, IntKind.bits, IntKind.signed]
  simp
  omega

theorem room_small {bytes n : Nat} (h : roomOk bytes n = true) : n * bytes ≤ 2 ^ 44 ∧ n ≤ 2 ^ 44 ∧ bytes ≤ 2 ^ 30 := by
  simpa [roomOk] using h

theorem sim_makeSl {alc : Option Nat} {t e : TypeId} {z : List Value} {l lc c cc v : Value} (hR : Rel ρ H w) (hf : Free ρ alc)
    (hu : P.underlying t = some (.slice e)) (hz : zeroL P e = some z) (hzl : z.length = P.cellsOf e) (hl : VRel ρ l lc) (hc : VRel ρ c cc)
    (h : makeSl alc e (P.bytesOf e) z l c H = some (v, H')) : Makes alc P (Instr.makeSlice t lc cc) ρ H w v H' := by
  unfold makeSl at h
  split at h
  · rename_i l c
    split at h
    · rename_i hcond
      obtain ⟨g0, g1, g2⟩ := hcond
      obtain ⟨r1, r2, r3⟩ := room_small g2
      obtain ⟨hzr, i, zv, hi, hzv, rfl⟩ := zero_rel hz
      obtain ⟨b, H1, h1, h2⟩ := bind_some h
      obtain ⟨rfl, rfl⟩ := pure_some h2
      cases hl; cases hc
      have wl : IntKind.i64.wrap l = l := wrap_small g0 (by omega)
      have wc : IntKind.i64.wrap c = c := wrap_small (by omega) (by omega)
      have hby : P.bytesOf e = i.bytes := by simp [Program.bytesOf, hi]
      have hmul : (i.bytes : Int) * c ≤ 2 ^ 44 := by
        have : ((c.toNat * P.bytesOf e : Nat) : Int) ≤ 2 ^ 44 := by exact_mod_cast r1
        rw [hby] at this
        have e1 : ((c.toNat : Nat) : Int) = c := by omega
        rw [Int.natCast_mul, e1, Int.mul_comm] at this
        exact this
      let zero : Array Value := if c.toNat * P.cellsOf e = 0 then #[] else zv.cells
      have hcells : ((Array.range (c.toNat * P.cellsOf e)).map (zero[· % zero.size]!)).toList = (List.replicate c.toNat zv.cells.toList).flatten := by
        by_cases h0 : c.toNat * P.cellsOf e = 0
        · rw [← zero_cells, show zv.cells.size = P.cellsOf e from by simpa using hzl, h0]; simp
        · have : zero = zv.cells := by simp [zero, h0]
          rw [this, ← zero_cells, show zv.cells.size = P.cellsOf e from by simpa using hzl]
          simp
      obtain ⟨ρ', he, hb, hR', hE⟩ := newRow_full (cc := (Array.range (c.toNat * P.cellsOf e)).map (zero[· % zero.size]!)) hR hf h1 (by rw [hcells]; exact zeros_rel (hzr ρ) _)
      refine ⟨_, .slice (some ⟨w.heap.size, 0, none⟩) l.toNat c.toNat, ρ', ?_, hR', hE, .sl hb (by omega) (.inl rfl)⟩
      have n1 : (decide (c < 0)) = false := by simp; omega
      have n2 : (decide ((i.bytes : Int) * c > 2 ^ 48)) = false := by simp; omega
      have n3 : (decide (l < 0)) = false := by simp; omega
      have n4 : (decide (l > c)) = false := by simp; omega
      by_cases h0 : c.toNat * P.cellsOf e = 0
      · have hz0 : zero = #[] := by simp only [zero, h0, if_true]
        rw [hz0]
        simp only [Instr.makeSlice, Sem.run_bind, run_underlying' w hu, Result.andThen_ok, asInt, asIntOf_int, Sem.run_pure, run_typeInfo' w hi, wl, wc, n1, n2, n3, n4, Bool.or_false, Bool.false_eq_true, if_false,
          run_askRoom, run_sizeOf' w hi, h0, if_true, Go.newRow, run_newObj]
      · have hz0 : zero = zv.cells := by simp only [zero, h0, if_false]
        rw [hz0]
        simp only [Instr.makeSlice, Sem.run_bind, run_underlying' w hu, Result.andThen_ok, asInt, asIntOf_int, Sem.run_pure, run_typeInfo' w hi, wl, wc, n1, n2, n3, n4, Bool.or_false, Bool.false_eq_true, if_false,
          run_askRoom, run_sizeOf' w hi, h0, run_zeroValue' w hi hzv, Go.newRow, run_newObj]
    · cases h
  · cases h

theorem sim_makeMap {alc : Option Nat} {t kt et : TypeId} {r : Option Value} {v : Value} (hR : Rel ρ H w) (hf : Free ρ alc) (hu : P.underlying t = some (.map kt et)) (hr : ∀ x, r = some x → ∃ k n, x = .int k n)
    (h : M.bind (newAt alc (.map [] [] 0)) (fun b => M.pure (.map (some b))) H = some (v, H')) : Makes alc P (Instr.makeMap t r) ρ H w v H' := by
  obtain ⟨b, H1, h1, h2⟩ := bind_some h
  obtain ⟨rfl, rfl⟩ := pure_some h2
  obtain ⟨_, h3, h4⟩ := newAt_sim (n := 0) (m := 0) (o := .map #[] 0) (w' := { w with heap := w.heap.push (.map #[] 0) }) hR hf h1 rfl ⟨#[], by simp, .nil, rfl⟩
  refine ⟨_, .map (some w.heap.size), _, ?_, h3, h4, .map (i := ⟨w.heap.size, 0, 0, 0⟩) (Emb.put_same _ _ _)⟩
  cases r with
  | none => simp [Instr.makeMap]
  | some x =>
    obtain ⟨k, n, rfl⟩ := hr x rfl
    simp [Instr.makeMap, run_underlying' w hu, asInt, asIntOf_int]

theorem sim_rangeStr {alc : Option Nat} {t : TypeId} {x xc v : Value} (hR : Rel ρ H w) (hf : Free ρ alc) (hu : P.underlying t = some .string) (hx : VRel ρ x xc) (h : rangeStr alc x H = some (v, H')) :
    Makes alc P (Instr.range t xc) ρ H w v H' := by
  unfold rangeStr at h
  split at h
  · rename_i s
    obtain ⟨b, H1, h1, h2⟩ := bind_some h
    obtain ⟨rfl, rfl⟩ := pure_some h2
    cases hx
    obtain ⟨_, h3, h4⟩ := newAt_sim (n := 0) (m := 0) (o := .stringIter s 0) (w' := { w with heap := w.heap.push (.stringIter s 0) }) hR hf h1 rfl ⟨rfl, by simp⟩
    refine ⟨_, .pointer (some ⟨w.heap.size, 0, none⟩), _, ?_, h3, h4, .ptr' (i := ⟨w.heap.size, 0, 0, 0⟩) (Emb.put_same _ _ _) rfl⟩
    simp [Instr.range, run_underlying' w hu]
  · cases h

theorem sim_nextStr {t : TypeId} {x xc v : Value} (hR : Rel ρ H w) (hx : VRel ρ x xc) (h : nextStr x H = some (v, H')) : Makes alc P (Instr.next xc true t) ρ H w v H' := by
  unfold nextStr at h
  split at h
  · rename_i b
    split at h
    · rename_i s pos hb
      cases hx with
      | ptr hi =>
        rename_i i
        obtain ⟨j, hj, hd, hw⟩ := hR.blk b _ hb
        rw [hi] at hj; cases hj
        have hlt : i.cb < w.heap.size := hR.inh b i hi
        have hget : (getObj i.cb).run P w = .ok (.stringIter s pos) w := by simp only [getObj, Sem.run, hw]
        split at h
        · rename_i hp
          cases h
          have hset : (setObj i.cb (.stringIter s (pos + (Utf8.decode s pos).2))).run P w = .ok () { w with heap := w.heap.setIfInBounds i.cb (.stringIter s (pos + (Utf8.decode s pos).2)) } := by simp only [setObj, Sem.run, hw]
          obtain ⟨h3, h4⟩ := hR.upd (x := .siter s pos) (x' := .siter s (pos + (Utf8.decode s pos).2)) (w' := { w with heap := w.heap.setIfInBounds i.cb (.stringIter s (pos + (Utf8.decode s pos).2)) })
            hb rfl hi (by simp) (fun cb hne => by simp [Array.getElem?_setIfInBounds_ne (Ne.symm hne)]) rfl rfl rfl ⟨hd, by simp [hlt]⟩
          refine ⟨_, _, ρ, ?_, h3, h4, Ltup (.cons (.bool _) (.cons (.int _ _) (.cons (.int _ _) .nil)))⟩
          have hp' : (0 + i.d) = 0 := by omega
          rw [hp']
          simp only [Instr.next, Sem.run_bind, hget, Result.andThen_ok, hp, if_true, hset, Sem.run_pure, goInt]
        · rename_i hp
          cases h
          refine ⟨w, _, ρ, ?_, hR, .refl _ _ _, Ltup (.cons (.bool _) .nil)⟩
          have hp' : (0 + i.d) = 0 := by omega
          rw [hp']
          simp only [Instr.next, Sem.run_bind, hget, Result.andThen_ok, hp, if_false, Sem.run_pure]
    · cases h
  · cases h

theorem run_choose_cap (need old : Nat) (e : TypeId) : ∃ k, (choose (.appendCap need old e)).run P w = .ok (need + k) { w with drawn := w.drawn + 1 } := by
  rw [run_choose]
  exact ⟨w.tape w.drawn (.appendCap need old e) % (2 ^ 63 - need), by simp [Question.forced, Question.cut]⟩

theorem Rel.drew (hR : Rel ρ H w) : Rel ρ H { w with drawn := w.drawn + 1 } :=
  ⟨hR.fresh, hR.inh, fun b x hx => let ⟨i, hi, hb⟩ := hR.blk b x hx; ⟨i, hi, hb.same rfl⟩, hR.inj⟩

theorem Evo.of_drew {ρ' : Emb} {w' : World} (h : Evo alc ρ H { w with drawn := w.drawn + 1 } ρ' H' w') : Evo alc ρ H w ρ' H' w' := ⟨h.ext, h.size, h.keep, h.foots, h.occs, h.low, h.dead, h.os, h.out, h.next⟩

theorem sim_toRunes {alc : Option Nat} {e : TypeId} {x xc v : Value} (hR : Rel ρ H w) (hf : Free ρ alc) (hx : VRel ρ x xc) (h : toRunes alc e x H = some (v, H')) :
    ∃ s, xc = .string s ∧ Makes alc P (Conv.stringToRunes e s) ρ H w v H' := by
  unfold toRunes at h
  split at h
  · rename_i s
    cases hx
    refine ⟨s, rfl, ?_⟩
    split at h
    · rename_i hp
      obtain ⟨b, H1, h1, h2⟩ := bind_some h
      obtain ⟨rfl, rfl⟩ := pure_some h2
      obtain ⟨k, hk⟩ := run_choose_cap (P := P) (w := w) (Conv.runesFrom s s.size 0 #[]).size 0 e
      generalize hcs : Conv.runesFrom s s.size 0 #[] = cs at hk hp h1 ⊢
      have hrel : LRel ρ cs.toList ((cs ++ Array.replicate (cs.size + k - cs.size) (Value.int .i32 0)).toList.take cs.toList.length) := by
        simp only [Array.toList_append, Array.length_toList, List.take_left' (show cs.toList.length = cs.size by simp)]
        have hp := hp.1
        simp only [List.all_eq_true] at hp
        refine All2.of_get rfl fun i a b ha hb => ?_
        rw [ha] at hb; cases hb
        exact lit_plain (hp a (List.mem_of_getElem? ha)) ρ
      obtain ⟨ρ', he, hb, hR', hE⟩ := newRow_sim (hR.drew) hf h1 [] hrel (by simp) (fun hs => by rw [hp.2] at hs; cases hs)
      refine ⟨_, .slice (some ⟨w.heap.size, 0, none⟩) cs.size (cs.size + k), ρ', ?_, hR', hE.of_drew, .slo hb (Nat.le_refl _) (by omega) (by simp) (.inl (by simp)) (.inl rfl)⟩
      simp only [Conv.stringToRunes, hcs, Sem.run_bind, hk, Result.andThen_ok, Go.newRow, run_newObj, Sem.run_pure]
    · cases h
  · cases h

theorem sim_toBytes {alc : Option Nat} {e : TypeId} {x xc v : Value} (hR : Rel ρ H w) (hf : Free ρ alc) (hx : VRel ρ x xc) (h : toBytes alc e x H = some (v, H')) :
    ∃ s, xc = .string s ∧ Makes alc P (Conv.stringToBytes e s) ρ H w v H' := by
  unfold toBytes at h
  split at h
  · rename_i s
    cases hx
    refine ⟨s, rfl, ?_⟩
    by_cases hsp : special e = false
    case neg => rw [if_neg hsp] at h; cases h
    rw [if_pos hsp] at h
    obtain ⟨b, H1, h1, h2⟩ := bind_some h
    obtain ⟨rfl, rfl⟩ := pure_some h2
    obtain ⟨k, hk⟩ := run_choose_cap (P := P) (w := w) s.size 0 e
    generalize hcs : s.data.map (fun b => Value.int .u8 b.toNat) ++ Array.replicate (s.size + k - s.size) (Value.int .u8 0) = cs at *
    have hsz : cs.size = s.size + k := by
      rw [← hcs]; simp only [Array.size_append, Array.size_map, Array.size_replicate]
      have : s.data.size = s.size := rfl
      omega
    have hdl : (s.data.toList.map fun c => Value.int .u8 c.toNat).length = s.size := by simp
    obtain ⟨_, h3, h4⟩ := newAt_sim (w := { w with drawn := w.drawn + 1 }) (n := s.size) (m := cs.size) (o := .cells cs e (cs.size, cs.size + 1)) (w' := { w with drawn := w.drawn + 1, heap := w.heap.push (.cells cs e (cs.size, cs.size + 1)) }) hR.drew hf h1 rfl
      ⟨⟨hdl.symm, fun hs => by rw [hsp] at hs; cases hs⟩, cs, (cs.size, cs.size + 1), by simp, rfl, by rw [hdl, hsz]; exact Nat.le_trans (Nat.le_of_eq (Nat.zero_add _)) (Nat.le_add_right _ _), fun h => (by cases h), fun o v hv => by
        have ho : o < s.data.size := by
          have := (List.getElem?_eq_some_iff.1 hv).1
          simpa using this
        have ho' : o < s.size := ho
        have hv' : v = Value.int .u8 (s.data[o]).toNat := by
          rw [List.getElem?_map, List.getElem?_eq_getElem (by simpa using ho)] at hv
          simpa using hv.symm
        refine ⟨v, ?_, ?_⟩
        · rw [hv', ← hcs]
          show (_ ++ _ : Array Value)[o + 0]? = _
          rw [Nat.add_zero, Array.getElem?_append, if_pos (by simpa using ho)]
          simp
          exact ⟨_, Array.getElem?_eq_getElem ho, rfl⟩
        · rw [hv']; exact .int _ _⟩
    refine ⟨_, .slice (some ⟨w.heap.size, 0, none⟩) s.size (s.size + k), _, ?_, h3, h4.of_drew, .slo (i := ⟨w.heap.size, 0, s.size, cs.size⟩) (Emb.put_same _ _ _) (Nat.le_refl _) (by omega) (by simp) (.inl (by simp [hsz])) (.inl rfl)⟩
    have hfz : ({ w with drawn := w.drawn + 1, heap := w.heap.push (.cells cs e (0, 0)) } : World).freeze ⟨w.heap.size, cs.size, none⟩ 1 = { w with drawn := w.drawn + 1, heap := w.heap.push (.cells cs e (cs.size, cs.size + 1)) } := by
      simp only [World.freeze, if_neg (show (1 : Nat) ≠ 0 by omega)]
      congr 1
      apply Array.ext
      · simp
      · intro i h1 h2
        simp only [Array.getElem_modify, Array.getElem_push]
        by_cases hi : i < w.heap.size
        · have : w.heap.size ≠ i := by omega
          simp [hi, this]
        · have : w.heap.size = i := by simp at h1; omega
          subst this
          simp
    simp only [Conv.stringToBytes, Sem.run_bind, hk, Result.andThen_ok, hcs, Go.newRow, run_newObj, Sem.run_pure, markStringish, shape, Sem.run, World.shape?, Go.freeze]
    simp only [Array.getElem?_push_size, hfz, Sem.run_bind, Result.andThen_ok, Sem.run]
  · cases h

end Go.Proofs.YtepchknpgeopfaaGreatDoor.E
