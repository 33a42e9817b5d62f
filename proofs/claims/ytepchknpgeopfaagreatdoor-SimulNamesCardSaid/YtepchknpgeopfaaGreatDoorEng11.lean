/-
  THE ENGINE, part 11: maps written; every operation but a call of a function.
-/
import Derived.Test.YtepchknpgeopfaaGreatDoorEng10
import Derived.Lib.UnsafeStr
set_option linter.unusedVariables false
set_option linter.unusedSimpArgs false
namespace Go.Proofs.YtepchknpgeopfaaGreatDoor.E
open Go

variable {P : Program} {ρ : Emb} {H H' : AH} {w : World} {alc : Option Nat}

theorem sameBits_key {kk : KK} {k : Value} (hk : keyOk kk k = true) (n : Nat) : Instr.sameBits n k k = true := by
  cases kk <;> cases k <;> simp [keyOk] at hk <;> cases n <;> simp [Instr.sameBits]
  all_goals (rw [beq_toListBytes]; simp)

theorem All2.set {α β : Type} {T : α → β → Prop} {xs : List α} {ys : List β} (h : All2 T xs ys) {x : α} {y : β} (hxy : T x y) : ∀ (j : Nat), All2 T (xs.set j x) (ys.set j y) := by
  induction h with
  | nil => intro j; exact .nil
  | cons h t ih =>
    intro j
    cases j with
    | zero => exact .cons hxy t
    | succ j => exact .cons h (ih j)

theorem All2.eraseIdx {α β : Type} {T : α → β → Prop} {xs : List α} {ys : List β} (h : All2 T xs ys) : ∀ (j : Nat), All2 T (xs.eraseIdx j) (ys.eraseIdx j) := by
  induction h with
  | nil => intro j; exact .nil
  | cons h t ih =>
    intro j
    cases j with
    | zero => exact t
    | succ j => exact .cons h (ih j)

theorem setObj_map {g : Nat} {es es2 : Array MapEntry} {c c2 : Nat} (hw : w.heap[g]? = some (.map es c)) : (setObj g (.map es2 c2)).run P w = .ok () { w with heap := w.heap.setIfInBounds g (.map es2 c2) } := by
  simp only [setObj, Sem.run, hw]

theorem List.set_getElem?_self' {α : Type} {x : α} : ∀ {l : List α} {j : Nat}, l[j]? = some x → l.set j x = l
  | [], _, h => by simp at h
  | y :: l, 0, h => by simp at h; simp [h]
  | y :: l, j + 1, h => by simp at h; simp [List.set_getElem?_self' h]

theorem map_eraseIdx' {α β : Type} (f : α → β) : ∀ (l : List α) (j : Nat), (l.eraseIdx j).map f = (l.map f).eraseIdx j
  | [], _ => rfl
  | _ :: _, 0 => rfl
  | _ :: l, j + 1 => by simp [map_eraseIdx' f l j]

theorem upd_map (hR : Rel ρ H w) {b : Nat} {es es2 : List (Value × Value)} {bs bs2 : List Nat} {c : Nat} {es2' : Array MapEntry} {c2 : Nat} {i : Info} (hx : H.at_ b = some (.map es bs c)) (hb : ρ b = some i) (he : ERel ρ es2 es2'.toList) (hbs : es2'.toList.map (·.born) = bs2) :
    Rel ρ (H.set b (some (.map es2 bs2 c2))) { w with heap := w.heap.setIfInBounds i.cb (.map es2' c2) } ∧ Evo alc ρ H w ρ (H.set b (some (.map es2 bs2 c2))) { w with heap := w.heap.setIfInBounds i.cb (.map es2' c2) } :=
  hR.upd hx rfl hb (by simp) (fun cb hne => by simp [Array.getElem?_setIfInBounds_ne (Ne.symm hne)]) rfl rfl rfl ⟨es2', by simp [hR.inh b i hb], he, hbs⟩

theorem sim_update {t kt et : TypeId} {kk : KK} {m mc k kc x xc v : Value} (hR : Rel ρ H w) (hu : P.underlying t = some (.map kt et)) (hkk : kkOf (P.underlying kt) = some kk)
    (hm : VRel ρ m mc) (hk : VRel ρ k kc) (hx : VRel ρ x xc) (h : updateM kk m k x H = some (v, H')) :
    v = undef ∧ ∃ w', (Instr.mapUpdate t mc kc xc).run P w = .ok () w' ∧ Rel ρ H' w' ∧ Evo alc ρ H w ρ H' w' := by
  unfold updateM at h
  split at h
  · cases h
  · rename_i hko
    have hko : keyOk kk k = true := by simpa using hko
    have := keyOk_rel hk hko
    subst this
    obtain ⟨d, hd⟩ : ∃ d, P.underlying kt = some d := by
      cases hh : P.underlying kt with
      | some d => exact ⟨d, rfl⟩
      | none => simp [hh, kkOf] at hkk
    split at h
    · rename_i b
      split at h
      · rename_i es bs clock hes
        cases hm with
        | map hb =>
          obtain ⟨hxb, es', hw, he, hbs, hget⟩ := mapAt3_rel (P := P) hR hb hes
          split at h
          · rename_i j u hf
            cases h
            rcases findK_rel (by rw [← hd]; exact hkk) hko he hf with ⟨g1, _⟩ | ⟨j', v', e2, g1, g2, g3, g4, g5, g6⟩
            · cases g1
            · simp only [Nat.zero_add, Option.some.injEq, Prod.mk.injEq] at g1
              obtain ⟨e1, _⟩ := g1
              rw [e1]
              have g3' : es'[j']? = some e2 := by simpa using g3
              have hlt : j' < es'.size := (Array.getElem?_eq_some_iff.1 g3').1
              have hmod : (es'.modify j' fun e => { e with key := kc, val := xc }).toList = es'.toList.set j' { e2 with key := kc, val := xc } := by
                have e2' : es'[j'] = e2 := (Array.getElem?_eq_some_iff.1 g3').2
                apply List.ext_getElem?
                intro q
                simp only [Array.getElem?_toList, Array.getElem?_modify, List.getElem?_set]
                by_cases hq : j' = q
                · subst hq; simp [hlt, e2']
                · simp [hq]
              obtain ⟨r1, r2⟩ := upd_map (es2' := es'.modify j' fun e => { e with key := kc, val := xc }) (c2 := clock) hR hxb hb (by rw [hmod]; exact he.set (x := (kc, x)) ⟨hk, hx⟩ j') (bs2 := bs) (by rw [hmod, List.map_set, ← hbs]; exact List.set_getElem?_self' (by simp [g3]))
              refine ⟨rfl, _, ?_, r1, r2⟩
              have hfk := run_findKey (w := w) hd g2
              simp only [Nat.zero_add] at hfk
              have hst : (Instr.keyThatStays kc kc).run P w = .ok kc w := by
                show (Instr.keyThatStays kc kc).run P w = _
                simp only [Instr.keyThatStays, sameBits_key hko, if_true, Sem.run_pure]
              simp only [Instr.mapUpdate, Sem.run_bind, run_underlying' w hu, Result.andThen_ok, hget, run_checkKey hkk hko, hfk, g3', Option.map_some, Option.getD_some, g6, hst, setObj_map hw]
          · rename_i hf
            cases h
            rcases findK_rel (by rw [← hd]; exact hkk) hko he hf with ⟨_, g2⟩ | ⟨j', v', e2, g1, _⟩
            · obtain ⟨r1, r2⟩ := upd_map (es2' := es'.push { key := kc, val := xc, born := clock }) (c2 := clock + 1) hR hxb hb (by rw [Array.toList_push]; exact All2.append he (.cons (x := (kc, x)) ⟨hk, hx⟩ .nil)) (bs2 := bs ++ [clock]) (by rw [Array.toList_push, List.map_append, hbs]; rfl)
              refine ⟨rfl, _, ?_, r1, r2⟩
              have hfk := run_findKey (w := w) hd g2
              simp only [Instr.mapUpdate, Sem.run_bind, run_underlying' w hu, Result.andThen_ok, hget, run_checkKey hkk hko, hfk, setObj_map hw]
            · cases g1
          · cases h
      · cases h
    · cases h

theorem sim_delete {t kt et ty : TypeId} {ts : Array TypeId} {kk : KK} {m mc k kc v : Value} (hR : Rel ρ H w) (h0 : ts[0]? = some t) (hu : P.underlying t = some (.map kt et)) (hkk : kkOf (P.underlying kt) = some kk)
    (hm : VRel ρ m mc) (hk : VRel ρ k kc) (h : deleteM kk m k H = some (v, H')) : Makes alc P (Builtin.delete_ ts ty #[mc, kc]) ρ H w v H' := by
  unfold deleteM at h
  split at h
  · cases h
  · rename_i hko
    have hko : keyOk kk k = true := by simpa using hko
    have := keyOk_rel hk hko
    subst this
    obtain ⟨d, hd⟩ : ∃ d, P.underlying kt = some d := by
      cases hh : P.underlying kt with
      | some d => exact ⟨d, rfl⟩
      | none => simp [hh, kkOf] at hkk
    split at h
    · rename_i b
      split at h
      · rename_i es bs clock hes
        cases hm with
        | map hb =>
          obtain ⟨hxb, es', hw, he, hbs, hget⟩ := mapAt3_rel (P := P) hR hb hes
          split at h
          · rename_i j u hf
            cases h
            rcases findK_rel (by rw [← hd]; exact hkk) hko he hf with ⟨g1, _⟩ | ⟨j', v', e2, g1, g2, g3, g4, g5, g6⟩
            · cases g1
            · simp only [Nat.zero_add, Option.some.injEq, Prod.mk.injEq] at g1
              obtain ⟨e1, _⟩ := g1
              rw [e1]
              obtain ⟨r1, r2⟩ := upd_map (es2' := es'.eraseIdxIfInBounds j') (c2 := clock) hR hxb hb (by rw [Array.toList_eraseIdxIfInBounds]; exact he.eraseIdx j') (bs2 := bs.eraseIdx j') (by rw [Array.toList_eraseIdxIfInBounds, map_eraseIdx', hbs])
              refine ⟨_, _, ρ, ?_, r1, r2, VRel.undef⟩
              have hfk := run_findKey (w := w) hd g2
              simp only [Nat.zero_add] at hfk
              simp [Builtin.delete_, h0, run_underlying' w hu, hget, run_checkKey hkk hko, hfk, setObj_map hw, Go.undef]
          · rename_i hf
            cases h
            rcases findK_rel (by rw [← hd]; exact hkk) hko he hf with ⟨_, g2⟩ | ⟨j', v', e2, g1, _⟩
            · obtain ⟨r1, r2⟩ := upd_map (es2 := es) (es2' := es') (c2 := clock) hR hxb hb he hbs
              refine ⟨_, _, ρ, ?_, r1, r2, VRel.undef⟩
              have hfk := run_findKey (w := w) hd g2
              simp [Builtin.delete_, h0, run_underlying' w hu, hget, run_checkKey hkk hko, hfk, setObj_map hw, Go.undef]
            · cases g1
          · cases h
      · cases h
    · cases h

theorem sim_len {t ty : TypeId} {ts : Array TypeId} {d : TypeDesc} {x xc v : Value} (hR : Rel ρ H w) (h0 : ts[0]? = some t) (hu : P.underlying t = some d) (hd : descOk (some d) x = true) (hx : VRel ρ x xc) (h : lenM x H = some (v, H')) :
    H' = H ∧ Gives P (Builtin.len_ ts ty #[xc]) ρ w v := by
  unfold lenM at h
  split at h
  · rename_i b
    cases hes : mapAt H b with
    | none => simp [hes] at h
    | some es =>
      simp only [hes, Option.map_some, Option.some.injEq, Prod.mk.injEq] at h
      obtain ⟨rfl, rfl⟩ := h
      cases hx with
      | map hb =>
        obtain ⟨es', clock, hw, he, hget⟩ := mapAt_rel (P := P) hR hb hes
        obtain ⟨q, r, e⟩ := d_map hd
        cases e
        refine ⟨rfl, .int .i64 es'.size, ?_, ?_⟩
        · simp [Builtin.len_, h0, run_underlying' w hu, hget, goInt]
        · have := he.length
          simp only [Array.length_toList] at this
          rw [this]
          exact .int _ _
  · cases hl : lenV x with
    | none => simp [hl] at h
    | some u =>
      simp only [hl, Option.map_some, Option.some.injEq, Prod.mk.injEq] at h
      obtain ⟨rfl, rfl⟩ := h
      refine ⟨rfl, ?_⟩
      unfold lenV at hl
      split at hl
      · cases hl; cases hx
        have e := d_str hd; cases e
        exact ⟨_, by simp [Builtin.len_, h0, run_underlying' w hu, goInt], .int _ _⟩
      · cases hl
        obtain ⟨q, e⟩ := d_sl hd; cases e
        cases hx <;> exact ⟨_, by simp [Builtin.len_, h0, run_underlying' w hu, goInt], .int _ _⟩
      · cases hl; cases hx
        obtain ⟨q, r, e⟩ := d_map hd; cases e
        exact ⟨_, by simp [Builtin.len_, h0, run_underlying' w hu, goInt], .int _ _⟩
      · cases hl

/-! ### Iterators over maps -/

theorem sim_rangeMap {t kt et : TypeId} {x xc v : Value} (hR : Rel ρ H w) (hf : Free ρ alc) (hu : P.underlying t = some (.map kt et)) (hx : VRel ρ x xc) (h : rangeMap alc x H = some (v, H')) :
    Makes alc P (Instr.range t xc) ρ H w v H' := by
  unfold rangeMap at h
  split at h
  · obtain ⟨b, H1, h1, h2⟩ := bind_some h
    obtain ⟨rfl, rfl⟩ := pure_some h2
    cases hx
    obtain ⟨_, h3, h4⟩ := newAt_sim (n := 0) (m := 0) (o := .mapIter none 0 #[] 0) (w' := { w with heap := w.heap.push (.mapIter none 0 #[] 0) }) hR hf h1 rfl ⟨rfl, by simp⟩
    refine ⟨_, .pointer (some ⟨w.heap.size, 0, none⟩), _, ?_, h3, h4, .ptr' (i := ⟨w.heap.size, 0, 0, 0⟩) (Emb.put_same _ _ _) rfl⟩
    simp [Instr.range, run_underlying' w hu]
  · rename_i m
    obtain ⟨c0, H0, h0, h⟩ := bind_some h
    unfold clockM at h0
    cases hm : mapAt3 H m with
    | none => simp [hm] at h0
    | some q =>
      obtain ⟨es, bs, c⟩ := q
      simp only [hm, Option.map_some, Option.some.injEq, Prod.mk.injEq] at h0
      obtain ⟨rfl, rfl⟩ := h0
      obtain ⟨b, H1, h1, h2⟩ := bind_some h
      obtain ⟨rfl, rfl⟩ := pure_some h2
      cases hx with
      | map hb =>
        rename_i i
        obtain ⟨hxb, es', hw, he, hbs, hget⟩ := mapAt3_rel (P := P) hR hb hm
        have hb0 : ρ b = none := by
          rcases newAt_eq h1 with ⟨_, rfl, _⟩ | ⟨ha, _, _, _⟩
          · exact hR.fresh _ (Nat.le_refl _)
          · exact hf b ha
        obtain ⟨_, h3, h4⟩ := newAt_sim (n := 0) (m := 0) (o := .mapIter (some i.cb) c #[] c) (w' := { w with heap := w.heap.push (.mapIter (some i.cb) c #[] c) }) hR hf h1 rfl
          ⟨rfl, i, Emb.put_ext hb0 _ _ hb, by simp⟩
        refine ⟨_, .pointer (some ⟨w.heap.size, 0, none⟩), _, ?_, h3, h4, .ptr' (i := ⟨w.heap.size, 0, 0, 0⟩) (Emb.put_same _ _ _) rfl⟩
        simp [Instr.range, run_underlying' w hu, hget]
  · cases h

theorem leftOf_rel {seen : List Nat} : ∀ {es : List (Value × Value)} {es' : List MapEntry}, ERel ρ es es' →
    All2 (fun (x : (Value × Value) × Nat) (e' : MapEntry) => VRel ρ x.1.1 e'.key ∧ VRel ρ x.1.2 e'.val ∧ x.2 = e'.born) (leftOf seen es (es'.map (·.born))) (es'.filter fun e => !seen.contains e.born) := by
  intro es es' h
  induction h with
  | nil => exact .nil
  | cons h t ih =>
    rename_i x y xs ys
    simp only [List.map_cons, leftOf, List.filter_cons]
    cases hc : seen.contains y.born with
    | true => simpa using ih
    | false => exact .cons ⟨h.1, h.2, rfl⟩ ih

theorem run_choose_one : (choose (.mapNext 1)).run P w = .ok 0 w := by
  rw [run_choose]
  simp [Question.forced]

theorem sim_nextMap {t : TypeId} {x xc v : Value} (hR : Rel ρ H w) (hx : VRel ρ x xc) (h : nextMap x H = some (v, H')) : Makes alc P (Instr.next xc false t) ρ H w v H' := by
  unfold nextMap at h
  split at h
  · rename_i b
    cases hx with
    | ptr hi =>
    rename_i i
    split at h
    · rename_i s1 s2 s3 hb
      cases h
      obtain ⟨j, hj, hd, hw⟩ := hR.blk b _ hb
      rw [hi] at hj; cases hj
      have hget : (getObj i.cb).run P w = .ok (.mapIter none s1 s2.toArray s3) w := by simp only [getObj, Sem.run, hw]
      refine ⟨w, _, ρ, ?_, hR, .refl _ _ _, Ltup (.cons (.bool _) .nil)⟩
      have hp' : (0 + i.d) = 0 := by omega
      rw [hp']
      simp only [Instr.next, Sem.run_bind, hget, Result.andThen_ok, Sem.run_pure]
    · rename_i m since seen last hb
      obtain ⟨j, hj, hd, jm, hjm, hw⟩ := hR.blk b _ hb
      rw [hi] at hj; cases hj
      have hget : (getObj i.cb).run P w = .ok (.mapIter (some jm.cb) since seen.toArray last) w := by simp only [getObj, Sem.run, hw]
      split at h
      · rename_i es bs c hm
        obtain ⟨hxb, es', hw', he, hbs, hget'⟩ := mapAt3_rel (P := P) hR hjm hm
        split at h
        · cases h
        · rename_i hbad
          have hbad' : (!seen.toArray.isEmpty && !es'.isEmpty && es'.all (fun e => decide (e.born ≥ last))) = false := by
            have e1 : seen.toArray.isEmpty = seen.isEmpty := by simp
            have e2 : es'.isEmpty = bs.isEmpty := by rw [← hbs, List.isEmpty_map]; simp
            have e3 : es'.all (fun e => decide (e.born ≥ last)) = bs.all (fun s => decide (s ≥ last)) := by
              rw [← hbs, List.all_map, ← Array.all_toList]; rfl
            rw [e1, e2, e3]; simpa using hbad
          have hl := leftOf_rel (seen := seen) he
          rw [hbs] at hl
          have hfl : (es'.filter fun e => !seen.toArray.contains e.born).toList = es'.toList.filter fun e => !seen.contains e.born := by simp
          have hp' : (0 + i.d) = 0 := by omega
          split at h
          · rename_i hle
            cases h
            rw [hle] at hl
            have hnil : (es'.filter fun e => !seen.toArray.contains e.born) = #[] := by
              apply Array.ext'; rw [hfl]; generalize hg : (es'.toList.filter fun e => !seen.contains e.born) = g at hl
              cases hl; rfl
            refine ⟨w, _, ρ, ?_, hR, .refl _ _ _, Ltup (.cons (.bool _) .nil)⟩
            rw [hp']
            simp only [Instr.next, Sem.run_bind, hget, Result.andThen_ok, hget', hbad', hnil, Bool.false_eq_true, if_false]
            simp [Question.forced]
          · rename_i k u s hle
            split at h
            · rename_i hs
              cases h
              rw [hle] at hl
              obtain ⟨e', hone, r1, r2, r3⟩ : ∃ e', (es'.filter fun e => !seen.toArray.contains e.born) = #[e'] ∧ VRel ρ k e'.key ∧ VRel ρ u e'.val ∧ s = e'.born := by
                generalize hg : (es'.toList.filter fun e => !seen.contains e.born) = g at hl
                cases hl with
                | cons h1 h2 =>
                  cases h2
                  exact ⟨_, by apply Array.ext'; rw [hfl, hg], h1.1, h1.2.1, h1.2.2⟩
              have hset : (setObj i.cb (.mapIter (some jm.cb) since (seen.toArray.push e'.born) c)).run P w = .ok () { w with heap := w.heap.setIfInBounds i.cb (.mapIter (some jm.cb) since (seen.toArray.push e'.born) c) } := by simp only [setObj, Sem.run, hw]
              have hlt : i.cb < w.heap.size := hR.inh b i hi
              obtain ⟨h3, h4⟩ := hR.upd (x := .miter (some m) since seen last) (x' := .miter (some m) since (seen ++ [s]) c) (w' := { w with heap := w.heap.setIfInBounds i.cb (.mapIter (some jm.cb) since (seen.toArray.push e'.born) c) })
                hb rfl hi (by simp) (fun cb hne => by simp [Array.getElem?_setIfInBounds_ne (Ne.symm hne)]) rfl rfl rfl ⟨hd, jm, hjm, by simp [hlt, r3]⟩
              refine ⟨_, _, ρ, ?_, h3, h4, Ltup (.cons (.bool _) (.cons r1 (.cons r2 .nil)))⟩
              rw [hp']
              have hs' : decide (e'.born < since) = true := by rw [← r3]; simpa using hs
              have hs'' : decide (e'.born ≥ since) = false := by rw [← r3]; simp; omega
              simp only [Instr.next, Sem.run_bind, hget, Result.andThen_ok, hget', hbad', hone, Bool.false_eq_true, if_false]
              have hpush : seen.toArray.push e'.born = (seen ++ [s]).toArray := by simp [r3]
              rw [hpush] at hset ⊢
              simp [hs', hs'', Question.forced, ← r3, hs, hset]
            · cases h
          · cases h
      · cases h
    · cases h
  · cases h

theorem findB_rel {s : Nat} {k v : Value} : ∀ {es : List (Value × Value)} {es' : List MapEntry}, ERel ρ es es' → findB s es (es'.map (·.born)) = some (k, v) →
    ∃ e', es'.find? (fun e => e.born == s) = some e' ∧ VRel ρ k e'.key ∧ VRel ρ v e'.val := by
  intro es es' h
  induction h with
  | nil => intro h; cases h
  | cons h t ih =>
    rename_i x y xs ys
    intro hf
    simp only [List.map_cons, findB] at hf
    cases hc : y.born == s with
    | true =>
      rw [hc] at hf
      simp only [cond_true, Option.some.injEq] at hf
      subst hf
      exact ⟨y, by simp [List.find?, hc], h⟩
    | false =>
      rw [hc] at hf
      obtain ⟨e', h1, h2⟩ := ih hf
      exact ⟨e', by simp [List.find?, hc, h1], h2⟩

theorem sim_entry {x xc v : Value} (hR : Rel ρ H w) (hx : VRel ρ x xc) (h : entryM x H = some (v, H')) : H' = H ∧ Gives P (Instr.entry xc) ρ w v := by
  unfold entryM at h
  split at h
  · rename_i b
    cases hx with
    | ptr hi =>
    rename_i i
    split at h
    · rename_i m since seen last hb
      obtain ⟨j, hj, hd, jm, hjm, hw⟩ := hR.blk b _ hb
      rw [hi] at hj; cases hj
      have hget : (getObj i.cb).run P w = .ok (.mapIter (some jm.cb) since seen.toArray last) w := by simp only [getObj, Sem.run, hw]
      split at h
      · rename_i s es bs c hs hm
        obtain ⟨hxb, es', hw', he, hbs, hget'⟩ := mapAt3_rel (P := P) hR hjm hm
        split at h
        · rename_i hc
          subst hc
          split at h
          · rename_i k u hf
            cases h
            rw [← hbs] at hf
            obtain ⟨e', h1, h2, h3⟩ := findB_rel he hf
            refine ⟨rfl, .tuple #[e'.key, e'.val], ?_, Ltup (xs := [k, u]) (xs' := [e'.key, e'.val]) (.cons h2 (.cons h3 .nil))⟩
            have hp' : (0 + i.d) = 0 := by omega
            rw [hp']
            have hback : seen.toArray.back? = some s := by simpa using hs
            have hfind : es'.find? (fun e => e.born == s) = some e' := by rw [← Array.find?_toList]; exact h1
            simp [Instr.entry, hget, hget', hback, hfind]
          · cases h
        · cases h
      · cases h
    · cases h
  · cases h

/-! ### Pointers without a type; bytes seen as a string -/

theorem row_shape {i : Info} {cc : Array Value} {e : TypeId} {fz : Nat × Nat} (h : w.heap[i.cb]? = some (.cells cc e fz)) : w.shape? i.cb = some (e, cc.size) := by
  simp [World.shape?, h]

theorem sim_toUnsafe {s d t : TypeId} {ti : TypeInfo} {x xc v : Value} (hR : Rel ρ H w) (hs : P.underlying s = some (.pointer t)) (hd : P.underlying d = some .unsafePointer) (hi : P.info? t = some ti)
    (hx : VRel ρ x xc) (h : toUnsafe P t x H = some (v, H')) : H' = H ∧ Gives P (Conv.unsafePointer s d xc) ρ w v := by
  unfold toUnsafe at h
  split at h
  · cases h; cases hx
    exact ⟨rfl, _, by simp [Conv.unsafePointer, run_underlying' w hs, run_underlying' w hd], .ptr0⟩
  · rename_i b o
    split at h
    · rename_i cs hcs
      split at h
      · rename_i hc
        cases h
        cases hx with
        | ptr hb =>
          rename_i i
          obtain ⟨e, rw', hxb⟩ := rowAt_some hcs
          obtain ⟨j, hj, _, cc, fz, h1, h2, h3, h4, h5⟩ := hR.blk b _ hxb
          rw [hb] at hj; cases hj
          have hsh := row_shape h1
          refine ⟨rfl, _, ?_, .ptr hb⟩
          have hoff : ¬ cc.size ≤ o + i.d := by omega
          simp [Conv.unsafePointer, run_underlying' w hs, run_underlying' w hd, Conv.seenAt, viewAt, hsh, cellsIn, hoff, run_sizeOf' w hi, hc.2]
      · cases h
    · cases h
  · cases h

theorem sim_ofUnsafe {s d t : TypeId} {ti : TypeInfo} {x xc v : Value} (hR : Rel ρ H w) (hs : P.underlying s = some .unsafePointer) (hd : P.underlying d = some (.pointer t)) (hi : P.info? t = some ti)
    (hx : VRel ρ x xc) (h : ofUnsafe P t x H = some (v, H')) : H' = H ∧ Gives P (Conv.unsafePointer s d xc) ρ w v := by
  unfold ofUnsafe at h
  split at h
  · cases h; cases hx
    exact ⟨rfl, _, by simp [Conv.unsafePointer, run_underlying' w hs, run_underlying' w hd], .ptr0⟩
  · rename_i b o
    split at h
    · rename_i e cs rw' hxb
      split at h
      · rename_i hc
        obtain ⟨c1, c2, c3⟩ := hc
        cases h
        cases hx with
        | ptr hb =>
          rename_i i
          obtain ⟨j, hj, hsp, cc, fz, h1, h2, h3, h4, h5⟩ := hR.blk b _ hxb
          rw [hb] at hj; cases hj
          obtain ⟨s1, s2⟩ := hsp.2 c1
          have hsh := row_shape h1
          have hsz : cc.size = cs.length := by rw [h2, s2]
          refine ⟨rfl, _, ?_, .ptr hb⟩
          rw [hsz] at hsh
          simp [Conv.unsafePointer, run_underlying' w hs, run_underlying' w hd, Conv.seenAt, viewAt, hsh, run_sizeOf' w hi, c2, variablesAt, s1, c3]
      · cases h
    · cases h
  · cases h

theorem sim_data {ts : Array TypeId} {ty : TypeId} {x xc v : Value} (hx : VRel ρ x xc) (h : dataP x = some v) : Gives P (Builtin.unsafeSliceData_ ts ty #[xc]) ρ w v := by
  unfold dataP at h
  split at h
  · cases h; cases hx; exact ⟨_, Lib.run_unsafeSliceData_nil w ts ty _ _, .ptr0⟩
  · rename_i b o m len cap
    split at h
    · cases h
    · rename_i hc
      cases h
      obtain ⟨i, co, cap', hb, hl, hcap, ha, rfl⟩ := slice_rel hx
      have hco : co = o + i.d := ha.resolve_right (by omega)
      subst hco
      exact ⟨_, Lib.run_unsafeSliceData_row w ts ty _ _ _ (by omega), .ptr hb⟩
  · cases h

theorem bytesOfL_eq : ∀ {vs : List Value} {l : List UInt8}, bytesOfL vs = some l → vs = l.map fun c => Value.int .u8 c.toNat
  | [], l, h => by simp [bytesOfL] at h; subst h; rfl
  | v :: vs, l, h => by
    unfold bytesOfL at h
    split at h
    · rename_i heq; cases heq
    · rename_i n vs' heq
      cases heq
      cases hb : bytesOfL vs with
      | none => simp [hb] at h
      | some l' =>
        simp only [hb] at h
        split at h
        · rename_i hn
          cases h
          rw [bytesOfL_eq hb]
          simp only [List.map_cons, List.cons.injEq, Value.int.injEq, true_and, and_true]
          have h1 : n.toNat < 256 := by omega
          have h2 : (UInt8.ofNat n.toNat).toNat = n.toNat := by simp [Nat.mod_eq_of_lt h1]
          rw [h2]; omega
        · cases h
    · cases h

theorem liesAt_bytes' {e : TypeId} (hc : P.cellsOf e = 1) (count off n : Nat) (hn : off + n ≤ count) : liesAt P P.depth e count off e n = true := by
  have hd : P.depth = (2 * (P.types.size + Made.depth) + 1) + 1 := rfl
  rw [hd]
  simp only [liesAt, Bool.or_eq_true]
  left
  rw [hd]
  simp [Go.rowAt, hc, hn, sameLayout, Nat.mod_one]

theorem unsafeString_none (ts : Array TypeId) (ty : TypeId) (nv : Value) : Builtin.unsafeString_ ts ty #[.pointer none, nv] = (do
    let n ← asInt nv
    let some _ := ts[0]? | stuck "unsafe.String: no argument types"
    if n < 0 then runtimePanic (.error "unsafe.String: len out of range")
    if n > IntKind.i64.max then unsupported (.unsafePointer "String: a length above the largest int")
    if n = 0 then pure (.string .empty)
    else runtimePanic (.error "unsafe.String: ptr is nil and len is not zero")) := rfl

theorem unsafeString_some (ts : Array TypeId) (ty : TypeId) (a : Addr) (nv : Value) : Builtin.unsafeString_ ts ty #[.pointer (some a), nv] = (do
    let n ← asInt nv
    let some pt := ts[0]? | stuck "unsafe.String: no argument types"
    if n < 0 then runtimePanic (.error "unsafe.String: len out of range")
    if n > IntKind.i64.max then unsupported (.unsafePointer "String: a length above the largest int")
    if n = 0 then pure (.string .empty)
    else if ← variablesAt a (← elemOf pt) n.toNat then do
      let s ← loadBytes a .empty n.toNat
      freeze a n.toNat
      pure (.string s)
    else unsupported (.unsafePointer "String: not so many bytes at ptr")) := rfl

theorem sim_strAt {t ty : TypeId} {ts : Array TypeId} {p pc n nc v : Value} (hR : Rel ρ H w) (h0 : ts[0]? = some t) (hp : VRel ρ p pc) (hn : VRel ρ n nc) (h : strAt P t p n H = some (v, H')) : Makes alc P (Builtin.unsafeString_ ts ty #[pc, nc]) ρ H w v H' := by
  have hmax : IntKind.i64.max = 9223372036854775807 := rfl
  unfold strAt at h
  split at h
  · rename_i p n
    cases hn
    have hpc : ∃ q, pc = .pointer q := by cases hp <;> exact ⟨_, rfl⟩
    obtain ⟨q, rfl⟩ := hpc
    split at h
    · rename_i hz
      subst hz
      cases h
      refine ⟨w, .string .empty, ρ, ?_, hR, .refl _ _ _, .str _⟩
      cases q
      · rw [unsafeString_none]; simp [asInt, asIntOf, hmax, h0]
      · rw [unsafeString_some]; simp [asInt, asIntOf, hmax, h0]
    · rename_i hz
      split at h
      · rename_i b o
        split at h
        · rename_i e e' cs hu hxb
          split at h
          · rename_i hc
            obtain ⟨c1, c2, c3, c4, c5⟩ := hc
            subst c3
            split at h
            · rename_i l hl
              cases h
              cases hp with
              | ptr hb =>
                rename_i i
                obtain ⟨j, hj, ⟨hjn, hjs⟩, cc, fz, h1, h2, h3, h4, h5⟩ := hR.blk b _ hxb
                rw [hb] at hj; cases hj
                have hsh := row_shape h1
                have hbl := bytesOfL_eq hl
                have hll : l.length = n.toNat := by
                  have := congrArg List.length hbl
                  simp only [List.length_take, List.length_drop, List.length_map] at this
                  omega
                have hcell : ∀ j x, l[j]? = some x → w.cell? ((⟨i.cb, o + i.d, none⟩ : Addr).add j) = some (.int .u8 x.toNat) := by
                  intro j x hj
                  have hjl : j < l.length := (List.getElem?_eq_some_iff.1 hj).1
                  have e1 : cs[o + j]? = some (.int .u8 x.toNat) := by
                    have := congrArg (fun z => z[j]?) hbl
                    simp only [List.getElem?_map, hj, Option.map_some] at this
                    rw [List.getElem?_take_of_lt (by omega), List.getElem?_drop] at this
                    exact this
                  obtain ⟨v', g1, g2⟩ := h5 _ _ e1
                  cases g2
                  have e2 : ((⟨i.cb, o + i.d, none⟩ : Addr).add j) = ⟨i.cb, o + i.d + j, none⟩ := by
                    unfold Addr.add
                    by_cases hj0 : j = 0
                    · subst hj0; simp
                    · simp [hj0]
                  rw [e2]
                  have e3 : o + i.d + j = o + j + i.d := by omega
                  rw [e3]
                  simp [World.cell?, h1, g1]
                have hload := Lib.run_loadBytes (P := P) w l ⟨i.cb, o + i.d, none⟩ .empty hcell
                have hlies := liesAt_bytes' (P := P) (e := e') c4 (cc.size / P.cellsOf e') (o + i.d) n.toNat (by rw [c4]; omega)
                have hnn : ¬ n < 0 := by omega
                have hnm : ¬ 9223372036854775807 < n := by omega
                have hnt : n.toNat ≠ 0 := by omega
                have hlt : i.cb < w.heap.size := hR.inh b i hb
                rw [hll] at hload
                have hb1 : (w.freeze ⟨i.cb, o + i.d, none⟩ n.toNat).heap[i.cb]? = some (.cells cc e' (if fz.1 == fz.2 then (o + i.d, o + i.d + n.toNat) else (min fz.1 (o + i.d), max fz.2 (o + i.d + n.toNat)))) := by
                  simp only [World.freeze, if_neg hnt, Array.getElem?_modify, if_true, h1, Option.map_some]
                obtain ⟨k1, k2⟩ := hR.upd0 (alc := alc) (x' := .row e' cs false) (w' := w.freeze ⟨i.cb, o + i.d, none⟩ n.toNat) hxb rfl hb (by simp [World.freeze, hnt]) (fun cb hne => by
                  simp only [World.freeze, if_neg hnt, Array.getElem?_modify, if_neg (Ne.symm hne)]) (by simp [World.freeze, hnt]) (by simp [World.freeze, hnt])
                  ⟨⟨hjn, hjs⟩, cc, _, hb1, h2, h3, fun e => (by cases e), h5⟩
                refine ⟨_, .string ⟨⟨l⟩⟩, ρ, ?_, k1, k2, .str _⟩
                rw [unsafeString_some]
                simp [h0, asInt, asIntOf, hmax, hnn, hnm, hz, variablesAt, hsh, elemOf, run_underlying' w hu, hlies, hload]
            · cases h
          · cases h
        · cases h
      · cases h
  · cases h

end Go.Proofs.YtepchknpgeopfaaGreatDoor.E
