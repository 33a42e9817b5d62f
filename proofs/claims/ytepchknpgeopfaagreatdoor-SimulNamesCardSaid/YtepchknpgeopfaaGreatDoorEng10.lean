/-
  THE ENGINE, part 10: copy, clear; maps.
-/
import Derived.Test.YtepchknpgeopfaaGreatDoorEng9
set_option linter.unusedVariables false
set_option linter.unusedSimpArgs false
namespace Go.Proofs.YtepchknpgeopfaaGreatDoor.E
open Go

variable {P : Program} {ρ : Emb} {H H' : AH} {w : World} {alc : Option Nat}

theorem slice_rel {b o len cap : Nat} {m : Option Nat} {xc : Value} (hx : VRel ρ (.slice (some ⟨b, o, m⟩) len cap) xc) :
    ∃ (i' : Info) (co cap' : Nat), ρ b = some i' ∧ len ≤ cap ∧ cap ≤ cap' ∧ (co = o + i'.d ∨ cap' = 0) ∧ xc = .slice (some ⟨i'.cb, co, none⟩) len cap' := by
  cases hx with
  | sl hb hl ha => exact ⟨_, _, _, hb, hl, Nat.le_refl _, ha, rfl⟩
  | slo hb hl hc hn hm ha => exact ⟨_, _, _, hb, hl, hc, ha, rfl⟩

theorem sim_copy {t e ty : TypeId} {ts : Array TypeId} {x xc y yc v : Value} (hR : Rel ρ H w) (h0 : ts[0]? = some t) (hu : P.underlying t = some (.slice e)) {i : TypeInfo} (hi : P.info? e = some i)
    (hx : VRel ρ x xc) (hy : VRel ρ y yc) (h : copyB (P.cellsOf e) x y H = some (v, H')) : Makes alc P (Builtin.copy_ ts ty #[xc, yc]) ρ H w v H' := by
  unfold copyB at h
  cases hn : lenN y with
  | none => cases x <;> simp [hn, M.fail] at h
  | some n =>
    have hsl : ∃ a len cap, x = .slice a len cap := by cases x <;> first | exact ⟨_, _, _, rfl⟩ | (simp [hn, M.fail] at h)
    obtain ⟨a, len, cap, rfl⟩ := hsl
    simp only [hn] at h
    · have hb := bind_some h
      clear h
      obtain ⟨cs, H1, hs, h⟩ := hb
      obtain ⟨e0, vc, hv, hvl, hvrun⟩ := sim_sliceCells (P := P) hR hy hs
      have e1 := e0.symm
      clear e0
      subst e1
      have hlen := lenN_rel (P := P) (w := w) hy hn
      have hmin : min n len = Nat.min n len := rfl
      by_cases hz : min n len = 0
      · rw [if_pos hz] at h
        obtain ⟨rfl, rfl⟩ := pure_some h
        have hnil : vc = [] := List.eq_nil_of_length_eq_zero (by rw [← hv.length, hvl, hz]; simp)
        subst hnil
        have hz' : n.min len = 0 := hz
        rw [hz] at hvrun
        have : ∃ (a' : Option Addr) (cap' : Nat), xc = .slice a' len cap' := by
          cases hx with
          | sl0 => exact ⟨_, _, rfl⟩
          | sl hb hl ha => exact ⟨_, _, rfl⟩
          | slo hb hl hc hn hm ha => exact ⟨_, _, rfl⟩
        obtain ⟨a', cap', rfl⟩ := this
        refine ⟨w, _, ρ, ?_, hR, .refl _ _ _, .int _ _⟩
        cases a' <;> simp [Builtin.copy_, h0, run_underlying' w hu, hlen, run_sizeOf' w hi, hz', hvrun, storeCells, goInt]
      · rw [if_neg hz] at h
        split at h
        · rename_i b o m
          have hb := bind_some h
          clear h
          obtain ⟨_, H2, h2, h⟩ := hb
          obtain ⟨rfl, rfl⟩ := pure_some h
          obtain ⟨i', co, cap', hb, hl, hc, ha, rfl⟩ := slice_rel hx
          unfold writeM at h2
          cases hw : writeN b o cs H with
          | none => simp [hw] at h2
          | some H3 =>
            simp [hw] at h2
            subst h2
            obtain ⟨w', g1, g2, g3⟩ := writeN_sim hR hb hv hw
            have hco : co = o + i'.d := ha.resolve_right (by omega)
            subst hco
            refine ⟨w', _, ρ, ?_, g2, g3, .int _ _⟩
            rw [hmin] at hvrun
            simp [Builtin.copy_, h0, run_underlying' w hu, hlen, run_sizeOf' w hi, hvrun, g1 P, goInt]
        · cases h

theorem sim_clear {t e ty : TypeId} {ts : Array TypeId} {z : List Value} {x xc v : Value} (hR : Rel ρ H w) (h0 : ts[0]? = some t) (hu : P.underlying t = some (.slice e)) (hz : zeroL P e = some z)
    (hx : VRel ρ x xc) (h : clearS z x H = some (v, H')) : Makes alc P (Builtin.clear_ ts ty #[xc]) ρ H w v H' := by
  obtain ⟨hzr, i, zv, hi, hzv, rfl⟩ := zero_rel hz
  unfold clearS at h
  split at h
  · obtain ⟨rfl, rfl⟩ := pure_some h
    cases hx
    refine ⟨w, _, ρ, ?_, hR, .refl _ _ _, VRel.undef⟩
    simp [Builtin.clear_, h0, run_underlying' w hu, Go.undef]
  · rename_i b o m n cap
    obtain ⟨i', co, cap', hb, hl, hc, ha, rfl⟩ := slice_rel hx
    split at h
    · rename_i hn
      obtain ⟨rfl, rfl⟩ := pure_some h
      subst hn
      refine ⟨w, _, ρ, ?_, hR, .refl _ _ _, VRel.undef⟩
      simp [Builtin.clear_, h0, run_underlying' w hu, Go.undef]
    · rename_i hn
      have hb1 := bind_some h
      clear h
      obtain ⟨_, H2, h2, h⟩ := hb1
      obtain ⟨rfl, rfl⟩ := pure_some h
      unfold writeM at h2
      cases hw : writeN b o (List.replicate n zv.cells.toList).flatten H with
      | none => simp [hw] at h2
      | some H3 =>
        simp [hw] at h2
        subst h2
        obtain ⟨w', g1, g2, g3⟩ := writeN_sim hR hb (zeros_rel (hzr ρ) n) hw
        have hco : co = o + i'.d := ha.resolve_right (by omega)
        subst hco
        refine ⟨w', _, ρ, ?_, g2, g3, VRel.undef⟩
        have hzc : (Builtin.zeroCells zv.cells n).toList = (List.replicate n zv.cells.toList).flatten := by
          rw [← zero_cells]; simp [Builtin.zeroCells]
        obtain ⟨n, rfl⟩ : ∃ m, n = m + 1 := ⟨n - 1, by omega⟩
        simp [Builtin.clear_, h0, run_underlying' w hu, run_zeroValue' w hi hzv, hzc, g1 P, Go.undef]
  · cases h

/-! ### Maps -/

theorem kkOf_some {d : Option TypeDesc} {kk : KK} (h : kkOf d = some kk) : (kk = .int ∧ ∃ q, d = some (.int q)) ∨ (kk = .str ∧ d = some .string) ∨ (kk = .bool ∧ d = some .bool) := by
  unfold kkOf at h
  split at h <;> cases h
  · exact .inl ⟨rfl, _, rfl⟩
  · exact .inr (.inl ⟨rfl, rfl⟩)
  · exact .inr (.inr ⟨rfl, rfl⟩)

theorem run_checkKey_any {kt : TypeId} {d : TypeDesc} (hu : P.underlying kt = some d) (h1 : ∀ m, d ≠ .interface m) (h2 : ∀ n e, d ≠ .array n e) (h3 : ∀ fs, d ≠ .struct fs) {k : Value} (b : Bool) (n : Nat) :
    (Instr.checkKey b (n + 1) kt k).run P w = .ok () w := by
  simp only [Instr.checkKey, Sem.run_bind, run_underlying' w hu, Result.andThen_ok]
  cases d <;> first | rfl | exact absurd rfl (h1 _) | exact absurd rfl (h2 _ _) | exact absurd rfl (h3 _)

theorem run_checkKey {kt : TypeId} {kk : KK} (h : kkOf (P.underlying kt) = some kk) {k : Value} (hk : keyOk kk k = true) (b : Bool) : (Instr.checkKey b 10000 kt k).run P w = .ok () w := by
  rcases kkOf_some h with ⟨rfl, q, hu⟩ | ⟨rfl, hu⟩ | ⟨rfl, hu⟩ <;> cases k <;> (try (simp [keyOk] at hk; done)) <;> exact run_checkKey_any hu (by simp) (by simp) (by simp) b 9999

theorem bytes_eq {a b : ByteArray} (h : (a == b) = true) : a = b := by
  rw [beq_toListBytes, ByteArray.toList_eq, ByteArray.toList_eq] at h
  have e := eq_of_beq h
  cases a with
  | mk x => cases b with
    | mk y =>
      have : x = y := by apply Array.ext'; exact e
      rw [this]

theorem eq1_true {kk : KK} {k k' : Value} (hk : keyOk kk k = true) (h : eq1 k k' = some true) : k' = k := by
  cases kk <;> cases k <;> simp [keyOk] at hk <;> cases k' <;> simp [eq1] at h ⊢
  · exact ⟨h.1.symm, h.2.symm⟩
  · exact (bytes_eq h).symm
  · exact h.symm

theorem sameNow_rel {d : TypeDesc} {kk : KK} {k k' kc : Value} {b : Bool} (hd : kkOf (some d) = some kk) (hk : keyOk kk k = true) (hr : VRel ρ k' kc) (h : eq1 k k' = some b) : Instr.sameNow d k kc = some b := by
  rcases kkOf_some hd with ⟨rfl, q, hu⟩ | ⟨rfl, hu⟩ | ⟨rfl, hu⟩ <;> cases hu <;> cases k <;> simp [keyOk] at hk <;> cases hr <;> simp [eq1, E.junk] at h <;> simp [Instr.sameNow, h]

theorem findK_rel {d : TypeDesc} {kk : KK} {k : Value} (hd : kkOf (some d) = some kk) (hk : keyOk kk k = true) : ∀ {es : List (Value × Value)} {es' : List MapEntry} {i : Nat} {r : Option (Nat × Value)}, ERel ρ es es' → findK k es i = some r →
    (r = none ∧ Instr.findNow d k es' i = some none) ∨
    ∃ j v e', r = some (i + j, v) ∧ Instr.findNow d k es' i = some (some (i + j, e'.val)) ∧ es'[j]? = some e' ∧ j < es.length ∧ VRel ρ v e'.val ∧ e'.key = k
  | [], es', i, r, hr, h => by
    cases hr
    simp only [findK] at h; cases h
    exact .inl ⟨rfl, rfl⟩
  | (k', v) :: es, es', i, r, hr, h => by
    cases hr with
    | cons h1 h2 =>
      rename_i e' es'
      simp only [findK] at h
      split at h
      · rename_i he
        cases h
        have hke : e'.key = k := by
          have := h1.1
          simp only at this
          rw [eq1_true hk he] at this
          exact keyOk_rel this hk
        exact .inr ⟨0, v, e', rfl, by simp [Instr.findNow, sameNow_rel hd hk h1.1 he], rfl, by simp, h1.2, hke⟩
      · rename_i he
        have hs := sameNow_rel hd hk h1.1 he
        rcases findK_rel hd hk h2 h with ⟨g1, g2⟩ | ⟨j, v', e2, g1, g2, g3, g4, g5, g6⟩
        · exact .inl ⟨g1, by simp [Instr.findNow, hs, g2]⟩
        · refine .inr ⟨j + 1, v', e2, by rw [g1]; congr 2; omega, ?_, by simpa using g3, by simp; omega, g5, g6⟩
          simp only [Instr.findNow, hs]
          rw [g2]; congr 3; omega
      · cases h

theorem run_findKey {kt : TypeId} {d : TypeDesc} (hu : P.underlying kt = some d) {k : Value} {es : List MapEntry} {r : Option (Nat × Value)} (h : Instr.findNow d k es 0 = some r) : (Instr.findKey kt k es).run P w = .ok r w := by
  simp [Instr.findKey, run_underlying' w hu, h]

theorem mapAt3_rel (hR : Rel ρ H w) {b : Nat} {es : List (Value × Value)} {bs : List Nat} {c : Nat} {i : Info} (hb : ρ b = some i) (h : mapAt3 H b = some (es, bs, c)) :
    H.at_ b = some (.map es bs c) ∧ ∃ es', w.heap[i.cb]? = some (.map es' c) ∧ ERel ρ es es'.toList ∧ es'.toList.map (·.born) = bs ∧ (getObj i.cb).run P w = .ok (.map es' c) w := by
  unfold mapAt3 at h
  split at h
  · rename_i es0 bs0 c0 hx
    cases h
    obtain ⟨j, hj, es', hw, he, hbs⟩ := hR.blk b _ hx
    rw [hb] at hj; cases hj
    exact ⟨hx, es', hw, he, hbs, by simp only [getObj, Sem.run, hw]⟩
  · cases h

theorem mapAt_rel (hR : Rel ρ H w) {b : Nat} {es : List (Value × Value)} {i : Info} (hb : ρ b = some i) (h : mapAt H b = some es) :
    ∃ es' clock, w.heap[i.cb]? = some (.map es' clock) ∧ ERel ρ es es'.toList ∧ (getObj i.cb).run P w = .ok (.map es' clock) w := by
  unfold mapAt at h
  split at h
  · rename_i es0 bs0 c0 hx
    cases h
    obtain ⟨j, hj, es', hw, he, hbs⟩ := hR.blk b _ hx
    rw [hb] at hj; cases hj
    exact ⟨es', _, hw, he, by simp only [getObj, Sem.run, hw]⟩
  · cases h

theorem sim_lookup {t kt et : TypeId} {kk : KK} {z : Value} {ok : Bool} {m mc k kc v : Value} (hR : Rel ρ H w) (hu : P.underlying t = some (.map kt et)) (hkk : kkOf (P.underlying kt) = some kk) {i : TypeInfo} (hi : P.info? et = some i)
    (hz : i.zero = some z) (hp : plainV z = true) (hm : VRel ρ m mc) (hk : VRel ρ k kc) (h : lookupM kk z ok m k H = some (v, H')) : H' = H ∧ Gives P (Instr.lookup t mc kc ok) ρ w v := by
  unfold lookupM at h
  split at h
  · cases h
  · rename_i hko
    have hko : keyOk kk k = true := by simpa using hko
    have := keyOk_rel hk hko
    subst this
    obtain ⟨d, hd⟩ : ∃ d, P.underlying kt = some d := by
      cases hh : P.underlying kt with
      | some d => exact ⟨d, rfl⟩
      | none => simp [hh, kkOf] at hkk
    have main : ∀ (es : List (Value × Value)) (es' : Array MapEntry), ERel ρ es es'.toList →
        (match findK kc es 0 with
          | some (some (_, v)) => some (if ok then ((.tuple #[v, .bool true] : Value), H) else (v, H))
          | some none => some (if ok then (.tuple #[z, .bool false], H) else (z, H))
          | none => none) = some (v, H') →
        H' = H ∧ ∃ r vc, (Instr.findKey kt kc es'.toList).run P w = .ok r w ∧ VRel ρ v vc ∧ (match r with
          | some (_, v) => (pure (v, true) : Sem (Value × Bool))
          | none => do pure (← zeroValue et, false)).run P w = .ok (if r.isSome then ((r.getD (0, z)).2, true) else (z, false)) w ∧
          vc = (if ok then .tuple #[(if r.isSome then (r.getD (0, z)).2 else z), .bool r.isSome] else (if r.isSome then (r.getD (0, z)).2 else z)) := by
      intro es es' he h
      split at h
      · rename_i j u hf
        rcases findK_rel (by rw [← hd]; exact hkk) hko he hf with ⟨g1, _⟩ | ⟨j', v', e2, g1, g2, g3, g4, g5, g6⟩
        · cases g1
        · cases g1
          refine ⟨by split at h <;> (cases h; rfl), _, _, run_findKey hd g2, ?_, ?_, rfl⟩
          · cases ok
            · simp at h ⊢; rw [← h.1]; exact g5
            · simp at h ⊢; rw [← h.1]; exact Ltup (xs := [u, .bool true]) (xs' := [e2.val, .bool true]) (.cons g5 (.cons (.bool _) .nil))
          · simp
      · rename_i hf
        rcases findK_rel (by rw [← hd]; exact hkk) hko he hf with ⟨_, g2⟩ | ⟨j', v', e2, g1, _⟩
        · refine ⟨by split at h <;> (cases h; rfl), _, _, run_findKey hd g2, ?_, ?_, rfl⟩
          · cases ok
            · simp at h ⊢; rw [← h.1]; exact plainV_rel hp ρ
            · simp at h ⊢; rw [← h.1]; exact Ltup (xs := [z, .bool false]) (xs' := [z, .bool false]) (.cons (plainV_rel hp ρ) (.cons (.bool _) .nil))
          · simp [run_zeroValue' w hi hz]
        · cases g1
      · cases h
    split at h
    · rename_i es hes
      split at hes
      · cases hes
        cases hm
        obtain ⟨e0, r, vc, g1, g2, g3, g4⟩ := main [] #[] .nil h
        refine ⟨e0, vc, ?_, g2⟩
        simp only [Instr.lookup, Sem.run_bind, run_underlying' w hu, Result.andThen_ok, Sem.run_pure, run_checkKey hkk hko, g1]
        cases r with
        | none => simp only [Sem.run_bind, run_zeroValue' w hi hz, Result.andThen_ok, Sem.run_pure]; simp [g4]
        | some q => simp only [Sem.run_pure, Result.andThen_ok]; simp [g4]
      · rename_i b
        cases hm with
        | map hb =>
          obtain ⟨es', clock, hw, he, hget⟩ := mapAt_rel (P := P) hR hb hes
          obtain ⟨e0, r, vc, g1, g2, g3, g4⟩ := main es es' he h
          refine ⟨e0, vc, ?_, g2⟩
          simp only [Instr.lookup, Sem.run_bind, run_underlying' w hu, Result.andThen_ok, hget, Sem.run_pure, run_checkKey hkk hko, g1]
          cases r with
          | none => simp only [Sem.run_bind, run_zeroValue' w hi hz, Result.andThen_ok, Sem.run_pure]; simp [g4]
          | some q => simp only [Sem.run_pure, Result.andThen_ok]; simp [g4]
      · cases hes
    · cases h

end Go.Proofs.YtepchknpgeopfaaGreatDoor.E
