/-
  THE ENGINE, part 7: slices of slices, tuples, lengths, conversions; operations that make a block.
-/
import Derived.Test.YtepchknpgeopfaaGreatDoorEng6
set_option linter.unusedVariables false
set_option linter.unusedSimpArgs false
namespace Go.Proofs.YtepchknpgeopfaaGreatDoor.E
open Go

variable {P : Program} {ρ : Emb} {w : World}

theorem bnd_rel {d l : Int} {f g : Operand → Value} (hfg : ∀ o, VRel ρ (f o) (g o)) {x : Option Operand} (h : bnd d (x.map f) = some l) : x.map g = x.map f := by
  cases x with
  | none => rfl
  | some o =>
    simp only [Option.map_some] at h ⊢
    have := hfg o
    unfold bnd at h
    split at h
    · rename_i e; cases e
    · rename_i k h' e
      injection e with e
      rw [e] at this ⊢
      generalize g o = y at this ⊢
      cases this
      rfl
    · cases h

theorem run_sliceBound_ok {k : IntKind} {i : Int} {y : Nat} (code : BoundsCode) (h0 : 0 ≤ i) (h1 : i ≤ y) : (Instr.sliceBound (.int k i) y code).run P w = .ok i.toNat w := by
  simp [Instr.sliceBound, asIntOf_int, h0, h1]

theorem bnd_cases {d l : Int} {x : Option Value} (h : bnd d x = some l) : (x = none ∧ l = d) ∨ ∃ k, x = some (.int k l) := by
  unfold bnd at h
  split at h
  · cases h; exact .inl ⟨rfl, rfl⟩
  · cases h; exact .inr ⟨_, rfl⟩
  · cases h

theorem run_bounds {isS : Bool} {len cap : Nat} {lo hi mx : Option Value} {l h c : Int} (hl : bnd 0 lo = some l) (hh : bnd len hi = some h) (hc : bnd cap mx = some c) (h3 : mx.isNone = true ∨ hi.isSome = true)
    (h0 : 0 ≤ l) (h1 : l ≤ h) (h2 : h ≤ c) (h4 : c ≤ cap) : (Instr.sliceBounds isS len cap lo hi mx).run P w = .ok (l.toNat, h.toNat, c.toNat) w := by
  have e1 : ((h.toNat : Nat) : Int) = h := by omega
  have e2 : ((c.toNat : Nat) : Int) = c := by omega
  rcases bnd_cases hc with ⟨rfl, rfl⟩ | ⟨k, rfl⟩
  · rcases bnd_cases hh with ⟨rfl, rfl⟩ | ⟨k2, rfl⟩
    · rcases bnd_cases hl with ⟨rfl, rfl⟩ | ⟨k3, rfl⟩
      · simp [Instr.sliceBounds]
      · simp [Instr.sliceBounds, run_sliceBound_ok _ h0 h1]
    · have b2 : ∀ code, (Instr.sliceBound (.int k2 h) cap code).run P w = .ok h.toNat w := fun code => run_sliceBound_ok code (by omega) (by omega)
      rcases bnd_cases hl with ⟨rfl, rfl⟩ | ⟨k3, rfl⟩
      · simp [Instr.sliceBounds, b2]
      · have b3 : ∀ code, (Instr.sliceBound (.int k3 l) h.toNat code).run P w = .ok l.toNat w := fun code => run_sliceBound_ok code h0 (by omega)
        simp [Instr.sliceBounds, b2, b3]
  · have b1 : ∀ code, (Instr.sliceBound (.int k c) cap code).run P w = .ok c.toNat w := fun code => run_sliceBound_ok code (by omega) h4
    rcases bnd_cases hh with ⟨rfl, rfl⟩ | ⟨k2, rfl⟩
    · simp at h3
    · have b2 : ∀ code, (Instr.sliceBound (.int k2 h) c.toNat code).run P w = .ok h.toNat w := fun code => run_sliceBound_ok code (by omega) (by omega)
      rcases bnd_cases hl with ⟨rfl, rfl⟩ | ⟨k3, rfl⟩
      · simp [Instr.sliceBounds, b1, b2]
      · have b3 : ∀ code, (Instr.sliceBound (.int k3 l) h.toNat code).run P w = .ok l.toNat w := fun code => run_sliceBound_ok code h0 (by omega)
        simp [Instr.sliceBounds, b1, b2, b3]

theorem run_sliceAt_sl {t e : TypeId} (hu : P.underlying t = some (.slice e)) (he : (P.info? e).isSome = true) {a : Option Addr} {len cap l h c : Nat} {lo hi mx : Option Value}
    (hb : (Instr.sliceBounds true len cap lo hi mx).run P w = .ok (l, h, c) w) : (Instr.sliceAt t (.slice a len cap) lo hi mx).run P w = .ok (.slice (if c = l then a else a.map (·.add (l * P.cellsOf e))) (h - l) (c - l)) w := by
  obtain ⟨inf, hinf⟩ := Option.isSome_iff_exists.1 he
  simp only [Instr.sliceAt, Sem.run_bind, run_underlying' w hu, Result.andThen_ok, Instr.slice, hb, run_sizeOf' w hinf, Sem.run_pure]

theorem sim_sliceSl {t e : TypeId} {x xc v : Value} {lo hi mx : Option Value} (hu : P.underlying t = some (.slice e)) (he : (P.info? e).isSome = true) (hx : VRel ρ x xc)
    (h : sliceSl (P.cellsOf e) x lo hi mx = some v) : Gives P (Instr.sliceAt t xc lo hi mx) ρ w v := by
  unfold sliceSl at h
  split at h
  · split at h
    · rename_i h1 h2 h3
      split at h
      · rename_i hm
        cases h
        cases hx
        refine ⟨.slice none 0 0, ?_, .sl0⟩
        rw [run_sliceAt_sl hu he (run_bounds (len := 0) (cap := 0) h1 h2 h3 hm (by omega) (by omega) (by omega) (by omega))]
        simp
      · cases h
    · cases h
  · rename_i b o m len cap
    split at h
    · rename_i l hh c h1 h2 h3
      split at h
      · rename_i hc
        obtain ⟨g0, g1, g2, g3, g4, g5⟩ := hc
        cases h
        cases hx with
        | sl hb hl ha =>
          rename_i i co
          refine ⟨_, run_sliceAt_sl hu he (run_bounds (cap := cap) h1 h2 h3 g4 g0 g1 g2 g3), ?_⟩
          have ec : (c.toNat = l.toNat) = (c = l) := propext ⟨by omega, by omega⟩
          have e1 : (hh - l).toNat = hh.toNat - l.toNat := by omega
          have e2 : (c - l).toNat = c.toNat - l.toNat := by omega
          rw [e1, e2]
          simp only [ec, ite_self]
          by_cases hcl : c = l
          · simp only [hcl, true_and, if_true]
            have : l.toNat - l.toNat = 0 := by omega
            rw [this]
            exact .sl hb (by omega) (.inr rfl)
          · simp only [hcl, false_and, if_false, Option.map_some, add_none]
            refine .sl hb (by omega) ?_
            rcases ha with ha | ha
            · left; omega
            · omega
        | slo hb hl hcc hn hm ha =>
          rename_i s' cap' co i
          have es : s' = P.cellsOf e := by rcases g5 with g5 | g5 <;> cases g5; rfl
          subst es
          rcases hmx : mx with _ | mv
          · subst hmx
            have hcc' : c = cap := by rcases bnd_cases h3 with ⟨_, e⟩ | ⟨k, e⟩; exact e; cases e
            subst hcc'
            refine ⟨_, run_sliceAt_sl hu he (run_bounds (cap := cap') (c := cap') h1 h2 (by simp [bnd]) (.inl rfl) g0 g1 (by omega) (by omega)), ?_⟩
            have e1 : (hh - l).toNat = hh.toNat - l.toNat := by omega
            have e2 : ((cap : Int) - l).toNat = cap - l.toNat := by omega
            rw [e1, e2]
            have hfalse : ((cap : Int) = l ∧ (some (P.cellsOf e)).isNone = true) = False := by simp
            simp only [hfalse, if_false, Option.isSome_none, Bool.false_eq_true, Int.toNat_natCast]
            have emul : o + l.toNat * P.cellsOf e + (cap - l.toNat) * P.cellsOf e = i.n := by
              rw [Nat.add_assoc, ← Nat.add_mul, show l.toNat + (cap - l.toNat) = cap by omega]; exact hn
            by_cases hcl : cap' = l.toNat
            · simp only [hcl, if_true]
              refine .slo hb (by omega) (by omega) emul (.inr (by omega)) (.inr (by omega))
            · simp only [hcl, if_false, Option.map_some, add_none]
              have hco : co = o + i.d := ha.resolve_right (by omega)
              refine .slo hb (by omega) (by omega) emul (.inl ?_) (.inl (by omega))
              have := hm.resolve_right (by omega)
              rw [Nat.add_assoc, ← Nat.add_mul, show l.toNat + (cap' - l.toNat) = cap' by omega]
              exact this
          · subst hmx
            obtain ⟨k, ek⟩ : ∃ k, mv = .int k c := by
              rcases bnd_cases h3 with ⟨e, _⟩ | ⟨k, e⟩
              · cases e
              · cases e; exact ⟨k, rfl⟩
            subst ek
            refine ⟨_, run_sliceAt_sl hu he (run_bounds (cap := cap') (c := c) h1 h2 (by simp [bnd]) g4 g0 g1 g2 (by omega)), ?_⟩
            have e1 : (hh - l).toNat = hh.toNat - l.toNat := by omega
            have e2 : (c - l).toNat = c.toNat - l.toNat := by omega
            rw [e1, e2]
            have hfalse : (c = l ∧ (some (P.cellsOf e)).isNone = true) = False := by simp
            simp only [hfalse, if_false, Option.isSome_some, if_true]
            by_cases hcl : c.toNat = l.toNat
            · simp only [hcl, if_true]
              exact .sl hb (by omega) (.inr (by omega))
            · simp only [hcl, if_false, Option.map_some, add_none]
              have hco : co = o + i.d := ha.resolve_right (by omega)
              exact .sl hb (by omega) (.inl (by omega))
      · cases h
    · cases h
  · cases h

theorem sim_sliceAr {t e : TypeId} {n : Nat} {x xc v : Value} {lo hi : Option Value} (he : (P.info? e).isSome = true) (hx : VRel ρ x xc) (h : sliceAr n (P.cellsOf e) x lo hi = some v) :
    (P.underlying t = some (.array n e) → Gives P (Instr.sliceAt t xc lo hi none) ρ w v) ∧ (∀ a, P.underlying t = some (.pointer a) → P.underlying a = some (.array n e) → Gives P (Instr.sliceAt t xc lo hi none) ρ w v) := by
  obtain ⟨inf, hinf⟩ := Option.isSome_iff_exists.1 he
  unfold sliceAr at h
  split at h
  · rename_i b o
    split at h
    · rename_i l hh h1 h2
      split at h
      · rename_i hc
        obtain ⟨g0, g1, g2⟩ := hc
        cases h
        cases hx with
        | ptr hb =>
          rename_i i
          have hbo := run_bounds (P := P) (w := w) (isS := false) (len := n) (cap := n) (mx := none) (c := n) h1 h2 (by simp [bnd]) (.inl rfl) g0 g1 g2 (by omega)
          have rel : VRel ρ (.slice (some ⟨b, o + (if (n : Int) = l then 0 else l.toNat * P.cellsOf e), none⟩) (hh - l).toNat ((n : Int) - l).toNat)
              (.slice (some (if (n : Int).toNat = l.toNat then (⟨i.cb, o + i.d, none⟩ : Addr) else (⟨i.cb, o + i.d, none⟩ : Addr).add (l.toNat * P.cellsOf e))) (hh.toNat - l.toNat) ((n : Int).toNat - l.toNat)) := by
            have e1 : (hh - l).toNat = hh.toNat - l.toNat := by omega
            have e2 : ((n : Int) - l).toNat = (n : Int).toNat - l.toNat := by omega
            rw [e1, e2]
            by_cases hcl : (n : Int) = l
            · have : (n : Int).toNat = l.toNat := by omega
              simp only [hcl, if_true]
              exact .sl hb (by omega) (.inr (by omega))
            · have : ¬ (n : Int).toNat = l.toNat := by omega
              simp only [hcl, this, if_false, add_none]
              exact .sl hb (by omega) (.inl (by omega))
          refine ⟨fun hu => ⟨_, ?_, rel⟩, fun a hu hua => ⟨_, ?_, rel⟩⟩
          · simp only [Instr.sliceAt, Sem.run_bind, run_underlying' w hu, Result.andThen_ok, Instr.sureAddr, Sem.run_pure, hbo, run_sizeOf' w hinf]
          · simp only [Instr.sliceAt, Sem.run_bind, run_underlying' w hu, Result.andThen_ok, Instr.slice, asAddr, Sem.run_pure, run_underlying' w hua, hbo, run_sizeOf' w hinf]
      · cases h
    · cases h
  · cases h

theorem sim_sliceStr {t : TypeId} {x xc v : Value} {lo hi : Option Value} (hu : P.underlying t = some .string) (hx : VRel ρ x xc) (h : sliceStr x lo hi = some v) : Gives P (Instr.sliceAt t xc lo hi none) ρ w v := by
  unfold sliceStr at h
  split at h
  · rename_i s
    split at h
    · rename_i hh l h2 h1
      split at h
      · rename_i hc
        obtain ⟨g0, g1, g2⟩ := hc
        cases h
        cases hx
        have hbo := run_bounds (P := P) (w := w) (isS := false) (len := s.size) (cap := s.size) (mx := none) (c := s.size) h1 h2 (by simp [bnd]) (.inl rfl) g0 g1 g2 (by omega)
        refine ⟨_, ?_, .str _⟩
        simp only [Instr.sliceAt, Sem.run_bind, run_underlying' w hu, Result.andThen_ok, Instr.slice, Option.isSome_none, Bool.false_eq_true, if_false, Sem.run_pure, hbo]
      · cases h
    · cases h
  · cases h

theorem sim_extr {x xc v : Value} {i : Nat} (hx : VRel ρ x xc) (h : extr i x = some v) : Gives P (Instr.extract xc i) ρ w v := by
  unfold extr at h
  split at h
  · rename_i vs
    cases hx with
    | tup hs hr =>
      obtain ⟨v', h1, h2⟩ := (arrL hs hr).get h
      refine ⟨v', ?_, h2⟩
      simp only [Array.getElem?_toList] at h1
      simp [Instr.extract, h1]
  · cases h

theorem sim_assert {x xc v : Value} {xt t : TypeId} (hx : VRel ρ x xc) (h : assertV P t x = some v) : Gives P (Instr.typeAssert xc xt t false) ρ w v := by
  unfold assertV at h
  split at h
  · cases h
  · rename_i d u e hne hd
    split at h
    · rename_i e
      cases h
      subst e
      cases hx with
      | iface _ hv =>
        refine ⟨_, ?_, hv⟩
        simp only [Instr.typeAssert, Sem.run_bind, run_underlying' w hd, Result.andThen_ok]
        cases d <;> first | (exact (hne _ rfl).elim) | simp
    · cases h
  · cases h

theorem sim_mmAll {gt : Bool} : ∀ {xs xs' : List Value} {x x' v : Value}, VRel ρ x x' → LRel ρ xs xs' → mmAll gt x xs = some v →
    ∃ vc, VRel ρ v vc ∧ (xs'.foldlM (if gt then Builtin.max2 else Builtin.min2) x').run P w = .ok vc w
  | [], _, x, x', v, hx, hr, h => by
    cases hr
    simp only [mmAll] at h
    split at h
    · cases h; exact ⟨x', hx, by simp⟩
    · cases h
  | y :: ys, _, x, x', v, hx, hr, h => by
    cases hr with
    | cons hy hys =>
      simp only [mmAll] at h
      split at h
      · rename_i u hu
        unfold mm at hu
        split at hu
        · cases hu
          cases hx; cases hy
          obtain ⟨vc, h1, h2⟩ := sim_mmAll (.int _ _) hys h
          refine ⟨vc, h1, ?_⟩
          cases gt
          · simpa [List.foldlM_cons, Builtin.min2] using h2
          · simpa [List.foldlM_cons, Builtin.max2] using h2
        · cases hu
      · cases h

end Go.Proofs.YtepchknpgeopfaaGreatDoor.E
