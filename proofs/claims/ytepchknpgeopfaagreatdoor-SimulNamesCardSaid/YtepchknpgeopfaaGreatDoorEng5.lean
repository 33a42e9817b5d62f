/-
  THE ENGINE, part 5: operations that ask nothing of memory: at related operands the model gives a related value, in the same world.
-/
import Derived.Test.YtepchknpgeopfaaGreatDoorEng4
set_option linter.unusedVariables false
set_option linter.unusedSimpArgs false
namespace Go.Proofs.YtepchknpgeopfaaGreatDoor.E
open Go

/-- The model's computation, in a world w, gives a value related to v, and leaves the world. -/
def Gives (P : Program) (s : Sem Value) (ρ : Emb) (w : World) (v : Value) : Prop := ∃ vc, s.run P w = .ok vc w ∧ VRel ρ v vc

theorem VRel.ptr' {ρ : Emb} {b o co : Nat} {i : Info} (h : ρ b = some i) (e : co = o + i.d) : VRel ρ (.pointer (some ⟨b, o, none⟩)) (.pointer (some ⟨i.cb, co, none⟩)) := by
  subst e; exact .ptr h

theorem add_none (b o n : Nat) : (⟨b, o, none⟩ : Addr).add n = ⟨b, o + n, none⟩ := by
  unfold Addr.add; split <;> simp_all

variable {P : Program} {ρ : Emb} {w : World}

theorem sim_pick {c a b cc ac bc v : Value} (hc : VRel ρ c cc) (ha : VRel ρ a ac) (hb : VRel ρ b bc) (h : pickV c a b = some v) :
    ∃ x, cc = .bool x ∧ VRel ρ v (if x then ac else bc) := by
  unfold pickV at h
  split at h
  · cases hc; cases h
    refine ⟨_, rfl, ?_⟩
    split <;> assumption
  · cases h

theorem sim_nilChk {x xc v : Value} (hx : VRel ρ x xc) (h : nilChk x = some v) :
    (∀ (n : Sem Next), (match xc with
      | .pointer none | .nilIface | .nilFunc => (runtimePanic .nilDeref : Sem Next)
      | .func (.method name) first captured => n
      | x => pure (.value x)) = pure (.value xc)) ∧ VRel ρ v xc := by
  unfold nilChk at h
  split at h <;> cases h
  · cases hx with
    | ptr hi => exact ⟨fun _ => rfl, .ptr hi⟩
  · cases hx with
    | func fn hs ht h1 h2 => exact ⟨fun _ => rfl, .func _ hs ht h1 h2⟩
  · cases hx with
    | iface _ h1 => exact ⟨fun _ => rfl, .iface _ h1⟩

theorem sim_addP {n : Nat} {x xc v : Value} (hx : VRel ρ x xc) (h : addP n x = some v) :
    ∃ cb co, xc = .pointer (some ⟨cb, co, none⟩) ∧ VRel ρ v (.pointer (some ⟨cb, co + n, none⟩)) := by
  unfold addP at h
  split at h
  · cases h
    cases hx with
    | ptr hi => exact ⟨_, _, rfl, .ptr' hi (by omega)⟩
  · cases h

theorem fieldOf_some {t : TypeId} {f : Nat} {fd : Field} (h : fieldOf P t f = some fd) : ∃ fs, P.underlying t = some (.struct fs) ∧ fs[f]? = some fd := by
  unfold fieldOf at h
  split at h
  · rename_i fs hu; exact ⟨fs, hu, by simpa using h⟩
  · cases h

theorem sim_fieldAddr {t : TypeId} {f : Nat} {fd : Field} {x xc v : Value} (hf : fieldOf P t f = some fd) (h0 : P.cellsOf fd.type ≠ 0) (hx : VRel ρ x xc) (h : addP fd.offset x = some v) : Gives P (Instr.fieldAt t xc f) ρ w v := by
  obtain ⟨fs, hu, hfs⟩ := fieldOf_some hf
  obtain ⟨cb, co, rfl, hv⟩ := sim_addP hx h
  refine ⟨_, ?_, hv⟩
  have hi : ∃ i, P.info? fd.type = some i := by
    cases hi : P.info? fd.type with
    | some i => exact ⟨i, rfl⟩
    | none => simp [Program.cellsOf, hi] at h0
  obtain ⟨i, hi⟩ := hi
  simp [Instr.fieldAt, run_underlying' w hu, hfs, Instr.sureAddr, fieldPlace, run_sizeOf' w hi, h0, add_none]

theorem sim_part {t : TypeId} {o : Nat} {x v : Value} {cs : Array Value} (hu : (P.underlying t).isSome = true) (hx : VRel ρ x (.agg cs)) (h : partV (isAggT P t) o (P.cellsOf t) x = some v) : Gives P (part t cs o) ρ w v := by
  unfold partV at h
  split at h
  · rename_i xs
    split at h
    · have hl := aggL hx
      obtain ⟨d, hd⟩ := Option.isSome_iff_exists.1 hu
      obtain ⟨i, hi⟩ := info_of_underlying hd
      split at h
      · rename_i hag
        cases h
        have agg : (isAgg t).run P w = .ok true w := by
          simp only [isAggT, hd] at hag
          simp only [isAgg, Sem.run_bind, run_underlying' w hd, Result.andThen_ok]; cases d <;> simp [isAggB] at hag ⊢
        refine ⟨.agg (cs.extract o (o + P.cellsOf t)), ?_, ?_⟩
        · simp only [part, Sem.run_bind, agg, Result.andThen_ok, if_true, run_sizeOf' w hi, Sem.run_pure]
        · have := Lagg ((hl.drop o).take (P.cellsOf t))
          rwa [show ((cs.toList.drop o).take (P.cellsOf t)).toArray = cs.extract o (o + P.cellsOf t) from by apply Array.ext'; simp [List.extract]] at this
      · rename_i hag
        have plain : (isAgg t).run P w = .ok false w := by
          simp only [isAggT, hd] at hag
          simp only [isAgg, Sem.run_bind, run_underlying' w hd, Result.andThen_ok]; cases d <;> simp [isAggB] at hag ⊢
        obtain ⟨v', h1, h2⟩ := hl.get h
        refine ⟨v', ?_, h2⟩
        simp only [Array.getElem?_toList] at h1
        simp only [part, Sem.run_bind, plain, Result.andThen_ok, Bool.false_eq_true, if_false, h1, Sem.run_pure]
    · cases h
  · cases h

theorem partV_agg {agg : Bool} {o n : Nat} {x v : Value} (h : partV agg o n x = some v) : ∃ xs, x = .agg xs := by
  unfold partV at h
  split at h
  · exact ⟨_, rfl⟩
  · cases h

theorem VRel.of_agg {xs : Array Value} {xc : Value} (h : VRel ρ (.agg xs) xc) : ∃ cs, xc = .agg cs := by
  cases h; exact ⟨_, rfl⟩

theorem sim_field {t : TypeId} {f : Nat} {fd : Field} {x xc v : Value} (hf : fieldOf P t f = some fd) (hu : (P.underlying fd.type).isSome = true) (hx : VRel ρ x xc)
    (h : partV (isAggT P fd.type) fd.offset (P.cellsOf fd.type) x = some v) : Gives P (Instr.field t xc f) ρ w v := by
  obtain ⟨fs, hu', hfs⟩ := fieldOf_some hf
  obtain ⟨xs, rfl⟩ := partV_agg h
  obtain ⟨cs, rfl⟩ := hx.of_agg
  obtain ⟨vc, h1, h2⟩ := sim_part (w := w) hu hx h
  exact ⟨vc, by simp [Instr.field, run_underlying' w hu', hfs, asAgg, h1], h2⟩

theorem asIntOf_int (k : IntKind) (n : Int) : (asIntOf (.int k n)).run P w = .ok (k, n) w := rfl

theorem sim_indexP {t e : TypeId} {n : Nat} {x xc i ic v : Value} (hu : P.underlying t = some (.array n e)) (he : (P.info? e).isSome = true) (hx : VRel ρ x xc) (hi : VRel ρ i ic) (h : indexP n (P.cellsOf e) x i = some v) :
    Gives P (Instr.indexAt t xc ic) ρ w v := by
  unfold indexP at h
  split at h
  · rename_i b o k i
    split at h
    · rename_i hlt
      cases h
      cases hi
      cases hx with
      | ptr hb =>
        rename_i j
        obtain ⟨inf, hinf⟩ := Option.isSome_iff_exists.1 he
        refine ⟨_, ?_, .ptr' hb (co := o + j.d + i.toNat * P.cellsOf e) ?_⟩
        · simp only [Instr.indexAt, Sem.run_bind, asIntOf_int, Result.andThen_ok, run_underlying' w hu, Instr.sureAddr, Sem.run_pure, hlt, and_self, if_true, run_sizeOf' w hinf, add_none]
        · omega
    · cases h
  · cases h

theorem sim_indexS {t e : TypeId} {x xc i ic v : Value} (hu : P.underlying t = some (.slice e)) (he : (P.info? e).isSome = true) (hx : VRel ρ x xc) (hi : VRel ρ i ic) (h : indexS (P.cellsOf e) x i = some v) :
    Gives P (Instr.indexAt t xc ic) ρ w v := by
  unfold indexS at h
  split at h
  · rename_i b o m n cap k i
    split at h
    · rename_i hlt
      cases h
      cases hi
      obtain ⟨inf, hinf⟩ := Option.isSome_iff_exists.1 he
      have key : ∀ (inf' : Info) (co cap' : Nat), ρ b = some inf' → n ≤ cap → cap ≤ cap' → (co = o + inf'.d ∨ cap' = 0) → xc = .slice (some ⟨inf'.cb, co, none⟩) n cap' →
          Gives P (Instr.indexAt t xc (.int k i)) ρ w (.pointer (some ⟨b, o + i.toNat * P.cellsOf e, none⟩)) := by
        intro inf' co cap' hb hl hc ha e
        subst e
        have hco : co = o + inf'.d := ha.resolve_right (by omega)
        refine ⟨_, ?_, .ptr' hb (co := co + i.toNat * P.cellsOf e) (by omega)⟩
        simp only [Instr.indexAt, Sem.run_bind, asIntOf_int, Result.andThen_ok, run_underlying' w hu, Sem.run_pure, hlt, and_self, if_true, run_sizeOf' w hinf, add_none]
      cases hx with
      | sl hb hl ha => exact key _ _ _ hb hl (Nat.le_refl _) ha rfl
      | slo hb hl hc _ _ ha => exact key _ _ _ hb hl hc ha rfl
    · cases h
  · cases h

theorem sim_indexStr {t : TypeId} {x xc i ic v : Value} (hu : P.underlying t = some .string) (hx : VRel ρ x xc) (hi : VRel ρ i ic) (h : indexStr x i = some v) : Gives P (Instr.index t xc ic) ρ w v := by
  unfold indexStr at h
  split at h
  · split at h
    · rename_i h0
      split at h
      · rename_i c hc
        cases h; cases hx; cases hi
        refine ⟨_, ?_, .int _ _⟩
        simp only [Instr.index, Sem.run_bind, asIntOf_int, Result.andThen_ok, run_underlying' w hu, h0, if_true, hc, Sem.run_pure]
      · cases h
    · cases h
  · cases h

theorem sim_indexArr {t e : TypeId} {n : Nat} {x xc i ic v : Value} (hu : P.underlying t = some (.array n e)) (he : (P.underlying e).isSome = true) (hx : VRel ρ x xc) (hi : VRel ρ i ic)
    (h : indexArr n (isAggT P e) (P.cellsOf e) x i = some v) : Gives P (Instr.index t xc ic) ρ w v := by
  unfold indexArr at h
  split at h
  · rename_i k i
    split at h
    · rename_i hlt
      cases hi
      obtain ⟨xs, rfl⟩ := partV_agg h
      obtain ⟨cs, rfl⟩ := hx.of_agg
      obtain ⟨d, hd⟩ := Option.isSome_iff_exists.1 he
      obtain ⟨inf, hinf⟩ := info_of_underlying hd
      obtain ⟨vc, h1, h2⟩ := sim_part (w := w) he hx h
      refine ⟨vc, ?_, h2⟩
      simp only [Instr.index, Sem.run_bind, asIntOf_int, Result.andThen_ok, run_underlying' w hu, hlt, and_self, if_true, run_sizeOf' w hinf, h1]
    · cases h
  · cases h

theorem sim_int {op : BinOp} {k : IntKind} {a b : Int} {v : Value} (t : TypeId) (hs : op ≠ .shl ∧ op ≠ .shr) (h : intB op k a b = some v) : (binOp op t (.int k a) (.int k b)).run P w = .ok v w ∧ ∀ ρ : Emb, VRel ρ v v := by
  obtain ⟨h1, h2⟩ := hs
  cases op <;> simp only [intB] at h <;> try (cases h)
  all_goals first
    | exact absurd rfl h1
    | exact absurd rfl h2
    | exact ⟨by simp [binOp, Op.intArith, Op.intCmp, Op.intBits, Pure.pure, Sem.run], fun ρ => by first | exact .int _ _ | exact .bool _⟩
    | (split at h
       · cases h
       · rename_i hb
         cases h
         exact ⟨by simp [binOp, Op.intDiv, hb, Pure.pure, Sem.run], fun ρ => .int _ _⟩)

theorem sim_shift {op : BinOp} {k k' : IntKind} {a b : Int} {v : Value} (t : TypeId) (h : shiftB op k a b = some v) : (binOp op t (.int k a) (.int k' b)).run P w = .ok v w ∧ ∀ ρ : Emb, VRel ρ v v := by
  unfold shiftB at h
  split at h
  · cases h
  · rename_i hb
    split at h <;> cases h
    all_goals exact ⟨by simp [binOp, Op.shift, hb, Pure.pure, Sem.run], fun ρ => .int _ _⟩

theorem sim_str {op : BinOp} {a b : ByteArray} {v : Value} (t : TypeId) (h : strB op a b = some v) : (binOp op t (.string a) (.string b)).run P w = .ok v w ∧ ∀ ρ : Emb, VRel ρ v v := by
  unfold strB at h
  split at h
  · split at h
    · rename_i hl
      cases h
      refine ⟨?_, fun ρ => .str _⟩
      have : ¬ (((a.size + b.size : Nat) : Int) > IntKind.i64.max) := by simp [IntKind.max, IntKind.signed, IntKind.bits]; omega
      simp only [binOp, Op.stringOp, this, if_false]
      rfl
    · cases h
  all_goals (try (cases h; exact ⟨by simp [binOp, Op.stringOp, Pure.pure, Sem.run], fun ρ => .bool _⟩))
  · cases h

/-- Two values that are held against each other are, where that succeeds, alike in what counts. -/
theorem eq1_rel {x y xc yc : Value} {b : Bool} (hx : VRel ρ x xc) (hy : VRel ρ y yc) (h : eq1 x y = some b) : eq1 xc yc = some b := by
  unfold eq1 at h
  split at h <;> first
    | (cases h; done)
    | (cases hx <;> cases hy <;> first | exact h | (simpa [eq1] using h))

theorem descOk_rel {d : Option TypeDesc} {x xc : Value} (hx : VRel ρ x xc) (h : descOk d x = true) : descOk d xc = true := by
  cases hx with
  | junk v => simp [descOk, E.junk] at h
  | _ => first | exact h | (unfold descOk at h ⊢; split at h <;> first | rfl | (simp_all; done))

section
variable {d : Option TypeDesc}
theorem d_bool {a : Bool} (h : descOk d (.bool a) = true) : d = some .bool := by unfold descOk at h; split at h <;> simp_all
theorem d_int {k : IntKind} {a : Int} (h : descOk d (.int k a) = true) : ∃ q, d = some (.int q) := by unfold descOk at h; split at h <;> simp_all
theorem d_str {a : ByteArray} (h : descOk d (.string a) = true) : d = some .string := by unfold descOk at h; split at h <;> simp_all
theorem d_ptr {a : Option Addr} (h : descOk d (.pointer a) = true) : ∃ q, d = some (.pointer q) := by unfold descOk at h; split at h <;> simp_all
theorem d_sl {a : Option Addr} {l c : Nat} (h : descOk d (.slice a l c) = true) : ∃ q, d = some (.slice q) := by unfold descOk at h; split at h <;> simp_all
theorem d_map {a : Option Nat} (h : descOk d (.map a) = true) : ∃ q r, d = some (.map q r) := by unfold descOk at h; split at h <;> simp_all
theorem d_func {f : Fn} {xs ys : Array Value} (h : descOk d (.func f xs ys) = true) : ∃ q r s, d = some (.func q r s) := by unfold descOk at h; split at h <;> simp_all
theorem d_nilf (h : descOk d .nilFunc = true) : ∃ q r s, d = some (.func q r s) := by unfold descOk at h; split at h <;> simp_all
theorem d_if {t : TypeId} {v : Value} (h : descOk d (.iface t v) = true) : ∃ q, d = some (.interface q) := by unfold descOk at h; split at h <;> simp_all
theorem d_nili (h : descOk d .nilIface = true) : ∃ q, d = some (.interface q) := by unfold descOk at h; split at h <;> simp_all
end

theorem eq1_equalIn {t : TypeId} {x y : Value} {b : Bool} (d : Nat) (hx : descOk (P.underlying t) x = true) (h : eq1 x y = some b) : (Op.equalIn (d + 1) t x y).run P w = .ok b w := by
  unfold eq1 at h
  split at h
  · cases h; exact run_equalIn_bool w d t _ _ (d_bool hx)
  · obtain ⟨q, hu⟩ := d_int hx
    split at h
    · rename_i e; cases h; subst e; exact run_equalIn_int w d t _ _ _ _ hu
    · cases h
  · cases h; rw [run_equalIn_string w d t _ _ (d_str hx), beq_toListBytes]
  · cases h; obtain ⟨q, hu⟩ := d_ptr hx; simp only [Op.equalIn, Sem.run_bind, run_underlying' w hu, Result.andThen_ok, Sem.run_pure]
  · cases h; obtain ⟨q, hu⟩ := d_ptr hx; simp only [Op.equalIn, Sem.run_bind, run_underlying' w hu, Result.andThen_ok, Sem.run_pure]
  · cases h; obtain ⟨q, hu⟩ := d_sl hx; simp only [Op.equalIn, Sem.run_bind, run_underlying' w hu, Result.andThen_ok, Sem.run_pure]
  · cases h; obtain ⟨q, hu⟩ := d_sl hx; simp only [Op.equalIn, Sem.run_bind, run_underlying' w hu, Result.andThen_ok, Sem.run_pure]
  · cases h; obtain ⟨q, r, hu⟩ := d_map hx; simp only [Op.equalIn, Sem.run_bind, run_underlying' w hu, Result.andThen_ok, Sem.run_pure]
  · cases h; obtain ⟨q, r, hu⟩ := d_map hx; simp only [Op.equalIn, Sem.run_bind, run_underlying' w hu, Result.andThen_ok, Sem.run_pure]
  · cases h; obtain ⟨q, r, s, hu⟩ := d_nilf hx; simp only [Op.equalIn, Sem.run_bind, run_underlying' w hu, Result.andThen_ok, Sem.run_pure]
  · cases h; obtain ⟨q, r, s, hu⟩ := d_nilf hx; simp only [Op.equalIn, Sem.run_bind, run_underlying' w hu, Result.andThen_ok, Sem.run_pure]
  · cases h; obtain ⟨q, r, s, hu⟩ := d_func hx; simp only [Op.equalIn, Sem.run_bind, run_underlying' w hu, Result.andThen_ok, Sem.run_pure]
  · cases h; obtain ⟨q, hu⟩ := d_nili hx; simp only [Op.equalIn, Sem.run_bind, run_underlying' w hu, Result.andThen_ok, Sem.run_pure]
  · cases h; obtain ⟨q, hu⟩ := d_if hx; simp only [Op.equalIn, Sem.run_bind, run_underlying' w hu, Result.andThen_ok, Sem.run_pure]
  · cases h

theorem eqGuard_plain (op : BinOp) (t : TypeId) (x y : Operand) {a b : Value} {c : Bool} (h : eq1 a b = some c) : (eqGuard op t x y a b).run P w = .ok () w := by
  unfold eq1 at h
  unfold eqGuard
  split at h <;> (try (cases h; done))
  all_goals (split <;> rfl)

theorem keyOk_rel {k : KK} {x xc : Value} (hx : VRel ρ x xc) (h : keyOk k x = true) : xc = x := by
  cases hx <;> first | rfl | (cases k <;> simp [keyOk, E.junk] at h)

theorem fitsK_rel : ∀ {ks : List KK} {xs ys : List Value}, LRel ρ xs ys → fitsK ks xs = true → ys = xs
  | [], [], ys, hl, _ => by cases hl; rfl
  | [], x :: xs, _, _, h => by simp [fitsK] at h
  | k :: ks, [], _, _, h => by simp [fitsK] at h
  | k :: ks, x :: xs, _, hl, h => by
    cases hl with
    | cons h1 h2 =>
      simp only [fitsK, Bool.and_eq_true] at h
      rw [keyOk_rel h1 h.1, fitsK_rel h2 h.2]

theorem sim_eq {t : TypeId} {x y xc yc : Value} {b : Bool} (hx : VRel ρ x xc) (hy : VRel ρ y yc) (h : eqV P t x y = some b) :
    (∀ op ox oy, (eqGuard op t ox oy xc yc).run P w = .ok () w) ∧ (Op.equal t xc yc).run P w = .ok b w := by
  unfold eqV at h
  split at h
  · rename_i xs ys
    split at h
    · rename_i ks hk
      split at h
      · rename_i hc
        obtain ⟨f1, f2, f3, f4⟩ := hc
        obtain ⟨cs, rfl⟩ := hx.of_agg
        obtain ⟨ds, rfl⟩ := hy.of_agg
        have e1 := fitsK_rel (aggL hx) f1
        have e2 := fitsK_rel (aggL hy) f2
        have e1' : cs = xs := by apply Array.ext'; exact e1
        have e2' : ds = ys := by apply Array.ext'; exact e2
        subst e1'; subst e2'
        refine ⟨fun op ox oy => run_eqGuard_agg w op t ox oy _ _ f3, ?_⟩
        have := eqOk P 8 t ks hk 10000 (by omega) _ _ f1 f2 b h w
        simpa [valOf, isAggT, f4, Op.equal, Op.maxDepth] using this
      · cases h
    · cases h
  · rename_i b1 o1 b2 o2
    split at h
    · rename_i e hu
      split at h
      · rename_i hc
        obtain ⟨c1, c2, c3⟩ := hc
        obtain ⟨ti, c1⟩ := Option.isSome_iff_exists.1 c1
        subst c3
        cases h
        cases hx with
        | ptr hi =>
          rename_i i
          cases hy with
          | ptr hi' =>
            rename_i i'
            rw [hi] at hi'; cases hi'
            refine ⟨fun op ox oy => by cases op <;> rfl, ?_⟩
            have gen : ∀ d, (Op.equalIn (d + 1) t (.pointer (some ⟨i.cb, o1 + i.d, none⟩)) (.pointer (some ⟨i.cb, o2 + i.d, none⟩))).run P w = .ok (o1 == o2) w := by
              intro d
              have hb : ((⟨i.cb, o1 + i.d, none⟩ : Addr) == ⟨i.cb, o2 + i.d, none⟩) = (o1 == o2) := by
                by_cases ho : o1 = o2
                · subst ho; simp
                · have h1 : (o1 == o2) = false := by simpa using ho
                  rw [h1]
                  simp only [beq_eq_false_iff_ne, ne_eq, Addr.mk.injEq, true_and, and_true]
                  omega
              simp [Op.equalIn, run_underlying' w hu, run_sizeOf' w c1, c2, sameAddr, hb]
            exact gen 9999
      · cases h
    · cases h
  · split at h
    · rename_i hd
      have h' := eq1_rel hx hy h
      exact ⟨fun op ox oy => eqGuard_plain op t ox oy h', eq1_equalIn 9999 (descOk_rel hx hd.1) h'⟩
    · cases h

end Go.Proofs.YtepchknpgeopfaaGreatDoor.E
