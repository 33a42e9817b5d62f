/-
  SEAT E: the law's meaning is true.
-/
import Derived.Test.YtepchknpgeopfaaGreatDoorSim2
set_option linter.unusedVariables false
set_option linter.unusedSimpArgs false
namespace Go.Proofs.YtepchknpgeopfaaGreatDoor.E
open Go Go.Proofs
set_option maxRecDepth 100000

/-- What lay lies as it lay. -/
def Kp (H H' : AH) : Prop := H.next ≤ H'.next ∧ ∀ b, b < H.next → H'.at_ b = H.at_ b

theorem Kp.refl (H : AH) : Kp H H := ⟨Nat.le_refl _, fun _ _ => rfl⟩
theorem Kp.trans {A B C : AH} (h : Kp A B) (k : Kp B C) : Kp A C := ⟨Nat.le_trans h.1 k.1, fun b hb => (k.2 b (Nat.lt_of_lt_of_le hb h.1)).trans (h.2 b hb)⟩
theorem Kp.lay (H : AH) (rows : List RowB) : Kp H (H.lay rows) := ⟨by simp [AH.lay], fun b hb => lay_old hb⟩
theorem Kp.push (H : AH) (x : Blk) : Kp H (H.push x) := ⟨by simp [AH.push], fun b hb => by simp only [AH.push]; rw [if_neg (by omega)]⟩

theorem bs35 (H : AH) : ∃ e, buildSliceM Tryz.prog none 35 1 [(0, .slice none 0 0)] H = some (.slice (some ⟨H.next, 0, none⟩) 1 1, H.push (.row e [.slice none 0 0] true)) := by
  refine ⟨45, ?_⟩
  kernel_rfl

theorem Kp.words {H H' : AH} (h : Kp H H') {b n : Nat} {ws : List ByteArray} (hb : b < H.next) (hw : Words H b n ws) : Words H' b n ws := by
  obtain ⟨e, cs, rw', h1, h2⟩ := hw
  exact ⟨e, cs, rw', by rw [h.2 b hb]; exact h1, h2⟩

theorem inner_ok (a0 a1 a2 a3 a4 : Value) (s : ByteArray) (H : AH) : ∃ e H', inner3 (den E3) [a0, a1, a2, a3, a4, .string s] H = some ((e, [a0, a1, a2, a3, a4]), H') ∧ (e = .normal ∨ e = .exit 3) ∧ Kp H H' := by
  cases hs : isN s with
  | true =>
    refine ⟨.exit 3, H.lay crows6, ?_, .inr rfl, Kp.lay _ _⟩
    unfold inner3
    refine (bind_eq (d8 s H)).trans ?_
    rw [hs]
    rfl
  | false =>
    obtain ⟨H1, hH1⟩ : ∃ H1, H1 = H.lay crows6 := ⟨_, rfl⟩
    obtain ⟨e1, b1⟩ := bs35 H1
    obtain ⟨H2, hH2⟩ : ∃ H2, H2 = (H1.push (.row e1 [.slice none 0 0] true)).lay crows5 := ⟨_, rfl⟩
    obtain ⟨e2, b2⟩ := bs35 H2
    obtain ⟨H3, hH3⟩ : ∃ H3, H3 = (H2.push (.row e2 [.slice none 0 0] true)).lay crows5 := ⟨_, rfl⟩
    obtain ⟨e3, b3⟩ := bs35 H3
    obtain ⟨H4, hH4⟩ : ∃ H4, H4 = (H3.push (.row e3 [.slice none 0 0] true)).lay crows5 := ⟨_, rfl⟩
    have k1 : Kp H H1 := hH1 ▸ Kp.lay _ _
    have k2 : Kp H1 H2 := hH2 ▸ (Kp.push _ _).trans (Kp.lay _ _)
    have k3 : Kp H2 H3 := hH3 ▸ (Kp.push _ _).trans (Kp.lay _ _)
    have k4 : Kp H3 H4 := hH4 ▸ (Kp.push _ _).trans (Kp.lay _ _)
    refine ⟨.normal, H4.lay crows5, ?_, .inl rfl, (((k1.trans k2).trans k3).trans k4).trans (Kp.lay _ _)⟩
    unfold inner3
    refine (bind_eq (d8 s H)).trans ?_
    rw [hs, ← hH1]
    simp only [condB, List.getD_cons_zero, List.getD_cons_succ]
    refine (bind_eq b1).trans ?_
    refine (bind_eq (d9 hs _ _ _ _ _)).trans ?_
    rw [← hH2]
    refine (bind_eq (a := .bool false) (H1 := H2) rfl).trans ?_
    refine (bind_eq (a := .int .i64 5) (H1 := H2) rfl).trans ?_
    refine (bind_eq b2).trans ?_
    refine (bind_eq (d10 hs _ _ _ _ _)).trans ?_
    rw [← hH3]
    refine (bind_eq (a := .int .i64 0) (H1 := H3) rfl).trans ?_
    refine (bind_eq (a := .int .i64 5) (H1 := H3) rfl).trans ?_
    refine (bind_eq b3).trans ?_
    refine (bind_eq (d11 hs _ _ _ _ _)).trans ?_
    rw [← hH4]
    refine (bind_eq (a := .slice none 0 0) (H1 := H4) rfl).trans ?_
    refine (bind_eq (a := .int .i64 5) (H1 := H4) rfl).trans ?_
    refine (bind_eq (d12 hs _ _ _)).trans ?_
    kernel_rfl

/-! ### The rounds -/

/-- The table's row: at each seventh cell a string. -/
def TableAt (H : AH) (b : Nat) : Prop := ∃ (e : TypeId) (cs : List Value) (rw : Bool), H.at_ b = some (.row e cs rw) ∧ ∀ k, k < 21 → ∃ s, cs[k * 7]? = some (Value.string s)

theorem Kp.table {H H' : AH} (h : Kp H H') {b : Nat} (hb : b < H.next) (ht : TableAt H b) : TableAt H' b := by
  obtain ⟨e, cs, rw', h1, h2⟩ := ht
  exact ⟨e, cs, rw', by rw [h.2 b hb]; exact h1, h2⟩

def isStr : Value → Bool
  | .string _ => true
  | _ => false

theorem sevenths : (match crows7 with
    | r :: _ => (List.range 21).all fun k => match r.cs[k * 7]? with
      | some v => isStr v
      | none => false
    | [] => false) = true := by kernel_rfl

theorem table7 (H : AH) : TableAt (H.lay crows7) H.next := by
  have h7 := sevenths
  cases hc : crows7 with
  | nil => rw [hc] at h7; cases h7
  | cons r rows =>
    rw [hc] at h7
    refine ⟨r.e, r.cs.map (mapS (H.next + ·)), r.rw, lay_first, fun k hk => ?_⟩
    have := (List.all_eq_true.1 h7) k (List.mem_range.2 hk)
    cases hv : r.cs[k * 7]? with
    | none => rw [hv] at this; cases this
    | some v =>
      rw [hv] at this
      cases v <;> first | (cases this; done) | skip
      exact ⟨_, by rw [List.getElem?_map, hv]; rfl⟩

theorem len25 {H : AH} {b n c : Nat} {m : Option Nat} : lenT (Tryz.prog.underlying 25) (.slice (some ⟨b, 0, m⟩) n c) H = some (.int .i64 n, H) := by
  have e : descOk (Tryz.prog.underlying 25) (.slice (some ⟨b, 0, m⟩) n c) = true := by
    have : Tryz.prog.underlying 25 = some (.slice 29) := by kernel_rfl
    rw [this]; rfl
  unfold lenT
  rw [if_pos e]; rfl

theorem load9 {H : AH} {b i : Nat} {e : TypeId} {cs : List Value} {rw' : Bool} {s : ByteArray} (h1 : H.at_ b = some (.row e cs rw')) (h2 : cs[i]? = some (.string s)) : load Tryz.prog 9 (.pointer (some ⟨b, i, none⟩)) H = some (.string s, H) := by
  have e1 : isAggT Tryz.prog 9 = false := by kernel_rfl
  have e2 : (Tryz.prog.underlying 9).isSome = true := by kernel_rfl
  unfold load
  rw [e1]
  simp only [Bool.false_eq_true, if_false, e2, if_true, load1, rowAt, h1, h2]

theorem wrapU_range (n : Int) : 0 ≤ IntKind.u64.wrap n ∧ IntKind.u64.wrap n < 18446744073709551616 := by
  unfold IntKind.wrap
  have h : (2 ^ IntKind.u64.bits : Int) = 18446744073709551616 := rfl
  have h2 : IntKind.u64.signed = false := rfl
  simp only [h2, Bool.false_and, Bool.false_eq_true, if_false, h]
  omega

theorem step3b_ok (n : Int) (s : ByteArray) (b : Nat) (r : Nat) (hr : r < 2) (H : AH) (hb : b < H.next) (ht : TableAt H b) :
    ∃ H', step3b (den E3) [.int .i64 n, .string s, .bool false, .slice (some ⟨b, 0, none⟩) 21 21, .int .i64 r] H
      = some ((.normal, [.int .i64 n, .string s, .bool false, .slice (some ⟨b, 0, none⟩) 21 21, .int .i64 ((r + 1 : Nat) : Int)]), H') ∧ Kp H H' := by
  -- the name of this round
  have hname : ∃ x : ByteArray, (M.bind (M.lift (binV Tryz.prog .eql 3 (.int .i64 r) (.int .i64 (1)))) fun t23 => M.bind (condB t23 (M.bind (convInt .u64 (.int .i64 n)) fun t24 => M.bind (lenT (Tryz.prog.underlying 25) (.slice (some ⟨b, 0, none⟩) 21 21)) fun t25 => M.bind (convInt .u64 t25) fun t26 => M.bind (M.lift (binV Tryz.prog .rem 30 t24 t26)) fun t27 => M.bind (convInt .i64 t27) fun t28 => M.bind (M.lift (indexS 7 (.slice (some ⟨b, 0, none⟩) 21 21) t28)) fun t29 => M.bind (M.lift (addP 0 t29)) fun t30 => M.bind (load Tryz.prog 9 t30) fun t31 => M.pure (.normal, [.int .i64 n, .string s, .bool false, .slice (some ⟨b, 0, none⟩) 21 21, .int .i64 r, t31])) (M.pure (.normal, [.int .i64 n, .string s, .bool false, .slice (some ⟨b, 0, none⟩) 21 21, .int .i64 r, .string s])) : M R) fun r32 => onlyN r32.1 (inner3 (den E3) r32.2)) H = inner3 (den E3) [.int .i64 n, .string s, .bool false, .slice (some ⟨b, 0, none⟩) 21 21, .int .i64 r, .string x] H := by
    have hr' : r = 0 ∨ r = 1 := by omega
    rcases hr' with rfl | rfl
    · exact ⟨s, rfl⟩
    · obtain ⟨e, cs, rw', h1, h2⟩ := ht
      obtain ⟨u1, u2⟩ := wrapU_range n
      have hm1 : 0 ≤ (IntKind.u64.wrap n).tmod 21 := Int.tmod_nonneg _ u1
      have hm2 : (IntKind.u64.wrap n).tmod 21 < 21 := Int.tmod_lt_of_pos _ (by omega)
      obtain ⟨k, hk⟩ : ∃ k : Nat, (IntKind.u64.wrap n).tmod 21 = k := ⟨((IntKind.u64.wrap n).tmod 21).toNat, by omega⟩
      have hk21 : k < 21 := by omega
      obtain ⟨x, hx⟩ := h2 k hk21
      refine ⟨x, ?_⟩
      refine (bind_eq (a := .bool true) (H1 := H) rfl).trans ?_
      have hc : (condB (.bool true) (M.bind (convInt .u64 (.int .i64 n)) fun t24 => M.bind (lenT (Tryz.prog.underlying 25) (.slice (some ⟨b, 0, none⟩) 21 21)) fun t25 => M.bind (convInt .u64 t25) fun t26 => M.bind (M.lift (binV Tryz.prog .rem 30 t24 t26)) fun t27 => M.bind (convInt .i64 t27) fun t28 => M.bind (M.lift (indexS 7 (.slice (some ⟨b, 0, none⟩) 21 21) t28)) fun t29 => M.bind (M.lift (addP 0 t29)) fun t30 => M.bind (load Tryz.prog 9 t30) fun t31 => M.pure (.normal, [.int .i64 n, .string s, .bool false, .slice (some ⟨b, 0, none⟩) 21 21, .int .i64 (1 : Nat), t31])) (M.pure (.normal, [.int .i64 n, .string s, .bool false, .slice (some ⟨b, 0, none⟩) 21 21, .int .i64 (1 : Nat), .string s])) : M R) H = some ((.normal, [.int .i64 n, .string s, .bool false, .slice (some ⟨b, 0, none⟩) 21 21, .int .i64 (1 : Nat), .string x]), H) := by
        simp only [condB]
        refine (bind_eq (a := .int .u64 (IntKind.u64.wrap n)) (H1 := H) rfl).trans ?_
        refine (bind_eq len25).trans ?_
        refine (bind_eq (a := .int .u64 21) (H1 := H) (by kernel_rfl)).trans ?_
        have hrem : binV Tryz.prog .rem 30 (.int .u64 (IntKind.u64.wrap n)) (.int .u64 21) = some (.int .u64 k) := by
          show (if (21 : Int) = 0 then none else some (Value.int .u64 ((IntKind.u64.wrap n).tmod 21))) = _
          rw [if_neg (by omega), hk]
        refine (bind_eq (a := .int .u64 k) (H1 := H) (by simp only [M.lift, hrem])).trans ?_
        refine (bind_eq (a := .int .i64 k) (H1 := H) (by show some (Value.int .i64 (IntKind.i64.wrap (k : Int)), H) = _; rw [wrapN k (by omega)])).trans ?_
        have hix : indexS 7 (.slice (some ⟨b, 0, none⟩) 21 21) (.int .i64 k) = some (.pointer (some ⟨b, k * 7, none⟩)) := by
          simp only [indexS]
          rw [if_pos ⟨by omega, by omega⟩]
          simp
        refine (bind_eq (a := .pointer (some ⟨b, k * 7, none⟩)) (H1 := H) (by simp only [M.lift, hix])).trans ?_
        refine (bind_eq (a := .pointer (some ⟨b, k * 7, none⟩)) (H1 := H) rfl).trans ?_
        exact (bind_eq (load9 h1 hx)).trans rfl
      exact (bind_eq hc).trans rfl
  obtain ⟨x, hx⟩ := hname
  obtain ⟨e, H', hi, he, hk⟩ := inner_ok (.int .i64 n) (.string s) (.bool false) (.slice (some ⟨b, 0, none⟩) 21 21) (.int .i64 r) x H
  refine ⟨H', ?_, hk⟩
  have h1 : M.lift (binV Tryz.prog .lss 3 (.int .i64 r) (.int .i64 2)) H = some (.bool true, H) := by
    have := lss r 2
    simp only [M.lift]
    rw [show ((2 : Nat) : Int) = 2 from rfl] at this
    rw [this]
    simp [hr]
  unfold step3b
  refine (bind_eq h1).trans ?_
  simp only [condB, List.getD_cons_zero, List.getD_cons_succ]
  refine (bind_eq (hx.trans hi)).trans ?_
  have h2 : M.lift (binV Tryz.prog .add 3 (.int .i64 r) (.int .i64 1)) H' = some (.int .i64 ((r + 1 : Nat) : Int), H') := by
    simp only [M.lift, add1 r (by omega)]
  rcases he with rfl | rfl
  · simp only [show unblk 3 Ex.normal = .normal from rfl, exK, List.getD_cons_zero, List.getD_cons_succ]
    exact (bind_eq h2).trans rfl
  · simp only [show unblk 3 (Ex.exit 3) = .normal from rfl, exK, List.getD_cons_zero, List.getD_cons_succ]
    exact (bind_eq h2).trans rfl

/-! ### The two lists of names -/

theorem Kp.skip (H : AH) (n : Nat) : Kp H (H.skip n) := ⟨by simp [AH.skip], fun b hb => rfl⟩

theorem same_str (s : ByteArray) : binV Tryz.prog .neq 9 (.string s) (.string s) = some (.bool false) := by
  show some (Value.bool !(s.toList == s.toList)) = _
  simp

theorem loopA (a0 a1 : Value) (b1 b2 c1 c2 : Nat) (m1 m2 : Option Nat) : ∀ (k i : Nat) (H : AH), i + k = 16 → b1 < H.next → b2 < H.next → Words H b1 16 wsN → Words H b2 16 wsN →
    ∃ H', iter step3a (k + 1) [a0, a1, .bool false, .slice (some ⟨b1, 0, m1⟩) 16 c1, .slice (some ⟨b2, 0, m2⟩) 16 c2, .int .i64 i] H
      = some ((.exit 0, [a0, a1, .bool false, .slice (some ⟨b1, 0, m1⟩) 16 c1, .slice (some ⟨b2, 0, m2⟩) 16 c2, .int .i64 (16 : Nat)]), H') ∧ Kp H H' := by
  intro k
  induction k with
  | zero =>
    intro i H hi _ _ _ _
    have : i = 16 := by omega
    subst this
    refine ⟨H, ?_, Kp.refl _⟩
    unfold iter step3a
    simp only [List.getD_cons_zero, List.getD_cons_succ, M.bind, M.lift, len23, lss, Nat.lt_irrefl, decide_false, condB, M.pure]
  | succ k ih =>
    intro i H hi hb1 hb2 hw1 hw2
    have hlt : i < 16 := by omega
    have hil : i < wsN.length := by rw [wsN_len]; exact hlt
    have hwi : wsN[i]? = some wsN[i] := List.getElem?_eq_getElem hil
    have hk := Kp.skip H 9
    obtain ⟨H', h1, h2⟩ := ih (i + 1) (H.skip 9) (by omega) (Nat.lt_of_lt_of_le hb1 hk.1) (Nat.lt_of_lt_of_le hb2 hk.1) (hk.words hb1 hw1) (hk.words hb2 hw2)
    refine ⟨H', ?_, hk.trans h2⟩
    unfold iter
    have hst : step3a [a0, a1, .bool false, .slice (some ⟨b1, 0, m1⟩) 16 c1, .slice (some ⟨b2, 0, m2⟩) 16 c2, .int .i64 i] H
        = some ((.normal, [a0, a1, .bool false, .slice (some ⟨b1, 0, m1⟩) 16 c1, .slice (some ⟨b2, 0, m2⟩) 16 c2, .int .i64 ((i + 1 : Nat) : Int)]), H.skip 9) := by
      unfold step3a
      simp only [List.getD_cons_zero, List.getD_cons_succ]
      refine (bind_eq len23).trans ?_
      have hl : M.lift (binV Tryz.prog .lss 3 (.int .i64 i) (.int .i64 (16 : Nat))) H = some (.bool true, H) := by
        simp only [M.lift, lss, hlt, decide_true]
      refine (bind_eq hl).trans ?_
      simp only [condB]
      refine (bind_eq (a := H.next) (H1 := H.skip 9) rfl).trans ?_
      refine (bind_eq (a := .pointer (some ⟨b1, i, none⟩)) (H1 := H.skip 9) (by simp only [M.lift, at_ix (b := b1) (m := 0) (n := 16) (c := c1) (mm := m1) hlt])).trans ?_
      refine (bind_eq ((hk.words hb1 hw1).read hwi)).trans ?_
      refine (bind_eq (a := .pointer (some ⟨b2, i, none⟩)) (H1 := H.skip 9) (by simp only [M.lift, at_ix (b := b2) (m := 0) (n := 16) (c := c2) (mm := m2) hlt])).trans ?_
      refine (bind_eq ((hk.words hb2 hw2).read hwi)).trans ?_
      refine (bind_eq (a := .bool false) (H1 := H.skip 9) (by simp only [M.lift, same_str])).trans ?_
      simp only [condB]
      exact (bind_eq (a := .int .i64 ((i + 1 : Nat) : Int)) (H1 := H.skip 9) (by simp only [M.lift, add1 i (by omega)])).trans rfl
    refine (bind_eq hst).trans ?_
    exact h1

/-- THE LAW's MEANING: true. -/
theorem d3 (n : Int) (s : ByteArray) (H : AH) : ∃ H', den E3 3 [.int .i64 n, .string s] H = some (.bool true, H') := by
  obtain ⟨H1, hH1⟩ : ∃ H1, H1 = (H.lay []).lay crows5 := ⟨_, rfl⟩
  obtain ⟨H2, hH2⟩ : ∃ H2, H2 = H1.lay crows6 := ⟨_, rfl⟩
  have k1 : Kp (H.lay []) H1 := hH1 ▸ Kp.lay _ _
  have k2 : Kp H1 H2 := hH2 ▸ Kp.lay _ _
  have n1 : (H.lay []).next < H1.next := by rw [hH1]; show (H.lay []).next < (H.lay []).next + crows5.length; have : crows5.length = 1 := by kernel_rfl
                                            omega
  have n2 : H1.next < H2.next := by rw [hH2]; show H1.next < H1.next + crows6.length; have : crows6.length = 1 := by kernel_rfl
                                    omega
  have w1 : Words H2 (H.lay []).next 16 wsN := k2.words n1 (hH1 ▸ words5 _)
  have w2 : Words H2 H1.next 16 wsN := hH2 ▸ words6 _
  obtain ⟨H3, hA, k3⟩ := loopA (.int .i64 n) (.string s) (H.lay []).next H1.next 21 16 (some 1) none 16 0 H2 (by omega) (Nat.lt_trans n1 n2) n2 w1 w2
  obtain ⟨H4, hH4⟩ : ∃ H4, H4 = H3.lay crows7 := ⟨_, rfl⟩
  have n4 : H3.next < H4.next := by rw [hH4]; show H3.next < H3.next + crows7.length; have : crows7.length = 19 := by kernel_rfl
                                    omega
  have t4 : TableAt H4 H3.next := hH4 ▸ table7 _
  obtain ⟨H5, s1, k5⟩ := step3b_ok n s H3.next 0 (by omega) H4 n4 t4
  obtain ⟨H6, s2, k6⟩ := step3b_ok n s H3.next 1 (by omega) H5 (Nat.lt_of_lt_of_le n4 k5.1) (k5.table n4 t4)
  have hB : iter (step3b (den E3)) 3 [.int .i64 n, .string s, .bool false, .slice (some ⟨H3.next, 0, none⟩) 21 21, .int .i64 (0 : Nat)] H4
      = some ((.exit 2, [.int .i64 n, .string s, .bool false, .slice (some ⟨H3.next, 0, none⟩) 21 21, .int .i64 (2 : Nat)]), H6) := by
    refine (bind_eq s1).trans ?_
    refine (bind_eq s2).trans ?_
    rfl
  refine ⟨H6, den_of_body (E := E3) (fn := Tryz.f3) (ann := ann_3) (by kernel_rfl) (by kernel_rfl) (by kernel_rfl) (l3 _ _ _ _) ?_⟩
  refine (bind_eq (d4 H)).trans ?_
  refine (bind_eq (a := .bool false) (H1 := H.lay []) rfl).trans ?_
  simp only [condB]
  refine (bind_eq (d5 _)).trans ?_
  rw [← hH1]
  refine (bind_eq (d6 _)).trans ?_
  rw [← hH2]
  refine (bind_eq len23).trans ?_
  refine (bind_eq len23).trans ?_
  refine (bind_eq (a := .bool false) (H1 := H2) rfl).trans ?_
  simp only [condB]
  refine (bind_eq (lpD_iff.2 ⟨17, hA⟩)).trans ?_
  simp only [show unblk 0 (Ex.exit 0) = .normal from rfl, exK, List.getD_cons_zero, List.getD_cons_succ]
  refine (bind_eq (d7 _)).trans ?_
  rw [← hH4]
  refine (bind_eq (lpD_iff.2 ⟨3, hB⟩)).trans ?_
  rfl

end Go.Proofs.YtepchknpgeopfaaGreatDoor.E
