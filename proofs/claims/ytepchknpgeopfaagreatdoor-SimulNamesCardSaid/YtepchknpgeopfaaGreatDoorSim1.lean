/-
  SEAT E: what simul answers of a name that is none of a structure with a content.
-/
import Derived.Test.YtepchknpgeopfaaGreatDoorClosed1
import Derived.Test.YtepchknpgeopfaaGreatDoorL1E
import Derived.IntWalk
set_option linter.unusedVariables false
set_option linter.unusedSimpArgs false
namespace Go.Proofs.YtepchknpgeopfaaGreatDoor.E
open Go Go.Proofs
set_option maxRecDepth 100000

def giveB (rows : List RowB) (v : Value) (a : List Value) : M Value :=
  match a with
  | [] => giveM rows v
  | _ => M.fail

def prim3 (f : FuncId) : Option (List Value → M Value) :=
  match f with
  | 4 => some (giveB [] (.bool true))
  | 5 => some (giveB crows5 cval5)
  | 6 => some (giveB crows6 cval6)
  | 7 => some (giveB crows7 cval7)
  | f => prim0 f

noncomputable def E3 : Env := { P := Tryz.prog, ann := annS, prim := prim3 }

theorem bind_eq {α β : Type} {x : M α} {f : α → M β} {H H1 : AH} {a : α} (h : x H = some (a, H1)) : M.bind x f H = f a H1 := by
  show (match x H with | some (a, H') => f a H' | none => none) = _
  rw [h]

theorem d4 (H : AH) : den E3 4 [] H = some (.bool true, H.lay []) := den_prim (p := giveB [] (.bool true)) rfl rfl
theorem d5 (H : AH) : den E3 5 [] H = some (.slice (some ⟨H.next, 0, some 1⟩) 16 21, H.lay crows5) := den_prim (p := giveB crows5 cval5) rfl rfl
theorem d6 (H : AH) : den E3 6 [] H = some (.slice (some ⟨H.next, 0, none⟩) 16 16, H.lay crows6) := den_prim (p := giveB crows6 cval6) rfl rfl
theorem d7 (H : AH) : den E3 7 [] H = some (.slice (some ⟨H.next, 0, none⟩) 21 21, H.lay crows7) := den_prim (p := giveB crows7 cval7) rfl rfl

/-- The first row that is laid. -/
theorem lay_first {H : AH} {r : RowB} {rows : List RowB} : (H.lay (r :: rows)).at_ H.next = some (r.blk (H.next + ·)) := by
  simp [AH.lay]

theorem lay_old {H : AH} {rows : List RowB} {b : Nat} (h : b < H.next) : (H.lay rows).at_ b = H.at_ b := by
  simp only [AH.lay]; rw [if_neg (by omega)]

/-- The words of a row: its first n cells are these strings. -/
def Words (H : AH) (b n : Nat) (ws : List ByteArray) : Prop := ∃ (e : TypeId) (cs : List Value) (rw : Bool), H.at_ b = some (.row e cs rw) ∧ ws.length = n ∧ ∀ (i : Nat) (w : ByteArray), ws[i]? = some w → cs[i]? = some (Value.string w)

theorem Words.read {H : AH} {b n : Nat} {ws : List ByteArray} (h : Words H b n ws) {i : Nat} {w : ByteArray} (hi : ws[i]? = some w) : load Tryz.prog 9 (.pointer (some ⟨b, i, none⟩)) H = some (.string w, H) := by
  obtain ⟨e, cs, rw', h1, h2, h3⟩ := h
  have e1 : isAggT Tryz.prog 9 = false := by kernel_rfl
  have e2 : (Tryz.prog.underlying 9).isSome = true := by kernel_rfl
  unfold load
  rw [e1]
  simp only [Bool.false_eq_true, if_false, e2, if_true, load1, rowAt, h1, h3 i w hi]

theorem wrapN (n : Nat) (h : n < 4611686018427387904) : IntKind.i64.wrap (n : Int) = n := by
  unfold IntKind.wrap
  have h1 : (n : Int) % (2 ^ IntKind.i64.bits : Int) = n := by
    apply Int.emod_eq_of_lt
    · omega
    · have : (2 ^ IntKind.i64.bits : Int) = 18446744073709551616 := rfl
      omega
  simp only [h1]
  have h2 : (2 ^ (IntKind.i64.bits - 1) : Int) = 9223372036854775808 := rfl
  have h3 : ¬ ((n : Int) ≥ 2 ^ (IntKind.i64.bits - 1)) := by rw [h2]; omega
  simp [h3]

theorem add1 (n : Nat) (h : n < 4611686018427387000) : binV Tryz.prog .add 3 (.int .i64 n) (.int .i64 1) = some (.int .i64 ((n + 1 : Nat) : Int)) := by
  show (if IntKind.i64 = IntKind.i64 then intB .add .i64 n 1 else none) = _
  rw [if_pos rfl]
  show some (Value.int .i64 (IntKind.i64.wrap ((n : Int) + 1))) = _
  have := wrapN (n + 1) (by omega)
  rw [show ((n : Int) + 1) = ((n + 1 : Nat) : Int) from by omega, this]

theorem lss (a b : Nat) : binV Tryz.prog .lss 3 (.int .i64 a) (.int .i64 b) = some (.bool (decide (a < b))) := by
  show some (Value.bool ((a : Int) < b)) = _
  by_cases h : a < b
  · have : (a : Int) < b := by omega
    simp [h, this]
  · have : ¬ (a : Int) < b := by omega
    simp [h, this]

theorem at_ix {b m n c i : Nat} {mm : Option Nat} (h : i < n) : indexS 1 (.slice (some ⟨b, 0, mm⟩) n c) (.int .i64 i) = some (.pointer (some ⟨b, i, none⟩)) := by
  simp only [indexS]
  rw [if_pos ⟨by omega, by omega⟩]
  simp

/-- Index of a string that is not among the words: -1. -/
theorem d28 {H : AH} {b n c : Nat} {m : Option Nat} {ws : List ByteArray} {s : ByteArray} (hw : Words H b n ws) (hn : n < 1000000) (hs : ∀ w ∈ ws, (s.toList == w.toList) = false) :
    den E3 28 [.slice (some ⟨b, 0, m⟩) n c, .string s] H = some (.int .i64 (-1), H) := by
  refine den_of_body (E := E3) (fn := Tryz.f28) (ann := ann_28) (by kernel_rfl) (by kernel_rfl) (by kernel_rfl) (l1_28 _ _ _ _) ?_
  have hlen : lenT (Tryz.prog.underlying 23) (.slice (some ⟨b, 0, m⟩) n c) H = some (.int .i64 n, H) := by
    have e : descOk (Tryz.prog.underlying 23) (.slice (some ⟨b, 0, m⟩) n c) = true := by
      have : Tryz.prog.underlying 23 = some (.slice 9) := by kernel_rfl
      rw [this]; rfl
    unfold lenT
    rw [if_pos e]; rfl
  rw [bind_eq hlen]
  -- the loop
  have key : ∀ (k i : Nat), i + k = n → iter (fun vs2 => M.bind (M.lift (binV Tryz.prog .lss 3 (vs2.getD 4 junk) (vs2.getD 3 junk))) fun t3 => condB t3 (M.bind (M.lift (indexS 1 (vs2.getD 0 junk) (vs2.getD 4 junk))) fun t4 => M.bind (load Tryz.prog 9 t4) fun t5 => M.bind (M.lift (binV Tryz.prog .eql 9 (vs2.getD 1 junk) t5)) fun t6 => condB t6 (M.pure (.ret, [(vs2.getD 0 junk), (vs2.getD 1 junk), (vs2.getD 4 junk), (vs2.getD 3 junk), (vs2.getD 4 junk)])) (M.bind (M.lift (binV Tryz.prog .add 3 (vs2.getD 4 junk) (.int .i64 (1)))) fun t7 => M.pure (.normal, [(vs2.getD 0 junk), (vs2.getD 1 junk), (vs2.getD 2 junk), (vs2.getD 3 junk), t7]))) (M.pure (.exit 0, [(vs2.getD 0 junk), (vs2.getD 1 junk), (vs2.getD 2 junk), (vs2.getD 3 junk), (vs2.getD 4 junk)])))
      (k + 1) [.slice (some ⟨b, 0, m⟩) n c, .string s, .int .i64 0, .int .i64 n, .int .i64 i] H
      = some ((.exit 0, [.slice (some ⟨b, 0, m⟩) n c, .string s, .int .i64 0, .int .i64 n, .int .i64 n]), H) := by
    intro k
    induction k with
    | zero =>
      intro i hi
      have : i = n := by omega
      subst this
      unfold iter
      simp only [List.getD_cons_zero, List.getD_cons_succ, M.bind, M.lift, lss, Nat.lt_irrefl, decide_false, condB, M.pure]
    | succ k ih =>
      intro i hi
      have hlt : i < n := by omega
      obtain ⟨w, hwi⟩ : ∃ w, ws[i]? = some w := by
        obtain ⟨_, _, _, _, h2, _⟩ := hw
        exact ⟨ws[i], List.getElem?_eq_getElem (by omega)⟩
      have hne := hs w (List.mem_of_getElem? hwi)
      have he : binV Tryz.prog .eql 9 (.string s) (.string w) = some (.bool false) := by
        show some (Value.bool (s.toList == w.toList)) = _
        rw [hne]
      unfold iter
      simp only [List.getD_cons_zero, List.getD_cons_succ, M.bind, M.lift, lss, hlt, decide_true, condB, at_ix (b := b) (m := 0) (n := n) (c := c) (mm := m) hlt, hw.read hwi, he, add1 i (by omega), M.pure]
      exact ih (i + 1) (by omega)
  have hl := lpD_iff.2 ⟨n + 1, key n 0 (by omega)⟩
  exact (bind_eq hl).trans rfl

/-! ### The names -/

def strOf : Value → ByteArray
  | .string s => s
  | _ => .empty

/-- The names of the structures with a content. -/
def wsN : List ByteArray := ((crows6.map fun r => r.cs.map strOf).flatten)

theorem wsN_len : wsN.length = 16 := by kernel_rfl

theorem blk6 (g : Nat → Nat) : crows6.map (·.blk g) = [.row 9 (wsN.map .string) true] := by kernel_rfl
theorem blk5 (g : Nat → Nat) : crows5.map (·.blk g) = [.row 9 (wsN.map .string ++ List.replicate 5 (.string .empty)) true] := by kernel_rfl

theorem words6 (H : AH) : Words (H.lay crows6) H.next 16 wsN := by
  have h : (H.lay crows6).at_ H.next = some (.row 9 (wsN.map .string) true) := by
    have hb := blk6 (H.next + ·)
    cases hc : crows6 with
    | nil => rw [hc] at hb; cases hb
    | cons r rows =>
      rw [hc] at hb
      simp only [List.map_cons, List.cons.injEq] at hb
      rw [lay_first, hb.1]
  exact ⟨9, wsN.map .string, true, h, wsN_len, fun i w hw => by rw [List.getElem?_map, hw]; rfl⟩

theorem words5 (H : AH) : Words (H.lay crows5) H.next 16 wsN := by
  have h : (H.lay crows5).at_ H.next = some (.row 9 (wsN.map .string ++ List.replicate 5 (.string .empty)) true) := by
    have hb := blk5 (H.next + ·)
    cases hc : crows5 with
    | nil => rw [hc] at hb; cases hb
    | cons r rows =>
      rw [hc] at hb
      simp only [List.map_cons, List.cons.injEq] at hb
      rw [lay_first, hb.1]
  refine ⟨9, _, true, h, wsN_len, fun i w hw => ?_⟩
  have hi : i < wsN.length := (List.getElem?_eq_some_iff.1 hw).1
  rw [List.getElem?_append_left (by simpa using hi), List.getElem?_map, hw]; rfl

theorem len23 {H : AH} {b n c : Nat} {m : Option Nat} : lenT (Tryz.prog.underlying 23) (.slice (some ⟨b, 0, m⟩) n c) H = some (.int .i64 n, H) := by
  have e : descOk (Tryz.prog.underlying 23) (.slice (some ⟨b, 0, m⟩) n c) = true := by
    have : Tryz.prog.underlying 23 = some (.slice 9) := by kernel_rfl
    rw [this]; rfl
  unfold lenT
  rw [if_pos e]; rfl

/-- Is it the name of a structure with a content? -/
def isN (s : ByteArray) : Bool := wsN.any fun w => w.toList == s.toList

theorem d8 (s : ByteArray) (H : AH) : den E3 8 [.string s] H = some (.bool (isN s), H.lay crows6) := by
  refine den_of_body (E := E3) (fn := Tryz.f8) (ann := ann_8) (by kernel_rfl) (by kernel_rfl) (by kernel_rfl) (l1_8 _ _ _) ?_
  rw [bind_eq (d6 H)]
  have hw := words6 H
  generalize H.lay crows6 = H1 at hw ⊢
  have key : ∀ (k i : Nat), i + k = 16 → ∃ j : Int, iter (fun vs2 => M.bind (lenT (Tryz.prog.underlying 23) (vs2.getD 2 junk)) fun t3 => M.bind (M.lift (binV Tryz.prog .lss 3 (vs2.getD 3 junk) t3)) fun t4 => condB t4 (M.bind (M.lift (indexS 1 (vs2.getD 2 junk) (vs2.getD 3 junk))) fun t5 => M.bind (load Tryz.prog 9 t5) fun t6 => M.bind (M.lift (binV Tryz.prog .eql 9 t6 (vs2.getD 0 junk))) fun t7 => condB t7 (M.pure (.ret, [(vs2.getD 0 junk), (.bool true), (vs2.getD 2 junk), (vs2.getD 3 junk)])) (M.bind (M.lift (binV Tryz.prog .add 3 (vs2.getD 3 junk) (.int .i64 (1)))) fun t8 => M.pure (.normal, [(vs2.getD 0 junk), (vs2.getD 1 junk), (vs2.getD 2 junk), t8]))) (M.pure (.exit 0, [(vs2.getD 0 junk), (vs2.getD 1 junk), (vs2.getD 2 junk), (vs2.getD 3 junk)])))
      (k + 1) [.string s, .bool false, .slice (some ⟨H.next, 0, none⟩) 16 16, .int .i64 i] H1
      = some ((if (wsN.drop i).any (fun w => w.toList == s.toList) then ((.ret, [.string s, .bool true, .slice (some ⟨H.next, 0, none⟩) 16 16, .int .i64 j]) : R) else (.exit 0, [.string s, .bool false, .slice (some ⟨H.next, 0, none⟩) 16 16, .int .i64 j])), H1) := by
    intro k
    induction k with
    | zero =>
      intro i hi
      have : i = 16 := by omega
      subst this
      refine ⟨((16 : Nat) : Int), ?_⟩
      have hd : wsN.drop 16 = [] := List.drop_of_length_le (by rw [wsN_len]; omega)
      rw [hd]
      unfold iter
      simp only [List.getD_cons_zero, List.getD_cons_succ, M.bind, M.lift, len23, lss, Nat.lt_irrefl, decide_false, condB, M.pure, List.any_nil, Bool.false_eq_true, if_false]
    | succ k ih =>
      intro i hi
      have hlt : i < 16 := by omega
      have hil : i < wsN.length := by rw [wsN_len]; exact hlt
      have hwi : wsN[i]? = some wsN[i] := List.getElem?_eq_getElem hil
      have hd : wsN.drop i = wsN[i] :: wsN.drop (i + 1) := List.drop_eq_getElem_cons hil
      have he : binV Tryz.prog .eql 9 (.string wsN[i]) (.string s) = some (.bool (wsN[i].toList == s.toList)) := rfl
      obtain ⟨j, hj⟩ := ih (i + 1) (by omega)
      cases hc : wsN[i].toList == s.toList with
      | true =>
        refine ⟨(i : Int), ?_⟩
        rw [hc] at he
        rw [hd]
        unfold iter
        simp only [List.getD_cons_zero, List.getD_cons_succ, M.bind, M.lift, len23, lss, hlt, decide_true, condB, at_ix (b := H.next) (m := 0) (n := 16) (c := 16) (mm := none) hlt, hw.read hwi, he, M.pure, List.any_cons, hc, Bool.true_or, if_true]
      | false =>
        refine ⟨j, ?_⟩
        rw [hc] at he
        rw [hd]
        unfold iter
        simp only [List.getD_cons_zero, List.getD_cons_succ, M.bind, M.lift, len23, lss, hlt, decide_true, condB, at_ix (b := H.next) (m := 0) (n := 16) (c := 16) (mm := none) hlt, hw.read hwi, he, add1 i (by omega), M.pure, List.any_cons, hc, Bool.false_or]
        exact hj
  obtain ⟨j, hk⟩ := key 16 0 (by omega)
  rw [List.drop_zero] at hk
  have hl := lpD_iff.2 ⟨16 + 1, hk⟩
  refine (bind_eq hl).trans ?_
  show _ = some (Value.bool (wsN.any fun w => w.toList == s.toList), H1)
  cases wsN.any fun w => w.toList == s.toList <;> rfl

/-! ### A name that is none of these -/

theorem not_in {s : ByteArray} (h : isN s = false) : ∀ w ∈ wsN, (s.toList == w.toList) = false := by
  intro w hw
  unfold isN at h
  rw [List.any_eq_false] at h
  have := h w hw
  cases hc : s.toList == w.toList with
  | false => rfl
  | true =>
    exfalso
    apply this
    have e := eq_of_beq hc
    rw [e]; simp


theorem d16 {s : ByteArray} (hs : isN s = false) (H : AH) : den E3 16 [.slice (some ⟨H.next, 0, some 1⟩) 16 21, .string s] (H.lay crows5) = some (.bool false, H.lay crows5) := by
  refine den_of_body (E := E3) (fn := Tryz.f16) (ann := ann_16) (by kernel_rfl) (by kernel_rfl) (by kernel_rfl) (l1_16 _ _ _ _) ?_
  exact (bind_eq (d28 (words5 H) (by omega) (not_in hs))).trans rfl

theorem d19 {s : ByteArray} (hs : isN s = false) (H : AH) (a1 a2 a3 a4 : Value) : den E3 19 [.string s, a1, a2, a3, a4] H = some (.int .i64 5, H.lay crows5) := by
  refine den_of_body (E := E3) (fn := Tryz.f19) (ann := ann_19) (by kernel_rfl) (by kernel_rfl) (by kernel_rfl) (l1_19 _ _ _ _ _ _ _) ?_
  exact (bind_eq (d5 H)).trans ((bind_eq (d16 hs H)).trans rfl)

theorem d11 {s : ByteArray} (hs : isN s = false) (H : AH) (a1 a2 a3 a4 : Value) : den E3 11 [.string s, a1, a2, a3, a4] H = some (.tuple #[.slice none 0 0, .int .i64 5], H.lay crows5) := by
  refine den_of_body (E := E3) (fn := Tryz.f11) (ann := ann_11) (by kernel_rfl) (by kernel_rfl) (by kernel_rfl) (l1_11 _ _ _ _ _ _ _) ?_
  exact (bind_eq (d19 hs H a1 a2 a3 a4)).trans rfl

theorem d10 {s : ByteArray} (hs : isN s = false) (H : AH) (a1 a2 a3 a4 : Value) : den E3 10 [.string s, a1, a2, a3, a4] H = some (.tuple #[.int .i64 0, .int .i64 5], H.lay crows5) := by
  refine den_of_body (E := E3) (fn := Tryz.f10) (ann := ann_10) (by kernel_rfl) (by kernel_rfl) (by kernel_rfl) (l1_10 _ _ _ _ _ _ _) ?_
  exact (bind_eq (d11 hs H a1 a2 a3 a4)).trans rfl

theorem d9 {s : ByteArray} (hs : isN s = false) (H : AH) (a1 a2 a3 a4 : Value) : den E3 9 [.string s, a1, a2, a3, a4] H = some (.tuple #[.bool false, .int .i64 5], H.lay crows5) := by
  refine den_of_body (E := E3) (fn := Tryz.f9) (ann := ann_9) (by kernel_rfl) (by kernel_rfl) (by kernel_rfl) (l1_9 _ _ _ _ _ _ _) ?_
  exact (bind_eq (d10 hs H a1 a2 a3 a4)).trans rfl

theorem d12 {s : ByteArray} (hs : isN s = false) (H : AH) (a1 a2 : Value) : den E3 12 [.string s, a1, a2] H = some (.tuple #[.slice none 0 0, .int .i64 5], H.lay crows5) := by
  refine den_of_body (E := E3) (fn := Tryz.f12) (ann := ann_12) (by kernel_rfl) (by kernel_rfl) (by kernel_rfl) (l1_12 _ _ _ _ _) ?_
  exact (bind_eq (d5 H)).trans ((bind_eq (d16 hs H)).trans rfl)

end Go.Proofs.YtepchknpgeopfaaGreatDoor.E
