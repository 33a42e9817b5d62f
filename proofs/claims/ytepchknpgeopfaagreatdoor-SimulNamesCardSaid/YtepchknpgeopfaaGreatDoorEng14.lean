/-
  THE ENGINE, part 14: what an operation looks at; which operations leave the heap alone.
-/
import Derived.Test.YtepchknpgeopfaaGreatDoorEng13
import Derived.Orders
import Derived.CheckFast
set_option linter.unusedVariables false
set_option linter.unusedSimpArgs false
namespace Go.Proofs.YtepchknpgeopfaaGreatDoor.E
open Go

variable {P : Program}

/-! ### An operation looks at its operands alone -/

theorem maps_congr {f g : Operand → Value} {xs : Array Operand} (h : ∀ x ∈ xs, f x = g x) : xs.toList.map f = xs.toList.map g :=
  List.map_congr_left fun x hx => h x (by simpa using hx)

theorem parts_congr {f g : Operand → Value} {ps : Array (Nat × Operand)} (h : ∀ x ∈ ps.toList.map (·.2), f x = g x) :
    (ps.toList.map fun (i, x) => (i, f x)) = (ps.toList.map fun (i, x) => (i, g x)) :=
  List.map_congr_left fun p hm => by
    obtain ⟨i, x⟩ := p
    simp only [h x (List.mem_map.2 ⟨(i, x), hm, rfl⟩)]

theorem evCall_congr {call : CallF} {alc : Option Nat} {f g : Operand → Value} (c : Call) (h : ∀ x ∈ c.operands, f x = g x) : evCall P call alc f c = evCall P call alc g c := by
  obtain ⟨callee, args, ats⟩ := c
  have ha : ∀ x ∈ args, f x = g x := fun x hx => h x (by simp [Call.operands, hx])
  have hargs := maps_congr ha
  unfold evCall
  cases callee with
  | value q => simp only [hargs, h q (by simp [Call.operands])]
  | invoke r m => simp only [hargs, h r (by simp [Call.operands])]
  | builtin b =>
    have hb : ∀ x ∈ args.toList, f x = g x := fun x hx => ha x (by simpa using hx)
    simp only
    generalize args.toList = l at hb
    generalize ats.toList = ts
    rcases l with _ | ⟨x, l⟩
    · cases b <;> rfl
    · have ex : f x = g x := hb x (by simp)
      have el : l.map f = l.map g := List.map_congr_left fun q hq => hb q (by simp [hq])
      rcases l with _ | ⟨y, l⟩
      · rcases ts with _ | ⟨t, _ | ⟨t', ts⟩⟩ <;> cases b <;> first | rfl | (simp only [ex, el]; done) | (simp only [ex]; done)
      · have ey : f y = g y := hb y (by simp)
        rcases l with _ | ⟨z, l⟩
        · rcases ts with _ | ⟨t, _ | ⟨t', ts⟩⟩ <;> cases b <;> first | rfl | (simp only [ex, ey]; done) | (simp only [ex, el]; done)
        · rcases ts with _ | ⟨t, _ | ⟨t', ts⟩⟩ <;> cases b <;> first | rfl | (simp only [ex, el]; done)

theorem evOp_congr {call : CallF} {alc : Option Nat} {f g : Operand → Value} (o : Oper) (h : ∀ x ∈ o.op.operands, f x = g x) : evOp P call alc f o = evOp P call alc g o := by
  obtain ⟨dst, op, type, pos, after, guard⟩ := o
  cases op <;> simp only [Op.operands] at h <;> simp only [evOp]
  case build t ps => rw [parts_congr fun x hx => h x (by simpa using hx)]
  case buildSlice t n ps => rw [parts_congr fun x hx => h x (by simpa using hx)]
  case makeFunc fn first captured =>
    have e1 : first.map f = first.map g := Array.map_congr_left fun x hx => h x (by simp [hx])
    have e2 : captured.map f = captured.map g := Array.map_congr_left fun x hx => h x (by simp [hx])
    cases fn <;> simp only [e1, e2]
  case call c => exact evCall_congr c h
  case makeMap t r => cases r <;> simp_all
  case slice t x lo hi mx => cases lo <;> cases hi <;> cases mx <;> simp_all
  case next it b => cases b <;> simp_all
  case typeAssert x xt t b => cases b <;> simp_all
  all_goals (first | rfl | (simp_all; done))

/-- The slots that an operation looks at. -/
def seenBy (ops : Array Oper) (o : Oper) (t : Tmp) : Prop := (∃ x ∈ o.op.operands, x = .tmp t) ∨ (∃ j w, o.guard = some (j, w) ∧ (ops.toList[j]?).bind (·.dst) = some t)

theorem evG_congr {call : CallF} {alc : Option Nat} {ops : Array Oper} {fr fr' : Fr} {o : Oper} (h : ∀ t, seenBy ops o t → fr t = fr' t) : evG P call alc ops fr o = evG P call alc ops fr' o := by
  have ho : evOp P call alc (ev fr) o = evOp P call alc (ev fr') o := evOp_congr o fun x hx => by
    cases x with
    | tmp t => exact h t (.inl ⟨_, hx, rfl⟩)
    | _ => rfl
  unfold evG
  rw [ho]
  split
  · rfl
  · rename_i j w hg
    split
    · rename_i d hd
      rw [h d (.inr ⟨j, w, hg, hd⟩)]
    · rfl

/-! ### Operations that leave the heap alone -/

def PureM (m : M Value) : Prop := ∀ H v H', m H = some (v, H') → H' = H ∧ ∀ H2, m H2 = some (v, H2)
def ReadM (m : M Value) : Prop := ∀ H v H', m H = some (v, H') → H' = H
def MakeM (b : Nat) (m : M Value) : Prop := ∀ H v H', m H = some (v, H') → (H' = H ∧ ∀ H2, m H2 = some (v, H2)) ∨
  (∃ x, x.wr = true ∧ b < H.next ∧ H.at_ b = none ∧ H' = H.with H.next b x ∧ ∀ H2 : AH, b < H2.next → H2.at_ b = none → m H2 = some (v, H2.with H2.next b x))

theorem PureM.pure (v : Value) : PureM (M.pure v) := fun H u H' h => by
  obtain ⟨rfl, rfl⟩ := pure_some h; exact ⟨rfl, fun H2 => rfl⟩
theorem PureM.fail : PureM M.fail := fun H u H' h => by cases h
theorem PureM.lift (o : Option Value) : PureM (M.lift o) := fun H u H' h => by
  obtain ⟨rfl, rfl⟩ := lift_some h; exact ⟨rfl, fun H2 => rfl⟩
theorem PureM.make {b : Nat} {m : M Value} (h : PureM m) : MakeM b m := fun H v H' e => .inl (h H v H' e)
theorem PureM.read {m : M Value} (h : PureM m) : ReadM m := fun H v H' e => (h H v H' e).1

theorem MakeM.newAt {b : Nat} {x : Blk} (hx : x.wr = true) (f : Nat → Value) : MakeM b (M.bind (E.newAt (some b) x) fun c => M.pure (f c)) := fun H v H' h => by
  obtain ⟨c, H1, h1, h2⟩ := bind_some h
  obtain ⟨rfl, rfl⟩ := pure_some h2
  rcases newAt_eq h1 with ⟨e, _⟩ | ⟨e, hl, h0, rfl⟩
  · cases e
  · cases e
    refine .inr ⟨x, hx, hl, h0, rfl, fun H2 hl2 h02 => ?_⟩
    simp only [M.bind, E.newAt, h02, if_pos hl2]
    rfl

theorem MakeM.newRow {b : Nat} {e : TypeId} {cs : List Value} (f : Nat → Value) : MakeM b (M.bind (E.newRow (some b) e cs) fun c => M.pure (f c)) := by
  by_cases hc : cs.all cellOk = true
  · have : E.newRow (some b) e cs = E.newAt (some b) (.row e cs true) := by funext H; simp only [E.newRow, if_pos hc]
    rw [this]
    exact MakeM.newAt rfl f
  · intro H v H' h
    simp [M.bind, E.newRow, hc] at h

theorem pure_ops {call : CallF} {alc : Option Nat} {f : Operand → Value} {o : Oper} (h : (opKind P o.op) = .pure) : PureM (evOp P call alc f o) := by
  obtain ⟨dst, op, type, pos, after, guard⟩ := o
  cases op <;> simp only [opKind] at h <;> simp only [evOp] <;> try (cases h; done)
  case convert s d x =>
    repeat' (first | exact PureM.pure _ | exact PureM.fail | split)
    all_goals (first | (simp_all; done) | (exfalso; simp_all; done))
  case makeFunc fn first captured => cases fn <;> first | exact PureM.pure _ | exact PureM.fail
  case call c =>
    obtain ⟨callee, args, ats⟩ := c
    cases callee with
    | builtin b =>
      cases b <;> simp at h
      all_goals
        simp only [evCall]
        repeat' (first | exact PureM.pure _ | exact PureM.fail | exact PureM.lift _ | contradiction | split)
    | _ => simp at h
  all_goals repeat' (first | exact PureM.pure _ | exact PureM.fail | exact PureM.lift _ | contradiction | split)

theorem ReadM.fail : ReadM M.fail := PureM.fail.read

theorem ReadM.load (t : TypeId) (a : Value) : ReadM (E.load P t a) := fun H v H' h => by
  unfold E.load at h
  split at h
  · unfold loadN at h
    split at h
    · split at h
      · cases h; rfl
      · cases h
    · cases h
  · split at h
    · unfold load1 at h
      split at h
      · split at h
        · split at h
          · cases h; rfl
          · cases h
        · cases h
      · cases h
    · cases h

theorem ReadM.len (d : Option TypeDesc) (x : Value) : ReadM (lenT d x) := fun H v H' h => by
  unfold lenT at h
  split at h
  · unfold lenM at h
    split at h
    · rename_i b _
      cases hx : mapAt H b with
      | none => simp [hx] at h
      | some es => simp only [hx, Option.map_some, Option.some.injEq, Prod.mk.injEq] at h; exact h.2.symm
    · cases hx : lenV x with
      | none => simp [hx] at h
      | some es => simp only [hx, Option.map_some, Option.some.injEq, Prod.mk.injEq] at h; exact h.2.symm
  · cases h

theorem ReadM.lookup (kk : KK) (z : Value) (ok : Bool) (m k : Value) : ReadM (lookupM kk z ok m k) := fun H v H' h => by
  unfold lookupM at h
  repeat' (first | (cases h; done) | (cases h; rfl) | split at h)

theorem read_ops {call : CallF} {alc : Option Nat} {f : Operand → Value} {o : Oper} (h : (opKind P o.op) = .read) : ReadM (evOp P call alc f o) := by
  obtain ⟨dst, op, type, pos, after, guard⟩ := o
  cases op <;> simp only [opKind] at h <;> simp only [evOp] <;> try (cases h; done)
  case convert s d x => split at h <;> (try (cases h; done)); split at h <;> cases h
  case load t a => exact ReadM.load _ _
  case lookup t m k ok => repeat' (first | exact ReadM.fail | exact ReadM.lookup _ _ _ _ _ | split)
  case call c =>
    obtain ⟨callee, args, ats⟩ := c
    cases callee with
    | builtin b =>
      cases b <;> simp at h
      simp only [evCall]
      repeat' (first | exact ReadM.fail | exact ReadM.len _ _ | contradiction | split)
    | _ => simp at h

theorem make_ops {call : CallF} {b : Nat} {f : Operand → Value} {o : Oper} (h : (opKind P o.op) = .alloc) : MakeM b (evOp P call (some b) f o) := by
  obtain ⟨dst, op, type, pos, after, guard⟩ := o
  cases op <;> simp only [opKind] at h <;> simp only [evOp] <;> try (cases h; done)
  case alloc t => repeat' (first | exact PureM.fail.make | exact MakeM.newRow _ | split)
  case box t x => exact MakeM.newRow _
  case buildSlice t n ps => repeat' (first | exact PureM.fail.make | exact MakeM.newRow _ | split)
  case makeMap t r => repeat' (first | exact PureM.fail.make | exact MakeM.newAt rfl _ | split)
  case makeSlice t l c =>
    repeat' (first | exact PureM.fail.make | split)
    unfold makeSl
    repeat' (first | exact PureM.fail.make | exact MakeM.newRow _ | split)
  case convert s d x =>
    split
    · repeat' (first | exact (PureM.pure _).make | exact PureM.fail.make | split)
    · repeat' (first | exact (PureM.pure _).make | exact PureM.fail.make | split)
    · rename_i e hs hd
      simp only [hd] at h
      split
      · unfold toRunes
        repeat' (first | exact PureM.fail.make | exact MakeM.newRow _ | split)
      · rename_i he
        simp [he] at h
      · exact PureM.fail.make
    · rename_i t hs hd
      simp [hd] at h
    · rename_i t hs hd
      simp [hd] at h
    · exact PureM.fail.make
  case call c =>
    obtain ⟨callee, args, ats⟩ := c
    cases callee with
    | builtin b => cases b <;> simp at h
    | _ => simp at h

theorem guardM_pure {c : Option Bool} {m : M Value} (h : PureM m) : PureM (guardM c m) := by
  unfold guardM; split
  · exact h
  · exact PureM.pure _
  · exact PureM.fail
theorem guardM_read {c : Option Bool} {m : M Value} (h : ReadM m) : ReadM (guardM c m) := by
  unfold guardM; split
  · exact h
  · exact (PureM.pure _).read
  · exact PureM.fail.read
theorem guardM_make {b : Nat} {c : Option Bool} {m : M Value} (h : MakeM b m) : MakeM b (guardM c m) := by
  unfold guardM; split
  · exact h
  · exact (PureM.pure _).make
  · exact PureM.fail.make

theorem pureG {call : CallF} {alc : Option Nat} {ops : Array Oper} {fr : Fr} {o : Oper} (h : (opKind P o.op) = .pure) : PureM (evG P call alc ops fr o) := by
  unfold evG; split
  · exact pure_ops h
  · split
    · exact guardM_pure (pure_ops h)
    · exact PureM.pure _
theorem readG {call : CallF} {alc : Option Nat} {ops : Array Oper} {fr : Fr} {o : Oper} (h : (opKind P o.op) = .read) : ReadM (evG P call alc ops fr o) := by
  unfold evG; split
  · exact read_ops h
  · split
    · exact guardM_read (read_ops h)
    · exact (PureM.pure _).read
theorem makeG {call : CallF} {b : Nat} {ops : Array Oper} {fr : Fr} {o : Oper} (h : (opKind P o.op) = .alloc) : MakeM b (evG P call (some b) ops fr o) := by
  unfold evG; split
  · exact make_ops h
  · split
    · exact guardM_make (make_ops h)
    · exact (PureM.pure _).make

/-! ### What stands before what -/

/-- If the tables say that j stands before i, then i asks for j, or for one that j stands before. -/
theorem before_step {ops : Array Oper} {i j : Nat} {o : Oper} (ho : ops[i]? = some o) (h : comesBefore (befores ops) j i = true) :
    ∃ e ∈ o.after, Region.binds .any e = true ∧ (j = e.on ∨ comesBefore (befores ops) j e.on = true) := by
  have key : ∀ (l : List Oper) (A : Array Nat), (∀ q, q < A.size → (l.foldl (fun acc o => acc.push (CheckFast.one (fun i => acc.getD i 0) o)) A).getD q 0 = A.getD q 0) ∧
      ∀ q o, l[q]? = some o → ∀ jj, ((l.foldl (fun acc o => acc.push (CheckFast.one (fun i => acc.getD i 0) o)) A).getD (A.size + q) 0).testBit jj = true →
        ∃ e ∈ o.after, Region.binds .any e = true ∧ (jj = e.on ∨ ((l.foldl (fun acc o => acc.push (CheckFast.one (fun i => acc.getD i 0) o)) A).getD e.on 0).testBit jj = true) := by
    intro l
    induction l with
    | nil => intro A; exact ⟨fun q _ => rfl, fun q o h => by simp at h⟩
    | cons x l ih =>
      intro A
      simp only [List.foldl_cons]
      obtain ⟨h1, h2⟩ := ih (A.push (CheckFast.one (fun i => A.getD i 0) x))
      have hA : ∀ q, q < A.size → (l.foldl (fun acc o => acc.push (CheckFast.one (fun i => acc.getD i 0) o)) (A.push (CheckFast.one (fun i => A.getD i 0) x))).getD q 0 = A.getD q 0 := fun q hq => by
        rw [h1 q (by simp; omega)]
        simp [Array.getD, hq, Nat.lt_succ_of_lt hq, Array.getElem_push]
      refine ⟨hA, fun q o hq jj hj => ?_⟩
      cases q with
      | zero =>
        simp only [List.getElem?_cons_zero, Option.some.injEq] at hq
        subst hq
        rw [Nat.add_zero, h1 A.size (by simp)] at hj
        have e1 : (A.push (CheckFast.one (fun i => A.getD i 0) x)).getD A.size 0 = CheckFast.one (fun i => A.getD i 0) x := by simp [Array.getD]
        rw [e1] at hj
        unfold CheckFast.one at hj
        rw [← Array.foldl_toList] at hj
        have fold : ∀ (es : List Edge) (s : Nat), (es.foldl (fun s e => if Region.binds .any e = true then s ||| 2 ^ e.on ||| A.getD e.on 0 else s) s).testBit jj = true →
            s.testBit jj = true ∨ ∃ e ∈ es, Region.binds .any e = true ∧ (jj = e.on ∨ (A.getD e.on 0).testBit jj = true) := by
          intro es
          induction es with
          | nil => intro s hs; exact .inl hs
          | cons e es ih =>
            intro s hs
            simp only [List.foldl_cons] at hs
            rcases ih _ hs with g | ⟨e', g1, g2⟩
            · split at g
              · rename_i hb
                simp only [Nat.testBit_or, Bool.or_eq_true] at g
                rcases g with (g | g) | g
                · exact .inl g
                · rw [Nat.testBit_two_pow] at g
                  exact .inr ⟨e, by simp, hb, .inl (by simpa using Eq.symm (by simpa using g))⟩
                · exact .inr ⟨e, by simp, hb, .inr g⟩
              · exact .inl g
            · exact .inr ⟨e', List.mem_cons_of_mem _ g1, g2⟩
        rcases fold _ _ hj with g | ⟨e, g1, g2, g3⟩
        · simp at g
        · refine ⟨e, by simpa using g1, g2, ?_⟩
          rcases g3 with g3 | g3
          · exact .inl g3
          · right
            by_cases hlt : e.on < A.size
            · rw [hA _ hlt]; exact g3
            · simp [Array.getD, hlt] at g3
      | succ q =>
        simp only [List.getElem?_cons_succ] at hq
        exact h2 q o hq jj (by rw [Array.size_push, show A.size + 1 + q = A.size + (q + 1) by omega]; exact hj)
  have hb : befores ops = ops.toList.foldl (fun acc o => acc.push (CheckFast.one (fun i => acc.getD i 0) o)) #[] := by
    unfold befores Region.before
    rw [← Array.foldl_toList]
    rfl
  unfold comesBefore at *
  rw [hb] at h ⊢
  exact (key ops.toList #[]).2 i o (by simpa using ho) j (by simpa using h)

end Go.Proofs.YtepchknpgeopfaaGreatDoor.E
