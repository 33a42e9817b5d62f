/-
  THE ENGINE, part 24: the quick evaluator of code and functions.
-/
import Derived.Test.YtepchknpgeopfaaGreatDoorEng23
set_option linter.unusedVariables false
set_option linter.unusedSimpArgs false
namespace Go.Proofs.YtepchknpgeopfaaGreatDoor.E
open Go

abbrev CallT := FuncId → List Value → TM Value

def noCall : CallF := fun _ _ => M.fail

def idsL (alc : Option Nat) (vs : List Value) : List Nat := alc.toList ++ vs.flatMap vblk
def idsOf (alc : Option Nat) (ρ : Operand → Value) (o : Oper) : List Nat := idsL alc (o.op.operands.toList.map ρ)

def liftT (o : Option Value) : TM Value := fun T => match o with
  | some v => some (v, T)
  | none => none

/-! #### Strings by their lists -/

def bl (s : ByteArray) : List UInt8 := s.data.toList

def eqB : List UInt8 → List UInt8 → Bool
  | [], [] => true
  | x :: xs, y :: ys => bif Nat.beq x.toNat y.toNat then eqB xs ys else false
  | _, _ => false

def strQ (op : BinOp) (x y : ByteArray) : Option Value :=
  match op with
  | .add => if x.size + y.size ≤ 4611686018427387904 then forceL (bl x ++ bl y) (fun l => some (.string ⟨⟨l⟩⟩)) else none
  | .eql => some (.bool (eqB (bl x) (bl y)))
  | .neq => some (.bool !(eqB (bl x) (bl y)))
  | op => strB op x y

def binQ (P : Program) (op : BinOp) (t : TypeId) (x y : Value) : Option Value :=
  match x, y with
  | .string a, .string b => strQ op a b
  | x, y => binV P op t x y

def indexStrQ : Value → Value → Option Value
  | .string s, .int _ i => if 0 ≤ i then (match (bl s)[i.toNat]? with
      | some b => some (.int .u8 b.toNat)
      | none => none) else none
  | _, _ => none

def sliceStrQ (x : Value) (lo hi : Option Value) : Option Value :=
  match x with
  | .string s =>
    (match bnd s.size hi, bnd 0 lo with
    | some h, some l => if 0 ≤ l ∧ l ≤ h ∧ h ≤ (s.size : Int) then forceL (((bl s).drop l.toNat).take (h.toNat - l.toNat)) (fun l => some (.string ⟨⟨l⟩⟩)) else none
    | _, _ => none)
  | _ => none

def decQ (s : ByteArray) (pos : Nat) : Nat × Nat :=
  match (bl s)[pos]? with
  | some c => bif Nat.blt c.toNat 128 then (c.toNat, 1) else Utf8.decode s pos
  | none => Utf8.decode s pos

def nextStrQ (x : Value) : M Value := fun H =>
  match x with
  | .pointer (some ⟨b, 0, none⟩) =>
    (match H.at_ b with
    | some (.siter s pos) =>
      if pos < s.size then (match decQ s pos with
        | (c, n) => some (.tuple #[.bool true, .int .i64 pos, .int .i32 c], H.set b (some (.siter s (pos + n)))))
      else some (.tuple #[.bool false], H)
    | _ => none)
  | _ => none

theorem eqB_eq : ∀ (xs ys : List UInt8), eqB xs ys = (xs == ys)
  | [], [] => rfl
  | [], _ :: _ => rfl
  | _ :: _, [] => rfl
  | x :: xs, y :: ys => by
    simp only [eqB, List.cons_beq_cons, eqB_eq xs ys]
    by_cases h : x = y
    · subst h; simp
    · have : Nat.beq x.toNat y.toNat = false := by
        cases hb : Nat.beq x.toNat y.toNat with
        | true => exact absurd (UInt8.toNat_inj.1 (Nat.eq_of_beq_eq_true hb)) h
        | false => rfl
      rw [this]
      have h2 : (x == y) = false := by simpa using h
      simp [h2]

theorem ba_ext {a b : ByteArray} (h : a.data.toList = b.data.toList) : a = b := by
  cases a with
  | mk x => cases b with
    | mk y => cases x; cases y; simp at h; rw [h]

theorem strQ_eq (op : BinOp) (x y : ByteArray) : strQ op x y = strB op x y := by
  cases op
  case add =>
    unfold strQ strB
    simp only
    split
    · rw [forceL_eq]; refine congrArg some (congrArg Value.string ?_)
      apply ba_ext
      simp [bl]
    · rfl
  case eql => simp only [strQ, strB, bl, eqB_eq, ByteArray.toList_eq]
  case neq => simp only [strQ, strB, bl, eqB_eq, ByteArray.toList_eq]
  all_goals rfl

theorem binQ_eq (P : Program) (op : BinOp) (t : TypeId) (x y : Value) : binQ P op t x y = binV P op t x y := by
  unfold binQ
  split
  · rw [strQ_eq]; rfl
  · rfl

theorem indexStrQ_eq (x i : Value) : indexStrQ x i = indexStr x i := by
  cases x <;> try rfl
  rename_i s
  cases i <;> try rfl
  rename_i k n
  have : ∀ i : Nat, (bl s)[i]? = s[i]? := fun i => by
    simp only [bl]
    rw [Array.getElem?_toList]
    rfl
  simp only [indexStrQ, indexStr, this]
  rfl

theorem sliceStrQ_eq (x : Value) (lo hi : Option Value) : sliceStrQ x lo hi = sliceStr x lo hi := by
  cases x <;> try rfl
  rename_i s
  unfold sliceStrQ sliceStr
  simp only
  cases bnd s.size hi with
  | none => rfl
  | some h =>
    cases bnd 0 lo with
    | none => rfl
    | some l =>
      simp only
      split
      · rw [forceL_eq]; refine congrArg some (congrArg Value.string ?_)
        apply ba_ext
        simp [bl, ByteArray.data_extract, Array.toList_extract, List.extract]
      · rfl

theorem decQ_eq (s : ByteArray) (pos : Nat) : decQ s pos = Utf8.decode s pos := by
  unfold decQ
  split
  · rename_i c hc
    cases hb : Nat.blt c.toNat 128 with
    | false => rfl
    | true =>
      have h1 : c.toNat < 128 := Nat.lt_of_lt_of_le (Nat.le_of_ble_eq_true hb) (Nat.le_refl _)
      have h2 : s.get! pos = c := by
        simp only [bl, Array.getElem?_toList] at hc
        show s.data[pos]! = c
        rw [getElem!_def, hc]
      simp only [cond_true, Utf8.decode, Nat.add_zero, h2, h1, if_true]
  · rfl

theorem nextStrQ_eq (x : Value) : nextStrQ x = nextStr x := by
  funext H
  unfold nextStrQ nextStr
  simp only [decQ_eq]
  rfl

noncomputable def plainT (P : Program) (alc : Option Nat) (ρ : Operand → Value) (o : Oper) : TM Value :=
  match opKind P o.op with
  | .pure => pureT (evOp P noCall alc ρ o)
  | .read => pureT (evOp P noCall alc ρ o)
  | .alloc => stepT (evOp P noCall alc ρ o) (idsOf alc ρ o)
  | .eff => stepT (evOp P noCall alc ρ o) (idsOf alc ρ o)

noncomputable def callVT (call : CallT) (f : Value) (args : List Value) : TM Value :=
  match f with
  | .func (.func g) first captured => call g (first.toList ++ (args ++ captured.toList))
  | _ => TM.fail

noncomputable def invT (P : Program) (call : CallT) (name : String) (r : Value) (args : List Value) : TM Value :=
  match r with
  | .iface t v => (match methP P t name with
    | some f => call f (v :: args)
    | none => TM.fail)
  | _ => TM.fail

noncomputable def callOpT (P : Program) (call : CallT) (alc : Option Nat) (ρ : Operand → Value) (o : Oper) (c : Call) : TM Value :=
  match c.callee with
  | .value f => callVT call (ρ f) (c.args.toList.map ρ)
  | .invoke r name => invT P call name (ρ r) (c.args.toList.map ρ)
  | .builtin _ => plainT P alc ρ o

noncomputable def evOpT (P : Program) (call : CallT) (alc : Option Nat) (ρ : Operand → Value) (o : Oper) : TM Value :=
  match o.op with
  | .call c => callOpT P call alc ρ o c
  | .binOp op t x y _ => liftT (bif isNilC x || isNilC y then binNil P op t (ρ x) (ρ y) else binQ P op t (ρ x) (ρ y))
  | .index t x i => (match P.underlying t with
    | some .string => liftT (indexStrQ (ρ x) (ρ i))
    | _ => plainT P alc ρ o)
  | .slice t x lo hi mx => (match P.underlying t with
    | some .string => if mx.isSome then TM.fail else liftT (sliceStrQ (ρ x) (lo.map ρ) (hi.map ρ))
    | _ => plainT P alc ρ o)
  | .next it s => bif s then stepT (nextStrQ (ρ it)) (idsL none [ρ it]) else plainT P alc ρ o
  | _ => plainT P alc ρ o

noncomputable def guardT (c : Option Bool) (m : TM Value) : TM Value :=
  match c with
  | some true => m
  | some false => TM.pure undef
  | none => TM.fail

noncomputable def evGT (P : Program) (call : CallT) (alc : Option Nat) (ops : Array Oper) (fr : Fr) (o : Oper) : TM Value :=
  match o.guard with
  | none => evOpT P call alc (ev fr) o
  | some (j, want) =>
    (match ((ops.toList[j]?).bind (·.dst)) with
    | some d => guardT (wantV (fr d) want) (evOpT P call alc (ev fr) o)
    | none => TM.pure undef)

noncomputable def evOpsT {β : Type} (P : Program) (call : CallT) (n : Nat) (ops : Array Oper) : List Oper → (Fr → TM β) → Fr → TM β
  | [], k, fr => k fr
  | o :: rest, k, fr =>
    match o.guard, totV (ev fr) o.op with
    | none, some v => evOpsT P call n ops rest k (putF n fr o.dst v)
    | _, _ => TM.bind (evGT P call none ops fr o) fun v => evOpsT P call n ops rest k (putF n fr o.dst v)

/-- Are two values the same, for sure? -/
def same0 : Value → Value → Bool
  | .bool a, .bool b => a == b
  | .int k a, .int k' b => decide (k = k') && a == b
  | .string a, .string b => a.data.toList == b.data.toList
  | .pointer a, .pointer b => decide (a = b)
  | .slice a l c, .slice a' l' c' => decide (a = a') && l == l' && c == c'
  | .map a, .map b => a == b
  | .nilFunc, .nilFunc => true
  | .nilIface, .nilIface => true
  | _, _ => false

def same0L : List Value → List Value → Bool
  | [], [] => true
  | x :: xs, y :: ys => same0 x y && same0L xs ys
  | _, _ => false

def same1 : Value → Value → Bool
  | .func (.func f) xs ys, .func (.func g) us vs => f == g && same0L xs.toList us.toList && same0L ys.toList vs.toList
  | x, y => same0 x y

def sameL : List Value → List Value → Bool
  | [], [] => true
  | x :: xs, y :: ys => same1 x y && sameL xs ys
  | _, _ => false

def sameV : Value → Value → Bool
  | .agg xs, .agg ys => sameL xs.toList ys.toList
  | .tuple xs, .tuple ys => sameL xs.toList ys.toList
  | .iface t x, .iface u y => decide (t = u) && same1 x y
  | x, y => same1 x y

noncomputable def againT (x : TM Value) (v : Value) : TM Unit := fun T =>
  match x T with
  | some (v', _) => bif sameV v' v then some ((), T) else none
  | none => none

def reserveT (n : Nat) : TM Nat := fun T => some (T.next, ⟨T.next + n, T.t⟩)

noncomputable def evStepsT {β : Type} (P : Program) (call : CallT) (n base : Nat) (ops : Array Oper) : List Step → (Nat → Option (Fr × Value)) → (Fr → TM β) → Fr → TM β
  | [], _, k, fr => k fr
  | .ex i :: rest, sv, k, fr =>
    match ops.toList[i]? with
    | none => TM.fail
    | some o =>
      (match o.guard, totV (ev fr) o.op with
      | none, some v => evStepsT P call n base ops rest (fun j => bif Nat.beq j i then some (fr, v) else sv j) k (putF n fr o.dst v)
      | _, _ => TM.bind (evGT P call (some (base + i)) ops fr o) fun v => evStepsT P call n base ops rest (fun j => bif Nat.beq j i then some (fr, v) else sv j) k (putF n fr o.dst v))
  | .rc i :: rest, sv, k, fr =>
    match ops.toList[i]?, sv i with
    | some o, some (fr', v) => TM.bind (againT (evGT P call none ops fr' o) v) fun _ => evStepsT P call n base ops rest sv k fr
    | _, _ => TM.fail

def jnT (ks : List Nat) : Ex → Fr → TM R := fun ex fr => TM.pure (ex, gather ks fr)

noncomputable def thenKT {β : Type} (kn : Fr → TM β) (ke : Ex → Fr → TM β) : Ex → Fr → TM β
  | .normal, fr => kn fr
  | .ret, fr => ke .ret fr
  | .exit j, fr => ke (.exit j) fr

noncomputable def blkKT {β : Type} (id : Nat) (k : Ex → Fr → TM β) : Ex → Fr → TM β
  | .normal, fr => k .normal fr
  | .ret, fr => k .ret fr
  | .exit j, fr => bif Nat.beq j id then k .normal fr else k (.exit j) fr

noncomputable def onlyNT {β : Type} (e : Ex) (m : TM β) : TM β :=
  match e with
  | .normal => m
  | _ => TM.fail

noncomputable def condBT {β : Type} (v : Value) (x y : TM β) : TM β :=
  match v with
  | .bool true => x
  | .bool false => y
  | _ => TM.fail

abbrev LoopT := (List Value → TM R) → List Value → TM R

noncomputable def evCT {β : Type} (P : Program) (call : CallT) (lp : LoopT) (n : Nat) : Ann → Code → (Ex → Fr → TM β) → Fr → TM β := fun ann c => match c, ann with
  | .skip, _ => fun k fr => k .normal fr
  | .label _, _ => fun k fr => k .normal fr
  | .ret, _ => fun k fr => k .ret fr
  | .exit id, _ => fun k fr => k (.exit id) fr
  | .region _ ops false, _ => fun k fr => evOpsT P call n ops ops.toList (k .normal) fr
  | .region _ ops true, .draw steps => fun k fr =>
    if planOk P ops steps = true then TM.bind (reserveT ops.size) fun base => evStepsT P call n base ops steps (fun _ => none) (k .normal) fr else TM.fail
  | .seq a b, .seq x y => fun k fr => evCT P call lp n x a (thenKT (evCT P call lp n y b k) k) fr
  | .cond c a b, .cond x y => fun k fr => condBT (ev fr c) (evCT P call lp n x a k fr) (evCT P call lp n y b k fr)
  | .cond c a b, .join ks x y => fun k fr =>
    TM.bind (condBT (ev fr c) (evCT P call lp n x a (jnT ks) fr) (evCT P call lp n y b (jnT ks) fr)) fun r => k r.1 (scatter ks r.2)
  | .cond c a b, .joinN ks x y => fun k fr =>
    TM.bind (condBT (ev fr c) (evCT P call lp n x a (jnT ks) fr) (evCT P call lp n y b (jnT ks) fr)) fun r => onlyNT r.1 (k .normal (scatter ks r.2))
  | .block id (.loop c), .loop ks x => fun k fr =>
    TM.bind (lp (fun vs => evCT P call lp n x c (jnT ks) (scatter ks vs)) (gather ks fr)) fun r => k (unblk id r.1) (scatter ks r.2)
  | .block id (.loop c), .loopN ks x => fun k fr =>
    TM.bind (lp (fun vs => evCT P call lp n x c (jnT ks) (scatter ks vs)) (gather ks fr)) fun r => onlyNT (unblk id r.1) (k .normal (scatter ks r.2))
  | .block id c, .blockJ ks x => fun k fr =>
    TM.bind (evCT P call lp n x c (jnT ks) fr) fun r => k (unblk id r.1) (scatter ks r.2)
  | .block id c, .blockN ks x => fun k fr =>
    TM.bind (evCT P call lp n x c (jnT ks) fr) fun r => onlyNT (unblk id r.1) (k .normal (scatter ks r.2))
  | .block id c, .block x => fun k fr => evCT P call lp n x c (blkKT id k) fr
  | .scope c, x => fun k fr => evCT P call lp n x c k fr
  | _, _ => fun _ _ => TM.fail

noncomputable def evResT (P : Program) (fr : Fr) : List ResultVar → (List Value → TM Value) → TM Value
  | [], k => k []
  | .tmp t :: rest, k => evResT P fr rest fun vs => k (fr t :: vs)
  | .cell a t :: rest, k => TM.bind (pureT (load P t (fr a))) fun v => evResT P fr rest fun vs => k (v :: vs)

noncomputable def k0T (P : Program) (rs : List ResultVar) : Ex → Fr → TM Value
  | .normal, fr => evResT P fr rs fun vs => TM.pure (resV vs)
  | .ret, fr => evResT P fr rs fun vs => TM.pure (resV vs)
  | .exit _, _ => TM.fail

noncomputable def evBodyT (P : Program) (call : CallT) (lp : LoopT) (ann : Ann) (fn : Func) (args : List Value) : TM Value :=
  match fn.body with
  | some c => if args.length ≤ fn.ntmps then evCT P call lp fn.ntmps ann c (k0T P fn.results.toList) (fun i => args.getD i undef) else TM.fail
  | none => TM.fail

noncomputable def iterT (step : List Value → TM R) : Nat → List Value → TM R
  | 0, _ => TM.fail
  | n + 1, vs => TM.bind (step vs) fun r => match r.1 with
    | .normal => iterT step n r.2
    | _ => TM.pure r

noncomputable def evFunT (P : Program) (ann : FuncId → Ann) (prim : FuncId → Option (List Value → TM Value)) : Nat → CallT
  | 0 => fun _ _ => TM.fail
  | m + 1 => fun f args =>
    match prim f with
    | some p => p args
    | none =>
      match P.funcs[f]? with
      | some fn => evBodyT P (evFunT P ann prim m) (fun step vs => iterT step m vs) (ann f) fn args
      | none => TM.fail

/-! ### It gives what the other gives -/

section
variable {P : Program} {callT : CallT} {call : CallF}

def CallSim (callT : CallT) (call : CallF) : Prop := ∀ f args, SimT (callT f args) (call f args)

theorem evOp_noCall {alc : Option Nat} {ρ : Operand → Value} {o : Oper} (h : isCallOp o.op = false) : evOp P noCall alc ρ o = evOp P call alc ρ o := by
  obtain ⟨dst, op, ty, pos, after, guard⟩ := o
  cases op <;> (try rfl)
  case makeFunc fn first captured => cases fn <;> rfl
  case next it b => cases b <;> rfl
  case typeAssert x xt t b => cases b <;> rfl
  case call c =>
    obtain ⟨callee, args, ats⟩ := c
    cases callee with
    | builtin b => rfl
    | value f => simp [isCallOp] at h
    | invoke r n => simp [isCallOp] at h

theorem mem_idsOf {alc : Option Nat} {ρ : Operand → Value} {o : Oper} : (∀ b, alc = some b → b ∈ idsOf alc ρ o) ∧ (∀ x ∈ o.op.operands, ∀ b ∈ vblk (ρ x), b ∈ idsOf alc ρ o) := by
  constructor
  · intro b hb; simp [idsOf, idsL, hb]
  · intro x hx b hb
    simp only [idsOf, idsL, List.mem_append, List.mem_flatMap, List.mem_map]
    exact .inr ⟨ρ x, ⟨x, Array.mem_toList_iff.2 hx, rfl⟩, hb⟩

theorem plainT_sim {alc : Option Nat} {ρ : Operand → Value} {o : Oper} (h : isCallOp o.op = false) : SimT (plainT P alc ρ o) (evOp P call alc ρ o) := by
  rw [← evOp_noCall (P := P) (call := call) h]
  have hf : Foot (idsOf alc ρ o) (evOp P noCall alc ρ o) := foot_op h mem_idsOf.1 mem_idsOf.2
  unfold plainT
  split
  · rename_i hk; exact SimT.read (pure_ops hk).read
  · rename_i hk; exact SimT.read (read_ops hk)
  · exact SimT.step hf
  · exact SimT.step hf

theorem liftT_sim {o p : Option Value} (h : o = p) : SimT (liftT o) (M.lift p) := by
  subst h
  intro T v T' e
  unfold liftT at e
  cases o with
  | none => cases e
  | some u =>
    cases e
    rfl

theorem callVT_sim (hc : CallSim callT call) (f : Value) (args : List Value) : SimT (callVT callT f args) (callV call f args) := by
  unfold callVT callV
  split
  · exact hc _ _
  · exact SimT.fail _

theorem evOpT_sim (hc : CallSim callT call) {alc : Option Nat} {ρ : Operand → Value} (o : Oper) : SimT (evOpT P callT alc ρ o) (evOp P call alc ρ o) := by
  by_cases h : isCallOp o.op = true
  · obtain ⟨dst, op, ty, pos, after, guard⟩ := o
    cases op <;> (try (simp [isCallOp] at h; done))
    rename_i c
    obtain ⟨callee, args, ats⟩ := c
    cases callee with
    | builtin b => simp [isCallOp] at h
    | value f => exact callVT_sim hc _ _
    | invoke r name =>
      show SimT (invT P callT name (ρ r) (args.toList.map ρ)) (match ρ r with
        | .iface t v => (match methP P t name with
          | some f => call f (v :: args.toList.map ρ)
          | none => M.fail)
        | _ => M.fail)
      unfold invT
      split
      · split
        · exact hc _ _
        · exact SimT.fail _
      · exact SimT.fail _
  · have h' : isCallOp o.op = false := by simpa using h
    unfold evOpT
    split
    · rename_i c hc'
      have e : callOpT P callT alc ρ o c = plainT P alc ρ o := by
        unfold callOpT
        split
        · rename_i f hf; rw [hc'] at h'; obtain ⟨callee, args, ats⟩ := c; simp only at hf; subst hf; simp [isCallOp] at h'
        · rename_i r n hf; rw [hc'] at h'; obtain ⟨callee, args, ats⟩ := c; simp only at hf; subst hf; simp [isCallOp] at h'
        · rfl
      rw [e]; exact plainT_sim h'
    · rename_i op t x y u ho
      have e : evOp P call alc ρ o = M.lift (bif isNilC x || isNilC y then binNil P op t (ρ x) (ρ y) else binV P op t (ρ x) (ρ y)) := by
        unfold evOp; rw [ho]
      rw [e]
      refine liftT_sim ?_
      cases isNilC x || isNilC y with
      | true => rfl
      | false => exact binQ_eq _ _ _ _ _
    · rename_i t x i ho
      split
      · rename_i hu
        have e : evOp P call alc ρ o = M.lift (indexStr (ρ x) (ρ i)) := by
          unfold evOp; rw [ho]; simp only [hu]
        rw [e]
        exact liftT_sim (indexStrQ_eq _ _)
      · exact plainT_sim h'
    · rename_i t x lo hi mx ho
      split
      · rename_i hu
        split
        · exact SimT.fail _
        · rename_i hm
          have e : evOp P call alc ρ o = M.lift (sliceStr (ρ x) (lo.map ρ) (hi.map ρ)) := by
            unfold evOp; rw [ho]; simp only [hu, hm, if_false]; rfl
          rw [e]
          exact liftT_sim (sliceStrQ_eq _ _ _)
      · exact plainT_sim h'
    · rename_i it s ho
      cases s with
      | false => exact plainT_sim h'
      | true =>
        have e : evOp P call alc ρ o = nextStr (ρ it) := by unfold evOp; rw [ho]
        rw [e, ← nextStrQ_eq]
        refine SimT.step ?_
        rw [nextStrQ_eq]
        exact Foot.nextStr fun b hb => by simp [idsL, hb]
    · exact plainT_sim h'

theorem guardT_sim {c : Option Bool} {X : TM Value} {Y : M Value} (h : SimT X Y) : SimT (guardT c X) (guardM c Y) := by
  unfold guardT guardM
  split
  · exact h
  · exact SimT.pure _
  · exact SimT.fail _

theorem evGT_sim (hc : CallSim callT call) {alc : Option Nat} {ops : Array Oper} {fr : Fr} (o : Oper) : SimT (evGT P callT alc ops fr o) (evG P call alc ops fr o) := by
  unfold evGT evG
  cases hg : o.guard with
  | none => simp only; exact evOpT_sim hc o
  | some jw =>
    obtain ⟨j, w⟩ := jw
    simp only
    cases (ops.toList[j]?).bind (·.dst) with
    | none => exact SimT.pure _
    | some d => exact guardT_sim (evOpT_sim hc o)

theorem evOpsT_sim {β : Type} (hc : CallSim callT call) {n : Nat} {ops : Array Oper} {kT : Fr → TM β} {k : Fr → M β} (hk : ∀ fr, SimT (kT fr) (k fr)) :
    ∀ (l : List Oper) (fr : Fr), SimT (evOpsT P callT n ops l kT fr) (evOps P call n ops l k fr)
  | [], fr => hk fr
  | o :: rest, fr => by
    have gen : SimT (TM.bind (evGT P callT none ops fr o) fun v => evOpsT P callT n ops rest kT (putF n fr o.dst v)) (M.bind (evG P call none ops fr o) fun v => evOps P call n ops rest k (putF n fr o.dst v)) :=
      (evGT_sim hc o).bind fun v => evOpsT_sim hc hk rest _
    cases hg : o.guard with
    | some jw => simp only [evOpsT, evOps, hg]; exact gen
    | none =>
      cases ht : totV (ev fr) o.op with
      | none => simp only [evOpsT, evOps, hg, ht]; exact gen
      | some v => simp only [evOpsT, evOps, hg, ht]; exact evOpsT_sim hc hk rest _

theorem same0_eq {x y : Value} (h : same0 x y = true) : x = y := by
  unfold same0 at h
  split at h <;> simp_all
  rename_i a b
  cases a; cases b
  simp at h
  congr

theorem same0L_eq : ∀ {xs ys : List Value}, same0L xs ys = true → xs = ys
  | [], [], _ => rfl
  | x :: xs, y :: ys, h => by
    simp only [same0L, Bool.and_eq_true] at h
    rw [same0_eq h.1, same0L_eq h.2]
  | [], _ :: _, h => by simp [same0L] at h
  | _ :: _, [], h => by simp [same0L] at h

theorem same1_eq {x y : Value} (h : same1 x y = true) : x = y := by
  unfold same1 at h
  split at h
  · rename_i f xs ys g us vs
    simp only [Bool.and_eq_true, beq_iff_eq] at h
    obtain ⟨⟨h1, h2⟩, h3⟩ := h
    have e2 := same0L_eq h2
    have e3 := same0L_eq h3
    cases xs; cases ys; cases us; cases vs
    simp only at e2 e3
    subst h1; subst e2; subst e3
    rfl
  · exact same0_eq h

theorem sameL_eq : ∀ {xs ys : List Value}, sameL xs ys = true → xs = ys
  | [], [], _ => rfl
  | x :: xs, y :: ys, h => by
    simp only [sameL, Bool.and_eq_true] at h
    rw [same1_eq h.1, sameL_eq h.2]
  | [], _ :: _, h => by simp [sameL] at h
  | _ :: _, [], h => by simp [sameL] at h

theorem sameV_eq {x y : Value} (h : sameV x y = true) : x = y := by
  unfold sameV at h
  split at h
  · have := sameL_eq h; rename_i a b; cases a; cases b; simp at this; rw [this]
  · have := sameL_eq h; rename_i a b; cases a; cases b; simp at this; rw [this]
  · simp only [Bool.and_eq_true, decide_eq_true_eq] at h
    rw [h.1, same1_eq h.2]
  · exact same1_eq h

theorem againT_sim {X : TM Value} {Y : M Value} (h : SimT X Y) (v : Value) : SimT (againT X v) (again Y v) := by
  intro T u T' e
  unfold againT at e
  cases hx : X T with
  | none => simp [hx] at e
  | some p =>
    obtain ⟨v', T1⟩ := p
    simp only [hx] at e
    cases hs : sameV v' v with
    | false => simp [hs] at e
    | true =>
      simp only [hs, cond_true] at e
      cases e
      have e1 := h _ _ _ hx
      show again Y v T.ah = _
      simp only [again, e1, sameV_eq hs, if_true]

theorem reserveT_sim (n : Nat) : SimT (reserveT n) (reserve n) := fun T v T' e => by cases e; rfl

theorem evStepsT_sim {β : Type} (hc : CallSim callT call) {n base : Nat} {ops : Array Oper} {kT : Fr → TM β} {k : Fr → M β} (hk : ∀ fr, SimT (kT fr) (k fr)) :
    ∀ (l : List Step) (sv : Nat → Option (Fr × Value)) (fr : Fr), SimT (evStepsT P callT n base ops l sv kT fr) (evSteps P call n base ops l sv k fr)
  | [], sv, fr => hk fr
  | .ex i :: rest, sv, fr => by
    cases ho : ops.toList[i]? with
    | none => simp only [evStepsT, ho]; exact SimT.fail _
    | some o =>
      have gen := (evGT_sim (P := P) hc (alc := some (base + i)) (ops := ops) (fr := fr) o).bind fun v => evStepsT_sim hc (n := n) (base := base) (ops := ops) hk rest (fun j => bif Nat.beq j i then some (fr, v) else sv j) (putF n fr o.dst v)
      cases hg : o.guard with
      | some jw => simp only [evStepsT, evSteps, ho, hg]; exact gen
      | none =>
        cases ht : totV (ev fr) o.op with
        | none => simp only [evStepsT, evSteps, ho, hg, ht]; exact gen
        | some v => simp only [evStepsT, evSteps, ho, hg, ht]; exact evStepsT_sim hc hk rest _ _
  | .rc i :: rest, sv, fr => by
    cases ho : ops.toList[i]? with
    | none => simp only [evStepsT, ho]; exact SimT.fail _
    | some o =>
      cases hs : sv i with
      | none => simp only [evStepsT, ho, hs]; exact SimT.fail _
      | some fv =>
        obtain ⟨fr', v⟩ := fv
        simp only [evStepsT, evSteps, ho, hs]
        exact (againT_sim (evGT_sim (P := P) hc (alc := none) (ops := ops) (fr := fr') o) v).bind fun _ => evStepsT_sim hc hk rest sv fr

def LoopSim (lpT : LoopT) (lp : LoopF) : Prop := ∀ (stepT : List Value → TM R) (step : List Value → M R), (∀ vs, SimT (stepT vs) (step vs)) → ∀ vs, SimT (lpT stepT vs) (lp step vs)

variable {lpT : LoopT} {lp : LoopF}

def TellsSim (P : Program) (callT : CallT) (call : CallF) (lpT : LoopT) (lp : LoopF) (n : Nat) (c : Code) : Prop :=
  ∀ {β : Type} (ann : Ann) (kT : Ex → Fr → TM β) (k : Ex → Fr → M β) (fr : Fr), (∀ ex fr, SimT (kT ex fr) (k ex fr)) →
    SimT (evCT P callT lpT n ann c kT fr) (evC P call lp n ann c k fr)

theorem condBT_sim {β : Type} {v : Value} {X X' : TM β} {Y Y' : M β} (h : SimT X Y) (h' : SimT X' Y') : SimT (condBT v X X') (condB v Y Y') := by
  unfold condBT condB
  split
  · exact h
  · exact h'
  · exact SimT.fail _

theorem onlyNT_sim {β : Type} {e : Ex} {X : TM β} {Y : M β} (h : SimT X Y) : SimT (onlyNT e X) (onlyN e Y) := by
  unfold onlyNT onlyN
  split
  · exact h
  · exact SimT.fail _

theorem blkKT_sim {β : Type} {id : Nat} {kT : Ex → Fr → TM β} {k : Ex → Fr → M β} (hk : ∀ ex fr, SimT (kT ex fr) (k ex fr)) : ∀ ex fr, SimT (blkKT id kT ex fr) (blkK id k ex fr) := by
  intro ex fr
  cases ex with
  | normal => exact hk .normal fr
  | ret => exact hk .ret fr
  | exit j =>
    cases hb : Nat.beq j id with
    | true => simp only [blkKT, blkK, hb, cond_true]; exact hk .normal fr
    | false => simp only [blkKT, blkK, hb, cond_false]; exact hk (.exit j) fr

theorem evCT_sim (hc : CallSim callT call) (hlp : LoopSim lpT lp) {n : Nat} (c : Code) : TellsSim P callT call lpT lp n c ∧ ∀ body, c = .loop body → TellsSim P callT call lpT lp n body := by
  have jk : ∀ (ks : List Nat) ex fr, SimT (jnT ks ex fr) (jn ks ex fr) := fun ks ex fr => SimT.pure _
  induction c with
  | skip => exact ⟨fun ann kT k fr hk => hk .normal fr, fun _ e => by cases e⟩
  | label l => exact ⟨fun ann kT k fr hk => hk .normal fr, fun _ e => by cases e⟩
  | ret => exact ⟨fun ann kT k fr hk => hk .ret fr, fun _ e => by cases e⟩
  | exit id => exact ⟨fun ann kT k fr hk => hk (.exit id) fr, fun _ e => by cases e⟩
  | region id ops draw =>
    refine ⟨fun ann kT k fr hk => ?_, fun _ e => by cases e⟩
    cases draw with
    | false => exact evOpsT_sim hc (fun fr => hk .normal fr) ops.toList fr
    | true =>
      cases ann with
      | draw steps =>
        by_cases hp : planOk P ops steps = true
        · unfold evCT evC
          rw [if_pos hp, if_pos hp]
          exact (reserveT_sim _).bind fun base => evStepsT_sim hc (fun fr => hk .normal fr) steps _ fr
        · unfold evCT
          rw [if_neg hp]; exact SimT.fail _
      | _ => exact SimT.fail _
  | seq x y ihx ihy =>
    refine ⟨fun ann kT k fr hk => ?_, fun _ e => by cases e⟩
    cases ann with
    | seq p q =>
      refine ihx.1 p _ _ fr fun ex fr => ?_
      cases ex with
      | normal => exact ihy.1 q kT k fr hk
      | ret => exact hk .ret fr
      | exit id => exact hk (.exit id) fr
    | _ => exact SimT.fail _
  | cond o x y ihx ihy =>
    refine ⟨fun ann kT k fr hk => ?_, fun _ e => by cases e⟩
    cases ann with
    | cond p q => exact condBT_sim (ihx.1 p kT k fr hk) (ihy.1 q kT k fr hk)
    | join ks p q =>
      exact (condBT_sim (ihx.1 p (jnT ks) (jn ks) fr (jk ks)) (ihy.1 q (jnT ks) (jn ks) fr (jk ks))).bind fun r => hk r.1 (scatter ks r.2)
    | joinN ks p q =>
      exact (condBT_sim (ihx.1 p (jnT ks) (jn ks) fr (jk ks)) (ihy.1 q (jnT ks) (jn ks) fr (jk ks))).bind fun r => onlyNT_sim (hk .normal (scatter ks r.2))
    | _ => exact SimT.fail _
  | block id c ih =>
    refine ⟨fun ann kT k fr hk => ?_, fun _ e => by cases e⟩
    cases ann with
    | blockJ ks x =>
      have := (ih.1 x (jnT ks) (jn ks) fr (jk ks)).bind fun r => hk (unblk id r.1) (scatter ks r.2)
      cases c <;> exact this
    | blockN ks x =>
      have := (ih.1 x (jnT ks) (jn ks) fr (jk ks)).bind fun r => onlyNT_sim (e := unblk id r.1) (hk .normal (scatter ks r.2))
      cases c <;> exact this
    | block x =>
      have := ih.1 x (blkKT id kT) (blkK id k) fr (blkKT_sim hk)
      cases c <;> exact this
    | loop ks x =>
      cases c with
      | loop body =>
        have hb := @ih.2
        have hbody : TellsSim P callT call lpT lp n body := by
          unfold TellsSim; intro β; exact hb body rfl
        exact (hlp _ _ (fun vs => hbody x (jnT ks) (jn ks) (scatter ks vs) (jk ks)) (gather ks fr)).bind fun r => hk (unblk id r.1) (scatter ks r.2)
      | _ => exact SimT.fail _
    | loopN ks x =>
      cases c with
      | loop body =>
        have hb := @ih.2
        have hbody : TellsSim P callT call lpT lp n body := by
          unfold TellsSim; intro β; exact hb body rfl
        exact (hlp _ _ (fun vs => hbody x (jnT ks) (jn ks) (scatter ks vs) (jk ks)) (gather ks fr)).bind fun r => onlyNT_sim (e := unblk id r.1) (hk .normal (scatter ks r.2))
      | _ => exact SimT.fail _
    | _ => cases c <;> exact SimT.fail _
  | scope c ih => exact ⟨fun ann kT k fr hk => ih.1 ann kT k fr hk, fun _ e => by cases e⟩
  | loop c ih =>
    have h1 := @ih.1
    refine ⟨fun ann kT k fr hk => ?_, fun body e => by cases e; unfold TellsSim; intro β; exact h1⟩
    cases ann <;> exact SimT.fail _
  | _ =>
    refine ⟨fun ann kT k fr hk => ?_, fun _ e => by cases e⟩
    cases ann <;> exact SimT.fail _

theorem evResT_sim {fr : Fr} : ∀ (rs : List ResultVar) (kT : List Value → TM Value) (k : List Value → M Value), (∀ vs, SimT (kT vs) (k vs)) → SimT (evResT P fr rs kT) (evRes P fr rs k)
  | [], kT, k, h => h []
  | .tmp t :: rest, kT, k, h => evResT_sim rest _ _ fun vs => h _
  | .cell a t :: rest, kT, k, h => (SimT.read (ReadM.load t (fr a))).bind fun v => evResT_sim rest _ _ fun vs => h _

theorem evBodyT_sim (hc : CallSim callT call) (hlp : LoopSim lpT lp) (ann : Ann) (fn : Func) (args : List Value) : SimT (evBodyT P callT lpT ann fn args) (evBody P call lp ann fn args) := by
  unfold evBodyT evBody
  cases fn.body with
  | none => exact SimT.fail _
  | some c =>
    simp only
    by_cases hl : args.length ≤ fn.ntmps
    · rw [if_pos hl, if_pos hl]
      refine (evCT_sim hc hlp c).1 ann _ _ _ fun ex fr => ?_
      cases ex with
      | normal => exact evResT_sim _ _ _ fun vs => SimT.pure _
      | ret => exact evResT_sim _ _ _ fun vs => SimT.pure _
      | exit j => exact SimT.fail _
    · rw [if_neg hl]; exact SimT.fail _

end

theorem iterT_sim {sT : List Value → TM R} {s : List Value → M R} (h : ∀ vs, SimT (sT vs) (s vs)) : ∀ (n : Nat) vs, SimT (iterT sT n vs) (iter s n vs)
  | 0, vs => SimT.fail _
  | n + 1, vs => by
    unfold iterT iter
    refine (h vs).bind fun r => ?_
    cases r.1 with
    | normal => exact iterT_sim h n _
    | ret => exact SimT.pure _
    | exit j => exact SimT.pure _

/-- The prims of the quick one are those of the other. -/
def PrimSim (E : Env) (prim : FuncId → Option (List Value → TM Value)) : Prop :=
  ∀ f, match prim f with
    | some pT => ∃ p, E.prim f = some p ∧ ∀ args, SimT (pT args) (p args)
    | none => E.prim f = none

theorem evFunT_sim {E : Env} {prim : FuncId → Option (List Value → TM Value)} (hp : PrimSim E prim) : ∀ (m : Nat), CallSim (evFunT E.P E.ann prim m) (evFun E m)
  | 0 => fun _ _ => SimT.fail _
  | m + 1 => fun f args => by
    have h := hp f
    unfold evFunT evFun
    cases hx : prim f with
    | some pT =>
      simp only [hx] at h
      obtain ⟨p, h1, h2⟩ := h
      simp only [h1]
      exact h2 args
    | none =>
      simp only [hx] at h
      simp only [h]
      cases E.P.funcs[f]? with
      | none => exact SimT.fail _
      | some fn => exact evBodyT_sim (evFunT_sim hp m) (fun sT s hs vs => iterT_sim hs m vs) _ _ _

/-- A quick run tells the meaning. -/
theorem den_of_quick {E : Env} {prim : FuncId → Option (List Value → TM Value)} (hp : PrimSim E prim) {m : Nat} {f : FuncId} {args : List Value} {T T' : TH} {v : Value}
    (h : evFunT E.P E.ann prim m f args T = some (v, T')) : den E f args T.ah = some (v, T'.ah) :=
  den_iff.2 ⟨m, evFunT_sim hp m f args _ _ _ h⟩

end Go.Proofs.YtepchknpgeopfaaGreatDoor.E
