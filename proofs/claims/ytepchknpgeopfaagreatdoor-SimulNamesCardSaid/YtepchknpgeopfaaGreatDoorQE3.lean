/-
  SEAT E: the quick terms of the functions that the closed run comes to (printed by wip/gen/qgen.py), part 3.
-/
import Derived.Test.YtepchknpgeopfaaGreatDoorAnnE
import Derived.Test.YtepchknpgeopfaaGreatDoorEng25
import Derived.Test.YtepchknpgeopfaaGreatDoorProg
import Derived.KernelRfl
set_option linter.unusedVariables false
set_option linter.unusedSimpArgs false
namespace Go.Proofs.YtepchknpgeopfaaGreatDoor.E
open Go
set_option maxRecDepth 100000

noncomputable def q_233 : QFn := fun call lp args => match args with
  | [a0, a1, a2] =>
    TM.bind (pureT (M.lift (nilChk a0))) fun t1 => TM.bind (pureT (M.lift (addP 7 t1))) fun t2 => TM.bind (pureT (load Tryz.prog 62 t2)) fun t3 => TM.bind (call 161 [t3, a1]) fun t4 => TM.bind (pureT (M.lift (extr 0 t4))) fun t5 => TM.bind (pureT (M.lift (extr 1 t4))) fun t6 => TM.bind (pureT (M.lift (nilChk a0))) fun t7 => TM.bind (pureT (M.lift (addP 7 t7))) fun t8 => TM.bind (pureT (load Tryz.prog 62 t8)) fun t9 => TM.bind (call 288 [t9, a1, a2]) fun t10 => TM.bind (pureT (M.lift (nilChk a0))) fun t11 => TM.bind (pureT (M.lift (addP 12 t11))) fun t12 => TM.bind (stepT (store 1 t12 (.bool true)) (idsL none [t12, (.bool true)])) fun t13 => TM.bind (pureT (M.lift (nilChk a0))) fun t14 => TM.bind (pureT (M.lift (addP 10 t14))) fun t15 => TM.bind (pureT (load Tryz.prog 4 t15)) fun t16 => TM.bind (guardT (wantV t16 false) (pureT (M.pure t5))) fun t17 => TM.bind (guardT (wantV t16 false) (pureT (M.pure a2))) fun t18 => TM.bind (guardT (wantV t16 false) (liftT (binQ Tryz.prog .neq 3 t17 t18))) fun t19 => TM.bind (pureT (M.lift (pickV t16 (.bool true) t19))) fun t20 => TM.bind (pureT (M.lift (nilChk a0))) fun t21 => TM.bind (pureT (M.lift (addP 10 t21))) fun t22 => TM.bind (stepT (store 1 t22 t20) (idsL none [t22, t20])) fun t23 => TM.pure (.tuple #[])
  | _ => TM.fail
theorem q_233_eq (call : CallT) (lp : LoopT) (a0 : Value) (a1 : Value) (a2 : Value) : evBodyT Tryz.prog call lp ann_233 Tryz.f233 [a0, a1, a2] = q_233 call lp [a0, a1, a2] := by kernel_rfl
theorem q_233_ok : QOk Tryz.prog annS 233 q_233 := by
  refine ⟨Tryz.f233, by kernel_rfl, fun call lp args T r h => ?_⟩
  have ha : annS 233 = ann_233 := by kernel_rfl
  rw [ha]
  unfold q_233 at h
  split at h
  · rw [q_233_eq]; exact h
  · cases h

noncomputable def q_235 : QFn := fun call lp args => match args with
  | [a0, a1] =>
    TM.bind (call 82 [a0]) fun t1 => TM.bind (guardT (wantV t1 false) (pureT (M.pure a1))) fun t2 => TM.bind (guardT (wantV t1 false) (liftT (binQ Tryz.prog .lss 3 t2 (.int .i64 (1))))) fun t3 => TM.bind (pureT (M.lift (pickV t1 (.bool true) t3))) fun t4 => TM.bind (guardT (wantV t4 false) (pureT (M.pure a1))) fun t5 => TM.bind (guardT (wantV t4 false) (liftT (binQ Tryz.prog .gtr 3 t5 (.int .i64 (18))))) fun t6 => TM.bind (pureT (M.lift (pickV t4 (.bool true) t6))) fun t7 => condBT t7 (TM.pure (.tuple #[(.int .i64 (0)), (.int .i64 (1))])) (TM.bind (call 289 [a1]) fun t8 => TM.bind (pureT (M.lift (nilChk a0))) fun t9 => TM.bind (pureT (M.lift (addP 5 t9))) fun t10 => TM.bind (pureT (load Tryz.prog 3 t10)) fun t11 => TM.bind (pureT (M.lift (nilChk a0))) fun t12 => TM.bind (pureT (M.lift (addP 4 t12))) fun t13 => TM.bind (pureT (load Tryz.prog 168 t13)) fun t14 => TM.bind (call 290 [t14, t8]) fun t15 => TM.bind (liftT (binQ Tryz.prog .geq 3 t15 (.int .i64 (0)))) fun t16 => TM.bind (condBT t16 (TM.bind (pureT (M.lift (nilChk a0))) fun t17 => TM.bind (pureT (M.lift (addP 4 t17))) fun t18 => TM.bind (pureT (load Tryz.prog 168 t18)) fun t19 => TM.bind (pureT (M.lift (indexS 2 t19 t15))) fun t20 => TM.bind (pureT (M.lift (addP 0 t20))) fun t21 => TM.bind (pureT (load Tryz.prog 3 t21)) fun t22 => TM.bind (pureT (M.lift (nilChk a0))) fun t23 => TM.bind (pureT (M.lift (addP 4 t23))) fun t24 => TM.bind (pureT (load Tryz.prog 168 t24)) fun t25 => TM.bind (liftT (binQ Tryz.prog .add 3 t15 (.int .i64 (1)))) fun t26 => TM.bind (call 291 [t25, t15, t26]) fun t27 => TM.bind (pureT (M.lift (nilChk a0))) fun t28 => TM.bind (pureT (M.lift (addP 4 t28))) fun t29 => TM.bind (stepT (store 1 t29 t27) (idsL none [t29, t27])) fun t30 => TM.pure (.normal, [a0, a1, (.int .i64 (0)), (.int .i64 (0)), t8, t22])) (TM.bind (liftT (binQ Tryz.prog .add 3 t11 t8)) fun t31 => TM.bind (liftT (binQ Tryz.prog .gtr 3 t31 (.int .i64 (1100)))) fun t32 => condBT t32 (TM.pure (.ret, [a0, a1, (.int .i64 (0)), (.int .i64 (8)), t8, t11])) (TM.bind (pureT (M.lift (nilChk a0))) fun t33 => TM.bind (pureT (M.lift (addP 5 t33))) fun t34 => TM.bind (pureT (load Tryz.prog 3 t34)) fun t35 => TM.bind (liftT (binQ Tryz.prog .add 3 t35 t8)) fun t36 => TM.bind (pureT (M.lift (nilChk a0))) fun t37 => TM.bind (pureT (M.lift (addP 5 t37))) fun t38 => TM.bind (stepT (store 1 t38 t36) (idsL none [t38, t36])) fun t39 => TM.pure (.normal, [a0, a1, (.int .i64 (0)), (.int .i64 (0)), t8, t11]))) : TM R) fun r40 => exKT r40.1 (TM.bind (pureT (M.lift (nilChk (r40.2.getD 0 junk)))) fun t42 => TM.bind (pureT (M.lift (addP 3 t42))) fun t43 => TM.bind (pureT (load Tryz.prog 167 t43)) fun t44 => TM.bind (stepT (updateM .int t44 (r40.2.getD 5 junk) (r40.2.getD 1 junk)) (idsL none [t44, (r40.2.getD 5 junk), (r40.2.getD 1 junk)])) fun t45 => TM.bind (lp (fun vs46 => TM.bind (liftT (binQ Tryz.prog .add 3 (vs46.getD 2 junk) (vs46.getD 1 junk))) fun t47 => TM.bind (liftT (binQ Tryz.prog .lss 3 (vs46.getD 3 junk) t47)) fun t48 => condBT t48 (TM.bind (TM.bind (pureT (M.lift (nilChk (vs46.getD 0 junk)))) fun t49 => TM.bind (pureT (M.lift (addP 0 t49))) fun t50 => TM.bind (pureT (load Tryz.prog 38 t50)) fun t51 => TM.bind (pureT (M.lift (indexS 1 t51 (vs46.getD 3 junk)))) fun t52 => TM.bind (stepT (store 1 t52 (.int .i64 (0))) (idsL none [t52, (.int .i64 (0))])) fun t53 => TM.bind (pureT (M.lift (nilChk (vs46.getD 0 junk)))) fun t54 => TM.bind (pureT (M.lift (addP 1 t54))) fun t55 => TM.bind (pureT (load Tryz.prog 38 t55)) fun t56 => TM.bind (pureT (M.lift (indexS 1 t56 (vs46.getD 3 junk)))) fun t57 => TM.bind (pureT (load Tryz.prog 3 t57)) fun t58 => TM.bind (liftT (binQ Tryz.prog .add 3 t58 (.int .i64 (1)))) fun t59 => TM.bind (pureT (M.lift (indexS 1 t56 (vs46.getD 3 junk)))) fun t60 => TM.bind (stepT (store 1 t60 t59) (idsL none [t60, t59])) fun t61 => TM.pure (.normal, [(vs46.getD 0 junk), (vs46.getD 1 junk), (vs46.getD 2 junk), (vs46.getD 3 junk)]) : TM R) fun r62 => onlyNT (unblk 1 r62.1) (TM.bind (liftT (binQ Tryz.prog .add 3 (r62.2.getD 3 junk) (.int .i64 (1)))) fun t63 => TM.pure (.normal, [(r62.2.getD 0 junk), (r62.2.getD 1 junk), (r62.2.getD 2 junk), t63]))) (TM.pure (.exit 0, [(vs46.getD 0 junk), (vs46.getD 1 junk), (vs46.getD 2 junk), (vs46.getD 3 junk)]))) [(r40.2.getD 0 junk), (r40.2.getD 4 junk), (r40.2.getD 5 junk), (r40.2.getD 5 junk)] : TM R) fun r64 => onlyNT (unblk 0 r64.1) (TM.pure (.tuple #[(r64.2.getD 2 junk), (.int .i64 (0))]))) (TM.pure (.tuple #[(r40.2.getD 2 junk), (r40.2.getD 3 junk)])) (fun j41 => TM.fail))
  | _ => TM.fail
theorem q_235_eq (call : CallT) (lp : LoopT) (a0 : Value) (a1 : Value) : evBodyT Tryz.prog call lp ann_235 Tryz.f235 [a0, a1] = q_235 call lp [a0, a1] := by kernel_rfl
theorem q_235_ok : QOk Tryz.prog annS 235 q_235 := by
  refine ⟨Tryz.f235, by kernel_rfl, fun call lp args T r h => ?_⟩
  have ha : annS 235 = ann_235 := by kernel_rfl
  rw [ha]
  unfold q_235 at h
  split at h
  · rw [q_235_eq]; exact h
  · cases h

noncomputable def q_236 : QFn := fun call lp args => match args with
  | [a0, a1] =>
    TM.bind (call 242 [a0]) fun t1 => TM.bind (pureT (M.lift (unV .not t1))) fun t2 => condBT t2 (TM.pure (.int .i64 (1))) (TM.bind (pureT (M.lift (nilChk a0))) fun t3 => TM.bind (pureT (M.lift (addP 1 t3))) fun t4 => TM.bind (pureT (load Tryz.prog 225 t4)) fun t5 => TM.bind (invT Tryz.prog call "Born" t5 [a1]) fun t6 => TM.pure t6)
  | _ => TM.fail
theorem q_236_eq (call : CallT) (lp : LoopT) (a0 : Value) (a1 : Value) : evBodyT Tryz.prog call lp ann_236 Tryz.f236 [a0, a1] = q_236 call lp [a0, a1] := by kernel_rfl
theorem q_236_ok : QOk Tryz.prog annS 236 q_236 := by
  refine ⟨Tryz.f236, by kernel_rfl, fun call lp args T r h => ?_⟩
  have ha : annS 236 = ann_236 := by kernel_rfl
  rw [ha]
  unfold q_236 at h
  split at h
  · rw [q_236_eq]; exact h
  · cases h

noncomputable def q_242 : QFn := fun call lp args => match args with
  | [a0] =>
    TM.bind (liftT (binQ Tryz.prog .neq 105 a0 (.pointer none))) fun t1 => TM.bind (guardT (wantV t1 true) (pureT (M.pure a0))) fun t2 => TM.bind (guardT (wantV t1 true) (pureT (M.lift (nilChk t2)))) fun t3 => TM.bind (guardT (wantV t1 true) (pureT (M.lift (addP 1 t3)))) fun t4 => TM.bind (guardT (wantV t1 true) (pureT (load Tryz.prog 225 t4))) fun t5 => TM.bind (guardT (wantV t1 true) (liftT (binNil Tryz.prog .neq 225 t5 .nilIface))) fun t6 => TM.bind (pureT (M.lift (pickV t1 t6 (.bool false)))) fun t7 => TM.pure t7
  | _ => TM.fail
theorem q_242_eq (call : CallT) (lp : LoopT) (a0 : Value) : evBodyT Tryz.prog call lp ann_242 Tryz.f242 [a0] = q_242 call lp [a0] := by kernel_rfl
theorem q_242_ok : QOk Tryz.prog annS 242 q_242 := by
  refine ⟨Tryz.f242, by kernel_rfl, fun call lp args T r h => ?_⟩
  have ha : annS 242 = ann_242 := by kernel_rfl
  rw [ha]
  unfold q_242 at h
  split at h
  · rw [q_242_eq]; exact h
  · cases h

noncomputable def q_245 : QFn := fun call lp args => match args with
  | [a0, a1, a2] =>
    TM.bind (stepT (box none 117 a0) (idsL none [a0])) fun t1 => TM.bind (stepT (box none 44 a1) (idsL none [a1])) fun t2 => TM.bind (stepT (M.bind (newRow none 189 [(.string ⟨#[]⟩), (.int .i64 (0)), (.int .i64 (0)), (.int .i64 (0)), (.int .i64 (0)), (.bool false), .nilFunc]) fun b => M.pure (.pointer (some ⟨b, 0, none⟩))) (idsL none [])) fun t3 => TM.bind (pureT (M.lift (addP 0 t1))) fun t4 => TM.bind (pureT (load Tryz.prog 115 t4)) fun t5 => TM.bind (pureT (lenT (Tryz.prog.underlying 115) t5)) fun t6 => TM.bind (lp (fun vs7 => TM.bind (liftT (binQ Tryz.prog .lss 3 (vs7.getD 6 junk) (vs7.getD 5 junk))) fun t8 => condBT t8 (TM.bind (pureT (M.lift (indexS 7 (vs7.getD 4 junk) (vs7.getD 6 junk)))) fun t9 => TM.bind (pureT (load Tryz.prog 189 t9)) fun t10 => TM.bind (stepT (M.bind (newRow none 189 [(.string ⟨#[]⟩), (.int .i64 (0)), (.int .i64 (0)), (.int .i64 (0)), (.int .i64 (0)), (.bool false), .nilFunc]) fun b => M.pure (.pointer (some ⟨b, 0, none⟩))) (idsL none [])) fun t11 => TM.bind (stepT (store 7 t11 t10) (idsL none [t11, t10])) fun t12 => TM.bind (pureT (M.lift (addP 0 t11))) fun t13 => TM.bind (pureT (load Tryz.prog 9 t13)) fun t14 => TM.bind (pureT (M.lift (addP 0 (vs7.getD 1 junk)))) fun t15 => TM.bind (pureT (load Tryz.prog 9 t15)) fun t16 => TM.bind (liftT (binQ Tryz.prog .eql 9 t14 t16)) fun t17 => TM.bind (guardT (wantV t17 true) (pureT (load Tryz.prog 189 t11))) fun t18 => TM.bind (guardT (wantV t17 true) (pureT (load Tryz.prog 44 (vs7.getD 1 junk)))) fun t19 => TM.bind (guardT (wantV t17 true) (call 292 [t18, t19])) fun t20 => TM.bind (pureT (M.lift (pickV t17 t20 (.bool false)))) fun t21 => TM.bind (guardT (wantV t21 true) (pureT (M.pure (vs7.getD 0 junk)))) fun t22 => TM.bind (guardT (wantV t21 true) (liftT (binQ Tryz.prog .geq 3 t22 (.int .i64 (0))))) fun t23 => TM.bind (pureT (M.lift (pickV t21 t23 (.bool false)))) fun t24 => TM.bind (guardT (wantV t24 true) (pureT (M.pure (vs7.getD 0 junk)))) fun t25 => TM.bind (guardT (wantV t24 true) (pureT (M.lift (addP 4 t11)))) fun t26 => TM.bind (guardT (wantV t24 true) (pureT (load Tryz.prog 3 t26))) fun t27 => TM.bind (guardT (wantV t24 true) (liftT (binQ Tryz.prog .lss 3 t25 t27))) fun t28 => TM.bind (pureT (M.lift (pickV t24 t28 (.bool false)))) fun t29 => condBT t29 (TM.bind (pureT (load Tryz.prog 189 t11)) fun t30 => TM.bind (stepT (store 7 (vs7.getD 2 junk) t30) (idsL none [(vs7.getD 2 junk), t30])) fun t31 => TM.pure (.ret, [(vs7.getD 0 junk), (vs7.getD 1 junk), (vs7.getD 2 junk), (.bool true), (vs7.getD 4 junk), (vs7.getD 5 junk), (vs7.getD 6 junk)])) (TM.bind (liftT (binQ Tryz.prog .add 3 (vs7.getD 6 junk) (.int .i64 (1)))) fun t32 => TM.pure (.normal, [(vs7.getD 0 junk), (vs7.getD 1 junk), (vs7.getD 2 junk), (vs7.getD 3 junk), (vs7.getD 4 junk), (vs7.getD 5 junk), t32]))) (TM.pure (.exit 0, [(vs7.getD 0 junk), (vs7.getD 1 junk), (vs7.getD 2 junk), (vs7.getD 3 junk), (vs7.getD 4 junk), (vs7.getD 5 junk), (vs7.getD 6 junk)]))) [a2, t2, t3, (.bool false), t5, t6, (.int .i64 (0))] : TM R) fun r33 => exKT (unblk 0 r33.1) (TM.bind (pureT (buildM Tryz.prog 189 [])) fun t35 => TM.bind (stepT (store 7 (r33.2.getD 2 junk) t35) (idsL none [(r33.2.getD 2 junk), t35])) fun t36 => TM.bind (pureT (load Tryz.prog 189 (r33.2.getD 2 junk))) fun t37 => TM.pure (.tuple #[t37, (.bool false)])) (TM.bind (pureT (load Tryz.prog 189 (r33.2.getD 2 junk))) fun t38 => TM.pure (.tuple #[t38, (r33.2.getD 3 junk)])) (fun j34 => TM.fail)
  | _ => TM.fail
theorem q_245_eq (call : CallT) (lp : LoopT) (a0 : Value) (a1 : Value) (a2 : Value) : evBodyT Tryz.prog call lp ann_245 Tryz.f245 [a0, a1, a2] = q_245 call lp [a0, a1, a2] := by kernel_rfl
theorem q_245_ok : QOk Tryz.prog annS 245 q_245 := by
  refine ⟨Tryz.f245, by kernel_rfl, fun call lp args T r h => ?_⟩
  have ha : annS 245 = ann_245 := by kernel_rfl
  rw [ha]
  unfold q_245 at h
  split at h
  · rw [q_245_eq]; exact h
  · cases h

noncomputable def q_246 : QFn := fun call lp args => match args with
  | [a0, a1] =>
    TM.bind (call 82 [a0]) fun t1 => condBT t1 (TM.pure (.int .i64 (1))) (TM.bind (call 286 [a0, a1]) fun t2 => TM.bind (pureT (M.lift (unV .not t2))) fun t3 => condBT t3 (TM.pure (.int .i64 (3))) (TM.pure (.int .i64 (0))))
  | _ => TM.fail
theorem q_246_eq (call : CallT) (lp : LoopT) (a0 : Value) (a1 : Value) : evBodyT Tryz.prog call lp ann_246 Tryz.f246 [a0, a1] = q_246 call lp [a0, a1] := by kernel_rfl
theorem q_246_ok : QOk Tryz.prog annS 246 q_246 := by
  refine ⟨Tryz.f246, by kernel_rfl, fun call lp args T r h => ?_⟩
  have ha : annS 246 = ann_246 := by kernel_rfl
  rw [ha]
  unfold q_246 at h
  split at h
  · rw [q_246_eq]; exact h
  · cases h

noncomputable def q_261 : QFn := fun call lp args => match args with
  | [a0, a1, a2] =>
    TM.bind (pureT (load Tryz.prog 3 a1)) fun t1 => TM.bind (liftT (binQ Tryz.prog .lss 3 a0 t1)) fun t2 => TM.bind (guardT (wantV t2 false) (pureT (M.pure a0))) fun t3 => TM.bind (guardT (wantV t2 false) (pureT (load Tryz.prog 3 a2))) fun t4 => TM.bind (guardT (wantV t2 false) (liftT (binQ Tryz.prog .gtr 3 t3 t4))) fun t5 => TM.bind (pureT (M.lift (pickV t2 (.bool true) t5))) fun t6 => TM.pure t6
  | _ => TM.fail
theorem q_261_eq (call : CallT) (lp : LoopT) (a0 : Value) (a1 : Value) (a2 : Value) : evBodyT Tryz.prog call lp ann_261 Tryz.f261 [a0, a1, a2] = q_261 call lp [a0, a1, a2] := by kernel_rfl
theorem q_261_ok : QOk Tryz.prog annS 261 q_261 := by
  refine ⟨Tryz.f261, by kernel_rfl, fun call lp args T r h => ?_⟩
  have ha : annS 261 = ann_261 := by kernel_rfl
  rw [ha]
  unfold q_261 at h
  split at h
  · rw [q_261_eq]; exact h
  · cases h

noncomputable def q_267 : QFn := fun call lp args => match args with
  | [a0, a1] =>
    TM.bind (pureT (lenT (Tryz.prog.underlying 9) a1)) fun t1 => TM.bind (liftT (binQ Tryz.prog .eql 3 t1 (.int .i64 (0)))) fun t2 => condBT t2 (TM.bind (call 298 [a0]) fun t3 => TM.bind (liftT (binQ Tryz.prog .add 3 t3 (.int .i64 (1)))) fun t4 => TM.pure t4) (TM.bind (pureT (lenT (Tryz.prog.underlying 9) a1)) fun t5 => TM.bind (liftT (binQ Tryz.prog .eql 3 t5 (.int .i64 (1)))) fun t6 => condBT t6 (TM.bind (liftT (indexStrQ a1 (.int .i64 (0)))) fun t7 => TM.bind (call 300 [a0, t7]) fun t8 => TM.pure t8) (TM.bind (lp (fun vs9 => TM.bind (call 268 [(vs9.getD 0 junk), (vs9.getD 1 junk)]) fun t10 => TM.bind (liftT (binQ Tryz.prog .eql 3 t10 (.int .i64 (-1)))) fun t11 => condBT t11 (TM.pure (.ret, [(vs9.getD 0 junk), (vs9.getD 1 junk), (vs9.getD 3 junk), (vs9.getD 3 junk)])) (TM.bind (liftT (binQ Tryz.prog .add 3 (vs9.getD 3 junk) (.int .i64 (1)))) fun t12 => TM.bind (pureT (lenT (Tryz.prog.underlying 9) (vs9.getD 1 junk))) fun t13 => TM.bind (liftT (binQ Tryz.prog .add 3 t10 t13)) fun t14 => TM.bind (liftT (sliceStrQ (vs9.getD 0 junk) (some t14) none)) fun t15 => TM.pure (.normal, [t15, (vs9.getD 1 junk), (vs9.getD 2 junk), t12]))) [a0, a1, (.int .i64 (0)), (.int .i64 (0))] : TM R) fun r16 => exKT (unblk 0 r16.1) (TM.pure (r16.2.getD 2 junk)) (TM.pure (r16.2.getD 2 junk)) (fun j17 => TM.fail)))
  | _ => TM.fail
theorem q_267_eq (call : CallT) (lp : LoopT) (a0 : Value) (a1 : Value) : evBodyT Tryz.prog call lp ann_267 Tryz.f267 [a0, a1] = q_267 call lp [a0, a1] := by kernel_rfl
theorem q_267_ok : QOk Tryz.prog annS 267 q_267 := by
  refine ⟨Tryz.f267, by kernel_rfl, fun call lp args T r h => ?_⟩
  have ha : annS 267 = ann_267 := by kernel_rfl
  rw [ha]
  unfold q_267 at h
  split at h
  · rw [q_267_eq]; exact h
  · cases h

noncomputable def q_268 : QFn := fun call lp args => match args with
  | [a0, a1] =>
    TM.bind (call 269 [a0, a1]) fun t1 => TM.pure t1
  | _ => TM.fail
theorem q_268_eq (call : CallT) (lp : LoopT) (a0 : Value) (a1 : Value) : evBodyT Tryz.prog call lp ann_268 Tryz.f268 [a0, a1] = q_268 call lp [a0, a1] := by kernel_rfl
theorem q_268_ok : QOk Tryz.prog annS 268 q_268 := by
  refine ⟨Tryz.f268, by kernel_rfl, fun call lp args T r h => ?_⟩
  have ha : annS 268 = ann_268 := by kernel_rfl
  rw [ha]
  unfold q_268 at h
  split at h
  · rw [q_268_eq]; exact h
  · cases h

noncomputable def q_269 : QFn := fun call lp args => match args with
  | [a0, a1] =>
    TM.bind (pureT (lenT (Tryz.prog.underlying 9) a1)) fun t1 => TM.bind (liftT (binQ Tryz.prog .eql 3 t1 (.int .i64 (0)))) fun t2 => TM.bind (guardT (wantV t2 false) (pureT (M.pure a1))) fun t3 => TM.bind (guardT (wantV t2 false) (pureT (M.pure a0))) fun t4 => TM.bind (guardT (wantV t2 false) (liftT (binQ Tryz.prog .eql 9 t3 t4))) fun t5 => TM.bind (pureT (M.lift (pickV t2 (.bool true) t5))) fun t6 => condBT t6 (TM.pure (.int .i64 (0))) (TM.bind (liftT (binQ Tryz.prog .eql 3 t1 (.int .i64 (1)))) fun t7 => condBT t7 (TM.bind (liftT (indexStrQ a1 (.int .i64 (0)))) fun t8 => TM.bind (call 301 [a0, t8]) fun t9 => TM.pure t9) (TM.bind (pureT (lenT (Tryz.prog.underlying 9) a0)) fun t10 => TM.bind (liftT (binQ Tryz.prog .geq 3 t1 t10)) fun t11 => condBT t11 (TM.pure (.int .i64 (-1))) (TM.bind (pureT (load Tryz.prog 3 junk)) fun t12 => TM.bind (liftT (binQ Tryz.prog .leq 3 t1 t12)) fun t13 => TM.bind (guardT (wantV t13 true) (pureT (M.pure a0))) fun t14 => TM.bind (guardT (wantV t13 true) (pureT (lenT (Tryz.prog.underlying 9) t14))) fun t15 => TM.bind (guardT (wantV t13 true) (liftT (binQ Tryz.prog .leq 3 t15 (.int .i64 (64))))) fun t16 => TM.bind (pureT (M.lift (pickV t13 t16 (.bool false)))) fun t17 => condBT t17 (TM.bind (call 302 [a0, a1]) fun t18 => TM.pure t18) (TM.bind (liftT (indexStrQ a1 (.int .i64 (0)))) fun t19 => TM.bind (liftT (indexStrQ a1 (.int .i64 (1)))) fun t20 => TM.bind (pureT (lenT (Tryz.prog.underlying 9) a0)) fun t21 => TM.bind (liftT (binQ Tryz.prog .sub 3 t21 t1)) fun t22 => TM.bind (liftT (binQ Tryz.prog .add 3 t22 (.int .i64 (1)))) fun t23 => TM.bind (lp (fun vs24 => TM.bind (liftT (binQ Tryz.prog .lss 3 (vs24.getD 6 junk) (vs24.getD 7 junk))) fun t25 => condBT t25 (TM.bind (liftT (indexStrQ (vs24.getD 0 junk) (vs24.getD 6 junk))) fun t26 => TM.bind (liftT (binQ Tryz.prog .neq 5 t26 (vs24.getD 4 junk))) fun t27 => TM.bind (condBT t27 (TM.bind (liftT (binQ Tryz.prog .add 3 (vs24.getD 6 junk) (.int .i64 (1)))) fun t28 => TM.bind (liftT (sliceStrQ (vs24.getD 0 junk) (some t28) (some (vs24.getD 7 junk)))) fun t29 => TM.bind (call 301 [t29, (vs24.getD 4 junk)]) fun t30 => TM.bind (liftT (binQ Tryz.prog .lss 3 t30 (.int .i64 (0)))) fun t31 => condBT t31 (TM.pure (.ret, [(vs24.getD 0 junk), (vs24.getD 1 junk), (.int .i64 (-1)), (vs24.getD 3 junk), (vs24.getD 4 junk), (vs24.getD 5 junk), (vs24.getD 6 junk), (vs24.getD 7 junk), (vs24.getD 8 junk)])) (TM.bind (liftT (binQ Tryz.prog .add 3 t30 (.int .i64 (1)))) fun t32 => TM.bind (liftT (binQ Tryz.prog .add 3 (vs24.getD 6 junk) t32)) fun t33 => TM.pure (.normal, [(vs24.getD 0 junk), (vs24.getD 1 junk), (vs24.getD 2 junk), (vs24.getD 3 junk), (vs24.getD 4 junk), (vs24.getD 5 junk), t33, (vs24.getD 7 junk), (vs24.getD 8 junk)]))) (TM.pure (.normal, [(vs24.getD 0 junk), (vs24.getD 1 junk), (vs24.getD 2 junk), (vs24.getD 3 junk), (vs24.getD 4 junk), (vs24.getD 5 junk), (vs24.getD 6 junk), (vs24.getD 7 junk), (vs24.getD 8 junk)])) : TM R) fun r34 => exKT r34.1 (TM.bind (liftT (binQ Tryz.prog .add 3 (r34.2.getD 6 junk) (.int .i64 (1)))) fun t36 => TM.bind (liftT (indexStrQ (r34.2.getD 0 junk) t36)) fun t37 => TM.bind (liftT (binQ Tryz.prog .eql 5 t37 (r34.2.getD 5 junk))) fun t38 => TM.bind (guardT (wantV t38 true) (pureT (M.pure (r34.2.getD 0 junk)))) fun t39 => TM.bind (guardT (wantV t38 true) (pureT (M.pure (r34.2.getD 6 junk)))) fun t40 => TM.bind (guardT (wantV t38 true) (pureT (M.pure (r34.2.getD 6 junk)))) fun t41 => TM.bind (guardT (wantV t38 true) (pureT (M.pure (r34.2.getD 3 junk)))) fun t42 => TM.bind (guardT (wantV t38 true) (liftT (binQ Tryz.prog .add 3 t41 t42))) fun t43 => TM.bind (guardT (wantV t38 true) (liftT (sliceStrQ t39 (some t40) (some t43)))) fun t44 => TM.bind (guardT (wantV t38 true) (pureT (M.pure (r34.2.getD 1 junk)))) fun t45 => TM.bind (guardT (wantV t38 true) (liftT (binQ Tryz.prog .eql 9 t44 t45))) fun t46 => TM.bind (pureT (M.lift (pickV t38 t46 (.bool false)))) fun t47 => condBT t47 (TM.pure (.ret, [(r34.2.getD 0 junk), (r34.2.getD 1 junk), (r34.2.getD 6 junk), (r34.2.getD 3 junk), (r34.2.getD 4 junk), (r34.2.getD 5 junk), (r34.2.getD 6 junk), (r34.2.getD 7 junk), (r34.2.getD 8 junk)])) (TM.bind (liftT (binQ Tryz.prog .add 3 (r34.2.getD 6 junk) (.int .i64 (1)))) fun t48 => TM.bind (liftT (binQ Tryz.prog .add 3 (r34.2.getD 8 junk) (.int .i64 (1)))) fun t49 => TM.bind (pureT (load Tryz.prog 3 junk)) fun t50 => TM.bind (liftT (binQ Tryz.prog .leq 3 (r34.2.getD 3 junk) t50)) fun t51 => TM.bind (guardT (wantV t51 true) (pureT (M.pure t49))) fun t52 => TM.bind (guardT (wantV t51 true) (pureT (M.pure t48))) fun t53 => TM.bind (guardT (wantV t51 true) (call 303 [t53])) fun t54 => TM.bind (guardT (wantV t51 true) (liftT (binQ Tryz.prog .gtr 3 t52 t54))) fun t55 => TM.bind (pureT (M.lift (pickV t51 t55 (.bool false)))) fun t56 => condBT t56 (TM.bind (liftT (sliceStrQ (r34.2.getD 0 junk) (some t48) none)) fun t57 => TM.bind (call 302 [t57, (r34.2.getD 1 junk)]) fun t58 => TM.bind (liftT (binQ Tryz.prog .geq 3 t58 (.int .i64 (0)))) fun t59 => condBT t59 (TM.bind (liftT (binQ Tryz.prog .add 3 t58 t48)) fun t60 => TM.pure (.ret, [(r34.2.getD 0 junk), (r34.2.getD 1 junk), t60, (r34.2.getD 3 junk), (r34.2.getD 4 junk), (r34.2.getD 5 junk), t48, (r34.2.getD 7 junk), t49])) (TM.pure (.ret, [(r34.2.getD 0 junk), (r34.2.getD 1 junk), (.int .i64 (-1)), (r34.2.getD 3 junk), (r34.2.getD 4 junk), (r34.2.getD 5 junk), t48, (r34.2.getD 7 junk), t49]))) (TM.bind (pureT (load Tryz.prog 3 junk)) fun t61 => TM.bind (liftT (binQ Tryz.prog .gtr 3 (r34.2.getD 3 junk) t61)) fun t62 => TM.bind (guardT (wantV t62 true) (pureT (M.pure t49))) fun t63 => TM.bind (guardT (wantV t62 true) (pureT (M.pure t48))) fun t64 => TM.bind (guardT (wantV t62 true) (liftT (binQ Tryz.prog .shr 3 t64 (.int .u64 (4))))) fun t65 => TM.bind (guardT (wantV t62 true) (liftT (binQ Tryz.prog .add 3 (.int .i64 (4)) t65))) fun t66 => TM.bind (guardT (wantV t62 true) (liftT (binQ Tryz.prog .geq 3 t63 t66))) fun t67 => TM.bind (pureT (M.lift (pickV t62 t67 (.bool false)))) fun t68 => TM.bind (guardT (wantV t68 true) (pureT (M.pure t48))) fun t69 => TM.bind (guardT (wantV t68 true) (pureT (M.pure (r34.2.getD 7 junk)))) fun t70 => TM.bind (guardT (wantV t68 true) (liftT (binQ Tryz.prog .lss 3 t69 t70))) fun t71 => TM.bind (pureT (M.lift (pickV t68 t71 (.bool false)))) fun t72 => condBT t72 (TM.bind (liftT (sliceStrQ (r34.2.getD 0 junk) (some t48) none)) fun t73 => TM.bind (call 304 [t73, (r34.2.getD 1 junk)]) fun t74 => TM.bind (liftT (binQ Tryz.prog .lss 3 t74 (.int .i64 (0)))) fun t75 => condBT t75 (TM.pure (.ret, [(r34.2.getD 0 junk), (r34.2.getD 1 junk), (.int .i64 (-1)), (r34.2.getD 3 junk), (r34.2.getD 4 junk), (r34.2.getD 5 junk), t48, (r34.2.getD 7 junk), t49])) (TM.bind (liftT (binQ Tryz.prog .add 3 t48 t74)) fun t76 => TM.pure (.ret, [(r34.2.getD 0 junk), (r34.2.getD 1 junk), t76, (r34.2.getD 3 junk), (r34.2.getD 4 junk), (r34.2.getD 5 junk), t48, (r34.2.getD 7 junk), t49]))) (TM.pure (.normal, [(r34.2.getD 0 junk), (r34.2.getD 1 junk), (r34.2.getD 2 junk), (r34.2.getD 3 junk), (r34.2.getD 4 junk), (r34.2.getD 5 junk), t48, (r34.2.getD 7 junk), t49]))))) (TM.pure (.ret, [(r34.2.getD 0 junk), (r34.2.getD 1 junk), (r34.2.getD 2 junk), (r34.2.getD 3 junk), (r34.2.getD 4 junk), (r34.2.getD 5 junk), (r34.2.getD 6 junk), (r34.2.getD 7 junk), (r34.2.getD 8 junk)])) (fun j35 => (bif Nat.beq j35 2 then TM.pure (.normal, [(r34.2.getD 0 junk), (r34.2.getD 1 junk), (r34.2.getD 2 junk), (r34.2.getD 3 junk), (r34.2.getD 4 junk), (r34.2.getD 5 junk), (r34.2.getD 6 junk), (r34.2.getD 7 junk), (r34.2.getD 8 junk)]) else TM.pure (.exit j35, [(r34.2.getD 0 junk), (r34.2.getD 1 junk), (r34.2.getD 2 junk), (r34.2.getD 3 junk), (r34.2.getD 4 junk), (r34.2.getD 5 junk), (r34.2.getD 6 junk), (r34.2.getD 7 junk), (r34.2.getD 8 junk)])))) (TM.pure (.exit 1, [(vs24.getD 0 junk), (vs24.getD 1 junk), (vs24.getD 2 junk), (vs24.getD 3 junk), (vs24.getD 4 junk), (vs24.getD 5 junk), (vs24.getD 6 junk), (vs24.getD 7 junk), (vs24.getD 8 junk)]))) [a0, a1, (.int .i64 (0)), t1, t19, t20, (.int .i64 (0)), t23, (.int .i64 (0))] : TM R) fun r77 => exKT (unblk 1 r77.1) (TM.pure (.int .i64 (-1))) (TM.pure (r77.2.getD 2 junk)) (fun j78 => TM.fail)))))
  | _ => TM.fail
theorem q_269_eq (call : CallT) (lp : LoopT) (a0 : Value) (a1 : Value) : evBodyT Tryz.prog call lp ann_269 Tryz.f269 [a0, a1] = q_269 call lp [a0, a1] := by kernel_rfl
theorem q_269_ok : QOk Tryz.prog annS 269 q_269 := by
  refine ⟨Tryz.f269, by kernel_rfl, fun call lp args T r h => ?_⟩
  have ha : annS 269 = ann_269 := by kernel_rfl
  rw [ha]
  unfold q_269 at h
  split at h
  · rw [q_269_eq]; exact h
  · cases h

noncomputable def q_270 : QFn := fun call lp args => match args with
  | [a0, a1] =>
    TM.bind (call 305 [a0, a1]) fun t1 => TM.pure t1
  | _ => TM.fail
theorem q_270_eq (call : CallT) (lp : LoopT) (a0 : Value) (a1 : Value) : evBodyT Tryz.prog call lp ann_270 Tryz.f270 [a0, a1] = q_270 call lp [a0, a1] := by kernel_rfl
theorem q_270_ok : QOk Tryz.prog annS 270 q_270 := by
  refine ⟨Tryz.f270, by kernel_rfl, fun call lp args T r h => ?_⟩
  have ha : annS 270 = ann_270 := by kernel_rfl
  rw [ha]
  unfold q_270 at h
  split at h
  · rw [q_270_eq]; exact h
  · cases h

noncomputable def q_271 : QFn := fun call lp args => match args with
  | [a0, a1] =>
    TM.bind (liftT (binQ Tryz.prog .eql 9 a0 (.string ⟨#[]⟩))) fun t1 => TM.bind (guardT (wantV t1 false) (pureT (M.pure a1))) fun t2 => TM.bind (guardT (wantV t1 false) (liftT (binQ Tryz.prog .eql 9 t2 (.string ⟨#[]⟩)))) fun t3 => TM.bind (pureT (M.lift (pickV t1 (.bool true) t3))) fun t4 => condBT t4 (TM.pure a0) (TM.bind (pureT (lenT (Tryz.prog.underlying 9) a1)) fun t5 => TM.bind (liftT (binQ Tryz.prog .eql 3 t5 (.int .i64 (1)))) fun t6 => TM.bind (guardT (wantV t6 true) (pureT (M.pure a1))) fun t7 => TM.bind (guardT (wantV t6 true) (liftT (indexStrQ t7 (.int .i64 (0))))) fun t8 => TM.bind (guardT (wantV t6 true) (liftT (binQ Tryz.prog .lss 5 t8 (.int .u8 (128))))) fun t9 => TM.bind (pureT (M.lift (pickV t6 t9 (.bool false)))) fun t10 => condBT t10 (TM.bind (reserveT 8) fun base11 => TM.bind (liftT (indexStrQ a1 (.int .i64 (0)))) fun t12 => TM.bind (liftT (indexStrQ a1 (.int .i64 (0)))) fun t13 => TM.bind (call 307 [a0, t12]) fun t14 => TM.bind (call 306 [t14, t13]) fun t15 => TM.pure t15) (TM.bind (call 308 [a1]) fun t16 => TM.bind (pureT (M.lift (extr 0 t16))) fun t17 => TM.bind (pureT (M.lift (extr 1 t16))) fun t18 => TM.bind (stepT (M.bind (newRow none 379 [(.bool false), (.bool false), (.bool false), (.bool false), (.bool false), (.bool false), (.bool false), (.bool false), (.bool false), (.bool false), (.bool false), (.bool false), (.bool false), (.bool false), (.bool false), (.bool false), (.bool false), (.bool false), (.bool false), (.bool false), (.bool false), (.bool false), (.bool false), (.bool false), (.bool false), (.bool false), (.bool false), (.bool false), (.bool false), (.bool false), (.bool false), (.bool false), (.bool false), (.bool false), (.bool false), (.bool false), (.bool false), (.bool false), (.bool false), (.bool false), (.bool false), (.bool false), (.bool false), (.bool false), (.bool false), (.bool false), (.bool false), (.bool false), (.bool false), (.bool false), (.bool false), (.bool false), (.bool false), (.bool false), (.bool false), (.bool false), (.bool false), (.bool false), (.bool false), (.bool false), (.bool false), (.bool false), (.bool false), (.bool false), (.bool false), (.bool false), (.bool false), (.bool false), (.bool false), (.bool false), (.bool false), (.bool false), (.bool false), (.bool false), (.bool false), (.bool false), (.bool false), (.bool false), (.bool false), (.bool false), (.bool false), (.bool false), (.bool false), (.bool false), (.bool false), (.bool false), (.bool false), (.bool false), (.bool false), (.bool false), (.bool false), (.bool false), (.bool false), (.bool false), (.bool false), (.bool false), (.bool false), (.bool false), (.bool false), (.bool false), (.bool false), (.bool false), (.bool false), (.bool false), (.bool false), (.bool false), (.bool false), (.bool false), (.bool false), (.bool false), (.bool false), (.bool false), (.bool false), (.bool false), (.bool false), (.bool false), (.bool false), (.bool false), (.bool false), (.bool false), (.bool false), (.bool false), (.bool false), (.bool false), (.bool false), (.bool false), (.bool false), (.bool false), (.bool false), (.bool false), (.bool false), (.bool false), (.bool false), (.bool false), (.bool false), (.bool false), (.bool false), (.bool false), (.bool false), (.bool false), (.bool false), (.bool false), (.bool false), (.bool false), (.bool false), (.bool false), (.bool false), (.bool false), (.bool false), (.bool false), (.bool false), (.bool false), (.bool false), (.bool false), (.bool false), (.bool false), (.bool false), (.bool false), (.bool false), (.bool false), (.bool false), (.bool false), (.bool false), (.bool false), (.bool false), (.bool false), (.bool false), (.bool false), (.bool false), (.bool false), (.bool false), (.bool false), (.bool false), (.bool false), (.bool false), (.bool false), (.bool false), (.bool false), (.bool false), (.bool false), (.bool false), (.bool false), (.bool false), (.bool false), (.bool false), (.bool false), (.bool false), (.bool false), (.bool false), (.bool false), (.bool false), (.bool false), (.bool false), (.bool false), (.bool false), (.bool false), (.bool false), (.bool false), (.bool false), (.bool false), (.bool false), (.bool false), (.bool false), (.bool false), (.bool false), (.bool false), (.bool false), (.bool false), (.bool false), (.bool false), (.bool false), (.bool false), (.bool false), (.bool false), (.bool false), (.bool false), (.bool false), (.bool false), (.bool false), (.bool false), (.bool false), (.bool false), (.bool false), (.bool false), (.bool false), (.bool false), (.bool false), (.bool false), (.bool false), (.bool false), (.bool false), (.bool false), (.bool false), (.bool false), (.bool false), (.bool false), (.bool false), (.bool false), (.bool false), (.bool false), (.bool false), (.bool false), (.bool false), (.bool false), (.bool false), (.bool false), (.bool false), (.bool false), (.bool false), (.bool false), (.bool false), (.bool false), (.bool false), (.bool false), (.bool false), (.bool false)]) fun b => M.pure (.pointer (some ⟨b, 0, none⟩))) (idsL none [])) fun t19 => TM.bind (stepT (store 256 t19 t17) (idsL none [t19, t17])) fun t20 => condBT t18 (TM.bind (call 310 [a0, t19]) fun t21 => TM.bind (call 309 [t21, t19]) fun t22 => TM.pure t22) (TM.bind (call 312 [a0, a1]) fun t23 => TM.bind (call 311 [t23, a1]) fun t24 => TM.pure t24)))
  | _ => TM.fail
theorem q_271_eq (call : CallT) (lp : LoopT) (a0 : Value) (a1 : Value) : evBodyT Tryz.prog call lp ann_271 Tryz.f271 [a0, a1] = q_271 call lp [a0, a1] := by kernel_rfl
theorem q_271_ok : QOk Tryz.prog annS 271 q_271 := by
  refine ⟨Tryz.f271, by kernel_rfl, fun call lp args T r h => ?_⟩
  have ha : annS 271 = ann_271 := by kernel_rfl
  rw [ha]
  unfold q_271 at h
  split at h
  · rw [q_271_eq]; exact h
  · cases h

noncomputable def q_272 : QFn := fun call lp args => match args with
  | [a0] =>
    TM.bind (call 313 [a0]) fun t1 => TM.bind (pureT (M.lift (extr 0 t1))) fun t2 => TM.bind (pureT (M.lift (extr 1 t1))) fun t3 => TM.bind (liftT (binNil Tryz.prog .neq 144 t3 .nilIface)) fun t4 => condBT t4 (TM.bind (call 314 [(.string ⟨#[65, 116, 111, 105]⟩), a0, (.int .i64 (0)), (.int .i64 (0)), t3]) fun t5 => TM.pure (.tuple #[t2, t5])) (TM.pure (.tuple #[t2, .nilIface]))
  | _ => TM.fail
theorem q_272_eq (call : CallT) (lp : LoopT) (a0 : Value) : evBodyT Tryz.prog call lp ann_272 Tryz.f272 [a0] = q_272 call lp [a0] := by kernel_rfl
theorem q_272_ok : QOk Tryz.prog annS 272 q_272 := by
  refine ⟨Tryz.f272, by kernel_rfl, fun call lp args T r h => ?_⟩
  have ha : annS 272 = ann_272 := by kernel_rfl
  rw [ha]
  unfold q_272 at h
  split at h
  · rw [q_272_eq]; exact h
  · cases h

noncomputable def q_273 : QFn := fun call lp args => match args with
  | [a0, a1] =>
    TM.bind (pureT (lenT (Tryz.prog.underlying 9) a0)) fun t1 => TM.bind (pureT (lenT (Tryz.prog.underlying 9) a1)) fun t2 => TM.bind (liftT (binQ Tryz.prog .geq 3 t1 t2)) fun t3 => TM.bind (guardT (wantV t3 true) (pureT (M.pure a0))) fun t4 => TM.bind (guardT (wantV t3 true) (pureT (M.pure a0))) fun t5 => TM.bind (guardT (wantV t3 true) (pureT (lenT (Tryz.prog.underlying 9) t5))) fun t6 => TM.bind (guardT (wantV t3 true) (pureT (M.pure a1))) fun t7 => TM.bind (guardT (wantV t3 true) (pureT (lenT (Tryz.prog.underlying 9) t7))) fun t8 => TM.bind (guardT (wantV t3 true) (liftT (binQ Tryz.prog .sub 3 t6 t8))) fun t9 => TM.bind (guardT (wantV t3 true) (liftT (sliceStrQ t4 (some t9) none))) fun t10 => TM.bind (guardT (wantV t3 true) (pureT (M.pure a1))) fun t11 => TM.bind (guardT (wantV t3 true) (liftT (binQ Tryz.prog .eql 9 t10 t11))) fun t12 => TM.bind (pureT (M.lift (pickV t3 t12 (.bool false)))) fun t13 => TM.pure t13
  | _ => TM.fail
theorem q_273_eq (call : CallT) (lp : LoopT) (a0 : Value) (a1 : Value) : evBodyT Tryz.prog call lp ann_273 Tryz.f273 [a0, a1] = q_273 call lp [a0, a1] := by kernel_rfl
theorem q_273_ok : QOk Tryz.prog annS 273 q_273 := by
  refine ⟨Tryz.f273, by kernel_rfl, fun call lp args T r h => ?_⟩
  have ha : annS 273 = ann_273 := by kernel_rfl
  rw [ha]
  unfold q_273 at h
  split at h
  · rw [q_273_eq]; exact h
  · cases h

noncomputable def q_274 : QFn := fun call lp args => match args with
  | [a0, a1] =>
    TM.bind (call 273 [a0, a1]) fun t1 => condBT t1 (TM.bind (pureT (lenT (Tryz.prog.underlying 9) a0)) fun t2 => TM.bind (pureT (lenT (Tryz.prog.underlying 9) a1)) fun t3 => TM.bind (liftT (binQ Tryz.prog .sub 3 t2 t3)) fun t4 => TM.bind (liftT (sliceStrQ a0 none (some t4))) fun t5 => TM.pure t5) (TM.pure a0)
  | _ => TM.fail
theorem q_274_eq (call : CallT) (lp : LoopT) (a0 : Value) (a1 : Value) : evBodyT Tryz.prog call lp ann_274 Tryz.f274 [a0, a1] = q_274 call lp [a0, a1] := by kernel_rfl
theorem q_274_ok : QOk Tryz.prog annS 274 q_274 := by
  refine ⟨Tryz.f274, by kernel_rfl, fun call lp args T r h => ?_⟩
  have ha : annS 274 = ann_274 := by kernel_rfl
  rw [ha]
  unfold q_274 at h
  split at h
  · rw [q_274_eq]; exact h
  · cases h

noncomputable def q_275 : QFn := fun call lp args => match args with
  | [a0, a1, a2, a3, a4] =>
    TM.bind (call 315 [a3]) fun t1 => TM.bind (pureT (M.lift (extr 0 t1))) fun t2 => TM.bind (pureT (M.lift (extr 1 t1))) fun t3 => TM.bind (call 221 [a3]) fun t4 => TM.bind (pureT (M.lift (extr 0 t4))) fun t5 => TM.bind (pureT (M.lift (extr 1 t4))) fun t6 => TM.bind (pureT (buildM Tryz.prog 156 [(0, (.int .i64 (-1))), (1, t5)])) fun t7 => TM.bind (stepT (M.bind (newRow none 156 [(.int .i64 (0)), (.int .i64 (0))]) fun b => M.pure (.pointer (some ⟨b, 0, none⟩))) (idsL none [])) fun t8 => TM.bind (stepT (store 2 t8 t7) (idsL none [t8, t7])) fun t9 => TM.bind (condBT t3 (TM.bind (pureT (buildM Tryz.prog 156 [(0, t2)])) fun t10 => TM.bind (stepT (store 2 t8 t10) (idsL none [t8, t10])) fun t11 => TM.pure (.normal, [a0, a1, a2, a3, a4, t2, t3, t5, t6, t8])) (TM.pure (.normal, [a0, a1, a2, a3, a4, t2, t3, t5, t6, t8])) : TM R) fun r12 => onlyNT r12.1 (TM.bind (liftT (binQ Tryz.prog .eql 21 (r12.2.getD 2 junk) (.int .i32 (114)))) fun t13 => condBT t13 (TM.bind (pureT (M.lift (nilChk (r12.2.getD 1 junk)))) fun t14 => TM.bind (pureT (M.lift (addP 2 t14))) fun t15 => TM.bind (stepT (store 1 t15 (r12.2.getD 5 junk)) (idsL none [t15, (r12.2.getD 5 junk)])) fun t16 => TM.pure (r12.2.getD 6 junk)) (TM.bind (liftT (binQ Tryz.prog .eql 21 (r12.2.getD 2 junk) (.int .i32 (111)))) fun t17 => condBT t17 (TM.bind (pureT (M.lift (nilChk (r12.2.getD 1 junk)))) fun t18 => TM.bind (pureT (M.lift (addP 9 t18))) fun t19 => TM.bind (stepT (store 1 t19 (r12.2.getD 7 junk)) (idsL none [t19, (r12.2.getD 7 junk)])) fun t20 => TM.pure (r12.2.getD 8 junk)) (TM.bind (liftT (binQ Tryz.prog .eql 21 (r12.2.getD 2 junk) (.int .i32 (115)))) fun t21 => TM.bind (condBT t21 (TM.bind (pureT (load Tryz.prog 156 (r12.2.getD 9 junk))) fun t22 => TM.bind (pureT (M.lift (nilChk (r12.2.getD 1 junk)))) fun t23 => TM.bind (pureT (M.lift (addP 3 t23))) fun t24 => TM.bind (stepT (store 2 t24 t22) (idsL none [t24, t22])) fun t25 => TM.pure (.normal, [junk, (r12.2.getD 6 junk), (r12.2.getD 8 junk)])) (TM.bind (liftT (binQ Tryz.prog .eql 21 (r12.2.getD 2 junk) (.int .i32 (118)))) fun t26 => TM.bind (condBT t26 (TM.bind (pureT (load Tryz.prog 156 (r12.2.getD 9 junk))) fun t27 => TM.bind (pureT (M.lift (nilChk (r12.2.getD 1 junk)))) fun t28 => TM.bind (pureT (M.lift (addP 5 t28))) fun t29 => TM.bind (stepT (store 2 t29 t27) (idsL none [t29, t27])) fun t30 => TM.pure (.normal, [junk, (r12.2.getD 6 junk), (r12.2.getD 8 junk)])) (TM.bind (liftT (binQ Tryz.prog .eql 21 (r12.2.getD 2 junk) (.int .i32 (119)))) fun t31 => condBT t31 (TM.bind (pureT (load Tryz.prog 156 (r12.2.getD 9 junk))) fun t32 => TM.bind (pureT (M.lift (nilChk (r12.2.getD 1 junk)))) fun t33 => TM.bind (pureT (M.lift (addP 7 t33))) fun t34 => TM.bind (stepT (store 2 t34 t32) (idsL none [t34, t32])) fun t35 => TM.pure (.normal, [junk, (r12.2.getD 6 junk), (r12.2.getD 8 junk)])) (TM.bind (call 316 [(r12.2.getD 3 junk), (.string ⟨#[64]⟩)]) fun t36 => TM.bind (pureT (M.lift (extr 0 t36))) fun t37 => TM.bind (pureT (M.lift (extr 1 t36))) fun t38 => condBT t38 (TM.bind (call 221 [t37]) fun t39 => TM.bind (pureT (M.lift (extr 0 t39))) fun t40 => TM.bind (pureT (M.lift (extr 1 t39))) fun t41 => TM.bind (pureT (M.lift (nilChk (r12.2.getD 1 junk)))) fun t42 => TM.bind (pureT (M.lift (addP 10 t42))) fun t43 => TM.bind (stepT (store 1 t43 t40) (idsL none [t43, t40])) fun t44 => TM.pure (.ret, [t41, (r12.2.getD 6 junk), (r12.2.getD 8 junk)])) (TM.bind (pureT (M.lift (nilChk (r12.2.getD 0 junk)))) fun t45 => TM.bind (pureT (M.lift (addP 5 t45))) fun t46 => TM.bind (pureT (load Tryz.prog 210 t46)) fun t47 => TM.bind (pureT (buildM Tryz.prog 304 [(0, (r12.2.getD 4 junk)), (1, (r12.2.getD 3 junk))])) fun t48 => TM.bind (stepT (buildSliceM Tryz.prog none 210 1 [(0, t48)]) (idsL none [t48])) fun t49 => TM.bind (stepT (append none 304 2 (Tryz.prog.bytesOf 304) t47 t49) (idsL none [t47, t49])) fun t50 => TM.bind (pureT (M.lift (nilChk (r12.2.getD 0 junk)))) fun t51 => TM.bind (pureT (M.lift (addP 5 t51))) fun t52 => TM.bind (stepT (store 1 t52 t50) (idsL none [t52, t50])) fun t53 => TM.bind (call 224 [(r12.2.getD 3 junk)]) fun t54 => TM.pure (.ret, [t54, (r12.2.getD 6 junk), (r12.2.getD 8 junk)])))) : TM R) fun r55 => TM.pure (r55.1, [(r55.2.getD 0 junk), (r55.2.getD 1 junk), (r55.2.getD 2 junk)])) : TM R) fun r56 => exKT r56.1 (TM.bind (guardT (wantV (r56.2.getD 1 junk) false) (pureT (M.pure (r56.2.getD 2 junk)))) fun t58 => TM.bind (pureT (M.lift (pickV (r56.2.getD 1 junk) (.bool true) t58))) fun t59 => TM.pure t59) (TM.pure (r56.2.getD 0 junk)) (fun j57 => (bif Nat.beq j57 0 then TM.bind (guardT (wantV (r56.2.getD 1 junk) false) (pureT (M.pure (r56.2.getD 2 junk)))) fun t60 => TM.bind (pureT (M.lift (pickV (r56.2.getD 1 junk) (.bool true) t60))) fun t61 => TM.pure t61 else TM.fail)))))
  | _ => TM.fail
theorem q_275_eq (call : CallT) (lp : LoopT) (a0 : Value) (a1 : Value) (a2 : Value) (a3 : Value) (a4 : Value) : evBodyT Tryz.prog call lp ann_275 Tryz.f275 [a0, a1, a2, a3, a4] = q_275 call lp [a0, a1, a2, a3, a4] := by kernel_rfl
theorem q_275_ok : QOk Tryz.prog annS 275 q_275 := by
  refine ⟨Tryz.f275, by kernel_rfl, fun call lp args T r h => ?_⟩
  have ha : annS 275 = ann_275 := by kernel_rfl
  rw [ha]
  unfold q_275 at h
  split at h
  · rw [q_275_eq]; exact h
  · cases h

noncomputable def q_276 : QFn := fun call lp args => match args with
  | [a0, a1] =>
    TM.bind (pureT (lenT (Tryz.prog.underlying 149) a0)) fun t1 => TM.bind (lp (fun vs2 => TM.bind (liftT (binQ Tryz.prog .lss 3 (vs2.getD 4 junk) (vs2.getD 3 junk))) fun t3 => condBT t3 (TM.bind (pureT (M.lift (indexS 11 (vs2.getD 0 junk) (vs2.getD 4 junk)))) fun t4 => TM.bind (pureT (load Tryz.prog 158 t4)) fun t5 => TM.bind (callVT call (vs2.getD 1 junk) [t5]) fun t6 => condBT t6 (TM.pure (.ret, [(vs2.getD 0 junk), (vs2.getD 1 junk), (vs2.getD 4 junk), (vs2.getD 3 junk), (vs2.getD 4 junk)])) (TM.bind (liftT (binQ Tryz.prog .add 3 (vs2.getD 4 junk) (.int .i64 (1)))) fun t7 => TM.pure (.normal, [(vs2.getD 0 junk), (vs2.getD 1 junk), (vs2.getD 2 junk), (vs2.getD 3 junk), t7]))) (TM.pure (.exit 0, [(vs2.getD 0 junk), (vs2.getD 1 junk), (vs2.getD 2 junk), (vs2.getD 3 junk), (vs2.getD 4 junk)]))) [a0, a1, (.int .i64 (0)), t1, (.int .i64 (0))] : TM R) fun r8 => exKT (unblk 0 r8.1) (TM.pure (.int .i64 (-1))) (TM.pure (r8.2.getD 2 junk)) (fun j9 => TM.fail)
  | _ => TM.fail
theorem q_276_eq (call : CallT) (lp : LoopT) (a0 : Value) (a1 : Value) : evBodyT Tryz.prog call lp ann_276 Tryz.f276 [a0, a1] = q_276 call lp [a0, a1] := by kernel_rfl
theorem q_276_ok : QOk Tryz.prog annS 276 q_276 := by
  refine ⟨Tryz.f276, by kernel_rfl, fun call lp args T r h => ?_⟩
  have ha : annS 276 = ann_276 := by kernel_rfl
  rw [ha]
  unfold q_276 at h
  split at h
  · rw [q_276_eq]; exact h
  · cases h

noncomputable def q_277 : QFn := fun call lp args => match args with
  | [a0, a1, a2] =>
    TM.bind (pureT (load Tryz.prog 213 a1)) fun t1 => TM.bind (pureT (M.lift (addP 0 a2))) fun t2 => TM.bind (pureT (load Tryz.prog 3 t2)) fun t3 => TM.bind (pureT (M.lift (indexS 2 t1 t3))) fun t4 => TM.bind (pureT (M.lift (addP 1 t4))) fun t5 => TM.bind (pureT (load Tryz.prog 9 t5)) fun t6 => TM.bind (stepT (toRunes none 21 t6) (idsL none [t6])) fun t7 => TM.bind (call 278 [t7, a0]) fun t8 => TM.pure t8
  | _ => TM.fail
theorem q_277_eq (call : CallT) (lp : LoopT) (a0 : Value) (a1 : Value) (a2 : Value) : evBodyT Tryz.prog call lp ann_277 Tryz.f277 [a0, a1, a2] = q_277 call lp [a0, a1, a2] := by kernel_rfl
theorem q_277_ok : QOk Tryz.prog annS 277 q_277 := by
  refine ⟨Tryz.f277, by kernel_rfl, fun call lp args T r h => ?_⟩
  have ha : annS 277 = ann_277 := by kernel_rfl
  rw [ha]
  unfold q_277 at h
  split at h
  · rw [q_277_eq]; exact h
  · cases h

noncomputable def q_278 : QFn := fun call lp args => match args with
  | [a0, a1] =>
    TM.bind (call 317 [a0, a1]) fun t1 => TM.bind (liftT (binQ Tryz.prog .geq 3 t1 (.int .i64 (0)))) fun t2 => TM.pure t2
  | _ => TM.fail
theorem q_278_eq (call : CallT) (lp : LoopT) (a0 : Value) (a1 : Value) : evBodyT Tryz.prog call lp ann_278 Tryz.f278 [a0, a1] = q_278 call lp [a0, a1] := by kernel_rfl
theorem q_278_ok : QOk Tryz.prog annS 278 q_278 := by
  refine ⟨Tryz.f278, by kernel_rfl, fun call lp args T r h => ?_⟩
  have ha : annS 278 = ann_278 := by kernel_rfl
  rw [ha]
  unfold q_278 at h
  split at h
  · rw [q_278_eq]; exact h
  · cases h

noncomputable def q_279 : QFn := fun call lp args => match args with
  | [a0, a1, a2, a3] =>
    TM.bind (stepT (box none 156 a1) (idsL none [a1])) fun t1 => TM.bind (pureT (load Tryz.prog 220 a2)) fun t2 => TM.bind (callVT call t2 [a0]) fun t3 => condBT t3 (TM.bind (pureT (load Tryz.prog 156 t1)) fun t4 => TM.bind (call 280 [t4]) fun t5 => TM.pure t5) (TM.bind (pureT (load Tryz.prog 156 t1)) fun t6 => TM.bind (pureT (load Tryz.prog 156 a3)) fun t7 => TM.bind (liftT (binQ Tryz.prog .eql 156 t6 t7)) fun t8 => TM.pure t8)
  | _ => TM.fail
theorem q_279_eq (call : CallT) (lp : LoopT) (a0 : Value) (a1 : Value) (a2 : Value) (a3 : Value) : evBodyT Tryz.prog call lp ann_279 Tryz.f279 [a0, a1, a2, a3] = q_279 call lp [a0, a1, a2, a3] := by kernel_rfl
theorem q_279_ok : QOk Tryz.prog annS 279 q_279 := by
  refine ⟨Tryz.f279, by kernel_rfl, fun call lp args T r h => ?_⟩
  have ha : annS 279 = ann_279 := by kernel_rfl
  rw [ha]
  unfold q_279 at h
  split at h
  · rw [q_279_eq]; exact h
  · cases h

noncomputable def q_280 : QFn := fun call lp args => match args with
  | [a0] =>
    TM.bind (stepT (box none 156 a0) (idsL none [a0])) fun t1 => TM.bind (pureT (M.lift (addP 0 t1))) fun t2 => TM.bind (pureT (load Tryz.prog 3 t2)) fun t3 => TM.bind (liftT (binQ Tryz.prog .eql 3 t3 (.int .i64 (-1)))) fun t4 => condBT t4 (TM.bind (pureT (M.lift (addP 1 t1))) fun t5 => TM.bind (pureT (load Tryz.prog 3 t5)) fun t6 => TM.bind (liftT (binQ Tryz.prog .geq 3 t6 (.int .i64 (-1000000000000000)))) fun t7 => TM.bind (guardT (wantV t7 true) (pureT (M.lift (addP 1 t1)))) fun t8 => TM.bind (guardT (wantV t7 true) (pureT (load Tryz.prog 3 t8))) fun t9 => TM.bind (guardT (wantV t7 true) (liftT (binQ Tryz.prog .leq 3 t9 (.int .i64 (1000000000000000))))) fun t10 => TM.bind (pureT (M.lift (pickV t7 t10 (.bool false)))) fun t11 => TM.pure t11) (TM.bind (pureT (M.lift (addP 0 t1))) fun t12 => TM.bind (pureT (load Tryz.prog 3 t12)) fun t13 => TM.bind (liftT (binQ Tryz.prog .geq 3 t13 (.int .i64 (0)))) fun t14 => TM.bind (guardT (wantV t14 true) (pureT (M.lift (addP 0 t1)))) fun t15 => TM.bind (guardT (wantV t14 true) (pureT (load Tryz.prog 3 t15))) fun t16 => TM.bind (guardT (wantV t14 true) (liftT (binQ Tryz.prog .lss 3 t16 (.int .i64 (16))))) fun t17 => TM.bind (pureT (M.lift (pickV t14 t17 (.bool false)))) fun t18 => TM.bind (guardT (wantV t18 true) (pureT (M.lift (addP 1 t1)))) fun t19 => TM.bind (guardT (wantV t18 true) (pureT (load Tryz.prog 3 t19))) fun t20 => TM.bind (guardT (wantV t18 true) (liftT (binQ Tryz.prog .eql 3 t20 (.int .i64 (0))))) fun t21 => TM.bind (pureT (M.lift (pickV t18 t21 (.bool false)))) fun t22 => TM.pure t22)
  | _ => TM.fail
theorem q_280_eq (call : CallT) (lp : LoopT) (a0 : Value) : evBodyT Tryz.prog call lp ann_280 Tryz.f280 [a0] = q_280 call lp [a0] := by kernel_rfl
theorem q_280_ok : QOk Tryz.prog annS 280 q_280 := by
  refine ⟨Tryz.f280, by kernel_rfl, fun call lp args T r h => ?_⟩
  have ha : annS 280 = ann_280 := by kernel_rfl
  rw [ha]
  unfold q_280 at h
  split at h
  · rw [q_280_eq]; exact h
  · cases h

noncomputable def q_282 : QFn := fun call lp args => match args with
  | [a0] =>
    TM.bind (liftT (binQ Tryz.prog .lss 3 a0 (.int .i64 (10)))) fun t1 => condBT t1 (TM.bind (liftT (binQ Tryz.prog .add 3 a0 (.int .i64 (1)))) fun t2 => TM.bind (liftT (sliceStrQ (.string ⟨#[48, 49, 50, 51, 52, 53, 54, 55, 56, 57, 97, 98, 99, 100, 101, 102, 103, 104, 105, 106, 107, 108, 109, 110, 111, 112, 113, 114, 115, 116, 117, 118, 119, 120, 121, 122]⟩) (some a0) (some t2))) fun t3 => TM.pure t3) (TM.bind (liftT (binQ Tryz.prog .mul 3 a0 (.int .i64 (2)))) fun t4 => TM.bind (liftT (binQ Tryz.prog .mul 3 a0 (.int .i64 (2)))) fun t5 => TM.bind (liftT (binQ Tryz.prog .add 3 t5 (.int .i64 (2)))) fun t6 => TM.bind (liftT (sliceStrQ (.string ⟨#[48, 48, 48, 49, 48, 50, 48, 51, 48, 52, 48, 53, 48, 54, 48, 55, 48, 56, 48, 57, 49, 48, 49, 49, 49, 50, 49, 51, 49, 52, 49, 53, 49, 54, 49, 55, 49, 56, 49, 57, 50, 48, 50, 49, 50, 50, 50, 51, 50, 52, 50, 53, 50, 54, 50, 55, 50, 56, 50, 57, 51, 48, 51, 49, 51, 50, 51, 51, 51, 52, 51, 53, 51, 54, 51, 55, 51, 56, 51, 57, 52, 48, 52, 49, 52, 50, 52, 51, 52, 52, 52, 53, 52, 54, 52, 55, 52, 56, 52, 57, 53, 48, 53, 49, 53, 50, 53, 51, 53, 52, 53, 53, 53, 54, 53, 55, 53, 56, 53, 57, 54, 48, 54, 49, 54, 50, 54, 51, 54, 52, 54, 53, 54, 54, 54, 55, 54, 56, 54, 57, 55, 48, 55, 49, 55, 50, 55, 51, 55, 52, 55, 53, 55, 54, 55, 55, 55, 56, 55, 57, 56, 48, 56, 49, 56, 50, 56, 51, 56, 52, 56, 53, 56, 54, 56, 55, 56, 56, 56, 57, 57, 48, 57, 49, 57, 50, 57, 51, 57, 52, 57, 53, 57, 54, 57, 55, 57, 56, 57, 57]⟩) (some t4) (some t6))) fun t7 => TM.pure t7)
  | _ => TM.fail
theorem q_282_eq (call : CallT) (lp : LoopT) (a0 : Value) : evBodyT Tryz.prog call lp ann_282 Tryz.f282 [a0] = q_282 call lp [a0] := by kernel_rfl
theorem q_282_ok : QOk Tryz.prog annS 282 q_282 := by
  refine ⟨Tryz.f282, by kernel_rfl, fun call lp args T r h => ?_⟩
  have ha : annS 282 = ann_282 := by kernel_rfl
  rw [ha]
  unfold q_282 at h
  split at h
  · rw [q_282_eq]; exact h
  · cases h

noncomputable def q_286 : QFn := fun call lp args => match args with
  | [a0, a1] =>
    TM.bind (call 82 [a0]) fun t1 => TM.bind (guardT (wantV t1 false) (pureT (M.pure a1))) fun t2 => TM.bind (guardT (wantV t1 false) (liftT (binQ Tryz.prog .lss 3 t2 (.int .i64 (0))))) fun t3 => TM.bind (pureT (M.lift (pickV t1 (.bool true) t3))) fun t4 => condBT t4 (TM.pure (.bool false)) (TM.bind (pureT (M.lift (nilChk a0))) fun t5 => TM.bind (pureT (M.lift (addP 2 t5))) fun t6 => TM.bind (pureT (load Tryz.prog 3 t6)) fun t7 => TM.bind (liftT (binQ Tryz.prog .lss 3 a1 t7)) fun t8 => condBT t8 (TM.pure (.bool true)) (TM.bind (call 324 [a0, a1]) fun t9 => TM.bind (pureT (M.lift (extr 0 t9))) fun t10 => TM.bind (pureT (M.lift (extr 1 t9))) fun t11 => TM.pure t11))
  | _ => TM.fail
theorem q_286_eq (call : CallT) (lp : LoopT) (a0 : Value) (a1 : Value) : evBodyT Tryz.prog call lp ann_286 Tryz.f286 [a0, a1] = q_286 call lp [a0, a1] := by kernel_rfl
theorem q_286_ok : QOk Tryz.prog annS 286 q_286 := by
  refine ⟨Tryz.f286, by kernel_rfl, fun call lp args T r h => ?_⟩
  have ha : annS 286 = ann_286 := by kernel_rfl
  rw [ha]
  unfold q_286 at h
  split at h
  · rw [q_286_eq]; exact h
  · cases h

noncomputable def q_287 : QFn := fun call lp args => match args with
  | [a0, a1] =>
    TM.bind (call 82 [a0]) fun t1 => condBT t1 (TM.pure (.tuple #[(.int .i64 (0)), (.int .i64 (1))])) (TM.bind (call 324 [a0, a1]) fun t2 => TM.bind (pureT (M.lift (extr 0 t2))) fun t3 => TM.bind (pureT (M.lift (extr 1 t2))) fun t4 => TM.bind (pureT (M.lift (unV .not t4))) fun t5 => condBT t5 (TM.pure (.tuple #[(.int .i64 (0)), (.int .i64 (3))])) (TM.pure (.tuple #[t3, (.int .i64 (0))])))
  | _ => TM.fail
theorem q_287_eq (call : CallT) (lp : LoopT) (a0 : Value) (a1 : Value) : evBodyT Tryz.prog call lp ann_287 Tryz.f287 [a0, a1] = q_287 call lp [a0, a1] := by kernel_rfl
theorem q_287_ok : QOk Tryz.prog annS 287 q_287 := by
  refine ⟨Tryz.f287, by kernel_rfl, fun call lp args T r h => ?_⟩
  have ha : annS 287 = ann_287 := by kernel_rfl
  rw [ha]
  unfold q_287 at h
  split at h
  · rw [q_287_eq]; exact h
  · cases h

noncomputable def q_288 : QFn := fun call lp args => match args with
  | [a0, a1, a2] =>
    TM.bind (call 246 [a0, a1]) fun t1 => TM.bind (liftT (binQ Tryz.prog .neq 32 t1 (.int .i64 (0)))) fun t2 => condBT t2 (TM.pure t1) (TM.bind (pureT (M.lift (nilChk a0))) fun t3 => TM.bind (pureT (M.lift (addP 0 t3))) fun t4 => TM.bind (pureT (load Tryz.prog 38 t4)) fun t5 => TM.bind (pureT (M.lift (indexS 1 t5 a1))) fun t6 => TM.bind (stepT (store 1 t6 a2) (idsL none [t6, a2])) fun t7 => TM.bind (pureT (M.lift (nilChk a0))) fun t8 => TM.bind (pureT (M.lift (addP 1 t8))) fun t9 => TM.bind (pureT (load Tryz.prog 38 t9)) fun t10 => TM.bind (pureT (M.lift (indexS 1 t10 a1))) fun t11 => TM.bind (pureT (load Tryz.prog 3 t11)) fun t12 => TM.bind (liftT (binQ Tryz.prog .add 3 t12 (.int .i64 (1)))) fun t13 => TM.bind (pureT (M.lift (indexS 1 t10 a1))) fun t14 => TM.bind (stepT (store 1 t14 t13) (idsL none [t14, t13])) fun t15 => TM.pure (.int .i64 (0)))
  | _ => TM.fail
theorem q_288_eq (call : CallT) (lp : LoopT) (a0 : Value) (a1 : Value) (a2 : Value) : evBodyT Tryz.prog call lp ann_288 Tryz.f288 [a0, a1, a2] = q_288 call lp [a0, a1, a2] := by kernel_rfl
theorem q_288_ok : QOk Tryz.prog annS 288 q_288 := by
  refine ⟨Tryz.f288, by kernel_rfl, fun call lp args T r h => ?_⟩
  have ha : annS 288 = ann_288 := by kernel_rfl
  rw [ha]
  unfold q_288 at h
  split at h
  · rw [q_288_eq]; exact h
  · cases h

noncomputable def q_289 : QFn := fun call lp args => match args with
  | [a0] =>
    TM.bind (liftT (binQ Tryz.prog .rem 3 a0 (.int .i64 (2)))) fun t1 => TM.bind (liftT (binQ Tryz.prog .add 3 a0 t1)) fun t2 => TM.pure t2
  | _ => TM.fail
theorem q_289_eq (call : CallT) (lp : LoopT) (a0 : Value) : evBodyT Tryz.prog call lp ann_289 Tryz.f289 [a0] = q_289 call lp [a0] := by kernel_rfl
theorem q_289_ok : QOk Tryz.prog annS 289 q_289 := by
  refine ⟨Tryz.f289, by kernel_rfl, fun call lp args T r h => ?_⟩
  have ha : annS 289 = ann_289 := by kernel_rfl
  rw [ha]
  unfold q_289 at h
  split at h
  · rw [q_289_eq]; exact h
  · cases h

noncomputable def q_292 : QFn := fun call lp args => match args with
  | [a0, a1] =>
    TM.bind (stepT (box none 189 a0) (idsL none [a0])) fun t1 => TM.bind (stepT (box none 44 a1) (idsL none [a1])) fun t2 => TM.bind (pureT (M.pure (.func (.func 326) #[] #[t1]))) fun t3 => TM.bind (pureT (M.lift (addP 1 t2))) fun t4 => TM.bind (pureT (load Tryz.prog 3 t4)) fun t5 => TM.bind (pureT (M.lift (addP 1 t1))) fun t6 => TM.bind (pureT (load Tryz.prog 3 t6)) fun t7 => TM.bind (liftT (binQ Tryz.prog .gtr 3 t7 (.int .i64 (0)))) fun t8 => TM.bind (callVT call t3 [t5, t8]) fun t9 => TM.bind (guardT (wantV t9 true) (pureT (M.pure t3))) fun t10 => TM.bind (guardT (wantV t9 true) (pureT (M.lift (addP 2 t2)))) fun t11 => TM.bind (guardT (wantV t9 true) (pureT (load Tryz.prog 3 t11))) fun t12 => TM.bind (guardT (wantV t9 true) (pureT (M.lift (addP 1 t1)))) fun t13 => TM.bind (guardT (wantV t9 true) (pureT (load Tryz.prog 3 t13))) fun t14 => TM.bind (guardT (wantV t9 true) (liftT (binQ Tryz.prog .gtr 3 t14 (.int .i64 (1))))) fun t15 => TM.bind (guardT (wantV t9 true) (callVT call t10 [t12, t15])) fun t16 => TM.bind (pureT (M.lift (pickV t9 t16 (.bool false)))) fun t17 => TM.pure t17
  | _ => TM.fail
theorem q_292_eq (call : CallT) (lp : LoopT) (a0 : Value) (a1 : Value) : evBodyT Tryz.prog call lp ann_292 Tryz.f292 [a0, a1] = q_292 call lp [a0, a1] := by kernel_rfl
theorem q_292_ok : QOk Tryz.prog annS 292 q_292 := by
  refine ⟨Tryz.f292, by kernel_rfl, fun call lp args T r h => ?_⟩
  have ha : annS 292 = ann_292 := by kernel_rfl
  rw [ha]
  unfold q_292 at h
  split at h
  · rw [q_292_eq]; exact h
  · cases h

noncomputable def q_301 : QFn := fun call lp args => match args with
  | [a0, a1] =>
    TM.bind (call 329 [a0, a1]) fun t1 => TM.pure t1
  | _ => TM.fail
theorem q_301_eq (call : CallT) (lp : LoopT) (a0 : Value) (a1 : Value) : evBodyT Tryz.prog call lp ann_301 Tryz.f301 [a0, a1] = q_301 call lp [a0, a1] := by kernel_rfl
theorem q_301_ok : QOk Tryz.prog annS 301 q_301 := by
  refine ⟨Tryz.f301, by kernel_rfl, fun call lp args T r h => ?_⟩
  have ha : annS 301 = ann_301 := by kernel_rfl
  rw [ha]
  unfold q_301 at h
  split at h
  · rw [q_301_eq]; exact h
  · cases h

noncomputable def q_305 : QFn := fun call lp args => match args with
  | [a0, a1] =>
    TM.bind (call 331 [a0, a1]) fun t1 => condBT t1 (TM.bind (pureT (lenT (Tryz.prog.underlying 9) a1)) fun t2 => TM.bind (liftT (sliceStrQ a0 (some t2) none)) fun t3 => TM.pure t3) (TM.pure a0)
  | _ => TM.fail
theorem q_305_eq (call : CallT) (lp : LoopT) (a0 : Value) (a1 : Value) : evBodyT Tryz.prog call lp ann_305 Tryz.f305 [a0, a1] = q_305 call lp [a0, a1] := by kernel_rfl
theorem q_305_ok : QOk Tryz.prog annS 305 q_305 := by
  refine ⟨Tryz.f305, by kernel_rfl, fun call lp args T r h => ?_⟩
  have ha : annS 305 = ann_305 := by kernel_rfl
  rw [ha]
  unfold q_305 at h
  split at h
  · rw [q_305_eq]; exact h
  · cases h

noncomputable def q_308 : QFn := fun call lp args => match args with
  | [a0] =>
    TM.bind (stepT (M.bind (newRow none 379 [(.bool false), (.bool false), (.bool false), (.bool false), (.bool false), (.bool false), (.bool false), (.bool false), (.bool false), (.bool false), (.bool false), (.bool false), (.bool false), (.bool false), (.bool false), (.bool false), (.bool false), (.bool false), (.bool false), (.bool false), (.bool false), (.bool false), (.bool false), (.bool false), (.bool false), (.bool false), (.bool false), (.bool false), (.bool false), (.bool false), (.bool false), (.bool false), (.bool false), (.bool false), (.bool false), (.bool false), (.bool false), (.bool false), (.bool false), (.bool false), (.bool false), (.bool false), (.bool false), (.bool false), (.bool false), (.bool false), (.bool false), (.bool false), (.bool false), (.bool false), (.bool false), (.bool false), (.bool false), (.bool false), (.bool false), (.bool false), (.bool false), (.bool false), (.bool false), (.bool false), (.bool false), (.bool false), (.bool false), (.bool false), (.bool false), (.bool false), (.bool false), (.bool false), (.bool false), (.bool false), (.bool false), (.bool false), (.bool false), (.bool false), (.bool false), (.bool false), (.bool false), (.bool false), (.bool false), (.bool false), (.bool false), (.bool false), (.bool false), (.bool false), (.bool false), (.bool false), (.bool false), (.bool false), (.bool false), (.bool false), (.bool false), (.bool false), (.bool false), (.bool false), (.bool false), (.bool false), (.bool false), (.bool false), (.bool false), (.bool false), (.bool false), (.bool false), (.bool false), (.bool false), (.bool false), (.bool false), (.bool false), (.bool false), (.bool false), (.bool false), (.bool false), (.bool false), (.bool false), (.bool false), (.bool false), (.bool false), (.bool false), (.bool false), (.bool false), (.bool false), (.bool false), (.bool false), (.bool false), (.bool false), (.bool false), (.bool false), (.bool false), (.bool false), (.bool false), (.bool false), (.bool false), (.bool false), (.bool false), (.bool false), (.bool false), (.bool false), (.bool false), (.bool false), (.bool false), (.bool false), (.bool false), (.bool false), (.bool false), (.bool false), (.bool false), (.bool false), (.bool false), (.bool false), (.bool false), (.bool false), (.bool false), (.bool false), (.bool false), (.bool false), (.bool false), (.bool false), (.bool false), (.bool false), (.bool false), (.bool false), (.bool false), (.bool false), (.bool false), (.bool false), (.bool false), (.bool false), (.bool false), (.bool false), (.bool false), (.bool false), (.bool false), (.bool false), (.bool false), (.bool false), (.bool false), (.bool false), (.bool false), (.bool false), (.bool false), (.bool false), (.bool false), (.bool false), (.bool false), (.bool false), (.bool false), (.bool false), (.bool false), (.bool false), (.bool false), (.bool false), (.bool false), (.bool false), (.bool false), (.bool false), (.bool false), (.bool false), (.bool false), (.bool false), (.bool false), (.bool false), (.bool false), (.bool false), (.bool false), (.bool false), (.bool false), (.bool false), (.bool false), (.bool false), (.bool false), (.bool false), (.bool false), (.bool false), (.bool false), (.bool false), (.bool false), (.bool false), (.bool false), (.bool false), (.bool false), (.bool false), (.bool false), (.bool false), (.bool false), (.bool false), (.bool false), (.bool false), (.bool false), (.bool false), (.bool false), (.bool false), (.bool false), (.bool false), (.bool false), (.bool false), (.bool false), (.bool false), (.bool false), (.bool false), (.bool false), (.bool false), (.bool false), (.bool false), (.bool false), (.bool false), (.bool false), (.bool false), (.bool false), (.bool false), (.bool false), (.bool false), (.bool false), (.bool false), (.bool false), (.bool false), (.bool false), (.bool false)]) fun b => M.pure (.pointer (some ⟨b, 0, none⟩))) (idsL none [])) fun t1 => TM.bind (lp (fun vs2 => TM.bind (pureT (lenT (Tryz.prog.underlying 9) (vs2.getD 0 junk))) fun t3 => TM.bind (liftT (binQ Tryz.prog .lss 3 (vs2.getD 3 junk) t3)) fun t4 => condBT t4 (TM.bind (liftT (indexStrQ (vs2.getD 0 junk) (vs2.getD 3 junk))) fun t5 => TM.bind (liftT (binQ Tryz.prog .geq 5 t5 (.int .u8 (128)))) fun t6 => condBT t6 (TM.bind (pureT (load Tryz.prog 379 (vs2.getD 1 junk))) fun t7 => TM.bind (stepT (store 256 (vs2.getD 1 junk) t7) (idsL none [(vs2.getD 1 junk), t7])) fun t8 => TM.pure (.ret, [(vs2.getD 0 junk), (vs2.getD 1 junk), (.bool false), (vs2.getD 3 junk)])) (TM.bind (pureT (M.lift (indexP 256 1 (vs2.getD 1 junk) t5))) fun t9 => TM.bind (stepT (store 1 t9 (.bool true)) (idsL none [t9, (.bool true)])) fun t10 => TM.bind (liftT (binQ Tryz.prog .add 3 (vs2.getD 3 junk) (.int .i64 (1)))) fun t11 => TM.pure (.normal, [(vs2.getD 0 junk), (vs2.getD 1 junk), (vs2.getD 2 junk), t11]))) (TM.pure (.exit 0, [(vs2.getD 0 junk), (vs2.getD 1 junk), (vs2.getD 2 junk), (vs2.getD 3 junk)]))) [a0, t1, (.bool false), (.int .i64 (0))] : TM R) fun r12 => exKT (unblk 0 r12.1) (TM.bind (pureT (load Tryz.prog 379 (r12.2.getD 1 junk))) fun t14 => TM.bind (stepT (store 256 (r12.2.getD 1 junk) t14) (idsL none [(r12.2.getD 1 junk), t14])) fun t15 => TM.bind (pureT (load Tryz.prog 379 (r12.2.getD 1 junk))) fun t16 => TM.pure (.tuple #[t16, (.bool true)])) (TM.bind (pureT (load Tryz.prog 379 (r12.2.getD 1 junk))) fun t17 => TM.pure (.tuple #[t17, (r12.2.getD 2 junk)])) (fun j13 => TM.fail)
  | _ => TM.fail
theorem q_308_eq (call : CallT) (lp : LoopT) (a0 : Value) : evBodyT Tryz.prog call lp ann_308 Tryz.f308 [a0] = q_308 call lp [a0] := by kernel_rfl
theorem q_308_ok : QOk Tryz.prog annS 308 q_308 := by
  refine ⟨Tryz.f308, by kernel_rfl, fun call lp args T r h => ?_⟩
  have ha : annS 308 = ann_308 := by kernel_rfl
  rw [ha]
  unfold q_308 at h
  split at h
  · rw [q_308_eq]; exact h
  · cases h

noncomputable def q_309 : QFn := fun call lp args => match args with
  | [a0, a1] =>
    TM.bind (lp (fun vs1 => TM.bind (pureT (lenT (Tryz.prog.underlying 9) (vs1.getD 0 junk))) fun t2 => TM.bind (liftT (binQ Tryz.prog .gtr 3 t2 (.int .i64 (0)))) fun t3 => condBT t3 (TM.bind (liftT (indexStrQ (vs1.getD 0 junk) (.int .i64 (0)))) fun t4 => TM.bind (call 332 [(vs1.getD 1 junk), t4]) fun t5 => TM.bind (pureT (M.lift (unV .not t5))) fun t6 => condBT t6 (TM.pure (.exit 0, [(vs1.getD 0 junk), (vs1.getD 1 junk)])) (TM.bind (liftT (sliceStrQ (vs1.getD 0 junk) (some (.int .i64 (1))) none)) fun t7 => TM.pure (.normal, [t7, (vs1.getD 1 junk)]))) (TM.pure (.exit 0, [(vs1.getD 0 junk), (vs1.getD 1 junk)]))) [a0, a1] : TM R) fun r8 => onlyNT (unblk 0 r8.1) (TM.pure (r8.2.getD 0 junk))
  | _ => TM.fail
theorem q_309_eq (call : CallT) (lp : LoopT) (a0 : Value) (a1 : Value) : evBodyT Tryz.prog call lp ann_309 Tryz.f309 [a0, a1] = q_309 call lp [a0, a1] := by kernel_rfl
theorem q_309_ok : QOk Tryz.prog annS 309 q_309 := by
  refine ⟨Tryz.f309, by kernel_rfl, fun call lp args T r h => ?_⟩
  have ha : annS 309 = ann_309 := by kernel_rfl
  rw [ha]
  unfold q_309 at h
  split at h
  · rw [q_309_eq]; exact h
  · cases h

noncomputable def q_310 : QFn := fun call lp args => match args with
  | [a0, a1] =>
    TM.bind (lp (fun vs1 => TM.bind (pureT (lenT (Tryz.prog.underlying 9) (vs1.getD 0 junk))) fun t2 => TM.bind (liftT (binQ Tryz.prog .gtr 3 t2 (.int .i64 (0)))) fun t3 => condBT t3 (TM.bind (pureT (lenT (Tryz.prog.underlying 9) (vs1.getD 0 junk))) fun t4 => TM.bind (liftT (binQ Tryz.prog .sub 3 t4 (.int .i64 (1)))) fun t5 => TM.bind (liftT (indexStrQ (vs1.getD 0 junk) t5)) fun t6 => TM.bind (call 332 [(vs1.getD 1 junk), t6]) fun t7 => TM.bind (pureT (M.lift (unV .not t7))) fun t8 => condBT t8 (TM.pure (.exit 0, [(vs1.getD 0 junk), (vs1.getD 1 junk)])) (TM.bind (pureT (lenT (Tryz.prog.underlying 9) (vs1.getD 0 junk))) fun t9 => TM.bind (liftT (binQ Tryz.prog .sub 3 t9 (.int .i64 (1)))) fun t10 => TM.bind (liftT (sliceStrQ (vs1.getD 0 junk) none (some t10))) fun t11 => TM.pure (.normal, [t11, (vs1.getD 1 junk)]))) (TM.pure (.exit 0, [(vs1.getD 0 junk), (vs1.getD 1 junk)]))) [a0, a1] : TM R) fun r12 => onlyNT (unblk 0 r12.1) (TM.pure (r12.2.getD 0 junk))
  | _ => TM.fail
theorem q_310_eq (call : CallT) (lp : LoopT) (a0 : Value) (a1 : Value) : evBodyT Tryz.prog call lp ann_310 Tryz.f310 [a0, a1] = q_310 call lp [a0, a1] := by kernel_rfl
theorem q_310_ok : QOk Tryz.prog annS 310 q_310 := by
  refine ⟨Tryz.f310, by kernel_rfl, fun call lp args T r h => ?_⟩
  have ha : annS 310 = ann_310 := by kernel_rfl
  rw [ha]
  unfold q_310 at h
  split at h
  · rw [q_310_eq]; exact h
  · cases h

noncomputable def q_313 : QFn := fun call lp args => match args with
  | [a0] =>
    TM.bind (pureT (lenT (Tryz.prog.underlying 9) a0)) fun t1 => TM.bind (guardT (wantV (.bool false) true) (pureT (M.pure t1))) fun t2 => TM.bind (guardT (wantV (.bool false) true) (liftT (binQ Tryz.prog .lss 3 (.int .i64 (0)) t2))) fun t3 => TM.bind (guardT (wantV (.bool false) true) (pureT (M.pure t3))) fun t4 => TM.bind (guardT (wantV t4 true) (pureT (M.pure t1))) fun t5 => TM.bind (guardT (wantV t4 true) (liftT (binQ Tryz.prog .lss 3 t5 (.int .i64 (10))))) fun t6 => TM.bind (guardT (wantV (.bool false) true) (pureT (M.lift (pickV t4 t6 (.bool false))))) fun t7 => TM.bind (pureT (M.lift (pickV (.bool false) t7 (.bool false)))) fun t8 => TM.bind (guardT (wantV t8 false) (pureT (M.pure (.bool true)))) fun t9 => TM.bind (guardT (wantV t9 true) (pureT (M.pure t1))) fun t10 => TM.bind (guardT (wantV t9 true) (liftT (binQ Tryz.prog .lss 3 (.int .i64 (0)) t10))) fun t11 => TM.bind (guardT (wantV t9 true) (pureT (M.pure t11))) fun t12 => TM.bind (guardT (wantV t12 true) (pureT (M.pure t1))) fun t13 => TM.bind (guardT (wantV t12 true) (liftT (binQ Tryz.prog .lss 3 t13 (.int .i64 (19))))) fun t14 => TM.bind (guardT (wantV t9 true) (pureT (M.lift (pickV t12 t14 (.bool false))))) fun t15 => TM.bind (guardT (wantV t8 false) (pureT (M.lift (pickV t9 t15 (.bool false))))) fun t16 => TM.bind (pureT (M.lift (pickV t8 (.bool true) t16))) fun t17 => condBT t17 (TM.bind (liftT (indexStrQ a0 (.int .i64 (0)))) fun t18 => TM.bind (liftT (binQ Tryz.prog .eql 5 t18 (.int .u8 (45)))) fun t19 => TM.bind (guardT (wantV t19 false) (pureT (M.pure a0))) fun t20 => TM.bind (guardT (wantV t19 false) (liftT (indexStrQ t20 (.int .i64 (0))))) fun t21 => TM.bind (guardT (wantV t19 false) (liftT (binQ Tryz.prog .eql 5 t21 (.int .u8 (43))))) fun t22 => TM.bind (pureT (M.lift (pickV t19 (.bool true) t22))) fun t23 => TM.bind (condBT t23 (TM.bind (liftT (sliceStrQ a0 (some (.int .i64 (1))) none)) fun t24 => TM.bind (pureT (lenT (Tryz.prog.underlying 9) t24)) fun t25 => TM.bind (liftT (binQ Tryz.prog .lss 3 t25 (.int .i64 (1)))) fun t26 => condBT t26 (TM.bind (pureT (M.pure (.iface 403 (.int .i64 (2))))) fun t27 => TM.pure (.ret, [t24, (.int .i64 (0)), t27, a0])) (TM.pure (.normal, [t24, (.int .i64 (0)), .nilIface, a0]))) (TM.pure (.normal, [a0, (.int .i64 (0)), .nilIface, a0])) : TM R) fun r28 => exKT r28.1 (TM.bind (stepT (toBytes none 5 (r28.2.getD 0 junk)) (idsL none [(r28.2.getD 0 junk)])) fun t30 => TM.bind (pureT (lenT (Tryz.prog.underlying 140) t30)) fun t31 => TM.bind (lp (fun vs32 => TM.bind (liftT (binQ Tryz.prog .lss 3 (vs32.getD 6 junk) (vs32.getD 5 junk))) fun t33 => condBT t33 (TM.bind (pureT (M.lift (indexS 1 (vs32.getD 4 junk) (vs32.getD 6 junk)))) fun t34 => TM.bind (pureT (load Tryz.prog 5 t34)) fun t35 => TM.bind (liftT (binQ Tryz.prog .sub 5 t35 (.int .u8 (48)))) fun t36 => TM.bind (liftT (binQ Tryz.prog .gtr 5 t36 (.int .u8 (9)))) fun t37 => condBT t37 (TM.bind (pureT (M.pure (.iface 403 (.int .i64 (2))))) fun t38 => TM.pure (.ret, [(.int .i64 (0)), t38, (vs32.getD 2 junk), (vs32.getD 3 junk), (vs32.getD 4 junk), (vs32.getD 5 junk), (vs32.getD 6 junk)])) (TM.bind (liftT (binQ Tryz.prog .mul 3 (vs32.getD 3 junk) (.int .i64 (10)))) fun t39 => TM.bind (pureT (convInt .i64 t36)) fun t40 => TM.bind (liftT (binQ Tryz.prog .add 3 t39 t40)) fun t41 => TM.bind (liftT (binQ Tryz.prog .add 3 (vs32.getD 6 junk) (.int .i64 (1)))) fun t42 => TM.pure (.normal, [(vs32.getD 0 junk), (vs32.getD 1 junk), (vs32.getD 2 junk), t41, (vs32.getD 4 junk), (vs32.getD 5 junk), t42]))) (TM.pure (.exit 0, [(vs32.getD 0 junk), (vs32.getD 1 junk), (vs32.getD 2 junk), (vs32.getD 3 junk), (vs32.getD 4 junk), (vs32.getD 5 junk), (vs32.getD 6 junk)]))) [(r28.2.getD 1 junk), (r28.2.getD 2 junk), (r28.2.getD 3 junk), (.int .i64 (0)), t30, t31, (.int .i64 (0))] : TM R) fun r43 => exKT (unblk 0 r43.1) (TM.bind (liftT (indexStrQ (r43.2.getD 2 junk) (.int .i64 (0)))) fun t45 => TM.bind (liftT (binQ Tryz.prog .eql 5 t45 (.int .u8 (45)))) fun t46 => TM.bind (condBT t46 (TM.bind (pureT (M.lift (unV .neg (r43.2.getD 3 junk)))) fun t47 => TM.pure (.normal, [t47])) (TM.pure (.normal, [(r43.2.getD 3 junk)])) : TM R) fun r48 => onlyNT r48.1 (TM.pure (.tuple #[(r48.2.getD 0 junk), .nilIface]))) (TM.pure (.tuple #[(r43.2.getD 0 junk), (r43.2.getD 1 junk)])) (fun j44 => TM.fail)) (TM.pure (.tuple #[(r28.2.getD 1 junk), (r28.2.getD 2 junk)])) (fun j29 => TM.fail)) (TM.bind (call 335 [a0, (.int .i64 (10)), (.int .i64 (0))]) fun t49 => TM.bind (pureT (M.lift (extr 0 t49))) fun t50 => TM.bind (pureT (M.lift (extr 1 t49))) fun t51 => TM.pure (.tuple #[t50, t51]))
  | _ => TM.fail
theorem q_313_eq (call : CallT) (lp : LoopT) (a0 : Value) : evBodyT Tryz.prog call lp ann_313 Tryz.f313 [a0] = q_313 call lp [a0] := by kernel_rfl
theorem q_313_ok : QOk Tryz.prog annS 313 q_313 := by
  refine ⟨Tryz.f313, by kernel_rfl, fun call lp args T r h => ?_⟩
  have ha : annS 313 = ann_313 := by kernel_rfl
  rw [ha]
  unfold q_313 at h
  split at h
  · rw [q_313_eq]; exact h
  · cases h

noncomputable def q_315 : QFn := fun call lp args => match args with
  | [a0] =>
    TM.bind (pureT (lenT (Tryz.prog.underlying 9) a0)) fun t1 => TM.bind (liftT (binQ Tryz.prog .neq 3 t1 (.int .i64 (1)))) fun t2 => condBT t2 (TM.pure (.tuple #[(.int .i64 (0)), (.bool false)])) (TM.bind (call 268 [(.string ⟨#[97, 98, 99, 100, 101, 102, 103, 104, 105, 106, 107, 108, 120, 121, 116, 110]⟩), a0]) fun t3 => TM.bind (liftT (binQ Tryz.prog .geq 3 t3 (.int .i64 (0)))) fun t4 => TM.pure (.tuple #[t3, t4]))
  | _ => TM.fail
theorem q_315_eq (call : CallT) (lp : LoopT) (a0 : Value) : evBodyT Tryz.prog call lp ann_315 Tryz.f315 [a0] = q_315 call lp [a0] := by kernel_rfl
theorem q_315_ok : QOk Tryz.prog annS 315 q_315 := by
  refine ⟨Tryz.f315, by kernel_rfl, fun call lp args T r h => ?_⟩
  have ha : annS 315 = ann_315 := by kernel_rfl
  rw [ha]
  unfold q_315 at h
  split at h
  · rw [q_315_eq]; exact h
  · cases h

noncomputable def q_316 : QFn := fun call lp args => match args with
  | [a0, a1] =>
    TM.bind (call 340 [a0, a1]) fun t1 => TM.bind (pureT (M.lift (extr 0 t1))) fun t2 => TM.bind (pureT (M.lift (extr 1 t1))) fun t3 => TM.pure (.tuple #[t2, t3])
  | _ => TM.fail
theorem q_316_eq (call : CallT) (lp : LoopT) (a0 : Value) (a1 : Value) : evBodyT Tryz.prog call lp ann_316 Tryz.f316 [a0, a1] = q_316 call lp [a0, a1] := by kernel_rfl
theorem q_316_ok : QOk Tryz.prog annS 316 q_316 := by
  refine ⟨Tryz.f316, by kernel_rfl, fun call lp args T r h => ?_⟩
  have ha : annS 316 = ann_316 := by kernel_rfl
  rw [ha]
  unfold q_316 at h
  split at h
  · rw [q_316_eq]; exact h
  · cases h

noncomputable def q_317 : QFn := fun call lp args => match args with
  | [a0, a1] =>
    TM.bind (pureT (lenT (Tryz.prog.underlying 357) a0)) fun t1 => TM.bind (lp (fun vs2 => TM.bind (liftT (binQ Tryz.prog .lss 3 (vs2.getD 4 junk) (vs2.getD 3 junk))) fun t3 => condBT t3 (TM.bind (pureT (M.lift (indexS 1 (vs2.getD 0 junk) (vs2.getD 4 junk)))) fun t4 => TM.bind (pureT (load Tryz.prog 21 t4)) fun t5 => TM.bind (liftT (binQ Tryz.prog .eql 21 (vs2.getD 1 junk) t5)) fun t6 => condBT t6 (TM.pure (.ret, [(vs2.getD 0 junk), (vs2.getD 1 junk), (vs2.getD 4 junk), (vs2.getD 3 junk), (vs2.getD 4 junk)])) (TM.bind (liftT (binQ Tryz.prog .add 3 (vs2.getD 4 junk) (.int .i64 (1)))) fun t7 => TM.pure (.normal, [(vs2.getD 0 junk), (vs2.getD 1 junk), (vs2.getD 2 junk), (vs2.getD 3 junk), t7]))) (TM.pure (.exit 0, [(vs2.getD 0 junk), (vs2.getD 1 junk), (vs2.getD 2 junk), (vs2.getD 3 junk), (vs2.getD 4 junk)]))) [a0, a1, (.int .i64 (0)), t1, (.int .i64 (0))] : TM R) fun r8 => exKT (unblk 0 r8.1) (TM.pure (.int .i64 (-1))) (TM.pure (r8.2.getD 2 junk)) (fun j9 => TM.fail)
  | _ => TM.fail
theorem q_317_eq (call : CallT) (lp : LoopT) (a0 : Value) (a1 : Value) : evBodyT Tryz.prog call lp ann_317 Tryz.f317 [a0, a1] = q_317 call lp [a0, a1] := by kernel_rfl
theorem q_317_ok : QOk Tryz.prog annS 317 q_317 := by
  refine ⟨Tryz.f317, by kernel_rfl, fun call lp args T r h => ?_⟩
  have ha : annS 317 = ann_317 := by kernel_rfl
  rw [ha]
  unfold q_317 at h
  split at h
  · rw [q_317_eq]; exact h
  · cases h

noncomputable def q_324 : QFn := fun call lp args => match args with
  | [a0, a1] =>
    TM.bind (liftT (binQ Tryz.prog .rem 3 a1 (.int .i64 (2)))) fun t1 => TM.bind (liftT (binQ Tryz.prog .sub 3 a1 t1)) fun t2 => TM.bind (lp (fun vs3 => TM.bind (liftT (binQ Tryz.prog .geq 3 (vs3.getD 4 junk) (.int .i64 (100)))) fun t4 => TM.bind (guardT (wantV t4 true) (pureT (M.pure (vs3.getD 4 junk)))) fun t5 => TM.bind (guardT (wantV t4 true) (pureT (M.pure (vs3.getD 1 junk)))) fun t6 => TM.bind (guardT (wantV t4 true) (liftT (binQ Tryz.prog .sub 3 t6 (.int .i64 (18))))) fun t7 => TM.bind (guardT (wantV t4 true) (liftT (binQ Tryz.prog .sub 3 t7 (.int .i64 (1))))) fun t8 => TM.bind (guardT (wantV t4 true) (liftT (binQ Tryz.prog .gtr 3 t5 t8))) fun t9 => TM.bind (pureT (M.lift (pickV t4 t9 (.bool false)))) fun t10 => condBT t10 (TM.bind (pureT (M.lift (nilChk (vs3.getD 0 junk)))) fun t11 => TM.bind (pureT (M.lift (addP 3 t11))) fun t12 => TM.bind (pureT (load Tryz.prog 167 t12)) fun t13 => TM.bind (pureT (lookupM .int (.int .i64 (0)) true t13 (vs3.getD 4 junk))) fun t14 => TM.bind (pureT (M.lift (extr 0 t14))) fun t15 => TM.bind (pureT (M.lift (extr 1 t14))) fun t16 => condBT t16 (TM.bind (call 289 [t15]) fun t17 => TM.bind (liftT (binQ Tryz.prog .add 3 (vs3.getD 4 junk) t17)) fun t18 => TM.bind (liftT (binQ Tryz.prog .lss 3 (vs3.getD 1 junk) t18)) fun t19 => TM.pure (.ret, [(vs3.getD 0 junk), (vs3.getD 1 junk), (vs3.getD 4 junk), t19, (vs3.getD 4 junk)])) (TM.bind (liftT (binQ Tryz.prog .sub 3 (vs3.getD 4 junk) (.int .i64 (2)))) fun t20 => TM.pure (.normal, [(vs3.getD 0 junk), (vs3.getD 1 junk), (vs3.getD 2 junk), (vs3.getD 3 junk), t20]))) (TM.pure (.exit 0, [(vs3.getD 0 junk), (vs3.getD 1 junk), (vs3.getD 2 junk), (vs3.getD 3 junk), (vs3.getD 4 junk)]))) [a0, a1, (.int .i64 (0)), (.bool false), t2] : TM R) fun r21 => exKT (unblk 0 r21.1) (TM.pure (.tuple #[(.int .i64 (0)), (.bool false)])) (TM.pure (.tuple #[(r21.2.getD 2 junk), (r21.2.getD 3 junk)])) (fun j22 => TM.fail)
  | _ => TM.fail
theorem q_324_eq (call : CallT) (lp : LoopT) (a0 : Value) (a1 : Value) : evBodyT Tryz.prog call lp ann_324 Tryz.f324 [a0, a1] = q_324 call lp [a0, a1] := by kernel_rfl
theorem q_324_ok : QOk Tryz.prog annS 324 q_324 := by
  refine ⟨Tryz.f324, by kernel_rfl, fun call lp args T r h => ?_⟩
  have ha : annS 324 = ann_324 := by kernel_rfl
  rw [ha]
  unfold q_324 at h
  split at h
  · rw [q_324_eq]; exact h
  · cases h

noncomputable def q_326 : QFn := fun call lp args => match args with
  | [a0, a1, a2] =>
    TM.bind (guardT (wantV a1 true) (pureT (M.pure a0))) fun t1 => TM.bind (guardT (wantV a1 true) (pureT (M.lift (addP 2 a2)))) fun t2 => TM.bind (guardT (wantV a1 true) (pureT (load Tryz.prog 3 t2))) fun t3 => TM.bind (guardT (wantV a1 true) (liftT (binQ Tryz.prog .geq 3 t1 t3))) fun t4 => TM.bind (pureT (M.lift (pickV a1 t4 (.bool false)))) fun t5 => TM.bind (guardT (wantV t5 true) (pureT (M.pure a0))) fun t6 => TM.bind (guardT (wantV t5 true) (pureT (M.lift (addP 3 a2)))) fun t7 => TM.bind (guardT (wantV t5 true) (pureT (load Tryz.prog 3 t7))) fun t8 => TM.bind (guardT (wantV t5 true) (liftT (binQ Tryz.prog .leq 3 t6 t8))) fun t9 => TM.bind (pureT (M.lift (pickV t5 t9 (.bool false)))) fun t10 => TM.bind (guardT (wantV t10 false) (pureT (M.pure a1))) fun t11 => TM.bind (guardT (wantV t10 false) (pureT (M.lift (unV .not t11)))) fun t12 => TM.bind (guardT (wantV t10 false) (pureT (M.pure t12))) fun t13 => TM.bind (guardT (wantV t13 true) (pureT (M.pure a0))) fun t14 => TM.bind (guardT (wantV t13 true) (liftT (binQ Tryz.prog .eql 3 t14 (.int .i64 (0))))) fun t15 => TM.bind (guardT (wantV t10 false) (pureT (M.lift (pickV t13 t15 (.bool false))))) fun t16 => TM.bind (pureT (M.lift (pickV t10 (.bool true) t16))) fun t17 => TM.pure t17
  | _ => TM.fail
theorem q_326_eq (call : CallT) (lp : LoopT) (a0 : Value) (a1 : Value) (a2 : Value) : evBodyT Tryz.prog call lp ann_326 Tryz.f326 [a0, a1, a2] = q_326 call lp [a0, a1, a2] := by kernel_rfl
theorem q_326_ok : QOk Tryz.prog annS 326 q_326 := by
  refine ⟨Tryz.f326, by kernel_rfl, fun call lp args T r h => ?_⟩
  have ha : annS 326 = ann_326 := by kernel_rfl
  rw [ha]
  unfold q_326 at h
  split at h
  · rw [q_326_eq]; exact h
  · cases h

noncomputable def q_331 : QFn := fun call lp args => match args with
  | [a0, a1] =>
    TM.bind (pureT (lenT (Tryz.prog.underlying 9) a0)) fun t1 => TM.bind (pureT (lenT (Tryz.prog.underlying 9) a1)) fun t2 => TM.bind (liftT (binQ Tryz.prog .geq 3 t1 t2)) fun t3 => TM.bind (guardT (wantV t3 true) (pureT (M.pure a0))) fun t4 => TM.bind (guardT (wantV t3 true) (pureT (M.pure a1))) fun t5 => TM.bind (guardT (wantV t3 true) (pureT (lenT (Tryz.prog.underlying 9) t5))) fun t6 => TM.bind (guardT (wantV t3 true) (liftT (sliceStrQ t4 none (some t6)))) fun t7 => TM.bind (guardT (wantV t3 true) (pureT (M.pure a1))) fun t8 => TM.bind (guardT (wantV t3 true) (liftT (binQ Tryz.prog .eql 9 t7 t8))) fun t9 => TM.bind (pureT (M.lift (pickV t3 t9 (.bool false)))) fun t10 => TM.pure t10
  | _ => TM.fail
theorem q_331_eq (call : CallT) (lp : LoopT) (a0 : Value) (a1 : Value) : evBodyT Tryz.prog call lp ann_331 Tryz.f331 [a0, a1] = q_331 call lp [a0, a1] := by kernel_rfl
theorem q_331_ok : QOk Tryz.prog annS 331 q_331 := by
  refine ⟨Tryz.f331, by kernel_rfl, fun call lp args T r h => ?_⟩
  have ha : annS 331 = ann_331 := by kernel_rfl
  rw [ha]
  unfold q_331 at h
  split at h
  · rw [q_331_eq]; exact h
  · cases h

noncomputable def q_332 : QFn := fun call lp args => match args with
  | [a0, a1] =>
    TM.bind (pureT (M.lift (nilChk a0))) fun t1 => TM.bind (pureT (M.lift (indexP 256 1 t1 a1))) fun t2 => TM.bind (pureT (load Tryz.prog 4 t2)) fun t3 => TM.pure t3
  | _ => TM.fail
theorem q_332_eq (call : CallT) (lp : LoopT) (a0 : Value) (a1 : Value) : evBodyT Tryz.prog call lp ann_332 Tryz.f332 [a0, a1] = q_332 call lp [a0, a1] := by kernel_rfl
theorem q_332_ok : QOk Tryz.prog annS 332 q_332 := by
  refine ⟨Tryz.f332, by kernel_rfl, fun call lp args T r h => ?_⟩
  have ha : annS 332 = ann_332 := by kernel_rfl
  rw [ha]
  unfold q_332 at h
  split at h
  · rw [q_332_eq]; exact h
  · cases h

noncomputable def q_340 : QFn := fun call lp args => match args with
  | [a0, a1] =>
    TM.bind (call 331 [a0, a1]) fun t1 => TM.bind (pureT (M.lift (unV .not t1))) fun t2 => condBT t2 (TM.pure (.tuple #[a0, (.bool false)])) (TM.bind (pureT (lenT (Tryz.prog.underlying 9) a1)) fun t3 => TM.bind (liftT (sliceStrQ a0 (some t3) none)) fun t4 => TM.pure (.tuple #[t4, (.bool true)]))
  | _ => TM.fail
theorem q_340_eq (call : CallT) (lp : LoopT) (a0 : Value) (a1 : Value) : evBodyT Tryz.prog call lp ann_340 Tryz.f340 [a0, a1] = q_340 call lp [a0, a1] := by kernel_rfl
theorem q_340_ok : QOk Tryz.prog annS 340 q_340 := by
  refine ⟨Tryz.f340, by kernel_rfl, fun call lp args T r h => ?_⟩
  have ha : annS 340 = ann_340 := by kernel_rfl
  rw [ha]
  unfold q_340 at h
  split at h
  · rw [q_340_eq]; exact h
  · cases h

noncomputable def q_373 : QFn := fun call lp args => match args with
  | [a0, a1] =>
    TM.bind (liftT (binQ Tryz.prog .leq 3 a1 (.int .i64 (0)))) fun t1 => condBT t1 (TM.pure (.int .i64 (1))) (TM.pure (.int .i64 (0)))
  | _ => TM.fail
theorem q_373_eq (call : CallT) (lp : LoopT) (a0 : Value) (a1 : Value) : evBodyT Tryz.prog call lp ann_373 Tryz.f373 [a0, a1] = q_373 call lp [a0, a1] := by kernel_rfl
theorem q_373_ok : QOk Tryz.prog annS 373 q_373 := by
  refine ⟨Tryz.f373, by kernel_rfl, fun call lp args T r h => ?_⟩
  have ha : annS 373 = ann_373 := by kernel_rfl
  rw [ha]
  unfold q_373 at h
  split at h
  · rw [q_373_eq]; exact h
  · cases h

end Go.Proofs.YtepchknpgeopfaaGreatDoor.E
