/-
  SEAT E: the quick terms of the functions that the closed run comes to (printed by wip/gen/qgen.py), part 2.
-/
import Derived.Test.YtepchknpgeopfaaGreatDoorAnnE
import Derived.Test.YtepchknpgeopfaaGreatDoorEng25
import Derived.Test.YtepchknpgeopfaaGreatDoorProg
import Derived.KernelRfl
set_option linter.unusedVariables false
set_option linter.unusedSimpArgs false
namespace Go.Proofs.YtepchknpgeopfaaGreatDoor.E
open Go
set_option maxRecDepth 100000

noncomputable def q_123 : QFn := fun call lp args => match args with
  | [a0, a1, a2] =>
    TM.bind (stepT (box none 75 a0) (idsL none [a0])) fun t1 => TM.bind (pureT (M.lift (addP 0 t1))) fun t2 => TM.bind (pureT (load Tryz.prog 9 t2)) fun t3 => TM.bind (liftT (binQ Tryz.prog .add 9 t3 (.string ⟨#[32]⟩))) fun t4 => TM.bind (liftT (binQ Tryz.prog .add 9 t4 a2)) fun t5 => TM.bind (liftT (binQ Tryz.prog .eql 9 t5 (.string ⟨#[100, 101, 113, 117, 101, 32, 112, 117, 115, 104]⟩))) fun t6 => TM.bind (condBT t6 (TM.pure (.normal, [a1, t5, t6])) (TM.bind (liftT (binQ Tryz.prog .eql 9 t5 (.string ⟨#[100, 101, 113, 117, 101, 32, 112, 111, 112]⟩))) fun t7 => TM.pure (.normal, [a1, t5, t7])) : TM R) fun r8 => onlyNT r8.1 (condBT (r8.2.getD 2 junk) (TM.bind (liftT (binQ Tryz.prog .eql 3 (r8.2.getD 0 junk) (.int .i64 (0)))) fun t9 => TM.pure t9) (TM.bind (liftT (binQ Tryz.prog .eql 9 (r8.2.getD 1 junk) (.string ⟨#[115, 110, 97, 112, 32, 117, 112, 100, 97, 116, 101]⟩))) fun t10 => condBT t10 (TM.bind (liftT (binQ Tryz.prog .lss 3 (r8.2.getD 0 junk) (.int .i64 (2)))) fun t11 => TM.pure t11) (TM.bind (liftT (binQ Tryz.prog .eql 9 (r8.2.getD 1 junk) (.string ⟨#[117, 110, 105, 32, 97, 100, 100]⟩))) fun t12 => condBT t12 (TM.bind (liftT (binQ Tryz.prog .lss 3 (r8.2.getD 0 junk) (.int .i64 (3)))) fun t13 => TM.pure t13) (TM.pure (.bool true)))))
  | _ => TM.fail
theorem q_123_eq (call : CallT) (lp : LoopT) (a0 : Value) (a1 : Value) (a2 : Value) : evBodyT Tryz.prog call lp ann_123 Tryz.f123 [a0, a1, a2] = q_123 call lp [a0, a1, a2] := by kernel_rfl
theorem q_123_ok : QOk Tryz.prog annS 123 q_123 := by
  refine ⟨Tryz.f123, by kernel_rfl, fun call lp args T r h => ?_⟩
  have ha : annS 123 = ann_123 := by kernel_rfl
  rw [ha]
  unfold q_123 at h
  split at h
  · rw [q_123_eq]; exact h
  · cases h

noncomputable def q_124 : QFn := fun call lp args => match args with
  | [a0, a1, a2] =>
    TM.bind (pureT (M.lift (unV .not a1))) fun t1 => condBT t1 (TM.bind (liftT (binQ Tryz.prog .eql 3 a0 (.int .i64 (0)))) fun t2 => TM.pure t2) (TM.bind (pureT (M.lift (addP 4 a2))) fun t3 => TM.bind (pureT (load Tryz.prog 3 t3)) fun t4 => TM.bind (liftT (binQ Tryz.prog .geq 3 a0 t4)) fun t5 => TM.bind (guardT (wantV t5 true) (pureT (M.pure a0))) fun t6 => TM.bind (guardT (wantV t5 true) (pureT (M.lift (addP 5 a2)))) fun t7 => TM.bind (guardT (wantV t5 true) (pureT (load Tryz.prog 3 t7))) fun t8 => TM.bind (guardT (wantV t5 true) (liftT (binQ Tryz.prog .leq 3 t6 t8))) fun t9 => TM.bind (pureT (M.lift (pickV t5 t9 (.bool false)))) fun t10 => TM.pure t10)
  | _ => TM.fail
theorem q_124_eq (call : CallT) (lp : LoopT) (a0 : Value) (a1 : Value) (a2 : Value) : evBodyT Tryz.prog call lp ann_124 Tryz.f124 [a0, a1, a2] = q_124 call lp [a0, a1, a2] := by kernel_rfl
theorem q_124_ok : QOk Tryz.prog annS 124 q_124 := by
  refine ⟨Tryz.f124, by kernel_rfl, fun call lp args T r h => ?_⟩
  have ha : annS 124 = ann_124 := by kernel_rfl
  rw [ha]
  unfold q_124 at h
  split at h
  · rw [q_124_eq]; exact h
  · cases h

noncomputable def q_125 : QFn := fun call lp args => match args with
  | [a0, a1] =>
    TM.bind (pureT (lenT (Tryz.prog.underlying 38) a0)) fun t1 => TM.bind (lp (fun vs2 => TM.bind (liftT (binQ Tryz.prog .lss 3 (vs2.getD 4 junk) (vs2.getD 3 junk))) fun t3 => condBT t3 (TM.bind (pureT (M.lift (indexS 1 (vs2.getD 0 junk) (vs2.getD 4 junk)))) fun t4 => TM.bind (pureT (load Tryz.prog 3 t4)) fun t5 => TM.bind (callVT call (vs2.getD 1 junk) [t5]) fun t6 => condBT t6 (TM.pure (.ret, [(vs2.getD 0 junk), (vs2.getD 1 junk), (vs2.getD 4 junk), (vs2.getD 3 junk), (vs2.getD 4 junk)])) (TM.bind (liftT (binQ Tryz.prog .add 3 (vs2.getD 4 junk) (.int .i64 (1)))) fun t7 => TM.pure (.normal, [(vs2.getD 0 junk), (vs2.getD 1 junk), (vs2.getD 2 junk), (vs2.getD 3 junk), t7]))) (TM.pure (.exit 0, [(vs2.getD 0 junk), (vs2.getD 1 junk), (vs2.getD 2 junk), (vs2.getD 3 junk), (vs2.getD 4 junk)]))) [a0, a1, (.int .i64 (0)), t1, (.int .i64 (0))] : TM R) fun r8 => exKT (unblk 0 r8.1) (TM.pure (.int .i64 (-1))) (TM.pure (r8.2.getD 2 junk)) (fun j9 => TM.fail)
  | _ => TM.fail
theorem q_125_eq (call : CallT) (lp : LoopT) (a0 : Value) (a1 : Value) : evBodyT Tryz.prog call lp ann_125 Tryz.f125 [a0, a1] = q_125 call lp [a0, a1] := by kernel_rfl
theorem q_125_ok : QOk Tryz.prog annS 125 q_125 := by
  refine ⟨Tryz.f125, by kernel_rfl, fun call lp args T r h => ?_⟩
  have ha : annS 125 = ann_125 := by kernel_rfl
  rw [ha]
  unfold q_125 at h
  split at h
  · rw [q_125_eq]; exact h
  · cases h

noncomputable def q_126 : QFn := fun call lp args => match args with
  | [a0, a1] =>
    TM.bind (call 219 [a0, a1, (.int .i64 (0)), (.int .i64 (-1))]) fun t1 => TM.pure t1
  | _ => TM.fail
theorem q_126_eq (call : CallT) (lp : LoopT) (a0 : Value) (a1 : Value) : evBodyT Tryz.prog call lp ann_126 Tryz.f126 [a0, a1] = q_126 call lp [a0, a1] := by kernel_rfl
theorem q_126_ok : QOk Tryz.prog annS 126 q_126 := by
  refine ⟨Tryz.f126, by kernel_rfl, fun call lp args T r h => ?_⟩
  have ha : annS 126 = ann_126 := by kernel_rfl
  rw [ha]
  unfold q_126 at h
  split at h
  · rw [q_126_eq]; exact h
  · cases h

noncomputable def q_127 : QFn := fun call lp args => match args with
  | [] =>
    TM.bind (pureT (buildM Tryz.prog 216 [(0, (.string ⟨#[115, 101, 116]⟩)), (1, (.string ⟨#[114, 118]⟩))])) fun t1 => TM.bind (pureT (buildM Tryz.prog 216 [(0, (.string ⟨#[97, 100, 100]⟩)), (1, (.string ⟨#[114, 115, 118]⟩))])) fun t2 => TM.bind (pureT (buildM Tryz.prog 216 [(0, (.string ⟨#[115, 117, 98]⟩)), (1, (.string ⟨#[114, 115, 118]⟩))])) fun t3 => TM.bind (pureT (buildM Tryz.prog 216 [(0, (.string ⟨#[109, 117, 108]⟩)), (1, (.string ⟨#[114, 115, 118]⟩))])) fun t4 => TM.bind (pureT (buildM Tryz.prog 216 [(0, (.string ⟨#[100, 105, 118]⟩)), (1, (.string ⟨#[114, 115, 118]⟩))])) fun t5 => TM.bind (pureT (buildM Tryz.prog 216 [(0, (.string ⟨#[114, 101, 109]⟩)), (1, (.string ⟨#[114, 115, 118]⟩))])) fun t6 => TM.bind (pureT (buildM Tryz.prog 216 [(0, (.string ⟨#[116, 117, 114, 110]⟩)), (1, (.string ⟨#[114, 115]⟩))])) fun t7 => TM.bind (pureT (buildM Tryz.prog 216 [(0, (.string ⟨#[101, 113]⟩)), (1, (.string ⟨#[115, 118, 76]⟩))])) fun t8 => TM.bind (pureT (buildM Tryz.prog 216 [(0, (.string ⟨#[110, 101]⟩)), (1, (.string ⟨#[115, 118, 76]⟩))])) fun t9 => TM.bind (pureT (buildM Tryz.prog 216 [(0, (.string ⟨#[108, 116]⟩)), (1, (.string ⟨#[115, 118, 76]⟩))])) fun t10 => TM.bind (pureT (buildM Tryz.prog 216 [(0, (.string ⟨#[103, 111]⟩)), (1, (.string ⟨#[76]⟩))])) fun t11 => TM.bind (pureT (buildM Tryz.prog 216 [(0, (.string ⟨#[99, 97, 108, 108]⟩)), (1, (.string ⟨#[76]⟩))])) fun t12 => TM.bind (pureT (buildM Tryz.prog 216 [(0, (.string ⟨#[98, 97, 99, 107]⟩)), (1, (.string ⟨#[]⟩))])) fun t13 => TM.bind (pureT (buildM Tryz.prog 216 [(0, (.string ⟨#[108, 111, 97, 100]⟩)), (1, (.string ⟨#[114, 115, 111]⟩))])) fun t14 => TM.bind (pureT (buildM Tryz.prog 216 [(0, (.string ⟨#[115, 116, 111, 114, 101]⟩)), (1, (.string ⟨#[115, 111, 118]⟩))])) fun t15 => TM.bind (pureT (buildM Tryz.prog 216 [(0, (.string ⟨#[99, 97, 115]⟩)), (1, (.string ⟨#[114, 115, 111, 118, 119]⟩))])) fun t16 => TM.bind (pureT (buildM Tryz.prog 216 [(0, (.string ⟨#[102, 97, 97]⟩)), (1, (.string ⟨#[114, 115, 111, 118]⟩))])) fun t17 => TM.bind (pureT (buildM Tryz.prog 216 [(0, (.string ⟨#[108, 108]⟩)), (1, (.string ⟨#[114, 115, 111]⟩))])) fun t18 => TM.bind (pureT (buildM Tryz.prog 216 [(0, (.string ⟨#[115, 99]⟩)), (1, (.string ⟨#[114, 115, 111, 118]⟩))])) fun t19 => TM.bind (pureT (buildM Tryz.prog 216 [(0, (.string ⟨#[110, 101, 119]⟩)), (1, (.string ⟨#[114, 118]⟩))])) fun t20 => TM.bind (pureT (buildM Tryz.prog 216 [(0, (.string ⟨#[102, 114, 101, 101]⟩)), (1, (.string ⟨#[115]⟩))])) fun t21 => TM.bind (pureT (buildM Tryz.prog 216 [(0, (.string ⟨#[99, 111, 112, 121]⟩)), (1, (.string ⟨#[115, 118, 111]⟩))])) fun t22 => TM.bind (pureT (buildM Tryz.prog 216 [(0, (.string ⟨#[104, 111, 108, 100]⟩)), (1, (.string ⟨#[111, 118]⟩))])) fun t23 => TM.bind (pureT (buildM Tryz.prog 216 [(0, (.string ⟨#[105, 110]⟩)), (1, (.string ⟨#[]⟩))])) fun t24 => TM.bind (pureT (buildM Tryz.prog 216 [(0, (.string ⟨#[111, 117, 116]⟩)), (1, (.string ⟨#[]⟩))])) fun t25 => TM.bind (pureT (buildM Tryz.prog 216 [(0, (.string ⟨#[103, 105, 118, 101]⟩)), (1, (.string ⟨#[118]⟩))])) fun t26 => TM.bind (stepT (buildSliceM Tryz.prog none 213 26 [(0, t1), (1, t2), (2, t3), (3, t4), (4, t5), (5, t6), (6, t7), (7, t8), (8, t9), (9, t10), (10, t11), (11, t12), (12, t13), (13, t14), (14, t15), (15, t16), (16, t17), (17, t18), (18, t19), (19, t20), (20, t21), (21, t22), (22, t23), (23, t24), (24, t25), (25, t26)]) (idsL none [t1, t2, t3, t4, t5, t6, t7, t8, t9, t10, t11, t12, t13, t14, t15, t16, t17, t18, t19, t20, t21, t22, t23, t24, t25, t26])) fun t27 => TM.pure t27
  | _ => TM.fail
theorem q_127_eq (call : CallT) (lp : LoopT) : evBodyT Tryz.prog call lp ann_127 Tryz.f127 [] = q_127 call lp [] := by kernel_rfl
theorem q_127_ok : QOk Tryz.prog annS 127 q_127 := by
  refine ⟨Tryz.f127, by kernel_rfl, fun call lp args T r h => ?_⟩
  have ha : annS 127 = ann_127 := by kernel_rfl
  rw [ha]
  unfold q_127 at h
  split at h
  · rw [q_127_eq]; exact h
  · cases h

noncomputable def q_128 : QFn := fun call lp args => match args with
  | [a0, a1] =>
    TM.bind (call 220 [a0, a1]) fun t1 => TM.bind (pureT (M.lift (extr 0 t1))) fun t2 => TM.bind (pureT (M.lift (extr 1 t1))) fun t3 => TM.bind (pureT (M.lift (extr 2 t1))) fun t4 => TM.pure (.tuple #[t2, t3, t4])
  | _ => TM.fail
theorem q_128_eq (call : CallT) (lp : LoopT) (a0 : Value) (a1 : Value) : evBodyT Tryz.prog call lp ann_128 Tryz.f128 [a0, a1] = q_128 call lp [a0, a1] := by kernel_rfl
theorem q_128_ok : QOk Tryz.prog annS 128 q_128 := by
  refine ⟨Tryz.f128, by kernel_rfl, fun call lp args T r h => ?_⟩
  have ha : annS 128 = ann_128 := by kernel_rfl
  rw [ha]
  unfold q_128 at h
  split at h
  · rw [q_128_eq]; exact h
  · cases h

noncomputable def q_129 : QFn := fun call lp args => match args with
  | [a0, a1] =>
    TM.bind (stepT (makeSl none 299 (Tryz.prog.bytesOf 299) [(.int .i64 (0)), (.int .i64 (0))] (.int .i64 (0)) (.int .i64 (32))) (idsL none [(.int .i64 (0)), (.int .i64 (32))])) fun t1 => TM.bind (stepT (rangeStr none a0) (idsL none [a0])) fun t2 => TM.bind (lp (fun vs3 => TM.bind (stepT (nextStrQ (vs3.getD 4 junk)) (idsL none [(vs3.getD 4 junk)])) fun t4 => TM.bind (pureT (M.lift (extr 0 t4))) fun t5 => condBT t5 (TM.bind (TM.bind (pureT (M.lift (extr 1 t4))) fun t6 => TM.bind (pureT (M.lift (extr 2 t4))) fun t7 => TM.bind (callVT call (vs3.getD 1 junk) [t7]) fun t8 => TM.bind (condBT t8 (TM.bind (liftT (binQ Tryz.prog .geq 3 (vs3.getD 3 junk) (.int .i64 (0)))) fun t9 => TM.bind (condBT t9 (TM.bind (pureT (buildM Tryz.prog 299 [(0, (vs3.getD 3 junk)), (1, t6)])) fun t10 => TM.bind (stepT (buildSliceM Tryz.prog none 297 1 [(0, t10)]) (idsL none [t10])) fun t11 => TM.bind (stepT (append none 299 2 (Tryz.prog.bytesOf 299) (vs3.getD 2 junk) t11) (idsL none [(vs3.getD 2 junk), t11])) fun t12 => TM.bind (pureT (M.lift (unV .xor (vs3.getD 3 junk)))) fun t13 => TM.pure (.normal, [(vs3.getD 0 junk), (vs3.getD 1 junk), t12, t13, (vs3.getD 4 junk)])) (TM.pure (.normal, [(vs3.getD 0 junk), (vs3.getD 1 junk), (vs3.getD 2 junk), (vs3.getD 3 junk), (vs3.getD 4 junk)])) : TM R) fun r14 => onlyNT r14.1 (TM.pure (.normal, [(r14.2.getD 0 junk), (r14.2.getD 1 junk), (r14.2.getD 2 junk), (r14.2.getD 3 junk), (r14.2.getD 4 junk)]))) (TM.bind (liftT (binQ Tryz.prog .lss 3 (vs3.getD 3 junk) (.int .i64 (0)))) fun t15 => TM.bind (condBT t15 (TM.pure (.normal, [(vs3.getD 0 junk), (vs3.getD 1 junk), (vs3.getD 2 junk), t6, (vs3.getD 4 junk)])) (TM.pure (.normal, [(vs3.getD 0 junk), (vs3.getD 1 junk), (vs3.getD 2 junk), (vs3.getD 3 junk), (vs3.getD 4 junk)])) : TM R) fun r16 => onlyNT r16.1 (TM.pure (.normal, [(r16.2.getD 0 junk), (r16.2.getD 1 junk), (r16.2.getD 2 junk), (r16.2.getD 3 junk), (r16.2.getD 4 junk)]))) : TM R) fun r17 => onlyNT r17.1 (TM.pure (.normal, [(r17.2.getD 0 junk), (r17.2.getD 1 junk), (r17.2.getD 2 junk), (r17.2.getD 3 junk), (r17.2.getD 4 junk)])) : TM R) fun r18 => onlyNT (unblk 1 r18.1) (TM.pure (.normal, [(r18.2.getD 0 junk), (r18.2.getD 1 junk), (r18.2.getD 2 junk), (r18.2.getD 3 junk), (r18.2.getD 4 junk)]))) (TM.pure (.exit 0, [(vs3.getD 0 junk), (vs3.getD 1 junk), (vs3.getD 2 junk), (vs3.getD 3 junk), (vs3.getD 4 junk)]))) [a0, a1, t1, (.int .i64 (-1)), t2] : TM R) fun r19 => onlyNT (unblk 0 r19.1) (TM.bind (liftT (binQ Tryz.prog .geq 3 (r19.2.getD 3 junk) (.int .i64 (0)))) fun t20 => TM.bind (condBT t20 (TM.bind (pureT (lenT (Tryz.prog.underlying 9) (r19.2.getD 0 junk))) fun t21 => TM.bind (pureT (buildM Tryz.prog 299 [(0, (r19.2.getD 3 junk)), (1, t21)])) fun t22 => TM.bind (stepT (buildSliceM Tryz.prog none 297 1 [(0, t22)]) (idsL none [t22])) fun t23 => TM.bind (stepT (append none 299 2 (Tryz.prog.bytesOf 299) (r19.2.getD 2 junk) t23) (idsL none [(r19.2.getD 2 junk), t23])) fun t24 => TM.pure (.normal, [(r19.2.getD 0 junk), t24])) (TM.pure (.normal, [(r19.2.getD 0 junk), (r19.2.getD 2 junk)])) : TM R) fun r25 => onlyNT r25.1 (TM.bind (pureT (lenT (Tryz.prog.underlying 297) (r25.2.getD 1 junk))) fun t26 => TM.bind (stepT (makeSl none 9 (Tryz.prog.bytesOf 9) [(.string ⟨#[]⟩)] t26 t26) (idsL none [t26, t26])) fun t27 => TM.bind (pureT (lenT (Tryz.prog.underlying 297) (r25.2.getD 1 junk))) fun t28 => TM.bind (lp (fun vs29 => TM.bind (liftT (binQ Tryz.prog .lss 3 (vs29.getD 4 junk) (vs29.getD 3 junk))) fun t30 => condBT t30 (TM.bind (TM.bind (pureT (M.lift (indexS 2 (vs29.getD 2 junk) (vs29.getD 4 junk)))) fun t31 => TM.bind (pureT (load Tryz.prog 299 t31)) fun t32 => TM.bind (stepT (M.bind (newRow none 299 [(.int .i64 (0)), (.int .i64 (0))]) fun b => M.pure (.pointer (some ⟨b, 0, none⟩))) (idsL none [])) fun t33 => TM.bind (stepT (store 2 t33 t32) (idsL none [t33, t32])) fun t34 => TM.bind (pureT (M.lift (addP 0 t33))) fun t35 => TM.bind (pureT (load Tryz.prog 3 t35)) fun t36 => TM.bind (pureT (M.lift (addP 1 t33))) fun t37 => TM.bind (pureT (load Tryz.prog 3 t37)) fun t38 => TM.bind (liftT (sliceStrQ (vs29.getD 0 junk) (some t36) (some t38))) fun t39 => TM.bind (pureT (M.lift (indexS 1 (vs29.getD 1 junk) (vs29.getD 4 junk)))) fun t40 => TM.bind (stepT (store 1 t40 t39) (idsL none [t40, t39])) fun t41 => TM.pure (.normal, [(vs29.getD 0 junk), (vs29.getD 1 junk), (vs29.getD 2 junk), (vs29.getD 3 junk), (vs29.getD 4 junk)]) : TM R) fun r42 => onlyNT (unblk 3 r42.1) (TM.bind (liftT (binQ Tryz.prog .add 3 (r42.2.getD 4 junk) (.int .i64 (1)))) fun t43 => TM.pure (.normal, [(r42.2.getD 0 junk), (r42.2.getD 1 junk), (r42.2.getD 2 junk), (r42.2.getD 3 junk), t43]))) (TM.pure (.exit 2, [(vs29.getD 0 junk), (vs29.getD 1 junk), (vs29.getD 2 junk), (vs29.getD 3 junk), (vs29.getD 4 junk)]))) [(r25.2.getD 0 junk), t27, (r25.2.getD 1 junk), t28, (.int .i64 (0))] : TM R) fun r44 => onlyNT (unblk 2 r44.1) (TM.pure (r44.2.getD 1 junk))))
  | _ => TM.fail
theorem q_129_eq (call : CallT) (lp : LoopT) (a0 : Value) (a1 : Value) : evBodyT Tryz.prog call lp ann_129 Tryz.f129 [a0, a1] = q_129 call lp [a0, a1] := by kernel_rfl
theorem q_129_ok : QOk Tryz.prog annS 129 q_129 := by
  refine ⟨Tryz.f129, by kernel_rfl, fun call lp args T r h => ?_⟩
  have ha : annS 129 = ann_129 := by kernel_rfl
  rw [ha]
  unfold q_129 at h
  split at h
  · rw [q_129_eq]; exact h
  · cases h

noncomputable def q_130 : QFn := fun call lp args => match args with
  | [a0] =>
    TM.bind (liftT (binQ Tryz.prog .eql 21 a0 (.int .i32 (32)))) fun t1 => TM.pure t1
  | _ => TM.fail
theorem q_130_eq (call : CallT) (lp : LoopT) (a0 : Value) : evBodyT Tryz.prog call lp ann_130 Tryz.f130 [a0] = q_130 call lp [a0] := by kernel_rfl
theorem q_130_ok : QOk Tryz.prog annS 130 q_130 := by
  refine ⟨Tryz.f130, by kernel_rfl, fun call lp args T r h => ?_⟩
  have ha : annS 130 = ann_130 := by kernel_rfl
  rw [ha]
  unfold q_130 at h
  split at h
  · rw [q_130_eq]; exact h
  · cases h

noncomputable def q_131 : QFn := fun call lp args => match args with
  | [a0, a1] =>
    TM.bind (pureT (M.lift (nilChk a0))) fun t1 => TM.bind (pureT (M.lift (addP 3 t1))) fun t2 => TM.bind (pureT (load Tryz.prog 3 t2)) fun t3 => TM.bind (liftT (binQ Tryz.prog .eql 3 t3 (.int .i64 (0)))) fun t4 => condBT t4 (TM.bind (pureT (lenT (Tryz.prog.underlying 23) a1)) fun t5 => TM.bind (liftT (binQ Tryz.prog .neq 3 t5 (.int .i64 (2)))) fun t6 => TM.bind (guardT (wantV t6 false) (pureT (M.pure a1))) fun t7 => TM.bind (guardT (wantV t6 false) (pureT (M.lift (indexS 1 t7 (.int .i64 (0)))))) fun t8 => TM.bind (guardT (wantV t6 false) (pureT (load Tryz.prog 9 t8))) fun t9 => TM.bind (guardT (wantV t6 false) (liftT (binQ Tryz.prog .neq 9 t9 (.string ⟨#[115, 116, 114, 117, 99, 116]⟩)))) fun t10 => TM.bind (pureT (M.lift (pickV t6 (.bool true) t10))) fun t11 => condBT t11 (TM.pure (.bool false)) (TM.bind (pureT (M.lift (indexS 1 a1 (.int .i64 (1))))) fun t12 => TM.bind (pureT (load Tryz.prog 9 t12)) fun t13 => TM.bind (pureT (M.lift (nilChk a0))) fun t14 => TM.bind (pureT (M.lift (addP 0 t14))) fun t15 => TM.bind (pureT (M.lift (addP 0 t15))) fun t16 => TM.bind (stepT (store 1 t16 t13) (idsL none [t16, t13])) fun t17 => TM.bind (pureT (M.lift (nilChk a0))) fun t18 => TM.bind (pureT (M.lift (addP 3 t18))) fun t19 => TM.bind (stepT (store 1 t19 (.int .i64 (1))) (idsL none [t19, (.int .i64 (1))])) fun t20 => TM.pure (.bool true))) (TM.bind (pureT (M.lift (nilChk a0))) fun t21 => TM.bind (pureT (M.lift (addP 3 t21))) fun t22 => TM.bind (pureT (load Tryz.prog 3 t22)) fun t23 => TM.bind (liftT (binQ Tryz.prog .eql 3 t23 (.int .i64 (1)))) fun t24 => condBT t24 (TM.bind (pureT (lenT (Tryz.prog.underlying 23) a1)) fun t25 => TM.bind (liftT (binQ Tryz.prog .neq 3 t25 (.int .i64 (2)))) fun t26 => TM.bind (guardT (wantV t26 false) (pureT (M.pure a1))) fun t27 => TM.bind (guardT (wantV t26 false) (pureT (M.lift (indexS 1 t27 (.int .i64 (0)))))) fun t28 => TM.bind (guardT (wantV t26 false) (pureT (load Tryz.prog 9 t28))) fun t29 => TM.bind (guardT (wantV t26 false) (liftT (binQ Tryz.prog .neq 9 t29 (.string ⟨#[99, 101, 108, 108, 115]⟩)))) fun t30 => TM.bind (pureT (M.lift (pickV t26 (.bool true) t30))) fun t31 => condBT t31 (TM.pure (.bool false)) (TM.bind (pureT (M.lift (indexS 1 a1 (.int .i64 (1))))) fun t32 => TM.bind (pureT (load Tryz.prog 9 t32)) fun t33 => TM.bind (call 221 [t33]) fun t34 => TM.bind (pureT (M.lift (extr 0 t34))) fun t35 => TM.bind (pureT (M.lift (extr 1 t34))) fun t36 => TM.bind (pureT (M.lift (nilChk a0))) fun t37 => TM.bind (pureT (M.lift (addP 0 t37))) fun t38 => TM.bind (pureT (M.lift (addP 1 t38))) fun t39 => TM.bind (stepT (store 1 t39 t35) (idsL none [t39, t35])) fun t40 => TM.bind (pureT (M.lift (nilChk a0))) fun t41 => TM.bind (pureT (M.lift (addP 3 t41))) fun t42 => TM.bind (stepT (store 1 t42 (.int .i64 (2))) (idsL none [t42, (.int .i64 (2))])) fun t43 => TM.pure t36)) (TM.bind (pureT (M.lift (indexS 1 a1 (.int .i64 (0))))) fun t44 => TM.bind (pureT (load Tryz.prog 9 t44)) fun t45 => TM.bind (liftT (binQ Tryz.prog .eql 9 t45 (.string ⟨#[111, 112]⟩))) fun t46 => condBT t46 (TM.bind (pureT (lenT (Tryz.prog.underlying 23) a1)) fun t47 => TM.bind (liftT (binQ Tryz.prog .neq 3 t47 (.int .i64 (2)))) fun t48 => condBT t48 (TM.pure (.bool false)) (TM.bind (call 132 [a0]) fun t49 => TM.bind (reserveT 16) fun base50 => TM.bind (pureT (M.lift (nilChk a0))) fun t51 => TM.bind (pureT (M.lift (addP 0 t51))) fun t52 => TM.bind (pureT (M.lift (addP 2 t52))) fun t53 => TM.bind (pureT (load Tryz.prog 81 t53)) fun t54 => TM.bind (pureT (M.lift (indexS 1 a1 (.int .i64 (1))))) fun t55 => TM.bind (pureT (load Tryz.prog 9 t55)) fun t56 => TM.bind (pureT (buildM Tryz.prog 151 [(0, t56)])) fun t57 => TM.bind (stepT (buildSliceM Tryz.prog (some (base50 + 10)) 81 1 [(0, t57)]) (idsL (some (base50 + 10)) [t57])) fun t58 => TM.bind (stepT (append (some (base50 + 11)) 151 2 (Tryz.prog.bytesOf 151) t54 t58) (idsL (some (base50 + 11)) [t54, t58])) fun t59 => TM.bind (pureT (M.lift (nilChk a0))) fun t60 => TM.bind (pureT (M.lift (addP 0 t60))) fun t61 => TM.bind (pureT (M.lift (addP 2 t61))) fun t62 => TM.bind (stepT (store 1 t62 t59) (idsL (some (base50 + 15)) [t62, t59])) fun t63 => TM.pure (.bool true))) (TM.bind (pureT (M.lift (nilChk a0))) fun t64 => TM.bind (pureT (M.lift (addP 0 t64))) fun t65 => TM.bind (pureT (M.lift (addP 2 t65))) fun t66 => TM.bind (pureT (load Tryz.prog 81 t66)) fun t67 => TM.bind (pureT (lenT (Tryz.prog.underlying 81) t67)) fun t68 => TM.bind (liftT (binQ Tryz.prog .eql 3 t68 (.int .i64 (0)))) fun t69 => condBT t69 (TM.pure (.bool false)) (TM.bind (pureT (lenT (Tryz.prog.underlying 23) a1)) fun t70 => TM.bind (liftT (binQ Tryz.prog .eql 3 t70 (.int .i64 (1)))) fun t71 => TM.bind (guardT (wantV t71 true) (pureT (M.pure a1))) fun t72 => TM.bind (guardT (wantV t71 true) (pureT (M.lift (indexS 1 t72 (.int .i64 (0)))))) fun t73 => TM.bind (guardT (wantV t71 true) (pureT (load Tryz.prog 9 t73))) fun t74 => TM.bind (guardT (wantV t71 true) (call 222 [t74, (.string ⟨#[58]⟩)])) fun t75 => TM.bind (pureT (M.lift (pickV t71 t75 (.bool false)))) fun t76 => condBT t76 (TM.bind (pureT (M.lift (indexS 1 a1 (.int .i64 (0))))) fun t77 => TM.bind (pureT (load Tryz.prog 9 t77)) fun t78 => TM.bind (call 223 [t78, (.string ⟨#[58]⟩)]) fun t79 => TM.bind (pureT (M.lift (nilChk a0))) fun t80 => TM.bind (pureT (M.lift (addP 4 t80))) fun t81 => TM.bind (pureT (load Tryz.prog 209 t81)) fun t82 => TM.bind (pureT (lookupM .str (.int .i64 (0)) true t82 t79)) fun t83 => TM.bind (pureT (M.lift (extr 0 t83))) fun t84 => TM.bind (pureT (M.lift (extr 1 t83))) fun t85 => TM.bind (pureT (M.lift (nilChk a0))) fun t86 => TM.bind (pureT (M.lift (addP 8 t86))) fun t87 => TM.bind (pureT (load Tryz.prog 4 t87)) fun t88 => TM.bind (guardT (wantV t88 false) (pureT (M.pure t85))) fun t89 => TM.bind (pureT (M.lift (pickV t88 (.bool true) t89))) fun t90 => TM.bind (pureT (M.lift (nilChk a0))) fun t91 => TM.bind (pureT (M.lift (addP 8 t91))) fun t92 => TM.bind (stepT (store 1 t92 t90) (idsL none [t92, t90])) fun t93 => TM.bind (reserveT 22) fun base94 => TM.bind (pureT (M.lift (nilChk a0))) fun t95 => TM.bind (pureT (M.lift (addP 4 t95))) fun t96 => TM.bind (pureT (load Tryz.prog 209 t96)) fun t97 => TM.bind (pureT (M.lift (nilChk a0))) fun t98 => TM.bind (pureT (M.lift (addP 0 t98))) fun t99 => TM.bind (pureT (M.lift (addP 2 t99))) fun t100 => TM.bind (pureT (load Tryz.prog 81 t100)) fun t101 => TM.bind (pureT (M.lift (nilChk a0))) fun t102 => TM.bind (pureT (M.lift (addP 0 t102))) fun t103 => TM.bind (pureT (M.lift (addP 2 t103))) fun t104 => TM.bind (pureT (load Tryz.prog 81 t104)) fun t105 => TM.bind (pureT (lenT (Tryz.prog.underlying 81) t105)) fun t106 => TM.bind (liftT (binQ Tryz.prog .sub 3 t106 (.int .i64 (1)))) fun t107 => TM.bind (pureT (M.lift (indexS 2 t101 t107))) fun t108 => TM.bind (pureT (M.lift (addP 1 t108))) fun t109 => TM.bind (pureT (load Tryz.prog 149 t109)) fun t110 => TM.bind (pureT (lenT (Tryz.prog.underlying 149) t110)) fun t111 => TM.bind (stepT (updateM .str t97 t79 t111) (idsL (some (base94 + 21)) [t97, t79, t111])) fun t112 => TM.bind (call 224 [t79]) fun t113 => TM.pure t113) (TM.bind (call 225 [a0, a1]) fun t114 => TM.pure t114)))))
  | _ => TM.fail
theorem q_131_eq (call : CallT) (lp : LoopT) (a0 : Value) (a1 : Value) : evBodyT Tryz.prog call lp ann_131 Tryz.f131 [a0, a1] = q_131 call lp [a0, a1] := by kernel_rfl
theorem q_131_ok : QOk Tryz.prog annS 131 q_131 := by
  refine ⟨Tryz.f131, by kernel_rfl, fun call lp args T r h => ?_⟩
  have ha : annS 131 = ann_131 := by kernel_rfl
  rw [ha]
  unfold q_131 at h
  split at h
  · rw [q_131_eq]; exact h
  · cases h

noncomputable def q_132 : QFn := fun call lp args => match args with
  | [a0] =>
    TM.bind (pureT (M.lift (nilChk a0))) fun t1 => TM.bind (pureT (M.lift (addP 5 t1))) fun t2 => TM.bind (pureT (load Tryz.prog 210 t2)) fun t3 => TM.bind (pureT (lenT (Tryz.prog.underlying 210) t3)) fun t4 => TM.bind (lp (fun vs5 => TM.bind (liftT (binQ Tryz.prog .lss 3 (vs5.getD 3 junk) (vs5.getD 2 junk))) fun t6 => condBT t6 (TM.bind (TM.bind (pureT (M.lift (indexS 2 (vs5.getD 1 junk) (vs5.getD 3 junk)))) fun t7 => TM.bind (pureT (load Tryz.prog 304 t7)) fun t8 => TM.bind (stepT (M.bind (newRow none 304 [(.int .i64 (0)), (.string ⟨#[]⟩)]) fun b => M.pure (.pointer (some ⟨b, 0, none⟩))) (idsL none [])) fun t9 => TM.bind (stepT (store 2 t9 t8) (idsL none [t9, t8])) fun t10 => TM.bind (reserveT 12) fun base11 => TM.bind (pureT (M.lift (nilChk (vs5.getD 0 junk)))) fun t12 => TM.bind (pureT (M.lift (addP 4 t12))) fun t13 => TM.bind (pureT (load Tryz.prog 209 t13)) fun t14 => TM.bind (pureT (M.lift (addP 1 t9))) fun t15 => TM.bind (pureT (load Tryz.prog 9 t15)) fun t16 => TM.bind (pureT (lookupM .str (.int .i64 (0)) true t14 t16)) fun t17 => TM.bind (pureT (M.lift (extr 0 t17))) fun t18 => TM.bind (pureT (M.lift (extr 1 t17))) fun t19 => TM.bind (pureT (M.lift (unV .not t19))) fun t20 => condBT t20 (TM.bind (pureT (M.lift (nilChk (vs5.getD 0 junk)))) fun t21 => TM.bind (pureT (M.lift (addP 7 t21))) fun t22 => TM.bind (stepT (store 1 t22 (.int .i64 (5))) (idsL none [t22, (.int .i64 (5))])) fun t23 => TM.pure (.exit 1, [(vs5.getD 0 junk), (vs5.getD 1 junk), (vs5.getD 2 junk), (vs5.getD 3 junk)])) (TM.bind (reserveT 21) fun base24 => TM.bind (pureT (M.lift (nilChk (vs5.getD 0 junk)))) fun t25 => TM.bind (pureT (M.lift (addP 0 t25))) fun t26 => TM.bind (pureT (M.lift (addP 2 t26))) fun t27 => TM.bind (pureT (load Tryz.prog 81 t27)) fun t28 => TM.bind (pureT (M.lift (nilChk (vs5.getD 0 junk)))) fun t29 => TM.bind (pureT (M.lift (addP 0 t29))) fun t30 => TM.bind (pureT (M.lift (addP 2 t30))) fun t31 => TM.bind (pureT (load Tryz.prog 81 t31)) fun t32 => TM.bind (pureT (lenT (Tryz.prog.underlying 81) t32)) fun t33 => TM.bind (liftT (binQ Tryz.prog .sub 3 t33 (.int .i64 (1)))) fun t34 => TM.bind (pureT (M.lift (indexS 2 t28 t34))) fun t35 => TM.bind (pureT (M.lift (addP 1 t35))) fun t36 => TM.bind (pureT (load Tryz.prog 149 t36)) fun t37 => TM.bind (pureT (M.lift (addP 0 t9))) fun t38 => TM.bind (pureT (load Tryz.prog 3 t38)) fun t39 => TM.bind (pureT (M.lift (indexS 11 t37 t39))) fun t40 => TM.bind (pureT (M.lift (addP 10 t40))) fun t41 => TM.bind (stepT (store 1 t41 t18) (idsL (some (base24 + 20)) [t41, t18])) fun t42 => TM.pure (.normal, [(vs5.getD 0 junk), (vs5.getD 1 junk), (vs5.getD 2 junk), (vs5.getD 3 junk)])) : TM R) fun r43 => onlyNT (unblk 1 r43.1) (TM.bind (liftT (binQ Tryz.prog .add 3 (r43.2.getD 3 junk) (.int .i64 (1)))) fun t44 => TM.pure (.normal, [(r43.2.getD 0 junk), (r43.2.getD 1 junk), (r43.2.getD 2 junk), t44]))) (TM.pure (.exit 0, [(vs5.getD 0 junk), (vs5.getD 1 junk), (vs5.getD 2 junk), (vs5.getD 3 junk)]))) [a0, t3, t4, (.int .i64 (0))] : TM R) fun r45 => onlyNT (unblk 0 r45.1) (TM.bind (stepT (M.bind (newAt none (.map [] [] 0)) fun b => M.pure (.map (some b))) (idsL none [])) fun t46 => TM.bind (pureT (M.lift (nilChk (r45.2.getD 0 junk)))) fun t47 => TM.bind (pureT (M.lift (addP 5 t47))) fun t48 => TM.bind (stepT (store 1 t48 (.slice none 0 0)) (idsL none [t48, (.slice none 0 0)])) fun t49 => TM.bind (pureT (M.lift (nilChk (r45.2.getD 0 junk)))) fun t50 => TM.bind (pureT (M.lift (addP 4 t50))) fun t51 => TM.bind (stepT (store 1 t51 t46) (idsL none [t51, t46])) fun t52 => TM.pure (.tuple #[]))
  | _ => TM.fail
theorem q_132_eq (call : CallT) (lp : LoopT) (a0 : Value) : evBodyT Tryz.prog call lp ann_132 Tryz.f132 [a0] = q_132 call lp [a0] := by kernel_rfl
theorem q_132_ok : QOk Tryz.prog annS 132 q_132 := by
  refine ⟨Tryz.f132, by kernel_rfl, fun call lp args T r h => ?_⟩
  have ha : annS 132 = ann_132 := by kernel_rfl
  rw [ha]
  unfold q_132 at h
  split at h
  · rw [q_132_eq]; exact h
  · cases h

noncomputable def q_133 : QFn := fun call lp args => match args with
  | [a0, a1] =>
    TM.bind (call 72 [a0, a1]) fun t1 => TM.bind (liftT (binQ Tryz.prog .geq 3 t1 (.int .i64 (0)))) fun t2 => TM.pure t2
  | _ => TM.fail
theorem q_133_eq (call : CallT) (lp : LoopT) (a0 : Value) (a1 : Value) : evBodyT Tryz.prog call lp ann_133 Tryz.f133 [a0, a1] = q_133 call lp [a0, a1] := by kernel_rfl
theorem q_133_ok : QOk Tryz.prog annS 133 q_133 := by
  refine ⟨Tryz.f133, by kernel_rfl, fun call lp args T r h => ?_⟩
  have ha : annS 133 = ann_133 := by kernel_rfl
  rw [ha]
  unfold q_133 at h
  split at h
  · rw [q_133_eq]; exact h
  · cases h

noncomputable def q_134 : QFn := fun call lp args => match args with
  | [a0] =>
    TM.bind (stepT (box none 151 a0) (idsL none [a0])) fun t1 => TM.bind (pureT (M.lift (addP 1 t1))) fun t2 => TM.bind (pureT (load Tryz.prog 149 t2)) fun t3 => TM.bind (pureT (lenT (Tryz.prog.underlying 149) t3)) fun t4 => TM.bind (liftT (binQ Tryz.prog .gtr 3 t4 (.int .i64 (120)))) fun t5 => TM.pure t5
  | _ => TM.fail
theorem q_134_eq (call : CallT) (lp : LoopT) (a0 : Value) : evBodyT Tryz.prog call lp ann_134 Tryz.f134 [a0] = q_134 call lp [a0] := by kernel_rfl
theorem q_134_ok : QOk Tryz.prog annS 134 q_134 := by
  refine ⟨Tryz.f134, by kernel_rfl, fun call lp args T r h => ?_⟩
  have ha : annS 134 = ann_134 := by kernel_rfl
  rw [ha]
  unfold q_134 at h
  split at h
  · rw [q_134_eq]; exact h
  · cases h

noncomputable def q_135 : QFn := fun call lp args => match args with
  | [a0] =>
    TM.bind (pureT (lenT (Tryz.prog.underlying 9) a0)) fun t1 => TM.bind (liftT (binQ Tryz.prog .lss 3 t1 (.int .i64 (1)))) fun t2 => TM.bind (guardT (wantV t2 false) (pureT (M.pure a0))) fun t3 => TM.bind (guardT (wantV t2 false) (pureT (lenT (Tryz.prog.underlying 9) t3))) fun t4 => TM.bind (guardT (wantV t2 false) (liftT (binQ Tryz.prog .gtr 3 t4 (.int .i64 (8))))) fun t5 => TM.bind (pureT (M.lift (pickV t2 (.bool true) t5))) fun t6 => condBT t6 (TM.pure (.bool false)) (TM.bind (pureT (lenT (Tryz.prog.underlying 9) a0)) fun t7 => TM.bind (lp (fun vs8 => TM.bind (liftT (binQ Tryz.prog .lss 3 (vs8.getD 3 junk) (vs8.getD 2 junk))) fun t9 => condBT t9 (TM.bind (liftT (indexStrQ (vs8.getD 0 junk) (vs8.getD 3 junk))) fun t10 => TM.bind (liftT (binQ Tryz.prog .lss 5 t10 (.int .u8 (97)))) fun t11 => TM.bind (guardT (wantV t11 false) (pureT (M.pure (vs8.getD 0 junk)))) fun t12 => TM.bind (guardT (wantV t11 false) (pureT (M.pure (vs8.getD 3 junk)))) fun t13 => TM.bind (guardT (wantV t11 false) (liftT (indexStrQ t12 t13))) fun t14 => TM.bind (guardT (wantV t11 false) (liftT (binQ Tryz.prog .gtr 5 t14 (.int .u8 (122))))) fun t15 => TM.bind (pureT (M.lift (pickV t11 (.bool true) t15))) fun t16 => condBT t16 (TM.pure (.ret, [(vs8.getD 0 junk), (.bool false), (vs8.getD 2 junk), (vs8.getD 3 junk)])) (TM.bind (liftT (binQ Tryz.prog .add 3 (vs8.getD 3 junk) (.int .i64 (1)))) fun t17 => TM.pure (.normal, [(vs8.getD 0 junk), (vs8.getD 1 junk), (vs8.getD 2 junk), t17]))) (TM.pure (.exit 0, [(vs8.getD 0 junk), (vs8.getD 1 junk), (vs8.getD 2 junk), (vs8.getD 3 junk)]))) [a0, (.bool false), t7, (.int .i64 (0))] : TM R) fun r18 => exKT (unblk 0 r18.1) (TM.pure (.bool true)) (TM.pure (r18.2.getD 1 junk)) (fun j19 => TM.fail))
  | _ => TM.fail
theorem q_135_eq (call : CallT) (lp : LoopT) (a0 : Value) : evBodyT Tryz.prog call lp ann_135 Tryz.f135 [a0] = q_135 call lp [a0] := by kernel_rfl
theorem q_135_ok : QOk Tryz.prog annS 135 q_135 := by
  refine ⟨Tryz.f135, by kernel_rfl, fun call lp args T r h => ?_⟩
  have ha : annS 135 = ann_135 := by kernel_rfl
  rw [ha]
  unfold q_135 at h
  split at h
  · rw [q_135_eq]; exact h
  · cases h

noncomputable def q_136 : QFn := fun call lp args => match args with
  | [a0] =>
    TM.bind (stepT (box none 151 a0) (idsL none [a0])) fun t1 => TM.bind (pureT (M.lift (addP 0 t1))) fun t2 => TM.bind (pureT (load Tryz.prog 9 t2)) fun t3 => TM.bind (call 135 [t3]) fun t4 => TM.bind (pureT (M.lift (unV .not t4))) fun t5 => TM.pure t5
  | _ => TM.fail
theorem q_136_eq (call : CallT) (lp : LoopT) (a0 : Value) : evBodyT Tryz.prog call lp ann_136 Tryz.f136 [a0] = q_136 call lp [a0] := by kernel_rfl
theorem q_136_ok : QOk Tryz.prog annS 136 q_136 := by
  refine ⟨Tryz.f136, by kernel_rfl, fun call lp args T r h => ?_⟩
  have ha : annS 136 = ann_136 := by kernel_rfl
  rw [ha]
  unfold q_136 at h
  split at h
  · rw [q_136_eq]; exact h
  · cases h

noncomputable def q_137 : QFn := fun call lp args => match args with
  | [a0] =>
    TM.bind (stepT (box none 151 a0) (idsL none [a0])) fun t1 => TM.bind (pureT (M.lift (addP 1 t1))) fun t2 => TM.bind (pureT (load Tryz.prog 149 t2)) fun t3 => TM.bind (pureT (lenT (Tryz.prog.underlying 149) t3)) fun t4 => TM.bind (liftT (binQ Tryz.prog .eql 3 t4 (.int .i64 (0)))) fun t5 => TM.bind (guardT (wantV t5 false) (pureT (M.lift (addP 1 t1)))) fun t6 => TM.bind (guardT (wantV t5 false) (pureT (load Tryz.prog 149 t6))) fun t7 => TM.bind (guardT (wantV t5 false) (pureT (M.pure (.func (.func 227) #[] #[t1])))) fun t8 => TM.bind (guardT (wantV t5 false) (call 226 [t7, t8])) fun t9 => TM.bind (pureT (M.lift (pickV t5 (.bool true) t9))) fun t10 => condBT t10 (TM.pure (.bool true)) (TM.bind (pureT (M.lift (addP 1 t1))) fun t11 => TM.bind (pureT (load Tryz.prog 149 t11)) fun t12 => TM.bind (pureT (M.lift (addP 1 t1))) fun t13 => TM.bind (pureT (load Tryz.prog 149 t13)) fun t14 => TM.bind (pureT (lenT (Tryz.prog.underlying 149) t14)) fun t15 => TM.bind (liftT (binQ Tryz.prog .sub 3 t15 (.int .i64 (1)))) fun t16 => TM.bind (pureT (M.lift (indexS 11 t12 t16))) fun t17 => TM.bind (pureT (M.lift (addP 0 t17))) fun t18 => TM.bind (pureT (load Tryz.prog 3 t18)) fun t19 => TM.bind (liftT (binQ Tryz.prog .neq 3 t19 (.int .i64 (10)))) fun t20 => TM.bind (guardT (wantV t20 true) (pureT (M.pure t19))) fun t21 => TM.bind (guardT (wantV t20 true) (liftT (binQ Tryz.prog .neq 3 t21 (.int .i64 (12))))) fun t22 => TM.bind (pureT (M.lift (pickV t20 t22 (.bool false)))) fun t23 => TM.bind (guardT (wantV t23 true) (pureT (M.pure t19))) fun t24 => TM.bind (guardT (wantV t23 true) (liftT (binQ Tryz.prog .neq 3 t24 (.int .i64 (25))))) fun t25 => TM.bind (pureT (M.lift (pickV t23 t25 (.bool false)))) fun t26 => TM.pure t26)
  | _ => TM.fail
theorem q_137_eq (call : CallT) (lp : LoopT) (a0 : Value) : evBodyT Tryz.prog call lp ann_137 Tryz.f137 [a0] = q_137 call lp [a0] := by kernel_rfl
theorem q_137_ok : QOk Tryz.prog annS 137 q_137 := by
  refine ⟨Tryz.f137, by kernel_rfl, fun call lp args T r h => ?_⟩
  have ha : annS 137 = ann_137 := by kernel_rfl
  rw [ha]
  unfold q_137 at h
  split at h
  · rw [q_137_eq]; exact h
  · cases h

noncomputable def q_143 : QFn := fun call lp args => match args with
  | [a0] =>
    TM.bind (liftT (binQ Tryz.prog .eql 149 a0 (.slice none 0 0))) fun t1 => condBT t1 (TM.pure (.slice none 0 0)) (TM.bind (stepT (buildSliceM Tryz.prog none 149 0 []) (idsL none [])) fun t2 => TM.bind (stepT (append none 158 11 (Tryz.prog.bytesOf 158) t2 a0) (idsL none [t2, a0])) fun t3 => TM.pure t3)
  | _ => TM.fail
theorem q_143_eq (call : CallT) (lp : LoopT) (a0 : Value) : evBodyT Tryz.prog call lp ann_143 Tryz.f143 [a0] = q_143 call lp [a0] := by kernel_rfl
theorem q_143_ok : QOk Tryz.prog annS 143 q_143 := by
  refine ⟨Tryz.f143, by kernel_rfl, fun call lp args T r h => ?_⟩
  have ha : annS 143 = ann_143 := by kernel_rfl
  rw [ha]
  unfold q_143 at h
  split at h
  · rw [q_143_eq]; exact h
  · cases h

noncomputable def q_144 : QFn := fun call lp args => match args with
  | [a0, a1] =>
    TM.bind (stepT (box none 151 a0) (idsL none [a0])) fun t1 => TM.bind (pureT (M.lift (addP 0 t1))) fun t2 => TM.bind (pureT (load Tryz.prog 9 t2)) fun t3 => TM.bind (pureT (load Tryz.prog 9 a1)) fun t4 => TM.bind (liftT (binQ Tryz.prog .eql 9 t3 t4)) fun t5 => TM.pure t5
  | _ => TM.fail
theorem q_144_eq (call : CallT) (lp : LoopT) (a0 : Value) (a1 : Value) : evBodyT Tryz.prog call lp ann_144 Tryz.f144 [a0, a1] = q_144 call lp [a0, a1] := by kernel_rfl
theorem q_144_ok : QOk Tryz.prog annS 144 q_144 := by
  refine ⟨Tryz.f144, by kernel_rfl, fun call lp args T r h => ?_⟩
  have ha : annS 144 = ann_144 := by kernel_rfl
  rw [ha]
  unfold q_144 at h
  split at h
  · rw [q_144_eq]; exact h
  · cases h

noncomputable def q_145 : QFn := fun call lp args => match args with
  | [a0] =>
    TM.bind (pureT (M.lift (nilChk a0))) fun t1 => TM.bind (pureT (M.lift (addP 0 t1))) fun t2 => TM.bind (pureT (load Tryz.prog 139 t2)) fun t3 => TM.bind (liftT (binQ Tryz.prog .eql 139 t3 (.pointer none))) fun t4 => TM.bind (condBT t4 (TM.bind (stepT (toUnsafe Tryz.prog 142 a0) (idsL none [a0])) fun t5 => TM.bind (call 230 [t5]) fun t6 => TM.bind (stepT (ofUnsafe Tryz.prog 142 t6) (idsL none [t6])) fun t7 => TM.bind (pureT (M.lift (nilChk a0))) fun t8 => TM.bind (pureT (M.lift (addP 0 t8))) fun t9 => TM.bind (stepT (store 1 t9 t7) (idsL none [t9, t7])) fun t10 => TM.pure (.normal, [])) (TM.bind (pureT (M.lift (nilChk a0))) fun t11 => TM.bind (pureT (M.lift (addP 0 t11))) fun t12 => TM.bind (pureT (load Tryz.prog 139 t12)) fun t13 => TM.bind (liftT (binQ Tryz.prog .neq 139 t13 a0)) fun t14 => condBT t14 (TM.fail) (TM.pure (.normal, []))) : TM R) fun r15 => onlyNT r15.1 (TM.pure (.tuple #[]))
  | _ => TM.fail
theorem q_145_eq (call : CallT) (lp : LoopT) (a0 : Value) : evBodyT Tryz.prog call lp ann_145 Tryz.f145 [a0] = q_145 call lp [a0] := by kernel_rfl
theorem q_145_ok : QOk Tryz.prog annS 145 q_145 := by
  refine ⟨Tryz.f145, by kernel_rfl, fun call lp args T r h => ?_⟩
  have ha : annS 145 = ann_145 := by kernel_rfl
  rw [ha]
  unfold q_145 at h
  split at h
  · rw [q_145_eq]; exact h
  · cases h

noncomputable def q_146 : QFn := fun call lp args => match args with
  | [a0] =>
    TM.bind (call 231 [a0, (.int .i64 (10))]) fun t1 => TM.pure t1
  | _ => TM.fail
theorem q_146_eq (call : CallT) (lp : LoopT) (a0 : Value) : evBodyT Tryz.prog call lp ann_146 Tryz.f146 [a0] = q_146 call lp [a0] := by kernel_rfl
theorem q_146_ok : QOk Tryz.prog annS 146 q_146 := by
  refine ⟨Tryz.f146, by kernel_rfl, fun call lp args T r h => ?_⟩
  have ha : annS 146 = ann_146 := by kernel_rfl
  rw [ha]
  unfold q_146 at h
  split at h
  · rw [q_146_eq]; exact h
  · cases h

noncomputable def q_147 : QFn := fun call lp args => match args with
  | [a0, a1, a2, a3] =>
    TM.bind (stepT (box none 158 a2) (idsL none [a2])) fun t1 => TM.bind (pureT (M.lift (nilChk a0))) fun t2 => TM.bind (pureT (M.lift (addP 6 t2))) fun t3 => TM.bind (pureT (load Tryz.prog 104 t3)) fun t4 => TM.bind (pureT (M.lift (indexS 30 t4 a1))) fun t5 => TM.bind (reserveT 8) fun base6 => TM.bind (pureT (M.lift (addP 3 t1))) fun t7 => TM.bind (pureT (load Tryz.prog 156 t7)) fun t8 => TM.bind (pureT (M.lift (addP 9 t1))) fun t9 => TM.bind (pureT (load Tryz.prog 3 t9)) fun t10 => TM.bind (call 150 [t5, t8]) fun t11 => TM.bind (againT (pureT (load Tryz.prog 3 t9)) t10) fun _ => TM.bind (liftT (binQ Tryz.prog .add 3 t11 t10)) fun t12 => TM.bind (call 232 [a0, a1, t12]) fun t13 => TM.bind (liftT (binQ Tryz.prog .neq 3 t13 (.int .i64 (0)))) fun t14 => condBT t14 (TM.pure t13) (TM.bind (pureT (M.lift (nilChk a0))) fun t15 => TM.bind (pureT (M.lift (addP 7 t15))) fun t16 => TM.bind (pureT (load Tryz.prog 62 t16)) fun t17 => TM.bind (call 161 [t17, t12]) fun t18 => TM.bind (pureT (M.lift (extr 0 t18))) fun t19 => TM.bind (pureT (M.lift (extr 1 t18))) fun t20 => TM.bind (pureT (M.lift (addP 5 t1))) fun t21 => TM.bind (pureT (load Tryz.prog 156 t21)) fun t22 => TM.bind (call 150 [t5, t22]) fun t23 => TM.bind (pureT (M.lift (addP 0 t1))) fun t24 => TM.bind (pureT (load Tryz.prog 3 t24)) fun t25 => TM.bind (liftT (binQ Tryz.prog .eql 3 t25 (.int .i64 (16)))) fun t26 => TM.bind (guardT (wantV t26 true) (pureT (M.pure t19))) fun t27 => TM.bind (guardT (wantV t26 true) (pureT (M.pure t23))) fun t28 => TM.bind (guardT (wantV t26 true) (liftT (binQ Tryz.prog .add 3 t27 t28))) fun t29 => TM.bind (guardT (wantV t26 true) (call 71 [t29])) fun t30 => TM.bind (guardT (wantV t26 true) (pureT (M.lift (unV .not t30)))) fun t31 => TM.bind (pureT (M.lift (pickV t26 t31 (.bool false)))) fun t32 => condBT t32 (TM.pure (.int .i64 (5))) (TM.bind (pureT (M.lift (nilChk a0))) fun t33 => TM.bind (pureT (M.lift (addP 11 t33))) fun t34 => TM.bind (pureT (load Tryz.prog 38 t34)) fun t35 => TM.bind (stepT (buildSliceM Tryz.prog none 38 1 [(0, t12)]) (idsL none [t12])) fun t36 => TM.bind (stepT (append none 3 1 (Tryz.prog.bytesOf 3) t35 t36) (idsL none [t35, t36])) fun t37 => TM.bind (pureT (M.lift (nilChk a0))) fun t38 => TM.bind (pureT (M.lift (addP 11 t38))) fun t39 => TM.bind (stepT (store 1 t39 t37) (idsL none [t39, t37])) fun t40 => TM.bind (pureT (M.lift (addP 0 t1))) fun t41 => TM.bind (pureT (load Tryz.prog 3 t41)) fun t42 => TM.bind (TM.bind (liftT (binQ Tryz.prog .eql 3 t42 (.int .i64 (13)))) fun t43 => TM.bind (condBT t43 (TM.bind (reserveT 8) fun base44 => TM.bind (pureT (M.lift (addP 2 t1))) fun t45 => TM.bind (pureT (load Tryz.prog 3 t45)) fun t46 => TM.bind (pureT (M.lift (nilChk t5))) fun t47 => TM.bind (pureT (M.lift (addP 7 t47))) fun t48 => TM.bind (pureT (M.lift (indexP 16 1 t48 t46))) fun t49 => TM.bind (stepT (store 1 t49 t19) (idsL (some (base44 + 7)) [t49, t19])) fun t50 => TM.pure (.normal, [])) (TM.bind (liftT (binQ Tryz.prog .eql 3 t42 (.int .i64 (14)))) fun t51 => TM.bind (condBT t51 (TM.bind (call 233 [a0, t12, t23]) fun t52 => TM.pure (.normal, [])) (TM.bind (liftT (binQ Tryz.prog .eql 3 t42 (.int .i64 (15)))) fun t53 => TM.bind (condBT t53 (TM.bind (pureT (M.lift (addP 7 t1))) fun t54 => TM.bind (pureT (load Tryz.prog 156 t54)) fun t55 => TM.bind (call 150 [t5, t55]) fun t56 => TM.bind (reserveT 7) fun base57 => TM.bind (pureT (M.lift (addP 2 t1))) fun t58 => TM.bind (pureT (load Tryz.prog 3 t58)) fun t59 => TM.bind (pureT (M.lift (nilChk t5))) fun t60 => TM.bind (pureT (M.lift (addP 7 t60))) fun t61 => TM.bind (pureT (M.lift (indexP 16 1 t61 t59))) fun t62 => TM.bind (stepT (store 1 t62 (.int .i64 (0))) (idsL (some (base57 + 6)) [t62, (.int .i64 (0))])) fun t63 => TM.bind (liftT (binQ Tryz.prog .eql 3 t19 t23)) fun t64 => TM.bind (condBT t64 (TM.bind (call 233 [a0, t12, t56]) fun t65 => TM.bind (reserveT 7) fun base66 => TM.bind (pureT (M.lift (addP 2 t1))) fun t67 => TM.bind (pureT (load Tryz.prog 3 t67)) fun t68 => TM.bind (pureT (M.lift (nilChk t5))) fun t69 => TM.bind (pureT (M.lift (addP 7 t69))) fun t70 => TM.bind (pureT (M.lift (indexP 16 1 t70 t68))) fun t71 => TM.bind (stepT (store 1 t71 (.int .i64 (1))) (idsL (some (base66 + 6)) [t71, (.int .i64 (1))])) fun t72 => TM.pure (.normal, [])) (TM.pure (.normal, [])) : TM R) fun r73 => onlyNT r73.1 (TM.pure (.normal, []))) (TM.bind (liftT (binQ Tryz.prog .eql 3 t42 (.int .i64 (16)))) fun t74 => TM.bind (condBT t74 (TM.bind (liftT (binQ Tryz.prog .add 3 t19 t23)) fun t75 => TM.bind (call 233 [a0, t12, t75]) fun t76 => TM.bind (reserveT 8) fun base77 => TM.bind (pureT (M.lift (addP 2 t1))) fun t78 => TM.bind (pureT (load Tryz.prog 3 t78)) fun t79 => TM.bind (pureT (M.lift (nilChk t5))) fun t80 => TM.bind (pureT (M.lift (addP 7 t80))) fun t81 => TM.bind (pureT (M.lift (indexP 16 1 t81 t79))) fun t82 => TM.bind (stepT (store 1 t82 t19) (idsL (some (base77 + 7)) [t82, t19])) fun t83 => TM.pure (.normal, [])) (TM.bind (liftT (binQ Tryz.prog .eql 3 t42 (.int .i64 (17)))) fun t84 => TM.bind (condBT t84 (TM.bind (pureT (M.lift (nilChk t5))) fun t85 => TM.bind (pureT (M.lift (addP 28 t85))) fun t86 => TM.bind (stepT (store 1 t86 t12) (idsL none [t86, t12])) fun t87 => TM.bind (pureT (M.lift (nilChk a0))) fun t88 => TM.bind (pureT (M.lift (addP 7 t88))) fun t89 => TM.bind (pureT (load Tryz.prog 62 t89)) fun t90 => TM.bind (call 234 [t90, t12]) fun t91 => TM.bind (pureT (M.lift (extr 0 t91))) fun t92 => TM.bind (pureT (M.lift (extr 1 t91))) fun t93 => TM.bind (pureT (M.lift (nilChk t5))) fun t94 => TM.bind (pureT (M.lift (addP 29 t94))) fun t95 => TM.bind (stepT (store 1 t95 t92) (idsL none [t95, t92])) fun t96 => TM.bind (reserveT 8) fun base97 => TM.bind (pureT (M.lift (addP 2 t1))) fun t98 => TM.bind (pureT (load Tryz.prog 3 t98)) fun t99 => TM.bind (pureT (M.lift (nilChk t5))) fun t100 => TM.bind (pureT (M.lift (addP 7 t100))) fun t101 => TM.bind (pureT (M.lift (indexP 16 1 t101 t99))) fun t102 => TM.bind (stepT (store 1 t102 t19) (idsL (some (base97 + 7)) [t102, t19])) fun t103 => TM.pure (.normal, [])) (TM.bind (pureT (M.lift (nilChk a0))) fun t104 => TM.bind (pureT (M.lift (addP 7 t104))) fun t105 => TM.bind (pureT (load Tryz.prog 62 t105)) fun t106 => TM.bind (call 234 [t106, t12]) fun t107 => TM.bind (pureT (M.lift (extr 0 t107))) fun t108 => TM.bind (pureT (M.lift (extr 1 t107))) fun t109 => TM.bind (pureT (M.lift (nilChk t5))) fun t110 => TM.bind (pureT (M.lift (addP 28 t110))) fun t111 => TM.bind (pureT (load Tryz.prog 3 t111)) fun t112 => TM.bind (liftT (binQ Tryz.prog .eql 3 t112 t12)) fun t113 => TM.bind (guardT (wantV t113 true) (pureT (M.pure t5))) fun t114 => TM.bind (guardT (wantV t113 true) (pureT (M.lift (nilChk t114)))) fun t115 => TM.bind (guardT (wantV t113 true) (pureT (M.lift (addP 29 t115)))) fun t116 => TM.bind (guardT (wantV t113 true) (pureT (load Tryz.prog 3 t116))) fun t117 => TM.bind (guardT (wantV t113 true) (pureT (M.pure t108))) fun t118 => TM.bind (guardT (wantV t113 true) (liftT (binQ Tryz.prog .eql 3 t117 t118))) fun t119 => TM.bind (pureT (M.lift (pickV t113 t119 (.bool false)))) fun t120 => TM.bind (guardT (wantV t120 true) (pureT (M.pure a3))) fun t121 => TM.bind (guardT (wantV t120 true) (pureT (M.lift (unV .not t121)))) fun t122 => TM.bind (pureT (M.lift (pickV t120 t122 (.bool false)))) fun t123 => TM.bind (pureT (M.lift (nilChk t5))) fun t124 => TM.bind (pureT (M.lift (addP 28 t124))) fun t125 => TM.bind (stepT (store 1 t125 (.int .i64 (-1))) (idsL none [t125, (.int .i64 (-1))])) fun t126 => TM.bind (reserveT 7) fun base127 => TM.bind (pureT (M.lift (addP 2 t1))) fun t128 => TM.bind (pureT (load Tryz.prog 3 t128)) fun t129 => TM.bind (pureT (M.lift (nilChk t5))) fun t130 => TM.bind (pureT (M.lift (addP 7 t130))) fun t131 => TM.bind (pureT (M.lift (indexP 16 1 t131 t129))) fun t132 => TM.bind (stepT (store 1 t132 (.int .i64 (0))) (idsL (some (base127 + 6)) [t132, (.int .i64 (0))])) fun t133 => TM.bind (condBT t123 (TM.bind (call 233 [a0, t12, t23]) fun t134 => TM.bind (reserveT 7) fun base135 => TM.bind (pureT (M.lift (addP 2 t1))) fun t136 => TM.bind (pureT (load Tryz.prog 3 t136)) fun t137 => TM.bind (pureT (M.lift (nilChk t5))) fun t138 => TM.bind (pureT (M.lift (addP 7 t138))) fun t139 => TM.bind (pureT (M.lift (indexP 16 1 t139 t137))) fun t140 => TM.bind (stepT (store 1 t140 (.int .i64 (1))) (idsL (some (base135 + 6)) [t140, (.int .i64 (1))])) fun t141 => TM.pure (.normal, [])) (TM.pure (.normal, [])) : TM R) fun r142 => onlyNT r142.1 (TM.pure (.normal, []))) : TM R) fun r143 => onlyNT r143.1 (TM.pure (.normal, []))) : TM R) fun r144 => onlyNT r144.1 (TM.pure (.normal, []))) : TM R) fun r145 => onlyNT r145.1 (TM.pure (.normal, []))) : TM R) fun r146 => onlyNT r146.1 (TM.pure (.normal, []))) : TM R) fun r147 => onlyNT r147.1 (TM.pure (.normal, [])) : TM R) fun r148 => onlyNT (unblk 0 r148.1) (TM.pure (.int .i64 (0)))))
  | _ => TM.fail
theorem q_147_eq (call : CallT) (lp : LoopT) (a0 : Value) (a1 : Value) (a2 : Value) (a3 : Value) : evBodyT Tryz.prog call lp ann_147 Tryz.f147 [a0, a1, a2, a3] = q_147 call lp [a0, a1, a2, a3] := by kernel_rfl
theorem q_147_ok : QOk Tryz.prog annS 147 q_147 := by
  refine ⟨Tryz.f147, by kernel_rfl, fun call lp args T r h => ?_⟩
  have ha : annS 147 = ann_147 := by kernel_rfl
  rw [ha]
  unfold q_147 at h
  split at h
  · rw [q_147_eq]; exact h
  · cases h

noncomputable def q_148 : QFn := fun call lp args => match args with
  | [a0, a1, a2] =>
    TM.bind (stepT (box none 158 a2) (idsL none [a2])) fun t1 => TM.bind (pureT (M.lift (nilChk a0))) fun t2 => TM.bind (pureT (M.lift (addP 6 t2))) fun t3 => TM.bind (pureT (load Tryz.prog 104 t3)) fun t4 => TM.bind (pureT (M.lift (indexS 30 t4 a1))) fun t5 => TM.bind (reserveT 14) fun base6 => TM.bind (pureT (M.lift (nilChk a0))) fun t7 => TM.bind (pureT (M.lift (addP 7 t7))) fun t8 => TM.bind (pureT (load Tryz.prog 62 t8)) fun t9 => TM.bind (pureT (M.lift (addP 5 t1))) fun t10 => TM.bind (pureT (load Tryz.prog 156 t10)) fun t11 => TM.bind (call 150 [t5, t11]) fun t12 => TM.bind (againT (pureT (load Tryz.prog 62 t8)) t9) fun _ => TM.bind (call 235 [t9, t12]) fun t13 => TM.bind (pureT (M.lift (extr 0 t13))) fun t14 => TM.bind (pureT (M.lift (extr 1 t13))) fun t15 => TM.bind (liftT (binQ Tryz.prog .neq 32 t15 (.int .i64 (0)))) fun t16 => condBT t16 (TM.pure (.int .i64 (6))) (TM.bind (pureT (M.lift (nilChk a0))) fun t17 => TM.bind (pureT (M.lift (addP 8 t17))) fun t18 => TM.bind (pureT (load Tryz.prog 105 t18)) fun t19 => TM.bind (call 236 [t19, t14]) fun t20 => TM.bind (pureT (M.lift (nilChk t5))) fun t21 => TM.bind (pureT (M.lift (addP 24 t21))) fun t22 => TM.bind (pureT (load Tryz.prog 38 t22)) fun t23 => TM.bind (call 41 [t23]) fun t24 => TM.bind (stepT (buildSliceM Tryz.prog none 38 1 [(0, t14)]) (idsL none [t14])) fun t25 => TM.bind (stepT (append none 3 1 (Tryz.prog.bytesOf 3) t24 t25) (idsL none [t24, t25])) fun t26 => TM.bind (pureT (M.lift (nilChk t5))) fun t27 => TM.bind (pureT (M.lift (addP 24 t27))) fun t28 => TM.bind (stepT (store 1 t28 t26) (idsL none [t28, t26])) fun t29 => TM.bind (reserveT 8) fun base30 => TM.bind (pureT (M.lift (addP 2 t1))) fun t31 => TM.bind (pureT (load Tryz.prog 3 t31)) fun t32 => TM.bind (pureT (M.lift (nilChk t5))) fun t33 => TM.bind (pureT (M.lift (addP 7 t33))) fun t34 => TM.bind (pureT (M.lift (indexP 16 1 t34 t32))) fun t35 => TM.bind (stepT (store 1 t35 t14) (idsL (some (base30 + 7)) [t35, t14])) fun t36 => TM.pure (.int .i64 (0)))
  | _ => TM.fail
theorem q_148_eq (call : CallT) (lp : LoopT) (a0 : Value) (a1 : Value) (a2 : Value) : evBodyT Tryz.prog call lp ann_148 Tryz.f148 [a0, a1, a2] = q_148 call lp [a0, a1, a2] := by kernel_rfl
theorem q_148_ok : QOk Tryz.prog annS 148 q_148 := by
  refine ⟨Tryz.f148, by kernel_rfl, fun call lp args T r h => ?_⟩
  have ha : annS 148 = ann_148 := by kernel_rfl
  rw [ha]
  unfold q_148 at h
  split at h
  · rw [q_148_eq]; exact h
  · cases h

noncomputable def q_150 : QFn := fun call lp args => match args with
  | [a0, a1] =>
    TM.bind (stepT (box none 156 a1) (idsL none [a1])) fun t1 => TM.bind (pureT (M.lift (addP 0 t1))) fun t2 => TM.bind (pureT (load Tryz.prog 3 t2)) fun t3 => TM.bind (liftT (binQ Tryz.prog .lss 3 t3 (.int .i64 (0)))) fun t4 => condBT t4 (TM.bind (pureT (M.lift (addP 1 t1))) fun t5 => TM.bind (pureT (load Tryz.prog 3 t5)) fun t6 => TM.pure t6) (TM.bind (reserveT 8) fun base7 => TM.bind (pureT (M.lift (addP 0 t1))) fun t8 => TM.bind (pureT (load Tryz.prog 3 t8)) fun t9 => TM.bind (pureT (M.lift (nilChk a0))) fun t10 => TM.bind (pureT (M.lift (addP 7 t10))) fun t11 => TM.bind (pureT (M.lift (indexP 16 1 t11 t9))) fun t12 => TM.bind (pureT (load Tryz.prog 3 t12)) fun t13 => TM.pure t13)
  | _ => TM.fail
theorem q_150_eq (call : CallT) (lp : LoopT) (a0 : Value) (a1 : Value) : evBodyT Tryz.prog call lp ann_150 Tryz.f150 [a0, a1] = q_150 call lp [a0, a1] := by kernel_rfl
theorem q_150_ok : QOk Tryz.prog annS 150 q_150 := by
  refine ⟨Tryz.f150, by kernel_rfl, fun call lp args T r h => ?_⟩
  have ha : annS 150 = ann_150 := by kernel_rfl
  rw [ha]
  unfold q_150 at h
  split at h
  · rw [q_150_eq]; exact h
  · cases h

noncomputable def q_157 : QFn := fun call lp args => match args with
  | [a0, a1, a2, a3, a4] =>
    TM.bind (stepT (box none 44 a3) (idsL none [a3])) fun t1 => TM.bind (stepT (M.bind (newRow none 117 [(.slice none 0 0), .nilFunc, (.slice none 0 0)]) fun b => M.pure (.pointer (some ⟨b, 0, none⟩))) (idsL none [])) fun t2 => TM.bind (call 54 [a0, a1]) fun t3 => TM.bind (pureT (M.lift (extr 0 t3))) fun t4 => TM.bind (pureT (M.lift (extr 1 t3))) fun t5 => TM.bind (stepT (M.bind (newRow none 117 [(.slice none 0 0), .nilFunc, (.slice none 0 0)]) fun b => M.pure (.pointer (some ⟨b, 0, none⟩))) (idsL none [])) fun t6 => TM.bind (stepT (store 3 t6 t4) (idsL none [t6, t4])) fun t7 => TM.bind (pureT (M.lift (unV .not t5))) fun t8 => TM.bind (guardT (wantV t8 false) (pureT (M.lift (addP 1 t6)))) fun t9 => TM.bind (guardT (wantV t8 false) (pureT (load Tryz.prog 80 t9))) fun t10 => TM.bind (guardT (wantV t8 false) (pureT (M.pure a2))) fun t11 => TM.bind (guardT (wantV t8 false) (callVT call t10 [t11])) fun t12 => TM.bind (guardT (wantV t8 false) (pureT (M.lift (unV .not t12)))) fun t13 => TM.bind (pureT (M.lift (pickV t8 (.bool true) t13))) fun t14 => condBT t14 (TM.bind (pureT (buildM Tryz.prog 117 [])) fun t15 => TM.bind (stepT (store 3 t2 t15) (idsL none [t2, t15])) fun t16 => TM.bind (pureT (load Tryz.prog 117 t2)) fun t17 => TM.pure (.tuple #[t17, (.slice none 0 0), (.int .i64 (1))])) (TM.bind (pureT (load Tryz.prog 117 t6)) fun t18 => TM.bind (pureT (load Tryz.prog 44 t1)) fun t19 => TM.bind (call 245 [t18, t19, a4]) fun t20 => TM.bind (pureT (M.lift (extr 0 t20))) fun t21 => TM.bind (pureT (M.lift (extr 1 t20))) fun t22 => TM.bind (stepT (M.bind (newRow none 189 [(.string ⟨#[]⟩), (.int .i64 (0)), (.int .i64 (0)), (.int .i64 (0)), (.int .i64 (0)), (.bool false), .nilFunc]) fun b => M.pure (.pointer (some ⟨b, 0, none⟩))) (idsL none [])) fun t23 => TM.bind (stepT (store 7 t23 t21) (idsL none [t23, t21])) fun t24 => TM.bind (pureT (M.lift (unV .not t22))) fun t25 => condBT t25 (TM.bind (pureT (buildM Tryz.prog 117 [])) fun t26 => TM.bind (stepT (store 3 t2 t26) (idsL none [t2, t26])) fun t27 => TM.bind (pureT (load Tryz.prog 117 t2)) fun t28 => TM.pure (.tuple #[t28, (.slice none 0 0), (.int .i64 (1))])) (TM.bind (reserveT 11) fun base29 => TM.bind (pureT (load Tryz.prog 117 t6)) fun t30 => TM.bind (pureT (M.lift (addP 6 t23))) fun t31 => TM.bind (pureT (load Tryz.prog 187 t31)) fun t32 => TM.bind (pureT (load Tryz.prog 44 t1)) fun t33 => TM.bind (call 41 [a2]) fun t34 => TM.bind (againT (pureT (load Tryz.prog 44 t1)) t33) fun _ => TM.bind (againT (pureT (load Tryz.prog 187 t31)) t32) fun _ => TM.bind (againT (pureT (load Tryz.prog 117 t6)) t30) fun _ => TM.bind (callVT call t32 [t34, t33, a4]) fun t35 => TM.bind (againT (pureT (load Tryz.prog 117 t6)) t30) fun _ => TM.bind (stepT (store 3 t2 t30) (idsL (some (base29 + 8)) [t2, t30])) fun t36 => TM.bind (pureT (load Tryz.prog 117 t2)) fun t37 => TM.pure (.tuple #[t37, t35, (.int .i64 (0))])))
  | _ => TM.fail
theorem q_157_eq (call : CallT) (lp : LoopT) (a0 : Value) (a1 : Value) (a2 : Value) (a3 : Value) (a4 : Value) : evBodyT Tryz.prog call lp ann_157 Tryz.f157 [a0, a1, a2, a3, a4] = q_157 call lp [a0, a1, a2, a3, a4] := by kernel_rfl
theorem q_157_ok : QOk Tryz.prog annS 157 q_157 := by
  refine ⟨Tryz.f157, by kernel_rfl, fun call lp args T r h => ?_⟩
  have ha : annS 157 = ann_157 := by kernel_rfl
  rw [ha]
  unfold q_157 at h
  split at h
  · rw [q_157_eq]; exact h
  · cases h

noncomputable def q_158 : QFn := fun call lp args => match args with
  | [a0, a1] =>
    TM.bind (pureT (lenT (Tryz.prog.underlying 254) a0)) fun t1 => TM.bind (lp (fun vs2 => TM.bind (liftT (binQ Tryz.prog .lss 3 (vs2.getD 4 junk) (vs2.getD 3 junk))) fun t3 => condBT t3 (TM.bind (pureT (M.lift (indexS 2 (vs2.getD 0 junk) (vs2.getD 4 junk)))) fun t4 => TM.bind (pureT (load Tryz.prog 258 t4)) fun t5 => TM.bind (callVT call (vs2.getD 1 junk) [t5]) fun t6 => condBT t6 (TM.pure (.ret, [(vs2.getD 0 junk), (vs2.getD 1 junk), (vs2.getD 4 junk), (vs2.getD 3 junk), (vs2.getD 4 junk)])) (TM.bind (liftT (binQ Tryz.prog .add 3 (vs2.getD 4 junk) (.int .i64 (1)))) fun t7 => TM.pure (.normal, [(vs2.getD 0 junk), (vs2.getD 1 junk), (vs2.getD 2 junk), (vs2.getD 3 junk), t7]))) (TM.pure (.exit 0, [(vs2.getD 0 junk), (vs2.getD 1 junk), (vs2.getD 2 junk), (vs2.getD 3 junk), (vs2.getD 4 junk)]))) [a0, a1, (.int .i64 (0)), t1, (.int .i64 (0))] : TM R) fun r8 => exKT (unblk 0 r8.1) (TM.pure (.int .i64 (-1))) (TM.pure (r8.2.getD 2 junk)) (fun j9 => TM.fail)
  | _ => TM.fail
theorem q_158_eq (call : CallT) (lp : LoopT) (a0 : Value) (a1 : Value) : evBodyT Tryz.prog call lp ann_158 Tryz.f158 [a0, a1] = q_158 call lp [a0, a1] := by kernel_rfl
theorem q_158_ok : QOk Tryz.prog annS 158 q_158 := by
  refine ⟨Tryz.f158, by kernel_rfl, fun call lp args T r h => ?_⟩
  have ha : annS 158 = ann_158 := by kernel_rfl
  rw [ha]
  unfold q_158 at h
  split at h
  · rw [q_158_eq]; exact h
  · cases h

noncomputable def q_159 : QFn := fun call lp args => match args with
  | [a0, a1] =>
    TM.bind (stepT (box none 258 a0) (idsL none [a0])) fun t1 => TM.bind (pureT (M.lift (addP 0 t1))) fun t2 => TM.bind (pureT (load Tryz.prog 3 t2)) fun t3 => TM.bind (pureT (load Tryz.prog 3 a1)) fun t4 => TM.bind (liftT (binQ Tryz.prog .eql 3 t3 t4)) fun t5 => TM.pure t5
  | _ => TM.fail
theorem q_159_eq (call : CallT) (lp : LoopT) (a0 : Value) (a1 : Value) : evBodyT Tryz.prog call lp ann_159 Tryz.f159 [a0, a1] = q_159 call lp [a0, a1] := by kernel_rfl
theorem q_159_ok : QOk Tryz.prog annS 159 q_159 := by
  refine ⟨Tryz.f159, by kernel_rfl, fun call lp args T r h => ?_⟩
  have ha : annS 159 = ann_159 := by kernel_rfl
  rw [ha]
  unfold q_159 at h
  split at h
  · rw [q_159_eq]; exact h
  · cases h

noncomputable def q_161 : QFn := fun call lp args => match args with
  | [a0, a1] =>
    TM.bind (call 246 [a0, a1]) fun t1 => TM.bind (liftT (binQ Tryz.prog .neq 32 t1 (.int .i64 (0)))) fun t2 => condBT t2 (TM.pure (.tuple #[(.int .i64 (0)), t1])) (TM.bind (pureT (M.lift (nilChk a0))) fun t3 => TM.bind (pureT (M.lift (addP 0 t3))) fun t4 => TM.bind (pureT (load Tryz.prog 38 t4)) fun t5 => TM.bind (pureT (M.lift (indexS 1 t5 a1))) fun t6 => TM.bind (pureT (load Tryz.prog 3 t6)) fun t7 => TM.pure (.tuple #[t7, (.int .i64 (0))]))
  | _ => TM.fail
theorem q_161_eq (call : CallT) (lp : LoopT) (a0 : Value) (a1 : Value) : evBodyT Tryz.prog call lp ann_161 Tryz.f161 [a0, a1] = q_161 call lp [a0, a1] := by kernel_rfl
theorem q_161_ok : QOk Tryz.prog annS 161 q_161 := by
  refine ⟨Tryz.f161, by kernel_rfl, fun call lp args T r h => ?_⟩
  have ha : annS 161 = ann_161 := by kernel_rfl
  rw [ha]
  unfold q_161 at h
  split at h
  · rw [q_161_eq]; exact h
  · cases h

noncomputable def q_163 : QFn := fun call lp args => match args with
  | [a0, a1, a2] =>
    TM.bind (liftT (binQ Tryz.prog .add 3 a1 (.int .i64 (1)))) fun t1 => TM.bind (lp (fun vs2 => TM.bind (liftT (binQ Tryz.prog .lss 3 (vs2.getD 3 junk) (vs2.getD 2 junk))) fun t3 => condBT t3 (TM.bind (TM.bind (lp (fun vs4 => TM.bind (reserveT 15) fun base5 => TM.bind (liftT (binQ Tryz.prog .gtr 3 (vs4.getD 4 junk) (vs4.getD 1 junk))) fun t6 => TM.bind (guardT (wantV t6 true) (pureT (M.pure (vs4.getD 0 junk)))) fun t7 => TM.bind (guardT (wantV t6 true) (pureT (M.pure (vs4.getD 4 junk)))) fun t8 => TM.bind (guardT (wantV t6 true) (pureT (M.lift (indexS 1 t7 t8)))) fun t9 => TM.bind (guardT (wantV t6 true) (pureT (load Tryz.prog 3 t9))) fun t10 => TM.bind (guardT (wantV t6 true) (pureT (M.pure (vs4.getD 0 junk)))) fun t11 => TM.bind (guardT (wantV t6 true) (pureT (M.pure (vs4.getD 4 junk)))) fun t12 => TM.bind (guardT (wantV t6 true) (liftT (binQ Tryz.prog .sub 3 t12 (.int .i64 (1))))) fun t13 => TM.bind (guardT (wantV t6 true) (pureT (M.lift (indexS 1 t11 t13)))) fun t14 => TM.bind (guardT (wantV t6 true) (pureT (load Tryz.prog 3 t14))) fun t15 => TM.bind (guardT (wantV t6 true) (call 169 [t10, t15])) fun t16 => TM.bind (pureT (M.lift (pickV t6 t16 (.bool false)))) fun t17 => condBT t17 (TM.bind (TM.bind (reserveT 18) fun base18 => TM.bind (liftT (binQ Tryz.prog .sub 3 (vs4.getD 4 junk) (.int .i64 (1)))) fun t19 => TM.bind (liftT (binQ Tryz.prog .sub 3 (vs4.getD 4 junk) (.int .i64 (1)))) fun t20 => TM.bind (pureT (M.lift (indexS 1 (vs4.getD 0 junk) t20))) fun t21 => TM.bind (pureT (load Tryz.prog 3 t21)) fun t22 => TM.bind (pureT (M.lift (indexS 1 (vs4.getD 0 junk) (vs4.getD 4 junk)))) fun t23 => TM.bind (pureT (load Tryz.prog 3 t23)) fun t24 => TM.bind (pureT (M.lift (indexS 1 (vs4.getD 0 junk) (vs4.getD 4 junk)))) fun t25 => TM.bind (stepT (store 1 t25 t22) (idsL (some (base18 + 15)) [t25, t22])) fun t26 => TM.bind (pureT (M.lift (indexS 1 (vs4.getD 0 junk) t19))) fun t27 => TM.bind (stepT (store 1 t27 t24) (idsL (some (base18 + 17)) [t27, t24])) fun t28 => TM.pure (.normal, [(vs4.getD 0 junk), (vs4.getD 1 junk), (vs4.getD 2 junk), (vs4.getD 3 junk), (vs4.getD 4 junk)]) : TM R) fun r29 => onlyNT (unblk 3 r29.1) (TM.bind (liftT (binQ Tryz.prog .sub 3 (r29.2.getD 4 junk) (.int .i64 (1)))) fun t30 => TM.pure (.normal, [(r29.2.getD 0 junk), (r29.2.getD 1 junk), (r29.2.getD 2 junk), (r29.2.getD 3 junk), t30]))) (TM.pure (.exit 2, [(vs4.getD 0 junk), (vs4.getD 1 junk), (vs4.getD 2 junk), (vs4.getD 3 junk), (vs4.getD 4 junk)]))) [(vs2.getD 0 junk), (vs2.getD 1 junk), (vs2.getD 2 junk), (vs2.getD 3 junk), (vs2.getD 3 junk)] : TM R) fun r31 => onlyNT (unblk 2 r31.1) (TM.pure (.normal, [(r31.2.getD 0 junk), (r31.2.getD 1 junk), (r31.2.getD 2 junk), (r31.2.getD 3 junk)])) : TM R) fun r32 => onlyNT (unblk 1 r32.1) (TM.bind (liftT (binQ Tryz.prog .add 3 (r32.2.getD 3 junk) (.int .i64 (1)))) fun t33 => TM.pure (.normal, [(r32.2.getD 0 junk), (r32.2.getD 1 junk), (r32.2.getD 2 junk), t33]))) (TM.pure (.exit 0, [(vs2.getD 0 junk), (vs2.getD 1 junk), (vs2.getD 2 junk), (vs2.getD 3 junk)]))) [a0, a1, a2, t1] : TM R) fun r34 => onlyNT (unblk 0 r34.1) (TM.pure (.tuple #[]))
  | _ => TM.fail
theorem q_163_eq (call : CallT) (lp : LoopT) (a0 : Value) (a1 : Value) (a2 : Value) : evBodyT Tryz.prog call lp ann_163 Tryz.f163 [a0, a1, a2] = q_163 call lp [a0, a1, a2] := by kernel_rfl
theorem q_163_ok : QOk Tryz.prog annS 163 q_163 := by
  refine ⟨Tryz.f163, by kernel_rfl, fun call lp args T r h => ?_⟩
  have ha : annS 163 = ann_163 := by kernel_rfl
  rw [ha]
  unfold q_163 at h
  split at h
  · rw [q_163_eq]; exact h
  · cases h

noncomputable def q_173 : QFn := fun call lp args => match args with
  | [a0] =>
    TM.bind (liftT (binQ Tryz.prog .geq 275 a0 (.int .u64 (4294967296)))) fun t1 => TM.bind (condBT t1 (TM.bind (liftT (binQ Tryz.prog .shr 275 a0 (.int .u64 (32)))) fun t2 => TM.pure (.normal, [t2, (.int .i64 (32))])) (TM.pure (.normal, [a0, (.int .i64 (0))])) : TM R) fun r3 => onlyNT r3.1 (TM.bind (liftT (binQ Tryz.prog .geq 275 (r3.2.getD 0 junk) (.int .u64 (65536)))) fun t4 => TM.bind (condBT t4 (TM.bind (liftT (binQ Tryz.prog .shr 275 (r3.2.getD 0 junk) (.int .u64 (16)))) fun t5 => TM.bind (liftT (binQ Tryz.prog .add 3 (r3.2.getD 1 junk) (.int .i64 (16)))) fun t6 => TM.pure (.normal, [t5, t6])) (TM.pure (.normal, [(r3.2.getD 0 junk), (r3.2.getD 1 junk)])) : TM R) fun r7 => onlyNT r7.1 (TM.bind (liftT (binQ Tryz.prog .geq 275 (r7.2.getD 0 junk) (.int .u64 (256)))) fun t8 => TM.bind (condBT t8 (TM.bind (liftT (binQ Tryz.prog .shr 275 (r7.2.getD 0 junk) (.int .u64 (8)))) fun t9 => TM.bind (liftT (binQ Tryz.prog .add 3 (r7.2.getD 1 junk) (.int .i64 (8)))) fun t10 => TM.pure (.normal, [t9, t10])) (TM.pure (.normal, [(r7.2.getD 0 junk), (r7.2.getD 1 junk)])) : TM R) fun r11 => onlyNT r11.1 (TM.bind (pureT (convInt .u8 (r11.2.getD 0 junk))) fun t12 => TM.bind (liftT (indexStrQ (.string ⟨#[0, 1, 2, 2, 3, 3, 3, 3, 4, 4, 4, 4, 4, 4, 4, 4, 5, 5, 5, 5, 5, 5, 5, 5, 5, 5, 5, 5, 5, 5, 5, 5, 6, 6, 6, 6, 6, 6, 6, 6, 6, 6, 6, 6, 6, 6, 6, 6, 6, 6, 6, 6, 6, 6, 6, 6, 6, 6, 6, 6, 6, 6, 6, 6, 7, 7, 7, 7, 7, 7, 7, 7, 7, 7, 7, 7, 7, 7, 7, 7, 7, 7, 7, 7, 7, 7, 7, 7, 7, 7, 7, 7, 7, 7, 7, 7, 7, 7, 7, 7, 7, 7, 7, 7, 7, 7, 7, 7, 7, 7, 7, 7, 7, 7, 7, 7, 7, 7, 7, 7, 7, 7, 7, 7, 7, 7, 7, 7, 8, 8, 8, 8, 8, 8, 8, 8, 8, 8, 8, 8, 8, 8, 8, 8, 8, 8, 8, 8, 8, 8, 8, 8, 8, 8, 8, 8, 8, 8, 8, 8, 8, 8, 8, 8, 8, 8, 8, 8, 8, 8, 8, 8, 8, 8, 8, 8, 8, 8, 8, 8, 8, 8, 8, 8, 8, 8, 8, 8, 8, 8, 8, 8, 8, 8, 8, 8, 8, 8, 8, 8, 8, 8, 8, 8, 8, 8, 8, 8, 8, 8, 8, 8, 8, 8, 8, 8, 8, 8, 8, 8, 8, 8, 8, 8, 8, 8, 8, 8, 8, 8, 8, 8, 8, 8, 8, 8, 8, 8, 8, 8, 8, 8, 8, 8, 8, 8, 8, 8, 8, 8, 8, 8, 8, 8, 8, 8]⟩) t12)) fun t13 => TM.bind (pureT (convInt .i64 t13)) fun t14 => TM.bind (liftT (binQ Tryz.prog .add 3 (r11.2.getD 1 junk) t14)) fun t15 => TM.pure t15)))
  | _ => TM.fail
theorem q_173_eq (call : CallT) (lp : LoopT) (a0 : Value) : evBodyT Tryz.prog call lp ann_173 Tryz.f173 [a0] = q_173 call lp [a0] := by kernel_rfl
theorem q_173_ok : QOk Tryz.prog annS 173 q_173 := by
  refine ⟨Tryz.f173, by kernel_rfl, fun call lp args T r h => ?_⟩
  have ha : annS 173 = ann_173 := by kernel_rfl
  rw [ha]
  unfold q_173 at h
  split at h
  · rw [q_173_eq]; exact h
  · cases h

noncomputable def q_175 : QFn := fun call lp args => match args with
  | [a0, a1, a2] =>
    TM.bind (pureT (lenT (Tryz.prog.underlying 38) a0)) fun t1 => TM.bind (pureT (load Tryz.prog 3 a1)) fun t2 => TM.bind (liftT (binQ Tryz.prog .leq 3 t1 t2)) fun t3 => TM.bind (guardT (wantV t3 true) (pureT (M.pure a0))) fun t4 => TM.bind (guardT (wantV t3 true) (pureT (load Tryz.prog 3 a2))) fun t5 => TM.bind (guardT (wantV t3 true) (call 176 [t4, (.int .i64 (0)), t5])) fun t6 => TM.bind (pureT (M.lift (pickV t3 t6 (.bool false)))) fun t7 => TM.pure t7
  | _ => TM.fail
theorem q_175_eq (call : CallT) (lp : LoopT) (a0 : Value) (a1 : Value) (a2 : Value) : evBodyT Tryz.prog call lp ann_175 Tryz.f175 [a0, a1, a2] = q_175 call lp [a0, a1, a2] := by kernel_rfl
theorem q_175_ok : QOk Tryz.prog annS 175 q_175 := by
  refine ⟨Tryz.f175, by kernel_rfl, fun call lp args T r h => ?_⟩
  have ha : annS 175 = ann_175 := by kernel_rfl
  rw [ha]
  unfold q_175 at h
  split at h
  · rw [q_175_eq]; exact h
  · cases h

noncomputable def q_176 : QFn := fun call lp args => match args with
  | [a0, a1, a2] =>
    TM.bind (stepT (box none 3 a1) (idsL none [a1])) fun t1 => TM.bind (stepT (box none 3 a2) (idsL none [a2])) fun t2 => TM.bind (pureT (M.pure (.func (.func 261) #[] #[t1, t2]))) fun t3 => TM.bind (call 60 [a0, t3]) fun t4 => TM.bind (pureT (M.lift (unV .not t4))) fun t5 => TM.pure t5
  | _ => TM.fail
theorem q_176_eq (call : CallT) (lp : LoopT) (a0 : Value) (a1 : Value) (a2 : Value) : evBodyT Tryz.prog call lp ann_176 Tryz.f176 [a0, a1, a2] = q_176 call lp [a0, a1, a2] := by kernel_rfl
theorem q_176_ok : QOk Tryz.prog annS 176 q_176 := by
  refine ⟨Tryz.f176, by kernel_rfl, fun call lp args T r h => ?_⟩
  have ha : annS 176 = ann_176 := by kernel_rfl
  rw [ha]
  unfold q_176 at h
  split at h
  · rw [q_176_eq]; exact h
  · cases h

noncomputable def q_177 : QFn := fun call lp args => match args with
  | [a0, a1, a2, a3] =>
    TM.bind (stepT (box none 44 a1) (idsL none [a1])) fun t1 => TM.bind (pureT (load Tryz.prog 191 a3)) fun t2 => TM.bind (pureT (M.lift (addP 1 t1))) fun t3 => TM.bind (pureT (load Tryz.prog 3 t3)) fun t4 => TM.bind (callVT call t2 [a0, t4]) fun t5 => TM.bind (call 178 [(.int .i64 (0)), t5]) fun t6 => TM.pure t6
  | _ => TM.fail
theorem q_177_eq (call : CallT) (lp : LoopT) (a0 : Value) (a1 : Value) (a2 : Value) (a3 : Value) : evBodyT Tryz.prog call lp ann_177 Tryz.f177 [a0, a1, a2, a3] = q_177 call lp [a0, a1, a2, a3] := by kernel_rfl
theorem q_177_ok : QOk Tryz.prog annS 177 q_177 := by
  refine ⟨Tryz.f177, by kernel_rfl, fun call lp args T r h => ?_⟩
  have ha : annS 177 = ann_177 := by kernel_rfl
  rw [ha]
  unfold q_177 at h
  split at h
  · rw [q_177_eq]; exact h
  · cases h

noncomputable def q_178 : QFn := fun call lp args => match args with
  | [a0, a1] =>
    TM.bind (pureT (buildM Tryz.prog 258 [(0, a0), (1, a1)])) fun t1 => TM.bind (stepT (buildSliceM Tryz.prog none 254 1 [(0, t1)]) (idsL none [t1])) fun t2 => TM.pure t2
  | _ => TM.fail
theorem q_178_eq (call : CallT) (lp : LoopT) (a0 : Value) (a1 : Value) : evBodyT Tryz.prog call lp ann_178 Tryz.f178 [a0, a1] = q_178 call lp [a0, a1] := by kernel_rfl
theorem q_178_ok : QOk Tryz.prog annS 178 q_178 := by
  refine ⟨Tryz.f178, by kernel_rfl, fun call lp args T r h => ?_⟩
  have ha : annS 178 = ann_178 := by kernel_rfl
  rw [ha]
  unfold q_178 at h
  split at h
  · rw [q_178_eq]; exact h
  · cases h

noncomputable def q_219 : QFn := fun call lp args => match args with
  | [a0, a1, a2, a3] =>
    TM.bind (liftT (binQ Tryz.prog .eql 3 a3 (.int .i64 (0)))) fun t1 => condBT t1 (TM.pure (.slice none 0 0)) (TM.bind (liftT (binQ Tryz.prog .eql 9 a1 (.string ⟨#[]⟩))) fun t2 => condBT t2 (TM.bind (call 266 [a0, a3]) fun t3 => TM.pure t3) (TM.bind (liftT (binQ Tryz.prog .lss 3 a3 (.int .i64 (0)))) fun t4 => TM.bind (condBT t4 (TM.bind (call 267 [a0, a1]) fun t5 => TM.bind (liftT (binQ Tryz.prog .add 3 t5 (.int .i64 (1)))) fun t6 => TM.pure (.normal, [a0, a1, a2, t6])) (TM.pure (.normal, [a0, a1, a2, a3])) : TM R) fun r7 => onlyNT r7.1 (TM.bind (pureT (lenT (Tryz.prog.underlying 9) (r7.2.getD 0 junk))) fun t8 => TM.bind (liftT (binQ Tryz.prog .add 3 t8 (.int .i64 (1)))) fun t9 => TM.bind (pureT (M.lift (mmAll false (r7.2.getD 3 junk) [t9]))) fun t10 => TM.bind (stepT (makeSl none 9 (Tryz.prog.bytesOf 9) [(.string ⟨#[]⟩)] t10 t10) (idsL none [t10, t10])) fun t11 => TM.bind (liftT (binQ Tryz.prog .sub 3 t10 (.int .i64 (1)))) fun t12 => TM.bind (lp (fun vs13 => TM.bind (liftT (binQ Tryz.prog .lss 3 (vs13.getD 5 junk) (vs13.getD 3 junk))) fun t14 => condBT t14 (TM.bind (call 268 [(vs13.getD 0 junk), (vs13.getD 1 junk)]) fun t15 => TM.bind (liftT (binQ Tryz.prog .lss 3 t15 (.int .i64 (0)))) fun t16 => condBT t16 (TM.pure (.exit 0, [(vs13.getD 0 junk), (vs13.getD 1 junk), (vs13.getD 2 junk), (vs13.getD 3 junk), (vs13.getD 4 junk), (vs13.getD 5 junk)])) (TM.bind (liftT (binQ Tryz.prog .add 3 t15 (vs13.getD 2 junk))) fun t17 => TM.bind (liftT (sliceStrQ (vs13.getD 0 junk) none (some t17))) fun t18 => TM.bind (pureT (M.lift (indexS 1 (vs13.getD 4 junk) (vs13.getD 5 junk)))) fun t19 => TM.bind (stepT (store 1 t19 t18) (idsL none [t19, t18])) fun t20 => TM.bind (pureT (lenT (Tryz.prog.underlying 9) (vs13.getD 1 junk))) fun t21 => TM.bind (liftT (binQ Tryz.prog .add 3 t15 t21)) fun t22 => TM.bind (liftT (sliceStrQ (vs13.getD 0 junk) (some t22) none)) fun t23 => TM.bind (liftT (binQ Tryz.prog .add 3 (vs13.getD 5 junk) (.int .i64 (1)))) fun t24 => TM.pure (.normal, [t23, (vs13.getD 1 junk), (vs13.getD 2 junk), (vs13.getD 3 junk), (vs13.getD 4 junk), t24]))) (TM.pure (.exit 0, [(vs13.getD 0 junk), (vs13.getD 1 junk), (vs13.getD 2 junk), (vs13.getD 3 junk), (vs13.getD 4 junk), (vs13.getD 5 junk)]))) [(r7.2.getD 0 junk), (r7.2.getD 1 junk), (r7.2.getD 2 junk), t12, t11, (.int .i64 (0))] : TM R) fun r25 => onlyNT (unblk 0 r25.1) (TM.bind (pureT (M.lift (indexS 1 (r25.2.getD 4 junk) (r25.2.getD 5 junk)))) fun t26 => TM.bind (stepT (store 1 t26 (r25.2.getD 0 junk)) (idsL none [t26, (r25.2.getD 0 junk)])) fun t27 => TM.bind (liftT (binQ Tryz.prog .add 3 (r25.2.getD 5 junk) (.int .i64 (1)))) fun t28 => TM.bind (pureT (M.lift (sliceSl 1 (r25.2.getD 4 junk) none (some t28) none))) fun t29 => TM.pure t29))))
  | _ => TM.fail
theorem q_219_eq (call : CallT) (lp : LoopT) (a0 : Value) (a1 : Value) (a2 : Value) (a3 : Value) : evBodyT Tryz.prog call lp ann_219 Tryz.f219 [a0, a1, a2, a3] = q_219 call lp [a0, a1, a2, a3] := by kernel_rfl
theorem q_219_ok : QOk Tryz.prog annS 219 q_219 := by
  refine ⟨Tryz.f219, by kernel_rfl, fun call lp args T r h => ?_⟩
  have ha : annS 219 = ann_219 := by kernel_rfl
  rw [ha]
  unfold q_219 at h
  split at h
  · rw [q_219_eq]; exact h
  · cases h

noncomputable def q_220 : QFn := fun call lp args => match args with
  | [a0, a1] =>
    TM.bind (call 269 [a0, a1]) fun t1 => TM.bind (liftT (binQ Tryz.prog .geq 3 t1 (.int .i64 (0)))) fun t2 => condBT t2 (TM.bind (reserveT 12) fun base3 => TM.bind (liftT (sliceStrQ a0 none (some t1))) fun t4 => TM.bind (pureT (lenT (Tryz.prog.underlying 9) a1)) fun t5 => TM.bind (liftT (binQ Tryz.prog .add 3 t1 t5)) fun t6 => TM.bind (liftT (sliceStrQ a0 (some t6) none)) fun t7 => TM.pure (.tuple #[t4, t7, (.bool true)])) (TM.pure (.tuple #[a0, (.string ⟨#[]⟩), (.bool false)]))
  | _ => TM.fail
theorem q_220_eq (call : CallT) (lp : LoopT) (a0 : Value) (a1 : Value) : evBodyT Tryz.prog call lp ann_220 Tryz.f220 [a0, a1] = q_220 call lp [a0, a1] := by kernel_rfl
theorem q_220_ok : QOk Tryz.prog annS 220 q_220 := by
  refine ⟨Tryz.f220, by kernel_rfl, fun call lp args T r h => ?_⟩
  have ha : annS 220 = ann_220 := by kernel_rfl
  rw [ha]
  unfold q_220 at h
  split at h
  · rw [q_220_eq]; exact h
  · cases h

noncomputable def q_221 : QFn := fun call lp args => match args with
  | [a0] =>
    TM.bind (call 270 [a0, (.string ⟨#[45]⟩)]) fun t1 => TM.bind (liftT (binQ Tryz.prog .eql 9 t1 (.string ⟨#[]⟩))) fun t2 => TM.bind (guardT (wantV t2 false) (pureT (M.pure t1))) fun t3 => TM.bind (guardT (wantV t2 false) (pureT (lenT (Tryz.prog.underlying 9) t3))) fun t4 => TM.bind (guardT (wantV t2 false) (liftT (binQ Tryz.prog .gtr 3 t4 (.int .i64 (16))))) fun t5 => TM.bind (pureT (M.lift (pickV t2 (.bool true) t5))) fun t6 => TM.bind (guardT (wantV t6 false) (pureT (M.pure t1))) fun t7 => TM.bind (guardT (wantV t6 false) (pureT (lenT (Tryz.prog.underlying 9) t7))) fun t8 => TM.bind (guardT (wantV t6 false) (liftT (binQ Tryz.prog .gtr 3 t8 (.int .i64 (1))))) fun t9 => TM.bind (guardT (wantV t6 false) (pureT (M.pure t9))) fun t10 => TM.bind (guardT (wantV t10 true) (pureT (M.pure t1))) fun t11 => TM.bind (guardT (wantV t10 true) (liftT (indexStrQ t11 (.int .i64 (0))))) fun t12 => TM.bind (guardT (wantV t10 true) (liftT (binQ Tryz.prog .eql 5 t12 (.int .u8 (48))))) fun t13 => TM.bind (guardT (wantV t6 false) (pureT (M.lift (pickV t10 t13 (.bool false))))) fun t14 => TM.bind (pureT (M.lift (pickV t6 (.bool true) t14))) fun t15 => TM.bind (guardT (wantV t15 false) (pureT (M.pure a0))) fun t16 => TM.bind (guardT (wantV t15 false) (liftT (binQ Tryz.prog .eql 9 t16 (.string ⟨#[45, 48]⟩)))) fun t17 => TM.bind (pureT (M.lift (pickV t15 (.bool true) t17))) fun t18 => TM.bind (guardT (wantV t18 false) (pureT (M.pure t1))) fun t19 => TM.bind (guardT (wantV t18 false) (call 271 [t19, (.string ⟨#[48, 49, 50, 51, 52, 53, 54, 55, 56, 57]⟩)])) fun t20 => TM.bind (guardT (wantV t18 false) (liftT (binQ Tryz.prog .neq 9 t20 (.string ⟨#[]⟩)))) fun t21 => TM.bind (pureT (M.lift (pickV t18 (.bool true) t21))) fun t22 => condBT t22 (TM.pure (.tuple #[(.int .i64 (0)), (.bool false)])) (TM.bind (call 272 [a0]) fun t23 => TM.bind (pureT (M.lift (extr 0 t23))) fun t24 => TM.bind (pureT (M.lift (extr 1 t23))) fun t25 => TM.bind (reserveT 5) fun base26 => TM.bind (liftT (binNil Tryz.prog .eql 144 t25 .nilIface)) fun t27 => TM.pure (.tuple #[t24, t27]))
  | _ => TM.fail
theorem q_221_eq (call : CallT) (lp : LoopT) (a0 : Value) : evBodyT Tryz.prog call lp ann_221 Tryz.f221 [a0] = q_221 call lp [a0] := by kernel_rfl
theorem q_221_ok : QOk Tryz.prog annS 221 q_221 := by
  refine ⟨Tryz.f221, by kernel_rfl, fun call lp args T r h => ?_⟩
  have ha : annS 221 = ann_221 := by kernel_rfl
  rw [ha]
  unfold q_221 at h
  split at h
  · rw [q_221_eq]; exact h
  · cases h

noncomputable def q_222 : QFn := fun call lp args => match args with
  | [a0, a1] =>
    TM.bind (call 273 [a0, a1]) fun t1 => TM.pure t1
  | _ => TM.fail
theorem q_222_eq (call : CallT) (lp : LoopT) (a0 : Value) (a1 : Value) : evBodyT Tryz.prog call lp ann_222 Tryz.f222 [a0, a1] = q_222 call lp [a0, a1] := by kernel_rfl
theorem q_222_ok : QOk Tryz.prog annS 222 q_222 := by
  refine ⟨Tryz.f222, by kernel_rfl, fun call lp args T r h => ?_⟩
  have ha : annS 222 = ann_222 := by kernel_rfl
  rw [ha]
  unfold q_222 at h
  split at h
  · rw [q_222_eq]; exact h
  · cases h

noncomputable def q_223 : QFn := fun call lp args => match args with
  | [a0, a1] =>
    TM.bind (call 274 [a0, a1]) fun t1 => TM.pure t1
  | _ => TM.fail
theorem q_223_eq (call : CallT) (lp : LoopT) (a0 : Value) (a1 : Value) : evBodyT Tryz.prog call lp ann_223 Tryz.f223 [a0, a1] = q_223 call lp [a0, a1] := by kernel_rfl
theorem q_223_ok : QOk Tryz.prog annS 223 q_223 := by
  refine ⟨Tryz.f223, by kernel_rfl, fun call lp args T r h => ?_⟩
  have ha : annS 223 = ann_223 := by kernel_rfl
  rw [ha]
  unfold q_223 at h
  split at h
  · rw [q_223_eq]; exact h
  · cases h

noncomputable def q_224 : QFn := fun call lp args => match args with
  | [a0] =>
    TM.bind (pureT (lenT (Tryz.prog.underlying 9) a0)) fun t1 => TM.bind (liftT (binQ Tryz.prog .lss 3 t1 (.int .i64 (1)))) fun t2 => TM.bind (guardT (wantV t2 false) (pureT (M.pure a0))) fun t3 => TM.bind (guardT (wantV t2 false) (pureT (lenT (Tryz.prog.underlying 9) t3))) fun t4 => TM.bind (guardT (wantV t2 false) (liftT (binQ Tryz.prog .gtr 3 t4 (.int .i64 (8))))) fun t5 => TM.bind (pureT (M.lift (pickV t2 (.bool true) t5))) fun t6 => TM.bind (guardT (wantV t6 false) (pureT (M.pure a0))) fun t7 => TM.bind (guardT (wantV t6 false) (liftT (indexStrQ t7 (.int .i64 (0))))) fun t8 => TM.bind (guardT (wantV t6 false) (liftT (binQ Tryz.prog .lss 5 t8 (.int .u8 (65))))) fun t9 => TM.bind (pureT (M.lift (pickV t6 (.bool true) t9))) fun t10 => TM.bind (guardT (wantV t10 false) (pureT (M.pure a0))) fun t11 => TM.bind (guardT (wantV t10 false) (liftT (indexStrQ t11 (.int .i64 (0))))) fun t12 => TM.bind (guardT (wantV t10 false) (liftT (binQ Tryz.prog .gtr 5 t12 (.int .u8 (90))))) fun t13 => TM.bind (pureT (M.lift (pickV t10 (.bool true) t13))) fun t14 => condBT t14 (TM.pure (.bool false)) (TM.bind (pureT (lenT (Tryz.prog.underlying 9) a0)) fun t15 => TM.bind (lp (fun vs16 => TM.bind (liftT (binQ Tryz.prog .lss 3 (vs16.getD 3 junk) (vs16.getD 2 junk))) fun t17 => condBT t17 (TM.bind (liftT (indexStrQ (vs16.getD 0 junk) (vs16.getD 3 junk))) fun t18 => TM.bind (liftT (binQ Tryz.prog .lss 5 t18 (.int .u8 (65)))) fun t19 => TM.bind (guardT (wantV t19 false) (pureT (M.pure (vs16.getD 0 junk)))) fun t20 => TM.bind (guardT (wantV t19 false) (pureT (M.pure (vs16.getD 3 junk)))) fun t21 => TM.bind (guardT (wantV t19 false) (liftT (indexStrQ t20 t21))) fun t22 => TM.bind (guardT (wantV t19 false) (liftT (binQ Tryz.prog .gtr 5 t22 (.int .u8 (90))))) fun t23 => TM.bind (pureT (M.lift (pickV t19 (.bool true) t23))) fun t24 => TM.bind (guardT (wantV t24 true) (pureT (M.pure (vs16.getD 0 junk)))) fun t25 => TM.bind (guardT (wantV t24 true) (pureT (M.pure (vs16.getD 3 junk)))) fun t26 => TM.bind (guardT (wantV t24 true) (liftT (indexStrQ t25 t26))) fun t27 => TM.bind (guardT (wantV t24 true) (liftT (binQ Tryz.prog .lss 5 t27 (.int .u8 (48))))) fun t28 => TM.bind (guardT (wantV t24 true) (pureT (M.pure t28))) fun t29 => TM.bind (guardT (wantV t29 false) (pureT (M.pure (vs16.getD 0 junk)))) fun t30 => TM.bind (guardT (wantV t29 false) (pureT (M.pure (vs16.getD 3 junk)))) fun t31 => TM.bind (guardT (wantV t29 false) (liftT (indexStrQ t30 t31))) fun t32 => TM.bind (guardT (wantV t29 false) (liftT (binQ Tryz.prog .gtr 5 t32 (.int .u8 (57))))) fun t33 => TM.bind (guardT (wantV t24 true) (pureT (M.lift (pickV t29 (.bool true) t33)))) fun t34 => TM.bind (pureT (M.lift (pickV t24 t34 (.bool false)))) fun t35 => condBT t35 (TM.pure (.ret, [(vs16.getD 0 junk), (.bool false), (vs16.getD 2 junk), (vs16.getD 3 junk)])) (TM.bind (liftT (binQ Tryz.prog .add 3 (vs16.getD 3 junk) (.int .i64 (1)))) fun t36 => TM.pure (.normal, [(vs16.getD 0 junk), (vs16.getD 1 junk), (vs16.getD 2 junk), t36]))) (TM.pure (.exit 0, [(vs16.getD 0 junk), (vs16.getD 1 junk), (vs16.getD 2 junk), (vs16.getD 3 junk)]))) [a0, (.bool false), t15, (.int .i64 (0))] : TM R) fun r37 => exKT (unblk 0 r37.1) (TM.pure (.bool true)) (TM.pure (r37.2.getD 1 junk)) (fun j38 => TM.fail))
  | _ => TM.fail
theorem q_224_eq (call : CallT) (lp : LoopT) (a0 : Value) : evBodyT Tryz.prog call lp ann_224 Tryz.f224 [a0] = q_224 call lp [a0] := by kernel_rfl
theorem q_224_ok : QOk Tryz.prog annS 224 q_224 := by
  refine ⟨Tryz.f224, by kernel_rfl, fun call lp args T r h => ?_⟩
  have ha : annS 224 = ann_224 := by kernel_rfl
  rw [ha]
  unfold q_224 at h
  split at h
  · rw [q_224_eq]; exact h
  · cases h

noncomputable def q_225 : QFn := fun call lp args => match args with
  | [a0, a1] =>
    TM.bind (stepT (M.bind (newRow none 158 [(.int .i64 (0)), (.bool false), (.int .i64 (0)), (.int .i64 (0)), (.int .i64 (0)), (.int .i64 (0)), (.int .i64 (0)), (.int .i64 (0)), (.int .i64 (0)), (.int .i64 (0)), (.int .i64 (0))]) fun b => M.pure (.pointer (some ⟨b, 0, none⟩))) (idsL none [])) fun t1 => TM.bind (pureT (M.lift (indexS 1 a1 (.int .i64 (0))))) fun t2 => TM.bind (pureT (load Tryz.prog 9 t2)) fun t3 => TM.bind (call 222 [t3, (.string ⟨#[42]⟩)]) fun t4 => TM.bind (condBT t4 (TM.bind (call 223 [t3, (.string ⟨#[42]⟩)]) fun t5 => TM.bind (pureT (M.lift (addP 1 t1))) fun t6 => TM.bind (stepT (store 1 t6 (.bool true)) (idsL none [t6, (.bool true)])) fun t7 => TM.pure (.normal, [a0, a1, t1, t5])) (TM.pure (.normal, [a0, a1, t1, t3])) : TM R) fun r8 => onlyNT r8.1 (TM.bind (pureT (M.lift (nilChk (r8.2.getD 0 junk)))) fun t9 => TM.bind (pureT (M.lift (addP 6 t9))) fun t10 => TM.bind (pureT (load Tryz.prog 209 t10)) fun t11 => TM.bind (pureT (lookupM .str (.int .i64 (0)) true t11 (r8.2.getD 3 junk))) fun t12 => TM.bind (pureT (M.lift (extr 0 t12))) fun t13 => TM.bind (pureT (M.lift (extr 1 t12))) fun t14 => TM.bind (pureT (M.lift (unV .not t14))) fun t15 => TM.bind (guardT (wantV t15 false) (pureT (M.pure (r8.2.getD 1 junk)))) fun t16 => TM.bind (guardT (wantV t15 false) (pureT (lenT (Tryz.prog.underlying 23) t16))) fun t17 => TM.bind (guardT (wantV t15 false) (call 127 [])) fun t18 => TM.bind (guardT (wantV t15 false) (pureT (M.pure t13))) fun t19 => TM.bind (guardT (wantV t15 false) (pureT (M.lift (indexS 2 t18 t19)))) fun t20 => TM.bind (guardT (wantV t15 false) (pureT (M.lift (addP 1 t20)))) fun t21 => TM.bind (guardT (wantV t15 false) (pureT (load Tryz.prog 9 t21))) fun t22 => TM.bind (guardT (wantV t15 false) (pureT (lenT (Tryz.prog.underlying 9) t22))) fun t23 => TM.bind (guardT (wantV t15 false) (liftT (binQ Tryz.prog .add 3 (.int .i64 (1)) t23))) fun t24 => TM.bind (guardT (wantV t15 false) (liftT (binQ Tryz.prog .neq 3 t17 t24))) fun t25 => TM.bind (pureT (M.lift (pickV t15 (.bool true) t25))) fun t26 => condBT t26 (TM.pure (.bool false)) (TM.bind (pureT (M.lift (addP 0 (r8.2.getD 2 junk)))) fun t27 => TM.bind (stepT (store 1 t27 t13) (idsL none [t27, t13])) fun t28 => TM.bind (reserveT 14) fun base29 => TM.bind (pureT (M.lift (nilChk (r8.2.getD 0 junk)))) fun t30 => TM.bind (pureT (M.lift (addP 0 t30))) fun t31 => TM.bind (pureT (M.lift (addP 2 t31))) fun t32 => TM.bind (pureT (load Tryz.prog 81 t32)) fun t33 => TM.bind (pureT (M.lift (nilChk (r8.2.getD 0 junk)))) fun t34 => TM.bind (pureT (M.lift (addP 0 t34))) fun t35 => TM.bind (pureT (M.lift (addP 2 t35))) fun t36 => TM.bind (pureT (load Tryz.prog 81 t36)) fun t37 => TM.bind (pureT (lenT (Tryz.prog.underlying 81) t37)) fun t38 => TM.bind (liftT (binQ Tryz.prog .sub 3 t38 (.int .i64 (1)))) fun t39 => TM.bind (pureT (M.lift (indexS 2 t33 t39))) fun t40 => TM.bind (call 127 []) fun t41 => TM.bind (pureT (M.lift (indexS 2 t41 t13))) fun t42 => TM.bind (pureT (M.lift (addP 1 t42))) fun t43 => TM.bind (pureT (load Tryz.prog 9 t43)) fun t44 => TM.bind (stepT (rangeStr none t44) (idsL none [t44])) fun t45 => TM.bind (lp (fun vs46 => TM.bind (stepT (nextStrQ (vs46.getD 5 junk)) (idsL none [(vs46.getD 5 junk)])) fun t47 => TM.bind (pureT (M.lift (extr 0 t47))) fun t48 => condBT t48 (TM.bind (pureT (M.lift (extr 1 t47))) fun t49 => TM.bind (pureT (M.lift (extr 2 t47))) fun t50 => TM.bind (reserveT 14) fun base51 => TM.bind (liftT (binQ Tryz.prog .add 3 t49 (.int .i64 (1)))) fun t52 => TM.bind (pureT (M.lift (indexS 1 (vs46.getD 1 junk) t52))) fun t53 => TM.bind (pureT (load Tryz.prog 9 t53)) fun t54 => TM.bind (pureT (M.lift (nilChk (vs46.getD 4 junk)))) fun t55 => TM.bind (pureT (M.lift (addP 1 t55))) fun t56 => TM.bind (pureT (load Tryz.prog 149 t56)) fun t57 => TM.bind (pureT (lenT (Tryz.prog.underlying 149) t57)) fun t58 => TM.bind (call 275 [(vs46.getD 0 junk), (vs46.getD 3 junk), t50, t54, t58]) fun t59 => TM.bind (pureT (M.lift (unV .not t59))) fun t60 => condBT t60 (TM.pure (.ret, [(vs46.getD 0 junk), (vs46.getD 1 junk), (.bool false), (vs46.getD 3 junk), (vs46.getD 4 junk), (vs46.getD 5 junk)])) (TM.pure (.normal, [(vs46.getD 0 junk), (vs46.getD 1 junk), (vs46.getD 2 junk), (vs46.getD 3 junk), (vs46.getD 4 junk), (vs46.getD 5 junk)]))) (TM.pure (.exit 0, [(vs46.getD 0 junk), (vs46.getD 1 junk), (vs46.getD 2 junk), (vs46.getD 3 junk), (vs46.getD 4 junk), (vs46.getD 5 junk)]))) [(r8.2.getD 0 junk), (r8.2.getD 1 junk), junk, (r8.2.getD 2 junk), t40, t45] : TM R) fun r61 => exKT (unblk 0 r61.1) (TM.bind (reserveT 11) fun base63 => TM.bind (pureT (M.lift (nilChk (r61.2.getD 4 junk)))) fun t64 => TM.bind (pureT (M.lift (addP 1 t64))) fun t65 => TM.bind (pureT (load Tryz.prog 149 t65)) fun t66 => TM.bind (pureT (load Tryz.prog 158 (r61.2.getD 3 junk))) fun t67 => TM.bind (stepT (buildSliceM Tryz.prog (some (base63 + 6)) 149 1 [(0, t67)]) (idsL (some (base63 + 6)) [t67])) fun t68 => TM.bind (stepT (append (some (base63 + 7)) 158 11 (Tryz.prog.bytesOf 158) t66 t68) (idsL (some (base63 + 7)) [t66, t68])) fun t69 => TM.bind (pureT (M.lift (nilChk (r61.2.getD 4 junk)))) fun t70 => TM.bind (pureT (M.lift (addP 1 t70))) fun t71 => TM.bind (stepT (store 1 t71 t69) (idsL (some (base63 + 10)) [t71, t69])) fun t72 => TM.pure (.bool true)) (TM.pure (r61.2.getD 2 junk)) (fun j62 => TM.fail)))
  | _ => TM.fail
theorem q_225_eq (call : CallT) (lp : LoopT) (a0 : Value) (a1 : Value) : evBodyT Tryz.prog call lp ann_225 Tryz.f225 [a0, a1] = q_225 call lp [a0, a1] := by kernel_rfl
theorem q_225_ok : QOk Tryz.prog annS 225 q_225 := by
  refine ⟨Tryz.f225, by kernel_rfl, fun call lp args T r h => ?_⟩
  have ha : annS 225 = ann_225 := by kernel_rfl
  rw [ha]
  unfold q_225 at h
  split at h
  · rw [q_225_eq]; exact h
  · cases h

noncomputable def q_226 : QFn := fun call lp args => match args with
  | [a0, a1] =>
    TM.bind (call 276 [a0, a1]) fun t1 => TM.bind (liftT (binQ Tryz.prog .geq 3 t1 (.int .i64 (0)))) fun t2 => TM.pure t2
  | _ => TM.fail
theorem q_226_eq (call : CallT) (lp : LoopT) (a0 : Value) (a1 : Value) : evBodyT Tryz.prog call lp ann_226 Tryz.f226 [a0, a1] = q_226 call lp [a0, a1] := by kernel_rfl
theorem q_226_ok : QOk Tryz.prog annS 226 q_226 := by
  refine ⟨Tryz.f226, by kernel_rfl, fun call lp args T r h => ?_⟩
  have ha : annS 226 = ann_226 := by kernel_rfl
  rw [ha]
  unfold q_226 at h
  split at h
  · rw [q_226_eq]; exact h
  · cases h

noncomputable def q_227 : QFn := fun call lp args => match args with
  | [a0, a1] =>
    TM.bind (stepT (box none 158 a0) (idsL none [a0])) fun t1 => TM.bind (pureT (load Tryz.prog 158 t1)) fun t2 => TM.bind (pureT (M.lift (addP 1 a1))) fun t3 => TM.bind (pureT (load Tryz.prog 149 t3)) fun t4 => TM.bind (pureT (lenT (Tryz.prog.underlying 149) t4)) fun t5 => TM.bind (call 228 [t2, t5]) fun t6 => TM.bind (pureT (M.lift (unV .not t6))) fun t7 => TM.pure t7
  | _ => TM.fail
theorem q_227_eq (call : CallT) (lp : LoopT) (a0 : Value) (a1 : Value) : evBodyT Tryz.prog call lp ann_227 Tryz.f227 [a0, a1] = q_227 call lp [a0, a1] := by kernel_rfl
theorem q_227_ok : QOk Tryz.prog annS 227 q_227 := by
  refine ⟨Tryz.f227, by kernel_rfl, fun call lp args T r h => ?_⟩
  have ha : annS 227 = ann_227 := by kernel_rfl
  rw [ha]
  unfold q_227 at h
  split at h
  · rw [q_227_eq]; exact h
  · cases h

noncomputable def q_228 : QFn := fun call lp args => match args with
  | [a0, a1] =>
    TM.bind (stepT (box none 158 a0) (idsL none [a0])) fun t1 => TM.bind (call 127 []) fun t2 => TM.bind (stepT (M.bind (newRow none 213 [(.slice none 0 0)]) fun b => M.pure (.pointer (some ⟨b, 0, none⟩))) (idsL none [])) fun t3 => TM.bind (stepT (store 1 t3 t2) (idsL none [t3, t2])) fun t4 => TM.bind (pureT (M.lift (addP 0 t1))) fun t5 => TM.bind (pureT (load Tryz.prog 3 t5)) fun t6 => TM.bind (liftT (binQ Tryz.prog .lss 3 t6 (.int .i64 (0)))) fun t7 => TM.bind (guardT (wantV t7 false) (pureT (M.lift (addP 0 t1)))) fun t8 => TM.bind (guardT (wantV t7 false) (pureT (load Tryz.prog 3 t8))) fun t9 => TM.bind (guardT (wantV t7 false) (pureT (load Tryz.prog 213 t3))) fun t10 => TM.bind (guardT (wantV t7 false) (pureT (lenT (Tryz.prog.underlying 213) t10))) fun t11 => TM.bind (guardT (wantV t7 false) (liftT (binQ Tryz.prog .geq 3 t9 t11))) fun t12 => TM.bind (pureT (M.lift (pickV t7 (.bool true) t12))) fun t13 => condBT t13 (TM.pure (.bool false)) (TM.bind (pureT (M.pure (.func (.func 277) #[] #[t3, t1]))) fun t14 => TM.bind (stepT (M.bind (newRow none 220 [.nilFunc]) fun b => M.pure (.pointer (some ⟨b, 0, none⟩))) (idsL none [])) fun t15 => TM.bind (stepT (store 1 t15 t14) (idsL none [t15, t14])) fun t16 => TM.bind (pureT (buildM Tryz.prog 156 [])) fun t17 => TM.bind (stepT (M.bind (newRow none 156 [(.int .i64 (0)), (.int .i64 (0))]) fun b => M.pure (.pointer (some ⟨b, 0, none⟩))) (idsL none [])) fun t18 => TM.bind (stepT (store 2 t18 t17) (idsL none [t18, t17])) fun t19 => TM.bind (pureT (M.pure (.func (.func 279) #[] #[t15, t18]))) fun t20 => TM.bind (pureT (M.lift (addP 3 t1))) fun t21 => TM.bind (pureT (load Tryz.prog 156 t21)) fun t22 => TM.bind (callVT call t20 [(.int .i32 (115)), t22]) fun t23 => TM.bind (guardT (wantV t23 true) (pureT (M.pure t20))) fun t24 => TM.bind (guardT (wantV t23 true) (pureT (M.lift (addP 5 t1)))) fun t25 => TM.bind (guardT (wantV t23 true) (pureT (load Tryz.prog 156 t25))) fun t26 => TM.bind (guardT (wantV t23 true) (callVT call t24 [(.int .i32 (118)), t26])) fun t27 => TM.bind (pureT (M.lift (pickV t23 t27 (.bool false)))) fun t28 => TM.bind (guardT (wantV t28 true) (pureT (M.pure t20))) fun t29 => TM.bind (guardT (wantV t28 true) (pureT (M.lift (addP 7 t1)))) fun t30 => TM.bind (guardT (wantV t28 true) (pureT (load Tryz.prog 156 t30))) fun t31 => TM.bind (guardT (wantV t28 true) (callVT call t29 [(.int .i32 (119)), t31])) fun t32 => TM.bind (pureT (M.lift (pickV t28 t32 (.bool false)))) fun t33 => TM.bind (pureT (load Tryz.prog 220 t15)) fun t34 => TM.bind (callVT call t34 [(.int .i32 (114))]) fun t35 => TM.bind (condBT t35 (TM.bind (guardT (wantV t33 true) (pureT (M.lift (addP 2 t1)))) fun t36 => TM.bind (guardT (wantV t33 true) (pureT (load Tryz.prog 3 t36))) fun t37 => TM.bind (guardT (wantV t33 true) (liftT (binQ Tryz.prog .geq 3 t37 (.int .i64 (0))))) fun t38 => TM.bind (pureT (M.lift (pickV t33 t38 (.bool false)))) fun t39 => TM.bind (guardT (wantV t39 true) (pureT (M.lift (addP 2 t1)))) fun t40 => TM.bind (guardT (wantV t39 true) (pureT (load Tryz.prog 3 t40))) fun t41 => TM.bind (guardT (wantV t39 true) (liftT (binQ Tryz.prog .lss 3 t41 (.int .i64 (14))))) fun t42 => TM.bind (pureT (M.lift (pickV t39 t42 (.bool false)))) fun t43 => TM.pure (.normal, [a1, t1, t15, t43])) (TM.bind (guardT (wantV t33 true) (pureT (M.lift (addP 2 t1)))) fun t44 => TM.bind (guardT (wantV t33 true) (pureT (load Tryz.prog 3 t44))) fun t45 => TM.bind (guardT (wantV t33 true) (liftT (binQ Tryz.prog .eql 3 t45 (.int .i64 (0))))) fun t46 => TM.bind (pureT (M.lift (pickV t33 t46 (.bool false)))) fun t47 => TM.pure (.normal, [a1, t1, t15, t47])) : TM R) fun r48 => onlyNT r48.1 (TM.bind (pureT (load Tryz.prog 220 (r48.2.getD 2 junk))) fun t49 => TM.bind (callVT call t49 [(.int .i32 (111))]) fun t50 => TM.bind (condBT t50 (TM.bind (guardT (wantV (r48.2.getD 3 junk) true) (pureT (M.lift (addP 9 (r48.2.getD 1 junk))))) fun t51 => TM.bind (guardT (wantV (r48.2.getD 3 junk) true) (pureT (load Tryz.prog 3 t51))) fun t52 => TM.bind (guardT (wantV (r48.2.getD 3 junk) true) (liftT (binQ Tryz.prog .geq 3 t52 (.int .i64 (0))))) fun t53 => TM.bind (pureT (M.lift (pickV (r48.2.getD 3 junk) t53 (.bool false)))) fun t54 => TM.bind (guardT (wantV t54 true) (pureT (M.lift (addP 9 (r48.2.getD 1 junk))))) fun t55 => TM.bind (guardT (wantV t54 true) (pureT (load Tryz.prog 3 t55))) fun t56 => TM.bind (guardT (wantV t54 true) (liftT (binQ Tryz.prog .leq 3 t56 (.int .i64 (15))))) fun t57 => TM.bind (pureT (M.lift (pickV t54 t57 (.bool false)))) fun t58 => TM.pure (.normal, [(r48.2.getD 0 junk), (r48.2.getD 1 junk), (r48.2.getD 2 junk), t58])) (TM.bind (guardT (wantV (r48.2.getD 3 junk) true) (pureT (M.lift (addP 9 (r48.2.getD 1 junk))))) fun t59 => TM.bind (guardT (wantV (r48.2.getD 3 junk) true) (pureT (load Tryz.prog 3 t59))) fun t60 => TM.bind (guardT (wantV (r48.2.getD 3 junk) true) (liftT (binQ Tryz.prog .eql 3 t60 (.int .i64 (0))))) fun t61 => TM.bind (pureT (M.lift (pickV (r48.2.getD 3 junk) t61 (.bool false)))) fun t62 => TM.pure (.normal, [(r48.2.getD 0 junk), (r48.2.getD 1 junk), (r48.2.getD 2 junk), t62])) : TM R) fun r63 => onlyNT r63.1 (TM.bind (pureT (load Tryz.prog 220 (r63.2.getD 2 junk))) fun t64 => TM.bind (callVT call t64 [(.int .i32 (76))]) fun t65 => condBT t65 (TM.bind (guardT (wantV (r63.2.getD 3 junk) true) (pureT (M.lift (addP 10 (r63.2.getD 1 junk))))) fun t66 => TM.bind (guardT (wantV (r63.2.getD 3 junk) true) (pureT (load Tryz.prog 3 t66))) fun t67 => TM.bind (guardT (wantV (r63.2.getD 3 junk) true) (liftT (binQ Tryz.prog .geq 3 t67 (.int .i64 (0))))) fun t68 => TM.bind (pureT (M.lift (pickV (r63.2.getD 3 junk) t68 (.bool false)))) fun t69 => TM.bind (guardT (wantV t69 true) (pureT (M.lift (addP 10 (r63.2.getD 1 junk))))) fun t70 => TM.bind (guardT (wantV t69 true) (pureT (load Tryz.prog 3 t70))) fun t71 => TM.bind (guardT (wantV t69 true) (pureT (M.pure (r63.2.getD 0 junk)))) fun t72 => TM.bind (guardT (wantV t69 true) (liftT (binQ Tryz.prog .lss 3 t71 t72))) fun t73 => TM.bind (pureT (M.lift (pickV t69 t73 (.bool false)))) fun t74 => TM.pure t74) (TM.bind (guardT (wantV (r63.2.getD 3 junk) true) (pureT (M.lift (addP 10 (r63.2.getD 1 junk))))) fun t75 => TM.bind (guardT (wantV (r63.2.getD 3 junk) true) (pureT (load Tryz.prog 3 t75))) fun t76 => TM.bind (guardT (wantV (r63.2.getD 3 junk) true) (liftT (binQ Tryz.prog .eql 3 t76 (.int .i64 (0))))) fun t77 => TM.bind (pureT (M.lift (pickV (r63.2.getD 3 junk) t77 (.bool false)))) fun t78 => TM.pure t78))))
  | _ => TM.fail
theorem q_228_eq (call : CallT) (lp : LoopT) (a0 : Value) (a1 : Value) : evBodyT Tryz.prog call lp ann_228 Tryz.f228 [a0, a1] = q_228 call lp [a0, a1] := by kernel_rfl
theorem q_228_ok : QOk Tryz.prog annS 228 q_228 := by
  refine ⟨Tryz.f228, by kernel_rfl, fun call lp args T r h => ?_⟩
  have ha : annS 228 = ann_228 := by kernel_rfl
  rw [ha]
  unfold q_228 at h
  split at h
  · rw [q_228_eq]; exact h
  · cases h

noncomputable def q_231 : QFn := fun call lp args => match args with
  | [a0, a1] =>
    TM.bind (liftT (binQ Tryz.prog .eql 3 a1 (.int .i64 (10)))) fun t1 => condBT t1 (TM.bind (liftT (binQ Tryz.prog .leq 2 (.int .i64 (0)) a0)) fun t2 => TM.bind (guardT (wantV t2 true) (pureT (M.pure a0))) fun t3 => TM.bind (guardT (wantV t2 true) (liftT (binQ Tryz.prog .lss 2 t3 (.int .i64 (100))))) fun t4 => TM.bind (pureT (M.lift (pickV t2 t4 (.bool false)))) fun t5 => condBT t5 (TM.bind (call 282 [a0]) fun t6 => TM.pure t6) (TM.bind (stepT (M.bind (newRow none 362 [(.int .u8 (0)), (.int .u8 (0)), (.int .u8 (0)), (.int .u8 (0)), (.int .u8 (0)), (.int .u8 (0)), (.int .u8 (0)), (.int .u8 (0)), (.int .u8 (0)), (.int .u8 (0)), (.int .u8 (0)), (.int .u8 (0)), (.int .u8 (0)), (.int .u8 (0)), (.int .u8 (0)), (.int .u8 (0)), (.int .u8 (0)), (.int .u8 (0)), (.int .u8 (0)), (.int .u8 (0)), (.int .u8 (0)), (.int .u8 (0)), (.int .u8 (0)), (.int .u8 (0))]) fun b => M.pure (.pointer (some ⟨b, 0, none⟩))) (idsL none [])) fun t7 => TM.bind (pureT (convInt .u64 a0)) fun t8 => TM.bind (liftT (binQ Tryz.prog .lss 2 a0 (.int .i64 (0)))) fun t9 => TM.bind (condBT t9 (TM.bind (pureT (M.lift (unV .neg t8))) fun t10 => TM.pure (.normal, [a0, t7, t10])) (TM.pure (.normal, [a0, t7, t8])) : TM R) fun r11 => onlyNT r11.1 (TM.bind (call 283 [(r11.2.getD 2 junk)]) fun t12 => TM.bind (liftT (binQ Tryz.prog .add 3 (.int .i64 (1)) t12)) fun t13 => TM.bind (pureT (M.lift (sliceAr 24 1 (r11.2.getD 1 junk) (some (.int .i64 (1))) (some t13)))) fun t14 => TM.bind (call 284 [t14, (r11.2.getD 2 junk)]) fun t15 => TM.bind (liftT (binQ Tryz.prog .lss 2 (r11.2.getD 0 junk) (.int .i64 (0)))) fun t16 => condBT t16 (TM.bind (pureT (M.lift (indexP 24 1 (r11.2.getD 1 junk) (.int .i64 (0))))) fun t17 => TM.bind (stepT (store 1 t17 (.int .u8 (45))) (idsL none [t17, (.int .u8 (45))])) fun t18 => TM.bind (liftT (binQ Tryz.prog .add 3 (.int .i64 (1)) t12)) fun t19 => TM.bind (pureT (M.lift (sliceAr 24 1 (r11.2.getD 1 junk) none (some t19)))) fun t20 => TM.bind (pureT (M.fail)) fun t21 => TM.pure t21) (TM.bind (liftT (binQ Tryz.prog .add 3 (.int .i64 (1)) t12)) fun t22 => TM.bind (pureT (M.lift (sliceAr 24 1 (r11.2.getD 1 junk) (some (.int .i64 (1))) (some t22)))) fun t23 => TM.bind (pureT (M.fail)) fun t24 => TM.pure t24)))) (TM.bind (pureT (convInt .u64 a0)) fun t25 => TM.bind (liftT (binQ Tryz.prog .lss 2 a0 (.int .i64 (0)))) fun t26 => TM.bind (call 285 [(.slice none 0 0), t25, a1, t26, (.bool false)]) fun t27 => TM.bind (pureT (M.lift (extr 0 t27))) fun t28 => TM.bind (pureT (M.lift (extr 1 t27))) fun t29 => TM.pure t29)
  | _ => TM.fail
theorem q_231_eq (call : CallT) (lp : LoopT) (a0 : Value) (a1 : Value) : evBodyT Tryz.prog call lp ann_231 Tryz.f231 [a0, a1] = q_231 call lp [a0, a1] := by kernel_rfl
theorem q_231_ok : QOk Tryz.prog annS 231 q_231 := by
  refine ⟨Tryz.f231, by kernel_rfl, fun call lp args T r h => ?_⟩
  have ha : annS 231 = ann_231 := by kernel_rfl
  rw [ha]
  unfold q_231 at h
  split at h
  · rw [q_231_eq]; exact h
  · cases h

noncomputable def q_232 : QFn := fun call lp args => match args with
  | [a0, a1, a2] =>
    TM.bind (pureT (M.lift (nilChk a0))) fun t1 => TM.bind (pureT (M.lift (addP 7 t1))) fun t2 => TM.bind (pureT (load Tryz.prog 62 t2)) fun t3 => TM.bind (call 286 [t3, a2]) fun t4 => TM.bind (pureT (M.lift (unV .not t4))) fun t5 => condBT t5 (TM.pure (.int .i64 (1))) (TM.bind (pureT (M.lift (nilChk a0))) fun t6 => TM.bind (pureT (M.lift (addP 7 t6))) fun t7 => TM.bind (pureT (load Tryz.prog 62 t7)) fun t8 => TM.bind (call 287 [t8, a2]) fun t9 => TM.bind (pureT (M.lift (extr 0 t9))) fun t10 => TM.bind (pureT (M.lift (extr 1 t9))) fun t11 => TM.bind (pureT (M.lift (nilChk a0))) fun t12 => TM.bind (pureT (M.lift (addP 6 t12))) fun t13 => TM.bind (pureT (load Tryz.prog 104 t13)) fun t14 => TM.bind (pureT (M.lift (indexS 30 t14 a1))) fun t15 => TM.bind (pureT (M.lift (nilChk a0))) fun t16 => TM.bind (pureT (M.lift (addP 5 t16))) fun t17 => TM.bind (pureT (load Tryz.prog 4 t17)) fun t18 => TM.bind (guardT (wantV t18 true) (pureT (M.pure t11))) fun t19 => TM.bind (guardT (wantV t18 true) (liftT (binQ Tryz.prog .eql 32 t19 (.int .i64 (0))))) fun t20 => TM.bind (pureT (M.lift (pickV t18 t20 (.bool false)))) fun t21 => TM.bind (guardT (wantV t21 true) (pureT (M.pure t15))) fun t22 => TM.bind (guardT (wantV t21 true) (pureT (M.lift (nilChk t22)))) fun t23 => TM.bind (guardT (wantV t21 true) (pureT (M.lift (addP 24 t23)))) fun t24 => TM.bind (guardT (wantV t21 true) (pureT (load Tryz.prog 38 t24))) fun t25 => TM.bind (guardT (wantV t21 true) (pureT (M.pure t10))) fun t26 => TM.bind (guardT (wantV t21 true) (call 194 [t25, t26])) fun t27 => TM.bind (guardT (wantV t21 true) (pureT (M.lift (unV .not t27)))) fun t28 => TM.bind (pureT (M.lift (pickV t21 t28 (.bool false)))) fun t29 => TM.bind (guardT (wantV t29 true) (pureT (M.pure t15))) fun t30 => TM.bind (guardT (wantV t29 true) (pureT (M.lift (nilChk t30)))) fun t31 => TM.bind (guardT (wantV t29 true) (pureT (M.lift (addP 25 t31)))) fun t32 => TM.bind (guardT (wantV t29 true) (pureT (M.lift (sliceAr 3 1 t32 none none)))) fun t33 => TM.bind (guardT (wantV t29 true) (pureT (M.pure t10))) fun t34 => TM.bind (guardT (wantV t29 true) (call 194 [t33, t34])) fun t35 => TM.bind (guardT (wantV t29 true) (pureT (M.lift (unV .not t35)))) fun t36 => TM.bind (pureT (M.lift (pickV t29 t36 (.bool false)))) fun t37 => condBT t37 (TM.pure (.int .i64 (7))) (TM.pure (.int .i64 (0))))
  | _ => TM.fail
theorem q_232_eq (call : CallT) (lp : LoopT) (a0 : Value) (a1 : Value) (a2 : Value) : evBodyT Tryz.prog call lp ann_232 Tryz.f232 [a0, a1, a2] = q_232 call lp [a0, a1, a2] := by kernel_rfl
theorem q_232_ok : QOk Tryz.prog annS 232 q_232 := by
  refine ⟨Tryz.f232, by kernel_rfl, fun call lp args T r h => ?_⟩
  have ha : annS 232 = ann_232 := by kernel_rfl
  rw [ha]
  unfold q_232 at h
  split at h
  · rw [q_232_eq]; exact h
  · cases h

end Go.Proofs.YtepchknpgeopfaaGreatDoor.E
