/-
  SEAT E: the quick terms of the functions that the closed run comes to (printed by wip/gen/qgen.py), part 1.
-/
import Derived.Test.YtepchknpgeopfaaGreatDoorAnnE
import Derived.Test.YtepchknpgeopfaaGreatDoorEng25
import Derived.Test.YtepchknpgeopfaaGreatDoorProg
import Derived.KernelRfl
set_option linter.unusedVariables false
set_option linter.unusedSimpArgs false
namespace Go.Proofs.YtepchknpgeopfaaGreatDoor.E
open Go
set_option maxRecDepth 100000

noncomputable def q_51 : QFn := fun call lp args => match args with
  | [a0] =>
    TM.bind (pureT (lenT (Tryz.prog.underlying 38) a0)) fun t1 => TM.bind (pureT (convInt .u64 t1)) fun t2 => TM.bind (call 92 [t2]) fun t3 => TM.bind (call 91 [a0, (.int .i64 (0)), t1, t3]) fun t4 => TM.pure (.tuple #[])
  | _ => TM.fail
theorem q_51_eq (call : CallT) (lp : LoopT) (a0 : Value) : evBodyT Tryz.prog call lp ann_51 Tryz.f51 [a0] = q_51 call lp [a0] := by kernel_rfl
theorem q_51_ok : QOk Tryz.prog annS 51 q_51 := by
  refine ⟨Tryz.f51, by kernel_rfl, fun call lp args T r h => ?_⟩
  have ha : annS 51 = ann_51 := by kernel_rfl
  rw [ha]
  unfold q_51 at h
  split at h
  · rw [q_51_eq]; exact h
  · cases h

noncomputable def q_54 : QFn := fun call lp args => match args with
  | [a0, a1] =>
    TM.bind (stepT (M.bind (newRow none 117 [(.slice none 0 0), .nilFunc, (.slice none 0 0)]) fun b => M.pure (.pointer (some ⟨b, 0, none⟩))) (idsL none [])) fun t1 => TM.bind (liftT (binQ Tryz.prog .lss 3 a1 (.int .i64 (1)))) fun t2 => TM.bind (guardT (wantV t2 false) (pureT (M.pure a1))) fun t3 => TM.bind (guardT (wantV t2 false) (liftT (binQ Tryz.prog .gtr 3 t3 (.int .i64 (8))))) fun t4 => TM.bind (pureT (M.lift (pickV t2 (.bool true) t4))) fun t5 => condBT t5 (TM.bind (pureT (buildM Tryz.prog 117 [])) fun t6 => TM.bind (stepT (store 3 t1 t6) (idsL none [t1, t6])) fun t7 => TM.bind (pureT (load Tryz.prog 117 t1)) fun t8 => TM.pure (.tuple #[t8, (.bool false)])) (TM.bind (call 94 [(.int .i64 (24)), (.int .i64 (900))]) fun t9 => TM.bind (liftT (binQ Tryz.prog .eql 3 a0 (.int .i64 (1)))) fun t10 => condBT t10 (TM.bind (call 95 [(.string ⟨#[112, 117, 115, 104]⟩), (.int .i64 (900)), (.func (.func 96) #[] #[])]) fun t11 => TM.bind (call 97 [(.string ⟨#[112, 111, 112]⟩), (.func (.func 98) #[] #[])]) fun t12 => TM.bind (stepT (buildSliceM Tryz.prog none 115 2 [(0, t11), (1, t12)]) (idsL none [t11, t12])) fun t13 => TM.bind (pureT (buildM Tryz.prog 117 [(0, t13), (1, t9), (2, (.slice none 0 0))])) fun t14 => TM.bind (stepT (store 3 t1 t14) (idsL none [t1, t14])) fun t15 => TM.bind (pureT (load Tryz.prog 117 t1)) fun t16 => TM.pure (.tuple #[t16, (.bool true)])) (TM.bind (liftT (binQ Tryz.prog .eql 3 a0 (.int .i64 (2)))) fun t17 => condBT t17 (TM.bind (call 95 [(.string ⟨#[101, 110, 113]⟩), (.int .i64 (900)), (.func (.func 96) #[] #[])]) fun t18 => TM.bind (call 97 [(.string ⟨#[100, 101, 113]⟩), (.func (.func 99) #[] #[])]) fun t19 => TM.bind (stepT (buildSliceM Tryz.prog none 115 2 [(0, t18), (1, t19)]) (idsL none [t18, t19])) fun t20 => TM.bind (pureT (buildM Tryz.prog 117 [(0, t20), (1, t9), (2, (.slice none 0 0))])) fun t21 => TM.bind (stepT (store 3 t1 t21) (idsL none [t1, t21])) fun t22 => TM.bind (pureT (load Tryz.prog 117 t1)) fun t23 => TM.pure (.tuple #[t23, (.bool true)])) (TM.bind (liftT (binQ Tryz.prog .eql 3 a0 (.int .i64 (3)))) fun t24 => condBT t24 (TM.bind (call 100 [a1]) fun t25 => TM.bind (call 97 [(.string ⟨#[100, 101, 113]⟩), (.func (.func 99) #[] #[])]) fun t26 => TM.bind (stepT (buildSliceM Tryz.prog none 115 2 [(0, t25), (1, t26)]) (idsL none [t25, t26])) fun t27 => TM.bind (call 94 [a1, (.int .i64 (900))]) fun t28 => TM.bind (pureT (buildM Tryz.prog 117 [(0, t27), (1, t28), (2, (.slice none 0 0))])) fun t29 => TM.bind (stepT (store 3 t1 t29) (idsL none [t1, t29])) fun t30 => TM.bind (pureT (load Tryz.prog 117 t1)) fun t31 => TM.pure (.tuple #[t31, (.bool true)])) (TM.bind (liftT (binQ Tryz.prog .eql 3 a0 (.int .i64 (4)))) fun t32 => condBT t32 (TM.bind (call 95 [(.string ⟨#[112, 117, 115, 104]⟩), (.int .i64 (900)), (.func (.func 96) #[] #[])]) fun t33 => TM.bind (call 101 [(.int .i64 (1)), t33]) fun t34 => TM.bind (call 97 [(.string ⟨#[112, 111, 112]⟩), (.func (.func 98) #[] #[])]) fun t35 => TM.bind (call 101 [(.int .i64 (1)), t35]) fun t36 => TM.bind (call 97 [(.string ⟨#[115, 116, 101, 97, 108]⟩), (.func (.func 99) #[] #[])]) fun t37 => TM.bind (stepT (buildSliceM Tryz.prog none 115 3 [(0, t34), (1, t36), (2, t37)]) (idsL none [t34, t36, t37])) fun t38 => TM.bind (pureT (buildM Tryz.prog 117 [(0, t38), (1, t9), (2, (.slice none 0 0))])) fun t39 => TM.bind (stepT (store 3 t1 t39) (idsL none [t1, t39])) fun t40 => TM.bind (pureT (load Tryz.prog 117 t1)) fun t41 => TM.pure (.tuple #[t41, (.bool true)])) (TM.bind (liftT (binQ Tryz.prog .eql 3 a0 (.int .i64 (5)))) fun t42 => condBT t42 (TM.bind (call 95 [(.string ⟨#[112, 117, 116]⟩), (.int .i64 (900)), (.func (.func 102) #[] #[])]) fun t43 => TM.bind (call 97 [(.string ⟨#[116, 97, 107, 101]⟩), (.func (.func 99) #[] #[])]) fun t44 => TM.bind (stepT (buildSliceM Tryz.prog none 115 2 [(0, t43), (1, t44)]) (idsL none [t43, t44])) fun t45 => TM.bind (call 103 [(.int .i64 (900)), (.bool false)]) fun t46 => TM.bind (pureT (buildM Tryz.prog 117 [(0, t45), (1, t46), (2, (.slice none 0 0))])) fun t47 => TM.bind (stepT (store 3 t1 t47) (idsL none [t1, t47])) fun t48 => TM.bind (pureT (load Tryz.prog 117 t1)) fun t49 => TM.pure (.tuple #[t49, (.bool true)])) (TM.bind (liftT (binQ Tryz.prog .eql 3 a0 (.int .i64 (6)))) fun t50 => condBT t50 (TM.bind (call 95 [(.string ⟨#[112, 117, 116]⟩), (.int .i64 (900)), (.func (.func 102) #[] #[])]) fun t51 => TM.bind (call 104 []) fun t52 => TM.bind (stepT (buildSliceM Tryz.prog none 115 2 [(0, t51), (1, t52)]) (idsL none [t51, t52])) fun t53 => TM.bind (call 103 [(.int .i64 (900)), (.bool false)]) fun t54 => TM.bind (pureT (buildM Tryz.prog 117 [(0, t53), (1, t54), (2, (.slice none 0 0))])) fun t55 => TM.bind (stepT (store 3 t1 t55) (idsL none [t1, t55])) fun t56 => TM.bind (pureT (load Tryz.prog 117 t1)) fun t57 => TM.pure (.tuple #[t57, (.bool true)])) (TM.bind (liftT (binQ Tryz.prog .eql 3 a0 (.int .i64 (7)))) fun t58 => condBT t58 (TM.bind (call 105 [(.int .i64 (900))]) fun t59 => TM.bind (call 103 [(.int .i64 (900)), (.bool true)]) fun t60 => TM.bind (pureT (buildM Tryz.prog 117 [(0, t59), (1, t60), (2, (.slice none 0 0))])) fun t61 => TM.bind (stepT (store 3 t1 t61) (idsL none [t1, t61])) fun t62 => TM.bind (pureT (load Tryz.prog 117 t1)) fun t63 => TM.pure (.tuple #[t63, (.bool true)])) (TM.bind (liftT (binQ Tryz.prog .eql 3 a0 (.int .i64 (8)))) fun t64 => condBT t64 (TM.bind (call 105 [(.int .i64 (15))]) fun t65 => TM.bind (call 106 [(.string ⟨#[97, 108, 108]⟩), (.func (.func 107) #[] #[])]) fun t66 => TM.bind (stepT (buildSliceM Tryz.prog none 115 1 [(0, t66)]) (idsL none [t66])) fun t67 => TM.bind (stepT (append none 189 7 (Tryz.prog.bytesOf 189) t65 t67) (idsL none [t65, t67])) fun t68 => TM.bind (call 103 [(.int .i64 (15)), (.bool true)]) fun t69 => TM.bind (pureT (buildM Tryz.prog 117 [(0, t68), (1, t69), (2, (.slice none 0 0))])) fun t70 => TM.bind (stepT (store 3 t1 t70) (idsL none [t1, t70])) fun t71 => TM.bind (pureT (load Tryz.prog 117 t1)) fun t72 => TM.pure (.tuple #[t72, (.bool true)])) (TM.bind (liftT (binQ Tryz.prog .eql 3 a0 (.int .i64 (9)))) fun t73 => condBT t73 (TM.bind (call 108 []) fun t74 => TM.bind (stepT (buildSliceM Tryz.prog none 115 1 [(0, t74)]) (idsL none [t74])) fun t75 => TM.bind (call 103 [(.int .i64 (1000000000000000)), (.bool true)]) fun t76 => TM.bind (pureT (buildM Tryz.prog 117 [(0, t75), (1, t76), (2, (.slice none 0 0))])) fun t77 => TM.bind (stepT (store 3 t1 t77) (idsL none [t1, t77])) fun t78 => TM.bind (pureT (load Tryz.prog 117 t1)) fun t79 => TM.pure (.tuple #[t79, (.bool true)])) (TM.bind (liftT (binQ Tryz.prog .eql 3 a0 (.int .i64 (10)))) fun t80 => condBT t80 (TM.bind (call 95 [(.string ⟨#[119, 114, 105, 116, 101]⟩), (.int .i64 (900)), (.func (.func 109) #[] #[])]) fun t81 => TM.bind (stepT (M.bind (newRow none 189 [(.string ⟨#[]⟩), (.int .i64 (0)), (.int .i64 (0)), (.int .i64 (0)), (.int .i64 (0)), (.bool false), .nilFunc]) fun b => M.pure (.pointer (some ⟨b, 0, none⟩))) (idsL none [])) fun t82 => TM.bind (stepT (store 7 t82 t81) (idsL none [t82, t81])) fun t83 => TM.bind (reserveT 8) fun base84 => TM.bind (pureT (load Tryz.prog 189 t82)) fun t85 => TM.bind (call 106 [(.string ⟨#[114, 101, 97, 100]⟩), (.func (.func 110) #[] #[])]) fun t86 => TM.bind (againT (pureT (load Tryz.prog 189 t82)) t85) fun _ => TM.bind (call 111 [(.int .i64 (1)), (.int .i64 (0)), (.int .i64 (900))]) fun t87 => TM.bind (againT (pureT (load Tryz.prog 189 t82)) t85) fun _ => TM.bind (stepT (buildSliceM Tryz.prog (some (base84 + 2)) 115 2 [(0, t85), (1, t86)]) (idsL (some (base84 + 2)) [t85, t86])) fun t88 => TM.bind (stepT (buildSliceM Tryz.prog (some (base84 + 4)) 38 1 [(0, (.int .i64 (0)))]) (idsL (some (base84 + 4)) [(.int .i64 (0))])) fun t89 => TM.bind (pureT (buildM Tryz.prog 117 [(0, t88), (1, t87), (2, t89)])) fun t90 => TM.bind (stepT (store 3 t1 t90) (idsL (some (base84 + 6)) [t1, t90])) fun t91 => TM.bind (pureT (load Tryz.prog 117 t1)) fun t92 => TM.pure (.tuple #[t92, (.bool true)])) (TM.bind (liftT (binQ Tryz.prog .eql 3 a0 (.int .i64 (11)))) fun t93 => condBT t93 (TM.bind (call 112 []) fun t94 => TM.bind (call 111 [(.int .i64 (2)), (.int .i64 (0)), (.int .i64 (900))]) fun t95 => TM.bind (stepT (buildSliceM Tryz.prog none 38 2 [(0, (.int .i64 (0))), (1, (.int .i64 (0)))]) (idsL none [(.int .i64 (0)), (.int .i64 (0))])) fun t96 => TM.bind (pureT (buildM Tryz.prog 117 [(0, t94), (1, t95), (2, t96)])) fun t97 => TM.bind (stepT (store 3 t1 t97) (idsL none [t1, t97])) fun t98 => TM.bind (pureT (load Tryz.prog 117 t1)) fun t99 => TM.pure (.tuple #[t99, (.bool true)])) (TM.bind (liftT (binQ Tryz.prog .eql 3 a0 (.int .i64 (12)))) fun t100 => condBT t100 (TM.bind (call 113 []) fun t101 => TM.bind (stepT (buildSliceM Tryz.prog none 38 8 [(0, (.int .i64 (0))), (1, (.int .i64 (1))), (2, (.int .i64 (2))), (3, (.int .i64 (3))), (4, (.int .i64 (4))), (5, (.int .i64 (5))), (6, (.int .i64 (6))), (7, (.int .i64 (7)))]) (idsL none [(.int .i64 (0)), (.int .i64 (1)), (.int .i64 (2)), (.int .i64 (3)), (.int .i64 (4)), (.int .i64 (5)), (.int .i64 (6)), (.int .i64 (7))])) fun t102 => TM.bind (pureT (buildM Tryz.prog 117 [(0, t101), (1, (.func (.func 114) #[] #[])), (2, t102)])) fun t103 => TM.bind (stepT (store 3 t1 t103) (idsL none [t1, t103])) fun t104 => TM.bind (pureT (load Tryz.prog 117 t1)) fun t105 => TM.pure (.tuple #[t105, (.bool true)])) (TM.bind (liftT (binQ Tryz.prog .eql 3 a0 (.int .i64 (13)))) fun t106 => condBT t106 (TM.bind (call 115 []) fun t107 => TM.bind (call 111 [(.int .i64 (2)), (.int .i64 (0)), (.int .i64 (99))]) fun t108 => TM.bind (stepT (buildSliceM Tryz.prog none 38 2 [(0, (.int .i64 (0))), (1, (.int .i64 (0)))]) (idsL none [(.int .i64 (0)), (.int .i64 (0))])) fun t109 => TM.bind (pureT (buildM Tryz.prog 117 [(0, t107), (1, t108), (2, t109)])) fun t110 => TM.bind (stepT (store 3 t1 t110) (idsL none [t1, t110])) fun t111 => TM.bind (pureT (load Tryz.prog 117 t1)) fun t112 => TM.pure (.tuple #[t112, (.bool true)])) (TM.bind (liftT (binQ Tryz.prog .eql 3 a0 (.int .i64 (14)))) fun t113 => condBT t113 (TM.bind (call 116 [(.int .i64 (1)), (.int .i64 (99)), (.int .i64 (3)), (.bool false)]) fun t114 => TM.bind (call 106 [(.string ⟨#[103, 101, 116]⟩), (.func (.func 117) #[] #[])]) fun t115 => TM.bind (stepT (buildSliceM Tryz.prog none 115 2 [(0, t114), (1, t115)]) (idsL none [t114, t115])) fun t116 => TM.bind (call 111 [(.int .i64 (1)), (.int .i64 (0)), (.int .i64 (1000000))]) fun t117 => TM.bind (stepT (buildSliceM Tryz.prog none 38 1 [(0, (.int .i64 (0)))]) (idsL none [(.int .i64 (0))])) fun t118 => TM.bind (pureT (buildM Tryz.prog 117 [(0, t116), (1, t117), (2, t118)])) fun t119 => TM.bind (stepT (store 3 t1 t119) (idsL none [t1, t119])) fun t120 => TM.bind (pureT (load Tryz.prog 117 t1)) fun t121 => TM.pure (.tuple #[t121, (.bool true)])) (TM.bind (liftT (binQ Tryz.prog .eql 3 a0 (.int .i64 (15)))) fun t122 => condBT t122 (TM.bind (call 118 []) fun t123 => TM.bind (stepT (buildSliceM Tryz.prog none 38 1 [(0, (.int .i64 (0)))]) (idsL none [(.int .i64 (0))])) fun t124 => TM.bind (pureT (buildM Tryz.prog 117 [(0, t123), (1, (.func (.func 119) #[] #[])), (2, t124)])) fun t125 => TM.bind (stepT (store 3 t1 t125) (idsL none [t1, t125])) fun t126 => TM.bind (pureT (load Tryz.prog 117 t1)) fun t127 => TM.pure (.tuple #[t127, (.bool true)])) (TM.bind (liftT (binQ Tryz.prog .eql 3 a0 (.int .i64 (16)))) fun t128 => condBT t128 (TM.bind (call 116 [(.int .i64 (-900)), (.int .i64 (900)), (.int .i64 (4)), (.bool true)]) fun t129 => TM.bind (call 106 [(.string ⟨#[103, 101, 116]⟩), (.func (.func 117) #[] #[])]) fun t130 => TM.bind (stepT (buildSliceM Tryz.prog none 115 2 [(0, t129), (1, t130)]) (idsL none [t129, t130])) fun t131 => TM.bind (call 111 [(.int .i64 (1)), (.int .i64 (-1000000)), (.int .i64 (1000000))]) fun t132 => TM.bind (stepT (buildSliceM Tryz.prog none 38 1 [(0, (.int .i64 (0)))]) (idsL none [(.int .i64 (0))])) fun t133 => TM.bind (pureT (buildM Tryz.prog 117 [(0, t131), (1, t132), (2, t133)])) fun t134 => TM.bind (stepT (store 3 t1 t134) (idsL none [t1, t134])) fun t135 => TM.bind (pureT (load Tryz.prog 117 t1)) fun t136 => TM.pure (.tuple #[t136, (.bool true)])) (TM.bind (pureT (buildM Tryz.prog 117 [])) fun t137 => TM.bind (stepT (store 3 t1 t137) (idsL none [t1, t137])) fun t138 => TM.bind (pureT (load Tryz.prog 117 t1)) fun t139 => TM.pure (.tuple #[t139, (.bool false)]))))))))))))))))))
  | _ => TM.fail
theorem q_54_eq (call : CallT) (lp : LoopT) (a0 : Value) (a1 : Value) : evBodyT Tryz.prog call lp ann_54 Tryz.f54 [a0, a1] = q_54 call lp [a0, a1] := by kernel_rfl
theorem q_54_ok : QOk Tryz.prog annS 54 q_54 := by
  refine ⟨Tryz.f54, by kernel_rfl, fun call lp args T r h => ?_⟩
  have ha : annS 54 = ann_54 := by kernel_rfl
  rw [ha]
  unfold q_54 at h
  split at h
  · rw [q_54_eq]; exact h
  · cases h

noncomputable def q_55 : QFn := fun call lp args => match args with
  | [a0, a1] =>
    TM.bind (call 120 [a0, a1]) fun t1 => TM.bind (liftT (binQ Tryz.prog .geq 3 t1 (.int .i64 (0)))) fun t2 => TM.pure t2
  | _ => TM.fail
theorem q_55_eq (call : CallT) (lp : LoopT) (a0 : Value) (a1 : Value) : evBodyT Tryz.prog call lp ann_55 Tryz.f55 [a0, a1] = q_55 call lp [a0, a1] := by kernel_rfl
theorem q_55_ok : QOk Tryz.prog annS 55 q_55 := by
  refine ⟨Tryz.f55, by kernel_rfl, fun call lp args T r h => ?_⟩
  have ha : annS 55 = ann_55 := by kernel_rfl
  rw [ha]
  unfold q_55 at h
  split at h
  · rw [q_55_eq]; exact h
  · cases h

noncomputable def q_56 : QFn := fun call lp args => match args with
  | [a0, a1, a2] =>
    TM.bind (stepT (box none 44 a0) (idsL none [a0])) fun t1 => TM.bind (pureT (load Tryz.prog 75 a1)) fun t2 => TM.bind (pureT (load Tryz.prog 3 a2)) fun t3 => TM.bind (pureT (load Tryz.prog 44 t1)) fun t4 => TM.bind (call 57 [t2, t3, t4]) fun t5 => TM.bind (pureT (M.lift (unV .not t5))) fun t6 => TM.pure t6
  | _ => TM.fail
theorem q_56_eq (call : CallT) (lp : LoopT) (a0 : Value) (a1 : Value) (a2 : Value) : evBodyT Tryz.prog call lp ann_56 Tryz.f56 [a0, a1, a2] = q_56 call lp [a0, a1, a2] := by kernel_rfl
theorem q_56_ok : QOk Tryz.prog annS 56 q_56 := by
  refine ⟨Tryz.f56, by kernel_rfl, fun call lp args T r h => ?_⟩
  have ha : annS 56 = ann_56 := by kernel_rfl
  rw [ha]
  unfold q_56 at h
  split at h
  · rw [q_56_eq]; exact h
  · cases h

noncomputable def q_57 : QFn := fun call lp args => match args with
  | [a0, a1, a2] =>
    TM.bind (stepT (box none 75 a0) (idsL none [a0])) fun t1 => TM.bind (stepT (box none 44 a2) (idsL none [a2])) fun t2 => TM.bind (pureT (M.lift (addP 3 t1))) fun t3 => TM.bind (pureT (load Tryz.prog 73 t3)) fun t4 => TM.bind (pureT (M.pure (.func (.func 122) #[] #[t2]))) fun t5 => TM.bind (call 121 [t4, t5]) fun t6 => TM.bind (liftT (binQ Tryz.prog .lss 3 t6 (.int .i64 (0)))) fun t7 => TM.bind (guardT (wantV t7 false) (pureT (load Tryz.prog 75 t1))) fun t8 => TM.bind (guardT (wantV t7 false) (pureT (M.pure a1))) fun t9 => TM.bind (guardT (wantV t7 false) (pureT (M.lift (addP 0 t2)))) fun t10 => TM.bind (guardT (wantV t7 false) (pureT (load Tryz.prog 9 t10))) fun t11 => TM.bind (guardT (wantV t7 false) (call 123 [t8, t9, t11])) fun t12 => TM.bind (guardT (wantV t7 false) (pureT (M.lift (unV .not t12)))) fun t13 => TM.bind (pureT (M.lift (pickV t7 (.bool true) t13))) fun t14 => condBT t14 (TM.pure (.bool false)) (TM.bind (pureT (M.pure (.func (.func 124) #[] #[t1]))) fun t15 => TM.bind (reserveT 25) fun base16 => TM.bind (pureT (M.lift (addP 1 t2))) fun t17 => TM.bind (pureT (load Tryz.prog 3 t17)) fun t18 => TM.bind (pureT (M.lift (addP 3 t1))) fun t19 => TM.bind (pureT (load Tryz.prog 73 t19)) fun t20 => TM.bind (pureT (M.lift (indexS 2 t20 t6))) fun t21 => TM.bind (pureT (M.lift (addP 1 t21))) fun t22 => TM.bind (pureT (load Tryz.prog 3 t22)) fun t23 => TM.bind (liftT (binQ Tryz.prog .gtr 3 t23 (.int .i64 (0)))) fun t24 => TM.bind (callVT call t15 [t18, t24]) fun t25 => TM.bind (guardT (wantV t25 true) (pureT (M.pure t15))) fun t26 => TM.bind (guardT (wantV t25 true) (pureT (M.lift (addP 2 t2)))) fun t27 => TM.bind (guardT (wantV t25 true) (pureT (load Tryz.prog 3 t27))) fun t28 => TM.bind (guardT (wantV t25 true) (pureT (M.lift (addP 3 t1)))) fun t29 => TM.bind (guardT (wantV t25 true) (pureT (load Tryz.prog 73 t29))) fun t30 => TM.bind (guardT (wantV t25 true) (pureT (M.pure t6))) fun t31 => TM.bind (guardT (wantV t25 true) (pureT (M.lift (indexS 2 t30 t31)))) fun t32 => TM.bind (guardT (wantV t25 true) (pureT (M.lift (addP 1 t32)))) fun t33 => TM.bind (guardT (wantV t25 true) (pureT (load Tryz.prog 3 t33))) fun t34 => TM.bind (guardT (wantV t25 true) (liftT (binQ Tryz.prog .gtr 3 t34 (.int .i64 (1))))) fun t35 => TM.bind (guardT (wantV t25 true) (callVT call t26 [t28, t35])) fun t36 => TM.bind (pureT (M.lift (pickV t25 t36 (.bool false)))) fun t37 => TM.pure t37)
  | _ => TM.fail
theorem q_57_eq (call : CallT) (lp : LoopT) (a0 : Value) (a1 : Value) (a2 : Value) : evBodyT Tryz.prog call lp ann_57 Tryz.f57 [a0, a1, a2] = q_57 call lp [a0, a1, a2] := by kernel_rfl
theorem q_57_ok : QOk Tryz.prog annS 57 q_57 := by
  refine ⟨Tryz.f57, by kernel_rfl, fun call lp args T r h => ?_⟩
  have ha : annS 57 = ann_57 := by kernel_rfl
  rw [ha]
  unfold q_57 at h
  split at h
  · rw [q_57_eq]; exact h
  · cases h

noncomputable def q_58 : QFn := fun call lp args => match args with
  | [] =>
    TM.bind (stepT (buildSliceM Tryz.prog none 23 6 [(0, (.string ⟨#[108, 101, 97, 107]⟩)), (1, (.string ⟨#[104, 97, 122, 97, 114, 100]⟩)), (2, (.string ⟨#[101, 112, 111, 99, 104]⟩)), (3, (.string ⟨#[115, 112, 97, 110]⟩)), (4, (.string ⟨#[99, 111, 117, 110, 116, 101, 100]⟩)), (5, (.string ⟨#[113, 117, 105, 101, 116]⟩))]) (idsL none [(.string ⟨#[108, 101, 97, 107]⟩), (.string ⟨#[104, 97, 122, 97, 114, 100]⟩), (.string ⟨#[101, 112, 111, 99, 104]⟩), (.string ⟨#[115, 112, 97, 110]⟩), (.string ⟨#[99, 111, 117, 110, 116, 101, 100]⟩), (.string ⟨#[113, 117, 105, 101, 116]⟩)])) fun t1 => TM.pure t1
  | _ => TM.fail
theorem q_58_eq (call : CallT) (lp : LoopT) : evBodyT Tryz.prog call lp ann_58 Tryz.f58 [] = q_58 call lp [] := by kernel_rfl
theorem q_58_ok : QOk Tryz.prog annS 58 q_58 := by
  refine ⟨Tryz.f58, by kernel_rfl, fun call lp args T r h => ?_⟩
  have ha : annS 58 = ann_58 := by kernel_rfl
  rw [ha]
  unfold q_58 at h
  split at h
  · rw [q_58_eq]; exact h
  · cases h

noncomputable def q_59 : QFn := fun call lp args => match args with
  | [a0] =>
    TM.bind (liftT (binQ Tryz.prog .lss 3 a0 (.int .i64 (0)))) fun t1 => TM.bind (guardT (wantV t1 false) (pureT (M.pure a0))) fun t2 => TM.bind (guardT (wantV t1 false) (liftT (binQ Tryz.prog .rem 3 t2 (.int .i64 (10))))) fun t3 => TM.bind (guardT (wantV t1 false) (liftT (binQ Tryz.prog .geq 3 t3 (.int .i64 (4))))) fun t4 => TM.bind (pureT (M.lift (pickV t1 (.bool true) t4))) fun t5 => TM.bind (guardT (wantV t5 false) (pureT (M.pure a0))) fun t6 => TM.bind (guardT (wantV t5 false) (liftT (binQ Tryz.prog .geq 3 t6 (.int .i64 (14))))) fun t7 => TM.bind (pureT (M.lift (pickV t5 (.bool true) t7))) fun t8 => TM.pure t8
  | _ => TM.fail
theorem q_59_eq (call : CallT) (lp : LoopT) (a0 : Value) : evBodyT Tryz.prog call lp ann_59 Tryz.f59 [a0] = q_59 call lp [a0] := by kernel_rfl
theorem q_59_ok : QOk Tryz.prog annS 59 q_59 := by
  refine ⟨Tryz.f59, by kernel_rfl, fun call lp args T r h => ?_⟩
  have ha : annS 59 = ann_59 := by kernel_rfl
  rw [ha]
  unfold q_59 at h
  split at h
  · rw [q_59_eq]; exact h
  · cases h

noncomputable def q_60 : QFn := fun call lp args => match args with
  | [a0, a1] =>
    TM.bind (call 125 [a0, a1]) fun t1 => TM.bind (liftT (binQ Tryz.prog .geq 3 t1 (.int .i64 (0)))) fun t2 => TM.pure t2
  | _ => TM.fail
theorem q_60_eq (call : CallT) (lp : LoopT) (a0 : Value) (a1 : Value) : evBodyT Tryz.prog call lp ann_60 Tryz.f60 [a0, a1] = q_60 call lp [a0, a1] := by kernel_rfl
theorem q_60_ok : QOk Tryz.prog annS 60 q_60 := by
  refine ⟨Tryz.f60, by kernel_rfl, fun call lp args T r h => ?_⟩
  have ha : annS 60 = ann_60 := by kernel_rfl
  rw [ha]
  unfold q_60 at h
  split at h
  · rw [q_60_eq]; exact h
  · cases h

noncomputable def q_61 : QFn := fun call lp args => match args with
  | [a0] =>
    TM.bind (stepT (M.bind (newRow none 83 [(.string ⟨#[]⟩), (.int .i64 (0)), (.slice none 0 0)]) fun b => M.pure (.pointer (some ⟨b, 0, none⟩))) (idsL none [])) fun t1 => TM.bind (call 126 [a0, (.string ⟨#[10]⟩)]) fun t2 => TM.bind (pureT (lenT (Tryz.prog.underlying 23) t2)) fun t3 => TM.bind (liftT (binQ Tryz.prog .sub 3 t3 (.int .i64 (1)))) fun t4 => TM.bind (pureT (M.lift (indexS 1 t2 t4))) fun t5 => TM.bind (pureT (load Tryz.prog 9 t5)) fun t6 => TM.bind (liftT (binQ Tryz.prog .eql 9 t6 (.string ⟨#[]⟩))) fun t7 => TM.bind (condBT t7 (TM.bind (pureT (lenT (Tryz.prog.underlying 23) t2)) fun t8 => TM.bind (liftT (binQ Tryz.prog .sub 3 t8 (.int .i64 (1)))) fun t9 => TM.bind (pureT (M.lift (sliceSl 1 t2 none (some t9) none))) fun t10 => TM.pure (.normal, [t1, t10])) (TM.pure (.normal, [t1, t2])) : TM R) fun r11 => onlyNT r11.1 (TM.bind (stepT (M.bind (newAt none (.map [] [] 0)) fun b => M.pure (.map (some b))) (idsL none [])) fun t12 => TM.bind (pureT (buildM Tryz.prog 212 [(4, t12)])) fun t13 => TM.bind (stepT (box none 212 t13) (idsL none [t13])) fun t14 => TM.bind (call 127 []) fun t15 => TM.bind (pureT (lenT (Tryz.prog.underlying 213) t15)) fun t16 => TM.bind (lp (fun vs17 => TM.bind (liftT (binQ Tryz.prog .lss 3 (vs17.getD 5 junk) (vs17.getD 4 junk))) fun t18 => condBT t18 (TM.bind (TM.bind (pureT (M.lift (indexS 2 (vs17.getD 3 junk) (vs17.getD 5 junk)))) fun t19 => TM.bind (pureT (load Tryz.prog 216 t19)) fun t20 => TM.bind (stepT (M.bind (newRow none 216 [(.string ⟨#[]⟩), (.string ⟨#[]⟩)]) fun b => M.pure (.pointer (some ⟨b, 0, none⟩))) (idsL none [])) fun t21 => TM.bind (stepT (store 2 t21 t20) (idsL none [t21, t20])) fun t22 => TM.bind (reserveT 8) fun base23 => TM.bind (pureT (M.lift (nilChk (vs17.getD 2 junk)))) fun t24 => TM.bind (pureT (M.lift (addP 6 t24))) fun t25 => TM.bind (pureT (load Tryz.prog 209 t25)) fun t26 => TM.bind (pureT (M.lift (addP 0 t21))) fun t27 => TM.bind (pureT (load Tryz.prog 9 t27)) fun t28 => TM.bind (stepT (updateM .str t26 t28 (vs17.getD 5 junk)) (idsL (some (base23 + 7)) [t26, t28, (vs17.getD 5 junk)])) fun t29 => TM.pure (.normal, [(vs17.getD 0 junk), (vs17.getD 1 junk), (vs17.getD 2 junk), (vs17.getD 3 junk), (vs17.getD 4 junk), (vs17.getD 5 junk)]) : TM R) fun r30 => onlyNT (unblk 1 r30.1) (TM.bind (liftT (binQ Tryz.prog .add 3 (r30.2.getD 5 junk) (.int .i64 (1)))) fun t31 => TM.pure (.normal, [(r30.2.getD 0 junk), (r30.2.getD 1 junk), (r30.2.getD 2 junk), (r30.2.getD 3 junk), (r30.2.getD 4 junk), t31]))) (TM.pure (.exit 0, [(vs17.getD 0 junk), (vs17.getD 1 junk), (vs17.getD 2 junk), (vs17.getD 3 junk), (vs17.getD 4 junk), (vs17.getD 5 junk)]))) [(r11.2.getD 0 junk), (r11.2.getD 1 junk), t14, t15, t16, (.int .i64 (0))] : TM R) fun r32 => onlyNT (unblk 0 r32.1) (TM.bind (pureT (lenT (Tryz.prog.underlying 23) (r32.2.getD 1 junk))) fun t33 => TM.bind (lp (fun vs34 => TM.bind (liftT (binQ Tryz.prog .lss 3 (vs34.getD 7 junk) (vs34.getD 6 junk))) fun t35 => condBT t35 (TM.bind (pureT (M.lift (indexS 1 (vs34.getD 5 junk) (vs34.getD 7 junk)))) fun t36 => TM.bind (pureT (load Tryz.prog 9 t36)) fun t37 => TM.bind (call 128 [t37, (.string ⟨#[59]⟩)]) fun t38 => TM.bind (pureT (M.lift (extr 0 t38))) fun t39 => TM.bind (pureT (M.lift (extr 1 t38))) fun t40 => TM.bind (pureT (M.lift (extr 2 t38))) fun t41 => TM.bind (call 129 [t39, (.func (.func 130) #[] #[])]) fun t42 => TM.bind (pureT (lenT (Tryz.prog.underlying 23) t42)) fun t43 => TM.bind (liftT (binQ Tryz.prog .gtr 3 t43 (.int .i64 (0)))) fun t44 => TM.bind (guardT (wantV t44 true) (pureT (M.pure (vs34.getD 4 junk)))) fun t45 => TM.bind (guardT (wantV t44 true) (pureT (M.pure t42))) fun t46 => TM.bind (guardT (wantV t44 true) (call 131 [t45, t46])) fun t47 => TM.bind (guardT (wantV t44 true) (pureT (M.lift (unV .not t47)))) fun t48 => TM.bind (pureT (M.lift (pickV t44 t48 (.bool false)))) fun t49 => condBT t49 (TM.bind (pureT (buildM Tryz.prog 83 [])) fun t50 => TM.bind (liftT (binQ Tryz.prog .add 3 (vs34.getD 7 junk) (.int .i64 (1)))) fun t51 => TM.bind (stepT (store 3 (vs34.getD 0 junk) t50) (idsL none [(vs34.getD 0 junk), t50])) fun t52 => TM.pure (.ret, [(vs34.getD 0 junk), t51, (.int .i64 (4)), (vs34.getD 3 junk), (vs34.getD 4 junk), (vs34.getD 5 junk), (vs34.getD 6 junk), (vs34.getD 7 junk)])) (TM.bind (liftT (binQ Tryz.prog .add 3 (vs34.getD 7 junk) (.int .i64 (1)))) fun t53 => TM.pure (.normal, [(vs34.getD 0 junk), (vs34.getD 1 junk), (vs34.getD 2 junk), (vs34.getD 3 junk), (vs34.getD 4 junk), (vs34.getD 5 junk), (vs34.getD 6 junk), t53]))) (TM.pure (.exit 2, [(vs34.getD 0 junk), (vs34.getD 1 junk), (vs34.getD 2 junk), (vs34.getD 3 junk), (vs34.getD 4 junk), (vs34.getD 5 junk), (vs34.getD 6 junk), (vs34.getD 7 junk)]))) [(r32.2.getD 0 junk), junk, junk, (r32.2.getD 1 junk), (r32.2.getD 2 junk), (r32.2.getD 1 junk), t33, (.int .i64 (0))] : TM R) fun r54 => exKT (unblk 2 r54.1) (TM.bind (pureT (M.lift (nilChk (r54.2.getD 4 junk)))) fun t56 => TM.bind (pureT (M.lift (addP 3 t56))) fun t57 => TM.bind (pureT (load Tryz.prog 3 t57)) fun t58 => TM.bind (liftT (binQ Tryz.prog .lss 3 t58 (.int .i64 (2)))) fun t59 => condBT t59 (TM.bind (pureT (buildM Tryz.prog 83 [])) fun t60 => TM.bind (pureT (lenT (Tryz.prog.underlying 23) (r54.2.getD 3 junk))) fun t61 => TM.bind (liftT (binQ Tryz.prog .add 3 t61 (.int .i64 (1)))) fun t62 => TM.bind (stepT (store 3 (r54.2.getD 0 junk) t60) (idsL none [(r54.2.getD 0 junk), t60])) fun t63 => TM.bind (pureT (load Tryz.prog 83 (r54.2.getD 0 junk))) fun t64 => TM.pure (.tuple #[t64, t62, (.int .i64 (4))])) (TM.bind (call 132 [(r54.2.getD 4 junk)]) fun t65 => TM.bind (pureT (M.lift (nilChk (r54.2.getD 4 junk)))) fun t66 => TM.bind (pureT (M.lift (addP 7 t66))) fun t67 => TM.bind (pureT (load Tryz.prog 32 t67)) fun t68 => TM.bind (liftT (binQ Tryz.prog .eql 32 t68 (.int .i64 (0)))) fun t69 => TM.bind (guardT (wantV t69 true) (pureT (M.pure (r54.2.getD 4 junk)))) fun t70 => TM.bind (guardT (wantV t69 true) (pureT (M.lift (nilChk t70)))) fun t71 => TM.bind (guardT (wantV t69 true) (pureT (M.lift (addP 8 t71)))) fun t72 => TM.bind (guardT (wantV t69 true) (pureT (load Tryz.prog 4 t72))) fun t73 => TM.bind (pureT (M.lift (pickV t69 t73 (.bool false)))) fun t74 => TM.bind (condBT t74 (TM.bind (pureT (M.lift (nilChk (r54.2.getD 4 junk)))) fun t75 => TM.bind (pureT (M.lift (addP 7 t75))) fun t76 => TM.bind (stepT (store 1 t76 (.int .i64 (6))) (idsL none [t76, (.int .i64 (6))])) fun t77 => TM.pure (.normal, [(r54.2.getD 0 junk), (r54.2.getD 4 junk)])) (TM.pure (.normal, [(r54.2.getD 0 junk), (r54.2.getD 4 junk)])) : TM R) fun r78 => onlyNT r78.1 (TM.bind (pureT (M.lift (nilChk (r78.2.getD 1 junk)))) fun t79 => TM.bind (pureT (M.lift (addP 7 t79))) fun t80 => TM.bind (pureT (load Tryz.prog 32 t80)) fun t81 => TM.bind (liftT (binQ Tryz.prog .eql 32 t81 (.int .i64 (0)))) fun t82 => TM.bind (condBT t82 (TM.bind (pureT (M.lift (nilChk (r78.2.getD 1 junk)))) fun t83 => TM.bind (pureT (M.lift (addP 0 t83))) fun t84 => TM.bind (pureT (load Tryz.prog 83 t84)) fun t85 => TM.bind (call 62 [t85]) fun t86 => TM.bind (pureT (M.lift (nilChk (r78.2.getD 1 junk)))) fun t87 => TM.bind (pureT (M.lift (addP 7 t87))) fun t88 => TM.bind (stepT (store 1 t88 t86) (idsL none [t88, t86])) fun t89 => TM.pure (.normal, [(r78.2.getD 0 junk), (r78.2.getD 1 junk)])) (TM.pure (.normal, [(r78.2.getD 0 junk), (r78.2.getD 1 junk)])) : TM R) fun r90 => onlyNT r90.1 (TM.bind (pureT (M.lift (nilChk (r90.2.getD 1 junk)))) fun t91 => TM.bind (pureT (M.lift (addP 7 t91))) fun t92 => TM.bind (pureT (load Tryz.prog 32 t92)) fun t93 => TM.bind (liftT (binQ Tryz.prog .neq 32 t93 (.int .i64 (0)))) fun t94 => condBT t94 (TM.bind (reserveT 8) fun base95 => TM.bind (pureT (buildM Tryz.prog 83 [])) fun t96 => TM.bind (pureT (M.lift (nilChk (r90.2.getD 1 junk)))) fun t97 => TM.bind (pureT (M.lift (addP 7 t97))) fun t98 => TM.bind (pureT (load Tryz.prog 32 t98)) fun t99 => TM.bind (stepT (store 3 (r90.2.getD 0 junk) t96) (idsL (some (base95 + 5)) [(r90.2.getD 0 junk), t96])) fun t100 => TM.bind (againT (pureT (load Tryz.prog 32 t98)) t99) fun _ => TM.bind (pureT (load Tryz.prog 83 (r90.2.getD 0 junk))) fun t101 => TM.pure (.tuple #[t101, (.int .i64 (0)), t99])) (TM.bind (pureT (M.lift (nilChk (r90.2.getD 1 junk)))) fun t102 => TM.bind (pureT (M.lift (addP 0 t102))) fun t103 => TM.bind (pureT (load Tryz.prog 83 t103)) fun t104 => TM.bind (stepT (store 3 (r90.2.getD 0 junk) t104) (idsL none [(r90.2.getD 0 junk), t104])) fun t105 => TM.bind (pureT (load Tryz.prog 83 (r90.2.getD 0 junk))) fun t106 => TM.pure (.tuple #[t106, (.int .i64 (0)), (.int .i64 (0))])))))) (TM.bind (pureT (load Tryz.prog 83 (r54.2.getD 0 junk))) fun t107 => TM.pure (.tuple #[t107, (r54.2.getD 1 junk), (r54.2.getD 2 junk)])) (fun j55 => TM.fail)))
  | _ => TM.fail
theorem q_61_eq (call : CallT) (lp : LoopT) (a0 : Value) : evBodyT Tryz.prog call lp ann_61 Tryz.f61 [a0] = q_61 call lp [a0] := by kernel_rfl
theorem q_61_ok : QOk Tryz.prog annS 61 q_61 := by
  refine ⟨Tryz.f61, by kernel_rfl, fun call lp args T r h => ?_⟩
  have ha : annS 61 = ann_61 := by kernel_rfl
  rw [ha]
  unfold q_61 at h
  split at h
  · rw [q_61_eq]; exact h
  · cases h

noncomputable def q_62 : QFn := fun call lp args => match args with
  | [a0] =>
    TM.bind (stepT (box none 83 a0) (idsL none [a0])) fun t1 => TM.bind (pureT (M.lift (addP 1 t1))) fun t2 => TM.bind (pureT (load Tryz.prog 3 t2)) fun t3 => TM.bind (liftT (binQ Tryz.prog .gtr 3 t3 (.int .i64 (16)))) fun t4 => TM.bind (guardT (wantV t4 false) (pureT (M.lift (addP 2 t1)))) fun t5 => TM.bind (guardT (wantV t4 false) (pureT (load Tryz.prog 81 t5))) fun t6 => TM.bind (guardT (wantV t4 false) (pureT (lenT (Tryz.prog.underlying 81) t6))) fun t7 => TM.bind (guardT (wantV t4 false) (liftT (binQ Tryz.prog .gtr 3 t7 (.int .i64 (6))))) fun t8 => TM.bind (pureT (M.lift (pickV t4 (.bool true) t8))) fun t9 => TM.bind (guardT (wantV t9 false) (pureT (M.lift (addP 2 t1)))) fun t10 => TM.bind (guardT (wantV t9 false) (pureT (load Tryz.prog 81 t10))) fun t11 => TM.bind (guardT (wantV t9 false) (call 133 [t11, (.func (.func 134) #[] #[])])) fun t12 => TM.bind (pureT (M.lift (pickV t9 (.bool true) t12))) fun t13 => condBT t13 (TM.pure (.int .i64 (2))) (TM.bind (pureT (M.lift (addP 0 t1))) fun t14 => TM.bind (pureT (load Tryz.prog 9 t14)) fun t15 => TM.bind (call 135 [t15]) fun t16 => TM.bind (pureT (M.lift (unV .not t16))) fun t17 => TM.bind (guardT (wantV t17 false) (pureT (M.lift (addP 2 t1)))) fun t18 => TM.bind (guardT (wantV t17 false) (pureT (load Tryz.prog 81 t18))) fun t19 => TM.bind (guardT (wantV t17 false) (call 133 [t19, (.func (.func 136) #[] #[])])) fun t20 => TM.bind (pureT (M.lift (pickV t17 (.bool true) t20))) fun t21 => condBT t21 (TM.pure (.int .i64 (5))) (TM.bind (stepT (M.bind (newAt none (.map [] [] 0)) fun b => M.pure (.map (some b))) (idsL none [])) fun t22 => TM.bind (pureT (M.lift (addP 2 t1))) fun t23 => TM.bind (pureT (load Tryz.prog 81 t23)) fun t24 => TM.bind (pureT (lenT (Tryz.prog.underlying 81) t24)) fun t25 => TM.bind (lp (fun vs26 => TM.bind (liftT (binQ Tryz.prog .lss 3 (vs26.getD 5 junk) (vs26.getD 4 junk))) fun t27 => condBT t27 (TM.bind (pureT (M.lift (indexS 2 (vs26.getD 3 junk) (vs26.getD 5 junk)))) fun t28 => TM.bind (pureT (load Tryz.prog 151 t28)) fun t29 => TM.bind (stepT (M.bind (newRow none 151 [(.string ⟨#[]⟩), (.slice none 0 0)]) fun b => M.pure (.pointer (some ⟨b, 0, none⟩))) (idsL none [])) fun t30 => TM.bind (stepT (store 2 t30 t29) (idsL none [t30, t29])) fun t31 => TM.bind (pureT (M.lift (addP 0 t30))) fun t32 => TM.bind (pureT (load Tryz.prog 9 t32)) fun t33 => TM.bind (pureT (lookupM .str (.bool false) false (vs26.getD 2 junk) t33)) fun t34 => condBT t34 (TM.pure (.ret, [(vs26.getD 0 junk), (.int .i64 (6)), (vs26.getD 2 junk), (vs26.getD 3 junk), (vs26.getD 4 junk), (vs26.getD 5 junk)])) (TM.bind (pureT (M.lift (addP 0 t30))) fun t35 => TM.bind (pureT (load Tryz.prog 9 t35)) fun t36 => TM.bind (stepT (updateM .str (vs26.getD 2 junk) t36 (.bool true)) (idsL none [(vs26.getD 2 junk), t36, (.bool true)])) fun t37 => TM.bind (liftT (binQ Tryz.prog .add 3 (vs26.getD 5 junk) (.int .i64 (1)))) fun t38 => TM.pure (.normal, [(vs26.getD 0 junk), (vs26.getD 1 junk), (vs26.getD 2 junk), (vs26.getD 3 junk), (vs26.getD 4 junk), t38]))) (TM.pure (.exit 0, [(vs26.getD 0 junk), (vs26.getD 1 junk), (vs26.getD 2 junk), (vs26.getD 3 junk), (vs26.getD 4 junk), (vs26.getD 5 junk)]))) [t1, (.int .i64 (0)), t22, t24, t25, (.int .i64 (0))] : TM R) fun r39 => exKT (unblk 0 r39.1) (TM.bind (stepT (deleteM .str (r39.2.getD 2 junk) (.string ⟨#[115, 116, 97, 114, 116]⟩)) (idsL none [(r39.2.getD 2 junk), (.string ⟨#[115, 116, 97, 114, 116]⟩)])) fun t41 => TM.bind (pureT (M.lift (addP 1 (r39.2.getD 0 junk)))) fun t42 => TM.bind (pureT (load Tryz.prog 3 t42)) fun t43 => TM.bind (liftT (binQ Tryz.prog .lss 3 t43 (.int .i64 (0)))) fun t44 => TM.bind (guardT (wantV t44 false) (pureT (M.pure (r39.2.getD 2 junk)))) fun t45 => TM.bind (guardT (wantV t44 false) (pureT (lenT (Tryz.prog.underlying 223) t45))) fun t46 => TM.bind (guardT (wantV t44 false) (liftT (binQ Tryz.prog .eql 3 t46 (.int .i64 (0))))) fun t47 => TM.bind (pureT (M.lift (pickV t44 (.bool true) t47))) fun t48 => TM.bind (guardT (wantV t48 false) (pureT (M.lift (addP 2 (r39.2.getD 0 junk))))) fun t49 => TM.bind (guardT (wantV t48 false) (pureT (load Tryz.prog 81 t49))) fun t50 => TM.bind (guardT (wantV t48 false) (call 133 [t50, (.func (.func 137) #[] #[])])) fun t51 => TM.bind (pureT (M.lift (pickV t48 (.bool true) t51))) fun t52 => condBT t52 (TM.pure (.int .i64 (1))) (TM.pure (.int .i64 (0)))) (TM.pure (r39.2.getD 1 junk)) (fun j40 => TM.fail)))
  | _ => TM.fail
theorem q_62_eq (call : CallT) (lp : LoopT) (a0 : Value) : evBodyT Tryz.prog call lp ann_62 Tryz.f62 [a0] = q_62 call lp [a0] := by kernel_rfl
theorem q_62_ok : QOk Tryz.prog annS 62 q_62 := by
  refine ⟨Tryz.f62, by kernel_rfl, fun call lp args T r h => ?_⟩
  have ha : annS 62 = ann_62 := by kernel_rfl
  rw [ha]
  unfold q_62 at h
  split at h
  · rw [q_62_eq]; exact h
  · cases h

noncomputable def q_63 : QFn := fun call lp args => match args with
  | [a0, a1] =>
    TM.bind (TM.bind (liftT (binQ Tryz.prog .eql 3 a0 (.int .i64 (0)))) fun t1 => TM.bind (condBT t1 (TM.bind (liftT (binQ Tryz.prog .geq 3 a1 (.int .i64 (1)))) fun t2 => TM.bind (guardT (wantV t2 true) (pureT (M.pure a1))) fun t3 => TM.bind (guardT (wantV t2 true) (liftT (binQ Tryz.prog .leq 3 t3 (.int .i64 (4))))) fun t4 => TM.bind (pureT (M.lift (pickV t2 t4 (.bool false)))) fun t5 => TM.bind (condBT t5 (TM.bind (pureT (buildM Tryz.prog 228 [(0, a1)])) fun t6 => TM.bind (stepT (box none 228 t6) (idsL none [t6])) fun t7 => TM.bind (pureT (M.pure (.iface 226 t7))) fun t8 => TM.pure (.normal, [a0, t8, (.int .i64 (0))])) (TM.pure (.normal, [a0, .nilIface, (.int .i64 (1))])) : TM R) fun r9 => onlyNT r9.1 (TM.pure (.normal, [(r9.2.getD 0 junk), (r9.2.getD 1 junk), (r9.2.getD 2 junk)]))) (TM.bind (liftT (binQ Tryz.prog .eql 3 a0 (.int .i64 (1)))) fun t10 => TM.bind (condBT t10 (TM.bind (call 138 [a1]) fun t11 => TM.bind (pureT (M.lift (extr 0 t11))) fun t12 => TM.bind (pureT (M.pure (.iface 229 t12))) fun t13 => TM.bind (pureT (M.lift (extr 1 t11))) fun t14 => TM.pure (.normal, [a0, t13, t14])) (TM.bind (liftT (binQ Tryz.prog .eql 3 a0 (.int .i64 (2)))) fun t15 => TM.bind (condBT t15 (TM.bind (call 139 [a1]) fun t16 => TM.bind (pureT (M.lift (extr 0 t16))) fun t17 => TM.bind (pureT (M.pure (.iface 232 t17))) fun t18 => TM.bind (pureT (M.lift (extr 1 t16))) fun t19 => TM.pure (.normal, [a0, t18, t19])) (TM.bind (liftT (binQ Tryz.prog .eql 3 a0 (.int .i64 (3)))) fun t20 => TM.bind (condBT t20 (TM.bind (call 140 [a1]) fun t21 => TM.bind (pureT (M.lift (extr 0 t21))) fun t22 => TM.bind (pureT (M.pure (.iface 235 t22))) fun t23 => TM.bind (pureT (M.lift (extr 1 t21))) fun t24 => TM.pure (.normal, [a0, t23, t24])) (TM.bind (liftT (binQ Tryz.prog .eql 3 a0 (.int .i64 (4)))) fun t25 => TM.bind (condBT t25 (TM.bind (call 141 [a1]) fun t26 => TM.bind (pureT (M.lift (extr 0 t26))) fun t27 => TM.bind (pureT (M.pure (.iface 238 t27))) fun t28 => TM.bind (pureT (M.lift (extr 1 t26))) fun t29 => TM.pure (.normal, [a0, t28, t29])) (TM.bind (liftT (binQ Tryz.prog .eql 3 a0 (.int .i64 (5)))) fun t30 => TM.bind (condBT t30 (TM.bind (call 142 [a1]) fun t31 => TM.bind (pureT (M.lift (extr 0 t31))) fun t32 => TM.bind (pureT (M.pure (.iface 241 t32))) fun t33 => TM.bind (pureT (M.lift (extr 1 t31))) fun t34 => TM.pure (.normal, [a0, t33, t34])) (TM.pure (.normal, [a0, .nilIface, (.int .i64 (1))])) : TM R) fun r35 => onlyNT r35.1 (TM.pure (.normal, [(r35.2.getD 0 junk), (r35.2.getD 1 junk), (r35.2.getD 2 junk)]))) : TM R) fun r36 => onlyNT r36.1 (TM.pure (.normal, [(r36.2.getD 0 junk), (r36.2.getD 1 junk), (r36.2.getD 2 junk)]))) : TM R) fun r37 => onlyNT r37.1 (TM.pure (.normal, [(r37.2.getD 0 junk), (r37.2.getD 1 junk), (r37.2.getD 2 junk)]))) : TM R) fun r38 => onlyNT r38.1 (TM.pure (.normal, [(r38.2.getD 0 junk), (r38.2.getD 1 junk), (r38.2.getD 2 junk)]))) : TM R) fun r39 => onlyNT r39.1 (TM.pure (.normal, [(r39.2.getD 0 junk), (r39.2.getD 1 junk), (r39.2.getD 2 junk)]))) : TM R) fun r40 => onlyNT r40.1 (TM.pure (.normal, [(r40.2.getD 0 junk), (r40.2.getD 1 junk), (r40.2.getD 2 junk)])) : TM R) fun r41 => onlyNT (unblk 0 r41.1) (TM.bind (liftT (binQ Tryz.prog .neq 32 (r41.2.getD 2 junk) (.int .i64 (0)))) fun t42 => condBT t42 (TM.pure (.tuple #[(.pointer none), (r41.2.getD 2 junk)])) (TM.bind (pureT (buildM Tryz.prog 245 [(0, (r41.2.getD 0 junk)), (1, (r41.2.getD 1 junk))])) fun t43 => TM.bind (stepT (box none 245 t43) (idsL none [t43])) fun t44 => TM.pure (.tuple #[t44, (.int .i64 (0))])))
  | _ => TM.fail
theorem q_63_eq (call : CallT) (lp : LoopT) (a0 : Value) (a1 : Value) : evBodyT Tryz.prog call lp ann_63 Tryz.f63 [a0, a1] = q_63 call lp [a0, a1] := by kernel_rfl
theorem q_63_ok : QOk Tryz.prog annS 63 q_63 := by
  refine ⟨Tryz.f63, by kernel_rfl, fun call lp args T r h => ?_⟩
  have ha : annS 63 = ann_63 := by kernel_rfl
  rw [ha]
  unfold q_63 at h
  split at h
  · rw [q_63_eq]; exact h
  · cases h

noncomputable def q_64 : QFn := fun call lp args => match args with
  | [a0] =>
    TM.bind (liftT (binQ Tryz.prog .lss 3 a0 (.int .i64 (0)))) fun t1 => TM.bind (guardT (wantV t1 false) (pureT (M.pure a0))) fun t2 => TM.bind (guardT (wantV t1 false) (liftT (binQ Tryz.prog .gtr 3 t2 (.int .i64 (16))))) fun t3 => TM.bind (pureT (M.lift (pickV t1 (.bool true) t3))) fun t4 => condBT t4 (TM.pure (.tuple #[(.pointer none), (.int .i64 (1))])) (TM.bind (reserveT 8) fun base5 => TM.bind (stepT (makeSl (some (base5 + 0)) 3 (Tryz.prog.bytesOf 3) [(.int .i64 (0))] (.int .i64 (1100)) (.int .i64 (1100))) (idsL (some (base5 + 0)) [(.int .i64 (1100)), (.int .i64 (1100))])) fun t6 => TM.bind (stepT (makeSl (some (base5 + 1)) 3 (Tryz.prog.bytesOf 3) [(.int .i64 (0))] (.int .i64 (1100)) (.int .i64 (1100))) (idsL (some (base5 + 1)) [(.int .i64 (1100)), (.int .i64 (1100))])) fun t7 => TM.bind (stepT (M.bind (newAt (some (base5 + 3)) (.map [] [] 0)) fun b => M.pure (.map (some b))) (idsL (some (base5 + 3)) [])) fun t8 => TM.bind (pureT (buildM Tryz.prog 170 [(0, t6), (1, t7), (2, a0), (3, t8), (5, (.int .i64 (100)))])) fun t9 => TM.bind (stepT (box (some (base5 + 5)) 170 t9) (idsL (some (base5 + 5)) [t9])) fun t10 => TM.pure (.tuple #[t10, (.int .i64 (0))]))
  | _ => TM.fail
theorem q_64_eq (call : CallT) (lp : LoopT) (a0 : Value) : evBodyT Tryz.prog call lp ann_64 Tryz.f64 [a0] = q_64 call lp [a0] := by kernel_rfl
theorem q_64_ok : QOk Tryz.prog annS 64 q_64 := by
  refine ⟨Tryz.f64, by kernel_rfl, fun call lp args T r h => ?_⟩
  have ha : annS 64 = ann_64 := by kernel_rfl
  rw [ha]
  unfold q_64 at h
  split at h
  · rw [q_64_eq]; exact h
  · cases h

noncomputable def q_65 : QFn := fun call lp args => match args with
  | [a0] =>
    TM.bind (stepT (box none 83 a0) (idsL none [a0])) fun t1 => TM.bind (stepT (M.bind (newRow none 83 [(.string ⟨#[]⟩), (.int .i64 (0)), (.slice none 0 0)]) fun b => M.pure (.pointer (some ⟨b, 0, none⟩))) (idsL none [])) fun t2 => TM.bind (pureT (M.lift (addP 2 t1))) fun t3 => TM.bind (pureT (load Tryz.prog 81 t3)) fun t4 => TM.bind (pureT (lenT (Tryz.prog.underlying 81) t4)) fun t5 => TM.bind (stepT (makeSl none 151 (Tryz.prog.bytesOf 151) [(.string ⟨#[]⟩), (.slice none 0 0)] t5 t5) (idsL none [t5, t5])) fun t6 => TM.bind (pureT (M.lift (addP 2 t1))) fun t7 => TM.bind (pureT (load Tryz.prog 81 t7)) fun t8 => TM.bind (stepT (copyB 2 t6 t8) (idsL none [t6, t8])) fun t9 => TM.bind (pureT (lenT (Tryz.prog.underlying 81) t6)) fun t10 => TM.bind (lp (fun vs11 => TM.bind (liftT (binQ Tryz.prog .lss 3 (vs11.getD 4 junk) (vs11.getD 3 junk))) fun t12 => condBT t12 (TM.bind (TM.bind (pureT (M.lift (indexS 2 (vs11.getD 2 junk) (vs11.getD 4 junk)))) fun t13 => TM.bind (pureT (M.lift (addP 1 t13))) fun t14 => TM.bind (pureT (load Tryz.prog 149 t14)) fun t15 => TM.bind (call 143 [t15]) fun t16 => TM.bind (pureT (M.lift (indexS 2 (vs11.getD 2 junk) (vs11.getD 4 junk)))) fun t17 => TM.bind (pureT (M.lift (addP 1 t17))) fun t18 => TM.bind (stepT (store 1 t18 t16) (idsL none [t18, t16])) fun t19 => TM.pure (.normal, [(vs11.getD 0 junk), (vs11.getD 1 junk), (vs11.getD 2 junk), (vs11.getD 3 junk), (vs11.getD 4 junk)]) : TM R) fun r20 => onlyNT (unblk 1 r20.1) (TM.bind (liftT (binQ Tryz.prog .add 3 (r20.2.getD 4 junk) (.int .i64 (1)))) fun t21 => TM.pure (.normal, [(r20.2.getD 0 junk), (r20.2.getD 1 junk), (r20.2.getD 2 junk), (r20.2.getD 3 junk), t21]))) (TM.pure (.exit 0, [(vs11.getD 0 junk), (vs11.getD 1 junk), (vs11.getD 2 junk), (vs11.getD 3 junk), (vs11.getD 4 junk)]))) [t1, t2, t6, t10, (.int .i64 (0))] : TM R) fun r22 => onlyNT (unblk 0 r22.1) (TM.bind (pureT (M.lift (addP 2 (r22.2.getD 0 junk)))) fun t23 => TM.bind (stepT (store 1 t23 (r22.2.getD 2 junk)) (idsL none [t23, (r22.2.getD 2 junk)])) fun t24 => TM.bind (pureT (load Tryz.prog 83 (r22.2.getD 0 junk))) fun t25 => TM.bind (stepT (store 3 (r22.2.getD 1 junk) t25) (idsL none [(r22.2.getD 1 junk), t25])) fun t26 => TM.bind (pureT (load Tryz.prog 83 (r22.2.getD 1 junk))) fun t27 => TM.pure t27)
  | _ => TM.fail
theorem q_65_eq (call : CallT) (lp : LoopT) (a0 : Value) : evBodyT Tryz.prog call lp ann_65 Tryz.f65 [a0] = q_65 call lp [a0] := by kernel_rfl
theorem q_65_ok : QOk Tryz.prog annS 65 q_65 := by
  refine ⟨Tryz.f65, by kernel_rfl, fun call lp args T r h => ?_⟩
  have ha : annS 65 = ann_65 := by kernel_rfl
  rw [ha]
  unfold q_65 at h
  split at h
  · rw [q_65_eq]; exact h
  · cases h

noncomputable def q_66 : QFn := fun call lp args => match args with
  | [a0, a1] =>
    TM.bind (stepT (box none 83 a0) (idsL none [a0])) fun t1 => TM.bind (stepT (box none 9 a1) (idsL none [a1])) fun t2 => TM.bind (pureT (load Tryz.prog 83 t1)) fun t3 => TM.bind (call 62 [t3]) fun t4 => TM.bind (liftT (binQ Tryz.prog .neq 32 t4 (.int .i64 (0)))) fun t5 => condBT t5 (TM.pure (.tuple #[(.int .i64 (0)), t4])) (TM.bind (pureT (M.lift (addP 2 t1))) fun t6 => TM.bind (pureT (load Tryz.prog 81 t6)) fun t7 => TM.bind (pureT (M.pure (.func (.func 144) #[] #[t2]))) fun t8 => TM.bind (call 72 [t7, t8]) fun t9 => TM.bind (liftT (binQ Tryz.prog .lss 3 t9 (.int .i64 (0)))) fun t10 => condBT t10 (TM.pure (.tuple #[(.int .i64 (0)), (.int .i64 (5))])) (TM.pure (.tuple #[t9, (.int .i64 (0))])))
  | _ => TM.fail
theorem q_66_eq (call : CallT) (lp : LoopT) (a0 : Value) (a1 : Value) : evBodyT Tryz.prog call lp ann_66 Tryz.f66 [a0, a1] = q_66 call lp [a0, a1] := by kernel_rfl
theorem q_66_ok : QOk Tryz.prog annS 66 q_66 := by
  refine ⟨Tryz.f66, by kernel_rfl, fun call lp args T r h => ?_⟩
  have ha : annS 66 = ann_66 := by kernel_rfl
  rw [ha]
  unfold q_66 at h
  split at h
  · rw [q_66_eq]; exact h
  · cases h

noncomputable def q_68 : QFn := fun call lp args => match args with
  | [a0, a1] =>
    TM.bind (call 145 [a0]) fun t1 => TM.bind (pureT (M.lift (nilChk a0))) fun t2 => TM.bind (pureT (M.lift (addP 1 t2))) fun t3 => TM.bind (pureT (load Tryz.prog 140 t3)) fun t4 => TM.bind (stepT (append none 5 1 (Tryz.prog.bytesOf 5) t4 a1) (idsL none [t4, a1])) fun t5 => TM.bind (pureT (M.lift (nilChk a0))) fun t6 => TM.bind (pureT (M.lift (addP 1 t6))) fun t7 => TM.bind (stepT (store 1 t7 t5) (idsL none [t7, t5])) fun t8 => TM.bind (pureT (lenT (Tryz.prog.underlying 9) a1)) fun t9 => TM.pure (.tuple #[t9, .nilIface])
  | _ => TM.fail
theorem q_68_eq (call : CallT) (lp : LoopT) (a0 : Value) (a1 : Value) : evBodyT Tryz.prog call lp ann_68 Tryz.f68 [a0, a1] = q_68 call lp [a0, a1] := by kernel_rfl
theorem q_68_ok : QOk Tryz.prog annS 68 q_68 := by
  refine ⟨Tryz.f68, by kernel_rfl, fun call lp args T r h => ?_⟩
  have ha : annS 68 = ann_68 := by kernel_rfl
  rw [ha]
  unfold q_68 at h
  split at h
  · rw [q_68_eq]; exact h
  · cases h

noncomputable def q_69 : QFn := fun call lp args => match args with
  | [a0] =>
    TM.bind (call 146 [a0]) fun t1 => TM.pure t1
  | _ => TM.fail
theorem q_69_eq (call : CallT) (lp : LoopT) (a0 : Value) : evBodyT Tryz.prog call lp ann_69 Tryz.f69 [a0] = q_69 call lp [a0] := by kernel_rfl
theorem q_69_ok : QOk Tryz.prog annS 69 q_69 := by
  refine ⟨Tryz.f69, by kernel_rfl, fun call lp args T r h => ?_⟩
  have ha : annS 69 = ann_69 := by kernel_rfl
  rw [ha]
  unfold q_69 at h
  split at h
  · rw [q_69_eq]; exact h
  · cases h

noncomputable def q_70 : QFn := fun call lp args => match args with
  | [a0] =>
    TM.bind (reserveT 12) fun base1 => TM.bind (pureT (M.lift (nilChk a0))) fun t2 => TM.bind (pureT (M.lift (addP 1 t2))) fun t3 => TM.bind (pureT (load Tryz.prog 140 t3)) fun t4 => TM.bind (pureT (M.lift (dataP t4))) fun t5 => TM.bind (pureT (M.lift (nilChk a0))) fun t6 => TM.bind (pureT (M.lift (addP 1 t6))) fun t7 => TM.bind (pureT (load Tryz.prog 140 t7)) fun t8 => TM.bind (pureT (lenT (Tryz.prog.underlying 140) t8)) fun t9 => TM.bind (stepT (strAt Tryz.prog 247 t5 t9) (idsL (some (base1 + 10)) [t5, t9])) fun t10 => TM.pure t10
  | _ => TM.fail
theorem q_70_eq (call : CallT) (lp : LoopT) (a0 : Value) : evBodyT Tryz.prog call lp ann_70 Tryz.f70 [a0] = q_70 call lp [a0] := by kernel_rfl
theorem q_70_ok : QOk Tryz.prog annS 70 q_70 := by
  refine ⟨Tryz.f70, by kernel_rfl, fun call lp args T r h => ?_⟩
  have ha : annS 70 = ann_70 := by kernel_rfl
  rw [ha]
  unfold q_70 at h
  split at h
  · rw [q_70_eq]; exact h
  · cases h

noncomputable def q_71 : QFn := fun call lp args => match args with
  | [a0] =>
    TM.bind (liftT (binQ Tryz.prog .geq 3 a0 (.int .i64 (-1000000000000000)))) fun t1 => TM.bind (guardT (wantV t1 true) (pureT (M.pure a0))) fun t2 => TM.bind (guardT (wantV t1 true) (liftT (binQ Tryz.prog .leq 3 t2 (.int .i64 (1000000000000000))))) fun t3 => TM.bind (pureT (M.lift (pickV t1 t3 (.bool false)))) fun t4 => TM.pure t4
  | _ => TM.fail
theorem q_71_eq (call : CallT) (lp : LoopT) (a0 : Value) : evBodyT Tryz.prog call lp ann_71 Tryz.f71 [a0] = q_71 call lp [a0] := by kernel_rfl
theorem q_71_ok : QOk Tryz.prog annS 71 q_71 := by
  refine ⟨Tryz.f71, by kernel_rfl, fun call lp args T r h => ?_⟩
  have ha : annS 71 = ann_71 := by kernel_rfl
  rw [ha]
  unfold q_71 at h
  split at h
  · rw [q_71_eq]; exact h
  · cases h

noncomputable def q_72 : QFn := fun call lp args => match args with
  | [a0, a1] =>
    TM.bind (pureT (lenT (Tryz.prog.underlying 81) a0)) fun t1 => TM.bind (lp (fun vs2 => TM.bind (liftT (binQ Tryz.prog .lss 3 (vs2.getD 4 junk) (vs2.getD 3 junk))) fun t3 => condBT t3 (TM.bind (pureT (M.lift (indexS 2 (vs2.getD 0 junk) (vs2.getD 4 junk)))) fun t4 => TM.bind (pureT (load Tryz.prog 151 t4)) fun t5 => TM.bind (callVT call (vs2.getD 1 junk) [t5]) fun t6 => condBT t6 (TM.pure (.ret, [(vs2.getD 0 junk), (vs2.getD 1 junk), (vs2.getD 4 junk), (vs2.getD 3 junk), (vs2.getD 4 junk)])) (TM.bind (liftT (binQ Tryz.prog .add 3 (vs2.getD 4 junk) (.int .i64 (1)))) fun t7 => TM.pure (.normal, [(vs2.getD 0 junk), (vs2.getD 1 junk), (vs2.getD 2 junk), (vs2.getD 3 junk), t7]))) (TM.pure (.exit 0, [(vs2.getD 0 junk), (vs2.getD 1 junk), (vs2.getD 2 junk), (vs2.getD 3 junk), (vs2.getD 4 junk)]))) [a0, a1, (.int .i64 (0)), t1, (.int .i64 (0))] : TM R) fun r8 => exKT (unblk 0 r8.1) (TM.pure (.int .i64 (-1))) (TM.pure (r8.2.getD 2 junk)) (fun j9 => TM.fail)
  | _ => TM.fail
theorem q_72_eq (call : CallT) (lp : LoopT) (a0 : Value) (a1 : Value) : evBodyT Tryz.prog call lp ann_72 Tryz.f72 [a0, a1] = q_72 call lp [a0, a1] := by kernel_rfl
theorem q_72_ok : QOk Tryz.prog annS 72 q_72 := by
  refine ⟨Tryz.f72, by kernel_rfl, fun call lp args T r h => ?_⟩
  have ha : annS 72 = ann_72 := by kernel_rfl
  rw [ha]
  unfold q_72 at h
  split at h
  · rw [q_72_eq]; exact h
  · cases h

noncomputable def q_73 : QFn := fun call lp args => match args with
  | [a0, a1] =>
    TM.bind (stepT (box none 151 a0) (idsL none [a0])) fun t1 => TM.bind (pureT (M.lift (addP 0 t1))) fun t2 => TM.bind (pureT (load Tryz.prog 9 t2)) fun t3 => TM.bind (pureT (load Tryz.prog 9 a1)) fun t4 => TM.bind (liftT (binQ Tryz.prog .eql 9 t3 t4)) fun t5 => TM.pure t5
  | _ => TM.fail
theorem q_73_eq (call : CallT) (lp : LoopT) (a0 : Value) (a1 : Value) : evBodyT Tryz.prog call lp ann_73 Tryz.f73 [a0, a1] = q_73 call lp [a0, a1] := by kernel_rfl
theorem q_73_ok : QOk Tryz.prog annS 73 q_73 := by
  refine ⟨Tryz.f73, by kernel_rfl, fun call lp args T r h => ?_⟩
  have ha : annS 73 = ann_73 := by kernel_rfl
  rw [ha]
  unfold q_73 at h
  split at h
  · rw [q_73_eq]; exact h
  · cases h

noncomputable def q_74 : QFn := fun call lp args => match args with
  | [a0, a1, a2, a3, a4] =>
    TM.bind (pureT (M.lift (nilChk a0))) fun t1 => TM.bind (pureT (M.lift (addP 6 t1))) fun t2 => TM.bind (pureT (load Tryz.prog 104 t2)) fun t3 => TM.bind (pureT (M.lift (indexS 30 t3 a1))) fun t4 => TM.bind (pureT (M.lift (nilChk t4))) fun t5 => TM.bind (pureT (M.lift (addP 0 t5))) fun t6 => TM.bind (pureT (M.lift (addP 6 t6))) fun t7 => TM.bind (pureT (load Tryz.prog 3 t7)) fun t8 => TM.bind (pureT (buildM Tryz.prog 92 [(0, (.bool true)), (1, a2), (4, (.int .i64 (-1))), (6, t8)])) fun t9 => TM.bind (pureT (M.lift (nilChk t4))) fun t10 => TM.bind (pureT (M.lift (addP 0 t10))) fun t11 => TM.bind (stepT (store 7 t11 t9) (idsL none [t11, t9])) fun t12 => TM.bind (pureT (M.lift (nilChk a0))) fun t13 => TM.bind (pureT (M.lift (addP 3 t13))) fun t14 => TM.bind (pureT (load Tryz.prog 3 t14)) fun t15 => TM.bind (pureT (buildM Tryz.prog 134 [(12, a3), (13, a4), (14, a1), (15, t15)])) fun t16 => TM.bind (pureT (M.lift (nilChk t4))) fun t17 => TM.bind (pureT (M.lift (addP 7 t17))) fun t18 => TM.bind (stepT (store 16 t18 t16) (idsL none [t18, t16])) fun t19 => TM.bind (pureT (M.lift (nilChk t4))) fun t20 => TM.bind (pureT (M.lift (addP 23 t20))) fun t21 => TM.bind (stepT (store 1 t21 (.int .i64 (-1))) (idsL none [t21, (.int .i64 (-1))])) fun t22 => TM.bind (pureT (M.lift (nilChk t4))) fun t23 => TM.bind (pureT (M.lift (addP 24 t23))) fun t24 => TM.bind (stepT (store 1 t24 (.slice none 0 0)) (idsL none [t24, (.slice none 0 0)])) fun t25 => TM.bind (pureT (M.lift (nilChk t4))) fun t26 => TM.bind (pureT (M.lift (addP 28 t26))) fun t27 => TM.bind (stepT (store 1 t27 (.int .i64 (-1))) (idsL none [t27, (.int .i64 (-1))])) fun t28 => TM.pure (.tuple #[])
  | _ => TM.fail
theorem q_74_eq (call : CallT) (lp : LoopT) (a0 : Value) (a1 : Value) (a2 : Value) (a3 : Value) (a4 : Value) : evBodyT Tryz.prog call lp ann_74 Tryz.f74 [a0, a1, a2, a3, a4] = q_74 call lp [a0, a1, a2, a3, a4] := by kernel_rfl
theorem q_74_ok : QOk Tryz.prog annS 74 q_74 := by
  refine ⟨Tryz.f74, by kernel_rfl, fun call lp args T r h => ?_⟩
  have ha : annS 74 = ann_74 := by kernel_rfl
  rw [ha]
  unfold q_74 at h
  split at h
  · rw [q_74_eq]; exact h
  · cases h

noncomputable def q_75 : QFn := fun call lp args => match args with
  | [a0] =>
    TM.bind (liftT (binQ Tryz.prog .geq 3 a0 (.int .i64 (13)))) fun t1 => TM.bind (guardT (wantV t1 true) (pureT (M.pure a0))) fun t2 => TM.bind (guardT (wantV t1 true) (liftT (binQ Tryz.prog .leq 3 t2 (.int .i64 (25))))) fun t3 => TM.bind (pureT (M.lift (pickV t1 t3 (.bool false)))) fun t4 => TM.pure t4
  | _ => TM.fail
theorem q_75_eq (call : CallT) (lp : LoopT) (a0 : Value) : evBodyT Tryz.prog call lp ann_75 Tryz.f75 [a0] = q_75 call lp [a0] := by kernel_rfl
theorem q_75_ok : QOk Tryz.prog annS 75 q_75 := by
  refine ⟨Tryz.f75, by kernel_rfl, fun call lp args T r h => ?_⟩
  have ha : annS 75 = ann_75 := by kernel_rfl
  rw [ha]
  unfold q_75 at h
  split at h
  · rw [q_75_eq]; exact h
  · cases h

noncomputable def q_76 : QFn := fun call lp args => match args with
  | [a0, a1, a2, a3] =>
    TM.bind (stepT (box none 158 a2) (idsL none [a2])) fun t1 => TM.bind (pureT (M.lift (nilChk a0))) fun t2 => TM.bind (pureT (M.lift (addP 6 t2))) fun t3 => TM.bind (pureT (load Tryz.prog 104 t3)) fun t4 => TM.bind (pureT (M.lift (indexS 30 t4 a1))) fun t5 => TM.bind (pureT (M.lift (addP 0 t1))) fun t6 => TM.bind (pureT (load Tryz.prog 3 t6)) fun t7 => TM.bind (liftT (binQ Tryz.prog .eql 3 t7 (.int .i64 (13)))) fun t8 => TM.bind (condBT t8 (TM.pure (.normal, [a0, a1, a3, t1, t5, (.int .i64 (0)), t7, t8])) (TM.bind (liftT (binQ Tryz.prog .eql 3 t7 (.int .i64 (14)))) fun t9 => TM.bind (condBT t9 (TM.pure (.normal, [a0, a1, a3, t1, t5, (.int .i64 (0)), t7, t9])) (TM.bind (liftT (binQ Tryz.prog .eql 3 t7 (.int .i64 (15)))) fun t10 => TM.bind (condBT t10 (TM.pure (.normal, [a0, a1, a3, t1, t5, (.int .i64 (0)), t7, t10])) (TM.bind (liftT (binQ Tryz.prog .eql 3 t7 (.int .i64 (16)))) fun t11 => TM.bind (condBT t11 (TM.pure (.normal, [a0, a1, a3, t1, t5, (.int .i64 (0)), t7, t11])) (TM.bind (liftT (binQ Tryz.prog .eql 3 t7 (.int .i64 (17)))) fun t12 => TM.bind (condBT t12 (TM.pure (.normal, [a0, a1, a3, t1, t5, (.int .i64 (0)), t7, t12])) (TM.bind (liftT (binQ Tryz.prog .eql 3 t7 (.int .i64 (18)))) fun t13 => TM.pure (.normal, [a0, a1, a3, t1, t5, (.int .i64 (0)), t7, t13])) : TM R) fun r14 => onlyNT r14.1 (TM.pure (.normal, [(r14.2.getD 0 junk), (r14.2.getD 1 junk), (r14.2.getD 2 junk), (r14.2.getD 3 junk), (r14.2.getD 4 junk), (r14.2.getD 5 junk), (r14.2.getD 6 junk), (r14.2.getD 7 junk)]))) : TM R) fun r15 => onlyNT r15.1 (TM.pure (.normal, [(r15.2.getD 0 junk), (r15.2.getD 1 junk), (r15.2.getD 2 junk), (r15.2.getD 3 junk), (r15.2.getD 4 junk), (r15.2.getD 5 junk), (r15.2.getD 6 junk), (r15.2.getD 7 junk)]))) : TM R) fun r16 => onlyNT r16.1 (TM.pure (.normal, [(r16.2.getD 0 junk), (r16.2.getD 1 junk), (r16.2.getD 2 junk), (r16.2.getD 3 junk), (r16.2.getD 4 junk), (r16.2.getD 5 junk), (r16.2.getD 6 junk), (r16.2.getD 7 junk)]))) : TM R) fun r17 => onlyNT r17.1 (TM.pure (.normal, [(r17.2.getD 0 junk), (r17.2.getD 1 junk), (r17.2.getD 2 junk), (r17.2.getD 3 junk), (r17.2.getD 4 junk), (r17.2.getD 5 junk), (r17.2.getD 6 junk), (r17.2.getD 7 junk)]))) : TM R) fun r18 => onlyNT r18.1 (TM.bind (condBT (r18.2.getD 7 junk) (TM.bind (pureT (load Tryz.prog 158 (r18.2.getD 3 junk))) fun t19 => TM.bind (call 147 [(r18.2.getD 0 junk), (r18.2.getD 1 junk), t19, (r18.2.getD 2 junk)]) fun t20 => TM.pure (.normal, [junk, junk, (r18.2.getD 4 junk), t20])) (TM.bind (liftT (binQ Tryz.prog .eql 3 (r18.2.getD 6 junk) (.int .i64 (19)))) fun t21 => TM.bind (condBT t21 (TM.bind (pureT (load Tryz.prog 158 (r18.2.getD 3 junk))) fun t22 => TM.bind (call 148 [(r18.2.getD 0 junk), (r18.2.getD 1 junk), t22]) fun t23 => TM.pure (.normal, [junk, junk, (r18.2.getD 4 junk), t23])) (TM.bind (liftT (binQ Tryz.prog .eql 3 (r18.2.getD 6 junk) (.int .i64 (20)))) fun t24 => TM.bind (condBT t24 (TM.bind (pureT (M.lift (addP 3 (r18.2.getD 3 junk)))) fun t25 => TM.bind (pureT (load Tryz.prog 156 t25)) fun t26 => TM.bind (call 150 [(r18.2.getD 4 junk), t26]) fun t27 => TM.bind (call 149 [(r18.2.getD 0 junk), (r18.2.getD 1 junk), t27]) fun t28 => TM.pure (.normal, [junk, junk, (r18.2.getD 4 junk), t28])) (TM.bind (liftT (binQ Tryz.prog .eql 3 (r18.2.getD 6 junk) (.int .i64 (21)))) fun t29 => TM.bind (condBT t29 (TM.bind (pureT (load Tryz.prog 158 (r18.2.getD 3 junk))) fun t30 => TM.bind (call 151 [(r18.2.getD 0 junk), (r18.2.getD 1 junk), t30]) fun t31 => TM.pure (.normal, [junk, junk, (r18.2.getD 4 junk), t31])) (TM.bind (liftT (binQ Tryz.prog .eql 3 (r18.2.getD 6 junk) (.int .i64 (22)))) fun t32 => TM.bind (condBT t32 (TM.bind (pureT (M.lift (addP 5 (r18.2.getD 3 junk)))) fun t33 => TM.bind (pureT (load Tryz.prog 156 t33)) fun t34 => TM.bind (call 150 [(r18.2.getD 4 junk), t34]) fun t35 => TM.bind (pureT (M.lift (addP 9 (r18.2.getD 3 junk)))) fun t36 => TM.bind (pureT (load Tryz.prog 3 t36)) fun t37 => TM.bind (liftT (binQ Tryz.prog .geq 3 t37 (.int .i64 (3)))) fun t38 => TM.bind (guardT (wantV t38 false) (pureT (M.pure t35))) fun t39 => TM.bind (guardT (wantV t38 false) (liftT (binQ Tryz.prog .lss 3 t39 (.int .i64 (0))))) fun t40 => TM.bind (pureT (M.lift (pickV t38 (.bool true) t40))) fun t41 => condBT t41 (TM.pure (.ret, [(.int .i64 (0)), (.int .i64 (2)), (r18.2.getD 4 junk), (r18.2.getD 5 junk)])) (TM.bind (reserveT 8) fun base42 => TM.bind (pureT (M.lift (addP 9 (r18.2.getD 3 junk)))) fun t43 => TM.bind (pureT (load Tryz.prog 3 t43)) fun t44 => TM.bind (pureT (M.lift (nilChk (r18.2.getD 4 junk)))) fun t45 => TM.bind (pureT (M.lift (addP 25 t45))) fun t46 => TM.bind (pureT (M.lift (indexP 3 1 t46 t44))) fun t47 => TM.bind (stepT (store 1 t47 t35) (idsL (some (base42 + 7)) [t47, t35])) fun t48 => TM.bind (reserveT 14) fun base49 => TM.bind (pureT (M.lift (nilChk (r18.2.getD 0 junk)))) fun t50 => TM.bind (pureT (M.lift (addP 8 t50))) fun t51 => TM.bind (pureT (load Tryz.prog 105 t51)) fun t52 => TM.bind (pureT (M.lift (addP 9 (r18.2.getD 3 junk)))) fun t53 => TM.bind (pureT (load Tryz.prog 3 t53)) fun t54 => TM.bind (call 152 [t52, (r18.2.getD 1 junk), t54, t35]) fun t55 => TM.bind (pureT (M.lift (extr 0 t55))) fun t56 => TM.bind (pureT (M.lift (extr 1 t55))) fun t57 => TM.bind (call 153 [(r18.2.getD 0 junk), t56]) fun t58 => TM.pure (.normal, [junk, junk, (r18.2.getD 4 junk), (r18.2.getD 5 junk)]))) (TM.bind (liftT (binQ Tryz.prog .eql 3 (r18.2.getD 6 junk) (.int .i64 (23)))) fun t59 => TM.bind (condBT t59 (TM.bind (pureT (M.lift (nilChk (r18.2.getD 0 junk)))) fun t60 => TM.bind (pureT (M.lift (addP 8 t60))) fun t61 => TM.bind (pureT (load Tryz.prog 105 t61)) fun t62 => TM.bind (call 154 [t62, (r18.2.getD 1 junk)]) fun t63 => TM.bind (pureT (M.lift (extr 0 t63))) fun t64 => TM.bind (pureT (M.lift (extr 1 t63))) fun t65 => TM.bind (call 153 [(r18.2.getD 0 junk), t64]) fun t66 => TM.pure (.normal, [junk, junk, (r18.2.getD 4 junk), (r18.2.getD 5 junk)])) (TM.bind (liftT (binQ Tryz.prog .eql 3 (r18.2.getD 6 junk) (.int .i64 (24)))) fun t67 => condBT t67 (TM.bind (pureT (buildM Tryz.prog 135 [])) fun t68 => TM.bind (pureT (M.lift (nilChk (r18.2.getD 4 junk)))) fun t69 => TM.bind (pureT (M.lift (addP 25 t69))) fun t70 => TM.bind (stepT (store 3 t70 t68) (idsL none [t70, t68])) fun t71 => TM.bind (pureT (M.lift (nilChk (r18.2.getD 0 junk)))) fun t72 => TM.bind (pureT (M.lift (addP 8 t72))) fun t73 => TM.bind (pureT (load Tryz.prog 105 t73)) fun t74 => TM.bind (call 155 [t74, (r18.2.getD 1 junk)]) fun t75 => TM.bind (pureT (M.lift (extr 0 t75))) fun t76 => TM.bind (pureT (M.lift (extr 1 t75))) fun t77 => TM.bind (call 153 [(r18.2.getD 0 junk), t76]) fun t78 => TM.pure (.normal, [junk, junk, (r18.2.getD 4 junk), (r18.2.getD 5 junk)])) (TM.bind (pureT (M.lift (addP 5 (r18.2.getD 3 junk)))) fun t79 => TM.bind (pureT (load Tryz.prog 156 t79)) fun t80 => TM.bind (call 150 [(r18.2.getD 4 junk), t80]) fun t81 => TM.bind (pureT (M.lift (nilChk (r18.2.getD 4 junk)))) fun t82 => TM.bind (pureT (M.lift (addP 0 t82))) fun t83 => TM.bind (pureT (M.lift (addP 0 t83))) fun t84 => TM.bind (stepT (store 1 t84 (.bool false)) (idsL none [t84, (.bool false)])) fun t85 => TM.bind (pureT (M.lift (nilChk (r18.2.getD 4 junk)))) fun t86 => TM.bind (pureT (M.lift (addP 0 t86))) fun t87 => TM.bind (pureT (M.lift (addP 2 t87))) fun t88 => TM.bind (stepT (store 1 t88 (.int .i64 (0))) (idsL none [t88, (.int .i64 (0))])) fun t89 => TM.bind (pureT (M.lift (nilChk (r18.2.getD 4 junk)))) fun t90 => TM.bind (pureT (M.lift (addP 24 t90))) fun t91 => TM.bind (stepT (store 1 t91 (.slice none 0 0)) (idsL none [t91, (.slice none 0 0)])) fun t92 => TM.bind (pureT (M.lift (nilChk (r18.2.getD 4 junk)))) fun t93 => TM.bind (pureT (M.lift (addP 23 t93))) fun t94 => TM.bind (stepT (store 1 t94 (.int .i64 (-1))) (idsL none [t94, (.int .i64 (-1))])) fun t95 => TM.bind (pureT (M.lift (nilChk (r18.2.getD 4 junk)))) fun t96 => TM.bind (pureT (M.lift (addP 28 t96))) fun t97 => TM.bind (stepT (store 1 t97 (.int .i64 (-1))) (idsL none [t97, (.int .i64 (-1))])) fun t98 => TM.bind (pureT (M.lift (nilChk (r18.2.getD 4 junk)))) fun t99 => TM.bind (pureT (M.lift (addP 0 t99))) fun t100 => TM.bind (pureT (M.lift (addP 6 t100))) fun t101 => TM.bind (pureT (load Tryz.prog 3 t101)) fun t102 => TM.bind (liftT (binQ Tryz.prog .add 3 t102 (.int .i64 (1)))) fun t103 => TM.bind (pureT (M.lift (nilChk (r18.2.getD 4 junk)))) fun t104 => TM.bind (pureT (M.lift (addP 0 t104))) fun t105 => TM.bind (pureT (M.lift (addP 6 t105))) fun t106 => TM.bind (stepT (store 1 t106 t103) (idsL none [t106, t103])) fun t107 => TM.pure (.ret, [t81, (.int .i64 (0)), (r18.2.getD 4 junk), (r18.2.getD 5 junk)]))) : TM R) fun r108 => TM.pure (r108.1, [(r108.2.getD 0 junk), (r108.2.getD 1 junk), (r108.2.getD 2 junk), (r108.2.getD 3 junk)])) : TM R) fun r109 => TM.pure (r109.1, [(r109.2.getD 0 junk), (r109.2.getD 1 junk), (r109.2.getD 2 junk), (r109.2.getD 3 junk)])) : TM R) fun r110 => TM.pure (r110.1, [(r110.2.getD 0 junk), (r110.2.getD 1 junk), (r110.2.getD 2 junk), (r110.2.getD 3 junk)])) : TM R) fun r111 => TM.pure (r111.1, [(r111.2.getD 0 junk), (r111.2.getD 1 junk), (r111.2.getD 2 junk), (r111.2.getD 3 junk)])) : TM R) fun r112 => TM.pure (r112.1, [(r112.2.getD 0 junk), (r112.2.getD 1 junk), (r112.2.getD 2 junk), (r112.2.getD 3 junk)])) : TM R) fun r113 => exKT r113.1 (TM.bind (liftT (binQ Tryz.prog .eql 3 (r113.2.getD 3 junk) (.int .i64 (0)))) fun t115 => TM.bind (condBT t115 (TM.bind (pureT (M.lift (nilChk (r113.2.getD 2 junk)))) fun t116 => TM.bind (pureT (M.lift (addP 0 t116))) fun t117 => TM.bind (pureT (M.lift (addP 2 t117))) fun t118 => TM.bind (pureT (load Tryz.prog 3 t118)) fun t119 => TM.bind (liftT (binQ Tryz.prog .add 3 t119 (.int .i64 (1)))) fun t120 => TM.bind (pureT (M.lift (nilChk (r113.2.getD 2 junk)))) fun t121 => TM.bind (pureT (M.lift (addP 0 t121))) fun t122 => TM.bind (pureT (M.lift (addP 2 t122))) fun t123 => TM.bind (stepT (store 1 t123 t120) (idsL none [t123, t120])) fun t124 => TM.pure (.normal, [(r113.2.getD 3 junk)])) (TM.pure (.normal, [(r113.2.getD 3 junk)])) : TM R) fun r125 => onlyNT r125.1 (TM.pure (.tuple #[(.int .i64 (0)), (r125.2.getD 0 junk)]))) (TM.pure (.tuple #[(r113.2.getD 0 junk), (r113.2.getD 1 junk)])) (fun j114 => (bif Nat.beq j114 0 then TM.bind (liftT (binQ Tryz.prog .eql 3 (r113.2.getD 3 junk) (.int .i64 (0)))) fun t126 => TM.bind (condBT t126 (TM.bind (pureT (M.lift (nilChk (r113.2.getD 2 junk)))) fun t127 => TM.bind (pureT (M.lift (addP 0 t127))) fun t128 => TM.bind (pureT (M.lift (addP 2 t128))) fun t129 => TM.bind (pureT (load Tryz.prog 3 t129)) fun t130 => TM.bind (liftT (binQ Tryz.prog .add 3 t130 (.int .i64 (1)))) fun t131 => TM.bind (pureT (M.lift (nilChk (r113.2.getD 2 junk)))) fun t132 => TM.bind (pureT (M.lift (addP 0 t132))) fun t133 => TM.bind (pureT (M.lift (addP 2 t133))) fun t134 => TM.bind (stepT (store 1 t134 t131) (idsL none [t134, t131])) fun t135 => TM.pure (.normal, [(r113.2.getD 3 junk)])) (TM.pure (.normal, [(r113.2.getD 3 junk)])) : TM R) fun r136 => onlyNT r136.1 (TM.pure (.tuple #[(.int .i64 (0)), (r136.2.getD 0 junk)])) else TM.fail)))
  | _ => TM.fail
theorem q_76_eq (call : CallT) (lp : LoopT) (a0 : Value) (a1 : Value) (a2 : Value) (a3 : Value) : evBodyT Tryz.prog call lp ann_76 Tryz.f76 [a0, a1, a2, a3] = q_76 call lp [a0, a1, a2, a3] := by kernel_rfl
theorem q_76_ok : QOk Tryz.prog annS 76 q_76 := by
  refine ⟨Tryz.f76, by kernel_rfl, fun call lp args T r h => ?_⟩
  have ha : annS 76 = ann_76 := by kernel_rfl
  rw [ha]
  unfold q_76 at h
  split at h
  · rw [q_76_eq]; exact h
  · cases h

noncomputable def q_77 : QFn := fun call lp args => match args with
  | [a0, a1] =>
    TM.bind (stepT (box none 158 a1) (idsL none [a1])) fun t1 => TM.bind (reserveT 10) fun base2 => TM.bind (pureT (M.lift (addP 3 t1))) fun t3 => TM.bind (pureT (load Tryz.prog 156 t3)) fun t4 => TM.bind (pureT (M.lift (addP 5 t1))) fun t5 => TM.bind (pureT (load Tryz.prog 156 t5)) fun t6 => TM.bind (call 150 [a0, t4]) fun t7 => TM.bind (againT (pureT (load Tryz.prog 156 t5)) t6) fun _ => TM.bind (call 150 [a0, t6]) fun t8 => TM.bind (pureT (M.lift (addP 0 t1))) fun t9 => TM.bind (pureT (load Tryz.prog 3 t9)) fun t10 => TM.bind (liftT (binQ Tryz.prog .eql 3 t10 (.int .i64 (7)))) fun t11 => TM.bind (condBT t11 (TM.bind (liftT (binQ Tryz.prog .eql 3 t7 t8)) fun t12 => TM.pure (.normal, [a0, t1, (.int .i64 (0)), t12, (.int .i64 (0))])) (TM.bind (liftT (binQ Tryz.prog .eql 3 t10 (.int .i64 (8)))) fun t13 => TM.bind (condBT t13 (TM.bind (liftT (binQ Tryz.prog .neq 3 t7 t8)) fun t14 => TM.pure (.normal, [a0, t1, (.int .i64 (0)), t14, (.int .i64 (0))])) (TM.bind (liftT (binQ Tryz.prog .eql 3 t10 (.int .i64 (9)))) fun t15 => TM.bind (condBT t15 (TM.bind (liftT (binQ Tryz.prog .lss 3 t7 t8)) fun t16 => TM.pure (.normal, [a0, t1, (.int .i64 (0)), t16, (.int .i64 (0))])) (TM.bind (liftT (binQ Tryz.prog .eql 3 t10 (.int .i64 (10)))) fun t17 => TM.bind (condBT t17 (TM.pure (.normal, [a0, t1, (.int .i64 (0)), (.bool true), (.int .i64 (0))])) (TM.bind (liftT (binQ Tryz.prog .eql 3 t10 (.int .i64 (11)))) fun t18 => TM.bind (condBT t18 (TM.bind (pureT (M.lift (nilChk a0))) fun t19 => TM.bind (pureT (M.lift (addP 23 t19))) fun t20 => TM.bind (pureT (load Tryz.prog 3 t20)) fun t21 => TM.bind (liftT (binQ Tryz.prog .geq 3 t21 (.int .i64 (0)))) fun t22 => condBT t22 (TM.pure (.ret, [a0, t1, (.int .i64 (3)), (.bool false), (.int .i64 (0))])) (TM.bind (pureT (M.lift (nilChk a0))) fun t23 => TM.bind (pureT (M.lift (addP 0 t23))) fun t24 => TM.bind (pureT (M.lift (addP 2 t24))) fun t25 => TM.bind (pureT (load Tryz.prog 3 t25)) fun t26 => TM.bind (liftT (binQ Tryz.prog .add 3 t26 (.int .i64 (1)))) fun t27 => TM.bind (pureT (M.lift (nilChk a0))) fun t28 => TM.bind (pureT (M.lift (addP 23 t28))) fun t29 => TM.bind (stepT (store 1 t29 t27) (idsL none [t29, t27])) fun t30 => TM.pure (.normal, [a0, t1, (.int .i64 (0)), (.bool true), (.int .i64 (0))]))) (TM.bind (liftT (binQ Tryz.prog .eql 3 t10 (.int .i64 (12)))) fun t31 => condBT t31 (TM.bind (pureT (M.lift (nilChk a0))) fun t32 => TM.bind (pureT (M.lift (addP 23 t32))) fun t33 => TM.bind (pureT (load Tryz.prog 3 t33)) fun t34 => TM.bind (liftT (binQ Tryz.prog .lss 3 t34 (.int .i64 (0)))) fun t35 => condBT t35 (TM.pure (.ret, [a0, t1, (.int .i64 (3)), (.bool false), (.int .i64 (0))])) (TM.bind (pureT (M.lift (nilChk a0))) fun t36 => TM.bind (pureT (M.lift (addP 23 t36))) fun t37 => TM.bind (pureT (load Tryz.prog 3 t37)) fun t38 => TM.bind (pureT (M.lift (nilChk a0))) fun t39 => TM.bind (pureT (M.lift (addP 0 t39))) fun t40 => TM.bind (pureT (M.lift (addP 2 t40))) fun t41 => TM.bind (stepT (store 1 t41 t38) (idsL none [t41, t38])) fun t42 => TM.bind (pureT (M.lift (nilChk a0))) fun t43 => TM.bind (pureT (M.lift (addP 23 t43))) fun t44 => TM.bind (stepT (store 1 t44 (.int .i64 (-1))) (idsL none [t44, (.int .i64 (-1))])) fun t45 => TM.pure (.ret, [a0, t1, (.int .i64 (0)), (.bool false), (.int .i64 (0))]))) (TM.bind (pureT (load Tryz.prog 158 t1)) fun t46 => TM.bind (call 156 [a0, t46, t7, t8]) fun t47 => TM.pure (.normal, [a0, t1, (.int .i64 (0)), (.bool false), t47]))) : TM R) fun r48 => TM.pure (r48.1, [(r48.2.getD 0 junk), (r48.2.getD 1 junk), (r48.2.getD 2 junk), (r48.2.getD 3 junk), (r48.2.getD 4 junk)])) : TM R) fun r49 => TM.pure (r49.1, [(r49.2.getD 0 junk), (r49.2.getD 1 junk), (r49.2.getD 2 junk), (r49.2.getD 3 junk), (r49.2.getD 4 junk)])) : TM R) fun r50 => TM.pure (r50.1, [(r50.2.getD 0 junk), (r50.2.getD 1 junk), (r50.2.getD 2 junk), (r50.2.getD 3 junk), (r50.2.getD 4 junk)])) : TM R) fun r51 => TM.pure (r51.1, [(r51.2.getD 0 junk), (r51.2.getD 1 junk), (r51.2.getD 2 junk), (r51.2.getD 3 junk), (r51.2.getD 4 junk)])) : TM R) fun r52 => exKT r52.1 (TM.bind (liftT (binQ Tryz.prog .neq 3 (r52.2.getD 4 junk) (.int .i64 (0)))) fun t54 => condBT t54 (TM.pure (r52.2.getD 4 junk)) (TM.bind (pureT (M.lift (nilChk (r52.2.getD 0 junk)))) fun t55 => TM.bind (pureT (M.lift (addP 0 t55))) fun t56 => TM.bind (pureT (M.lift (addP 2 t56))) fun t57 => TM.bind (pureT (load Tryz.prog 3 t57)) fun t58 => TM.bind (liftT (binQ Tryz.prog .add 3 t58 (.int .i64 (1)))) fun t59 => TM.bind (pureT (M.lift (nilChk (r52.2.getD 0 junk)))) fun t60 => TM.bind (pureT (M.lift (addP 0 t60))) fun t61 => TM.bind (pureT (M.lift (addP 2 t61))) fun t62 => TM.bind (stepT (store 1 t62 t59) (idsL none [t62, t59])) fun t63 => TM.bind (condBT (r52.2.getD 3 junk) (TM.bind (pureT (M.lift (addP 10 (r52.2.getD 1 junk)))) fun t64 => TM.bind (pureT (load Tryz.prog 3 t64)) fun t65 => TM.bind (pureT (M.lift (nilChk (r52.2.getD 0 junk)))) fun t66 => TM.bind (pureT (M.lift (addP 0 t66))) fun t67 => TM.bind (pureT (M.lift (addP 2 t67))) fun t68 => TM.bind (stepT (store 1 t68 t65) (idsL none [t68, t65])) fun t69 => TM.pure (.normal, [])) (TM.pure (.normal, [])) : TM R) fun r70 => onlyNT r70.1 (TM.pure (.int .i64 (0))))) (TM.pure (r52.2.getD 2 junk)) (fun j53 => (bif Nat.beq j53 0 then TM.bind (liftT (binQ Tryz.prog .neq 3 (r52.2.getD 4 junk) (.int .i64 (0)))) fun t71 => condBT t71 (TM.pure (r52.2.getD 4 junk)) (TM.bind (pureT (M.lift (nilChk (r52.2.getD 0 junk)))) fun t72 => TM.bind (pureT (M.lift (addP 0 t72))) fun t73 => TM.bind (pureT (M.lift (addP 2 t73))) fun t74 => TM.bind (pureT (load Tryz.prog 3 t74)) fun t75 => TM.bind (liftT (binQ Tryz.prog .add 3 t75 (.int .i64 (1)))) fun t76 => TM.bind (pureT (M.lift (nilChk (r52.2.getD 0 junk)))) fun t77 => TM.bind (pureT (M.lift (addP 0 t77))) fun t78 => TM.bind (pureT (M.lift (addP 2 t78))) fun t79 => TM.bind (stepT (store 1 t79 t76) (idsL none [t79, t76])) fun t80 => TM.bind (condBT (r52.2.getD 3 junk) (TM.bind (pureT (M.lift (addP 10 (r52.2.getD 1 junk)))) fun t81 => TM.bind (pureT (load Tryz.prog 3 t81)) fun t82 => TM.bind (pureT (M.lift (nilChk (r52.2.getD 0 junk)))) fun t83 => TM.bind (pureT (M.lift (addP 0 t83))) fun t84 => TM.bind (pureT (M.lift (addP 2 t84))) fun t85 => TM.bind (stepT (store 1 t85 t82) (idsL none [t85, t82])) fun t86 => TM.pure (.normal, [])) (TM.pure (.normal, [])) : TM R) fun r87 => onlyNT r87.1 (TM.pure (.int .i64 (0)))) else TM.fail))
  | _ => TM.fail
theorem q_77_eq (call : CallT) (lp : LoopT) (a0 : Value) (a1 : Value) : evBodyT Tryz.prog call lp ann_77 Tryz.f77 [a0, a1] = q_77 call lp [a0, a1] := by kernel_rfl
theorem q_77_ok : QOk Tryz.prog annS 77 q_77 := by
  refine ⟨Tryz.f77, by kernel_rfl, fun call lp args T r h => ?_⟩
  have ha : annS 77 = ann_77 := by kernel_rfl
  rw [ha]
  unfold q_77 at h
  split at h
  · rw [q_77_eq]; exact h
  · cases h

noncomputable def q_78 : QFn := fun call lp args => match args with
  | [a0] =>
    TM.bind (pureT (lenT (Tryz.prog.underlying 38) a0)) fun t1 => TM.bind (liftT (binQ Tryz.prog .lss 3 t1 (.int .i64 (2)))) fun t2 => condBT t2 (TM.pure a0) (TM.bind (lp (fun vs3 => TM.bind (pureT (lenT (Tryz.prog.underlying 38) (vs3.getD 0 junk))) fun t4 => TM.bind (liftT (binQ Tryz.prog .lss 3 (vs3.getD 2 junk) t4)) fun t5 => condBT t5 (TM.bind (reserveT 10) fun base6 => TM.bind (pureT (M.lift (indexS 1 (vs3.getD 0 junk) (vs3.getD 2 junk)))) fun t7 => TM.bind (pureT (load Tryz.prog 3 t7)) fun t8 => TM.bind (liftT (binQ Tryz.prog .sub 3 (vs3.getD 2 junk) (.int .i64 (1)))) fun t9 => TM.bind (pureT (M.lift (indexS 1 (vs3.getD 0 junk) t9))) fun t10 => TM.bind (pureT (load Tryz.prog 3 t10)) fun t11 => TM.bind (liftT (binQ Tryz.prog .eql 3 t8 t11)) fun t12 => condBT t12 (TM.bind (pureT (M.lift (sliceSl 1 (vs3.getD 0 junk) (some (vs3.getD 2 junk)) none none))) fun t13 => TM.bind (lp (fun vs14 => TM.bind (pureT (lenT (Tryz.prog.underlying 38) (vs14.getD 2 junk))) fun t15 => TM.bind (liftT (binQ Tryz.prog .lss 3 (vs14.getD 3 junk) t15)) fun t16 => condBT t16 (TM.bind (TM.bind (reserveT 10) fun base17 => TM.bind (pureT (M.lift (indexS 1 (vs14.getD 2 junk) (vs14.getD 3 junk)))) fun t18 => TM.bind (pureT (load Tryz.prog 3 t18)) fun t19 => TM.bind (liftT (binQ Tryz.prog .sub 3 (vs14.getD 3 junk) (.int .i64 (1)))) fun t20 => TM.bind (pureT (M.lift (indexS 1 (vs14.getD 2 junk) t20))) fun t21 => TM.bind (pureT (load Tryz.prog 3 t21)) fun t22 => TM.bind (liftT (binQ Tryz.prog .neq 3 t19 t22)) fun t23 => TM.bind (condBT t23 (TM.bind (pureT (M.lift (indexS 1 (vs14.getD 2 junk) (vs14.getD 3 junk)))) fun t24 => TM.bind (pureT (load Tryz.prog 3 t24)) fun t25 => TM.bind (pureT (M.lift (indexS 1 (vs14.getD 0 junk) (vs14.getD 1 junk)))) fun t26 => TM.bind (stepT (store 1 t26 t25) (idsL none [t26, t25])) fun t27 => TM.bind (liftT (binQ Tryz.prog .add 3 (vs14.getD 1 junk) (.int .i64 (1)))) fun t28 => TM.pure (.normal, [(vs14.getD 0 junk), t28, (vs14.getD 2 junk), (vs14.getD 3 junk)])) (TM.pure (.normal, [(vs14.getD 0 junk), (vs14.getD 1 junk), (vs14.getD 2 junk), (vs14.getD 3 junk)])) : TM R) fun r29 => onlyNT r29.1 (TM.pure (.normal, [(r29.2.getD 0 junk), (r29.2.getD 1 junk), (r29.2.getD 2 junk), (r29.2.getD 3 junk)])) : TM R) fun r30 => onlyNT (unblk 3 r30.1) (TM.bind (liftT (binQ Tryz.prog .add 3 (r30.2.getD 3 junk) (.int .i64 (1)))) fun t31 => TM.pure (.normal, [(r30.2.getD 0 junk), (r30.2.getD 1 junk), (r30.2.getD 2 junk), t31]))) (TM.pure (.exit 2, [(vs14.getD 0 junk), (vs14.getD 1 junk), (vs14.getD 2 junk), (vs14.getD 3 junk)]))) [(vs3.getD 0 junk), (vs3.getD 2 junk), t13, (.int .i64 (1))] : TM R) fun r32 => onlyNT (unblk 2 r32.1) (TM.bind (pureT (M.lift (sliceSl 1 (r32.2.getD 0 junk) (some (r32.2.getD 1 junk)) none none))) fun t33 => TM.bind (stepT (clearS [(.int .i64 (0))] t33) (idsL none [t33])) fun t34 => TM.bind (pureT (M.lift (sliceSl 1 (r32.2.getD 0 junk) none (some (r32.2.getD 1 junk)) none))) fun t35 => TM.pure (.ret, [(r32.2.getD 0 junk), t35, (r32.2.getD 1 junk)]))) (TM.bind (liftT (binQ Tryz.prog .add 3 (vs3.getD 2 junk) (.int .i64 (1)))) fun t36 => TM.pure (.normal, [(vs3.getD 0 junk), (vs3.getD 1 junk), t36]))) (TM.pure (.exit 0, [(vs3.getD 0 junk), (vs3.getD 1 junk), (vs3.getD 2 junk)]))) [a0, (.slice none 0 0), (.int .i64 (1))] : TM R) fun r37 => exKT (unblk 0 r37.1) (TM.pure (r37.2.getD 0 junk)) (TM.pure (r37.2.getD 1 junk)) (fun j38 => TM.fail))
  | _ => TM.fail
theorem q_78_eq (call : CallT) (lp : LoopT) (a0 : Value) : evBodyT Tryz.prog call lp ann_78 Tryz.f78 [a0] = q_78 call lp [a0] := by kernel_rfl
theorem q_78_ok : QOk Tryz.prog annS 78 q_78 := by
  refine ⟨Tryz.f78, by kernel_rfl, fun call lp args T r h => ?_⟩
  have ha : annS 78 = ann_78 := by kernel_rfl
  rw [ha]
  unfold q_78 at h
  split at h
  · rw [q_78_eq]; exact h
  · cases h

noncomputable def q_79 : QFn := fun call lp args => match args with
  | [a0, a1, a2] =>
    TM.bind (stepT (box none 89 a0) (idsL none [a0])) fun t1 => TM.bind (reserveT 10) fun base2 => TM.bind (pureT (load Tryz.prog 59 a1)) fun t3 => TM.bind (pureT (load Tryz.prog 89 t1)) fun t4 => TM.bind (call 34 [t4]) fun t5 => TM.bind (againT (pureT (load Tryz.prog 59 a1)) t3) fun _ => TM.bind (pureT (lookupM .str (.agg #[(.slice none 0 0), (.slice none 0 0), (.slice none 0 0)]) true t3 t5)) fun t6 => TM.bind (pureT (M.lift (extr 0 t6))) fun t7 => TM.bind (pureT (M.lift (extr 1 t6))) fun t8 => TM.bind (stepT (M.bind (newRow (some (base2 + 7)) 89 [(.slice none 0 0), (.slice none 0 0), (.slice none 0 0)]) fun b => M.pure (.pointer (some ⟨b, 0, none⟩))) (idsL (some (base2 + 7)) [])) fun t9 => TM.bind (stepT (store 3 t9 t7) (idsL (some (base2 + 8)) [t9, t7])) fun t10 => TM.bind (pureT (M.lift (unV .not t8))) fun t11 => TM.bind (condBT t11 (TM.bind (reserveT 5) fun base12 => TM.bind (pureT (load Tryz.prog 59 a1)) fun t13 => TM.bind (pureT (load Tryz.prog 89 t1)) fun t14 => TM.bind (pureT (load Tryz.prog 89 t1)) fun t15 => TM.bind (call 34 [t14]) fun t16 => TM.bind (againT (pureT (load Tryz.prog 89 t1)) t15) fun _ => TM.bind (againT (pureT (load Tryz.prog 59 a1)) t13) fun _ => TM.bind (stepT (updateM .str t13 t16 t15) (idsL (some (base12 + 4)) [t13, t16, t15])) fun t17 => TM.bind (pureT (load Tryz.prog 98 a2)) fun t18 => TM.bind (pureT (load Tryz.prog 89 t1)) fun t19 => TM.bind (stepT (buildSliceM Tryz.prog none 98 1 [(0, t19)]) (idsL none [t19])) fun t20 => TM.bind (stepT (append none 89 3 (Tryz.prog.bytesOf 89) t18 t20) (idsL none [t18, t20])) fun t21 => TM.bind (stepT (store 1 a2 t21) (idsL none [a2, t21])) fun t22 => TM.pure (.normal, [])) (TM.pure (.normal, [])) : TM R) fun r23 => onlyNT r23.1 (TM.pure (.tuple #[]))
  | _ => TM.fail
theorem q_79_eq (call : CallT) (lp : LoopT) (a0 : Value) (a1 : Value) (a2 : Value) : evBodyT Tryz.prog call lp ann_79 Tryz.f79 [a0, a1, a2] = q_79 call lp [a0, a1, a2] := by kernel_rfl
theorem q_79_ok : QOk Tryz.prog annS 79 q_79 := by
  refine ⟨Tryz.f79, by kernel_rfl, fun call lp args T r h => ?_⟩
  have ha : annS 79 = ann_79 := by kernel_rfl
  rw [ha]
  unfold q_79 at h
  split at h
  · rw [q_79_eq]; exact h
  · cases h

noncomputable def q_80 : QFn := fun call lp args => match args with
  | [a0, a1, a2, a3, a4] =>
    TM.bind (stepT (box none 44 a3) (idsL none [a3])) fun t1 => TM.bind (pureT (load Tryz.prog 44 t1)) fun t2 => TM.bind (call 157 [a0, a1, a2, t2, a4]) fun t3 => TM.bind (pureT (M.lift (extr 0 t3))) fun t4 => TM.bind (pureT (M.lift (extr 1 t3))) fun t5 => TM.bind (pureT (M.lift (extr 2 t3))) fun t6 => TM.bind (stepT (M.bind (newRow none 117 [(.slice none 0 0), .nilFunc, (.slice none 0 0)]) fun b => M.pure (.pointer (some ⟨b, 0, none⟩))) (idsL none [])) fun t7 => TM.bind (stepT (store 3 t7 t4) (idsL none [t7, t4])) fun t8 => TM.bind (liftT (binQ Tryz.prog .neq 32 t6 (.int .i64 (0)))) fun t9 => condBT t9 (TM.pure (.tuple #[(.slice none 0 0), t6])) (TM.bind (pureT (lenT (Tryz.prog.underlying 254) t5)) fun t10 => TM.bind (lp (fun vs11 => TM.bind (liftT (binQ Tryz.prog .lss 3 (vs11.getD 3 junk) (vs11.getD 2 junk))) fun t12 => condBT t12 (TM.bind (TM.bind (pureT (M.lift (indexS 2 (vs11.getD 1 junk) (vs11.getD 3 junk)))) fun t13 => TM.bind (pureT (load Tryz.prog 258 t13)) fun t14 => TM.bind (stepT (M.bind (newRow none 258 [(.int .i64 (0)), (.slice none 0 0)]) fun b => M.pure (.pointer (some ⟨b, 0, none⟩))) (idsL none [])) fun t15 => TM.bind (stepT (store 2 t15 t14) (idsL none [t15, t14])) fun t16 => TM.bind (pureT (M.lift (addP 0 t15))) fun t17 => TM.bind (pureT (load Tryz.prog 3 t17)) fun t18 => TM.bind (stepT (buildSliceM Tryz.prog none 38 1 [(0, t18)]) (idsL none [t18])) fun t19 => TM.bind (stepT (append none 3 1 (Tryz.prog.bytesOf 3) (vs11.getD 0 junk) t19) (idsL none [(vs11.getD 0 junk), t19])) fun t20 => TM.pure (.normal, [t20, (vs11.getD 1 junk), (vs11.getD 2 junk), (vs11.getD 3 junk)]) : TM R) fun r21 => onlyNT (unblk 1 r21.1) (TM.bind (liftT (binQ Tryz.prog .add 3 (r21.2.getD 3 junk) (.int .i64 (1)))) fun t22 => TM.pure (.normal, [(r21.2.getD 0 junk), (r21.2.getD 1 junk), (r21.2.getD 2 junk), t22]))) (TM.pure (.exit 0, [(vs11.getD 0 junk), (vs11.getD 1 junk), (vs11.getD 2 junk), (vs11.getD 3 junk)]))) [(.slice none 0 0), t5, t10, (.int .i64 (0))] : TM R) fun r23 => onlyNT (unblk 0 r23.1) (TM.pure (.tuple #[(r23.2.getD 0 junk), (.int .i64 (0))])))
  | _ => TM.fail
theorem q_80_eq (call : CallT) (lp : LoopT) (a0 : Value) (a1 : Value) (a2 : Value) (a3 : Value) (a4 : Value) : evBodyT Tryz.prog call lp ann_80 Tryz.f80 [a0, a1, a2, a3, a4] = q_80 call lp [a0, a1, a2, a3, a4] := by kernel_rfl
theorem q_80_ok : QOk Tryz.prog annS 80 q_80 := by
  refine ⟨Tryz.f80, by kernel_rfl, fun call lp args T r h => ?_⟩
  have ha : annS 80 = ann_80 := by kernel_rfl
  rw [ha]
  unfold q_80 at h
  split at h
  · rw [q_80_eq]; exact h
  · cases h

noncomputable def q_81 : QFn := fun call lp args => match args with
  | [a0, a1, a2, a3, a4, a5] =>
    TM.bind (stepT (box none 44 a3) (idsL none [a3])) fun t1 => TM.bind (stepT (box none 3 a5) (idsL none [a5])) fun t2 => TM.bind (pureT (load Tryz.prog 44 t1)) fun t3 => TM.bind (call 157 [a0, a1, a2, t3, a4]) fun t4 => TM.bind (pureT (M.lift (extr 0 t4))) fun t5 => TM.bind (pureT (M.lift (extr 1 t4))) fun t6 => TM.bind (pureT (M.lift (extr 2 t4))) fun t7 => TM.bind (stepT (M.bind (newRow none 117 [(.slice none 0 0), .nilFunc, (.slice none 0 0)]) fun b => M.pure (.pointer (some ⟨b, 0, none⟩))) (idsL none [])) fun t8 => TM.bind (stepT (store 3 t8 t5) (idsL none [t8, t5])) fun t9 => TM.bind (liftT (binQ Tryz.prog .neq 32 t7 (.int .i64 (0)))) fun t10 => condBT t10 (TM.pure (.tuple #[(.slice none 0 0), (.bool false), t7])) (TM.bind (pureT (M.pure (.func (.func 159) #[] #[t2]))) fun t11 => TM.bind (call 158 [t6, t11]) fun t12 => TM.bind (liftT (binQ Tryz.prog .lss 3 t12 (.int .i64 (0)))) fun t13 => condBT t13 (TM.pure (.tuple #[(.slice none 0 0), (.bool false), (.int .i64 (0))])) (TM.bind (reserveT 9) fun base14 => TM.bind (pureT (M.lift (addP 1 t8))) fun t15 => TM.bind (pureT (load Tryz.prog 80 t15)) fun t16 => TM.bind (pureT (M.lift (indexS 2 t6 t12))) fun t17 => TM.bind (pureT (M.lift (addP 1 t17))) fun t18 => TM.bind (pureT (load Tryz.prog 38 t18)) fun t19 => TM.bind (callVT call t16 [t19]) fun t20 => TM.bind (pureT (M.lift (unV .not t20))) fun t21 => condBT t21 (TM.pure (.tuple #[(.slice none 0 0), (.bool false), (.int .i64 (1))])) (TM.bind (pureT (M.lift (indexS 2 t6 t12))) fun t22 => TM.bind (pureT (M.lift (addP 1 t22))) fun t23 => TM.bind (pureT (load Tryz.prog 38 t23)) fun t24 => TM.pure (.tuple #[t24, (.bool true), (.int .i64 (0))]))))
  | _ => TM.fail
theorem q_81_eq (call : CallT) (lp : LoopT) (a0 : Value) (a1 : Value) (a2 : Value) (a3 : Value) (a4 : Value) (a5 : Value) : evBodyT Tryz.prog call lp ann_81 Tryz.f81 [a0, a1, a2, a3, a4, a5] = q_81 call lp [a0, a1, a2, a3, a4, a5] := by kernel_rfl
theorem q_81_ok : QOk Tryz.prog annS 81 q_81 := by
  refine ⟨Tryz.f81, by kernel_rfl, fun call lp args T r h => ?_⟩
  have ha : annS 81 = ann_81 := by kernel_rfl
  rw [ha]
  unfold q_81 at h
  split at h
  · rw [q_81_eq]; exact h
  · cases h

noncomputable def q_82 : QFn := fun call lp args => match args with
  | [a0] =>
    TM.bind (liftT (binQ Tryz.prog .eql 62 a0 (.pointer none))) fun t1 => TM.bind (guardT (wantV t1 false) (pureT (M.pure a0))) fun t2 => TM.bind (guardT (wantV t1 false) (pureT (M.lift (nilChk t2)))) fun t3 => TM.bind (guardT (wantV t1 false) (pureT (M.lift (addP 3 t3)))) fun t4 => TM.bind (guardT (wantV t1 false) (pureT (load Tryz.prog 167 t4))) fun t5 => TM.bind (guardT (wantV t1 false) (liftT (binQ Tryz.prog .eql 167 t5 (.map none)))) fun t6 => TM.bind (pureT (M.lift (pickV t1 (.bool true) t6))) fun t7 => TM.pure t7
  | _ => TM.fail
theorem q_82_eq (call : CallT) (lp : LoopT) (a0 : Value) : evBodyT Tryz.prog call lp ann_82 Tryz.f82 [a0] = q_82 call lp [a0] := by kernel_rfl
theorem q_82_ok : QOk Tryz.prog annS 82 q_82 := by
  refine ⟨Tryz.f82, by kernel_rfl, fun call lp args T r h => ?_⟩
  have ha : annS 82 = ann_82 := by kernel_rfl
  rw [ha]
  unfold q_82 at h
  split at h
  · rw [q_82_eq]; exact h
  · cases h

noncomputable def q_83 : QFn := fun call lp args => match args with
  | [a0] =>
    TM.bind (liftT (binQ Tryz.prog .eql 167 a0 (.map none))) fun t1 => condBT t1 (TM.pure (.map none)) (TM.bind (pureT (M.pure (.iface 167 a0))) fun t2 => TM.bind (call 160 [t2]) fun t3 => TM.bind (stepT (M.lift (assertV Tryz.prog 167 t3)) (idsL none [t3])) fun t4 => TM.pure t4)
  | _ => TM.fail
theorem q_83_eq (call : CallT) (lp : LoopT) (a0 : Value) : evBodyT Tryz.prog call lp ann_83 Tryz.f83 [a0] = q_83 call lp [a0] := by kernel_rfl
theorem q_83_ok : QOk Tryz.prog annS 83 q_83 := by
  refine ⟨Tryz.f83, by kernel_rfl, fun call lp args T r h => ?_⟩
  have ha : annS 83 = ann_83 := by kernel_rfl
  rw [ha]
  unfold q_83 at h
  split at h
  · rw [q_83_eq]; exact h
  · cases h

noncomputable def q_84 : QFn := fun call lp args => match args with
  | [a0] =>
    TM.bind (liftT (binQ Tryz.prog .eql 168 a0 (.slice none 0 0))) fun t1 => condBT t1 (TM.pure (.slice none 0 0)) (TM.bind (stepT (buildSliceM Tryz.prog none 168 0 []) (idsL none [])) fun t2 => TM.bind (stepT (append none 174 2 (Tryz.prog.bytesOf 174) t2 a0) (idsL none [t2, a0])) fun t3 => TM.pure t3)
  | _ => TM.fail
theorem q_84_eq (call : CallT) (lp : LoopT) (a0 : Value) : evBodyT Tryz.prog call lp ann_84 Tryz.f84 [a0] = q_84 call lp [a0] := by kernel_rfl
theorem q_84_ok : QOk Tryz.prog annS 84 q_84 := by
  refine ⟨Tryz.f84, by kernel_rfl, fun call lp args T r h => ?_⟩
  have ha : annS 84 = ann_84 := by kernel_rfl
  rw [ha]
  unfold q_84 at h
  split at h
  · rw [q_84_eq]; exact h
  · cases h

noncomputable def q_85 : QFn := fun call lp args => match args with
  | [a0, a1] =>
    TM.bind (pureT (lenT (Tryz.prog.underlying 71) a0)) fun t1 => TM.bind (lp (fun vs2 => TM.bind (liftT (binQ Tryz.prog .lss 3 (vs2.getD 4 junk) (vs2.getD 3 junk))) fun t3 => condBT t3 (TM.bind (pureT (M.lift (indexS 9 (vs2.getD 0 junk) (vs2.getD 4 junk)))) fun t4 => TM.bind (pureT (load Tryz.prog 75 t4)) fun t5 => TM.bind (callVT call (vs2.getD 1 junk) [t5]) fun t6 => condBT t6 (TM.pure (.ret, [(vs2.getD 0 junk), (vs2.getD 1 junk), (vs2.getD 4 junk), (vs2.getD 3 junk), (vs2.getD 4 junk)])) (TM.bind (liftT (binQ Tryz.prog .add 3 (vs2.getD 4 junk) (.int .i64 (1)))) fun t7 => TM.pure (.normal, [(vs2.getD 0 junk), (vs2.getD 1 junk), (vs2.getD 2 junk), (vs2.getD 3 junk), t7]))) (TM.pure (.exit 0, [(vs2.getD 0 junk), (vs2.getD 1 junk), (vs2.getD 2 junk), (vs2.getD 3 junk), (vs2.getD 4 junk)]))) [a0, a1, (.int .i64 (0)), t1, (.int .i64 (0))] : TM R) fun r8 => exKT (unblk 0 r8.1) (TM.pure (.int .i64 (-1))) (TM.pure (r8.2.getD 2 junk)) (fun j9 => TM.fail)
  | _ => TM.fail
theorem q_85_eq (call : CallT) (lp : LoopT) (a0 : Value) (a1 : Value) : evBodyT Tryz.prog call lp ann_85 Tryz.f85 [a0, a1] = q_85 call lp [a0, a1] := by kernel_rfl
theorem q_85_ok : QOk Tryz.prog annS 85 q_85 := by
  refine ⟨Tryz.f85, by kernel_rfl, fun call lp args T r h => ?_⟩
  have ha : annS 85 = ann_85 := by kernel_rfl
  rw [ha]
  unfold q_85 at h
  split at h
  · rw [q_85_eq]; exact h
  · cases h

noncomputable def q_86 : QFn := fun call lp args => match args with
  | [a0, a1] =>
    TM.bind (stepT (box none 75 a0) (idsL none [a0])) fun t1 => TM.bind (pureT (M.lift (addP 0 t1))) fun t2 => TM.bind (pureT (load Tryz.prog 9 t2)) fun t3 => TM.bind (pureT (load Tryz.prog 9 a1)) fun t4 => TM.bind (liftT (binQ Tryz.prog .eql 9 t3 t4)) fun t5 => TM.pure t5
  | _ => TM.fail
theorem q_86_eq (call : CallT) (lp : LoopT) (a0 : Value) (a1 : Value) : evBodyT Tryz.prog call lp ann_86 Tryz.f86 [a0, a1] = q_86 call lp [a0, a1] := by kernel_rfl
theorem q_86_ok : QOk Tryz.prog annS 86 q_86 := by
  refine ⟨Tryz.f86, by kernel_rfl, fun call lp args T r h => ?_⟩
  have ha : annS 86 = ann_86 := by kernel_rfl
  rw [ha]
  unfold q_86 at h
  split at h
  · rw [q_86_eq]; exact h
  · cases h

noncomputable def q_87 : QFn := fun call lp args => match args with
  | [a0, a1] =>
    TM.bind (pureT (lenT (Tryz.prog.underlying 38) a0)) fun t1 => TM.bind (lp (fun vs2 => TM.bind (liftT (binQ Tryz.prog .lss 3 (vs2.getD 4 junk) (vs2.getD 3 junk))) fun t3 => condBT t3 (TM.bind (TM.bind (pureT (M.lift (indexS 1 (vs2.getD 2 junk) (vs2.getD 4 junk)))) fun t4 => TM.bind (pureT (load Tryz.prog 3 t4)) fun t5 => TM.bind (callVT call (vs2.getD 0 junk) [t5]) fun t6 => TM.bind (stepT (buildSliceM Tryz.prog none 38 1 [(0, t6)]) (idsL none [t6])) fun t7 => TM.bind (stepT (append none 3 1 (Tryz.prog.bytesOf 3) (vs2.getD 1 junk) t7) (idsL none [(vs2.getD 1 junk), t7])) fun t8 => TM.pure (.normal, [(vs2.getD 0 junk), t8, (vs2.getD 2 junk), (vs2.getD 3 junk), (vs2.getD 4 junk)]) : TM R) fun r9 => onlyNT (unblk 1 r9.1) (TM.bind (liftT (binQ Tryz.prog .add 3 (r9.2.getD 4 junk) (.int .i64 (1)))) fun t10 => TM.pure (.normal, [(r9.2.getD 0 junk), (r9.2.getD 1 junk), (r9.2.getD 2 junk), (r9.2.getD 3 junk), t10]))) (TM.pure (.exit 0, [(vs2.getD 0 junk), (vs2.getD 1 junk), (vs2.getD 2 junk), (vs2.getD 3 junk), (vs2.getD 4 junk)]))) [a1, (.slice none 0 0), a0, t1, (.int .i64 (0))] : TM R) fun r11 => onlyNT (unblk 0 r11.1) (TM.pure (r11.2.getD 1 junk))
  | _ => TM.fail
theorem q_87_eq (call : CallT) (lp : LoopT) (a0 : Value) (a1 : Value) : evBodyT Tryz.prog call lp ann_87 Tryz.f87 [a0, a1] = q_87 call lp [a0, a1] := by kernel_rfl
theorem q_87_ok : QOk Tryz.prog annS 87 q_87 := by
  refine ⟨Tryz.f87, by kernel_rfl, fun call lp args T r h => ?_⟩
  have ha : annS 87 = ann_87 := by kernel_rfl
  rw [ha]
  unfold q_87 at h
  split at h
  · rw [q_87_eq]; exact h
  · cases h

noncomputable def q_88 : QFn := fun call lp args => match args with
  | [a0, a1] =>
    TM.bind (call 42 [a0, (.int .i64 (0))]) fun t1 => condBT t1 (TM.pure (.tuple #[(.int .i64 (0)), (.int .i64 (1))])) (TM.bind (pureT (M.lift (nilChk a0))) fun t2 => TM.bind (pureT (M.lift (addP 7 t2))) fun t3 => TM.bind (pureT (load Tryz.prog 62 t3)) fun t4 => TM.bind (call 161 [t4, a1]) fun t5 => TM.bind (pureT (M.lift (extr 0 t5))) fun t6 => TM.bind (pureT (M.lift (extr 1 t5))) fun t7 => TM.bind (liftT (binQ Tryz.prog .neq 32 t7 (.int .i64 (0)))) fun t8 => condBT t8 (TM.pure (.tuple #[(.int .i64 (0)), (.int .i64 (1))])) (TM.pure (.tuple #[t6, (.int .i64 (0))])))
  | _ => TM.fail
theorem q_88_eq (call : CallT) (lp : LoopT) (a0 : Value) (a1 : Value) : evBodyT Tryz.prog call lp ann_88 Tryz.f88 [a0, a1] = q_88 call lp [a0, a1] := by kernel_rfl
theorem q_88_ok : QOk Tryz.prog annS 88 q_88 := by
  refine ⟨Tryz.f88, by kernel_rfl, fun call lp args T r h => ?_⟩
  have ha : annS 88 = ann_88 := by kernel_rfl
  rw [ha]
  unfold q_88 at h
  split at h
  · rw [q_88_eq]; exact h
  · cases h

noncomputable def q_91 : QFn := fun call lp args => match args with
  | [a0, a1, a2, a3] =>
    TM.bind (lp (fun vs1 => TM.bind (TM.bind (liftT (binQ Tryz.prog .sub 3 (vs1.getD 2 junk) (vs1.getD 1 junk))) fun t2 => TM.bind (liftT (binQ Tryz.prog .leq 3 t2 (.int .i64 (12)))) fun t3 => condBT t3 (TM.bind (call 163 [(vs1.getD 0 junk), (vs1.getD 1 junk), (vs1.getD 2 junk)]) fun t4 => TM.pure (.ret, [(vs1.getD 0 junk), (vs1.getD 1 junk), (vs1.getD 2 junk), (vs1.getD 3 junk), (vs1.getD 4 junk), (vs1.getD 5 junk)])) (TM.bind (liftT (binQ Tryz.prog .eql 3 (vs1.getD 3 junk) (.int .i64 (0)))) fun t5 => condBT t5 (TM.bind (call 164 [(vs1.getD 0 junk), (vs1.getD 1 junk), (vs1.getD 2 junk)]) fun t6 => TM.pure (.ret, [(vs1.getD 0 junk), (vs1.getD 1 junk), (vs1.getD 2 junk), (vs1.getD 3 junk), (vs1.getD 4 junk), (vs1.getD 5 junk)])) (TM.bind (pureT (M.lift (unV .not (vs1.getD 4 junk)))) fun t7 => TM.bind (condBT t7 (TM.bind (call 165 [(vs1.getD 0 junk), (vs1.getD 1 junk), (vs1.getD 2 junk)]) fun t8 => TM.bind (liftT (binQ Tryz.prog .sub 3 (vs1.getD 3 junk) (.int .i64 (1)))) fun t9 => TM.pure (.normal, [(vs1.getD 0 junk), (vs1.getD 1 junk), (vs1.getD 2 junk), t9, (vs1.getD 4 junk), (vs1.getD 5 junk), t2])) (TM.pure (.normal, [(vs1.getD 0 junk), (vs1.getD 1 junk), (vs1.getD 2 junk), (vs1.getD 3 junk), (vs1.getD 4 junk), (vs1.getD 5 junk), t2])) : TM R) fun r10 => onlyNT r10.1 (TM.bind (call 166 [(r10.2.getD 0 junk), (r10.2.getD 1 junk), (r10.2.getD 2 junk)]) fun t11 => TM.bind (pureT (M.lift (extr 0 t11))) fun t12 => TM.bind (pureT (M.lift (extr 1 t11))) fun t13 => TM.bind (liftT (binQ Tryz.prog .eql 264 t13 (.int .i64 (2)))) fun t14 => TM.bind (condBT t14 (TM.bind (call 167 [(r10.2.getD 0 junk), (r10.2.getD 1 junk), (r10.2.getD 2 junk)]) fun t15 => TM.bind (liftT (binQ Tryz.prog .sub 3 (r10.2.getD 2 junk) (.int .i64 (1)))) fun t16 => TM.bind (liftT (binQ Tryz.prog .sub 3 t12 (r10.2.getD 1 junk))) fun t17 => TM.bind (liftT (binQ Tryz.prog .sub 3 t16 t17)) fun t18 => TM.pure (.normal, [(r10.2.getD 0 junk), (r10.2.getD 1 junk), (r10.2.getD 2 junk), (r10.2.getD 3 junk), (r10.2.getD 4 junk), (r10.2.getD 5 junk), (r10.2.getD 6 junk), t18, (.int .i64 (1))])) (TM.pure (.normal, [(r10.2.getD 0 junk), (r10.2.getD 1 junk), (r10.2.getD 2 junk), (r10.2.getD 3 junk), (r10.2.getD 4 junk), (r10.2.getD 5 junk), (r10.2.getD 6 junk), t12, t13])) : TM R) fun r19 => onlyNT r19.1 (TM.bind (guardT (wantV (r19.2.getD 4 junk) true) (pureT (M.pure (r19.2.getD 5 junk)))) fun t20 => TM.bind (pureT (M.lift (pickV (r19.2.getD 4 junk) t20 (.bool false)))) fun t21 => TM.bind (guardT (wantV t21 true) (pureT (M.pure (r19.2.getD 8 junk)))) fun t22 => TM.bind (guardT (wantV t21 true) (liftT (binQ Tryz.prog .eql 264 t22 (.int .i64 (1))))) fun t23 => TM.bind (pureT (M.lift (pickV t21 t23 (.bool false)))) fun t24 => TM.bind (condBT t24 (TM.bind (call 168 [(r19.2.getD 0 junk), (r19.2.getD 1 junk), (r19.2.getD 2 junk)]) fun t25 => condBT t25 (TM.pure (.ret, [(r19.2.getD 0 junk), (r19.2.getD 1 junk), (r19.2.getD 2 junk), (r19.2.getD 3 junk), (r19.2.getD 4 junk), (r19.2.getD 5 junk), (r19.2.getD 6 junk), (r19.2.getD 7 junk)])) (TM.pure (.normal, [(r19.2.getD 0 junk), (r19.2.getD 1 junk), (r19.2.getD 2 junk), (r19.2.getD 3 junk), (r19.2.getD 4 junk), (r19.2.getD 5 junk), (r19.2.getD 6 junk), (r19.2.getD 7 junk)]))) (TM.pure (.normal, [(r19.2.getD 0 junk), (r19.2.getD 1 junk), (r19.2.getD 2 junk), (r19.2.getD 3 junk), (r19.2.getD 4 junk), (r19.2.getD 5 junk), (r19.2.getD 6 junk), (r19.2.getD 7 junk)])) : TM R) fun r26 => exKT r26.1 (TM.bind (reserveT 15) fun base28 => TM.bind (liftT (binQ Tryz.prog .gtr 3 (r26.2.getD 1 junk) (.int .i64 (0)))) fun t29 => TM.bind (guardT (wantV t29 true) (pureT (M.pure (r26.2.getD 0 junk)))) fun t30 => TM.bind (guardT (wantV t29 true) (pureT (M.pure (r26.2.getD 1 junk)))) fun t31 => TM.bind (guardT (wantV t29 true) (liftT (binQ Tryz.prog .sub 3 t31 (.int .i64 (1))))) fun t32 => TM.bind (guardT (wantV t29 true) (pureT (M.lift (indexS 1 t30 t32)))) fun t33 => TM.bind (guardT (wantV t29 true) (pureT (load Tryz.prog 3 t33))) fun t34 => TM.bind (guardT (wantV t29 true) (pureT (M.pure (r26.2.getD 0 junk)))) fun t35 => TM.bind (guardT (wantV t29 true) (pureT (M.pure (r26.2.getD 7 junk)))) fun t36 => TM.bind (guardT (wantV t29 true) (pureT (M.lift (indexS 1 t35 t36)))) fun t37 => TM.bind (guardT (wantV t29 true) (pureT (load Tryz.prog 3 t37))) fun t38 => TM.bind (guardT (wantV t29 true) (call 169 [t34, t38])) fun t39 => TM.bind (guardT (wantV t29 true) (pureT (M.lift (unV .not t39)))) fun t40 => TM.bind (pureT (M.lift (pickV t29 t40 (.bool false)))) fun t41 => condBT t41 (TM.bind (call 170 [(r26.2.getD 0 junk), (r26.2.getD 1 junk), (r26.2.getD 2 junk), (r26.2.getD 7 junk)]) fun t42 => TM.pure (.exit 1, [(r26.2.getD 0 junk), t42, (r26.2.getD 2 junk), (r26.2.getD 3 junk), (r26.2.getD 4 junk), (r26.2.getD 5 junk)])) (TM.bind (call 171 [(r26.2.getD 0 junk), (r26.2.getD 1 junk), (r26.2.getD 2 junk), (r26.2.getD 7 junk)]) fun t43 => TM.bind (pureT (M.lift (extr 0 t43))) fun t44 => TM.bind (pureT (M.lift (extr 1 t43))) fun t45 => TM.bind (liftT (binQ Tryz.prog .sub 3 t44 (r26.2.getD 1 junk))) fun t46 => TM.bind (liftT (binQ Tryz.prog .sub 3 (r26.2.getD 2 junk) t44)) fun t47 => TM.bind (liftT (binQ Tryz.prog .quo 3 (r26.2.getD 6 junk) (.int .i64 (8)))) fun t48 => TM.bind (liftT (binQ Tryz.prog .lss 3 t46 t47)) fun t49 => TM.bind (condBT t49 (TM.bind (liftT (binQ Tryz.prog .geq 3 t46 t48)) fun t50 => TM.bind (call 91 [(r26.2.getD 0 junk), (r26.2.getD 1 junk), t44, (r26.2.getD 3 junk)]) fun t51 => TM.bind (liftT (binQ Tryz.prog .add 3 t44 (.int .i64 (1)))) fun t52 => TM.pure (.normal, [(r26.2.getD 0 junk), t52, (r26.2.getD 2 junk), (r26.2.getD 3 junk), t50, t45])) (TM.bind (liftT (binQ Tryz.prog .geq 3 t47 t48)) fun t53 => TM.bind (liftT (binQ Tryz.prog .add 3 t44 (.int .i64 (1)))) fun t54 => TM.bind (call 91 [(r26.2.getD 0 junk), t54, (r26.2.getD 2 junk), (r26.2.getD 3 junk)]) fun t55 => TM.pure (.normal, [(r26.2.getD 0 junk), (r26.2.getD 1 junk), t44, (r26.2.getD 3 junk), t53, t45])) : TM R) fun r56 => onlyNT r56.1 (TM.pure (.normal, [(r56.2.getD 0 junk), (r56.2.getD 1 junk), (r56.2.getD 2 junk), (r56.2.getD 3 junk), (r56.2.getD 4 junk), (r56.2.getD 5 junk)])))) (TM.pure (.ret, [(r26.2.getD 0 junk), (r26.2.getD 1 junk), (r26.2.getD 2 junk), (r26.2.getD 3 junk), (r26.2.getD 4 junk), (r26.2.getD 5 junk)])) (fun j27 => TM.pure (.exit j27, [(r26.2.getD 0 junk), (r26.2.getD 1 junk), (r26.2.getD 2 junk), (r26.2.getD 3 junk), (r26.2.getD 4 junk), (r26.2.getD 5 junk)])))))) : TM R) fun r57 => TM.pure ((unblk 1 r57.1), [(r57.2.getD 0 junk), (r57.2.getD 1 junk), (r57.2.getD 2 junk), (r57.2.getD 3 junk), (r57.2.getD 4 junk), (r57.2.getD 5 junk)])) [a0, a1, a2, a3, (.bool true), (.bool true)] : TM R) fun r58 => exKT (unblk 0 r58.1) (TM.pure (.tuple #[])) (TM.pure (.tuple #[])) (fun j59 => TM.fail)
  | _ => TM.fail
theorem q_91_eq (call : CallT) (lp : LoopT) (a0 : Value) (a1 : Value) (a2 : Value) (a3 : Value) : evBodyT Tryz.prog call lp ann_91 Tryz.f91 [a0, a1, a2, a3] = q_91 call lp [a0, a1, a2, a3] := by kernel_rfl
theorem q_91_ok : QOk Tryz.prog annS 91 q_91 := by
  refine ⟨Tryz.f91, by kernel_rfl, fun call lp args T r h => ?_⟩
  have ha : annS 91 = ann_91 := by kernel_rfl
  rw [ha]
  unfold q_91 at h
  split at h
  · rw [q_91_eq]; exact h
  · cases h

noncomputable def q_92 : QFn := fun call lp args => match args with
  | [a0] =>
    condBT (.bool false) (TM.bind (pureT (convInt .u32 a0)) fun t1 => TM.bind (call 172 [t1]) fun t2 => TM.pure t2) (TM.bind (call 173 [a0]) fun t3 => TM.pure t3)
  | _ => TM.fail
theorem q_92_eq (call : CallT) (lp : LoopT) (a0 : Value) : evBodyT Tryz.prog call lp ann_92 Tryz.f92 [a0] = q_92 call lp [a0] := by kernel_rfl
theorem q_92_ok : QOk Tryz.prog annS 92 q_92 := by
  refine ⟨Tryz.f92, by kernel_rfl, fun call lp args T r h => ?_⟩
  have ha : annS 92 = ann_92 := by kernel_rfl
  rw [ha]
  unfold q_92 at h
  split at h
  · rw [q_92_eq]; exact h
  · cases h

noncomputable def q_94 : QFn := fun call lp args => match args with
  | [a0, a1] =>
    TM.bind (stepT (box none 3 a0) (idsL none [a0])) fun t1 => TM.bind (stepT (box none 3 a1) (idsL none [a1])) fun t2 => TM.bind (pureT (M.pure (.func (.func 175) #[] #[t1, t2]))) fun t3 => TM.pure t3
  | _ => TM.fail
theorem q_94_eq (call : CallT) (lp : LoopT) (a0 : Value) (a1 : Value) : evBodyT Tryz.prog call lp ann_94 Tryz.f94 [a0, a1] = q_94 call lp [a0, a1] := by kernel_rfl
theorem q_94_ok : QOk Tryz.prog annS 94 q_94 := by
  refine ⟨Tryz.f94, by kernel_rfl, fun call lp args T r h => ?_⟩
  have ha : annS 94 = ann_94 := by kernel_rfl
  rw [ha]
  unfold q_94 at h
  split at h
  · rw [q_94_eq]; exact h
  · cases h

noncomputable def q_95 : QFn := fun call lp args => match args with
  | [a0, a1, a2] =>
    TM.bind (stepT (box none 191 a2) (idsL none [a2])) fun t1 => TM.bind (stepT (M.bind (newRow none 189 [(.string ⟨#[]⟩), (.int .i64 (0)), (.int .i64 (0)), (.int .i64 (0)), (.int .i64 (0)), (.bool false), .nilFunc]) fun b => M.pure (.pointer (some ⟨b, 0, none⟩))) (idsL none [])) fun t2 => TM.bind (pureT (M.pure (.func (.func 177) #[] #[t1]))) fun t3 => TM.bind (pureT (buildM Tryz.prog 189 [(0, a0), (1, (.int .i64 (1))), (3, a1), (4, (.int .i64 (4))), (6, t3)])) fun t4 => TM.bind (stepT (store 7 t2 t4) (idsL none [t2, t4])) fun t5 => TM.bind (pureT (load Tryz.prog 189 t2)) fun t6 => TM.pure t6
  | _ => TM.fail
theorem q_95_eq (call : CallT) (lp : LoopT) (a0 : Value) (a1 : Value) (a2 : Value) : evBodyT Tryz.prog call lp ann_95 Tryz.f95 [a0, a1, a2] = q_95 call lp [a0, a1, a2] := by kernel_rfl
theorem q_95_ok : QOk Tryz.prog annS 95 q_95 := by
  refine ⟨Tryz.f95, by kernel_rfl, fun call lp args T r h => ?_⟩
  have ha : annS 95 = ann_95 := by kernel_rfl
  rw [ha]
  unfold q_95 at h
  split at h
  · rw [q_95_eq]; exact h
  · cases h

noncomputable def q_96 : QFn := fun call lp args => match args with
  | [a0, a1] =>
    TM.bind (stepT (buildSliceM Tryz.prog none 38 1 [(0, a1)]) (idsL none [a1])) fun t1 => TM.bind (stepT (append none 3 1 (Tryz.prog.bytesOf 3) a0 t1) (idsL none [a0, t1])) fun t2 => TM.pure t2
  | _ => TM.fail
theorem q_96_eq (call : CallT) (lp : LoopT) (a0 : Value) (a1 : Value) : evBodyT Tryz.prog call lp ann_96 Tryz.f96 [a0, a1] = q_96 call lp [a0, a1] := by kernel_rfl
theorem q_96_ok : QOk Tryz.prog annS 96 q_96 := by
  refine ⟨Tryz.f96, by kernel_rfl, fun call lp args T r h => ?_⟩
  have ha : annS 96 = ann_96 := by kernel_rfl
  rw [ha]
  unfold q_96 at h
  split at h
  · rw [q_96_eq]; exact h
  · cases h

noncomputable def q_97 : QFn := fun call lp args => match args with
  | [a0, a1] =>
    TM.bind (stepT (box none 193 a1) (idsL none [a1])) fun t1 => TM.bind (stepT (M.bind (newRow none 189 [(.string ⟨#[]⟩), (.int .i64 (0)), (.int .i64 (0)), (.int .i64 (0)), (.int .i64 (0)), (.bool false), .nilFunc]) fun b => M.pure (.pointer (some ⟨b, 0, none⟩))) (idsL none [])) fun t2 => TM.bind (pureT (M.pure (.func (.func 179) #[] #[t1]))) fun t3 => TM.bind (pureT (buildM Tryz.prog 189 [(0, a0), (4, (.int .i64 (4))), (6, t3)])) fun t4 => TM.bind (stepT (store 7 t2 t4) (idsL none [t2, t4])) fun t5 => TM.bind (pureT (load Tryz.prog 189 t2)) fun t6 => TM.pure t6
  | _ => TM.fail
theorem q_97_eq (call : CallT) (lp : LoopT) (a0 : Value) (a1 : Value) : evBodyT Tryz.prog call lp ann_97 Tryz.f97 [a0, a1] = q_97 call lp [a0, a1] := by kernel_rfl
theorem q_97_ok : QOk Tryz.prog annS 97 q_97 := by
  refine ⟨Tryz.f97, by kernel_rfl, fun call lp args T r h => ?_⟩
  have ha : annS 97 = ann_97 := by kernel_rfl
  rw [ha]
  unfold q_97 at h
  split at h
  · rw [q_97_eq]; exact h
  · cases h

noncomputable def q_120 : QFn := fun call lp args => match args with
  | [a0, a1] =>
    TM.bind (pureT (lenT (Tryz.prog.underlying 45) a0)) fun t1 => TM.bind (lp (fun vs2 => TM.bind (liftT (binQ Tryz.prog .lss 3 (vs2.getD 4 junk) (vs2.getD 3 junk))) fun t3 => condBT t3 (TM.bind (pureT (M.lift (indexS 3 (vs2.getD 0 junk) (vs2.getD 4 junk)))) fun t4 => TM.bind (pureT (load Tryz.prog 44 t4)) fun t5 => TM.bind (callVT call (vs2.getD 1 junk) [t5]) fun t6 => condBT t6 (TM.pure (.ret, [(vs2.getD 0 junk), (vs2.getD 1 junk), (vs2.getD 4 junk), (vs2.getD 3 junk), (vs2.getD 4 junk)])) (TM.bind (liftT (binQ Tryz.prog .add 3 (vs2.getD 4 junk) (.int .i64 (1)))) fun t7 => TM.pure (.normal, [(vs2.getD 0 junk), (vs2.getD 1 junk), (vs2.getD 2 junk), (vs2.getD 3 junk), t7]))) (TM.pure (.exit 0, [(vs2.getD 0 junk), (vs2.getD 1 junk), (vs2.getD 2 junk), (vs2.getD 3 junk), (vs2.getD 4 junk)]))) [a0, a1, (.int .i64 (0)), t1, (.int .i64 (0))] : TM R) fun r8 => exKT (unblk 0 r8.1) (TM.pure (.int .i64 (-1))) (TM.pure (r8.2.getD 2 junk)) (fun j9 => TM.fail)
  | _ => TM.fail
theorem q_120_eq (call : CallT) (lp : LoopT) (a0 : Value) (a1 : Value) : evBodyT Tryz.prog call lp ann_120 Tryz.f120 [a0, a1] = q_120 call lp [a0, a1] := by kernel_rfl
theorem q_120_ok : QOk Tryz.prog annS 120 q_120 := by
  refine ⟨Tryz.f120, by kernel_rfl, fun call lp args T r h => ?_⟩
  have ha : annS 120 = ann_120 := by kernel_rfl
  rw [ha]
  unfold q_120 at h
  split at h
  · rw [q_120_eq]; exact h
  · cases h

noncomputable def q_121 : QFn := fun call lp args => match args with
  | [a0, a1] =>
    TM.bind (pureT (lenT (Tryz.prog.underlying 73) a0)) fun t1 => TM.bind (lp (fun vs2 => TM.bind (liftT (binQ Tryz.prog .lss 3 (vs2.getD 4 junk) (vs2.getD 3 junk))) fun t3 => condBT t3 (TM.bind (pureT (M.lift (indexS 2 (vs2.getD 0 junk) (vs2.getD 4 junk)))) fun t4 => TM.bind (pureT (load Tryz.prog 121 t4)) fun t5 => TM.bind (callVT call (vs2.getD 1 junk) [t5]) fun t6 => condBT t6 (TM.pure (.ret, [(vs2.getD 0 junk), (vs2.getD 1 junk), (vs2.getD 4 junk), (vs2.getD 3 junk), (vs2.getD 4 junk)])) (TM.bind (liftT (binQ Tryz.prog .add 3 (vs2.getD 4 junk) (.int .i64 (1)))) fun t7 => TM.pure (.normal, [(vs2.getD 0 junk), (vs2.getD 1 junk), (vs2.getD 2 junk), (vs2.getD 3 junk), t7]))) (TM.pure (.exit 0, [(vs2.getD 0 junk), (vs2.getD 1 junk), (vs2.getD 2 junk), (vs2.getD 3 junk), (vs2.getD 4 junk)]))) [a0, a1, (.int .i64 (0)), t1, (.int .i64 (0))] : TM R) fun r8 => exKT (unblk 0 r8.1) (TM.pure (.int .i64 (-1))) (TM.pure (r8.2.getD 2 junk)) (fun j9 => TM.fail)
  | _ => TM.fail
theorem q_121_eq (call : CallT) (lp : LoopT) (a0 : Value) (a1 : Value) : evBodyT Tryz.prog call lp ann_121 Tryz.f121 [a0, a1] = q_121 call lp [a0, a1] := by kernel_rfl
theorem q_121_ok : QOk Tryz.prog annS 121 q_121 := by
  refine ⟨Tryz.f121, by kernel_rfl, fun call lp args T r h => ?_⟩
  have ha : annS 121 = ann_121 := by kernel_rfl
  rw [ha]
  unfold q_121 at h
  split at h
  · rw [q_121_eq]; exact h
  · cases h

noncomputable def q_122 : QFn := fun call lp args => match args with
  | [a0, a1] =>
    TM.bind (stepT (box none 121 a0) (idsL none [a0])) fun t1 => TM.bind (pureT (M.lift (addP 0 t1))) fun t2 => TM.bind (pureT (load Tryz.prog 9 t2)) fun t3 => TM.bind (pureT (M.lift (addP 0 a1))) fun t4 => TM.bind (pureT (load Tryz.prog 9 t4)) fun t5 => TM.bind (liftT (binQ Tryz.prog .eql 9 t3 t5)) fun t6 => TM.pure t6
  | _ => TM.fail
theorem q_122_eq (call : CallT) (lp : LoopT) (a0 : Value) (a1 : Value) : evBodyT Tryz.prog call lp ann_122 Tryz.f122 [a0, a1] = q_122 call lp [a0, a1] := by kernel_rfl
theorem q_122_ok : QOk Tryz.prog annS 122 q_122 := by
  refine ⟨Tryz.f122, by kernel_rfl, fun call lp args T r h => ?_⟩
  have ha : annS 122 = ann_122 := by kernel_rfl
  rw [ha]
  unfold q_122 at h
  split at h
  · rw [q_122_eq]; exact h
  · cases h

end Go.Proofs.YtepchknpgeopfaaGreatDoor.E
