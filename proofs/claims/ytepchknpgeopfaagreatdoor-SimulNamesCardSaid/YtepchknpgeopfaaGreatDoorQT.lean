/-
  SEAT E: the table of the quick terms.
-/
import Derived.Test.YtepchknpgeopfaaGreatDoorQE0
import Derived.Test.YtepchknpgeopfaaGreatDoorQE1
import Derived.Test.YtepchknpgeopfaaGreatDoorQE2
import Derived.Test.YtepchknpgeopfaaGreatDoorQE3
set_option linter.unusedVariables false
set_option linter.unusedSimpArgs false
namespace Go.Proofs.YtepchknpgeopfaaGreatDoor.E
open Go

noncomputable def qRow0 : List (Option QFn) := [none, none, none, none, some q_4, some q_5, some q_6, some q_7, none, some q_9, some q_10, some q_11, some q_12, some q_13, some q_14, some q_15]
theorem qRow0_ok : okRow Tryz.prog annS qRow0 0 := ⟨q_4_ok, ⟨q_5_ok, ⟨q_6_ok, ⟨q_7_ok, ⟨q_9_ok, ⟨q_10_ok, ⟨q_11_ok, ⟨q_12_ok, ⟨q_13_ok, ⟨q_14_ok, ⟨q_15_ok, trivial⟩⟩⟩⟩⟩⟩⟩⟩⟩⟩⟩
noncomputable def qRow1 : List (Option QFn) := [some q_16, some q_17, some q_18, some q_19, some q_20, some q_21, some q_22, some q_23, some q_24, some q_25, some q_26, some q_27, some q_28, some q_29, some q_30, some q_31]
theorem qRow1_ok : okRow Tryz.prog annS qRow1 16 := ⟨q_16_ok, ⟨q_17_ok, ⟨q_18_ok, ⟨q_19_ok, ⟨q_20_ok, ⟨q_21_ok, ⟨q_22_ok, ⟨q_23_ok, ⟨q_24_ok, ⟨q_25_ok, ⟨q_26_ok, ⟨q_27_ok, ⟨q_28_ok, ⟨q_29_ok, ⟨q_30_ok, ⟨q_31_ok, trivial⟩⟩⟩⟩⟩⟩⟩⟩⟩⟩⟩⟩⟩⟩⟩⟩
noncomputable def qRow2 : List (Option QFn) := [some q_32, some q_33, some q_34, some q_35, some q_36, some q_37, some q_38, some q_39, some q_40, some q_41, some q_42, some q_43, some q_44, some q_45, some q_46, some q_47]
theorem qRow2_ok : okRow Tryz.prog annS qRow2 32 := ⟨q_32_ok, ⟨q_33_ok, ⟨q_34_ok, ⟨q_35_ok, ⟨q_36_ok, ⟨q_37_ok, ⟨q_38_ok, ⟨q_39_ok, ⟨q_40_ok, ⟨q_41_ok, ⟨q_42_ok, ⟨q_43_ok, ⟨q_44_ok, ⟨q_45_ok, ⟨q_46_ok, ⟨q_47_ok, trivial⟩⟩⟩⟩⟩⟩⟩⟩⟩⟩⟩⟩⟩⟩⟩⟩
noncomputable def qRow3 : List (Option QFn) := [some q_48, none, none, some q_51, none, none, some q_54, some q_55, some q_56, some q_57, some q_58, some q_59, some q_60, some q_61, some q_62, some q_63]
theorem qRow3_ok : okRow Tryz.prog annS qRow3 48 := ⟨q_48_ok, ⟨q_51_ok, ⟨q_54_ok, ⟨q_55_ok, ⟨q_56_ok, ⟨q_57_ok, ⟨q_58_ok, ⟨q_59_ok, ⟨q_60_ok, ⟨q_61_ok, ⟨q_62_ok, ⟨q_63_ok, trivial⟩⟩⟩⟩⟩⟩⟩⟩⟩⟩⟩⟩
noncomputable def qRow4 : List (Option QFn) := [some q_64, some q_65, some q_66, none, some q_68, some q_69, some q_70, some q_71, some q_72, some q_73, some q_74, some q_75, some q_76, some q_77, some q_78, some q_79]
theorem qRow4_ok : okRow Tryz.prog annS qRow4 64 := ⟨q_64_ok, ⟨q_65_ok, ⟨q_66_ok, ⟨q_68_ok, ⟨q_69_ok, ⟨q_70_ok, ⟨q_71_ok, ⟨q_72_ok, ⟨q_73_ok, ⟨q_74_ok, ⟨q_75_ok, ⟨q_76_ok, ⟨q_77_ok, ⟨q_78_ok, ⟨q_79_ok, trivial⟩⟩⟩⟩⟩⟩⟩⟩⟩⟩⟩⟩⟩⟩⟩
noncomputable def qRow5 : List (Option QFn) := [some q_80, some q_81, some q_82, some q_83, some q_84, some q_85, some q_86, some q_87, some q_88, none, none, some q_91, some q_92, none, some q_94, some q_95]
theorem qRow5_ok : okRow Tryz.prog annS qRow5 80 := ⟨q_80_ok, ⟨q_81_ok, ⟨q_82_ok, ⟨q_83_ok, ⟨q_84_ok, ⟨q_85_ok, ⟨q_86_ok, ⟨q_87_ok, ⟨q_88_ok, ⟨q_91_ok, ⟨q_92_ok, ⟨q_94_ok, ⟨q_95_ok, trivial⟩⟩⟩⟩⟩⟩⟩⟩⟩⟩⟩⟩⟩
noncomputable def qRow6 : List (Option QFn) := [some q_96, some q_97, none, none, none, none, none, none, none, none, none, none, none, none, none, none]
theorem qRow6_ok : okRow Tryz.prog annS qRow6 96 := ⟨q_96_ok, ⟨q_97_ok, trivial⟩⟩
noncomputable def qRow7 : List (Option QFn) := [none, none, none, none, none, none, none, none, some q_120, some q_121, some q_122, some q_123, some q_124, some q_125, some q_126, some q_127]
theorem qRow7_ok : okRow Tryz.prog annS qRow7 112 := ⟨q_120_ok, ⟨q_121_ok, ⟨q_122_ok, ⟨q_123_ok, ⟨q_124_ok, ⟨q_125_ok, ⟨q_126_ok, ⟨q_127_ok, trivial⟩⟩⟩⟩⟩⟩⟩⟩
noncomputable def qRow8 : List (Option QFn) := [some q_128, some q_129, some q_130, some q_131, some q_132, some q_133, some q_134, some q_135, some q_136, some q_137, none, none, none, none, none, some q_143]
theorem qRow8_ok : okRow Tryz.prog annS qRow8 128 := ⟨q_128_ok, ⟨q_129_ok, ⟨q_130_ok, ⟨q_131_ok, ⟨q_132_ok, ⟨q_133_ok, ⟨q_134_ok, ⟨q_135_ok, ⟨q_136_ok, ⟨q_137_ok, ⟨q_143_ok, trivial⟩⟩⟩⟩⟩⟩⟩⟩⟩⟩⟩
noncomputable def qRow9 : List (Option QFn) := [some q_144, some q_145, some q_146, some q_147, some q_148, none, some q_150, none, none, none, none, none, none, some q_157, some q_158, some q_159]
theorem qRow9_ok : okRow Tryz.prog annS qRow9 144 := ⟨q_144_ok, ⟨q_145_ok, ⟨q_146_ok, ⟨q_147_ok, ⟨q_148_ok, ⟨q_150_ok, ⟨q_157_ok, ⟨q_158_ok, ⟨q_159_ok, trivial⟩⟩⟩⟩⟩⟩⟩⟩⟩
noncomputable def qRow10 : List (Option QFn) := [none, some q_161, none, some q_163, none, none, none, none, none, none, none, none, none, some q_173, none, some q_175]
theorem qRow10_ok : okRow Tryz.prog annS qRow10 160 := ⟨q_161_ok, ⟨q_163_ok, ⟨q_173_ok, ⟨q_175_ok, trivial⟩⟩⟩⟩
noncomputable def qRow11 : List (Option QFn) := [some q_176, some q_177, some q_178, none, none, none, none, none, none, none, none, none, none, none, none, none]
theorem qRow11_ok : okRow Tryz.prog annS qRow11 176 := ⟨q_176_ok, ⟨q_177_ok, ⟨q_178_ok, trivial⟩⟩⟩
noncomputable def qRow12 : List (Option QFn) := [none, none, none, none, none, none, none, none, none, none, none, none, none, none, none, none]
theorem qRow12_ok : okRow Tryz.prog annS qRow12 192 := trivial
noncomputable def qRow13 : List (Option QFn) := [none, none, none, none, none, none, none, none, none, none, none, some q_219, some q_220, some q_221, some q_222, some q_223]
theorem qRow13_ok : okRow Tryz.prog annS qRow13 208 := ⟨q_219_ok, ⟨q_220_ok, ⟨q_221_ok, ⟨q_222_ok, ⟨q_223_ok, trivial⟩⟩⟩⟩⟩
noncomputable def qRow14 : List (Option QFn) := [some q_224, some q_225, some q_226, some q_227, some q_228, none, none, some q_231, some q_232, some q_233, none, some q_235, some q_236, none, none, none]
theorem qRow14_ok : okRow Tryz.prog annS qRow14 224 := ⟨q_224_ok, ⟨q_225_ok, ⟨q_226_ok, ⟨q_227_ok, ⟨q_228_ok, ⟨q_231_ok, ⟨q_232_ok, ⟨q_233_ok, ⟨q_235_ok, ⟨q_236_ok, trivial⟩⟩⟩⟩⟩⟩⟩⟩⟩⟩
noncomputable def qRow15 : List (Option QFn) := [none, none, some q_242, none, none, some q_245, some q_246, none, none, none, none, none, none, none, none, none]
theorem qRow15_ok : okRow Tryz.prog annS qRow15 240 := ⟨q_242_ok, ⟨q_245_ok, ⟨q_246_ok, trivial⟩⟩⟩
noncomputable def qRow16 : List (Option QFn) := [none, none, none, none, none, some q_261, none, none, none, none, none, some q_267, some q_268, some q_269, some q_270, some q_271]
theorem qRow16_ok : okRow Tryz.prog annS qRow16 256 := ⟨q_261_ok, ⟨q_267_ok, ⟨q_268_ok, ⟨q_269_ok, ⟨q_270_ok, ⟨q_271_ok, trivial⟩⟩⟩⟩⟩⟩
noncomputable def qRow17 : List (Option QFn) := [some q_272, some q_273, some q_274, some q_275, some q_276, some q_277, some q_278, some q_279, some q_280, none, some q_282, none, none, none, some q_286, some q_287]
theorem qRow17_ok : okRow Tryz.prog annS qRow17 272 := ⟨q_272_ok, ⟨q_273_ok, ⟨q_274_ok, ⟨q_275_ok, ⟨q_276_ok, ⟨q_277_ok, ⟨q_278_ok, ⟨q_279_ok, ⟨q_280_ok, ⟨q_282_ok, ⟨q_286_ok, ⟨q_287_ok, trivial⟩⟩⟩⟩⟩⟩⟩⟩⟩⟩⟩⟩
noncomputable def qRow18 : List (Option QFn) := [some q_288, some q_289, none, none, some q_292, none, none, none, none, none, none, none, none, some q_301, none, none]
theorem qRow18_ok : okRow Tryz.prog annS qRow18 288 := ⟨q_288_ok, ⟨q_289_ok, ⟨q_292_ok, ⟨q_301_ok, trivial⟩⟩⟩⟩
noncomputable def qRow19 : List (Option QFn) := [none, some q_305, none, none, some q_308, some q_309, some q_310, none, none, some q_313, none, some q_315, some q_316, some q_317, none, none]
theorem qRow19_ok : okRow Tryz.prog annS qRow19 304 := ⟨q_305_ok, ⟨q_308_ok, ⟨q_309_ok, ⟨q_310_ok, ⟨q_313_ok, ⟨q_315_ok, ⟨q_316_ok, ⟨q_317_ok, trivial⟩⟩⟩⟩⟩⟩⟩⟩
noncomputable def qRow20 : List (Option QFn) := [none, none, none, none, some q_324, none, some q_326, none, none, none, none, some q_331, some q_332, none, none, none]
theorem qRow20_ok : okRow Tryz.prog annS qRow20 320 := ⟨q_324_ok, ⟨q_326_ok, ⟨q_331_ok, ⟨q_332_ok, trivial⟩⟩⟩⟩
noncomputable def qRow21 : List (Option QFn) := [none, none, none, none, some q_340, none, none, none, none, none, none, none, none, none, none, none]
theorem qRow21_ok : okRow Tryz.prog annS qRow21 336 := ⟨q_340_ok, trivial⟩
noncomputable def qRow22 : List (Option QFn) := [none, none, none, none, none, none, none, none, none, none, none, none, none, none, none, none]
theorem qRow22_ok : okRow Tryz.prog annS qRow22 352 := trivial
noncomputable def qRow23 : List (Option QFn) := [none, none, none, none, none, some q_373, none, none, none, none, none, none, none, none, none, none]
theorem qRow23_ok : okRow Tryz.prog annS qRow23 368 := ⟨q_373_ok, trivial⟩
noncomputable def qRow24 : List (Option QFn) := [none, none, none, none, none, none, none, none, none, none, none, none, none, none, none, none]
theorem qRow24_ok : okRow Tryz.prog annS qRow24 384 := trivial
noncomputable def qRow25 : List (Option QFn) := [none, none, none, none, none, none, none, none, none, none, none, none, none, none, none, none]
theorem qRow25_ok : okRow Tryz.prog annS qRow25 400 := trivial
noncomputable def qRow26 : List (Option QFn) := [none, none, none, none, none, none, none, none, none, none, none, none, none, none, none, none]
theorem qRow26_ok : okRow Tryz.prog annS qRow26 416 := trivial
noncomputable def qRow27 : List (Option QFn) := [none, none, none, none, none, none, none, none, none, none, none, none, none, none, none, none]
theorem qRow27_ok : okRow Tryz.prog annS qRow27 432 := trivial
noncomputable def qRow28 : List (Option QFn) := [none, none, none, none, none, none, none, none, none, none, none, none, none, none, none, none]
theorem qRow28_ok : okRow Tryz.prog annS qRow28 448 := trivial
noncomputable def qRow29 : List (Option QFn) := [none]
theorem qRow29_ok : okRow Tryz.prog annS qRow29 464 := trivial
noncomputable def qRows : List (List (Option QFn)) := [qRow0, qRow1, qRow2, qRow3, qRow4, qRow5, qRow6, qRow7, qRow8, qRow9, qRow10, qRow11, qRow12, qRow13, qRow14, qRow15, qRow16, qRow17, qRow18, qRow19, qRow20, qRow21, qRow22, qRow23, qRow24, qRow25, qRow26, qRow27, qRow28, qRow29]
noncomputable def qTab (f : FuncId) : Option QFn := (qRows.getD (f / 16) []).getD (f % 16) none

theorem qRows_ok : ∀ i, okRow Tryz.prog annS (qRows.getD i []) (16 * i) := by
  intro i
  match i with
  | 0 => exact qRow0_ok
  | 1 => exact qRow1_ok
  | 2 => exact qRow2_ok
  | 3 => exact qRow3_ok
  | 4 => exact qRow4_ok
  | 5 => exact qRow5_ok
  | 6 => exact qRow6_ok
  | 7 => exact qRow7_ok
  | 8 => exact qRow8_ok
  | 9 => exact qRow9_ok
  | 10 => exact qRow10_ok
  | 11 => exact qRow11_ok
  | 12 => exact qRow12_ok
  | 13 => exact qRow13_ok
  | 14 => exact qRow14_ok
  | 15 => exact qRow15_ok
  | 16 => exact qRow16_ok
  | 17 => exact qRow17_ok
  | 18 => exact qRow18_ok
  | 19 => exact qRow19_ok
  | 20 => exact qRow20_ok
  | 21 => exact qRow21_ok
  | 22 => exact qRow22_ok
  | 23 => exact qRow23_ok
  | 24 => exact qRow24_ok
  | 25 => exact qRow25_ok
  | 26 => exact qRow26_ok
  | 27 => exact qRow27_ok
  | 28 => exact qRow28_ok
  | 29 => exact qRow29_ok
  | n + 30 =>
    have e : qRows.getD (n + 30) [] = [] := by simp [qRows]
    rw [e]; exact trivial

theorem qTab_ok (f : FuncId) (q : QFn) (h : qTab f = some q) : QOk Tryz.prog annS f q := by
  have := okRow_get (i := f % 16) (qRows_ok (f / 16)) h
  have e : 16 * (f / 16) + f % 16 = f := Nat.div_add_mod f 16
  rw [e] at this; exact this

end Go.Proofs.YtepchknpgeopfaaGreatDoor.E
