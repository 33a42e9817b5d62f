/-
  SEAT E: closed runs: simul.Names, code.shapes, the reference's Names and Table.
-/
import Derived.Test.YtepchknpgeopfaaGreatDoorSeat
import Derived.Test.YtepchknpgeopfaaGreatDoorQT
set_option linter.unusedVariables false
set_option linter.unusedSimpArgs false
namespace Go.Proofs.YtepchknpgeopfaaGreatDoor.E
open Go Go.Proofs
set_option maxRecDepth 100000

def gs127 : List Nat := [0]
def cval127 : Value := (.slice (some ⟨0, 0, none⟩) 26 26)
def crows127 : List RowB := [⟨216, [(.string ⟨#[115, 101, 116]⟩), (.string ⟨#[114, 118]⟩), (.string ⟨#[97, 100, 100]⟩), (.string ⟨#[114, 115, 118]⟩), (.string ⟨#[115, 117, 98]⟩), (.string ⟨#[114, 115, 118]⟩), (.string ⟨#[109, 117, 108]⟩), (.string ⟨#[114, 115, 118]⟩), (.string ⟨#[100, 105, 118]⟩), (.string ⟨#[114, 115, 118]⟩), (.string ⟨#[114, 101, 109]⟩), (.string ⟨#[114, 115, 118]⟩), (.string ⟨#[116, 117, 114, 110]⟩), (.string ⟨#[114, 115]⟩), (.string ⟨#[101, 113]⟩), (.string ⟨#[115, 118, 76]⟩), (.string ⟨#[110, 101]⟩), (.string ⟨#[115, 118, 76]⟩), (.string ⟨#[108, 116]⟩), (.string ⟨#[115, 118, 76]⟩), (.string ⟨#[103, 111]⟩), (.string ⟨#[76]⟩), (.string ⟨#[99, 97, 108, 108]⟩), (.string ⟨#[76]⟩), (.string ⟨#[98, 97, 99, 107]⟩), (.string ⟨#[]⟩), (.string ⟨#[108, 111, 97, 100]⟩), (.string ⟨#[114, 115, 111]⟩), (.string ⟨#[115, 116, 111, 114, 101]⟩), (.string ⟨#[115, 111, 118]⟩), (.string ⟨#[99, 97, 115]⟩), (.string ⟨#[114, 115, 111, 118, 119]⟩), (.string ⟨#[102, 97, 97]⟩), (.string ⟨#[114, 115, 111, 118]⟩), (.string ⟨#[108, 108]⟩), (.string ⟨#[114, 115, 111]⟩), (.string ⟨#[115, 99]⟩), (.string ⟨#[114, 115, 111, 118]⟩), (.string ⟨#[110, 101, 119]⟩), (.string ⟨#[114, 118]⟩), (.string ⟨#[102, 114, 101, 101]⟩), (.string ⟨#[115]⟩), (.string ⟨#[99, 111, 112, 121]⟩), (.string ⟨#[115, 118, 111]⟩), (.string ⟨#[104, 111, 108, 100]⟩), (.string ⟨#[111, 118]⟩), (.string ⟨#[105, 110]⟩), (.string ⟨#[]⟩), (.string ⟨#[111, 117, 116]⟩), (.string ⟨#[]⟩), (.string ⟨#[103, 105, 118, 101]⟩), (.string ⟨#[118]⟩)], true⟩]
theorem run127 : outOf (evFunQ qTab prim0T 3000 127 [] ⟨0, .e⟩) gs127 = some (mapV (gs127.getD · 0) cval127, crows127.map fun r => some (r.blk (gs127.getD · 0))) := by kernel_rfl
theorem callAt_127 (H : AH) : CallAt Tryz.prog 127 [] H (mapV (H.next + ·) cval127) (H.lay crows127) :=
  callAt_out qTab_ok E0.ok rfl rfl prim0_sim run127 (by decide) (by kernel_rfl) (by kernel_rfl) rfl (by decide) H


def gs5 : List Nat := [84]
def cval5 : Value := (.slice (some ⟨0, 0, some 1⟩) 16 21)
def crows5 : List RowB := [⟨9, [(.string ⟨#[115, 116, 97, 99, 107]⟩), (.string ⟨#[113, 117, 101, 117, 101]⟩), (.string ⟨#[114, 105, 110, 103]⟩), (.string ⟨#[108, 97, 110, 101, 115]⟩), (.string ⟨#[108, 105, 115, 116]⟩), (.string ⟨#[115, 107, 105, 112]⟩), (.string ⟨#[116, 114, 101, 101]⟩), (.string ⟨#[116, 114, 105, 101]⟩), (.string ⟨#[104, 97, 115, 104]⟩), (.string ⟨#[119, 105, 100, 101]⟩), (.string ⟨#[115, 110, 97, 112]⟩), (.string ⟨#[117, 110, 105, 111, 110]⟩), (.string ⟨#[112, 97, 105, 114]⟩), (.string ⟨#[117, 110, 105]⟩), (.string ⟨#[116, 119, 105, 110]⟩), (.string ⟨#[116, 97, 108, 108, 121]⟩), (.string ⟨#[]⟩), (.string ⟨#[]⟩), (.string ⟨#[]⟩), (.string ⟨#[]⟩), (.string ⟨#[]⟩)], true⟩]
theorem run5 : outOf (evFunQ qTab prim0T 3000 5 [] ⟨0, .e⟩) gs5 = some (mapV (gs5.getD · 0) cval5, crows5.map fun r => some (r.blk (gs5.getD · 0))) := by kernel_rfl
theorem callAt_5 (H : AH) : CallAt Tryz.prog 5 [] H (mapV (H.next + ·) cval5) (H.lay crows5) :=
  callAt_out qTab_ok E0.ok rfl rfl prim0_sim run5 (by decide) (by kernel_rfl) (by kernel_rfl) rfl (by decide) H


def gs6 : List Nat := [0]
def cval6 : Value := (.slice (some ⟨0, 0, none⟩) 16 16)
def crows6 : List RowB := [⟨9, [(.string ⟨#[115, 116, 97, 99, 107]⟩), (.string ⟨#[113, 117, 101, 117, 101]⟩), (.string ⟨#[114, 105, 110, 103]⟩), (.string ⟨#[108, 97, 110, 101, 115]⟩), (.string ⟨#[108, 105, 115, 116]⟩), (.string ⟨#[115, 107, 105, 112]⟩), (.string ⟨#[116, 114, 101, 101]⟩), (.string ⟨#[116, 114, 105, 101]⟩), (.string ⟨#[104, 97, 115, 104]⟩), (.string ⟨#[119, 105, 100, 101]⟩), (.string ⟨#[115, 110, 97, 112]⟩), (.string ⟨#[117, 110, 105, 111, 110]⟩), (.string ⟨#[112, 97, 105, 114]⟩), (.string ⟨#[117, 110, 105]⟩), (.string ⟨#[116, 119, 105, 110]⟩), (.string ⟨#[116, 97, 108, 108, 121]⟩)], true⟩]
theorem run6 : outOf (evFunQ qTab prim0T 3000 6 [] ⟨0, .e⟩) gs6 = some (mapV (gs6.getD · 0) cval6, crows6.map fun r => some (r.blk (gs6.getD · 0))) := by kernel_rfl
theorem callAt_6 (H : AH) : CallAt Tryz.prog 6 [] H (mapV (H.next + ·) cval6) (H.lay crows6) :=
  callAt_out qTab_ok E0.ok rfl rfl prim0_sim run6 (by decide) (by kernel_rfl) (by kernel_rfl) rfl (by decide) H

def gs7 : List Nat := [18, 1, 2, 3, 4, 5, 6, 7, 0, 8, 9, 10, 11, 12, 13, 14, 15, 16, 17]
def cval7 : Value := (.slice (some ⟨0, 0, none⟩) 21 21)
def crows7 : List RowB := [⟨29, [(.string ⟨#[115, 116, 97, 99, 107]⟩), (.int .i64 (1)), (.slice (some ⟨1, 0, none⟩) 2 2), (.int .i64 (0)), (.int .i64 (900)), (.bool true), (.bool true), (.string ⟨#[101, 108, 105, 109]⟩), (.int .i64 (1)), (.slice (some ⟨2, 0, none⟩) 2 2), (.int .i64 (0)), (.int .i64 (900)), (.bool true), (.bool false), (.string ⟨#[113, 117, 101, 117, 101]⟩), (.int .i64 (2)), (.slice (some ⟨3, 0, none⟩) 2 2), (.int .i64 (0)), (.int .i64 (900)), (.bool true), (.bool true), (.string ⟨#[114, 105, 110, 103]⟩), (.int .i64 (3)), (.slice (some ⟨4, 0, none⟩) 2 2), (.int .i64 (0)), (.int .i64 (900)), (.bool true), (.bool true), (.string ⟨#[100, 101, 113, 117, 101]⟩), (.int .i64 (4)), (.slice (some ⟨5, 0, none⟩) 3 3), (.int .i64 (0)), (.int .i64 (900)), (.bool true), (.bool false), (.string ⟨#[112, 113]⟩), (.int .i64 (5)), (.slice (some ⟨6, 0, none⟩) 2 2), (.int .i64 (0)), (.int .i64 (900)), (.bool true), (.bool true), (.string ⟨#[108, 97, 110, 101, 115]⟩), (.int .i64 (6)), (.slice (some ⟨7, 0, none⟩) 2 2), (.int .i64 (0)), (.int .i64 (900)), (.bool true), (.bool true), (.string ⟨#[108, 105, 115, 116]⟩), (.int .i64 (7)), (.slice (some ⟨8, 0, none⟩) 3 3), (.int .i64 (0)), (.int .i64 (900)), (.bool true), (.bool true), (.string ⟨#[115, 107, 105, 112]⟩), (.int .i64 (7)), (.slice (some ⟨8, 0, none⟩) 3 3), (.int .i64 (0)), (.int .i64 (900)), (.bool false), (.bool true), (.string ⟨#[116, 114, 101, 101]⟩), (.int .i64 (7)), (.slice (some ⟨8, 0, none⟩) 3 3), (.int .i64 (0)), (.int .i64 (900)), (.bool false), (.bool true), (.string ⟨#[116, 114, 105, 101]⟩), (.int .i64 (8)), (.slice (some ⟨9, 0, none⟩) 4 4), (.int .i64 (0)), (.int .i64 (15)), (.bool true), (.bool true), (.string ⟨#[104, 97, 115, 104]⟩), (.int .i64 (7)), (.slice (some ⟨8, 0, none⟩) 3 3), (.int .i64 (0)), (.int .i64 (15)), (.bool false), (.bool true), (.string ⟨#[110, 101, 116]⟩), (.int .i64 (9)), (.slice (some ⟨10, 0, none⟩) 1 1), (.int .i64 (0)), (.int .i64 (900)), (.bool true), (.bool false), (.string ⟨#[119, 105, 100, 101]⟩), (.int .i64 (10)), (.slice (some ⟨11, 0, none⟩) 2 2), (.int .i64 (0)), (.int .i64 (900)), (.bool true), (.bool true), (.string ⟨#[115, 110, 97, 112]⟩), (.int .i64 (11)), (.slice (some ⟨12, 0, none⟩) 2 2), (.int .i64 (0)), (.int .i64 (900)), (.bool true), (.bool true), (.string ⟨#[117, 110, 105, 111, 110]⟩), (.int .i64 (12)), (.slice (some ⟨13, 0, none⟩) 2 2), (.int .i64 (0)), (.int .i64 (7)), (.bool true), (.bool true), (.string ⟨#[112, 97, 105, 114]⟩), (.int .i64 (13)), (.slice (some ⟨14, 0, none⟩) 3 3), (.int .i64 (0)), (.int .i64 (99)), (.bool true), (.bool false), (.string ⟨#[117, 110, 105]⟩), (.int .i64 (14)), (.slice (some ⟨15, 0, none⟩) 2 2), (.int .i64 (1)), (.int .i64 (99)), (.bool true), (.bool false), (.string ⟨#[116, 119, 105, 110]⟩), (.int .i64 (15)), (.slice (some ⟨16, 0, none⟩) 5 5), (.int .i64 (0)), (.int .i64 (900)), (.bool true), (.bool true), (.string ⟨#[116, 97, 108, 108, 121]⟩), (.int .i64 (16)), (.slice (some ⟨17, 0, none⟩) 2 2), (.int .i64 (-900)), (.int .i64 (900)), (.bool true), (.bool true), (.string ⟨#[98, 97, 114, 101]⟩), (.int .i64 (1)), (.slice (some ⟨18, 0, none⟩) 2 2), (.int .i64 (0)), (.int .i64 (900)), (.bool false), (.bool false)], true⟩,
  ⟨49, [(.string ⟨#[112, 117, 115, 104]⟩), (.int .i64 (1)), (.int .i64 (4)), (.string ⟨#[112, 111, 112]⟩), (.int .i64 (0)), (.int .i64 (4))], true⟩,
  ⟨49, [(.string ⟨#[112, 117, 115, 104]⟩), (.int .i64 (1)), (.int .i64 (4)), (.string ⟨#[112, 111, 112]⟩), (.int .i64 (0)), (.int .i64 (4))], true⟩,
  ⟨49, [(.string ⟨#[101, 110, 113]⟩), (.int .i64 (1)), (.int .i64 (4)), (.string ⟨#[100, 101, 113]⟩), (.int .i64 (0)), (.int .i64 (4))], true⟩,
  ⟨49, [(.string ⟨#[101, 110, 113]⟩), (.int .i64 (1)), (.int .i64 (4)), (.string ⟨#[100, 101, 113]⟩), (.int .i64 (0)), (.int .i64 (4))], true⟩,
  ⟨49, [(.string ⟨#[112, 117, 115, 104]⟩), (.int .i64 (1)), (.int .i64 (1)), (.string ⟨#[112, 111, 112]⟩), (.int .i64 (0)), (.int .i64 (1)), (.string ⟨#[115, 116, 101, 97, 108]⟩), (.int .i64 (0)), (.int .i64 (4))], true⟩,
  ⟨49, [(.string ⟨#[112, 117, 116]⟩), (.int .i64 (1)), (.int .i64 (4)), (.string ⟨#[116, 97, 107, 101]⟩), (.int .i64 (0)), (.int .i64 (4))], true⟩,
  ⟨49, [(.string ⟨#[112, 117, 116]⟩), (.int .i64 (1)), (.int .i64 (4)), (.string ⟨#[103, 101, 116]⟩), (.int .i64 (0)), (.int .i64 (4))], true⟩,
  ⟨49, [(.string ⟨#[97, 100, 100]⟩), (.int .i64 (1)), (.int .i64 (4)), (.string ⟨#[114, 101, 109]⟩), (.int .i64 (1)), (.int .i64 (4)), (.string ⟨#[104, 97, 115]⟩), (.int .i64 (1)), (.int .i64 (4))], true⟩,
  ⟨49, [(.string ⟨#[97, 100, 100]⟩), (.int .i64 (1)), (.int .i64 (4)), (.string ⟨#[114, 101, 109]⟩), (.int .i64 (1)), (.int .i64 (4)), (.string ⟨#[104, 97, 115]⟩), (.int .i64 (1)), (.int .i64 (4)), (.string ⟨#[97, 108, 108]⟩), (.int .i64 (0)), (.int .i64 (4))], true⟩,
  ⟨49, [(.string ⟨#[110, 101, 120, 116]⟩), (.int .i64 (1)), (.int .i64 (4))], true⟩,
  ⟨49, [(.string ⟨#[119, 114, 105, 116, 101]⟩), (.int .i64 (1)), (.int .i64 (4)), (.string ⟨#[114, 101, 97, 100]⟩), (.int .i64 (0)), (.int .i64 (4))], true⟩,
  ⟨49, [(.string ⟨#[117, 112, 100, 97, 116, 101]⟩), (.int .i64 (1)), (.int .i64 (2)), (.string ⟨#[115, 99, 97, 110]⟩), (.int .i64 (0)), (.int .i64 (4))], true⟩,
  ⟨49, [(.string ⟨#[117, 110, 105, 116, 101]⟩), (.int .i64 (2)), (.int .i64 (4)), (.string ⟨#[115, 97, 109, 101]⟩), (.int .i64 (2)), (.int .i64 (4))], true⟩,
  ⟨49, [(.string ⟨#[112, 117, 116]⟩), (.int .i64 (1)), (.int .i64 (4)), (.string ⟨#[109, 111, 118, 101]⟩), (.int .i64 (1)), (.int .i64 (4)), (.string ⟨#[98, 111, 116, 104]⟩), (.int .i64 (0)), (.int .i64 (4))], true⟩,
  ⟨49, [(.string ⟨#[97, 100, 100]⟩), (.int .i64 (1)), (.int .i64 (3)), (.string ⟨#[103, 101, 116]⟩), (.int .i64 (0)), (.int .i64 (4))], true⟩,
  ⟨49, [(.string ⟨#[112, 117, 116, 97]⟩), (.int .i64 (1)), (.int .i64 (4)), (.string ⟨#[112, 117, 116, 98]⟩), (.int .i64 (1)), (.int .i64 (4)), (.string ⟨#[103, 101, 116, 97]⟩), (.int .i64 (0)), (.int .i64 (4)), (.string ⟨#[103, 101, 116, 98]⟩), (.int .i64 (0)), (.int .i64 (4)), (.string ⟨#[109, 111, 118, 101]⟩), (.int .i64 (0)), (.int .i64 (4))], true⟩,
  ⟨49, [(.string ⟨#[97, 100, 100]⟩), (.int .i64 (1)), (.int .i64 (4)), (.string ⟨#[103, 101, 116]⟩), (.int .i64 (0)), (.int .i64 (4))], true⟩,
  ⟨49, [(.string ⟨#[112, 117, 115, 104]⟩), (.int .i64 (1)), (.int .i64 (4)), (.string ⟨#[112, 111, 112]⟩), (.int .i64 (0)), (.int .i64 (4))], true⟩]
theorem run7 : outOf (evFunQ qTab prim0T 3000 7 [] ⟨0, .e⟩) gs7 = some (mapV (gs7.getD · 0) cval7, crows7.map fun r => some (r.blk (gs7.getD · 0))) := by kernel_rfl
theorem callAt_7 (H : AH) : CallAt Tryz.prog 7 [] H (mapV (H.next + ·) cval7) (H.lay crows7) :=
  callAt_out qTab_ok E0.ok rfl rfl prim0_sim run7 (by decide) (by kernel_rfl) (by kernel_rfl) rfl (by decide) H

end Go.Proofs.YtepchknpgeopfaaGreatDoor.E
