/- What the rows' list gives, and a world that meets it. -/
import Derived.Test.YtpejmgellidhbaaDoorG1
import Derived.Test.YtpejmgellidhbaaDoorCards
import Derived.Test.YtpejmgellidhbaaDoorTie
import Derived.ProofKit
import Derived.OpenShut
import Derived.LaidMore
import Derived.Lay
import Derived.SevenTiedAt
import Derived.Stop.Joined
import Derived.Stop.LaidErr
namespace Go.Proofs.YtpejmgellidhbaaDoor
open Go.ChangeShapes Go.WideShapes Go.ChangeAt Go.RowKit

theorem own : ownKnob Tryd.prog.godebug = none := by kernel_rfl
noncomputable def laidL : List (String × DataW Unit) := [("math/bits.deBruijn32tab", Rows.laid_math_bits_deBruijn32tab), ("math/bits.deBruijn64tab", Rows.laid_math_bits_deBruijn64tab), ("internal/strconv.uint64pow10", Rows.laid_internal_strconv_uint64pow10), ("unicode/utf8.acceptRanges", Rows.laid_unicode_utf8_acceptRanges), ("unicode.CaseRanges", Rows.laid_unicode_CaseRanges), ("unicode/utf8.first", Rows.laid_unicode_utf8_first)]
def bru64 : List Int := [0, 1, 56, 2, 57, 49, 28, 3, 61, 58, 42, 50, 38, 29, 17, 4, 62, 47, 59, 36, 45, 43, 51, 22, 53, 39, 33, 30, 24, 18, 12, 5, 63, 55, 48, 27, 60, 41, 37, 16, 46, 35, 44, 21, 52, 32, 23, 11, 54, 26, 40, 15, 34, 20, 31, 10, 25, 14, 19, 9, 13, 8, 7, 6]
theorem g64 : Tryd.prog.globalNamed "math/bits.deBruijn64tab" = some 6 := by kernel_rfl
theorem gp10 : Tryd.prog.globalNamed "internal/strconv.uint64pow10" = some 1 := by kernel_rfl
theorem cells5 : Tryd.prog.cellsOf 5 = 1 := by kernel_rfl
theorem cells106 : Tryd.prog.cellsOf 106 = 1 := by kernel_rfl
theorem laid_plain : (laidL.all fun x => x.2.handleName?.isNone) = true := by kernel_rfl
theorem tabs_of_laid {W : World} (h0 : laidMetH Tryd.prog laidL W) : Tabs W := by
  rw [MakeChecks.laidMetH_plain _ _ _ laid_plain] at h0
  have h1 : laidMet Tryd.prog _ W := laidMet.tail h0
  have h2 : laidMet Tryd.prog _ W := laidMet.tail h1
  have hb : Lib.TabIs Tryd.prog W "math/bits.deBruijn64tab" .u8 bru64 := Lib.tabIs_of_head g64 (t := 159) (by kernel_rfl) (n := 64) (e := 5) Tryd.underlying159 Tryd.underlying5 cells5 (by kernel_rfl) h1
  have hp : Lib.TabIs Tryd.prog W "internal/strconv.uint64pow10" .u64 Lib.pow10Tab := Lib.tabIs_of_head gp10 (t := 138) (by kernel_rfl) (n := 20) (e := 106) Tryd.underlying138 Tryd.underlying106 cells106 (by kernel_rfl) h2
  refine ⟨hp, ?_⟩
  unfold Lib.TabIs World.var? at hb
  rw [g64] at hb
  simp only [Option.bind_some] at hb
  cases hh : W.heap[6]? with
  | none => rw [hh] at hb; simp at hb
  | some o =>
    rw [hh] at hb
    cases o with
    | cells cs T fr =>
      simp only [Option.some.injEq] at hb
      exact ⟨cs, T, fr, rfl, by rw [hb]; rfl⟩
    | _ => simp at hb
end Go.Proofs.YtpejmgellidhbaaDoor
