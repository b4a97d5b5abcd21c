/- What the cards of statements share whose rows list two errors of the library, too. -/
import Derived.Test.YtcmpindjgfojaaaDoorCardF
namespace Go.Proofs.YtcmpindjgfojaaaDoor
open Go.ChangeShapes Go.WideShapes Go.ChangeAt Go.RowKit

def laid7 : List (String × DataW Unit) := [("math/bits.deBruijn32tab", Rows.laid_math_bits_deBruijn32tab), ("math/bits.deBruijn64tab", Rows.laid_math_bits_deBruijn64tab), ("internal/strconv.uint64pow10", Rows.laid_internal_strconv_uint64pow10), ("unicode/utf8.acceptRanges", Rows.laid_unicode_utf8_acceptRanges), ("strconv.ErrRange", Rows.laid_strconv_ErrRange), ("strconv.ErrSyntax", Rows.laid_strconv_ErrSyntax), ("unicode/utf8.first", Rows.laid_unicode_utf8_first)]
theorem ok_of_laid7 {W : World} (h0 : laidMetH Tryd.prog laid7 W) : Ok W := by
  rw [MakeChecks.laidMetH_plain _ _ _ (by kernel_rfl)] at h0
  have h2 := tail_laid h0
  have h3 := tail_laid h2
  have e2 : (Rows.laid_math_bits_deBruijn64tab : DataW Unit) = Lib.tabData .u8 (List.map Int.ofNat Lib.deBruijn64tab) := by kernel_rfl
  have e3 : (Rows.laid_internal_strconv_uint64pow10 : DataW Unit) = Lib.tabData .u64 Lib.pow10Tab := by kernel_rfl
  rw [e2] at h2
  rw [e3] at h3
  have t2 := Lib.tabIs_of_head (t := 181) (e := 5) (n := 64) gDeB (by kernel_rfl) (by kernel_rfl) (by kernel_rfl) (by kernel_rfl) (by kernel_rfl) h2
  have t3 := Lib.tabIs_of_head (t := 165) (e := 77) (n := 20) gPow (by kernel_rfl) (by kernel_rfl) (by kernel_rfl) (by kernel_rfl) (by kernel_rfl) h3
  refine ok_of_tabs t3 t2 ?_
  have := World.var?_cell gDeB t2 0
  have hlt : 7 < W.heap.size := by
    rcases Nat.lt_or_ge 7 W.heap.size with h' | h'
    · exact h'
    · unfold Lib.TabIs World.var? at t2
      rw [gDeB] at t2
      simp only [Option.bind_some] at t2
      rw [Array.getElem?_eq_none h'] at t2; cases t2
  omega
end Go.Proofs.YtcmpindjgfojaaaDoor
