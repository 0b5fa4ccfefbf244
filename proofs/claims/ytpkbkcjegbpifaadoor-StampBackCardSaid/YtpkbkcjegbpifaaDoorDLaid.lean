/- WHAT THE ROW's LISTED TABLES GIVE THE WALKS. -/
import Derived.Test.YtpkbkcjegbpifaaDoorDText
import Derived.LaidSub
import Derived.MakeChecks
import Derived.Lib.LaidTab
namespace Go.Proofs.YtpkbkcjegbpifaaDoor
open Go.RowKit Go.Lib
theorem tab_of_laid {W : World} (h : laidMetH Tryd.prog Rows.stampFiguresRow.laid W) : Tab W := by
  have h1 := laidMetH.filter (fun x => x.1 == "internal/strconv.uint64pow10") h
  have h2 : laidMet Tryd.prog [("internal/strconv.uint64pow10", Rows.laid_internal_strconv_uint64pow10)] W := h1
  exact Lib.tabIs_of_head (rest := []) (k := .u64) (zs := Lib.pow10Tab) (by kernel_rfl : Tryd.prog.globalNamed "internal/strconv.uint64pow10" = some 1) (by kernel_rfl) Tryd.underlying52 Tryd.underlying43 (by kernel_rfl) (by kernel_rfl) h2
end Go.Proofs.YtpkbkcjegbpifaaDoor
