/-
  TenthsOf at 64ths: a share of the odd products, counted. No program, no condition.
-/
import Derived.Test.YthegbaaelccekaaTxa
namespace Go.Proofs.Ythegbaaelccekaa
set_option maxRecDepth 100000
theorem row_8 : rowC 8 = true := by decide +kernel
theorem row_10 : rowC 10 = true := by decide +kernel
theorem row_12 : rowC 12 = true := by decide +kernel
theorem row_19 : rowC 19 = true := by decide +kernel
theorem row_31 : rowC 31 = true := by decide +kernel
theorem row_45 : rowC 45 = true := by decide +kernel
theorem row_49 : rowC 49 = true := by decide +kernel
theorem row_61 : rowC 61 = true := by decide +kernel
theorem row_65 : rowC 65 = true := by decide +kernel
theorem row_77 : rowC 77 = true := by decide +kernel
theorem row_82 : rowC 82 = true := by decide +kernel
theorem row_92 : rowC 92 = true := by decide +kernel
theorem row_98 : rowC 98 = true := by decide +kernel
end Go.Proofs.Ythegbaaelccekaa
