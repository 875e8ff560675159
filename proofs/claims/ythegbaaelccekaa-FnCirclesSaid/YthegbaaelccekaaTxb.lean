/-
  TenthsOf at 64ths: a share of the odd products, counted. No program, no condition.
-/
import Derived.Test.YthegbaaelccekaaTxa
namespace Go.Proofs.Ythegbaaelccekaa
set_option maxRecDepth 100000
theorem row_13 : rowC 13 = true := by decide +kernel
theorem row_21 : rowC 21 = true := by decide +kernel
theorem row_32 : rowC 32 = true := by decide +kernel
theorem row_39 : rowC 39 = true := by decide +kernel
theorem row_47 : rowC 47 = true := by decide +kernel
theorem row_55 : rowC 55 = true := by decide +kernel
theorem row_63 : rowC 63 = true := by decide +kernel
theorem row_71 : rowC 71 = true := by decide +kernel
theorem row_79 : rowC 79 = true := by decide +kernel
theorem row_87 : rowC 87 = true := by decide +kernel
theorem row_95 : rowC 95 = true := by decide +kernel
end Go.Proofs.Ythegbaaelccekaa
