/-
  TenthsOf at 64ths: a share of the odd products, counted. No program, no condition.
-/
import Derived.Test.YthegbaaelccekaaTxa
namespace Go.Proofs.Ythegbaaelccekaa
set_option maxRecDepth 100000
theorem row_1 : rowC 1 = true := by decide +kernel
theorem row_9 : rowC 9 = true := by decide +kernel
theorem row_23 : rowC 23 = true := by decide +kernel
theorem row_25 : rowC 25 = true := by decide +kernel
theorem row_38 : rowC 38 = true := by decide +kernel
theorem row_40 : rowC 40 = true := by decide +kernel
theorem row_54 : rowC 54 = true := by decide +kernel
theorem row_56 : rowC 56 = true := by decide +kernel
theorem row_70 : rowC 70 = true := by decide +kernel
theorem row_72 : rowC 72 = true := by decide +kernel
theorem row_84 : rowC 84 = true := by decide +kernel
theorem row_90 : rowC 90 = true := by decide +kernel
end Go.Proofs.Ythegbaaelccekaa
