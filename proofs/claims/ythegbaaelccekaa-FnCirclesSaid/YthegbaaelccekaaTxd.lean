/-
  TenthsOf at 64ths: a share of the odd products, counted. No program, no condition.
-/
import Derived.Test.YthegbaaelccekaaTxa
namespace Go.Proofs.Ythegbaaelccekaa
set_option maxRecDepth 100000
theorem row_5 : rowC 5 = true := by decide +kernel
theorem row_17 : rowC 17 = true := by decide +kernel
theorem row_26 : rowC 26 = true := by decide +kernel
theorem row_29 : rowC 29 = true := by decide +kernel
theorem row_33 : rowC 33 = true := by decide +kernel
theorem row_46 : rowC 46 = true := by decide +kernel
theorem row_48 : rowC 48 = true := by decide +kernel
theorem row_62 : rowC 62 = true := by decide +kernel
theorem row_64 : rowC 64 = true := by decide +kernel
theorem row_78 : rowC 78 = true := by decide +kernel
theorem row_80 : rowC 80 = true := by decide +kernel
theorem row_94 : rowC 94 = true := by decide +kernel
theorem row_96 : rowC 96 = true := by decide +kernel
end Go.Proofs.Ythegbaaelccekaa
