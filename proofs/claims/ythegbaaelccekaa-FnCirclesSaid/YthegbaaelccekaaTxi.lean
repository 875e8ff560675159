/-
  TenthsOf at 64ths: a share of the odd products, counted. No program, no condition.
-/
import Derived.Test.YthegbaaelccekaaTxa
namespace Go.Proofs.Ythegbaaelccekaa
set_option maxRecDepth 100000
theorem row_4 : rowC 4 = true := by decide +kernel
theorem row_11 : rowC 11 = true := by decide +kernel
theorem row_14 : rowC 14 = true := by decide +kernel
theorem row_28 : rowC 28 = true := by decide +kernel
theorem row_37 : rowC 37 = true := by decide +kernel
theorem row_41 : rowC 41 = true := by decide +kernel
theorem row_53 : rowC 53 = true := by decide +kernel
theorem row_57 : rowC 57 = true := by decide +kernel
theorem row_69 : rowC 69 = true := by decide +kernel
theorem row_73 : rowC 73 = true := by decide +kernel
theorem row_85 : rowC 85 = true := by decide +kernel
theorem row_89 : rowC 89 = true := by decide +kernel
end Go.Proofs.Ythegbaaelccekaa
