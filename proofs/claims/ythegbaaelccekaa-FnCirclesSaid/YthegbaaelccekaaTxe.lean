/-
  TenthsOf at 64ths: a share of the odd products, counted. No program, no condition.
-/
import Derived.Test.YthegbaaelccekaaTxa
namespace Go.Proofs.Ythegbaaelccekaa
set_option maxRecDepth 100000
theorem row_3 : rowC 3 = true := by decide +kernel
theorem row_18 : rowC 18 = true := by decide +kernel
theorem row_22 : rowC 22 = true := by decide +kernel
theorem row_24 : rowC 24 = true := by decide +kernel
theorem row_36 : rowC 36 = true := by decide +kernel
theorem row_42 : rowC 42 = true := by decide +kernel
theorem row_52 : rowC 52 = true := by decide +kernel
theorem row_58 : rowC 58 = true := by decide +kernel
theorem row_67 : rowC 67 = true := by decide +kernel
theorem row_75 : rowC 75 = true := by decide +kernel
theorem row_86 : rowC 86 = true := by decide +kernel
theorem row_88 : rowC 88 = true := by decide +kernel
end Go.Proofs.Ythegbaaelccekaa
