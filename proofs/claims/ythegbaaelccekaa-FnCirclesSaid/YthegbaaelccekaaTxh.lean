/-
  TenthsOf at 64ths: a share of the odd products, counted. No program, no condition.
-/
import Derived.Test.YthegbaaelccekaaTxa
namespace Go.Proofs.Ythegbaaelccekaa
set_option maxRecDepth 100000
theorem row_2 : rowC 2 = true := by decide +kernel
theorem row_7 : rowC 7 = true := by decide +kernel
theorem row_15 : rowC 15 = true := by decide +kernel
theorem row_30 : rowC 30 = true := by decide +kernel
theorem row_35 : rowC 35 = true := by decide +kernel
theorem row_43 : rowC 43 = true := by decide +kernel
theorem row_51 : rowC 51 = true := by decide +kernel
theorem row_59 : rowC 59 = true := by decide +kernel
theorem row_68 : rowC 68 = true := by decide +kernel
theorem row_74 : rowC 74 = true := by decide +kernel
theorem row_83 : rowC 83 = true := by decide +kernel
theorem row_91 : rowC 91 = true := by decide +kernel
theorem row_99 : rowC 99 = true := by decide +kernel
end Go.Proofs.Ythegbaaelccekaa
