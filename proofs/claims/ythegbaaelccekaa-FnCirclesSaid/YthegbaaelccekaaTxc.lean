/-
  TenthsOf at 64ths: a share of the odd products, counted. No program, no condition.
-/
import Derived.Test.YthegbaaelccekaaTxa
namespace Go.Proofs.Ythegbaaelccekaa
set_option maxRecDepth 100000
theorem row_6 : rowC 6 = true := by decide +kernel
theorem row_16 : rowC 16 = true := by decide +kernel
theorem row_20 : rowC 20 = true := by decide +kernel
theorem row_27 : rowC 27 = true := by decide +kernel
theorem row_34 : rowC 34 = true := by decide +kernel
theorem row_44 : rowC 44 = true := by decide +kernel
theorem row_50 : rowC 50 = true := by decide +kernel
theorem row_60 : rowC 60 = true := by decide +kernel
theorem row_66 : rowC 66 = true := by decide +kernel
theorem row_76 : rowC 76 = true := by decide +kernel
theorem row_81 : rowC 81 = true := by decide +kernel
theorem row_93 : rowC 93 = true := by decide +kernel
theorem row_97 : rowC 97 = true := by decide +kernel
end Go.Proofs.Ythegbaaelccekaa
