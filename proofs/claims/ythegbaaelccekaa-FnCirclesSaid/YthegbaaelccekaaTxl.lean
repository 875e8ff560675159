/-
  TenthsOf at 64ths: a share of the odd numbers below 200, counted. No program, no condition.
-/
import Derived.Test.YthegbaaelccekaaTxm
namespace Go.Proofs.Ythegbaaelccekaa
set_option maxRecDepth 100000
theorem part_40 : rowO 40 10 = true := by decide +kernel
theorem part_50 : rowO 50 10 = true := by decide +kernel
theorem part_60 : rowO 60 10 = true := by decide +kernel
theorem part_70 : rowO 70 10 = true := by decide +kernel
theorem part_80 : rowO 80 10 = true := by decide +kernel
theorem part_90 : rowO 90 10 = true := by decide +kernel
end Go.Proofs.Ythegbaaelccekaa
