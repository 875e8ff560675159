/-
  TenthsOf at 64ths: a share of the odd numbers below 200, counted. No program, no condition.
-/
import Derived.Test.YthegbaaelccekaaTxm
namespace Go.Proofs.Ythegbaaelccekaa
set_option maxRecDepth 100000
theorem part_0 : rowO 0 5 = true := by decide +kernel
theorem part_5 : rowO 5 5 = true := by decide +kernel
theorem part_10 : rowO 10 5 = true := by decide +kernel
theorem part_15 : rowO 15 5 = true := by decide +kernel
theorem part_20 : rowO 20 5 = true := by decide +kernel
theorem part_25 : rowO 25 5 = true := by decide +kernel
theorem part_30 : rowO 30 5 = true := by decide +kernel
theorem part_35 : rowO 35 5 = true := by decide +kernel
end Go.Proofs.Ythegbaaelccekaa
