/-
  The products of the phasors of the parts 0 to 31, counted. No program, no condition.
-/
import Derived.Test.YthegbaaelccekaaCg
namespace Go.Proofs.Ythegbaaelccekaa
set_option maxRecDepth 100000
theorem prow_0 : rowP 0 = true := by decide +kernel
theorem prow_1 : rowP 1 = true := by decide +kernel
theorem prow_2 : rowP 2 = true := by decide +kernel
theorem prow_3 : rowP 3 = true := by decide +kernel
theorem prow_4 : rowP 4 = true := by decide +kernel
theorem prow_5 : rowP 5 = true := by decide +kernel
theorem prow_6 : rowP 6 = true := by decide +kernel
theorem prow_7 : rowP 7 = true := by decide +kernel
theorem prow_8 : rowP 8 = true := by decide +kernel
theorem prow_9 : rowP 9 = true := by decide +kernel
theorem prow_10 : rowP 10 = true := by decide +kernel
theorem prow_11 : rowP 11 = true := by decide +kernel
theorem prow_12 : rowP 12 = true := by decide +kernel
theorem prow_13 : rowP 13 = true := by decide +kernel
theorem prow_14 : rowP 14 = true := by decide +kernel
theorem prow_15 : rowP 15 = true := by decide +kernel
theorem prow_16 : rowP 16 = true := by decide +kernel
theorem prow_17 : rowP 17 = true := by decide +kernel
theorem prow_18 : rowP 18 = true := by decide +kernel
theorem prow_19 : rowP 19 = true := by decide +kernel
theorem prow_20 : rowP 20 = true := by decide +kernel
theorem prow_21 : rowP 21 = true := by decide +kernel
theorem prow_22 : rowP 22 = true := by decide +kernel
theorem prow_23 : rowP 23 = true := by decide +kernel
theorem prow_24 : rowP 24 = true := by decide +kernel
theorem prow_25 : rowP 25 = true := by decide +kernel
theorem prow_26 : rowP 26 = true := by decide +kernel
theorem prow_27 : rowP 27 = true := by decide +kernel
theorem prow_28 : rowP 28 = true := by decide +kernel
theorem prow_29 : rowP 29 = true := by decide +kernel
theorem prow_30 : rowP 30 = true := by decide +kernel
theorem prow_31 : rowP 31 = true := by decide +kernel
end Go.Proofs.Ythegbaaelccekaa
