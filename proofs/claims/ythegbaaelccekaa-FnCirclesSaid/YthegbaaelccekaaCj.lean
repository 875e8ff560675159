/-
  The products of the phasors of the parts 32 to 63, counted. No program, no condition.
-/
import Derived.Test.YthegbaaelccekaaCg
namespace Go.Proofs.Ythegbaaelccekaa
set_option maxRecDepth 100000
theorem prow_32 : rowP 32 = true := by decide +kernel
theorem prow_33 : rowP 33 = true := by decide +kernel
theorem prow_34 : rowP 34 = true := by decide +kernel
theorem prow_35 : rowP 35 = true := by decide +kernel
theorem prow_36 : rowP 36 = true := by decide +kernel
theorem prow_37 : rowP 37 = true := by decide +kernel
theorem prow_38 : rowP 38 = true := by decide +kernel
theorem prow_39 : rowP 39 = true := by decide +kernel
theorem prow_40 : rowP 40 = true := by decide +kernel
theorem prow_41 : rowP 41 = true := by decide +kernel
theorem prow_42 : rowP 42 = true := by decide +kernel
theorem prow_43 : rowP 43 = true := by decide +kernel
theorem prow_44 : rowP 44 = true := by decide +kernel
theorem prow_45 : rowP 45 = true := by decide +kernel
theorem prow_46 : rowP 46 = true := by decide +kernel
theorem prow_47 : rowP 47 = true := by decide +kernel
theorem prow_48 : rowP 48 = true := by decide +kernel
theorem prow_49 : rowP 49 = true := by decide +kernel
theorem prow_50 : rowP 50 = true := by decide +kernel
theorem prow_51 : rowP 51 = true := by decide +kernel
theorem prow_52 : rowP 52 = true := by decide +kernel
theorem prow_53 : rowP 53 = true := by decide +kernel
theorem prow_54 : rowP 54 = true := by decide +kernel
theorem prow_55 : rowP 55 = true := by decide +kernel
theorem prow_56 : rowP 56 = true := by decide +kernel
theorem prow_57 : rowP 57 = true := by decide +kernel
theorem prow_58 : rowP 58 = true := by decide +kernel
theorem prow_59 : rowP 59 = true := by decide +kernel
theorem prow_60 : rowP 60 = true := by decide +kernel
theorem prow_61 : rowP 61 = true := by decide +kernel
theorem prow_62 : rowP 62 = true := by decide +kernel
theorem prow_63 : rowP 63 = true := by decide +kernel
end Go.Proofs.Ythegbaaelccekaa
