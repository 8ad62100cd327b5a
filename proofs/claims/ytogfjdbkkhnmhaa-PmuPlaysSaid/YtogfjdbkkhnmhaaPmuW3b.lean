/- Sets that may be, kind 3: what is done, and what is meant. -/
import Derived.Test.YtogfjdbkkhnmhaaPmuX
namespace Go.Sy.Pm

theorem w3_32 : midW 3 false false false false false true = true := by kernel_rfl
theorem w3_33 : midW 3 true false false false false true = true := by kernel_rfl
theorem w3_34 : midW 3 false true false false false true = true := by kernel_rfl
theorem w3_35 : midW 3 true true false false false true = true := by kernel_rfl
theorem w3_36 : midW 3 false false true false false true = true := by kernel_rfl
theorem w3_37 : midW 3 true false true false false true = true := by kernel_rfl
theorem w3_38 : midW 3 false true true false false true = true := by kernel_rfl
theorem w3_39 : midW 3 true true true false false true = true := by kernel_rfl
theorem w3_40 : midW 3 false false false true false true = true := by kernel_rfl
theorem w3_41 : midW 3 true false false true false true = true := by kernel_rfl
theorem w3_42 : midW 3 false true false true false true = true := by kernel_rfl
theorem w3_43 : midW 3 true true false true false true = true := by kernel_rfl
theorem w3_44 : midW 3 false false true true false true = true := by kernel_rfl
theorem w3_45 : midW 3 true false true true false true = true := by kernel_rfl
theorem w3_46 : midW 3 false true true true false true = true := by kernel_rfl
theorem w3_47 : midW 3 true true true true false true = true := by kernel_rfl
theorem w3_48 : midW 3 false false false false true true = true := by kernel_rfl
theorem w3_49 : midW 3 true false false false true true = true := by kernel_rfl
theorem w3_50 : midW 3 false true false false true true = true := by kernel_rfl
theorem w3_51 : midW 3 true true false false true true = true := by kernel_rfl
theorem w3_52 : midW 3 false false true false true true = true := by kernel_rfl
theorem w3_53 : midW 3 true false true false true true = true := by kernel_rfl
theorem w3_54 : midW 3 false true true false true true = true := by kernel_rfl
theorem w3_55 : midW 3 true true true false true true = true := by kernel_rfl
theorem w3_56 : midW 3 false false false true true true = true := by kernel_rfl
theorem w3_57 : midW 3 true false false true true true = true := by kernel_rfl
theorem w3_58 : midW 3 false true false true true true = true := by kernel_rfl
theorem w3_59 : midW 3 true true false true true true = true := by kernel_rfl
theorem w3_60 : midW 3 false false true true true true = true := by kernel_rfl
theorem w3_61 : midW 3 true false true true true true = true := by kernel_rfl
theorem w3_62 : midW 3 false true true true true true = true := by kernel_rfl
theorem w3_63 : midW 3 true true true true true true = true := by kernel_rfl

end Go.Sy.Pm
