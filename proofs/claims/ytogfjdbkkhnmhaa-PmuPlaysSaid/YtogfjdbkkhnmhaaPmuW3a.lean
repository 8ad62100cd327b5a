/- Sets that may be, kind 3: what is done, and what is meant. -/
import Derived.Test.YtogfjdbkkhnmhaaPmuX
namespace Go.Sy.Pm

theorem w3_0 : midW 3 false false false false false false = true := by kernel_rfl
theorem w3_1 : midW 3 true false false false false false = true := by kernel_rfl
theorem w3_2 : midW 3 false true false false false false = true := by kernel_rfl
theorem w3_3 : midW 3 true true false false false false = true := by kernel_rfl
theorem w3_4 : midW 3 false false true false false false = true := by kernel_rfl
theorem w3_5 : midW 3 true false true false false false = true := by kernel_rfl
theorem w3_6 : midW 3 false true true false false false = true := by kernel_rfl
theorem w3_7 : midW 3 true true true false false false = true := by kernel_rfl
theorem w3_8 : midW 3 false false false true false false = true := by kernel_rfl
theorem w3_9 : midW 3 true false false true false false = true := by kernel_rfl
theorem w3_10 : midW 3 false true false true false false = true := by kernel_rfl
theorem w3_11 : midW 3 true true false true false false = true := by kernel_rfl
theorem w3_12 : midW 3 false false true true false false = true := by kernel_rfl
theorem w3_13 : midW 3 true false true true false false = true := by kernel_rfl
theorem w3_14 : midW 3 false true true true false false = true := by kernel_rfl
theorem w3_15 : midW 3 true true true true false false = true := by kernel_rfl
theorem w3_16 : midW 3 false false false false true false = true := by kernel_rfl
theorem w3_17 : midW 3 true false false false true false = true := by kernel_rfl
theorem w3_18 : midW 3 false true false false true false = true := by kernel_rfl
theorem w3_19 : midW 3 true true false false true false = true := by kernel_rfl
theorem w3_20 : midW 3 false false true false true false = true := by kernel_rfl
theorem w3_21 : midW 3 true false true false true false = true := by kernel_rfl
theorem w3_22 : midW 3 false true true false true false = true := by kernel_rfl
theorem w3_23 : midW 3 true true true false true false = true := by kernel_rfl
theorem w3_24 : midW 3 false false false true true false = true := by kernel_rfl
theorem w3_25 : midW 3 true false false true true false = true := by kernel_rfl
theorem w3_26 : midW 3 false true false true true false = true := by kernel_rfl
theorem w3_27 : midW 3 true true false true true false = true := by kernel_rfl
theorem w3_28 : midW 3 false false true true true false = true := by kernel_rfl
theorem w3_29 : midW 3 true false true true true false = true := by kernel_rfl
theorem w3_30 : midW 3 false true true true true false = true := by kernel_rfl
theorem w3_31 : midW 3 true true true true true false = true := by kernel_rfl

end Go.Sy.Pm
