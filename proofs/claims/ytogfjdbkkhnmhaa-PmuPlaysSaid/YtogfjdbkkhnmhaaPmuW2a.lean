/- Sets that may be, kind 2: what is done, and what is meant. -/
import Derived.Test.YtogfjdbkkhnmhaaPmuX
namespace Go.Sy.Pm

theorem w2_0 : midW 2 false false false false false false = true := by kernel_rfl
theorem w2_1 : midW 2 true false false false false false = true := by kernel_rfl
theorem w2_2 : midW 2 false true false false false false = true := by kernel_rfl
theorem w2_3 : midW 2 true true false false false false = true := by kernel_rfl
theorem w2_4 : midW 2 false false true false false false = true := by kernel_rfl
theorem w2_5 : midW 2 true false true false false false = true := by kernel_rfl
theorem w2_6 : midW 2 false true true false false false = true := by kernel_rfl
theorem w2_7 : midW 2 true true true false false false = true := by kernel_rfl
theorem w2_8 : midW 2 false false false true false false = true := by kernel_rfl
theorem w2_9 : midW 2 true false false true false false = true := by kernel_rfl
theorem w2_10 : midW 2 false true false true false false = true := by kernel_rfl
theorem w2_11 : midW 2 true true false true false false = true := by kernel_rfl
theorem w2_12 : midW 2 false false true true false false = true := by kernel_rfl
theorem w2_13 : midW 2 true false true true false false = true := by kernel_rfl
theorem w2_14 : midW 2 false true true true false false = true := by kernel_rfl
theorem w2_15 : midW 2 true true true true false false = true := by kernel_rfl
theorem w2_16 : midW 2 false false false false true false = true := by kernel_rfl
theorem w2_17 : midW 2 true false false false true false = true := by kernel_rfl
theorem w2_18 : midW 2 false true false false true false = true := by kernel_rfl
theorem w2_19 : midW 2 true true false false true false = true := by kernel_rfl
theorem w2_20 : midW 2 false false true false true false = true := by kernel_rfl
theorem w2_21 : midW 2 true false true false true false = true := by kernel_rfl
theorem w2_22 : midW 2 false true true false true false = true := by kernel_rfl
theorem w2_23 : midW 2 true true true false true false = true := by kernel_rfl
theorem w2_24 : midW 2 false false false true true false = true := by kernel_rfl
theorem w2_25 : midW 2 true false false true true false = true := by kernel_rfl
theorem w2_26 : midW 2 false true false true true false = true := by kernel_rfl
theorem w2_27 : midW 2 true true false true true false = true := by kernel_rfl
theorem w2_28 : midW 2 false false true true true false = true := by kernel_rfl
theorem w2_29 : midW 2 true false true true true false = true := by kernel_rfl
theorem w2_30 : midW 2 false true true true true false = true := by kernel_rfl
theorem w2_31 : midW 2 true true true true true false = true := by kernel_rfl

end Go.Sy.Pm
