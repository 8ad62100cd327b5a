/- Sets that may be, kind 1: what is done, and what is meant. -/
import Derived.Test.YtogfjdbkkhnmhaaPmuX
namespace Go.Sy.Pm

theorem w1_0 : midW 1 false false false false false false = true := by kernel_rfl
theorem w1_1 : midW 1 true false false false false false = true := by kernel_rfl
theorem w1_2 : midW 1 false true false false false false = true := by kernel_rfl
theorem w1_3 : midW 1 true true false false false false = true := by kernel_rfl
theorem w1_4 : midW 1 false false true false false false = true := by kernel_rfl
theorem w1_5 : midW 1 true false true false false false = true := by kernel_rfl
theorem w1_6 : midW 1 false true true false false false = true := by kernel_rfl
theorem w1_7 : midW 1 true true true false false false = true := by kernel_rfl
theorem w1_8 : midW 1 false false false true false false = true := by kernel_rfl
theorem w1_9 : midW 1 true false false true false false = true := by kernel_rfl
theorem w1_10 : midW 1 false true false true false false = true := by kernel_rfl
theorem w1_11 : midW 1 true true false true false false = true := by kernel_rfl
theorem w1_12 : midW 1 false false true true false false = true := by kernel_rfl
theorem w1_13 : midW 1 true false true true false false = true := by kernel_rfl
theorem w1_14 : midW 1 false true true true false false = true := by kernel_rfl
theorem w1_15 : midW 1 true true true true false false = true := by kernel_rfl
theorem w1_16 : midW 1 false false false false true false = true := by kernel_rfl
theorem w1_17 : midW 1 true false false false true false = true := by kernel_rfl
theorem w1_18 : midW 1 false true false false true false = true := by kernel_rfl
theorem w1_19 : midW 1 true true false false true false = true := by kernel_rfl
theorem w1_20 : midW 1 false false true false true false = true := by kernel_rfl
theorem w1_21 : midW 1 true false true false true false = true := by kernel_rfl
theorem w1_22 : midW 1 false true true false true false = true := by kernel_rfl
theorem w1_23 : midW 1 true true true false true false = true := by kernel_rfl
theorem w1_24 : midW 1 false false false true true false = true := by kernel_rfl
theorem w1_25 : midW 1 true false false true true false = true := by kernel_rfl
theorem w1_26 : midW 1 false true false true true false = true := by kernel_rfl
theorem w1_27 : midW 1 true true false true true false = true := by kernel_rfl
theorem w1_28 : midW 1 false false true true true false = true := by kernel_rfl
theorem w1_29 : midW 1 true false true true true false = true := by kernel_rfl
theorem w1_30 : midW 1 false true true true true false = true := by kernel_rfl
theorem w1_31 : midW 1 true true true true true false = true := by kernel_rfl

end Go.Sy.Pm
