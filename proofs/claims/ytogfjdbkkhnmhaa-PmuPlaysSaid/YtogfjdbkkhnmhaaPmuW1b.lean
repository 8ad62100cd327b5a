/- Sets that may be, kind 1: what is done, and what is meant. -/
import Derived.Test.YtogfjdbkkhnmhaaPmuX
namespace Go.Sy.Pm

theorem w1_32 : midW 1 false false false false false true = true := by kernel_rfl
theorem w1_33 : midW 1 true false false false false true = true := by kernel_rfl
theorem w1_34 : midW 1 false true false false false true = true := by kernel_rfl
theorem w1_35 : midW 1 true true false false false true = true := by kernel_rfl
theorem w1_36 : midW 1 false false true false false true = true := by kernel_rfl
theorem w1_37 : midW 1 true false true false false true = true := by kernel_rfl
theorem w1_38 : midW 1 false true true false false true = true := by kernel_rfl
theorem w1_39 : midW 1 true true true false false true = true := by kernel_rfl
theorem w1_40 : midW 1 false false false true false true = true := by kernel_rfl
theorem w1_41 : midW 1 true false false true false true = true := by kernel_rfl
theorem w1_42 : midW 1 false true false true false true = true := by kernel_rfl
theorem w1_43 : midW 1 true true false true false true = true := by kernel_rfl
theorem w1_44 : midW 1 false false true true false true = true := by kernel_rfl
theorem w1_45 : midW 1 true false true true false true = true := by kernel_rfl
theorem w1_46 : midW 1 false true true true false true = true := by kernel_rfl
theorem w1_47 : midW 1 true true true true false true = true := by kernel_rfl
theorem w1_48 : midW 1 false false false false true true = true := by kernel_rfl
theorem w1_49 : midW 1 true false false false true true = true := by kernel_rfl
theorem w1_50 : midW 1 false true false false true true = true := by kernel_rfl
theorem w1_51 : midW 1 true true false false true true = true := by kernel_rfl
theorem w1_52 : midW 1 false false true false true true = true := by kernel_rfl
theorem w1_53 : midW 1 true false true false true true = true := by kernel_rfl
theorem w1_54 : midW 1 false true true false true true = true := by kernel_rfl
theorem w1_55 : midW 1 true true true false true true = true := by kernel_rfl
theorem w1_56 : midW 1 false false false true true true = true := by kernel_rfl
theorem w1_57 : midW 1 true false false true true true = true := by kernel_rfl
theorem w1_58 : midW 1 false true false true true true = true := by kernel_rfl
theorem w1_59 : midW 1 true true false true true true = true := by kernel_rfl
theorem w1_60 : midW 1 false false true true true true = true := by kernel_rfl
theorem w1_61 : midW 1 true false true true true true = true := by kernel_rfl
theorem w1_62 : midW 1 false true true true true true = true := by kernel_rfl
theorem w1_63 : midW 1 true true true true true true = true := by kernel_rfl

end Go.Sy.Pm
