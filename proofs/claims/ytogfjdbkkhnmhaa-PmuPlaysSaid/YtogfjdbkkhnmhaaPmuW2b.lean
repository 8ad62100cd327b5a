/- Sets that may be, kind 2: what is done, and what is meant. -/
import Derived.Test.YtogfjdbkkhnmhaaPmuX
namespace Go.Sy.Pm

theorem w2_32 : midW 2 false false false false false true = true := by kernel_rfl
theorem w2_33 : midW 2 true false false false false true = true := by kernel_rfl
theorem w2_34 : midW 2 false true false false false true = true := by kernel_rfl
theorem w2_35 : midW 2 true true false false false true = true := by kernel_rfl
theorem w2_36 : midW 2 false false true false false true = true := by kernel_rfl
theorem w2_37 : midW 2 true false true false false true = true := by kernel_rfl
theorem w2_38 : midW 2 false true true false false true = true := by kernel_rfl
theorem w2_39 : midW 2 true true true false false true = true := by kernel_rfl
theorem w2_40 : midW 2 false false false true false true = true := by kernel_rfl
theorem w2_41 : midW 2 true false false true false true = true := by kernel_rfl
theorem w2_42 : midW 2 false true false true false true = true := by kernel_rfl
theorem w2_43 : midW 2 true true false true false true = true := by kernel_rfl
theorem w2_44 : midW 2 false false true true false true = true := by kernel_rfl
theorem w2_45 : midW 2 true false true true false true = true := by kernel_rfl
theorem w2_46 : midW 2 false true true true false true = true := by kernel_rfl
theorem w2_47 : midW 2 true true true true false true = true := by kernel_rfl
theorem w2_48 : midW 2 false false false false true true = true := by kernel_rfl
theorem w2_49 : midW 2 true false false false true true = true := by kernel_rfl
theorem w2_50 : midW 2 false true false false true true = true := by kernel_rfl
theorem w2_51 : midW 2 true true false false true true = true := by kernel_rfl
theorem w2_52 : midW 2 false false true false true true = true := by kernel_rfl
theorem w2_53 : midW 2 true false true false true true = true := by kernel_rfl
theorem w2_54 : midW 2 false true true false true true = true := by kernel_rfl
theorem w2_55 : midW 2 true true true false true true = true := by kernel_rfl
theorem w2_56 : midW 2 false false false true true true = true := by kernel_rfl
theorem w2_57 : midW 2 true false false true true true = true := by kernel_rfl
theorem w2_58 : midW 2 false true false true true true = true := by kernel_rfl
theorem w2_59 : midW 2 true true false true true true = true := by kernel_rfl
theorem w2_60 : midW 2 false false true true true true = true := by kernel_rfl
theorem w2_61 : midW 2 true false true true true true = true := by kernel_rfl
theorem w2_62 : midW 2 false true true true true true = true := by kernel_rfl
theorem w2_63 : midW 2 true true true true true true = true := by kernel_rfl

end Go.Sy.Pm
