/- The constants of package api that ConnNames names have the values that the document gives them: the law ConnNames answers true. No conditions. -/
import Derived.Test.YtelkkdkdebipnaaPConnNamesx1
namespace Go.Proofs.Ytelkkdkdebipnaa.Pure
open Go.RowKit Go.Proofs.Ytelkkdkdebipnaa.PConnNames Go.Proofs.YtelkkdkdebipnaaW.PrintWords Go.Proofs.YtelkkdkdebipnaaW.PrintLast

/-- YOURS: spindlelaw14_ConnNames.f  = some true
What it reaches (each with k first where it has rounds; `.mono`: more rounds tell the same; `.l0`, ..: its loops, with `.mono_l`): spindlelaw14_num.f, spindlelaw14_ConnNames.f -/
theorem ConnNames : spindlelaw14_ConnNames.Pure := by
  unfold spindlelaw14_ConnNames.Pure
  rfl

end Go.Proofs.Ytelkkdkdebipnaa.Pure
