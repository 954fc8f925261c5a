/- The constants of package api that EngineNames names have the values that the document gives them: the law EngineNames answers true. No conditions. -/
import Derived.Test.YtelkkdkdebipnaaPEngineNamesx1
namespace Go.Proofs.Ytelkkdkdebipnaa.Pure
open Go.RowKit Go.Proofs.Ytelkkdkdebipnaa.PEngineNames Go.Proofs.YtelkkdkdebipnaaW.PrintWords Go.Proofs.YtelkkdkdebipnaaW.PrintLast

/-- YOURS: spindlelaw18_EngineNames.f  = some true
What it reaches (each with k first where it has rounds; `.mono`: more rounds tell the same; `.l0`, ..: its loops, with `.mono_l`): spindlelaw18_num.f, spindlelaw18_EngineNames.f -/
theorem EngineNames : spindlelaw18_EngineNames.Pure := by
  unfold spindlelaw18_EngineNames.Pure
  rfl

end Go.Proofs.Ytelkkdkdebipnaa.Pure
