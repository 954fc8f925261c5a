/- The constants of package api that ClientNames names have the values that the document gives them: the law ClientNames answers true. No conditions. -/
import Derived.Test.YtelkkdkdebipnaaPClientNamesx1
namespace Go.Proofs.Ytelkkdkdebipnaa.Pure
open Go.RowKit Go.Proofs.Ytelkkdkdebipnaa.PClientNames Go.Proofs.YtelkkdkdebipnaaW.PrintWords Go.Proofs.YtelkkdkdebipnaaW.PrintLast

/-- YOURS: spindlelaw16_ClientNames.f  = some true
What it reaches (each with k first where it has rounds; `.mono`: more rounds tell the same; `.l0`, ..: its loops, with `.mono_l`): spindlelaw16_num.f, spindlelaw16_ClientNames.f -/
theorem ClientNames : spindlelaw16_ClientNames.Pure := by
  unfold spindlelaw16_ClientNames.Pure
  rfl

end Go.Proofs.Ytelkkdkdebipnaa.Pure
