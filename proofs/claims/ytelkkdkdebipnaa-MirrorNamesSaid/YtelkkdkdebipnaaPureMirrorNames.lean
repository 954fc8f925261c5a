/- The constants of package api that MirrorNames names have the values that the document gives them: the law MirrorNames answers true. No conditions. -/
import Derived.Test.YtelkkdkdebipnaaPMirrorNamesx1
namespace Go.Proofs.Ytelkkdkdebipnaa.Pure
open Go.RowKit Go.Proofs.Ytelkkdkdebipnaa.PMirrorNames Go.Proofs.YtelkkdkdebipnaaW.PrintWords Go.Proofs.YtelkkdkdebipnaaW.PrintLast

/-- YOURS: spindlelaw24_MirrorNames.f  = some true
What it reaches (each with k first where it has rounds; `.mono`: more rounds tell the same; `.l0`, ..: its loops, with `.mono_l`): spindlelaw24_num.f, spindlelaw24_MirrorNames.f -/
theorem MirrorNames : spindlelaw24_MirrorNames.Pure := by
  unfold spindlelaw24_MirrorNames.Pure
  rfl

end Go.Proofs.Ytelkkdkdebipnaa.Pure
