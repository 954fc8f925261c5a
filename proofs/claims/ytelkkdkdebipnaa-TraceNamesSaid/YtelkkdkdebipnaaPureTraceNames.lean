/- The constants of package api that TraceNames names have the values that the document gives them: the law TraceNames answers true. No conditions. -/
import Derived.Test.YtelkkdkdebipnaaPTraceNamesx1
namespace Go.Proofs.Ytelkkdkdebipnaa.Pure
open Go.RowKit Go.Proofs.Ytelkkdkdebipnaa.PTraceNames Go.Proofs.YtelkkdkdebipnaaW.PrintWords Go.Proofs.YtelkkdkdebipnaaW.PrintLast

/-- YOURS: spindlelaw22_TraceNames.f  = some true
What it reaches (each with k first where it has rounds; `.mono`: more rounds tell the same; `.l0`, ..: its loops, with `.mono_l`): spindlelaw22_TraceNames.f -/
theorem TraceNames : spindlelaw22_TraceNames.Pure := by
  unfold spindlelaw22_TraceNames.Pure
  rfl

end Go.Proofs.Ytelkkdkdebipnaa.Pure
