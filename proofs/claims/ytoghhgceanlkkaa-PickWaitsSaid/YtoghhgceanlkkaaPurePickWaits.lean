/- What waits first goes within as many picks as the ratio says, whatever comes behind it. For every input; no condition. -/
import Derived.Test.YtoghhgceanlkkaaPickPlain
namespace Go.Proofs.Ytoghhgceanlkkaa.Pure
open Go.RowKit Go.Proofs.Ytoghhgceanlkkaa.Q Go.Proofs.YtoghhgceanlkkaaW.PrintWords Go.Proofs.YtoghhgceanlkkaaW.PrintLast

theorem PickWaits : quaerelaw19_PickWaits.Pure := fun a0 a1 a2 l3 _ _ _ _ h _ => (PickPlain.pickWaits a0 a1 a2 l3 h).rounds

end Go.Proofs.Ytoghhgceanlkkaa.Pure
