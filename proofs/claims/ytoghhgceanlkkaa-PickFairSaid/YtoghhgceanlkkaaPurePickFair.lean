/- Of as many turns in a row as the ratio has parts, from whichever turn on, so many are the first one by age. For every input; no condition. -/
import Derived.Test.YtoghhgceanlkkaaPickPlain
namespace Go.Proofs.Ytoghhgceanlkkaa.Pure
open Go.RowKit Go.Proofs.Ytoghhgceanlkkaa.Q Go.Proofs.YtoghhgceanlkkaaW.PrintWords Go.Proofs.YtoghhgceanlkkaaW.PrintLast

theorem PickFair : quaerelaw19_PickFair.Pure := fun a0 a1 a2 _ _ _ => (PickPlain.pickFair a0 a1 a2).rounds

end Go.Proofs.Ytoghhgceanlkkaa.Pure
