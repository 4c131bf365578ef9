/- By weight the least one goes, and the first of these, and weights that are all greater by the same leave it so. For every input; no condition. -/
import Derived.Test.YtoghhgceanlkkaaPickPlain
namespace Go.Proofs.Ytoghhgceanlkkaa.Pure
open Go.RowKit Go.Proofs.Ytoghhgceanlkkaa.Q Go.Proofs.YtoghhgceanlkkaaW.PrintWords Go.Proofs.YtoghhgceanlkkaaW.PrintLast

theorem PickLeast : quaerelaw19_PickLeast.Pure := fun l0 a1 a2 a3 _ _ _ _ _ _ => (PickPlain.pickLeast l0 a1 a2 a3).rounds

end Go.Proofs.Ytoghhgceanlkkaa.Pure
