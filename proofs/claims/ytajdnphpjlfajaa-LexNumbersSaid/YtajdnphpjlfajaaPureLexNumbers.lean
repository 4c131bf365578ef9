/- Numbers have one to four digits without noughts ahead, and the number of a variable is one of so many. For every input; no condition. -/
import Derived.Test.YtajdnphpjlfajaaLexLaws
namespace Go.Proofs.Ytajdnphpjlfajaa.Pure
open Go.RowKit Go.Proofs.Ytajdnphpjlfajaa.Q Go.Proofs.YtajdnphpjlfajaaW.PrintWords Go.Proofs.YtajdnphpjlfajaaW.PrintLast

theorem LexNumbers : quaerelaw21_LexNumbers.Pure := fun a0 _ => (LexPlain.lexNumbers a0).rounds

end Go.Proofs.Ytajdnphpjlfajaa.Pure
