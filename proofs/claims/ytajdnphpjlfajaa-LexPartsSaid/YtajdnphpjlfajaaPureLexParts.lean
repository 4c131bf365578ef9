/- The words of a text, one behind the other, are the text without its blanks. For every input; no condition. -/
import Derived.Test.YtajdnphpjlfajaaLexLaws
namespace Go.Proofs.Ytajdnphpjlfajaa.Pure
open Go.RowKit Go.Proofs.Ytajdnphpjlfajaa.Q Go.Proofs.YtajdnphpjlfajaaW.PrintWords Go.Proofs.YtajdnphpjlfajaaW.PrintLast

theorem LexParts : quaerelaw21_LexParts.Pure := fun a0 _ => (LexPlain.lexParts a0).rounds

end Go.Proofs.Ytajdnphpjlfajaa.Pure
