/- Whatever the text, the lexer of the program tells the words and the error that the reference tells. For every input; no condition. -/
import Derived.Test.YtajdnphpjlfajaaLexLaws
namespace Go.Proofs.Ytajdnphpjlfajaa.Pure
open Go.RowKit Go.Proofs.Ytajdnphpjlfajaa.Q Go.Proofs.YtajdnphpjlfajaaW.PrintWords Go.Proofs.YtajdnphpjlfajaaW.PrintLast

theorem Lexes : quaerelaw21_Lexes.Pure := fun a0 _ => (LexPlain.lexes a0).rounds

end Go.Proofs.Ytajdnphpjlfajaa.Pure
