/- A text above its bound is none, and one of just so many blanks has no words. For every input; no condition. -/
import Derived.Test.YtajdnphpjlfajaaLexLaws
namespace Go.Proofs.Ytajdnphpjlfajaa.Pure
open Go.RowKit Go.Proofs.Ytajdnphpjlfajaa.Q Go.Proofs.YtajdnphpjlfajaaW.PrintWords Go.Proofs.YtajdnphpjlfajaaW.PrintLast

theorem LexLong : quaerelaw21_LexLong.Pure := fun a0 _ => (LexPlain.lexLong a0).rounds

end Go.Proofs.Ytajdnphpjlfajaa.Pure
