/- Words with a blank between are read as they were, and so are the words of two texts with a blank between. For every input; no condition. -/
import Derived.Test.YtajdnphpjlfajaaLexLaws
namespace Go.Proofs.Ytajdnphpjlfajaa.Pure
open Go.RowKit Go.Proofs.Ytajdnphpjlfajaa.Q Go.Proofs.YtajdnphpjlfajaaW.PrintWords Go.Proofs.YtajdnphpjlfajaaW.PrintLast

theorem LexJoins : quaerelaw21_LexJoins.Pure := fun a0 a1 h0 h1 => (LexPlain.lexJoins a0 a1 h0 h1).rounds

end Go.Proofs.Ytajdnphpjlfajaa.Pure
