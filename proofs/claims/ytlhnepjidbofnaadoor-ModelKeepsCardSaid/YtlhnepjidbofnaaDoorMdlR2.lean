/- The document's model: what is found: the contract. -/
import Derived.Test.YtlhnepjidbofnaaDoorMdlR1
namespace Go.Mdl
open Go.Vx Go.Vc Go.Proofs Go.Txt

end Go.Mdl
