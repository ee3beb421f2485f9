/- The document's model: the contract of 'order'. -/
import Derived.Test.YtlhnepjidbofnaaDoorMdlY
namespace Go.Mdl
open Go.Vx Go.Vc Go.Proofs Go.Txt

end Go.Mdl
