/- Bytes as elements. -/
import Derived.Test.YthknhonpcmneaaaMem
import Derived.Test.YthknhonpcmneaaaProg
namespace Go.Proofs.Ythknhonpcmneaaa
open Go Go.RowKit

theorem elemB : ElemOk Try.prog 39 5 (.int .u8 0) 1 := ElemOk.of Try.underlying39 (by kernel_rfl) rfl
end Go.Proofs.Ythknhonpcmneaaa
