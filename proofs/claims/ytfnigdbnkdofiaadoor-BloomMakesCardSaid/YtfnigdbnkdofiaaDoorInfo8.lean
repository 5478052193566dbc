/- The type of a byte; bytes as cells. -/
import Derived.Test.YtfnigdbnkdofiaaDoorProg
import Derived.Test.YtfnigdbnkdofiaaDoorKit
import Derived.Outline
namespace Go.Proofs.YtfnigdbnkdofiaaDoor
open Go.RowKit

theorem info8 : (Tryd.prog.info? 5).map (fun i => (i.zero, i.size, i.bytes)) = some (some (.int .u8 0), 1, 1) := by kernel_rfl
def u8s (l : List Int) : List Value := l.map fun (x : Int) => Value.int .u8 x
end Go.Proofs.YtfnigdbnkdofiaaDoor
