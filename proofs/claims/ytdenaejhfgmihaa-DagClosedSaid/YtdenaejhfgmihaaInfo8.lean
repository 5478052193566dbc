/- The type of a byte; bytes as cells. -/
import Derived.Test.YtdenaejhfgmihaaProg
import Derived.Test.YtdenaejhfgmihaaKit
import Derived.Outline
namespace Go.Proofs.Ytdenaejhfgmihaa
open Go.RowKit

theorem info8 : (Try.prog.info? 5).map (fun i => (i.zero, i.size, i.bytes)) = some (some (.int .u8 0), 1, 1) := by kernel_rfl
def u8s (l : List Int) : List Value := l.map fun (x : Int) => Value.int .u8 x
end Go.Proofs.Ytdenaejhfgmihaa
