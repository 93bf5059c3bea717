/- paths.Depth. -/
import Derived.Test.YtcapaiiegfedmaaDoorPartsA
namespace Go.Proofs.YtcapaiiegfedmaaDoor
open Go.RowKit Go.Shelf
attribute [local go_sem] Oper.semAt_some
end Go.Proofs.YtcapaiiegfedmaaDoor
