/- flittinglaw01.awake. -/
import Derived.Test.YtcapaiiegfedmaaDoorCol
namespace Go.Proofs.YtcapaiiegfedmaaDoor
open Go.RowKit Go.Shelf
theorem Slc.new (w : World) (cs : List Value) (e : TypeId) : Slc (w.alloc (.cells cs.toArray e)) (some ⟨w.heap.size, 0, none⟩) cs := by
  refine .inr ⟨w.heap.size, 0, rfl, by simp, fun i v hv => ?_⟩
  have h := World.alloc_heap_new w (.cells cs.toArray e)
  unfold World.cell?
  rw [h]
  simp [hv]
theorem aw_rebase : refMove [97, 47, 98, 47, 99] [97] [120, 47, 121] = ([120, 47, 121, 47, 98, 47, 99], true) := by decide
theorem aw_cmp : cmpB [97, 47, 98] [97, 45, 98] = -1 := by decide
theorem aw_ups : (upsL [97, 47, 98]).take 9 = [[], [97]] := by decide
end Go.Proofs.YtcapaiiegfedmaaDoor

