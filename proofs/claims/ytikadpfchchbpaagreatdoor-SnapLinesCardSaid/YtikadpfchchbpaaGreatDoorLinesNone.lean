/- strings.Lines' iterator over the empty text: no line comes. Conditions: none. -/
import Derived.Test.YtikadpfchchbpaaGreatDoorRangeCell
import Derived.Test.YtikadpfchchbpaaGreatDoorOpen2
import Derived.Shelf.Abstract
import Derived.Shelf.RegionOpen
import Derived.WalkKit
import Derived.OwnWalkIn
import Derived.TacticsInMore
import Derived.LoopNIn
import Derived.LoopIn
namespace Go.Proofs.YtikadpfchchbpaaGreatDoor
open Go.RowKit Go.Shelf
set_option maxRecDepth 100000
attribute [local go_sem] Oper.semAt_some

set_option maxHeartbeats 1000000 in
theorem lines_none {α : Type} (encs : α → Array Value) (n t T : Nat) (w : World) (ht : w.heap[t]? = some (.cells #[.string ⟨#[]⟩] T (0, 0))) :
    GivesAll Fence.wide n Tryz.prog 66 #[.pointer (some ⟨t, 0, none⟩)] encs t ([] : List α) w := by
  intro l J Jx W hW hJ hJx hJs hJxs hY h0
  have hl := blk_lt ht
  have hb := (hW.block _ hl).trans ht
  have hc := blk_cell hb 0
  simp at hc
  refine callsIn_of_wp Tryz.func66 rfl trivial ?_ rfl
  simp only [Tryz.ntmps66, List.size_toArray, List.length_cons, List.length_nil, Nat.reduceAdd, Nat.reduceSub, Array.replicate_succ, Array.replicate_zero, List.push_toArray, List.append_toArray, List.nil_append, List.cons_append]
  gi_wp2
  gi_loopw [3] (fun _ wr => wr = W) (fun _ _ => 0)
  case atStart => rfl
  case round =>
    subst hrel
    gi_wp2
    go_end0
    exact ⟨⟨_, rfl⟩, .inl h0⟩
end Go.Proofs.YtikadpfchchbpaaGreatDoor
