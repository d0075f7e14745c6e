/- Package snap: Load of the empty text, for every plan that is right: it is refused as no text of a kernel. Conditions: the table of forms, which the row lists. -/
import Derived.Test.YtikadpfchchbpaaGreatDoorSnapRead
import Derived.Test.YtikadpfchchbpaaGreatDoorRunU
namespace Go.Proofs.YtikadpfchchbpaaGreatDoor
open Go.RowKit
set_option maxRecDepth 100000

set_option maxHeartbeats 2000000 in
theorem sload_none (w : World) (m : PM) (hf : Forms w) (hm : PlanAt w m) (he : planChk m.pl = 0) (h0 : m.ros.length ≤ 1000) (h3 : m.wires.length ≤ 1000) :
    Calls Tryz.prog 5 #[.agg #[.slice m.A m.ros.length m.c, .int .i64 m.ticks, .slice m.sA m.spans.length m.sc, .slice m.wA m.wires.length m.wc], .string ⟨#[]⟩] w fun e w' => e = .returned (.tuple #[.pointer none, errV 2]) ∧ Below w.heap.size w w' := by
  obtain ⟨w1, hw1⟩ : ∃ w1, w1 = w.alloc (.cells #[.slice m.A m.ros.length m.c, .int .i64 m.ticks, .slice m.sA m.spans.length m.sc, .slice m.wA m.wires.length m.wc] 26) := ⟨_, rfl⟩
  have hb1 : Below w.heap.size w w1 := by rw [hw1]; exact (Below.refl _ _).alloc (Nat.le_refl _) _
  have hbox : w1.heap[w.heap.size]? = some (.cells #[.slice m.A m.ros.length m.c, .int .i64 m.ticks, .slice m.sA m.spans.length m.sc, .slice m.wA m.wires.length m.wc] 26 (0, 0)) := by rw [hw1]; exact heap_alloc_new w _
  have HNEW := hid (new_run w1 m (hf.new hb1) (hm.new hb1) he)
  obtain ⟨nn, hnn⟩ : ∃ nn, m.ros.length = nn := ⟨_, rfl⟩
  obtain ⟨ns, hns⟩ : ∃ ns, m.spans.length = ns := ⟨_, rfl⟩
  obtain ⟨nw, hnw⟩ : ∃ nw, m.wires.length = nw := ⟨_, rfl⟩
  rw [hnn, hns, hnw] at hw1 hbox HNEW ⊢
  rw [hnn] at h0
  rw [hnw] at h3
  have HB1 := hid hb1
  have x0 := blk_cell hbox 0
  have x1 := blk_cell hbox 1
  have x2 := blk_cell hbox 2
  have x3 := blk_cell hbox 3
  have hlx := blk_lt hbox
  simp at x0 x1 x2 x3
  have HBOX := hid hbox
  clear hf hm he hb1 hbox hnn hns hnw
  go_enter Tryz.func5, Tryz.ntmps5
  go_wp2_with fail
  rw [← hw1]
  clear hw1
  refine HNEW.out.mono ?_
  rintro e w2 ⟨kb, M, rfl, hk⟩
  have hx2 := (hk.below.block _ (blk_lt HBOX.out)).trans HBOX.out
  have HB2 := hid (HB1.out.trans (hk.below.mono HB1.out.size))
  have x0 := blk_cell hx2 0
  have x1 := blk_cell hx2 1
  have x2 := blk_cell hx2 2
  have x3 := blk_cell hx2 3
  have hlx := blk_lt hx2
  simp at x0 x1 x2 x3
  clear hk hx2 HNEW HBOX
  go_wp2_with (go_at_call 17; refine (sread_none w2 m.A m.sA m.wA nn m.c ns m.sc nw m.wc m.ticks h0 h3).mono ?_; rintro e w3 ⟨rfl, hb3⟩; have HB3 := hid (HB2.out.trans (hb3.mono HB2.out.size)); clear hb3)
  go_ret2
  exact ⟨rfl, HB3.out⟩
end Go.Proofs.YtikadpfchchbpaaGreatDoor
