/- Package log: the contract of New, for every plan. Conditions: the table of forms, which the row lists. -/
import Derived.Test.YthafahnlfpkkbaaGreatDoorLogG
import Derived.Test.YthafahnlfpkkbaaGreatDoorStandRow
import Derived.Test.YthafahnlfpkkbaaGreatDoorRunU
import Derived.Test.YthafahnlfpkkbaaGreatDoorKernNew
import Derived.Test.YthafahnlfpkkbaaGreatDoorOwnU
namespace Go.Proofs.YthafahnlfpkkbaaGreatDoor
open Go.RowKit
set_option maxRecDepth 100000

def LgMade (w : World) (m : PM) (e : Ending) (w' : World) : Prop :=
  ∃ (lb : Nat) (m' : PM), m'.pl = m.pl ∧ e = .returned (.tuple #[.pointer (some ⟨lb, 0, none⟩), .nilIface]) ∧ LgAt w w' lb m' Lg.new
set_option maxHeartbeats 2000000 in
theorem lgnew_any (w : World) (m : PM) (hf : Forms w) (hm : PlanAt w m) (he : planChk m.pl = 0) :
    Calls Tryz.prog 36 #[.agg #[.slice m.A m.ros.length m.c, .int .i64 m.ticks, .slice m.sA m.spans.length m.sc, .slice m.wA m.wires.length m.wc]] w (LgMade w m) := by
  obtain ⟨w1, hw1⟩ : ∃ w1, w1 = w.alloc (.cells #[.slice m.A m.ros.length m.c, .int .i64 m.ticks, .slice m.sA m.spans.length m.sc, .slice m.wA m.wires.length m.wc] 26) := ⟨_, rfl⟩
  have hb1 : Below w.heap.size w w1 := by rw [hw1]; exact (Below.refl _ _).alloc (Nat.le_refl _) _
  have hbox : w1.heap[w.heap.size]? = some (.cells #[.slice m.A m.ros.length m.c, .int .i64 m.ticks, .slice m.sA m.spans.length m.sc, .slice m.wA m.wires.length m.wc] 26 (0, 0)) := by rw [hw1]; exact heap_alloc_new w _
  have HNEW := hid (new_run w1 m (hf.new hb1) (hm.new hb1) he)
  have HOWN : Hid (∀ w', Below w1.heap.size w1 w' → Calls Tryz.prog 73 #[.agg #[.slice m.A m.ros.length m.c, .int .i64 m.ticks, .slice m.sA m.spans.length m.sc, .slice m.wA m.wires.length m.wc]] w' (Owned w' m)) := fun w' hb => own_any w' m ((hm.new hb1).new hb) (planSmall he)
  obtain ⟨nn, hnn⟩ : ∃ nn, m.ros.length = nn := ⟨_, rfl⟩
  obtain ⟨ns, hns⟩ : ∃ ns, m.spans.length = ns := ⟨_, rfl⟩
  obtain ⟨nw, hnw⟩ : ∃ nw, m.wires.length = nw := ⟨_, rfl⟩
  rw [hnn, hns, hnw] at hw1 hbox HNEW HOWN ⊢
  have HB1 := hid hb1
  have x0 := blk_cell hbox 0
  have x1 := blk_cell hbox 1
  have x2 := blk_cell hbox 2
  have x3 := blk_cell hbox 3
  have hlx := blk_lt hbox
  simp at x0 x1 x2 x3
  have HBOX := hid hbox
  clear hf hm he hb1 hbox hnn hns hnw
  go_enter Tryz.func36, Tryz.ntmps36
  go_wp2_with fail
  rw [← hw1]
  clear hw1
  refine HNEW.out.mono ?_
  rintro e w2 ⟨kb, M, rfl, hk⟩
  have hst : Stand w w2 [kTh kb m.pl M (kNew m.pl)] := (Stand.start HB1.out).add hk.below (k_lie hk.kat hk.plan) (fun j hj => hk.fresh j (.inl hj)) (fun j hj => .inl (hk.fresh j hj))
  have hx2 := (hk.below.block _ (blk_lt HBOX.out)).trans HBOX.out
  have HB2 := hid hk.below
  have HST := hid hst
  have x0 := blk_cell hx2 0
  have x1 := blk_cell hx2 1
  have x2 := blk_cell hx2 2
  have x3 := blk_cell hx2 3
  have hlx := blk_lt hx2
  simp at x0 x1 x2 x3
  clear hk hst hx2 HNEW HBOX
  go_wp2_with fail
  refine (HOWN.out _ HB2.out).mono ?_
  rintro e w3 ⟨m', rfl, hpa, hpl, _, hfr, hb3⟩
  have HPL := hid hpl
  have HST3 := hid (HST.out.add hb3 (plan_lie hpa) (fun _ hj => hj.elim) (fun j hj => .inl (hfr j hj)))
  clear hb3 hpa hpl hfr HST HOWN x0 x1 x2 x3 hlx
  have HFIN : Hid (∀ w4, w4 = w3.alloc (.cells (lgCells m' kb Lg.new) 174 (0, 0)) → LgAt w w4 w3.heap.size m' Lg.new) := hid fun w4 hw => by
    subst hw
    refine ⟨kb, M, ?_⟩
    have h4 := HST3.out.add ((Below.refl _ _).alloc (Nat.le_refl _) (.cells (lgCells m' kb Lg.new) 174 (0, 0))) (blk_lie (heap_alloc_new w3 _)) (fun j hj => by have : j = w3.heap.size := hj; omega) (fun j hj => .inl (by have : j = w3.heap.size := hj; omega))
    have h5 : Stand w (w3.alloc (.cells (lgCells m' kb Lg.new) 174 (0, 0))) [kTh kb m.pl M (kNew m.pl), lgT w3.heap.size m' kb Lg.new, planT m'] := h4.pick3 0 2 1 rfl rfl rfl (by decide) (by decide) (by decide)
    rw [← HPL.out] at h5
    exact h5
  unfold lgCells at HFIN
  obtain ⟨n1, hn1⟩ : ∃ n1, m'.ros.length = n1 := ⟨_, rfl⟩
  obtain ⟨n2, hn2⟩ : ∃ n2, m'.spans.length = n2 := ⟨_, rfl⟩
  obtain ⟨n3, hn3⟩ : ∃ n3, m'.wires.length = n3 := ⟨_, rfl⟩
  rw [hn1, hn2, hn3] at HFIN ⊢
  clear hn1 hn2 hn3
  go_wp2_with fail
  go_ret2
  exact ⟨w3.heap.size, m', HPL.out, rfl, HFIN.out _ rfl⟩
theorem lgnew_bad (w : World) (m : PM) (hf : Forms w) (hm : PlanAt w m) (he : planChk m.pl ≠ 0) :
    Calls Tryz.prog 36 #[.agg #[.slice m.A m.ros.length m.c, .int .i64 m.ticks, .slice m.sA m.spans.length m.sc, .slice m.wA m.wires.length m.wc]] w fun e w' => e = .returned (.tuple #[.pointer none, errV (planChk m.pl)]) ∧ Below w.heap.size w w' := by
  obtain ⟨w1, hw1⟩ : ∃ w1, w1 = w.alloc (.cells #[.slice m.A m.ros.length m.c, .int .i64 m.ticks, .slice m.sA m.spans.length m.sc, .slice m.wA m.wires.length m.wc] 26) := ⟨_, rfl⟩
  have hb1 : Below w.heap.size w w1 := by rw [hw1]; exact (Below.refl _ _).alloc (Nat.le_refl _) _
  have HBAD := hid (kern_new_bad w1 m (hf.new hb1) (hm.new hb1) he)
  rw [errV_pos he] at HBAD ⊢
  obtain ⟨nn, hnn⟩ : ∃ nn, m.ros.length = nn := ⟨_, rfl⟩
  obtain ⟨ns, hns⟩ : ∃ ns, m.spans.length = ns := ⟨_, rfl⟩
  obtain ⟨nw, hnw⟩ : ∃ nw, m.wires.length = nw := ⟨_, rfl⟩
  rw [hnn, hns, hnw] at hw1 HBAD ⊢
  have HB1 := hid hb1
  generalize planChk m.pl = q at HBAD ⊢
  clear hf hm he hb1 hnn hns hnw
  go_enter Tryz.func36, Tryz.ntmps36
  go_wp2_with fail
  rw [← hw1]
  clear hw1
  refine HBAD.out.mono ?_
  rintro e w2 ⟨rfl, hb2⟩
  have HB2 := hid (HB1.out.trans (hb2.mono HB1.out.size))
  clear hb2
  go_wp2_with fail
  go_ret2
  exact ⟨rfl, HB2.out⟩
end Go.Proofs.YthafahnlfpkkbaaGreatDoor
