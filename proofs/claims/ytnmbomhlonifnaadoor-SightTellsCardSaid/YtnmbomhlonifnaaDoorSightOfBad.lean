/- Package sight: Of, of a room that there is not. -/
import Derived.Test.YtnmbomhlonifnaaDoorSightOfW
namespace Go.Proofs.YtnmbomhlonifnaaDoor
open Go.RowKit
set_option maxRecDepth 100000
attribute [local go_sem ↓] Go.wp_at_zero Go.wp_at_succ

def SightNone (w : World) (e : Ending) (w' : World) : Prop :=
  e = .returned (.tuple #[.agg #[.int .i64 0, .int .i64 0, .int .i64 0, .int .i64 0, .int .i64 0, .int .i64 0, .int .i64 0, .bool false], .slice none 0 0, .iface 99 (.int .i64 1)]) ∧ Below w.heap.size w w'
set_option maxHeartbeats 2000000 in
theorem sight_of_range {w0 w : World} {kb : Nat} {p : Pl} {M : KM} {k : Kst} {B : Int} (h : KRun w0 w kb p M k) (m : PM) (hf : Forms w) (hm : PlanAt w m) (hpl : m.pl = p) (he : planChk p = 0) (hk : KOk p k B) {room : Int} (hr : inB room k.rooms.length = false) :
    Calls Tryd.prog 42 #[.pointer (some ⟨kb, 0, none⟩), .agg #[.slice m.A m.ros.length m.c, .int .i64 m.ticks, .slice m.sA m.spans.length m.sc, .slice m.wA m.wires.length m.wc], .int .i64 room] w (SightNone w) := by
  have HCK : Hid (∀ w', Below w.heap.size w w' → Calls Tryd.prog 51 #[.agg #[.slice m.A m.ros.length m.c, .int .i64 m.ticks, .slice m.sA m.spans.length m.sc, .slice m.wA m.wires.length m.wc]] w' fun e w'' => e = .returned .nilIface ∧ Below w'.heap.size w' w'') :=
    fun w' hb => (plan_check m w' (hf.new hb) (hm.new hb)).mono fun e w'' h => by rw [hpl, he, errV_zero] at h; exact h
  have hp := planChk_ok he
  have HST : Hid (∀ w', Below w.heap.size w w' → Calls Tryd.prog 50 #[.pointer (some ⟨kb, 0, none⟩), .int .i64 room] w' fun e w'' => e = .returned (.tuple #[.agg #[.int .i64 0, .int .i64 0, .int .i64 0, .int .i64 0, .int .i64 0, .int .i64 0, .int .i64 0, .bool false], .iface 99 (.int .i64 1)]) ∧ Below w'.heap.size w' w'') := fun w' hb => by
    have h1 := kstate_any room (by rw [hk.rooms]; exact hp.most5) (h.new hb).kat
    unfold stateOf at h1
    rw [hr, if_neg (by decide)] at h1
    unfold StateV at h1
    rw [errV_pos (by decide)] at h1
    exact h1
  generalize m.ros.length = n at HCK ⊢
  generalize m.spans.length = ns at HCK ⊢
  generalize m.wires.length = nw at HCK ⊢
  obtain ⟨A0, c0, ros, tk, sA0, sc0, spans, wA0, wc0, wires⟩ := m
  simp only [] at HCK ⊢
  clear h hf hm hpl he hk hr hp
  go_enter Tryd.func42, Tryd.ntmps42
  go_wp2_with fail
  refine (HCK.out _ (((Below.refl _ _).alloc (Nat.le_refl _) _).alloc (by simp) _)).mono ?_
  rintro e w1 ⟨rfl, hb1⟩
  have hout := (hb1.block (w.heap.size + 1) (by simp)).trans (show _ = some (.cells #[.int .i64 0, .int .i64 0, .int .i64 0, .int .i64 0, .int .i64 0, .int .i64 0, .int .i64 0, .bool false] 43 (0, 0)) by rw [hp_alloc, if_pos (by simp)])
  have HBW1 : Hid (Below w.heap.size w w1) := (((Below.refl _ _).alloc (Nat.le_refl _) _).alloc (by simp) _).trans (hb1.mono (by simp; omega))
  have HOUT := hid hout
  clear hb1 hout
  go_wp2_with fail
  refine (HST.out _ HBW1.out).mono ?_
  rintro e w2 ⟨rfl, hb2⟩
  have hot := (hb2.block _ (blk_lt HOUT.out)).trans HOUT.out
  have HBW2 := hid (HBW1.out.trans (hb2.mono HBW1.out.size))
  have HOT := hid hot
  have hlb := blk_lt hot
  have b0 := blk_cell hot 0
  have b1 := blk_cell hot 1
  have b2 := blk_cell hot 2
  have b3 := blk_cell hot 3
  have b4 := blk_cell hot 4
  have b5 := blk_cell hot 5
  have b6 := blk_cell hot 6
  have b7 := blk_cell hot 7
  have bf := fun j => blk_free hot j
  simp at b0 b1 b2 b3 b4 b5 b6 b7
  clear hb2 hot HOUT
  go_wp2_with fail
  obtain ⟨wz, hwz⟩ : ∃ wz, wz = (put8 w2 (w.heap.size + 1) St.zero).alloc (.cells #[.int .i64 0, .int .i64 0, .int .i64 0, .int .i64 0, .int .i64 0, .int .i64 0, .int .i64 0, .bool false] 43) := ⟨_, rfl⟩
  have h8 := put8_heap (t := St.zero) (s := St.zero) HOT.out
  have hz : wz.heap[w.heap.size + 1]? = some (.cells #[.int .i64 0, .int .i64 0, .int .i64 0, .int .i64 0, .int .i64 0, .int .i64 0, .int .i64 0, .bool false] 43 (0, 0)) := by
    rw [hwz, blk_alloc (blk_lt h8)]; exact h8
  have hbz : Below w.heap.size w wz := by
    rw [hwz]
    refine Below.alloc ?_ ?_ _
    · unfold put8
      have h9 : w.heap.size ≤ w.heap.size + 1 := by omega
      exact (((((((HBW2.out.setCell h9 _).setCell h9 _).setCell h9 _).setCell h9 _).setCell h9 _).setCell h9 _).setCell h9 _).setCell h9 _
    · have := blk_lt h8; omega
  unfold put8 St.zero at hwz
  rw [← hwz]
  have z0 := blk_cell hz 0
  have z1 := blk_cell hz 1
  have z2 := blk_cell hz 2
  have z3 := blk_cell hz 3
  have z4 := blk_cell hz 4
  have z5 := blk_cell hz 5
  have z6 := blk_cell hz 6
  have z7 := blk_cell hz 7
  simp at z0 z1 z2 z3 z4 z5 z6 z7
  exact bodyPost_ret (v := .tuple #[.agg #[.int .i64 0, .int .i64 0, .int .i64 0, .int .i64 0, .int .i64 0, .int .i64 0, .int .i64 0, .bool false], .slice none 0 0, .iface 99 (.int .i64 1)]) (by simp [results, Tryd.results42, go_sem, z0, z1, z2, z3, z4, z5, z6, z7]) rfl ⟨rfl, hbz⟩
end Go.Proofs.YtnmbomhlonifnaaDoor
