/- The reference's step of a room: contracts of frameref1.Step for each kind of op, and for any. -/
import Derived.Test.YtldllmhgofacbaaGreatDoorDoU
namespace Go.Proofs.YtldllmhgofacbaaGreatDoor
open Go.RowKit
set_option maxRecDepth 100000

def RDoneV (w : World) (t : St) (out what : Int) (e : Ending) (w' : World) : Prop := e = .returned (.tuple #[.agg (stV t), .int .i64 out, .int .i64 what]) ∧ Below w.heap.size w w'
def NextAt (n k : Nat) (nx : Int) : Prop := (k + 1 = n ∧ nx = 0) ∨ (k + 1 ≠ n ∧ nx = k + 1)
theorem nextAt {n k : Nat} {s : St} (hk : s.pc = k) (h : k < n) : NextAt n k (nextPc s n) := by
  unfold NextAt nextPc
  rw [hk]
  by_cases e : k + 1 = n
  · left; refine ⟨e, ?_⟩
    rw [← e, Int.natCast_add]; exact Int.emod_self
  · right; refine ⟨e, ?_⟩
    exact Int.emod_eq_of_lt (by omega) (by omega)

set_option maxHeartbeats 2000000 in
theorem rs_set (ob off n c k : Nat) (c0 c1 c2 c3 c4 c5 : Int) (got : Int) (a : Nat) (b : Int) (is : Bool) (nx : Int) (w : World) (ha : a < 6) (hnx : NextAt n k nx)  (h : DoHyp w ob off n k 1 a b) :
    Calls Tryz.prog 143 #[.slice (some ⟨ob, off, none⟩) n c, .agg #[.int .i64 k, .int .i64 c0, .int .i64 c1, .int .i64 c2, .int .i64 c3, .int .i64 c4, .int .i64 c5, .bool false], .int .i64 got, .bool is] w
      (RDoneV w { (⟨k, c0, c1, c2, c3, c4, c5, false⟩ : St).put a b with pc := nx } (-1) 0) := by
  obtain ⟨q1, q2, g0, g1, g2⟩ := h
  have hlt := cell_lt g0
  obtain ⟨t, ht⟩ : ∃ t, t = (⟨k, c0, c1, c2, c3, c4, c5, false⟩ : St).put a b := ⟨_, rfl⟩
  rw [show ({ (⟨k, c0, c1, c2, c3, c4, c5, false⟩ : St).put a b with pc := nx } : St) = { t with pc := nx } by rw [ht]]
  have HT := hid ht
  clear ht
  rcases hnx with ⟨rfl, rfl⟩ | ⟨hne, rfl⟩
  case' inr => have hnb : ((k : Int) + 1 == (n : Int)) = false := by simp; omega
  all_goals
    go_enter Tryz.func143, Tryz.ntmps143
    go_upto_region 4 with fail
    have hx := do_at w k c0 c1 c2 c3 c4 c5 1 a b
    obtain ⟨wx, hwx⟩ : ∃ wx, wx = (((w.alloc (.cells #[.int .i64 k, .int .i64 c0, .int .i64 c1, .int .i64 c2, .int .i64 c3, .int .i64 c4, .int .i64 c5, .bool false] 106)).alloc (.cells #[.int .i64 0, .int .i64 0, .int .i64 0, .int .i64 0, .int .i64 0, .int .i64 0, .int .i64 0, .bool false] 106)).alloc (.cells #[.int .i64 1, .int .i64 a, .int .i64 b] 42)) := ⟨_, rfl⟩
    rw [← hwx] at hx ⊢
    clear hwx g0 g1 g2
    have HX := hid hx
    obtain ⟨b0, b1, o0, o1, o2, hb⟩ := hx
    have ca := (blk_cell b0 (1 + a)).trans (stV_get _ ha)
    have fa := blk_free b0 (1 + a)
    have cp := blk_cell b0 0
    have cf := blk_cell b0 7
    have ff := blk_free b0 7
    simp [stV] at cp cf
    clear b0 b1 hb
    go_upto_region 39 with fail
    all_goals
      have hy := HX.out.put ha (b)
      obtain ⟨wy, hwy⟩ : ∃ wy, wy = wx.setCell ⟨w.heap.size, 1 + a, none⟩ (.int .i64 (b)) := ⟨_, rfl⟩
      rw [← hwy] at hy ⊢
      rw [← HT.out] at hy
      have HY := hid hy
      obtain ⟨⟨p0, p1, p2, p3, p4, p5, p6, p7⟩, p8, ⟨r0, r1, r2, r3, r4, r5, r6, r7⟩, p10⟩ := hy.facts
      clear hy hwy HX o0 o1 o2 HT ca fa cp cf ff
      go_wp2_with fail
      first
      | (
        have hz := HY.out.fin (0)
        obtain ⟨wz, hwz⟩ : ∃ wz, wz = put8 (wy.setCell ⟨w.heap.size, 0, none⟩ (.int .i64 (0))) (w.heap.size + 1) { t with pc := 0 } := ⟨_, rfl⟩
        rw [← hwz] at hz
        unfold put8 at hwz
        rw [← hwz]
        obtain ⟨⟨z0, z1, z2, z3, z4, z5, z6, z7⟩, zb⟩ := hz
        clear hwz p0 p1 p2 p3 p4 p5 p6 p7 p8 r0 r1 r2 r3 r4 r5 r6 r7 p10
        refine bodyPost_ret (v := .tuple #[.agg (stV { t with pc := 0 }), .int .i64 (-1), .int .i64 0]) (by simp [results, Tryz.results143, go_sem, stV, z0, z1, z2, z3, z4, z5, z6, z7]) rfl ?_
        exact ⟨rfl, zb⟩)
      | (
        have hz := HY.out.fin ((k : Int) + 1)
        obtain ⟨wz, hwz⟩ : ∃ wz, wz = put8 (wy.setCell ⟨w.heap.size, 0, none⟩ (.int .i64 ((k : Int) + 1))) (w.heap.size + 1) { t with pc := (k : Int) + 1 } := ⟨_, rfl⟩
        rw [← hwz] at hz
        unfold put8 at hwz
        rw [← hwz]
        obtain ⟨⟨z0, z1, z2, z3, z4, z5, z6, z7⟩, zb⟩ := hz
        clear hwz p0 p1 p2 p3 p4 p5 p6 p7 p8 r0 r1 r2 r3 r4 r5 r6 r7 p10
        refine bodyPost_ret (v := .tuple #[.agg (stV { t with pc := (k : Int) + 1 }), .int .i64 (-1), .int .i64 0]) (by simp [results, Tryz.results143, go_sem, stV, z0, z1, z2, z3, z4, z5, z6, z7]) rfl ?_
        exact ⟨rfl, zb⟩)

set_option maxHeartbeats 2000000 in
theorem rs_take (ob off n c k : Nat) (c0 c1 c2 c3 c4 c5 : Int) (got : Int) (a : Nat) (b : Int) (nx : Int) (w : World) (ha : a < 6) (hnx : NextAt n k nx)  (h : DoHyp w ob off n k 9 a b) :
    Calls Tryz.prog 143 #[.slice (some ⟨ob, off, none⟩) n c, .agg #[.int .i64 k, .int .i64 c0, .int .i64 c1, .int .i64 c2, .int .i64 c3, .int .i64 c4, .int .i64 c5, .bool false], .int .i64 got, .bool true] w
      (RDoneV w { (⟨k, c0, c1, c2, c3, c4, c5, false⟩ : St).put a got with pc := nx } (-1) 2) := by
  obtain ⟨q1, q2, g0, g1, g2⟩ := h
  have hlt := cell_lt g0
  obtain ⟨t, ht⟩ : ∃ t, t = (⟨k, c0, c1, c2, c3, c4, c5, false⟩ : St).put a got := ⟨_, rfl⟩
  rw [show ({ (⟨k, c0, c1, c2, c3, c4, c5, false⟩ : St).put a got with pc := nx } : St) = { t with pc := nx } by rw [ht]]
  have HT := hid ht
  clear ht
  rcases hnx with ⟨rfl, rfl⟩ | ⟨hne, rfl⟩
  case' inr => have hnb : ((k : Int) + 1 == (n : Int)) = false := by simp; omega
  all_goals
    go_enter Tryz.func143, Tryz.ntmps143
    go_upto_region 4 with fail
    have hx := do_at w k c0 c1 c2 c3 c4 c5 9 a b
    obtain ⟨wx, hwx⟩ : ∃ wx, wx = (((w.alloc (.cells #[.int .i64 k, .int .i64 c0, .int .i64 c1, .int .i64 c2, .int .i64 c3, .int .i64 c4, .int .i64 c5, .bool false] 106)).alloc (.cells #[.int .i64 0, .int .i64 0, .int .i64 0, .int .i64 0, .int .i64 0, .int .i64 0, .int .i64 0, .bool false] 106)).alloc (.cells #[.int .i64 9, .int .i64 a, .int .i64 b] 42)) := ⟨_, rfl⟩
    rw [← hwx] at hx ⊢
    clear hwx g0 g1 g2
    have HX := hid hx
    obtain ⟨b0, b1, o0, o1, o2, hb⟩ := hx
    have ca := (blk_cell b0 (1 + a)).trans (stV_get _ ha)
    have fa := blk_free b0 (1 + a)
    have cp := blk_cell b0 0
    have cf := blk_cell b0 7
    have ff := blk_free b0 7
    simp [stV] at cp cf
    clear b0 b1 hb
    go_upto_region 39 with fail
    all_goals
      have hy := HX.out.put ha (got)
      obtain ⟨wy, hwy⟩ : ∃ wy, wy = wx.setCell ⟨w.heap.size, 1 + a, none⟩ (.int .i64 (got)) := ⟨_, rfl⟩
      rw [← hwy] at hy ⊢
      rw [← HT.out] at hy
      have HY := hid hy
      obtain ⟨⟨p0, p1, p2, p3, p4, p5, p6, p7⟩, p8, ⟨r0, r1, r2, r3, r4, r5, r6, r7⟩, p10⟩ := hy.facts
      clear hy hwy HX o0 o1 o2 HT ca fa cp cf ff
      go_wp2_with fail
      first
      | (
        have hz := HY.out.fin (0)
        obtain ⟨wz, hwz⟩ : ∃ wz, wz = put8 (wy.setCell ⟨w.heap.size, 0, none⟩ (.int .i64 (0))) (w.heap.size + 1) { t with pc := 0 } := ⟨_, rfl⟩
        rw [← hwz] at hz
        unfold put8 at hwz
        rw [← hwz]
        obtain ⟨⟨z0, z1, z2, z3, z4, z5, z6, z7⟩, zb⟩ := hz
        clear hwz p0 p1 p2 p3 p4 p5 p6 p7 p8 r0 r1 r2 r3 r4 r5 r6 r7 p10
        refine bodyPost_ret (v := .tuple #[.agg (stV { t with pc := 0 }), .int .i64 (-1), .int .i64 2]) (by simp [results, Tryz.results143, go_sem, stV, z0, z1, z2, z3, z4, z5, z6, z7]) rfl ?_
        exact ⟨rfl, zb⟩)
      | (
        have hz := HY.out.fin ((k : Int) + 1)
        obtain ⟨wz, hwz⟩ : ∃ wz, wz = put8 (wy.setCell ⟨w.heap.size, 0, none⟩ (.int .i64 ((k : Int) + 1))) (w.heap.size + 1) { t with pc := (k : Int) + 1 } := ⟨_, rfl⟩
        rw [← hwz] at hz
        unfold put8 at hwz
        rw [← hwz]
        obtain ⟨⟨z0, z1, z2, z3, z4, z5, z6, z7⟩, zb⟩ := hz
        clear hwz p0 p1 p2 p3 p4 p5 p6 p7 p8 r0 r1 r2 r3 r4 r5 r6 r7 p10
        refine bodyPost_ret (v := .tuple #[.agg (stV { t with pc := (k : Int) + 1 }), .int .i64 (-1), .int .i64 2]) (by simp [results, Tryz.results143, go_sem, stV, z0, z1, z2, z3, z4, z5, z6, z7]) rfl ?_
        exact ⟨rfl, zb⟩)

set_option maxHeartbeats 2000000 in
theorem rs_copy (ob off n c k : Nat) (c0 c1 c2 c3 c4 c5 : Int) (got : Int) (a : Nat) (b : Nat) (y : Int) (is : Bool) (nx : Int) (w : World) (ha : a < 6) (hnx : NextAt n k nx) (hbb : b < 6) (hyg : (⟨k, c0, c1, c2, c3, c4, c5, false⟩ : St).get b = y) (h : DoHyp w ob off n k 2 a b) :
    Calls Tryz.prog 143 #[.slice (some ⟨ob, off, none⟩) n c, .agg #[.int .i64 k, .int .i64 c0, .int .i64 c1, .int .i64 c2, .int .i64 c3, .int .i64 c4, .int .i64 c5, .bool false], .int .i64 got, .bool is] w
      (RDoneV w { (⟨k, c0, c1, c2, c3, c4, c5, false⟩ : St).put a y with pc := nx } (-1) 0) := by
  obtain ⟨q1, q2, g0, g1, g2⟩ := h
  have hlt := cell_lt g0
  have HYG := hid hyg
  clear hyg
  obtain ⟨t, ht⟩ : ∃ t, t = (⟨k, c0, c1, c2, c3, c4, c5, false⟩ : St).put a y := ⟨_, rfl⟩
  rw [show ({ (⟨k, c0, c1, c2, c3, c4, c5, false⟩ : St).put a y with pc := nx } : St) = { t with pc := nx } by rw [ht]]
  have HT := hid ht
  clear ht
  rcases hnx with ⟨rfl, rfl⟩ | ⟨hne, rfl⟩
  case' inr => have hnb : ((k : Int) + 1 == (n : Int)) = false := by simp; omega
  all_goals
    go_enter Tryz.func143, Tryz.ntmps143
    go_upto_region 4 with fail
    have hx := do_at w k c0 c1 c2 c3 c4 c5 2 a b
    obtain ⟨wx, hwx⟩ : ∃ wx, wx = (((w.alloc (.cells #[.int .i64 k, .int .i64 c0, .int .i64 c1, .int .i64 c2, .int .i64 c3, .int .i64 c4, .int .i64 c5, .bool false] 106)).alloc (.cells #[.int .i64 0, .int .i64 0, .int .i64 0, .int .i64 0, .int .i64 0, .int .i64 0, .int .i64 0, .bool false] 106)).alloc (.cells #[.int .i64 2, .int .i64 a, .int .i64 b] 42)) := ⟨_, rfl⟩
    rw [← hwx] at hx ⊢
    clear hwx g0 g1 g2
    have HX := hid hx
    obtain ⟨b0, b1, o0, o1, o2, hb⟩ := hx
    have ca := (blk_cell b0 (1 + a)).trans (stV_get _ ha)
    have fa := blk_free b0 (1 + a)
    have cp := blk_cell b0 0
    have cf := blk_cell b0 7
    have ff := blk_free b0 7
    simp [stV] at cp cf
    have cb := (blk_cell b0 (1 + b)).trans (stV_get _ hbb)
    rw [HYG.out] at cb
    clear b0 b1 hb
    go_upto_region 14 with fail
    go_region
    all_goals go_upto_region 39 with fail
    all_goals
      have hy := (HX.out.put ha y).drew
      obtain ⟨wy, hwy⟩ : ∃ wy, wy = (wx.setCell ⟨w.heap.size, 1 + a, none⟩ (.int .i64 y)).drew := ⟨_, rfl⟩
      rw [← hwy] at hy ⊢
      rw [← HT.out] at hy
      have HY := hid hy
      obtain ⟨⟨p0, p1, p2, p3, p4, p5, p6, p7⟩, p8, ⟨r0, r1, r2, r3, r4, r5, r6, r7⟩, p10⟩ := hy.facts
      clear hy hwy HX o0 o1 o2 HT ca fa cp cf ff
      go_wp2_with fail
      first
      | (
        have hz := HY.out.fin (0)
        obtain ⟨wz, hwz⟩ : ∃ wz, wz = put8 (wy.setCell ⟨w.heap.size, 0, none⟩ (.int .i64 (0))) (w.heap.size + 1) { t with pc := 0 } := ⟨_, rfl⟩
        rw [← hwz] at hz
        unfold put8 at hwz
        rw [← hwz]
        obtain ⟨⟨z0, z1, z2, z3, z4, z5, z6, z7⟩, zb⟩ := hz
        clear hwz p0 p1 p2 p3 p4 p5 p6 p7 p8 r0 r1 r2 r3 r4 r5 r6 r7 p10
        refine bodyPost_ret (v := .tuple #[.agg (stV { t with pc := 0 }), .int .i64 (-1), .int .i64 0]) (by simp [results, Tryz.results143, go_sem, stV, z0, z1, z2, z3, z4, z5, z6, z7]) rfl ?_
        exact ⟨rfl, zb⟩)
      | (
        have hz := HY.out.fin ((k : Int) + 1)
        obtain ⟨wz, hwz⟩ : ∃ wz, wz = put8 (wy.setCell ⟨w.heap.size, 0, none⟩ (.int .i64 ((k : Int) + 1))) (w.heap.size + 1) { t with pc := (k : Int) + 1 } := ⟨_, rfl⟩
        rw [← hwz] at hz
        unfold put8 at hwz
        rw [← hwz]
        obtain ⟨⟨z0, z1, z2, z3, z4, z5, z6, z7⟩, zb⟩ := hz
        clear hwz p0 p1 p2 p3 p4 p5 p6 p7 p8 r0 r1 r2 r3 r4 r5 r6 r7 p10
        refine bodyPost_ret (v := .tuple #[.agg (stV { t with pc := (k : Int) + 1 }), .int .i64 (-1), .int .i64 0]) (by simp [results, Tryz.results143, go_sem, stV, z0, z1, z2, z3, z4, z5, z6, z7]) rfl ?_
        exact ⟨rfl, zb⟩)

set_option maxHeartbeats 2000000 in
theorem rs_add (ob off n c k : Nat) (c0 c1 c2 c3 c4 c5 : Int) (got : Int) (a : Nat) (b : Nat) (x y v : Int) (is : Bool) (nx : Int) (w : World) (ha : a < 6) (hnx : NextAt n k nx) (hbb : b < 6) (hxg : (⟨k, c0, c1, c2, c3, c4, c5, false⟩ : St).get a = x) (hyg : (⟨k, c0, c1, c2, c3, c4, c5, false⟩ : St).get b = y) (hx0 : 0 ≤ x ∧ x < 1000) (hy0 : 0 ≤ y ∧ y < 1000) (hv : (x + y) % 1000 = v) (h : DoHyp w ob off n k 3 a b) :
    Calls Tryz.prog 143 #[.slice (some ⟨ob, off, none⟩) n c, .agg #[.int .i64 k, .int .i64 c0, .int .i64 c1, .int .i64 c2, .int .i64 c3, .int .i64 c4, .int .i64 c5, .bool false], .int .i64 got, .bool is] w
      (RDoneV w { (⟨k, c0, c1, c2, c3, c4, c5, false⟩ : St).put a v with pc := nx } (-1) 0) := by
  obtain ⟨q1, q2, g0, g1, g2⟩ := h
  have hlt := cell_lt g0
  have HXG := hid hxg
  have HYG := hid hyg
  have HM : Hid ((x + y).tmod 1000 = v) := by rw [← hv]; exact Int.tmod_eq_emod_of_nonneg (by omega)
  clear hxg hyg hv
  obtain ⟨t, ht⟩ : ∃ t, t = (⟨k, c0, c1, c2, c3, c4, c5, false⟩ : St).put a v := ⟨_, rfl⟩
  rw [show ({ (⟨k, c0, c1, c2, c3, c4, c5, false⟩ : St).put a v with pc := nx } : St) = { t with pc := nx } by rw [ht]]
  have HT := hid ht
  clear ht
  rcases hnx with ⟨rfl, rfl⟩ | ⟨hne, rfl⟩
  case' inr => have hnb : ((k : Int) + 1 == (n : Int)) = false := by simp; omega
  all_goals
    go_enter Tryz.func143, Tryz.ntmps143
    go_upto_region 4 with fail
    have hx := do_at w k c0 c1 c2 c3 c4 c5 3 a b
    obtain ⟨wx, hwx⟩ : ∃ wx, wx = (((w.alloc (.cells #[.int .i64 k, .int .i64 c0, .int .i64 c1, .int .i64 c2, .int .i64 c3, .int .i64 c4, .int .i64 c5, .bool false] 106)).alloc (.cells #[.int .i64 0, .int .i64 0, .int .i64 0, .int .i64 0, .int .i64 0, .int .i64 0, .int .i64 0, .bool false] 106)).alloc (.cells #[.int .i64 3, .int .i64 a, .int .i64 b] 42)) := ⟨_, rfl⟩
    rw [← hwx] at hx ⊢
    clear hwx g0 g1 g2
    have HX := hid hx
    obtain ⟨b0, b1, o0, o1, o2, hb⟩ := hx
    have ca := (blk_cell b0 (1 + a)).trans (stV_get _ ha)
    have fa := blk_free b0 (1 + a)
    have cp := blk_cell b0 0
    have cf := blk_cell b0 7
    have ff := blk_free b0 7
    simp [stV] at cp cf
    have cb := (blk_cell b0 (1 + b)).trans (stV_get _ hbb)
    rw [HXG.out] at ca
    rw [HYG.out] at cb
    have e1 : IntKind.i64.wrap (x + y) = x + y := IntWalk.i64_in _ (by omega)
    have e2 : (x + y).tmod 1000 = v := HM.out
    clear b0 b1 hb
    go_upto_region 16 with fail
    go_region
    all_goals go_upto_region 39 with fail
    all_goals
      have hy := (HX.out.put ha v).drew
      obtain ⟨wy, hwy⟩ : ∃ wy, wy = (wx.setCell ⟨w.heap.size, 1 + a, none⟩ (.int .i64 v)).drew := ⟨_, rfl⟩
      rw [← hwy] at hy ⊢
      rw [← HT.out] at hy
      have HY := hid hy
      obtain ⟨⟨p0, p1, p2, p3, p4, p5, p6, p7⟩, p8, ⟨r0, r1, r2, r3, r4, r5, r6, r7⟩, p10⟩ := hy.facts
      clear hy hwy HX o0 o1 o2 HT ca fa cp cf ff
      go_wp2_with fail
      first
      | (
        have hz := HY.out.fin (0)
        obtain ⟨wz, hwz⟩ : ∃ wz, wz = put8 (wy.setCell ⟨w.heap.size, 0, none⟩ (.int .i64 (0))) (w.heap.size + 1) { t with pc := 0 } := ⟨_, rfl⟩
        rw [← hwz] at hz
        unfold put8 at hwz
        rw [← hwz]
        obtain ⟨⟨z0, z1, z2, z3, z4, z5, z6, z7⟩, zb⟩ := hz
        clear hwz p0 p1 p2 p3 p4 p5 p6 p7 p8 r0 r1 r2 r3 r4 r5 r6 r7 p10
        refine bodyPost_ret (v := .tuple #[.agg (stV { t with pc := 0 }), .int .i64 (-1), .int .i64 0]) (by simp [results, Tryz.results143, go_sem, stV, z0, z1, z2, z3, z4, z5, z6, z7]) rfl ?_
        exact ⟨rfl, zb⟩)
      | (
        have hz := HY.out.fin ((k : Int) + 1)
        obtain ⟨wz, hwz⟩ : ∃ wz, wz = put8 (wy.setCell ⟨w.heap.size, 0, none⟩ (.int .i64 ((k : Int) + 1))) (w.heap.size + 1) { t with pc := (k : Int) + 1 } := ⟨_, rfl⟩
        rw [← hwz] at hz
        unfold put8 at hwz
        rw [← hwz]
        obtain ⟨⟨z0, z1, z2, z3, z4, z5, z6, z7⟩, zb⟩ := hz
        clear hwz p0 p1 p2 p3 p4 p5 p6 p7 p8 r0 r1 r2 r3 r4 r5 r6 r7 p10
        refine bodyPost_ret (v := .tuple #[.agg (stV { t with pc := (k : Int) + 1 }), .int .i64 (-1), .int .i64 0]) (by simp [results, Tryz.results143, go_sem, stV, z0, z1, z2, z3, z4, z5, z6, z7]) rfl ?_
        exact ⟨rfl, zb⟩)

set_option maxHeartbeats 2000000 in
theorem rs_sub (ob off n c k : Nat) (c0 c1 c2 c3 c4 c5 : Int) (got : Int) (a : Nat) (b : Nat) (x y v : Int) (is : Bool) (nx : Int) (w : World) (ha : a < 6) (hnx : NextAt n k nx) (hbb : b < 6) (hxg : (⟨k, c0, c1, c2, c3, c4, c5, false⟩ : St).get a = x) (hyg : (⟨k, c0, c1, c2, c3, c4, c5, false⟩ : St).get b = y) (hx0 : 0 ≤ x ∧ x < 1000) (hy0 : 0 ≤ y ∧ y < 1000) (hv : (x + 1000 - y) % 1000 = v) (h : DoHyp w ob off n k 4 a b) :
    Calls Tryz.prog 143 #[.slice (some ⟨ob, off, none⟩) n c, .agg #[.int .i64 k, .int .i64 c0, .int .i64 c1, .int .i64 c2, .int .i64 c3, .int .i64 c4, .int .i64 c5, .bool false], .int .i64 got, .bool is] w
      (RDoneV w { (⟨k, c0, c1, c2, c3, c4, c5, false⟩ : St).put a v with pc := nx } (-1) 0) := by
  obtain ⟨q1, q2, g0, g1, g2⟩ := h
  have hlt := cell_lt g0
  have HXG := hid hxg
  have HYG := hid hyg
  have HM : Hid ((x + 1000 - y).tmod 1000 = v) := by rw [← hv]; exact Int.tmod_eq_emod_of_nonneg (by omega)
  clear hxg hyg hv
  obtain ⟨t, ht⟩ : ∃ t, t = (⟨k, c0, c1, c2, c3, c4, c5, false⟩ : St).put a v := ⟨_, rfl⟩
  rw [show ({ (⟨k, c0, c1, c2, c3, c4, c5, false⟩ : St).put a v with pc := nx } : St) = { t with pc := nx } by rw [ht]]
  have HT := hid ht
  clear ht
  rcases hnx with ⟨rfl, rfl⟩ | ⟨hne, rfl⟩
  case' inr => have hnb : ((k : Int) + 1 == (n : Int)) = false := by simp; omega
  all_goals
    go_enter Tryz.func143, Tryz.ntmps143
    go_upto_region 4 with fail
    have hx := do_at w k c0 c1 c2 c3 c4 c5 4 a b
    obtain ⟨wx, hwx⟩ : ∃ wx, wx = (((w.alloc (.cells #[.int .i64 k, .int .i64 c0, .int .i64 c1, .int .i64 c2, .int .i64 c3, .int .i64 c4, .int .i64 c5, .bool false] 106)).alloc (.cells #[.int .i64 0, .int .i64 0, .int .i64 0, .int .i64 0, .int .i64 0, .int .i64 0, .int .i64 0, .bool false] 106)).alloc (.cells #[.int .i64 4, .int .i64 a, .int .i64 b] 42)) := ⟨_, rfl⟩
    rw [← hwx] at hx ⊢
    clear hwx g0 g1 g2
    have HX := hid hx
    obtain ⟨b0, b1, o0, o1, o2, hb⟩ := hx
    have ca := (blk_cell b0 (1 + a)).trans (stV_get _ ha)
    have fa := blk_free b0 (1 + a)
    have cp := blk_cell b0 0
    have cf := blk_cell b0 7
    have ff := blk_free b0 7
    simp [stV] at cp cf
    have cb := (blk_cell b0 (1 + b)).trans (stV_get _ hbb)
    rw [HXG.out] at ca
    rw [HYG.out] at cb
    have e0 : IntKind.i64.wrap (x + 1000) = x + 1000 := IntWalk.i64_in _ (by omega)
    have e1 : IntKind.i64.wrap (x + 1000 - y) = x + 1000 - y := IntWalk.i64_in _ (by omega)
    have e2 : (x + 1000 - y).tmod 1000 = v := HM.out
    clear b0 b1 hb
    go_upto_region 18 with fail
    go_region
    all_goals go_upto_region 39 with fail
    all_goals
      have hy := (HX.out.put ha v).drew
      obtain ⟨wy, hwy⟩ : ∃ wy, wy = (wx.setCell ⟨w.heap.size, 1 + a, none⟩ (.int .i64 v)).drew := ⟨_, rfl⟩
      rw [← hwy] at hy ⊢
      rw [← HT.out] at hy
      have HY := hid hy
      obtain ⟨⟨p0, p1, p2, p3, p4, p5, p6, p7⟩, p8, ⟨r0, r1, r2, r3, r4, r5, r6, r7⟩, p10⟩ := hy.facts
      clear hy hwy HX o0 o1 o2 HT ca fa cp cf ff
      go_wp2_with fail
      first
      | (
        have hz := HY.out.fin (0)
        obtain ⟨wz, hwz⟩ : ∃ wz, wz = put8 (wy.setCell ⟨w.heap.size, 0, none⟩ (.int .i64 (0))) (w.heap.size + 1) { t with pc := 0 } := ⟨_, rfl⟩
        rw [← hwz] at hz
        unfold put8 at hwz
        rw [← hwz]
        obtain ⟨⟨z0, z1, z2, z3, z4, z5, z6, z7⟩, zb⟩ := hz
        clear hwz p0 p1 p2 p3 p4 p5 p6 p7 p8 r0 r1 r2 r3 r4 r5 r6 r7 p10
        refine bodyPost_ret (v := .tuple #[.agg (stV { t with pc := 0 }), .int .i64 (-1), .int .i64 0]) (by simp [results, Tryz.results143, go_sem, stV, z0, z1, z2, z3, z4, z5, z6, z7]) rfl ?_
        exact ⟨rfl, zb⟩)
      | (
        have hz := HY.out.fin ((k : Int) + 1)
        obtain ⟨wz, hwz⟩ : ∃ wz, wz = put8 (wy.setCell ⟨w.heap.size, 0, none⟩ (.int .i64 ((k : Int) + 1))) (w.heap.size + 1) { t with pc := (k : Int) + 1 } := ⟨_, rfl⟩
        rw [← hwz] at hz
        unfold put8 at hwz
        rw [← hwz]
        obtain ⟨⟨z0, z1, z2, z3, z4, z5, z6, z7⟩, zb⟩ := hz
        clear hwz p0 p1 p2 p3 p4 p5 p6 p7 p8 r0 r1 r2 r3 r4 r5 r6 r7 p10
        refine bodyPost_ret (v := .tuple #[.agg (stV { t with pc := (k : Int) + 1 }), .int .i64 (-1), .int .i64 0]) (by simp [results, Tryz.results143, go_sem, stV, z0, z1, z2, z3, z4, z5, z6, z7]) rfl ?_
        exact ⟨rfl, zb⟩)

set_option maxHeartbeats 2000000 in
theorem rs_mul (ob off n c k : Nat) (c0 c1 c2 c3 c4 c5 : Int) (got : Int) (a : Nat) (b : Nat) (x y v : Int) (is : Bool) (nx : Int) (w : World) (ha : a < 6) (hnx : NextAt n k nx) (hbb : b < 6) (hxg : (⟨k, c0, c1, c2, c3, c4, c5, false⟩ : St).get a = x) (hyg : (⟨k, c0, c1, c2, c3, c4, c5, false⟩ : St).get b = y) (hx0 : 0 ≤ x ∧ x < 1000) (hy0 : 0 ≤ y ∧ y < 1000) (hv : (x * y) % 1000 = v) (h : DoHyp w ob off n k 5 a b) :
    Calls Tryz.prog 143 #[.slice (some ⟨ob, off, none⟩) n c, .agg #[.int .i64 k, .int .i64 c0, .int .i64 c1, .int .i64 c2, .int .i64 c3, .int .i64 c4, .int .i64 c5, .bool false], .int .i64 got, .bool is] w
      (RDoneV w { (⟨k, c0, c1, c2, c3, c4, c5, false⟩ : St).put a v with pc := nx } (-1) 0) := by
  obtain ⟨q1, q2, g0, g1, g2⟩ := h
  have hlt := cell_lt g0
  have HXG := hid hxg
  have HYG := hid hyg
  have HM : Hid ((x * y).tmod 1000 = v) := by rw [← hv]; exact Int.tmod_eq_emod_of_nonneg (by exact Int.mul_nonneg hx0.1 hy0.1)
  clear hxg hyg hv
  obtain ⟨t, ht⟩ : ∃ t, t = (⟨k, c0, c1, c2, c3, c4, c5, false⟩ : St).put a v := ⟨_, rfl⟩
  rw [show ({ (⟨k, c0, c1, c2, c3, c4, c5, false⟩ : St).put a v with pc := nx } : St) = { t with pc := nx } by rw [ht]]
  have HT := hid ht
  clear ht
  rcases hnx with ⟨rfl, rfl⟩ | ⟨hne, rfl⟩
  case' inr => have hnb : ((k : Int) + 1 == (n : Int)) = false := by simp; omega
  all_goals
    go_enter Tryz.func143, Tryz.ntmps143
    go_upto_region 4 with fail
    have hx := do_at w k c0 c1 c2 c3 c4 c5 5 a b
    obtain ⟨wx, hwx⟩ : ∃ wx, wx = (((w.alloc (.cells #[.int .i64 k, .int .i64 c0, .int .i64 c1, .int .i64 c2, .int .i64 c3, .int .i64 c4, .int .i64 c5, .bool false] 106)).alloc (.cells #[.int .i64 0, .int .i64 0, .int .i64 0, .int .i64 0, .int .i64 0, .int .i64 0, .int .i64 0, .bool false] 106)).alloc (.cells #[.int .i64 5, .int .i64 a, .int .i64 b] 42)) := ⟨_, rfl⟩
    rw [← hwx] at hx ⊢
    clear hwx g0 g1 g2
    have HX := hid hx
    obtain ⟨b0, b1, o0, o1, o2, hb⟩ := hx
    have ca := (blk_cell b0 (1 + a)).trans (stV_get _ ha)
    have fa := blk_free b0 (1 + a)
    have cp := blk_cell b0 0
    have cf := blk_cell b0 7
    have ff := blk_free b0 7
    simp [stV] at cp cf
    have cb := (blk_cell b0 (1 + b)).trans (stV_get _ hbb)
    rw [HXG.out] at ca
    rw [HYG.out] at cb
    have m0 : 0 ≤ x * y := Int.mul_nonneg hx0.1 hy0.1
    have m1 : x * y ≤ 1000 * 1000 := Int.mul_le_mul (by omega) (by omega) hy0.1 (by omega)
    have e1 : IntKind.i64.wrap (x * y) = x * y := IntWalk.i64_in _ (by omega)
    have e2 : (x * y).tmod 1000 = v := HM.out
    clear b0 b1 hb
    go_upto_region 20 with fail
    go_region
    all_goals go_upto_region 39 with fail
    all_goals
      have hy := (HX.out.put ha v).drew
      obtain ⟨wy, hwy⟩ : ∃ wy, wy = (wx.setCell ⟨w.heap.size, 1 + a, none⟩ (.int .i64 v)).drew := ⟨_, rfl⟩
      rw [← hwy] at hy ⊢
      rw [← HT.out] at hy
      have HY := hid hy
      obtain ⟨⟨p0, p1, p2, p3, p4, p5, p6, p7⟩, p8, ⟨r0, r1, r2, r3, r4, r5, r6, r7⟩, p10⟩ := hy.facts
      clear hy hwy HX o0 o1 o2 HT ca fa cp cf ff
      go_wp2_with fail
      first
      | (
        have hz := HY.out.fin (0)
        obtain ⟨wz, hwz⟩ : ∃ wz, wz = put8 (wy.setCell ⟨w.heap.size, 0, none⟩ (.int .i64 (0))) (w.heap.size + 1) { t with pc := 0 } := ⟨_, rfl⟩
        rw [← hwz] at hz
        unfold put8 at hwz
        rw [← hwz]
        obtain ⟨⟨z0, z1, z2, z3, z4, z5, z6, z7⟩, zb⟩ := hz
        clear hwz p0 p1 p2 p3 p4 p5 p6 p7 p8 r0 r1 r2 r3 r4 r5 r6 r7 p10
        refine bodyPost_ret (v := .tuple #[.agg (stV { t with pc := 0 }), .int .i64 (-1), .int .i64 0]) (by simp [results, Tryz.results143, go_sem, stV, z0, z1, z2, z3, z4, z5, z6, z7]) rfl ?_
        exact ⟨rfl, zb⟩)
      | (
        have hz := HY.out.fin ((k : Int) + 1)
        obtain ⟨wz, hwz⟩ : ∃ wz, wz = put8 (wy.setCell ⟨w.heap.size, 0, none⟩ (.int .i64 ((k : Int) + 1))) (w.heap.size + 1) { t with pc := (k : Int) + 1 } := ⟨_, rfl⟩
        rw [← hwz] at hz
        unfold put8 at hwz
        rw [← hwz]
        obtain ⟨⟨z0, z1, z2, z3, z4, z5, z6, z7⟩, zb⟩ := hz
        clear hwz p0 p1 p2 p3 p4 p5 p6 p7 p8 r0 r1 r2 r3 r4 r5 r6 r7 p10
        refine bodyPost_ret (v := .tuple #[.agg (stV { t with pc := (k : Int) + 1 }), .int .i64 (-1), .int .i64 0]) (by simp [results, Tryz.results143, go_sem, stV, z0, z1, z2, z3, z4, z5, z6, z7]) rfl ?_
        exact ⟨rfl, zb⟩)

set_option maxHeartbeats 2000000 in
theorem rs_jump (ob off n c k : Nat) (c0 c1 c2 c3 c4 c5 : Int) (got : Int) (a : Nat) (b : Int) (is : Bool) (nx : Int) (w : World) (ha : a < 6) (hnx : NextAt n k nx)  (h : DoHyp w ob off n k 7 a b) :
    Calls Tryz.prog 143 #[.slice (some ⟨ob, off, none⟩) n c, .agg #[.int .i64 k, .int .i64 c0, .int .i64 c1, .int .i64 c2, .int .i64 c3, .int .i64 c4, .int .i64 c5, .bool false], .int .i64 got, .bool is] w
      (RDoneV w { (⟨k, c0, c1, c2, c3, c4, c5, false⟩ : St) with pc := b } (-1) 0) := by
  obtain ⟨q1, q2, g0, g1, g2⟩ := h
  have hlt := cell_lt g0
  obtain ⟨t, ht⟩ : ∃ t, t = (⟨k, c0, c1, c2, c3, c4, c5, false⟩ : St) := ⟨_, rfl⟩
  rw [show ({ (⟨k, c0, c1, c2, c3, c4, c5, false⟩ : St) with pc := b } : St) = { t with pc := b } by rw [ht]]
  have HT := hid ht
  clear ht
  rcases hnx with ⟨rfl, rfl⟩ | ⟨hne, rfl⟩
  case' inr => have hnb : ((k : Int) + 1 == (n : Int)) = false := by simp; omega
  all_goals
    go_enter Tryz.func143, Tryz.ntmps143
    go_upto_region 4 with fail
    have hx := do_at w k c0 c1 c2 c3 c4 c5 7 a b
    obtain ⟨wx, hwx⟩ : ∃ wx, wx = (((w.alloc (.cells #[.int .i64 k, .int .i64 c0, .int .i64 c1, .int .i64 c2, .int .i64 c3, .int .i64 c4, .int .i64 c5, .bool false] 106)).alloc (.cells #[.int .i64 0, .int .i64 0, .int .i64 0, .int .i64 0, .int .i64 0, .int .i64 0, .int .i64 0, .bool false] 106)).alloc (.cells #[.int .i64 7, .int .i64 a, .int .i64 b] 42)) := ⟨_, rfl⟩
    rw [← hwx] at hx ⊢
    clear hwx g0 g1 g2
    have HX := hid hx
    obtain ⟨b0, b1, o0, o1, o2, hb⟩ := hx
    have ca := (blk_cell b0 (1 + a)).trans (stV_get _ ha)
    have fa := blk_free b0 (1 + a)
    have cp := blk_cell b0 0
    have cf := blk_cell b0 7
    have ff := blk_free b0 7
    simp [stV] at cp cf
    clear b0 b1 hb
    go_upto_region 39 with fail
    all_goals
      have hy := HX.out.stay
      obtain ⟨wy, hwy⟩ : ∃ wy, wy = wx := ⟨_, rfl⟩
      rw [← hwy] at hy ⊢
      rw [← HT.out] at hy
      have HY := hid hy
      obtain ⟨⟨p0, p1, p2, p3, p4, p5, p6, p7⟩, p8, ⟨r0, r1, r2, r3, r4, r5, r6, r7⟩, p10⟩ := hy.facts
      clear hy hwy HX o0 o1 o2 HT ca fa cp cf ff
      go_wp2_with fail
      have hz := HY.out.fin (b)
      obtain ⟨wz, hwz⟩ : ∃ wz, wz = put8 (wy.setCell ⟨w.heap.size, 0, none⟩ (.int .i64 (b))) (w.heap.size + 1) { t with pc := b } := ⟨_, rfl⟩
      rw [← hwz] at hz
      unfold put8 at hwz
      rw [← hwz]
      obtain ⟨⟨z0, z1, z2, z3, z4, z5, z6, z7⟩, zb⟩ := hz
      clear hwz p0 p1 p2 p3 p4 p5 p6 p7 p8 r0 r1 r2 r3 r4 r5 r6 r7 p10
      refine bodyPost_ret (v := .tuple #[.agg (stV { t with pc := b }), .int .i64 (-1), .int .i64 0]) (by simp [results, Tryz.results143, go_sem, stV, z0, z1, z2, z3, z4, z5, z6, z7]) rfl ?_
      exact ⟨rfl, zb⟩

set_option maxHeartbeats 2000000 in
theorem rs_rest (ob off n c k : Nat) (c0 c1 c2 c3 c4 c5 : Int) (got : Int) (a : Nat) (b : Int) (is : Bool) (nx : Int) (w : World) (ha : a < 6) (hnx : NextAt n k nx)  (h : DoHyp w ob off n k 10 a b) :
    Calls Tryz.prog 143 #[.slice (some ⟨ob, off, none⟩) n c, .agg #[.int .i64 k, .int .i64 c0, .int .i64 c1, .int .i64 c2, .int .i64 c3, .int .i64 c4, .int .i64 c5, .bool false], .int .i64 got, .bool is] w
      (RDoneV w { (⟨k, c0, c1, c2, c3, c4, c5, false⟩ : St) with pc := nx } (-1) 0) := by
  obtain ⟨q1, q2, g0, g1, g2⟩ := h
  have hlt := cell_lt g0
  obtain ⟨t, ht⟩ : ∃ t, t = (⟨k, c0, c1, c2, c3, c4, c5, false⟩ : St) := ⟨_, rfl⟩
  rw [show ({ (⟨k, c0, c1, c2, c3, c4, c5, false⟩ : St) with pc := nx } : St) = { t with pc := nx } by rw [ht]]
  have HT := hid ht
  clear ht
  rcases hnx with ⟨rfl, rfl⟩ | ⟨hne, rfl⟩
  case' inr => have hnb : ((k : Int) + 1 == (n : Int)) = false := by simp; omega
  all_goals
    go_enter Tryz.func143, Tryz.ntmps143
    go_upto_region 4 with fail
    have hx := do_at w k c0 c1 c2 c3 c4 c5 10 a b
    obtain ⟨wx, hwx⟩ : ∃ wx, wx = (((w.alloc (.cells #[.int .i64 k, .int .i64 c0, .int .i64 c1, .int .i64 c2, .int .i64 c3, .int .i64 c4, .int .i64 c5, .bool false] 106)).alloc (.cells #[.int .i64 0, .int .i64 0, .int .i64 0, .int .i64 0, .int .i64 0, .int .i64 0, .int .i64 0, .bool false] 106)).alloc (.cells #[.int .i64 10, .int .i64 a, .int .i64 b] 42)) := ⟨_, rfl⟩
    rw [← hwx] at hx ⊢
    clear hwx g0 g1 g2
    have HX := hid hx
    obtain ⟨b0, b1, o0, o1, o2, hb⟩ := hx
    have ca := (blk_cell b0 (1 + a)).trans (stV_get _ ha)
    have fa := blk_free b0 (1 + a)
    have cp := blk_cell b0 0
    have cf := blk_cell b0 7
    have ff := blk_free b0 7
    simp [stV] at cp cf
    clear b0 b1 hb
    go_upto_region 39 with fail
    all_goals
      have hy := HX.out.stay
      obtain ⟨wy, hwy⟩ : ∃ wy, wy = wx := ⟨_, rfl⟩
      rw [← hwy] at hy ⊢
      rw [← HT.out] at hy
      have HY := hid hy
      obtain ⟨⟨p0, p1, p2, p3, p4, p5, p6, p7⟩, p8, ⟨r0, r1, r2, r3, r4, r5, r6, r7⟩, p10⟩ := hy.facts
      clear hy hwy HX o0 o1 o2 HT ca fa cp cf ff
      go_wp2_with fail
      first
      | (
        have hz := HY.out.fin (0)
        obtain ⟨wz, hwz⟩ : ∃ wz, wz = put8 (wy.setCell ⟨w.heap.size, 0, none⟩ (.int .i64 (0))) (w.heap.size + 1) { t with pc := 0 } := ⟨_, rfl⟩
        rw [← hwz] at hz
        unfold put8 at hwz
        rw [← hwz]
        obtain ⟨⟨z0, z1, z2, z3, z4, z5, z6, z7⟩, zb⟩ := hz
        clear hwz p0 p1 p2 p3 p4 p5 p6 p7 p8 r0 r1 r2 r3 r4 r5 r6 r7 p10
        refine bodyPost_ret (v := .tuple #[.agg (stV { t with pc := 0 }), .int .i64 (-1), .int .i64 0]) (by simp [results, Tryz.results143, go_sem, stV, z0, z1, z2, z3, z4, z5, z6, z7]) rfl ?_
        exact ⟨rfl, zb⟩)
      | (
        have hz := HY.out.fin ((k : Int) + 1)
        obtain ⟨wz, hwz⟩ : ∃ wz, wz = put8 (wy.setCell ⟨w.heap.size, 0, none⟩ (.int .i64 ((k : Int) + 1))) (w.heap.size + 1) { t with pc := (k : Int) + 1 } := ⟨_, rfl⟩
        rw [← hwz] at hz
        unfold put8 at hwz
        rw [← hwz]
        obtain ⟨⟨z0, z1, z2, z3, z4, z5, z6, z7⟩, zb⟩ := hz
        clear hwz p0 p1 p2 p3 p4 p5 p6 p7 p8 r0 r1 r2 r3 r4 r5 r6 r7 p10
        refine bodyPost_ret (v := .tuple #[.agg (stV { t with pc := (k : Int) + 1 }), .int .i64 (-1), .int .i64 0]) (by simp [results, Tryz.results143, go_sem, stV, z0, z1, z2, z3, z4, z5, z6, z7]) rfl ?_
        exact ⟨rfl, zb⟩)

set_option maxHeartbeats 2000000 in
theorem rs_zero (ob off n c k : Nat) (c0 c1 c2 c3 c4 c5 : Int) (got : Int) (a : Nat) (b : Int) (is : Bool) (nx : Int) (w : World) (ha : a < 6) (hnx : NextAt n k nx) (hxg : (⟨k, c0, c1, c2, c3, c4, c5, false⟩ : St).get a = 0) (h : DoHyp w ob off n k 6 a b) :
    Calls Tryz.prog 143 #[.slice (some ⟨ob, off, none⟩) n c, .agg #[.int .i64 k, .int .i64 c0, .int .i64 c1, .int .i64 c2, .int .i64 c3, .int .i64 c4, .int .i64 c5, .bool false], .int .i64 got, .bool is] w
      (RDoneV w { (⟨k, c0, c1, c2, c3, c4, c5, false⟩ : St) with pc := b } (-1) 0) := by
  obtain ⟨q1, q2, g0, g1, g2⟩ := h
  have hlt := cell_lt g0
  have HXG := hid hxg
  clear hxg
  obtain ⟨t, ht⟩ : ∃ t, t = (⟨k, c0, c1, c2, c3, c4, c5, false⟩ : St) := ⟨_, rfl⟩
  rw [show ({ (⟨k, c0, c1, c2, c3, c4, c5, false⟩ : St) with pc := b } : St) = { t with pc := b } by rw [ht]]
  have HT := hid ht
  clear ht
  rcases hnx with ⟨rfl, rfl⟩ | ⟨hne, rfl⟩
  case' inr => have hnb : ((k : Int) + 1 == (n : Int)) = false := by simp; omega
  all_goals
    go_enter Tryz.func143, Tryz.ntmps143
    go_upto_region 4 with fail
    have hx := do_at w k c0 c1 c2 c3 c4 c5 6 a b
    obtain ⟨wx, hwx⟩ : ∃ wx, wx = (((w.alloc (.cells #[.int .i64 k, .int .i64 c0, .int .i64 c1, .int .i64 c2, .int .i64 c3, .int .i64 c4, .int .i64 c5, .bool false] 106)).alloc (.cells #[.int .i64 0, .int .i64 0, .int .i64 0, .int .i64 0, .int .i64 0, .int .i64 0, .int .i64 0, .bool false] 106)).alloc (.cells #[.int .i64 6, .int .i64 a, .int .i64 b] 42)) := ⟨_, rfl⟩
    rw [← hwx] at hx ⊢
    clear hwx g0 g1 g2
    have HX := hid hx
    obtain ⟨b0, b1, o0, o1, o2, hb⟩ := hx
    have ca := (blk_cell b0 (1 + a)).trans (stV_get _ ha)
    have fa := blk_free b0 (1 + a)
    have cp := blk_cell b0 0
    have cf := blk_cell b0 7
    have ff := blk_free b0 7
    simp [stV] at cp cf
    rw [HXG.out] at ca
    clear b0 b1 hb
    go_upto_region 39 with fail
    all_goals
      have hy := HX.out.stay
      obtain ⟨wy, hwy⟩ : ∃ wy, wy = wx := ⟨_, rfl⟩
      rw [← hwy] at hy ⊢
      rw [← HT.out] at hy
      have HY := hid hy
      obtain ⟨⟨p0, p1, p2, p3, p4, p5, p6, p7⟩, p8, ⟨r0, r1, r2, r3, r4, r5, r6, r7⟩, p10⟩ := hy.facts
      clear hy hwy HX o0 o1 o2 HT ca fa cp cf ff
      go_wp2_with fail
      have hz := HY.out.fin (b)
      obtain ⟨wz, hwz⟩ : ∃ wz, wz = put8 (wy.setCell ⟨w.heap.size, 0, none⟩ (.int .i64 (b))) (w.heap.size + 1) { t with pc := b } := ⟨_, rfl⟩
      rw [← hwz] at hz
      unfold put8 at hwz
      rw [← hwz]
      obtain ⟨⟨z0, z1, z2, z3, z4, z5, z6, z7⟩, zb⟩ := hz
      clear hwz p0 p1 p2 p3 p4 p5 p6 p7 p8 r0 r1 r2 r3 r4 r5 r6 r7 p10
      refine bodyPost_ret (v := .tuple #[.agg (stV { t with pc := b }), .int .i64 (-1), .int .i64 0]) (by simp [results, Tryz.results143, go_sem, stV, z0, z1, z2, z3, z4, z5, z6, z7]) rfl ?_
      exact ⟨rfl, zb⟩

set_option maxHeartbeats 2000000 in
theorem rs_nonzero (ob off n c k : Nat) (c0 c1 c2 c3 c4 c5 : Int) (got : Int) (a : Nat) (b : Int) (x : Int) (is : Bool) (nx : Int) (w : World) (ha : a < 6) (hnx : NextAt n k nx) (hxg : (⟨k, c0, c1, c2, c3, c4, c5, false⟩ : St).get a = x) (hx0 : (x == 0) = false) (h : DoHyp w ob off n k 6 a b) :
    Calls Tryz.prog 143 #[.slice (some ⟨ob, off, none⟩) n c, .agg #[.int .i64 k, .int .i64 c0, .int .i64 c1, .int .i64 c2, .int .i64 c3, .int .i64 c4, .int .i64 c5, .bool false], .int .i64 got, .bool is] w
      (RDoneV w { (⟨k, c0, c1, c2, c3, c4, c5, false⟩ : St) with pc := nx } (-1) 0) := by
  obtain ⟨q1, q2, g0, g1, g2⟩ := h
  have hlt := cell_lt g0
  have HXG := hid hxg
  clear hxg
  obtain ⟨t, ht⟩ : ∃ t, t = (⟨k, c0, c1, c2, c3, c4, c5, false⟩ : St) := ⟨_, rfl⟩
  rw [show ({ (⟨k, c0, c1, c2, c3, c4, c5, false⟩ : St) with pc := nx } : St) = { t with pc := nx } by rw [ht]]
  have HT := hid ht
  clear ht
  rcases hnx with ⟨rfl, rfl⟩ | ⟨hne, rfl⟩
  case' inr => have hnb : ((k : Int) + 1 == (n : Int)) = false := by simp; omega
  all_goals
    go_enter Tryz.func143, Tryz.ntmps143
    go_upto_region 4 with fail
    have hx := do_at w k c0 c1 c2 c3 c4 c5 6 a b
    obtain ⟨wx, hwx⟩ : ∃ wx, wx = (((w.alloc (.cells #[.int .i64 k, .int .i64 c0, .int .i64 c1, .int .i64 c2, .int .i64 c3, .int .i64 c4, .int .i64 c5, .bool false] 106)).alloc (.cells #[.int .i64 0, .int .i64 0, .int .i64 0, .int .i64 0, .int .i64 0, .int .i64 0, .int .i64 0, .bool false] 106)).alloc (.cells #[.int .i64 6, .int .i64 a, .int .i64 b] 42)) := ⟨_, rfl⟩
    rw [← hwx] at hx ⊢
    clear hwx g0 g1 g2
    have HX := hid hx
    obtain ⟨b0, b1, o0, o1, o2, hb⟩ := hx
    have ca := (blk_cell b0 (1 + a)).trans (stV_get _ ha)
    have fa := blk_free b0 (1 + a)
    have cp := blk_cell b0 0
    have cf := blk_cell b0 7
    have ff := blk_free b0 7
    simp [stV] at cp cf
    rw [HXG.out] at ca
    clear b0 b1 hb
    go_upto_region 39 with fail
    all_goals
      have hy := HX.out.stay
      obtain ⟨wy, hwy⟩ : ∃ wy, wy = wx := ⟨_, rfl⟩
      rw [← hwy] at hy ⊢
      rw [← HT.out] at hy
      have HY := hid hy
      obtain ⟨⟨p0, p1, p2, p3, p4, p5, p6, p7⟩, p8, ⟨r0, r1, r2, r3, r4, r5, r6, r7⟩, p10⟩ := hy.facts
      clear hy hwy HX o0 o1 o2 HT ca fa cp cf ff
      go_wp2_with fail
      first
      | (
        have hz := HY.out.fin (0)
        obtain ⟨wz, hwz⟩ : ∃ wz, wz = put8 (wy.setCell ⟨w.heap.size, 0, none⟩ (.int .i64 (0))) (w.heap.size + 1) { t with pc := 0 } := ⟨_, rfl⟩
        rw [← hwz] at hz
        unfold put8 at hwz
        rw [← hwz]
        obtain ⟨⟨z0, z1, z2, z3, z4, z5, z6, z7⟩, zb⟩ := hz
        clear hwz p0 p1 p2 p3 p4 p5 p6 p7 p8 r0 r1 r2 r3 r4 r5 r6 r7 p10
        refine bodyPost_ret (v := .tuple #[.agg (stV { t with pc := 0 }), .int .i64 (-1), .int .i64 0]) (by simp [results, Tryz.results143, go_sem, stV, z0, z1, z2, z3, z4, z5, z6, z7]) rfl ?_
        exact ⟨rfl, zb⟩)
      | (
        have hz := HY.out.fin ((k : Int) + 1)
        obtain ⟨wz, hwz⟩ : ∃ wz, wz = put8 (wy.setCell ⟨w.heap.size, 0, none⟩ (.int .i64 ((k : Int) + 1))) (w.heap.size + 1) { t with pc := (k : Int) + 1 } := ⟨_, rfl⟩
        rw [← hwz] at hz
        unfold put8 at hwz
        rw [← hwz]
        obtain ⟨⟨z0, z1, z2, z3, z4, z5, z6, z7⟩, zb⟩ := hz
        clear hwz p0 p1 p2 p3 p4 p5 p6 p7 p8 r0 r1 r2 r3 r4 r5 r6 r7 p10
        refine bodyPost_ret (v := .tuple #[.agg (stV { t with pc := (k : Int) + 1 }), .int .i64 (-1), .int .i64 0]) (by simp [results, Tryz.results143, go_sem, stV, z0, z1, z2, z3, z4, z5, z6, z7]) rfl ?_
        exact ⟨rfl, zb⟩)

set_option maxHeartbeats 2000000 in
theorem rs_send (ob off n c k : Nat) (c0 c1 c2 c3 c4 c5 : Int) (got : Int) (a : Nat) (b : Int) (sx : Int) (is : Bool) (nx : Int) (w : World) (ha : a < 6) (hnx : NextAt n k nx) (hxg : (⟨k, c0, c1, c2, c3, c4, c5, false⟩ : St).get a = sx) (h : DoHyp w ob off n k 8 a b) :
    Calls Tryz.prog 143 #[.slice (some ⟨ob, off, none⟩) n c, .agg #[.int .i64 k, .int .i64 c0, .int .i64 c1, .int .i64 c2, .int .i64 c3, .int .i64 c4, .int .i64 c5, .bool false], .int .i64 got, .bool is] w
      (RDoneV w { (⟨k, c0, c1, c2, c3, c4, c5, false⟩ : St) with pc := nx } (sx) 1) := by
  obtain ⟨q1, q2, g0, g1, g2⟩ := h
  have hlt := cell_lt g0
  have HXG := hid hxg
  clear hxg
  obtain ⟨t, ht⟩ : ∃ t, t = (⟨k, c0, c1, c2, c3, c4, c5, false⟩ : St) := ⟨_, rfl⟩
  rw [show ({ (⟨k, c0, c1, c2, c3, c4, c5, false⟩ : St) with pc := nx } : St) = { t with pc := nx } by rw [ht]]
  have HT := hid ht
  clear ht
  rcases hnx with ⟨rfl, rfl⟩ | ⟨hne, rfl⟩
  case' inr => have hnb : ((k : Int) + 1 == (n : Int)) = false := by simp; omega
  all_goals
    go_enter Tryz.func143, Tryz.ntmps143
    go_upto_region 4 with fail
    have hx := do_at w k c0 c1 c2 c3 c4 c5 8 a b
    obtain ⟨wx, hwx⟩ : ∃ wx, wx = (((w.alloc (.cells #[.int .i64 k, .int .i64 c0, .int .i64 c1, .int .i64 c2, .int .i64 c3, .int .i64 c4, .int .i64 c5, .bool false] 106)).alloc (.cells #[.int .i64 0, .int .i64 0, .int .i64 0, .int .i64 0, .int .i64 0, .int .i64 0, .int .i64 0, .bool false] 106)).alloc (.cells #[.int .i64 8, .int .i64 a, .int .i64 b] 42)) := ⟨_, rfl⟩
    rw [← hwx] at hx ⊢
    clear hwx g0 g1 g2
    have HX := hid hx
    obtain ⟨b0, b1, o0, o1, o2, hb⟩ := hx
    have ca := (blk_cell b0 (1 + a)).trans (stV_get _ ha)
    have fa := blk_free b0 (1 + a)
    have cp := blk_cell b0 0
    have cf := blk_cell b0 7
    have ff := blk_free b0 7
    simp [stV] at cp cf
    rw [HXG.out] at ca
    clear b0 b1 hb
    go_upto_region 39 with fail
    all_goals
      have hy := HX.out.stay
      obtain ⟨wy, hwy⟩ : ∃ wy, wy = wx := ⟨_, rfl⟩
      rw [← hwy] at hy ⊢
      rw [← HT.out] at hy
      have HY := hid hy
      obtain ⟨⟨p0, p1, p2, p3, p4, p5, p6, p7⟩, p8, ⟨r0, r1, r2, r3, r4, r5, r6, r7⟩, p10⟩ := hy.facts
      clear hy hwy HX o0 o1 o2 HT ca fa cp cf ff
      go_wp2_with fail
      first
      | (
        have hz := HY.out.fin (0)
        obtain ⟨wz, hwz⟩ : ∃ wz, wz = put8 (wy.setCell ⟨w.heap.size, 0, none⟩ (.int .i64 (0))) (w.heap.size + 1) { t with pc := 0 } := ⟨_, rfl⟩
        rw [← hwz] at hz
        unfold put8 at hwz
        rw [← hwz]
        obtain ⟨⟨z0, z1, z2, z3, z4, z5, z6, z7⟩, zb⟩ := hz
        clear hwz p0 p1 p2 p3 p4 p5 p6 p7 p8 r0 r1 r2 r3 r4 r5 r6 r7 p10
        refine bodyPost_ret (v := .tuple #[.agg (stV { t with pc := 0 }), .int .i64 (sx), .int .i64 1]) (by simp [results, Tryz.results143, go_sem, stV, z0, z1, z2, z3, z4, z5, z6, z7]) rfl ?_
        exact ⟨rfl, zb⟩)
      | (
        have hz := HY.out.fin ((k : Int) + 1)
        obtain ⟨wz, hwz⟩ : ∃ wz, wz = put8 (wy.setCell ⟨w.heap.size, 0, none⟩ (.int .i64 ((k : Int) + 1))) (w.heap.size + 1) { t with pc := (k : Int) + 1 } := ⟨_, rfl⟩
        rw [← hwz] at hz
        unfold put8 at hwz
        rw [← hwz]
        obtain ⟨⟨z0, z1, z2, z3, z4, z5, z6, z7⟩, zb⟩ := hz
        clear hwz p0 p1 p2 p3 p4 p5 p6 p7 p8 r0 r1 r2 r3 r4 r5 r6 r7 p10
        refine bodyPost_ret (v := .tuple #[.agg (stV { t with pc := (k : Int) + 1 }), .int .i64 (sx), .int .i64 1]) (by simp [results, Tryz.results143, go_sem, stV, z0, z1, z2, z3, z4, z5, z6, z7]) rfl ?_
        exact ⟨rfl, zb⟩)

set_option maxHeartbeats 2000000 in
theorem rs_wait (ob off n c k : Nat) (c0 c1 c2 c3 c4 c5 : Int) (got : Int) (a : Nat) (b : Int) (nx : Int) (w : World) (ha : a < 6) (hnx : NextAt n k nx)  (h : DoHyp w ob off n k 9 a b) :
    Calls Tryz.prog 143 #[.slice (some ⟨ob, off, none⟩) n c, .agg #[.int .i64 k, .int .i64 c0, .int .i64 c1, .int .i64 c2, .int .i64 c3, .int .i64 c4, .int .i64 c5, .bool false], .int .i64 got, .bool false] w
      (RDoneV w { (⟨k, c0, c1, c2, c3, c4, c5, false⟩ : St) with pc := (k : Int) } (-1) 3) := by
  obtain ⟨q1, q2, g0, g1, g2⟩ := h
  have hlt := cell_lt g0
  obtain ⟨t, ht⟩ : ∃ t, t = (⟨k, c0, c1, c2, c3, c4, c5, false⟩ : St) := ⟨_, rfl⟩
  rw [show ({ (⟨k, c0, c1, c2, c3, c4, c5, false⟩ : St) with pc := (k : Int) } : St) = { t with pc := (k : Int) } by rw [ht]]
  have HT := hid ht
  clear ht
  rcases hnx with ⟨rfl, rfl⟩ | ⟨hne, rfl⟩
  case' inr => have hnb : ((k : Int) + 1 == (n : Int)) = false := by simp; omega
  all_goals
    go_enter Tryz.func143, Tryz.ntmps143
    go_upto_region 4 with fail
    have hx := do_at w k c0 c1 c2 c3 c4 c5 9 a b
    obtain ⟨wx, hwx⟩ : ∃ wx, wx = (((w.alloc (.cells #[.int .i64 k, .int .i64 c0, .int .i64 c1, .int .i64 c2, .int .i64 c3, .int .i64 c4, .int .i64 c5, .bool false] 106)).alloc (.cells #[.int .i64 0, .int .i64 0, .int .i64 0, .int .i64 0, .int .i64 0, .int .i64 0, .int .i64 0, .bool false] 106)).alloc (.cells #[.int .i64 9, .int .i64 a, .int .i64 b] 42)) := ⟨_, rfl⟩
    rw [← hwx] at hx ⊢
    clear hwx g0 g1 g2
    have HX := hid hx
    obtain ⟨b0, b1, o0, o1, o2, hb⟩ := hx
    have ca := (blk_cell b0 (1 + a)).trans (stV_get _ ha)
    have fa := blk_free b0 (1 + a)
    have cp := blk_cell b0 0
    have cf := blk_cell b0 7
    have ff := blk_free b0 7
    simp [stV] at cp cf
    clear b0 b1 hb
    go_upto_region 39 with fail
    all_goals
      have hy := HX.out.stay
      obtain ⟨wy, hwy⟩ : ∃ wy, wy = wx := ⟨_, rfl⟩
      rw [← hwy] at hy ⊢
      rw [← HT.out] at hy
      have HY := hid hy
      obtain ⟨⟨p0, p1, p2, p3, p4, p5, p6, p7⟩, p8, ⟨r0, r1, r2, r3, r4, r5, r6, r7⟩, p10⟩ := hy.facts
      clear hy hwy HX o0 o1 o2 HT ca fa cp cf ff
      go_wp2_with fail
      have hz := HY.out.fin ((k : Int))
      obtain ⟨wz, hwz⟩ : ∃ wz, wz = put8 (wy.setCell ⟨w.heap.size, 0, none⟩ (.int .i64 ((k : Int)))) (w.heap.size + 1) { t with pc := (k : Int) } := ⟨_, rfl⟩
      rw [← hwz] at hz
      unfold put8 at hwz
      rw [← hwz]
      obtain ⟨⟨z0, z1, z2, z3, z4, z5, z6, z7⟩, zb⟩ := hz
      clear hwz p0 p1 p2 p3 p4 p5 p6 p7 p8 r0 r1 r2 r3 r4 r5 r6 r7 p10
      refine bodyPost_ret (v := .tuple #[.agg (stV { t with pc := (k : Int) }), .int .i64 (-1), .int .i64 3]) (by simp [results, Tryz.results143, go_sem, stV, z0, z1, z2, z3, z4, z5, z6, z7]) rfl ?_
      exact ⟨rfl, zb⟩

set_option maxHeartbeats 2000000 in
theorem rs_fail (ob off n c k : Nat) (c0 c1 c2 c3 c4 c5 : Int) (got : Int) (a : Nat) (b : Int) (is : Bool) (nx : Int) (w : World) (ha : a < 6) (hnx : NextAt n k nx)  (h : DoHyp w ob off n k 11 a b) :
    Calls Tryz.prog 143 #[.slice (some ⟨ob, off, none⟩) n c, .agg #[.int .i64 k, .int .i64 c0, .int .i64 c1, .int .i64 c2, .int .i64 c3, .int .i64 c4, .int .i64 c5, .bool false], .int .i64 got, .bool is] w
      (RDoneV w { ({ (⟨k, c0, c1, c2, c3, c4, c5, false⟩ : St) with failed := true } : St) with pc := (k : Int) } (-1) 4) := by
  obtain ⟨q1, q2, g0, g1, g2⟩ := h
  have hlt := cell_lt g0
  obtain ⟨t, ht⟩ : ∃ t, t = ({ (⟨k, c0, c1, c2, c3, c4, c5, false⟩ : St) with failed := true } : St) := ⟨_, rfl⟩
  rw [show ({ ({ (⟨k, c0, c1, c2, c3, c4, c5, false⟩ : St) with failed := true } : St) with pc := (k : Int) } : St) = { t with pc := (k : Int) } by rw [ht]]
  have HT := hid ht
  clear ht
  rcases hnx with ⟨rfl, rfl⟩ | ⟨hne, rfl⟩
  case' inr => have hnb : ((k : Int) + 1 == (n : Int)) = false := by simp; omega
  all_goals
    go_enter Tryz.func143, Tryz.ntmps143
    go_upto_region 4 with fail
    have hx := do_at w k c0 c1 c2 c3 c4 c5 11 a b
    obtain ⟨wx, hwx⟩ : ∃ wx, wx = (((w.alloc (.cells #[.int .i64 k, .int .i64 c0, .int .i64 c1, .int .i64 c2, .int .i64 c3, .int .i64 c4, .int .i64 c5, .bool false] 106)).alloc (.cells #[.int .i64 0, .int .i64 0, .int .i64 0, .int .i64 0, .int .i64 0, .int .i64 0, .int .i64 0, .bool false] 106)).alloc (.cells #[.int .i64 11, .int .i64 a, .int .i64 b] 42)) := ⟨_, rfl⟩
    rw [← hwx] at hx ⊢
    clear hwx g0 g1 g2
    have HX := hid hx
    obtain ⟨b0, b1, o0, o1, o2, hb⟩ := hx
    have ca := (blk_cell b0 (1 + a)).trans (stV_get _ ha)
    have fa := blk_free b0 (1 + a)
    have cp := blk_cell b0 0
    have cf := blk_cell b0 7
    have ff := blk_free b0 7
    simp [stV] at cp cf
    clear b0 b1 hb
    go_upto_region 39 with fail
    all_goals
      have hy := HX.out.fails
      obtain ⟨wy, hwy⟩ : ∃ wy, wy = wx.setCell ⟨w.heap.size, 7, none⟩ (.bool true) := ⟨_, rfl⟩
      rw [← hwy] at hy ⊢
      rw [← HT.out] at hy
      have HY := hid hy
      obtain ⟨⟨p0, p1, p2, p3, p4, p5, p6, p7⟩, p8, ⟨r0, r1, r2, r3, r4, r5, r6, r7⟩, p10⟩ := hy.facts
      clear hy hwy HX o0 o1 o2 HT ca fa cp cf ff
      go_wp2_with fail
      have hz := HY.out.fin ((k : Int))
      obtain ⟨wz, hwz⟩ : ∃ wz, wz = put8 (wy.setCell ⟨w.heap.size, 0, none⟩ (.int .i64 ((k : Int)))) (w.heap.size + 1) { t with pc := (k : Int) } := ⟨_, rfl⟩
      rw [← hwz] at hz
      unfold put8 at hwz
      rw [← hwz]
      obtain ⟨⟨z0, z1, z2, z3, z4, z5, z6, z7⟩, zb⟩ := hz
      clear hwz p0 p1 p2 p3 p4 p5 p6 p7 p8 r0 r1 r2 r3 r4 r5 r6 r7 p10
      refine bodyPost_ret (v := .tuple #[.agg (stV { t with pc := (k : Int) }), .int .i64 (-1), .int .i64 4]) (by simp [results, Tryz.results143, go_sem, stV, z0, z1, z2, z3, z4, z5, z6, z7]) rfl ?_
      exact ⟨rfl, zb⟩

set_option maxHeartbeats 1000000 in
theorem rs_failed (A : Option Addr) (n c : Nat) (pc c0 c1 c2 c3 c4 c5 : Int) (got : Int) (is : Bool) (w : World) :
    Calls Tryz.prog 143 #[.slice A n c, .agg #[.int .i64 pc, .int .i64 c0, .int .i64 c1, .int .i64 c2, .int .i64 c3, .int .i64 c4, .int .i64 c5, .bool true], .int .i64 got, .bool is] w
      (RDoneV w ⟨pc, c0, c1, c2, c3, c4, c5, true⟩ (-1) 5) := by
  go_enter Tryz.func143, Tryz.ntmps143
  go_wp2_with fail
  refine bodyPost_ret (v := .tuple #[.agg (stV ⟨pc, c0, c1, c2, c3, c4, c5, true⟩), .int .i64 (-1), .int .i64 5]) (by simp [results, Tryz.results143, go_sem, stV]) rfl ?_
  exact ⟨rfl, by repeat (first | exact Below.refl _ _ | refine Below.setCell ?_ (by simp) _ | refine Below.alloc ?_ (by simp) _)⟩

theorem rstep_any (ob off n c k : Nat) (s : St) (o : Op) (got : Int) (is : Bool) (w : World) (hk : s.pc = k) (hst : stOk s n = true) (hop : opOk o n = true) (hh : DoHyp w ob off n k o.what o.a o.b) :
    Calls Tryz.prog 143 #[.slice (some ⟨ob, off, none⟩) n c, .agg #[.int .i64 s.pc, .int .i64 s.c0, .int .i64 s.c1, .int .i64 s.c2, .int .i64 s.c3, .int .i64 s.c4, .int .i64 s.c5, .bool s.failed], .int .i64 got, .bool is] w
      (RDoneV w (stepDo n o s got is).1 (stepDo n o s got is).2 (stepWhat o s is)) := by
  have hnx := nextAt (n := n) hk hh.lt
  obtain ⟨pc, c0, c1, c2, c3, c4, c5, f⟩ := s
  simp only [] at hk
  subst hk
  have hcell := (stOk_iff.1 hst).2
  cases f with
  | true => exact rs_failed _ n c k c0 c1 c2 c3 c4 c5 got is w
  | false =>
    obtain ⟨what, a, b⟩ := o
    have ha := opOk_a hop
    have hwh := opOk_iff.1 hop
    have hb6 := opOk_b6 hop
    simp only [] at hh ha hb6 hwh
    obtain ⟨ha0, ha6⟩ := ha
    obtain ⟨h1, h2, _⟩ := hwh
    have h11 : what = 1 ∨ what = 2 ∨ what = 3 ∨ what = 4 ∨ what = 5 ∨ what = 6 ∨ what = 7 ∨ what = 8 ∨ what = 9 ∨ what = 10 ∨ what = 11 := by omega
    obtain ⟨a', rfl⟩ : ∃ a' : Nat, a = a' := ⟨a.toNat, by omega⟩
    have ha6' : a' < 6 := by omega
    have hca := hcell a' ha6'
    unfold stepDo stepWhat
    simp only [Int.toNat_natCast]
    rcases h11 with rfl | rfl | rfl | rfl | rfl | rfl | rfl | rfl | rfl | rfl | rfl
    · exact rs_set ob off n c k c0 c1 c2 c3 c4 c5 got a' b is _ w ha6' hnx hh
    · obtain ⟨hb0, hb6⟩ := hb6 (by omega)
      obtain ⟨b', rfl⟩ : ∃ b' : Nat, b = b' := ⟨b.toNat, by omega⟩
      exact rs_copy ob off n c k c0 c1 c2 c3 c4 c5 got a' b' _ is _ w ha6' hnx (by omega) rfl hh
    · obtain ⟨hb0, hb6⟩ := hb6 (by omega)
      obtain ⟨b', rfl⟩ : ∃ b' : Nat, b = b' := ⟨b.toNat, by omega⟩
      exact rs_add ob off n c k c0 c1 c2 c3 c4 c5 got a' b' _ _ _ is _ w ha6' hnx (by omega) rfl rfl hca (hcell b' (by omega)) rfl hh
    · obtain ⟨hb0, hb6⟩ := hb6 (by omega)
      obtain ⟨b', rfl⟩ : ∃ b' : Nat, b = b' := ⟨b.toNat, by omega⟩
      exact rs_sub ob off n c k c0 c1 c2 c3 c4 c5 got a' b' _ _ _ is _ w ha6' hnx (by omega) rfl rfl hca (hcell b' (by omega)) (by rw [Int.toNat_natCast]; omega) hh
    · obtain ⟨hb0, hb6⟩ := hb6 (by omega)
      obtain ⟨b', rfl⟩ : ∃ b' : Nat, b = b' := ⟨b.toNat, by omega⟩
      exact rs_mul ob off n c k c0 c1 c2 c3 c4 c5 got a' b' _ _ _ is _ w ha6' hnx (by omega) rfl rfl hca (hcell b' (by omega)) rfl hh
    · by_cases h0 : (⟨k, c0, c1, c2, c3, c4, c5, false⟩ : St).get a' = 0
      · simp only [h0]
        exact rs_zero ob off n c k c0 c1 c2 c3 c4 c5 got a' b is _ w ha6' hnx h0 hh
      · simp only [if_neg h0]
        exact rs_nonzero ob off n c k c0 c1 c2 c3 c4 c5 got a' b _ is _ w ha6' hnx rfl (by simpa using h0) hh
    · exact rs_jump ob off n c k c0 c1 c2 c3 c4 c5 got a' b is _ w ha6' hnx hh
    · exact rs_send ob off n c k c0 c1 c2 c3 c4 c5 got a' b _ is _ w ha6' hnx rfl hh
    · cases is with
      | true => exact rs_take ob off n c k c0 c1 c2 c3 c4 c5 got a' b _ w ha6' hnx hh
      | false => exact rs_wait ob off n c k c0 c1 c2 c3 c4 c5 got a' b _ w ha6' hnx hh
    · exact rs_rest ob off n c k c0 c1 c2 c3 c4 c5 got a' b is _ w ha6' hnx hh
    · exact rs_fail ob off n c k c0 c1 c2 c3 c4 c5 got a' b is _ w ha6' hnx hh
end Go.Proofs.YtldllmhgofacbaaGreatDoor
