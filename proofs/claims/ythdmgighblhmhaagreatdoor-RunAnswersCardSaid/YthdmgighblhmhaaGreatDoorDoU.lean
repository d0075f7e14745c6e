/- Several parts: each begins with what it says. -/
import Derived.Test.YthdmgighblhmhaaGreatDoorRoomW
import Derived.Deep.DeepCutAuto
import Derived.IntWalk
/- Package room: the contract of Do, for each kind of op. -/
namespace Go.Proofs.YthdmgighblhmhaaGreatDoor
open Go.RowKit
set_option maxRecDepth 100000

/-- What a step finds: its op's cells, and where it stands. -/
structure DoHyp (w : World) (ob off n k : Nat) (what a b : Int) : Prop where
  lt : k < n
  most : n ≤ 20
  g0 : w.cell? ⟨ob, off + k * 3, none⟩ = some (.int .i64 what)
  g1 : w.cell? ⟨ob, off + k * 3 + 1, none⟩ = some (.int .i64 a)
  g2 : w.cell? ⟨ob, off + k * 3 + 2, none⟩ = some (.int .i64 b)
def DoneV (w : World) (t : St) (out : Int) (e : Ending) (w' : World) : Prop := e = .returned (.tuple #[.agg (stV t), .int .i64 out]) ∧ Below w.heap.size w w'

/-- The state's block, cell by cell. -/
structure StAt (w : World) (b : Nat) (s : St) : Prop where
  p : w.cell? ⟨b, 0, none⟩ = some (.int .i64 s.pc)
  c0 : w.cell? ⟨b, 1, none⟩ = some (.int .i64 s.c0)
  c1 : w.cell? ⟨b, 2, none⟩ = some (.int .i64 s.c1)
  c2 : w.cell? ⟨b, 3, none⟩ = some (.int .i64 s.c2)
  c3 : w.cell? ⟨b, 4, none⟩ = some (.int .i64 s.c3)
  c4 : w.cell? ⟨b, 5, none⟩ = some (.int .i64 s.c4)
  c5 : w.cell? ⟨b, 6, none⟩ = some (.int .i64 s.c5)
  f : w.cell? ⟨b, 7, none⟩ = some (.bool s.failed)
theorem stAt {w : World} {b t : Nat} {s : St} (h : w.heap[b]? = some (.cells (stV s) t (0, 0))) : StAt w b s :=
  ⟨blk_cell h 0, blk_cell h 1, blk_cell h 2, blk_cell h 3, blk_cell h 4, blk_cell h 5, blk_cell h 6, blk_cell h 7⟩
theorem stV_get (s : St) {a : Nat} (h : a < 6) : (stV s)[1 + a]? = some (.int .i64 (s.get a)) := by
  rcases six h with rfl | rfl | rfl | rfl | rfl | rfl <;> rfl
theorem stV_put (s : St) {a : Nat} (h : a < 6) (v : Int) : (stV s).setIfInBounds (1 + a) (.int .i64 v) = stV (s.put a v) := by
  rcases six h with rfl | rfl | rfl | rfl | rfl | rfl <;> rfl

/-- The world in which the op is looked at: the state's block, the result's, the op's. -/
structure DoAt (w wx : World) (s : St) (what a b : Int) : Prop where
  b0 : wx.heap[w.heap.size]? = some (.cells (stV s) 81 (0, 0))
  b1 : wx.heap[w.heap.size + 1]? = some (.cells (stV St.zero) 81 (0, 0))
  o0 : wx.cell? ⟨w.heap.size + 1 + 1, 0, none⟩ = some (.int .i64 what)
  o1 : wx.cell? ⟨w.heap.size + 1 + 1, 1, none⟩ = some (.int .i64 a)
  o2 : wx.cell? ⟨w.heap.size + 1 + 1, 2, none⟩ = some (.int .i64 b)
  below : Below w.heap.size w wx
theorem do_at (w : World) (k c0 c1 c2 c3 c4 c5 : Int) (what a b : Int) : DoAt w (((w.alloc (.cells #[.int .i64 k, .int .i64 c0, .int .i64 c1, .int .i64 c2, .int .i64 c3, .int .i64 c4, .int .i64 c5, .bool false] 81)).alloc (.cells #[.int .i64 0, .int .i64 0, .int .i64 0, .int .i64 0, .int .i64 0, .int .i64 0, .int .i64 0, .bool false] 81)).alloc (.cells #[.int .i64 what, .int .i64 a, .int .i64 b] 72)) ⟨k, c0, c1, c2, c3, c4, c5, false⟩ what a b := by
  have h2 : (((w.alloc (.cells #[.int .i64 k, .int .i64 c0, .int .i64 c1, .int .i64 c2, .int .i64 c3, .int .i64 c4, .int .i64 c5, .bool false] 81)).alloc (.cells #[.int .i64 0, .int .i64 0, .int .i64 0, .int .i64 0, .int .i64 0, .int .i64 0, .int .i64 0, .bool false] 81)).alloc (.cells #[.int .i64 what, .int .i64 a, .int .i64 b] 72)).heap[w.heap.size + 1 + 1]? = some (.cells #[.int .i64 what, .int .i64 a, .int .i64 b] 72 (0, 0)) := by
    rw [hp_alloc, if_pos (by simp)]
  refine ⟨?_, ?_, blk_cell h2 0, blk_cell h2 1, blk_cell h2 2, (((Below.refl _ _).alloc (by simp) _).alloc (by simp) _).alloc (by simp; omega) _⟩
  · rw [hp_alloc, if_neg (by simp; omega), hp_alloc, if_neg (by simp), hp_alloc, if_pos rfl]; rfl
  · rw [hp_alloc, if_neg (by simp), hp_alloc, if_pos (by simp)]; rfl
/-- The world in which a step has done what its op says. -/
structure DoEnd (w wy : World) (t : St) : Prop where
  b0 : wy.heap[w.heap.size]? = some (.cells (stV t) 81 (0, 0))
  b1 : wy.heap[w.heap.size + 1]? = some (.cells (stV St.zero) 81 (0, 0))
  below : Below w.heap.size w wy
theorem DoEnd.facts {w wy : World} {t : St} (h : DoEnd w wy t) : StAt wy w.heap.size t ∧ (∀ o, wy.frozen? ⟨w.heap.size, o, none⟩ = false) ∧ StAt wy (w.heap.size + 1) St.zero ∧ (∀ o, wy.frozen? ⟨w.heap.size + 1, o, none⟩ = false) :=
  ⟨stAt h.b0, fun o => blk_free h.b0 o, stAt h.b1, fun o => blk_free h.b1 o⟩
theorem DoAt.put {w wx : World} {s : St} {what a' b : Int} (h : DoAt w wx s what a' b) {a : Nat} (ha : a < 6) (v : Int) : DoEnd w (wx.setCell ⟨w.heap.size, 1 + a, none⟩ (.int .i64 v)) (s.put a v) := by
  refine ⟨?_, ?_, h.below.setCell (Nat.le_refl _) _⟩
  · rw [hp_set, if_pos rfl]
    rw [h.b0]
    simp only [Option.map_some, setObj]
    rw [stV_put s ha]
  · rw [hp_set, if_neg (by omega)]; exact h.b1
theorem DoEnd.drew {w wy : World} {t : St} (h : DoEnd w wy t) : DoEnd w wy.drew t := ⟨h.b0, h.b1, h.below.drew⟩
theorem DoAt.fails {w wx : World} {s : St} {what a' b : Int} (h : DoAt w wx s what a' b) : DoEnd w (wx.setCell ⟨w.heap.size, 7, none⟩ (.bool true)) { s with failed := true } := by
  refine ⟨?_, ?_, h.below.setCell (Nat.le_refl _) _⟩
  · rw [hp_set, if_pos rfl]
    rw [h.b0]
    rfl
  · rw [hp_set, if_neg (by omega)]; exact h.b1
theorem DoAt.stay {w wx : World} {s : St} {what a' b : Int} (h : DoAt w wx s what a' b) : DoEnd w wx s := ⟨h.b0, h.b1, h.below⟩

/-- A state stored whole. -/
def put8 (w : World) (b : Nat) (t : St) : World :=
  (((((((w.setCell ⟨b, 0, none⟩ (.int .i64 t.pc)).setCell ⟨b, 1, none⟩ (.int .i64 t.c0)).setCell ⟨b, 2, none⟩ (.int .i64 t.c1)).setCell ⟨b, 3, none⟩ (.int .i64 t.c2)).setCell ⟨b, 4, none⟩ (.int .i64 t.c3)).setCell ⟨b, 5, none⟩ (.int .i64 t.c4)).setCell ⟨b, 6, none⟩ (.int .i64 t.c5)).setCell ⟨b, 7, none⟩ (.bool t.failed)
theorem put8_heap {w : World} {b T : Nat} {s t : St} (h : w.heap[b]? = some (.cells (stV s) T (0, 0))) : (put8 w b t).heap[b]? = some (.cells (stV t) T (0, 0)) := by
  unfold put8
  simp [hp_set, h, setObj, stV]
theorem put8_keep {F : Nat → Prop} {a w : World} (h : Keep F a w) {b : Nat} (hb : F b ∨ a.heap.size ≤ b) (t : St) : Keep F a (put8 w b t) := by
  unfold put8
  exact ((((((((h.setCell hb _).setCell hb _).setCell hb _).setCell hb _).setCell hb _).setCell hb _).setCell hb _).setCell hb _)
theorem DoEnd.fin {w wy : World} {t : St} (h : DoEnd w wy t) (nx : Int) : StAt (put8 (wy.setCell ⟨w.heap.size, 0, none⟩ (.int .i64 nx)) (w.heap.size + 1) { t with pc := nx }) (w.heap.size + 1) { t with pc := nx } ∧
    Below w.heap.size w (put8 (wy.setCell ⟨w.heap.size, 0, none⟩ (.int .i64 nx)) (w.heap.size + 1) { t with pc := nx }) := by
  refine ⟨stAt (put8_heap (s := St.zero) (T := 81) ?_), ?_⟩
  · rw [hp_set, if_neg (by omega)]; exact h.b1
  · exact (put8_keep ((Keep.of_below NoF h.below).setCell (.inr (Nat.le_refl _)) _) (.inr (by omega)) _).below (Nat.le_refl _) (fun _ h => h.elim)

set_option maxHeartbeats 1000000 in
theorem do_set (ob off n c k : Nat) (c0 c1 c2 c3 c4 c5 : Int) (got : Int) (a : Nat) (b : Int) (is : Bool) (w : World) (ha : a < 6) (h : DoHyp w ob off n k 1 a b) :
    Calls Tryz.prog 111 #[.slice (some ⟨ob, off, none⟩) n c, .agg #[.int .i64 k, .int .i64 c0, .int .i64 c1, .int .i64 c2, .int .i64 c3, .int .i64 c4, .int .i64 c5, .bool false], .int .i64 got, .bool is] w
      (DoneV w { (⟨k, c0, c1, c2, c3, c4, c5, false⟩ : St).put a b with pc := nextPc ⟨k, c0, c1, c2, c3, c4, c5, false⟩ n } (-1)) := by
  obtain ⟨q1, q2, g0, g1, g2⟩ := h
  have hlt := cell_lt g0
  have hnx : ((k : Int) + 1).tmod (n : Int) = nextPc ⟨k, c0, c1, c2, c3, c4, c5, false⟩ n := Int.tmod_eq_emod_of_nonneg (by omega)
  have hn0 : ((n : Int) == 0) = false := by simp; omega
  generalize nextPc ⟨k, c0, c1, c2, c3, c4, c5, false⟩ n = nx at hnx ⊢
  obtain ⟨t, ht⟩ : ∃ t, t = (⟨k, c0, c1, c2, c3, c4, c5, false⟩ : St).put a b := ⟨_, rfl⟩
  rw [← ht]
  have HT := hid ht
  clear ht
  go_enter Tryz.func111, Tryz.ntmps111
  go_upto_region 6 with fail
  have hx := do_at w k c0 c1 c2 c3 c4 c5 1 a b
  obtain ⟨wx, hwx⟩ : ∃ wx, wx = (((w.alloc (.cells #[.int .i64 k, .int .i64 c0, .int .i64 c1, .int .i64 c2, .int .i64 c3, .int .i64 c4, .int .i64 c5, .bool false] 81)).alloc (.cells #[.int .i64 0, .int .i64 0, .int .i64 0, .int .i64 0, .int .i64 0, .int .i64 0, .int .i64 0, .bool false] 81)).alloc (.cells #[.int .i64 1, .int .i64 a, .int .i64 b] 72)) := ⟨_, rfl⟩
  rw [← hwx] at hx ⊢
  clear hwx g0 g1 g2 hnx hn0
  have HX := hid hx
  obtain ⟨b0, b1, o0, o1, o2, hb⟩ := hx
  have ca := (blk_cell b0 (1 + a)).trans (stV_get _ ha)
  have fa := blk_free b0 (1 + a)
  clear b0 b1 hb
  go_upto_region 30 with fail
  all_goals
    have hy := HX.out.put ha (b)
    obtain ⟨wy, hwy⟩ : ∃ wy, wy = wx.setCell ⟨w.heap.size, 1 + a, none⟩ (.int .i64 (b)) := ⟨_, rfl⟩
    rw [← hwy] at hy ⊢
    rw [← HT.out] at hy
    have HY := hid hy
    obtain ⟨⟨p0, p1, p2, p3, p4, p5, p6, p7⟩, p8, ⟨r0, r1, r2, r3, r4, r5, r6, r7⟩, p10⟩ := hy.facts
    clear hy hwy HX o0 o1 o2 HT
    go_wp2_with fail
    have hz := HY.out.fin (nx)
    obtain ⟨wz, hwz⟩ : ∃ wz, wz = put8 (wy.setCell ⟨w.heap.size, 0, none⟩ (.int .i64 (nx))) (w.heap.size + 1) { t with pc := nx } := ⟨_, rfl⟩
    rw [← hwz] at hz
    unfold put8 at hwz
    rw [← hwz]
    obtain ⟨⟨z0, z1, z2, z3, z4, z5, z6, z7⟩, zb⟩ := hz
    clear hwz p0 p1 p2 p3 p4 p5 p6 p7 p8 r0 r1 r2 r3 r4 r5 r6 r7 p10
    refine bodyPost_ret (v := .tuple #[.agg (stV { t with pc := nx }), .int .i64 (-1)]) (by simp [results, Tryz.results111, go_sem, stV, z0, z1, z2, z3, z4, z5, z6, z7]) rfl ?_
    exact ⟨rfl, zb⟩

set_option maxHeartbeats 1000000 in
theorem do_take (ob off n c k : Nat) (c0 c1 c2 c3 c4 c5 : Int) (got : Int) (a : Nat) (b : Int) (w : World) (ha : a < 6) (h : DoHyp w ob off n k 9 a b) :
    Calls Tryz.prog 111 #[.slice (some ⟨ob, off, none⟩) n c, .agg #[.int .i64 k, .int .i64 c0, .int .i64 c1, .int .i64 c2, .int .i64 c3, .int .i64 c4, .int .i64 c5, .bool false], .int .i64 got, .bool true] w
      (DoneV w { (⟨k, c0, c1, c2, c3, c4, c5, false⟩ : St).put a got with pc := nextPc ⟨k, c0, c1, c2, c3, c4, c5, false⟩ n } (-1)) := by
  obtain ⟨q1, q2, g0, g1, g2⟩ := h
  have hlt := cell_lt g0
  have hnx : ((k : Int) + 1).tmod (n : Int) = nextPc ⟨k, c0, c1, c2, c3, c4, c5, false⟩ n := Int.tmod_eq_emod_of_nonneg (by omega)
  have hn0 : ((n : Int) == 0) = false := by simp; omega
  generalize nextPc ⟨k, c0, c1, c2, c3, c4, c5, false⟩ n = nx at hnx ⊢
  obtain ⟨t, ht⟩ : ∃ t, t = (⟨k, c0, c1, c2, c3, c4, c5, false⟩ : St).put a got := ⟨_, rfl⟩
  rw [← ht]
  have HT := hid ht
  clear ht
  go_enter Tryz.func111, Tryz.ntmps111
  go_upto_region 6 with fail
  have hx := do_at w k c0 c1 c2 c3 c4 c5 9 a b
  obtain ⟨wx, hwx⟩ : ∃ wx, wx = (((w.alloc (.cells #[.int .i64 k, .int .i64 c0, .int .i64 c1, .int .i64 c2, .int .i64 c3, .int .i64 c4, .int .i64 c5, .bool false] 81)).alloc (.cells #[.int .i64 0, .int .i64 0, .int .i64 0, .int .i64 0, .int .i64 0, .int .i64 0, .int .i64 0, .bool false] 81)).alloc (.cells #[.int .i64 9, .int .i64 a, .int .i64 b] 72)) := ⟨_, rfl⟩
  rw [← hwx] at hx ⊢
  clear hwx g0 g1 g2 hnx hn0
  have HX := hid hx
  obtain ⟨b0, b1, o0, o1, o2, hb⟩ := hx
  have ca := (blk_cell b0 (1 + a)).trans (stV_get _ ha)
  have fa := blk_free b0 (1 + a)
  clear b0 b1 hb
  go_upto_region 30 with fail
  all_goals
    have hy := HX.out.put ha (got)
    obtain ⟨wy, hwy⟩ : ∃ wy, wy = wx.setCell ⟨w.heap.size, 1 + a, none⟩ (.int .i64 (got)) := ⟨_, rfl⟩
    rw [← hwy] at hy ⊢
    rw [← HT.out] at hy
    have HY := hid hy
    obtain ⟨⟨p0, p1, p2, p3, p4, p5, p6, p7⟩, p8, ⟨r0, r1, r2, r3, r4, r5, r6, r7⟩, p10⟩ := hy.facts
    clear hy hwy HX o0 o1 o2 HT
    go_wp2_with fail
    have hz := HY.out.fin (nx)
    obtain ⟨wz, hwz⟩ : ∃ wz, wz = put8 (wy.setCell ⟨w.heap.size, 0, none⟩ (.int .i64 (nx))) (w.heap.size + 1) { t with pc := nx } := ⟨_, rfl⟩
    rw [← hwz] at hz
    unfold put8 at hwz
    rw [← hwz]
    obtain ⟨⟨z0, z1, z2, z3, z4, z5, z6, z7⟩, zb⟩ := hz
    clear hwz p0 p1 p2 p3 p4 p5 p6 p7 p8 r0 r1 r2 r3 r4 r5 r6 r7 p10
    refine bodyPost_ret (v := .tuple #[.agg (stV { t with pc := nx }), .int .i64 (-1)]) (by simp [results, Tryz.results111, go_sem, stV, z0, z1, z2, z3, z4, z5, z6, z7]) rfl ?_
    exact ⟨rfl, zb⟩

set_option maxHeartbeats 1000000 in
theorem do_copy (ob off n c k : Nat) (c0 c1 c2 c3 c4 c5 : Int) (got : Int) (a b : Nat) (y : Int) (is : Bool) (w : World) (ha : a < 6) (hbb : b < 6) (hyg : (⟨k, c0, c1, c2, c3, c4, c5, false⟩ : St).get b = y) (h : DoHyp w ob off n k 2 a b) :
    Calls Tryz.prog 111 #[.slice (some ⟨ob, off, none⟩) n c, .agg #[.int .i64 k, .int .i64 c0, .int .i64 c1, .int .i64 c2, .int .i64 c3, .int .i64 c4, .int .i64 c5, .bool false], .int .i64 got, .bool is] w
      (DoneV w { (⟨k, c0, c1, c2, c3, c4, c5, false⟩ : St).put a y with pc := nextPc ⟨k, c0, c1, c2, c3, c4, c5, false⟩ n } (-1)) := by
  obtain ⟨q1, q2, g0, g1, g2⟩ := h
  have hlt := cell_lt g0
  have hnx : ((k : Int) + 1).tmod (n : Int) = nextPc ⟨k, c0, c1, c2, c3, c4, c5, false⟩ n := Int.tmod_eq_emod_of_nonneg (by omega)
  have hn0 : ((n : Int) == 0) = false := by simp; omega
  generalize nextPc ⟨k, c0, c1, c2, c3, c4, c5, false⟩ n = nx at hnx ⊢
  have HYG := hid hyg
  clear hyg
  obtain ⟨t, ht⟩ : ∃ t, t = (⟨k, c0, c1, c2, c3, c4, c5, false⟩ : St).put a y := ⟨_, rfl⟩
  rw [← ht]
  have HT := hid ht
  clear ht
  go_enter Tryz.func111, Tryz.ntmps111
  go_upto_region 6 with fail
  have hx := do_at w k c0 c1 c2 c3 c4 c5 2 a b
  obtain ⟨wx, hwx⟩ : ∃ wx, wx = (((w.alloc (.cells #[.int .i64 k, .int .i64 c0, .int .i64 c1, .int .i64 c2, .int .i64 c3, .int .i64 c4, .int .i64 c5, .bool false] 81)).alloc (.cells #[.int .i64 0, .int .i64 0, .int .i64 0, .int .i64 0, .int .i64 0, .int .i64 0, .int .i64 0, .bool false] 81)).alloc (.cells #[.int .i64 2, .int .i64 a, .int .i64 b] 72)) := ⟨_, rfl⟩
  rw [← hwx] at hx ⊢
  clear hwx g0 g1 g2 hnx hn0
  have HX := hid hx
  obtain ⟨b0, b1, o0, o1, o2, hb⟩ := hx
  have ca := (blk_cell b0 (1 + a)).trans (stV_get _ ha)
  have fa := blk_free b0 (1 + a)
  have cb := (blk_cell b0 (1 + b)).trans (stV_get _ hbb)
  rw [HYG.out] at cb
  clear b0 b1 hb
  go_upto_region 10 with fail
  go_region
  all_goals go_upto_region 30 with fail
  all_goals
    have hy := (HX.out.put ha y).drew
    obtain ⟨wy, hwy⟩ : ∃ wy, wy = (wx.setCell ⟨w.heap.size, 1 + a, none⟩ (.int .i64 y)).drew := ⟨_, rfl⟩
    rw [← hwy] at hy ⊢
    rw [← HT.out] at hy
    have HY := hid hy
    obtain ⟨⟨p0, p1, p2, p3, p4, p5, p6, p7⟩, p8, ⟨r0, r1, r2, r3, r4, r5, r6, r7⟩, p10⟩ := hy.facts
    clear hy hwy HX o0 o1 o2 HT
    go_wp2_with fail
    have hz := HY.out.fin (nx)
    obtain ⟨wz, hwz⟩ : ∃ wz, wz = put8 (wy.setCell ⟨w.heap.size, 0, none⟩ (.int .i64 (nx))) (w.heap.size + 1) { t with pc := nx } := ⟨_, rfl⟩
    rw [← hwz] at hz
    unfold put8 at hwz
    rw [← hwz]
    obtain ⟨⟨z0, z1, z2, z3, z4, z5, z6, z7⟩, zb⟩ := hz
    clear hwz p0 p1 p2 p3 p4 p5 p6 p7 p8 r0 r1 r2 r3 r4 r5 r6 r7 p10
    refine bodyPost_ret (v := .tuple #[.agg (stV { t with pc := nx }), .int .i64 (-1)]) (by simp [results, Tryz.results111, go_sem, stV, z0, z1, z2, z3, z4, z5, z6, z7]) rfl ?_
    exact ⟨rfl, zb⟩

set_option maxHeartbeats 1000000 in
theorem do_add (ob off n c k : Nat) (c0 c1 c2 c3 c4 c5 : Int) (got : Int) (a b : Nat) (x y v : Int) (is : Bool) (w : World) (ha : a < 6) (hbb : b < 6) (hxg : (⟨k, c0, c1, c2, c3, c4, c5, false⟩ : St).get a = x) (hyg : (⟨k, c0, c1, c2, c3, c4, c5, false⟩ : St).get b = y) (hx0 : 0 ≤ x ∧ x < 1000) (hy0 : 0 ≤ y ∧ y < 1000) (hv : (x + y) % 1000 = v) (h : DoHyp w ob off n k 3 a b) :
    Calls Tryz.prog 111 #[.slice (some ⟨ob, off, none⟩) n c, .agg #[.int .i64 k, .int .i64 c0, .int .i64 c1, .int .i64 c2, .int .i64 c3, .int .i64 c4, .int .i64 c5, .bool false], .int .i64 got, .bool is] w
      (DoneV w { (⟨k, c0, c1, c2, c3, c4, c5, false⟩ : St).put a v with pc := nextPc ⟨k, c0, c1, c2, c3, c4, c5, false⟩ n } (-1)) := by
  obtain ⟨q1, q2, g0, g1, g2⟩ := h
  have hlt := cell_lt g0
  have hnx : ((k : Int) + 1).tmod (n : Int) = nextPc ⟨k, c0, c1, c2, c3, c4, c5, false⟩ n := Int.tmod_eq_emod_of_nonneg (by omega)
  have hn0 : ((n : Int) == 0) = false := by simp; omega
  generalize nextPc ⟨k, c0, c1, c2, c3, c4, c5, false⟩ n = nx at hnx ⊢
  have HXG := hid hxg
  have HYG := hid hyg
  have HM : Hid ((x + y).tmod 1000 = v) := by rw [← hv]; exact Int.tmod_eq_emod_of_nonneg (by omega)
  clear hxg hyg hv
  obtain ⟨t, ht⟩ : ∃ t, t = (⟨k, c0, c1, c2, c3, c4, c5, false⟩ : St).put a v := ⟨_, rfl⟩
  rw [← ht]
  have HT := hid ht
  clear ht
  go_enter Tryz.func111, Tryz.ntmps111
  go_upto_region 6 with fail
  have hx := do_at w k c0 c1 c2 c3 c4 c5 3 a b
  obtain ⟨wx, hwx⟩ : ∃ wx, wx = (((w.alloc (.cells #[.int .i64 k, .int .i64 c0, .int .i64 c1, .int .i64 c2, .int .i64 c3, .int .i64 c4, .int .i64 c5, .bool false] 81)).alloc (.cells #[.int .i64 0, .int .i64 0, .int .i64 0, .int .i64 0, .int .i64 0, .int .i64 0, .int .i64 0, .bool false] 81)).alloc (.cells #[.int .i64 3, .int .i64 a, .int .i64 b] 72)) := ⟨_, rfl⟩
  rw [← hwx] at hx ⊢
  clear hwx g0 g1 g2 hnx hn0
  have HX := hid hx
  obtain ⟨b0, b1, o0, o1, o2, hb⟩ := hx
  have ca := (blk_cell b0 (1 + a)).trans (stV_get _ ha)
  have fa := blk_free b0 (1 + a)
  have cb := (blk_cell b0 (1 + b)).trans (stV_get _ hbb)
  rw [HXG.out] at ca
  rw [HYG.out] at cb
  have e1 : IntKind.i64.wrap (x + y) = x + y := IntWalk.i64_in _ (by omega)
  have e2 : (x + y).tmod 1000 = v := HM.out
  clear b0 b1 hb
  go_upto_region 12 with fail
  go_region
  all_goals go_upto_region 30 with fail
  all_goals
    have hy := (HX.out.put ha v).drew
    obtain ⟨wy, hwy⟩ : ∃ wy, wy = (wx.setCell ⟨w.heap.size, 1 + a, none⟩ (.int .i64 v)).drew := ⟨_, rfl⟩
    rw [← hwy] at hy ⊢
    rw [← HT.out] at hy
    have HY := hid hy
    obtain ⟨⟨p0, p1, p2, p3, p4, p5, p6, p7⟩, p8, ⟨r0, r1, r2, r3, r4, r5, r6, r7⟩, p10⟩ := hy.facts
    clear hy hwy HX o0 o1 o2 HT
    go_wp2_with fail
    have hz := HY.out.fin (nx)
    obtain ⟨wz, hwz⟩ : ∃ wz, wz = put8 (wy.setCell ⟨w.heap.size, 0, none⟩ (.int .i64 (nx))) (w.heap.size + 1) { t with pc := nx } := ⟨_, rfl⟩
    rw [← hwz] at hz
    unfold put8 at hwz
    rw [← hwz]
    obtain ⟨⟨z0, z1, z2, z3, z4, z5, z6, z7⟩, zb⟩ := hz
    clear hwz p0 p1 p2 p3 p4 p5 p6 p7 p8 r0 r1 r2 r3 r4 r5 r6 r7 p10
    refine bodyPost_ret (v := .tuple #[.agg (stV { t with pc := nx }), .int .i64 (-1)]) (by simp [results, Tryz.results111, go_sem, stV, z0, z1, z2, z3, z4, z5, z6, z7]) rfl ?_
    exact ⟨rfl, zb⟩

set_option maxHeartbeats 1000000 in
theorem do_sub (ob off n c k : Nat) (c0 c1 c2 c3 c4 c5 : Int) (got : Int) (a b : Nat) (x y v : Int) (is : Bool) (w : World) (ha : a < 6) (hbb : b < 6) (hxg : (⟨k, c0, c1, c2, c3, c4, c5, false⟩ : St).get a = x) (hyg : (⟨k, c0, c1, c2, c3, c4, c5, false⟩ : St).get b = y) (hx0 : 0 ≤ x ∧ x < 1000) (hy0 : 0 ≤ y ∧ y < 1000) (hv : (x - y + 1000) % 1000 = v) (h : DoHyp w ob off n k 4 a b) :
    Calls Tryz.prog 111 #[.slice (some ⟨ob, off, none⟩) n c, .agg #[.int .i64 k, .int .i64 c0, .int .i64 c1, .int .i64 c2, .int .i64 c3, .int .i64 c4, .int .i64 c5, .bool false], .int .i64 got, .bool is] w
      (DoneV w { (⟨k, c0, c1, c2, c3, c4, c5, false⟩ : St).put a v with pc := nextPc ⟨k, c0, c1, c2, c3, c4, c5, false⟩ n } (-1)) := by
  obtain ⟨q1, q2, g0, g1, g2⟩ := h
  have hlt := cell_lt g0
  have hnx : ((k : Int) + 1).tmod (n : Int) = nextPc ⟨k, c0, c1, c2, c3, c4, c5, false⟩ n := Int.tmod_eq_emod_of_nonneg (by omega)
  have hn0 : ((n : Int) == 0) = false := by simp; omega
  generalize nextPc ⟨k, c0, c1, c2, c3, c4, c5, false⟩ n = nx at hnx ⊢
  have HXG := hid hxg
  have HYG := hid hyg
  have HM : Hid ((x - y + 1000).tmod 1000 = v) := by rw [← hv]; exact Int.tmod_eq_emod_of_nonneg (by omega)
  clear hxg hyg hv
  obtain ⟨t, ht⟩ : ∃ t, t = (⟨k, c0, c1, c2, c3, c4, c5, false⟩ : St).put a v := ⟨_, rfl⟩
  rw [← ht]
  have HT := hid ht
  clear ht
  go_enter Tryz.func111, Tryz.ntmps111
  go_upto_region 6 with fail
  have hx := do_at w k c0 c1 c2 c3 c4 c5 4 a b
  obtain ⟨wx, hwx⟩ : ∃ wx, wx = (((w.alloc (.cells #[.int .i64 k, .int .i64 c0, .int .i64 c1, .int .i64 c2, .int .i64 c3, .int .i64 c4, .int .i64 c5, .bool false] 81)).alloc (.cells #[.int .i64 0, .int .i64 0, .int .i64 0, .int .i64 0, .int .i64 0, .int .i64 0, .int .i64 0, .bool false] 81)).alloc (.cells #[.int .i64 4, .int .i64 a, .int .i64 b] 72)) := ⟨_, rfl⟩
  rw [← hwx] at hx ⊢
  clear hwx g0 g1 g2 hnx hn0
  have HX := hid hx
  obtain ⟨b0, b1, o0, o1, o2, hb⟩ := hx
  have ca := (blk_cell b0 (1 + a)).trans (stV_get _ ha)
  have fa := blk_free b0 (1 + a)
  have cb := (blk_cell b0 (1 + b)).trans (stV_get _ hbb)
  rw [HXG.out] at ca
  rw [HYG.out] at cb
  have e0 : IntKind.i64.wrap (x - y) = x - y := IntWalk.i64_in _ (by omega)
  have e1 : IntKind.i64.wrap (x - y + 1000) = x - y + 1000 := IntWalk.i64_in _ (by omega)
  have e2 : (x - y + 1000).tmod 1000 = v := HM.out
  clear b0 b1 hb
  go_upto_region 14 with fail
  go_region
  all_goals go_upto_region 30 with fail
  all_goals
    have hy := (HX.out.put ha v).drew
    obtain ⟨wy, hwy⟩ : ∃ wy, wy = (wx.setCell ⟨w.heap.size, 1 + a, none⟩ (.int .i64 v)).drew := ⟨_, rfl⟩
    rw [← hwy] at hy ⊢
    rw [← HT.out] at hy
    have HY := hid hy
    obtain ⟨⟨p0, p1, p2, p3, p4, p5, p6, p7⟩, p8, ⟨r0, r1, r2, r3, r4, r5, r6, r7⟩, p10⟩ := hy.facts
    clear hy hwy HX o0 o1 o2 HT
    go_wp2_with fail
    have hz := HY.out.fin (nx)
    obtain ⟨wz, hwz⟩ : ∃ wz, wz = put8 (wy.setCell ⟨w.heap.size, 0, none⟩ (.int .i64 (nx))) (w.heap.size + 1) { t with pc := nx } := ⟨_, rfl⟩
    rw [← hwz] at hz
    unfold put8 at hwz
    rw [← hwz]
    obtain ⟨⟨z0, z1, z2, z3, z4, z5, z6, z7⟩, zb⟩ := hz
    clear hwz p0 p1 p2 p3 p4 p5 p6 p7 p8 r0 r1 r2 r3 r4 r5 r6 r7 p10
    refine bodyPost_ret (v := .tuple #[.agg (stV { t with pc := nx }), .int .i64 (-1)]) (by simp [results, Tryz.results111, go_sem, stV, z0, z1, z2, z3, z4, z5, z6, z7]) rfl ?_
    exact ⟨rfl, zb⟩

set_option maxHeartbeats 1000000 in
theorem do_mul (ob off n c k : Nat) (c0 c1 c2 c3 c4 c5 : Int) (got : Int) (a b : Nat) (x y v : Int) (is : Bool) (w : World) (ha : a < 6) (hbb : b < 6) (hxg : (⟨k, c0, c1, c2, c3, c4, c5, false⟩ : St).get a = x) (hyg : (⟨k, c0, c1, c2, c3, c4, c5, false⟩ : St).get b = y) (hx0 : 0 ≤ x ∧ x < 1000) (hy0 : 0 ≤ y ∧ y < 1000) (hv : (x * y) % 1000 = v) (h : DoHyp w ob off n k 5 a b) :
    Calls Tryz.prog 111 #[.slice (some ⟨ob, off, none⟩) n c, .agg #[.int .i64 k, .int .i64 c0, .int .i64 c1, .int .i64 c2, .int .i64 c3, .int .i64 c4, .int .i64 c5, .bool false], .int .i64 got, .bool is] w
      (DoneV w { (⟨k, c0, c1, c2, c3, c4, c5, false⟩ : St).put a v with pc := nextPc ⟨k, c0, c1, c2, c3, c4, c5, false⟩ n } (-1)) := by
  obtain ⟨q1, q2, g0, g1, g2⟩ := h
  have hlt := cell_lt g0
  have hnx : ((k : Int) + 1).tmod (n : Int) = nextPc ⟨k, c0, c1, c2, c3, c4, c5, false⟩ n := Int.tmod_eq_emod_of_nonneg (by omega)
  have hn0 : ((n : Int) == 0) = false := by simp; omega
  generalize nextPc ⟨k, c0, c1, c2, c3, c4, c5, false⟩ n = nx at hnx ⊢
  have HXG := hid hxg
  have HYG := hid hyg
  have HM : Hid ((x * y).tmod 1000 = v) := by rw [← hv]; exact Int.tmod_eq_emod_of_nonneg (by exact Int.mul_nonneg hx0.1 hy0.1)
  clear hxg hyg hv
  obtain ⟨t, ht⟩ : ∃ t, t = (⟨k, c0, c1, c2, c3, c4, c5, false⟩ : St).put a v := ⟨_, rfl⟩
  rw [← ht]
  have HT := hid ht
  clear ht
  go_enter Tryz.func111, Tryz.ntmps111
  go_upto_region 6 with fail
  have hx := do_at w k c0 c1 c2 c3 c4 c5 5 a b
  obtain ⟨wx, hwx⟩ : ∃ wx, wx = (((w.alloc (.cells #[.int .i64 k, .int .i64 c0, .int .i64 c1, .int .i64 c2, .int .i64 c3, .int .i64 c4, .int .i64 c5, .bool false] 81)).alloc (.cells #[.int .i64 0, .int .i64 0, .int .i64 0, .int .i64 0, .int .i64 0, .int .i64 0, .int .i64 0, .bool false] 81)).alloc (.cells #[.int .i64 5, .int .i64 a, .int .i64 b] 72)) := ⟨_, rfl⟩
  rw [← hwx] at hx ⊢
  clear hwx g0 g1 g2 hnx hn0
  have HX := hid hx
  obtain ⟨b0, b1, o0, o1, o2, hb⟩ := hx
  have ca := (blk_cell b0 (1 + a)).trans (stV_get _ ha)
  have fa := blk_free b0 (1 + a)
  have cb := (blk_cell b0 (1 + b)).trans (stV_get _ hbb)
  rw [HXG.out] at ca
  rw [HYG.out] at cb
  have m0 : 0 ≤ x * y := Int.mul_nonneg hx0.1 hy0.1
  have m1 : x * y ≤ 1000 * 1000 := Int.mul_le_mul (by omega) (by omega) hy0.1 (by omega)
  have e1 : IntKind.i64.wrap (x * y) = x * y := IntWalk.i64_in _ (by omega)
  have e2 : (x * y).tmod 1000 = v := HM.out
  clear b0 b1 hb
  go_upto_region 16 with fail
  go_region
  all_goals go_upto_region 30 with fail
  all_goals
    have hy := (HX.out.put ha v).drew
    obtain ⟨wy, hwy⟩ : ∃ wy, wy = (wx.setCell ⟨w.heap.size, 1 + a, none⟩ (.int .i64 v)).drew := ⟨_, rfl⟩
    rw [← hwy] at hy ⊢
    rw [← HT.out] at hy
    have HY := hid hy
    obtain ⟨⟨p0, p1, p2, p3, p4, p5, p6, p7⟩, p8, ⟨r0, r1, r2, r3, r4, r5, r6, r7⟩, p10⟩ := hy.facts
    clear hy hwy HX o0 o1 o2 HT
    go_wp2_with fail
    have hz := HY.out.fin (nx)
    obtain ⟨wz, hwz⟩ : ∃ wz, wz = put8 (wy.setCell ⟨w.heap.size, 0, none⟩ (.int .i64 (nx))) (w.heap.size + 1) { t with pc := nx } := ⟨_, rfl⟩
    rw [← hwz] at hz
    unfold put8 at hwz
    rw [← hwz]
    obtain ⟨⟨z0, z1, z2, z3, z4, z5, z6, z7⟩, zb⟩ := hz
    clear hwz p0 p1 p2 p3 p4 p5 p6 p7 p8 r0 r1 r2 r3 r4 r5 r6 r7 p10
    refine bodyPost_ret (v := .tuple #[.agg (stV { t with pc := nx }), .int .i64 (-1)]) (by simp [results, Tryz.results111, go_sem, stV, z0, z1, z2, z3, z4, z5, z6, z7]) rfl ?_
    exact ⟨rfl, zb⟩

set_option maxHeartbeats 1000000 in
theorem do_jump (ob off n c k : Nat) (c0 c1 c2 c3 c4 c5 : Int) (got : Int) (a : Int) (b : Int) (is : Bool) (w : World)  (h : DoHyp w ob off n k 7 a b) :
    Calls Tryz.prog 111 #[.slice (some ⟨ob, off, none⟩) n c, .agg #[.int .i64 k, .int .i64 c0, .int .i64 c1, .int .i64 c2, .int .i64 c3, .int .i64 c4, .int .i64 c5, .bool false], .int .i64 got, .bool is] w
      (DoneV w { (⟨k, c0, c1, c2, c3, c4, c5, false⟩ : St) with pc := b } (-1)) := by
  obtain ⟨q1, q2, g0, g1, g2⟩ := h
  have hlt := cell_lt g0
  have hnx : ((k : Int) + 1).tmod (n : Int) = nextPc ⟨k, c0, c1, c2, c3, c4, c5, false⟩ n := Int.tmod_eq_emod_of_nonneg (by omega)
  have hn0 : ((n : Int) == 0) = false := by simp; omega
  generalize nextPc ⟨k, c0, c1, c2, c3, c4, c5, false⟩ n = ny at hnx
  obtain ⟨t, ht⟩ : ∃ t, t = (⟨k, c0, c1, c2, c3, c4, c5, false⟩ : St) := ⟨_, rfl⟩
  rw [show ({ (⟨k, c0, c1, c2, c3, c4, c5, false⟩ : St) with pc := b } : St) = { t with pc := b } by rw [ht]]
  have HT := hid ht
  clear ht
  go_enter Tryz.func111, Tryz.ntmps111
  go_upto_region 6 with fail
  have hx := do_at w k c0 c1 c2 c3 c4 c5 7 a b
  obtain ⟨wx, hwx⟩ : ∃ wx, wx = (((w.alloc (.cells #[.int .i64 k, .int .i64 c0, .int .i64 c1, .int .i64 c2, .int .i64 c3, .int .i64 c4, .int .i64 c5, .bool false] 81)).alloc (.cells #[.int .i64 0, .int .i64 0, .int .i64 0, .int .i64 0, .int .i64 0, .int .i64 0, .int .i64 0, .bool false] 81)).alloc (.cells #[.int .i64 7, .int .i64 a, .int .i64 b] 72)) := ⟨_, rfl⟩
  rw [← hwx] at hx ⊢
  clear hwx g0 g1 g2 hnx hn0
  have HX := hid hx
  obtain ⟨b0, b1, o0, o1, o2, hb⟩ := hx
  clear b0 b1 hb
  go_upto_region 30 with fail
  all_goals
    have hy := HX.out.stay
    obtain ⟨wy, hwy⟩ : ∃ wy, wy = wx := ⟨_, rfl⟩
    rw [← hwy] at hy ⊢
    rw [← HT.out] at hy
    have HY := hid hy
    obtain ⟨⟨p0, p1, p2, p3, p4, p5, p6, p7⟩, p8, ⟨r0, r1, r2, r3, r4, r5, r6, r7⟩, p10⟩ := hy.facts
    clear hy hwy HX o0 o1 o2 HT
    go_wp2_with fail
    have hz := HY.out.fin (b)
    obtain ⟨wz, hwz⟩ : ∃ wz, wz = put8 (wy.setCell ⟨w.heap.size, 0, none⟩ (.int .i64 (b))) (w.heap.size + 1) { t with pc := b } := ⟨_, rfl⟩
    rw [← hwz] at hz
    unfold put8 at hwz
    rw [← hwz]
    obtain ⟨⟨z0, z1, z2, z3, z4, z5, z6, z7⟩, zb⟩ := hz
    clear hwz p0 p1 p2 p3 p4 p5 p6 p7 p8 r0 r1 r2 r3 r4 r5 r6 r7 p10
    refine bodyPost_ret (v := .tuple #[.agg (stV { t with pc := b }), .int .i64 (-1)]) (by simp [results, Tryz.results111, go_sem, stV, z0, z1, z2, z3, z4, z5, z6, z7]) rfl ?_
    exact ⟨rfl, zb⟩

set_option maxHeartbeats 1000000 in
theorem do_rest (ob off n c k : Nat) (c0 c1 c2 c3 c4 c5 : Int) (got : Int) (a : Int) (b : Int) (is : Bool) (w : World)  (h : DoHyp w ob off n k 10 a b) :
    Calls Tryz.prog 111 #[.slice (some ⟨ob, off, none⟩) n c, .agg #[.int .i64 k, .int .i64 c0, .int .i64 c1, .int .i64 c2, .int .i64 c3, .int .i64 c4, .int .i64 c5, .bool false], .int .i64 got, .bool is] w
      (DoneV w { (⟨k, c0, c1, c2, c3, c4, c5, false⟩ : St) with pc := nextPc ⟨k, c0, c1, c2, c3, c4, c5, false⟩ n } (-1)) := by
  obtain ⟨q1, q2, g0, g1, g2⟩ := h
  have hlt := cell_lt g0
  have hnx : ((k : Int) + 1).tmod (n : Int) = nextPc ⟨k, c0, c1, c2, c3, c4, c5, false⟩ n := Int.tmod_eq_emod_of_nonneg (by omega)
  have hn0 : ((n : Int) == 0) = false := by simp; omega
  generalize nextPc ⟨k, c0, c1, c2, c3, c4, c5, false⟩ n = nx at hnx ⊢
  obtain ⟨t, ht⟩ : ∃ t, t = (⟨k, c0, c1, c2, c3, c4, c5, false⟩ : St) := ⟨_, rfl⟩
  rw [← ht]
  have HT := hid ht
  clear ht
  go_enter Tryz.func111, Tryz.ntmps111
  go_upto_region 6 with fail
  have hx := do_at w k c0 c1 c2 c3 c4 c5 10 a b
  obtain ⟨wx, hwx⟩ : ∃ wx, wx = (((w.alloc (.cells #[.int .i64 k, .int .i64 c0, .int .i64 c1, .int .i64 c2, .int .i64 c3, .int .i64 c4, .int .i64 c5, .bool false] 81)).alloc (.cells #[.int .i64 0, .int .i64 0, .int .i64 0, .int .i64 0, .int .i64 0, .int .i64 0, .int .i64 0, .bool false] 81)).alloc (.cells #[.int .i64 10, .int .i64 a, .int .i64 b] 72)) := ⟨_, rfl⟩
  rw [← hwx] at hx ⊢
  clear hwx g0 g1 g2 hnx hn0
  have HX := hid hx
  obtain ⟨b0, b1, o0, o1, o2, hb⟩ := hx
  clear b0 b1 hb
  go_upto_region 30 with fail
  all_goals
    have hy := HX.out.stay
    obtain ⟨wy, hwy⟩ : ∃ wy, wy = wx := ⟨_, rfl⟩
    rw [← hwy] at hy ⊢
    rw [← HT.out] at hy
    have HY := hid hy
    obtain ⟨⟨p0, p1, p2, p3, p4, p5, p6, p7⟩, p8, ⟨r0, r1, r2, r3, r4, r5, r6, r7⟩, p10⟩ := hy.facts
    clear hy hwy HX o0 o1 o2 HT
    go_wp2_with fail
    have hz := HY.out.fin (nx)
    obtain ⟨wz, hwz⟩ : ∃ wz, wz = put8 (wy.setCell ⟨w.heap.size, 0, none⟩ (.int .i64 (nx))) (w.heap.size + 1) { t with pc := nx } := ⟨_, rfl⟩
    rw [← hwz] at hz
    unfold put8 at hwz
    rw [← hwz]
    obtain ⟨⟨z0, z1, z2, z3, z4, z5, z6, z7⟩, zb⟩ := hz
    clear hwz p0 p1 p2 p3 p4 p5 p6 p7 p8 r0 r1 r2 r3 r4 r5 r6 r7 p10
    refine bodyPost_ret (v := .tuple #[.agg (stV { t with pc := nx }), .int .i64 (-1)]) (by simp [results, Tryz.results111, go_sem, stV, z0, z1, z2, z3, z4, z5, z6, z7]) rfl ?_
    exact ⟨rfl, zb⟩

set_option maxHeartbeats 1000000 in
theorem do_zero (ob off n c k : Nat) (c0 c1 c2 c3 c4 c5 : Int) (got : Int) (a : Nat) (b : Int) (is : Bool) (w : World) (ha : a < 6) (hxg : (⟨k, c0, c1, c2, c3, c4, c5, false⟩ : St).get a = 0) (h : DoHyp w ob off n k 6 a b) :
    Calls Tryz.prog 111 #[.slice (some ⟨ob, off, none⟩) n c, .agg #[.int .i64 k, .int .i64 c0, .int .i64 c1, .int .i64 c2, .int .i64 c3, .int .i64 c4, .int .i64 c5, .bool false], .int .i64 got, .bool is] w
      (DoneV w { (⟨k, c0, c1, c2, c3, c4, c5, false⟩ : St) with pc := b } (-1)) := by
  obtain ⟨q1, q2, g0, g1, g2⟩ := h
  have hlt := cell_lt g0
  have hnx : ((k : Int) + 1).tmod (n : Int) = nextPc ⟨k, c0, c1, c2, c3, c4, c5, false⟩ n := Int.tmod_eq_emod_of_nonneg (by omega)
  have hn0 : ((n : Int) == 0) = false := by simp; omega
  generalize nextPc ⟨k, c0, c1, c2, c3, c4, c5, false⟩ n = ny at hnx
  have HXG := hid hxg
  clear hxg
  obtain ⟨t, ht⟩ : ∃ t, t = (⟨k, c0, c1, c2, c3, c4, c5, false⟩ : St) := ⟨_, rfl⟩
  rw [show ({ (⟨k, c0, c1, c2, c3, c4, c5, false⟩ : St) with pc := b } : St) = { t with pc := b } by rw [ht]]
  have HT := hid ht
  clear ht
  go_enter Tryz.func111, Tryz.ntmps111
  go_upto_region 6 with fail
  have hx := do_at w k c0 c1 c2 c3 c4 c5 6 a b
  obtain ⟨wx, hwx⟩ : ∃ wx, wx = (((w.alloc (.cells #[.int .i64 k, .int .i64 c0, .int .i64 c1, .int .i64 c2, .int .i64 c3, .int .i64 c4, .int .i64 c5, .bool false] 81)).alloc (.cells #[.int .i64 0, .int .i64 0, .int .i64 0, .int .i64 0, .int .i64 0, .int .i64 0, .int .i64 0, .bool false] 81)).alloc (.cells #[.int .i64 6, .int .i64 a, .int .i64 b] 72)) := ⟨_, rfl⟩
  rw [← hwx] at hx ⊢
  clear hwx g0 g1 g2 hnx hn0
  have HX := hid hx
  obtain ⟨b0, b1, o0, o1, o2, hb⟩ := hx
  have ca := (blk_cell b0 (1 + a)).trans (stV_get _ ha)
  have fa := blk_free b0 (1 + a)
  rw [HXG.out] at ca
  clear b0 b1 hb
  go_upto_region 30 with fail
  all_goals
    have hy := HX.out.stay
    obtain ⟨wy, hwy⟩ : ∃ wy, wy = wx := ⟨_, rfl⟩
    rw [← hwy] at hy ⊢
    rw [← HT.out] at hy
    have HY := hid hy
    obtain ⟨⟨p0, p1, p2, p3, p4, p5, p6, p7⟩, p8, ⟨r0, r1, r2, r3, r4, r5, r6, r7⟩, p10⟩ := hy.facts
    clear hy hwy HX o0 o1 o2 HT
    go_wp2_with fail
    have hz := HY.out.fin (b)
    obtain ⟨wz, hwz⟩ : ∃ wz, wz = put8 (wy.setCell ⟨w.heap.size, 0, none⟩ (.int .i64 (b))) (w.heap.size + 1) { t with pc := b } := ⟨_, rfl⟩
    rw [← hwz] at hz
    unfold put8 at hwz
    rw [← hwz]
    obtain ⟨⟨z0, z1, z2, z3, z4, z5, z6, z7⟩, zb⟩ := hz
    clear hwz p0 p1 p2 p3 p4 p5 p6 p7 p8 r0 r1 r2 r3 r4 r5 r6 r7 p10
    refine bodyPost_ret (v := .tuple #[.agg (stV { t with pc := b }), .int .i64 (-1)]) (by simp [results, Tryz.results111, go_sem, stV, z0, z1, z2, z3, z4, z5, z6, z7]) rfl ?_
    exact ⟨rfl, zb⟩

set_option maxHeartbeats 1000000 in
theorem do_nonzero (ob off n c k : Nat) (c0 c1 c2 c3 c4 c5 : Int) (got : Int) (a : Nat) (b : Int) (x : Int) (is : Bool) (w : World) (ha : a < 6) (hxg : (⟨k, c0, c1, c2, c3, c4, c5, false⟩ : St).get a = x) (hx0 : (x == 0) = false) (h : DoHyp w ob off n k 6 a b) :
    Calls Tryz.prog 111 #[.slice (some ⟨ob, off, none⟩) n c, .agg #[.int .i64 k, .int .i64 c0, .int .i64 c1, .int .i64 c2, .int .i64 c3, .int .i64 c4, .int .i64 c5, .bool false], .int .i64 got, .bool is] w
      (DoneV w { (⟨k, c0, c1, c2, c3, c4, c5, false⟩ : St) with pc := nextPc ⟨k, c0, c1, c2, c3, c4, c5, false⟩ n } (-1)) := by
  obtain ⟨q1, q2, g0, g1, g2⟩ := h
  have hlt := cell_lt g0
  have hnx : ((k : Int) + 1).tmod (n : Int) = nextPc ⟨k, c0, c1, c2, c3, c4, c5, false⟩ n := Int.tmod_eq_emod_of_nonneg (by omega)
  have hn0 : ((n : Int) == 0) = false := by simp; omega
  generalize nextPc ⟨k, c0, c1, c2, c3, c4, c5, false⟩ n = nx at hnx ⊢
  have HXG := hid hxg
  clear hxg
  obtain ⟨t, ht⟩ : ∃ t, t = (⟨k, c0, c1, c2, c3, c4, c5, false⟩ : St) := ⟨_, rfl⟩
  rw [← ht]
  have HT := hid ht
  clear ht
  go_enter Tryz.func111, Tryz.ntmps111
  go_upto_region 6 with fail
  have hx := do_at w k c0 c1 c2 c3 c4 c5 6 a b
  obtain ⟨wx, hwx⟩ : ∃ wx, wx = (((w.alloc (.cells #[.int .i64 k, .int .i64 c0, .int .i64 c1, .int .i64 c2, .int .i64 c3, .int .i64 c4, .int .i64 c5, .bool false] 81)).alloc (.cells #[.int .i64 0, .int .i64 0, .int .i64 0, .int .i64 0, .int .i64 0, .int .i64 0, .int .i64 0, .bool false] 81)).alloc (.cells #[.int .i64 6, .int .i64 a, .int .i64 b] 72)) := ⟨_, rfl⟩
  rw [← hwx] at hx ⊢
  clear hwx g0 g1 g2 hnx hn0
  have HX := hid hx
  obtain ⟨b0, b1, o0, o1, o2, hb⟩ := hx
  have ca := (blk_cell b0 (1 + a)).trans (stV_get _ ha)
  have fa := blk_free b0 (1 + a)
  rw [HXG.out] at ca
  clear b0 b1 hb
  go_upto_region 30 with fail
  all_goals
    have hy := HX.out.stay
    obtain ⟨wy, hwy⟩ : ∃ wy, wy = wx := ⟨_, rfl⟩
    rw [← hwy] at hy ⊢
    rw [← HT.out] at hy
    have HY := hid hy
    obtain ⟨⟨p0, p1, p2, p3, p4, p5, p6, p7⟩, p8, ⟨r0, r1, r2, r3, r4, r5, r6, r7⟩, p10⟩ := hy.facts
    clear hy hwy HX o0 o1 o2 HT
    go_wp2_with fail
    have hz := HY.out.fin (nx)
    obtain ⟨wz, hwz⟩ : ∃ wz, wz = put8 (wy.setCell ⟨w.heap.size, 0, none⟩ (.int .i64 (nx))) (w.heap.size + 1) { t with pc := nx } := ⟨_, rfl⟩
    rw [← hwz] at hz
    unfold put8 at hwz
    rw [← hwz]
    obtain ⟨⟨z0, z1, z2, z3, z4, z5, z6, z7⟩, zb⟩ := hz
    clear hwz p0 p1 p2 p3 p4 p5 p6 p7 p8 r0 r1 r2 r3 r4 r5 r6 r7 p10
    refine bodyPost_ret (v := .tuple #[.agg (stV { t with pc := nx }), .int .i64 (-1)]) (by simp [results, Tryz.results111, go_sem, stV, z0, z1, z2, z3, z4, z5, z6, z7]) rfl ?_
    exact ⟨rfl, zb⟩

set_option maxHeartbeats 1000000 in
theorem do_send (ob off n c k : Nat) (c0 c1 c2 c3 c4 c5 : Int) (got : Int) (a : Nat) (b : Int) (sx : Int) (is : Bool) (w : World) (ha : a < 6) (hxg : (⟨k, c0, c1, c2, c3, c4, c5, false⟩ : St).get a = sx) (h : DoHyp w ob off n k 8 a b) :
    Calls Tryz.prog 111 #[.slice (some ⟨ob, off, none⟩) n c, .agg #[.int .i64 k, .int .i64 c0, .int .i64 c1, .int .i64 c2, .int .i64 c3, .int .i64 c4, .int .i64 c5, .bool false], .int .i64 got, .bool is] w
      (DoneV w { (⟨k, c0, c1, c2, c3, c4, c5, false⟩ : St) with pc := nextPc ⟨k, c0, c1, c2, c3, c4, c5, false⟩ n } (sx)) := by
  obtain ⟨q1, q2, g0, g1, g2⟩ := h
  have hlt := cell_lt g0
  have hnx : ((k : Int) + 1).tmod (n : Int) = nextPc ⟨k, c0, c1, c2, c3, c4, c5, false⟩ n := Int.tmod_eq_emod_of_nonneg (by omega)
  have hn0 : ((n : Int) == 0) = false := by simp; omega
  generalize nextPc ⟨k, c0, c1, c2, c3, c4, c5, false⟩ n = nx at hnx ⊢
  have HXG := hid hxg
  clear hxg
  obtain ⟨t, ht⟩ : ∃ t, t = (⟨k, c0, c1, c2, c3, c4, c5, false⟩ : St) := ⟨_, rfl⟩
  rw [← ht]
  have HT := hid ht
  clear ht
  go_enter Tryz.func111, Tryz.ntmps111
  go_upto_region 6 with fail
  have hx := do_at w k c0 c1 c2 c3 c4 c5 8 a b
  obtain ⟨wx, hwx⟩ : ∃ wx, wx = (((w.alloc (.cells #[.int .i64 k, .int .i64 c0, .int .i64 c1, .int .i64 c2, .int .i64 c3, .int .i64 c4, .int .i64 c5, .bool false] 81)).alloc (.cells #[.int .i64 0, .int .i64 0, .int .i64 0, .int .i64 0, .int .i64 0, .int .i64 0, .int .i64 0, .bool false] 81)).alloc (.cells #[.int .i64 8, .int .i64 a, .int .i64 b] 72)) := ⟨_, rfl⟩
  rw [← hwx] at hx ⊢
  clear hwx g0 g1 g2 hnx hn0
  have HX := hid hx
  obtain ⟨b0, b1, o0, o1, o2, hb⟩ := hx
  have ca := (blk_cell b0 (1 + a)).trans (stV_get _ ha)
  have fa := blk_free b0 (1 + a)
  rw [HXG.out] at ca
  clear b0 b1 hb
  go_upto_region 30 with fail
  all_goals
    have hy := HX.out.stay
    obtain ⟨wy, hwy⟩ : ∃ wy, wy = wx := ⟨_, rfl⟩
    rw [← hwy] at hy ⊢
    rw [← HT.out] at hy
    have HY := hid hy
    obtain ⟨⟨p0, p1, p2, p3, p4, p5, p6, p7⟩, p8, ⟨r0, r1, r2, r3, r4, r5, r6, r7⟩, p10⟩ := hy.facts
    clear hy hwy HX o0 o1 o2 HT
    go_wp2_with fail
    have hz := HY.out.fin (nx)
    obtain ⟨wz, hwz⟩ : ∃ wz, wz = put8 (wy.setCell ⟨w.heap.size, 0, none⟩ (.int .i64 (nx))) (w.heap.size + 1) { t with pc := nx } := ⟨_, rfl⟩
    rw [← hwz] at hz
    unfold put8 at hwz
    rw [← hwz]
    obtain ⟨⟨z0, z1, z2, z3, z4, z5, z6, z7⟩, zb⟩ := hz
    clear hwz p0 p1 p2 p3 p4 p5 p6 p7 p8 r0 r1 r2 r3 r4 r5 r6 r7 p10
    refine bodyPost_ret (v := .tuple #[.agg (stV { t with pc := nx }), .int .i64 (sx)]) (by simp [results, Tryz.results111, go_sem, stV, z0, z1, z2, z3, z4, z5, z6, z7]) rfl ?_
    exact ⟨rfl, zb⟩

set_option maxHeartbeats 1000000 in
theorem do_wait (ob off n c k : Nat) (c0 c1 c2 c3 c4 c5 : Int) (got : Int) (a : Int) (b : Int) (w : World)  (h : DoHyp w ob off n k 9 a b) :
    Calls Tryz.prog 111 #[.slice (some ⟨ob, off, none⟩) n c, .agg #[.int .i64 k, .int .i64 c0, .int .i64 c1, .int .i64 c2, .int .i64 c3, .int .i64 c4, .int .i64 c5, .bool false], .int .i64 got, .bool false] w
      (DoneV w { (⟨k, c0, c1, c2, c3, c4, c5, false⟩ : St) with pc := (k : Int) } (-1)) := by
  obtain ⟨q1, q2, g0, g1, g2⟩ := h
  have hlt := cell_lt g0
  have hnx : ((k : Int) + 1).tmod (n : Int) = nextPc ⟨k, c0, c1, c2, c3, c4, c5, false⟩ n := Int.tmod_eq_emod_of_nonneg (by omega)
  have hn0 : ((n : Int) == 0) = false := by simp; omega
  generalize nextPc ⟨k, c0, c1, c2, c3, c4, c5, false⟩ n = ny at hnx
  obtain ⟨t, ht⟩ : ∃ t, t = (⟨k, c0, c1, c2, c3, c4, c5, false⟩ : St) := ⟨_, rfl⟩
  rw [show ({ (⟨k, c0, c1, c2, c3, c4, c5, false⟩ : St) with pc := (k : Int) } : St) = { t with pc := (k : Int) } by rw [ht]]
  have HT := hid ht
  clear ht
  go_enter Tryz.func111, Tryz.ntmps111
  go_upto_region 6 with fail
  have hx := do_at w k c0 c1 c2 c3 c4 c5 9 a b
  obtain ⟨wx, hwx⟩ : ∃ wx, wx = (((w.alloc (.cells #[.int .i64 k, .int .i64 c0, .int .i64 c1, .int .i64 c2, .int .i64 c3, .int .i64 c4, .int .i64 c5, .bool false] 81)).alloc (.cells #[.int .i64 0, .int .i64 0, .int .i64 0, .int .i64 0, .int .i64 0, .int .i64 0, .int .i64 0, .bool false] 81)).alloc (.cells #[.int .i64 9, .int .i64 a, .int .i64 b] 72)) := ⟨_, rfl⟩
  rw [← hwx] at hx ⊢
  clear hwx g0 g1 g2 hnx hn0
  have HX := hid hx
  obtain ⟨b0, b1, o0, o1, o2, hb⟩ := hx
  have cp := blk_cell b0 0
  simp [stV] at cp
  clear b0 b1 hb
  go_upto_region 30 with fail
  all_goals
    have hy := HX.out.stay
    obtain ⟨wy, hwy⟩ : ∃ wy, wy = wx := ⟨_, rfl⟩
    rw [← hwy] at hy ⊢
    rw [← HT.out] at hy
    have HY := hid hy
    obtain ⟨⟨p0, p1, p2, p3, p4, p5, p6, p7⟩, p8, ⟨r0, r1, r2, r3, r4, r5, r6, r7⟩, p10⟩ := hy.facts
    clear hy hwy HX o0 o1 o2 HT
    go_wp2_with fail
    have hz := HY.out.fin ((k : Int))
    obtain ⟨wz, hwz⟩ : ∃ wz, wz = put8 (wy.setCell ⟨w.heap.size, 0, none⟩ (.int .i64 ((k : Int)))) (w.heap.size + 1) { t with pc := (k : Int) } := ⟨_, rfl⟩
    rw [← hwz] at hz
    unfold put8 at hwz
    rw [← hwz]
    obtain ⟨⟨z0, z1, z2, z3, z4, z5, z6, z7⟩, zb⟩ := hz
    clear hwz p0 p1 p2 p3 p4 p5 p6 p7 p8 r0 r1 r2 r3 r4 r5 r6 r7 p10
    refine bodyPost_ret (v := .tuple #[.agg (stV { t with pc := (k : Int) }), .int .i64 (-1)]) (by simp [results, Tryz.results111, go_sem, stV, z0, z1, z2, z3, z4, z5, z6, z7]) rfl ?_
    exact ⟨rfl, zb⟩

set_option maxHeartbeats 1000000 in
theorem do_fail (ob off n c k : Nat) (c0 c1 c2 c3 c4 c5 : Int) (got : Int) (a : Int) (b : Int) (is : Bool) (w : World)  (h : DoHyp w ob off n k 11 a b) :
    Calls Tryz.prog 111 #[.slice (some ⟨ob, off, none⟩) n c, .agg #[.int .i64 k, .int .i64 c0, .int .i64 c1, .int .i64 c2, .int .i64 c3, .int .i64 c4, .int .i64 c5, .bool false], .int .i64 got, .bool is] w
      (DoneV w { ({ (⟨k, c0, c1, c2, c3, c4, c5, false⟩ : St) with failed := true } : St) with pc := (k : Int) } (-1)) := by
  obtain ⟨q1, q2, g0, g1, g2⟩ := h
  have hlt := cell_lt g0
  have hnx : ((k : Int) + 1).tmod (n : Int) = nextPc ⟨k, c0, c1, c2, c3, c4, c5, false⟩ n := Int.tmod_eq_emod_of_nonneg (by omega)
  have hn0 : ((n : Int) == 0) = false := by simp; omega
  generalize nextPc ⟨k, c0, c1, c2, c3, c4, c5, false⟩ n = ny at hnx
  obtain ⟨t, ht⟩ : ∃ t, t = ({ (⟨k, c0, c1, c2, c3, c4, c5, false⟩ : St) with failed := true } : St) := ⟨_, rfl⟩
  rw [show ({ ({ (⟨k, c0, c1, c2, c3, c4, c5, false⟩ : St) with failed := true } : St) with pc := (k : Int) } : St) = { t with pc := (k : Int) } by rw [ht]]
  have HT := hid ht
  clear ht
  go_enter Tryz.func111, Tryz.ntmps111
  go_upto_region 6 with fail
  have hx := do_at w k c0 c1 c2 c3 c4 c5 11 a b
  obtain ⟨wx, hwx⟩ : ∃ wx, wx = (((w.alloc (.cells #[.int .i64 k, .int .i64 c0, .int .i64 c1, .int .i64 c2, .int .i64 c3, .int .i64 c4, .int .i64 c5, .bool false] 81)).alloc (.cells #[.int .i64 0, .int .i64 0, .int .i64 0, .int .i64 0, .int .i64 0, .int .i64 0, .int .i64 0, .bool false] 81)).alloc (.cells #[.int .i64 11, .int .i64 a, .int .i64 b] 72)) := ⟨_, rfl⟩
  rw [← hwx] at hx ⊢
  clear hwx g0 g1 g2 hnx hn0
  have HX := hid hx
  obtain ⟨b0, b1, o0, o1, o2, hb⟩ := hx
  have cp := blk_cell b0 0
  simp [stV] at cp
  have cf := blk_cell b0 7
  simp [stV] at cf
  have ff := blk_free b0 7
  clear b0 b1 hb
  go_upto_region 30 with fail
  all_goals
    have hy := HX.out.fails
    obtain ⟨wy, hwy⟩ : ∃ wy, wy = wx.setCell ⟨w.heap.size, 7, none⟩ (.bool true) := ⟨_, rfl⟩
    rw [← hwy] at hy ⊢
    rw [← HT.out] at hy
    have HY := hid hy
    obtain ⟨⟨p0, p1, p2, p3, p4, p5, p6, p7⟩, p8, ⟨r0, r1, r2, r3, r4, r5, r6, r7⟩, p10⟩ := hy.facts
    clear hy hwy HX o0 o1 o2 HT
    go_wp2_with fail
    have hz := HY.out.fin ((k : Int))
    obtain ⟨wz, hwz⟩ : ∃ wz, wz = put8 (wy.setCell ⟨w.heap.size, 0, none⟩ (.int .i64 ((k : Int)))) (w.heap.size + 1) { t with pc := (k : Int) } := ⟨_, rfl⟩
    rw [← hwz] at hz
    unfold put8 at hwz
    rw [← hwz]
    obtain ⟨⟨z0, z1, z2, z3, z4, z5, z6, z7⟩, zb⟩ := hz
    clear hwz p0 p1 p2 p3 p4 p5 p6 p7 p8 r0 r1 r2 r3 r4 r5 r6 r7 p10
    refine bodyPost_ret (v := .tuple #[.agg (stV { t with pc := (k : Int) }), .int .i64 (-1)]) (by simp [results, Tryz.results111, go_sem, stV, z0, z1, z2, z3, z4, z5, z6, z7]) rfl ?_
    exact ⟨rfl, zb⟩
end Go.Proofs.YthdmgighblhmhaaGreatDoor

/- Package room: the contracts of Do, for any op, and of Step. -/
namespace Go.Proofs.YthdmgighblhmhaaGreatDoor
open Go.RowKit
set_option maxRecDepth 100000

set_option maxHeartbeats 1000000 in
theorem do_failed (A : Option Addr) (n c : Nat) (pc c0 c1 c2 c3 c4 c5 : Int) (got : Int) (is : Bool) (w : World) :
    Calls Tryz.prog 111 #[.slice A n c, .agg #[.int .i64 pc, .int .i64 c0, .int .i64 c1, .int .i64 c2, .int .i64 c3, .int .i64 c4, .int .i64 c5, .bool true], .int .i64 got, .bool is] w
      (DoneV w ⟨pc, c0, c1, c2, c3, c4, c5, true⟩ (-1)) := by
  go_enter Tryz.func111, Tryz.ntmps111
  go_wp2_with fail
  refine bodyPost_ret (v := .tuple #[.agg (stV ⟨pc, c0, c1, c2, c3, c4, c5, true⟩), .int .i64 (-1)]) (by simp [results, Tryz.results111, go_sem, stV]) rfl ?_
  exact ⟨rfl, by repeat (first | exact Below.refl _ _ | refine Below.setCell ?_ (by simp) _ | refine Below.alloc ?_ (by simp) _)⟩

theorem do_any (ob off n c k : Nat) (s : St) (o : Op) (got : Int) (is : Bool) (w : World) (hk : s.pc = k) (hst : stOk s n = true) (hop : opOk o n = true) (hh : DoHyp w ob off n k o.what o.a o.b) :
    Calls Tryz.prog 111 #[.slice (some ⟨ob, off, none⟩) n c, .agg #[.int .i64 s.pc, .int .i64 s.c0, .int .i64 s.c1, .int .i64 s.c2, .int .i64 s.c3, .int .i64 s.c4, .int .i64 s.c5, .bool s.failed], .int .i64 got, .bool is] w
      (DoneV w (stepDo n o s got is).1 (stepDo n o s got is).2) := by
  obtain ⟨pc, c0, c1, c2, c3, c4, c5, f⟩ := s
  simp only [] at hk
  subst hk
  have hcell := (stOk_iff.1 hst).2
  cases f with
  | true => exact do_failed _ n c k c0 c1 c2 c3 c4 c5 got is w
  | false =>
    obtain ⟨what, a, b⟩ := o
    have ha := opOk_a hop
    have hwh := opOk_iff.1 hop
    have hb6 := opOk_b6 hop
    simp only [] at hh ha hb6 hwh
    obtain ⟨ha0, ha6⟩ := ha
    obtain ⟨h1, h2, _⟩ := hwh
    have h11 : what = 1 ∨ what = 2 ∨ what = 3 ∨ what = 4 ∨ what = 5 ∨ what = 6 ∨ what = 7 ∨ what = 8 ∨ what = 9 ∨ what = 10 ∨ what = 11 := by omega
    obtain ⟨a', rfl⟩ : ∃ a' : Nat, a = a' := ⟨a.toNat, by omega⟩
    have ha6' : a' < 6 := by omega
    have hca := hcell a' ha6'
    unfold stepDo
    simp only [Int.toNat_natCast]
    rcases h11 with rfl | rfl | rfl | rfl | rfl | rfl | rfl | rfl | rfl | rfl | rfl
    · exact do_set ob off n c k c0 c1 c2 c3 c4 c5 got a' b is w ha6' hh
    · obtain ⟨hb0, hb6⟩ := hb6 (by omega)
      obtain ⟨b', rfl⟩ : ∃ b' : Nat, b = b' := ⟨b.toNat, by omega⟩
      exact do_copy ob off n c k c0 c1 c2 c3 c4 c5 got a' b' _ is w ha6' (by omega) rfl hh
    · obtain ⟨hb0, hb6⟩ := hb6 (by omega)
      obtain ⟨b', rfl⟩ : ∃ b' : Nat, b = b' := ⟨b.toNat, by omega⟩
      exact do_add ob off n c k c0 c1 c2 c3 c4 c5 got a' b' _ _ _ is w ha6' (by omega) rfl rfl hca (hcell b' (by omega)) rfl hh
    · obtain ⟨hb0, hb6⟩ := hb6 (by omega)
      obtain ⟨b', rfl⟩ : ∃ b' : Nat, b = b' := ⟨b.toNat, by omega⟩
      exact do_sub ob off n c k c0 c1 c2 c3 c4 c5 got a' b' _ _ _ is w ha6' (by omega) rfl rfl hca (hcell b' (by omega)) rfl hh
    · obtain ⟨hb0, hb6⟩ := hb6 (by omega)
      obtain ⟨b', rfl⟩ : ∃ b' : Nat, b = b' := ⟨b.toNat, by omega⟩
      exact do_mul ob off n c k c0 c1 c2 c3 c4 c5 got a' b' _ _ _ is w ha6' (by omega) rfl rfl hca (hcell b' (by omega)) rfl hh
    · by_cases h0 : (⟨k, c0, c1, c2, c3, c4, c5, false⟩ : St).get a' = 0
      · simp only [h0]
        exact do_zero ob off n c k c0 c1 c2 c3 c4 c5 got a' b is w ha6' h0 hh
      · simp only [if_neg h0]
        exact do_nonzero ob off n c k c0 c1 c2 c3 c4 c5 got a' b _ is w ha6' rfl (by simpa using h0) hh
    · exact do_jump ob off n c k c0 c1 c2 c3 c4 c5 got a' b is w hh
    · exact do_send ob off n c k c0 c1 c2 c3 c4 c5 got a' b _ is w ha6' rfl hh
    · cases is with
      | true => exact do_take ob off n c k c0 c1 c2 c3 c4 c5 got a' b w ha6' hh
      | false => exact do_wait ob off n c k c0 c1 c2 c3 c4 c5 got a' b w hh
    · exact do_rest ob off n c k c0 c1 c2 c3 c4 c5 got a' b is w hh
    · exact do_fail ob off n c k c0 c1 c2 c3 c4 c5 got a' b is w hh

/-- A step of a room: the state, what is sent, the fault. -/
def stepOf (l : List Op) (s : St) (got : Int) (is : Bool) : (St × Int) × Int :=
  if roomChk l s ≠ 0 then ((St.zero, 0), roomChk l s) else if is = true ∧ cellB got = false then ((St.zero, 0), 1)
  else match l[s.pc.toNat]? with
    | some o => (stepDo l.length o s got is, 0)
    | none => ((St.zero, 0), 0)
def StepV (w : World) (r : (St × Int) × Int) (e : Ending) (w' : World) : Prop := e = .returned (.tuple #[.agg (stV r.1.1), .int .i64 r.1.2, errV r.2]) ∧ Below w.heap.size w w'

theorem two_at (w : World) (pc c0 c1 c2 c3 c4 c5 : Int) (f : Bool) :
    ((w.alloc (.cells #[.int .i64 pc, .int .i64 c0, .int .i64 c1, .int .i64 c2, .int .i64 c3, .int .i64 c4, .int .i64 c5, .bool f] 81)).alloc (.cells #[.int .i64 0, .int .i64 0, .int .i64 0, .int .i64 0, .int .i64 0, .int .i64 0, .int .i64 0, .bool false] 81)).heap.size = w.heap.size + 2 ∧
    DoEnd w ((w.alloc (.cells #[.int .i64 pc, .int .i64 c0, .int .i64 c1, .int .i64 c2, .int .i64 c3, .int .i64 c4, .int .i64 c5, .bool f] 81)).alloc (.cells #[.int .i64 0, .int .i64 0, .int .i64 0, .int .i64 0, .int .i64 0, .int .i64 0, .int .i64 0, .bool false] 81)) ⟨pc, c0, c1, c2, c3, c4, c5, f⟩ := by
  refine ⟨by simp, ?_, ?_, ((Below.refl _ _).alloc (by simp) _).alloc (by simp) _⟩
  · rw [hp_alloc, if_neg (by simp), hp_alloc, if_pos rfl]; rfl
  · rw [hp_alloc, if_pos (by simp)]; rfl
theorem DoEnd.new {w wy wz : World} {t : St} (h : DoEnd w wy t) (hb : Below wy.heap.size wy wz) : DoEnd w wz t := ⟨(hb.block _ (blk_lt h.b0)).trans h.b0, (hb.block _ (blk_lt h.b1)).trans h.b1, h.below.trans (hb.mono h.below.size)⟩
theorem DoEnd.set {w wy : World} {s : St} (h : DoEnd w wy s) (t : St) : DoEnd w (put8 wy w.heap.size t) t := by
  refine ⟨put8_heap h.b0, ?_, (put8_keep (Keep.of_below NoF h.below) (.inr (Nat.le_refl _)) _).below (Nat.le_refl _) (fun _ h => h.elim)⟩
  unfold put8
  simp only [hp_set]
  rw [if_neg (by omega), if_neg (by omega), if_neg (by omega), if_neg (by omega), if_neg (by omega), if_neg (by omega), if_neg (by omega), if_neg (by omega)]
  exact h.b1
theorem DoEnd.ret {w wy : World} {s : St} (h : DoEnd w wy s) (t : St) : StAt (put8 wy (w.heap.size + 1) t) (w.heap.size + 1) t ∧ Below w.heap.size w (put8 wy (w.heap.size + 1) t) :=
  ⟨stAt (put8_heap h.b1), (put8_keep (Keep.of_below NoF h.below) (.inr (by omega)) _).below (Nat.le_refl _) (fun _ h => h.elim)⟩

end Go.Proofs.YthdmgighblhmhaaGreatDoor
