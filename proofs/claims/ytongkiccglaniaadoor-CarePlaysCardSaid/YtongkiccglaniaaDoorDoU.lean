/- Several parts: each begins with what it says. -/
import Derived.Test.YtongkiccglaniaaDoorRoomW
import Derived.Deep.DeepCutAuto
import Derived.IntWalk
/- Package room: the contract of Do, for each kind of op. -/
namespace Go.Proofs.YtongkiccglaniaaDoor
open Go.RowKit
set_option maxRecDepth 100000

/-- What a step finds: its op's cells, and where it stands. -/
structure DoHyp (w : World) (ob off n k : Nat) (what a b : Int) : Prop where
  lt : k < n
  most : n ≤ 20
  g0 : w.cell? ⟨ob, off + k * 3, none⟩ = some (.int .i64 what)
  g1 : w.cell? ⟨ob, off + k * 3 + 1, none⟩ = some (.int .i64 a)
  g2 : w.cell? ⟨ob, off + k * 3 + 2, none⟩ = some (.int .i64 b)
def DoneV (w : World) (t : St) (out : Int) (e : Ending) (w' : World) : Prop := e = .returned (.tuple #[.agg (stV t), .int .i64 out]) ∧ Below w.heap.size w w'

/-- The state's block, cell by cell. -/
structure StAt (w : World) (b : Nat) (s : St) : Prop where
  p : w.cell? ⟨b, 0, none⟩ = some (.int .i64 s.pc)
  c0 : w.cell? ⟨b, 1, none⟩ = some (.int .i64 s.c0)
  c1 : w.cell? ⟨b, 2, none⟩ = some (.int .i64 s.c1)
  c2 : w.cell? ⟨b, 3, none⟩ = some (.int .i64 s.c2)
  c3 : w.cell? ⟨b, 4, none⟩ = some (.int .i64 s.c3)
  c4 : w.cell? ⟨b, 5, none⟩ = some (.int .i64 s.c4)
  c5 : w.cell? ⟨b, 6, none⟩ = some (.int .i64 s.c5)
  f : w.cell? ⟨b, 7, none⟩ = some (.bool s.failed)
theorem stAt {w : World} {b t : Nat} {s : St} (h : w.heap[b]? = some (.cells (stV s) t (0, 0))) : StAt w b s :=
  ⟨blk_cell h 0, blk_cell h 1, blk_cell h 2, blk_cell h 3, blk_cell h 4, blk_cell h 5, blk_cell h 6, blk_cell h 7⟩
theorem stV_get (s : St) {a : Nat} (h : a < 6) : (stV s)[1 + a]? = some (.int .i64 (s.get a)) := by
  rcases six h with rfl | rfl | rfl | rfl | rfl | rfl <;> rfl
theorem stV_put (s : St) {a : Nat} (h : a < 6) (v : Int) : (stV s).setIfInBounds (1 + a) (.int .i64 v) = stV (s.put a v) := by
  rcases six h with rfl | rfl | rfl | rfl | rfl | rfl <;> rfl

/-- The world in which the op is looked at: the state's block, the result's, the op's. -/
structure DoAt (w wx : World) (s : St) (what a b : Int) : Prop where
  b0 : wx.heap[w.heap.size]? = some (.cells (stV s) 40 (0, 0))
  b1 : wx.heap[w.heap.size + 1]? = some (.cells (stV St.zero) 40 (0, 0))
  o0 : wx.cell? ⟨w.heap.size + 1 + 1, 0, none⟩ = some (.int .i64 what)
  o1 : wx.cell? ⟨w.heap.size + 1 + 1, 1, none⟩ = some (.int .i64 a)
  o2 : wx.cell? ⟨w.heap.size + 1 + 1, 2, none⟩ = some (.int .i64 b)
  below : Below w.heap.size w wx
theorem do_at (w : World) (k c0 c1 c2 c3 c4 c5 : Int) (what a b : Int) : DoAt w (((w.alloc (.cells #[.int .i64 k, .int .i64 c0, .int .i64 c1, .int .i64 c2, .int .i64 c3, .int .i64 c4, .int .i64 c5, .bool false] 40)).alloc (.cells #[.int .i64 0, .int .i64 0, .int .i64 0, .int .i64 0, .int .i64 0, .int .i64 0, .int .i64 0, .bool false] 40)).alloc (.cells #[.int .i64 what, .int .i64 a, .int .i64 b] 45)) ⟨k, c0, c1, c2, c3, c4, c5, false⟩ what a b := by
  have h2 : (((w.alloc (.cells #[.int .i64 k, .int .i64 c0, .int .i64 c1, .int .i64 c2, .int .i64 c3, .int .i64 c4, .int .i64 c5, .bool false] 40)).alloc (.cells #[.int .i64 0, .int .i64 0, .int .i64 0, .int .i64 0, .int .i64 0, .int .i64 0, .int .i64 0, .bool false] 40)).alloc (.cells #[.int .i64 what, .int .i64 a, .int .i64 b] 45)).heap[w.heap.size + 1 + 1]? = some (.cells #[.int .i64 what, .int .i64 a, .int .i64 b] 45 (0, 0)) := by
    rw [hp_alloc, if_pos (by simp)]
  refine ⟨?_, ?_, blk_cell h2 0, blk_cell h2 1, blk_cell h2 2, (((Below.refl _ _).alloc (by simp) _).alloc (by simp) _).alloc (by simp; omega) _⟩
  · rw [hp_alloc, if_neg (by simp; omega), hp_alloc, if_neg (by simp), hp_alloc, if_pos rfl]; rfl
  · rw [hp_alloc, if_neg (by simp), hp_alloc, if_pos (by simp)]; rfl
/-- The world in which a step has done what its op says. -/
structure DoEnd (w wy : World) (t : St) : Prop where
  b0 : wy.heap[w.heap.size]? = some (.cells (stV t) 40 (0, 0))
  b1 : wy.heap[w.heap.size + 1]? = some (.cells (stV St.zero) 40 (0, 0))
  below : Below w.heap.size w wy
theorem DoEnd.facts {w wy : World} {t : St} (h : DoEnd w wy t) : StAt wy w.heap.size t ∧ (∀ o, wy.frozen? ⟨w.heap.size, o, none⟩ = false) ∧ StAt wy (w.heap.size + 1) St.zero ∧ (∀ o, wy.frozen? ⟨w.heap.size + 1, o, none⟩ = false) :=
  ⟨stAt h.b0, fun o => blk_free h.b0 o, stAt h.b1, fun o => blk_free h.b1 o⟩
theorem DoAt.put {w wx : World} {s : St} {what a' b : Int} (h : DoAt w wx s what a' b) {a : Nat} (ha : a < 6) (v : Int) : DoEnd w (wx.setCell ⟨w.heap.size, 1 + a, none⟩ (.int .i64 v)) (s.put a v) := by
  refine ⟨?_, ?_, h.below.setCell (Nat.le_refl _) _⟩
  · rw [hp_set, if_pos rfl]
    rw [h.b0]
    simp only [Option.map_some, setObj]
    rw [stV_put s ha]
  · rw [hp_set, if_neg (by omega)]; exact h.b1
theorem DoEnd.drew {w wy : World} {t : St} (h : DoEnd w wy t) : DoEnd w wy.drew t := ⟨h.b0, h.b1, h.below.drew⟩
theorem DoAt.fails {w wx : World} {s : St} {what a' b : Int} (h : DoAt w wx s what a' b) : DoEnd w (wx.setCell ⟨w.heap.size, 7, none⟩ (.bool true)) { s with failed := true } := by
  refine ⟨?_, ?_, h.below.setCell (Nat.le_refl _) _⟩
  · rw [hp_set, if_pos rfl]
    rw [h.b0]
    rfl
  · rw [hp_set, if_neg (by omega)]; exact h.b1
theorem DoAt.stay {w wx : World} {s : St} {what a' b : Int} (h : DoAt w wx s what a' b) : DoEnd w wx s := ⟨h.b0, h.b1, h.below⟩

/-- A state stored whole. -/
def put8 (w : World) (b : Nat) (t : St) : World :=
  (((((((w.setCell ⟨b, 0, none⟩ (.int .i64 t.pc)).setCell ⟨b, 1, none⟩ (.int .i64 t.c0)).setCell ⟨b, 2, none⟩ (.int .i64 t.c1)).setCell ⟨b, 3, none⟩ (.int .i64 t.c2)).setCell ⟨b, 4, none⟩ (.int .i64 t.c3)).setCell ⟨b, 5, none⟩ (.int .i64 t.c4)).setCell ⟨b, 6, none⟩ (.int .i64 t.c5)).setCell ⟨b, 7, none⟩ (.bool t.failed)
theorem put8_heap {w : World} {b T : Nat} {s t : St} (h : w.heap[b]? = some (.cells (stV s) T (0, 0))) : (put8 w b t).heap[b]? = some (.cells (stV t) T (0, 0)) := by
  unfold put8
  simp [hp_set, h, setObj, stV]
theorem put8_keep {F : Nat → Prop} {a w : World} (h : Keep F a w) {b : Nat} (hb : F b ∨ a.heap.size ≤ b) (t : St) : Keep F a (put8 w b t) := by
  unfold put8
  exact ((((((((h.setCell hb _).setCell hb _).setCell hb _).setCell hb _).setCell hb _).setCell hb _).setCell hb _).setCell hb _)
theorem DoEnd.fin {w wy : World} {t : St} (h : DoEnd w wy t) (nx : Int) : StAt (put8 (wy.setCell ⟨w.heap.size, 0, none⟩ (.int .i64 nx)) (w.heap.size + 1) { t with pc := nx }) (w.heap.size + 1) { t with pc := nx } ∧
    Below w.heap.size w (put8 (wy.setCell ⟨w.heap.size, 0, none⟩ (.int .i64 nx)) (w.heap.size + 1) { t with pc := nx }) := by
  refine ⟨stAt (put8_heap (s := St.zero) (T := 40) ?_), ?_⟩
  · rw [hp_set, if_neg (by omega)]; exact h.b1
  · exact (put8_keep ((Keep.of_below NoF h.below).setCell (.inr (Nat.le_refl _)) _) (.inr (by omega)) _).below (Nat.le_refl _) (fun _ h => h.elim)

set_option maxHeartbeats 1000000 in
theorem do_set (ob off n c k : Nat) (c0 c1 c2 c3 c4 c5 : Int) (got : Int) (a : Nat) (b : Int) (is : Bool) (w : World) (ha : a < 6) (h : DoHyp w ob off n k 1 a b) :
    Calls Tryd.prog 117 #[.slice (some ⟨ob, off, none⟩) n c, .agg #[.int .i64 k, .int .i64 c0, .int .i64 c1, .int .i64 c2, .int .i64 c3, .int .i64 c4, .int .i64 c5, .bool false], .int .i64 got, .bool is] w
      (DoneV w { (⟨k, c0, c1, c2, c3, c4, c5, false⟩ : St).put a b with pc := nextPc ⟨k, c0, c1, c2, c3, c4, c5, false⟩ n } (-1)) := by
  obtain ⟨q1, q2, g0, g1, g2⟩ := h
  have hlt := cell_lt g0
  have hnx : ((k : Int) + 1).tmod (n : Int) = nextPc ⟨k, c0, c1, c2, c3, c4, c5, false⟩ n := Int.tmod_eq_emod_of_nonneg (by omega)
  have hn0 : ((n : Int) == 0) = false := by simp; omega
  generalize nextPc ⟨k, c0, c1, c2, c3, c4, c5, false⟩ n = nx at hnx ⊢
  obtain ⟨t, ht⟩ : ∃ t, t = (⟨k, c0, c1, c2, c3, c4, c5, false⟩ : St).put a b := ⟨_, rfl⟩
  rw [← ht]
  have HT := hid ht
  clear ht
  go_enter Tryd.func117, Tryd.ntmps117
  go_upto_region 6 with fail
  have hx := do_at w k c0 c1 c2 c3 c4 c5 1 a b
  obtain ⟨wx, hwx⟩ : ∃ wx, wx = (((w.alloc (.cells #[.int .i64 k, .int .i64 c0, .int .i64 c1, .int .i64 c2, .int .i64 c3, .int .i64 c4, .int .i64 c5, .bool false] 40)).alloc (.cells #[.int .i64 0, .int .i64 0, .int .i64 0, .int .i64 0, .int .i64 0, .int .i64 0, .int .i64 0, .bool false] 40)).alloc (.cells #[.int .i64 1, .int .i64 a, .int .i64 b] 45)) := ⟨_, rfl⟩
  rw [← hwx] at hx ⊢
  clear hwx g0 g1 g2 hnx hn0
  have HX := hid hx
  obtain ⟨b0, b1, o0, o1, o2, hb⟩ := hx
  have ca := (blk_cell b0 (1 + a)).trans (stV_get _ ha)
  have fa := blk_free b0 (1 + a)
  clear b0 b1 hb
  go_upto_region 30 with fail
  all_goals
    have hy := HX.out.put ha (b)
    obtain ⟨wy, hwy⟩ : ∃ wy, wy = wx.setCell ⟨w.heap.size, 1 + a, none⟩ (.int .i64 (b)) := ⟨_, rfl⟩
    rw [← hwy] at hy ⊢
    rw [← HT.out] at hy
    have HY := hid hy
    obtain ⟨⟨p0, p1, p2, p3, p4, p5, p6, p7⟩, p8, ⟨r0, r1, r2, r3, r4, r5, r6, r7⟩, p10⟩ := hy.facts
    clear hy hwy HX o0 o1 o2 HT
    go_wp2_with fail
    have hz := HY.out.fin (nx)
    obtain ⟨wz, hwz⟩ : ∃ wz, wz = put8 (wy.setCell ⟨w.heap.size, 0, none⟩ (.int .i64 (nx))) (w.heap.size + 1) { t with pc := nx } := ⟨_, rfl⟩
    rw [← hwz] at hz
    unfold put8 at hwz
    rw [← hwz]
    obtain ⟨⟨z0, z1, z2, z3, z4, z5, z6, z7⟩, zb⟩ := hz
    clear hwz p0 p1 p2 p3 p4 p5 p6 p7 p8 r0 r1 r2 r3 r4 r5 r6 r7 p10
    refine bodyPost_ret (v := .tuple #[.agg (stV { t with pc := nx }), .int .i64 (-1)]) (by simp [results, Tryd.results117, go_sem, stV, z0, z1, z2, z3, z4, z5, z6, z7]) rfl ?_
    exact ⟨rfl, zb⟩

set_option maxHeartbeats 1000000 in
theorem do_take (ob off n c k : Nat) (c0 c1 c2 c3 c4 c5 : Int) (got : Int) (a : Nat) (b : Int) (w : World) (ha : a < 6) (h : DoHyp w ob off n k 9 a b) :
    Calls Tryd.prog 117 #[.slice (some ⟨ob, off, none⟩) n c, .agg #[.int .i64 k, .int .i64 c0, .int .i64 c1, .int .i64 c2, .int .i64 c3, .int .i64 c4, .int .i64 c5, .bool false], .int .i64 got, .bool true] w
      (DoneV w { (⟨k, c0, c1, c2, c3, c4, c5, false⟩ : St).put a got with pc := nextPc ⟨k, c0, c1, c2, c3, c4, c5, false⟩ n } (-1)) := by
  obtain ⟨q1, q2, g0, g1, g2⟩ := h
  have hlt := cell_lt g0
  have hnx : ((k : Int) + 1).tmod (n : Int) = nextPc ⟨k, c0, c1, c2, c3, c4, c5, false⟩ n := Int.tmod_eq_emod_of_nonneg (by omega)
  have hn0 : ((n : Int) == 0) = false := by simp; omega
  generalize nextPc ⟨k, c0, c1, c2, c3, c4, c5, false⟩ n = nx at hnx ⊢
  obtain ⟨t, ht⟩ : ∃ t, t = (⟨k, c0, c1, c2, c3, c4, c5, false⟩ : St).put a got := ⟨_, rfl⟩
  rw [← ht]
  have HT := hid ht
  clear ht
  go_enter Tryd.func117, Tryd.ntmps117
  go_upto_region 6 with fail
  have hx := do_at w k c0 c1 c2 c3 c4 c5 9 a b
  obtain ⟨wx, hwx⟩ : ∃ wx, wx = (((w.alloc (.cells #[.int .i64 k, .int .i64 c0, .int .i64 c1, .int .i64 c2, .int .i64 c3, .int .i64 c4, .int .i64 c5, .bool false] 40)).alloc (.cells #[.int .i64 0, .int .i64 0, .int .i64 0, .int .i64 0, .int .i64 0, .int .i64 0, .int .i64 0, .bool false] 40)).alloc (.cells #[.int .i64 9, .int .i64 a, .int .i64 b] 45)) := ⟨_, rfl⟩
  rw [← hwx] at hx ⊢
  clear hwx g0 g1 g2 hnx hn0
  have HX := hid hx
  obtain ⟨b0, b1, o0, o1, o2, hb⟩ := hx
  have ca := (blk_cell b0 (1 + a)).trans (stV_get _ ha)
  have fa := blk_free b0 (1 + a)
  clear b0 b1 hb
  go_upto_region 30 with fail
  all_goals
    have hy := HX.out.put ha (got)
    obtain ⟨wy, hwy⟩ : ∃ wy, wy = wx.setCell ⟨w.heap.size, 1 + a, none⟩ (.int .i64 (got)) := ⟨_, rfl⟩
    rw [← hwy] at hy ⊢
    rw [← HT.out] at hy
    have HY := hid hy
    obtain ⟨⟨p0, p1, p2, p3, p4, p5, p6, p7⟩, p8, ⟨r0, r1, r2, r3, r4, r5, r6, r7⟩, p10⟩ := hy.facts
    clear hy hwy HX o0 o1 o2 HT
    go_wp2_with fail
    have hz := HY.out.fin (nx)
    obtain ⟨wz, hwz⟩ : ∃ wz, wz = put8 (wy.setCell ⟨w.heap.size, 0, none⟩ (.int .i64 (nx))) (w.heap.size + 1) { t with pc := nx } := ⟨_, rfl⟩
    rw [← hwz] at hz
    unfold put8 at hwz
    rw [← hwz]
    obtain ⟨⟨z0, z1, z2, z3, z4, z5, z6, z7⟩, zb⟩ := hz
    clear hwz p0 p1 p2 p3 p4 p5 p6 p7 p8 r0 r1 r2 r3 r4 r5 r6 r7 p10
    refine bodyPost_ret (v := .tuple #[.agg (stV { t with pc := nx }), .int .i64 (-1)]) (by simp [results, Tryd.results117, go_sem, stV, z0, z1, z2, z3, z4, z5, z6, z7]) rfl ?_
    exact ⟨rfl, zb⟩

set_option maxHeartbeats 1000000 in
theorem do_copy (ob off n c k : Nat) (c0 c1 c2 c3 c4 c5 : Int) (got : Int) (a b : Nat) (y : Int) (is : Bool) (w : World) (ha : a < 6) (hbb : b < 6) (hyg : (⟨k, c0, c1, c2, c3, c4, c5, false⟩ : St).get b = y) (h : DoHyp w ob off n k 2 a b) :
    Calls Tryd.prog 117 #[.slice (some ⟨ob, off, none⟩) n c, .agg #[.int .i64 k, .int .i64 c0, .int .i64 c1, .int .i64 c2, .int .i64 c3, .int .i64 c4, .int .i64 c5, .bool false], .int .i64 got, .bool is] w
      (DoneV w { (⟨k, c0, c1, c2, c3, c4, c5, false⟩ : St).put a y with pc := nextPc ⟨k, c0, c1, c2, c3, c4, c5, false⟩ n } (-1)) := by
  obtain ⟨q1, q2, g0, g1, g2⟩ := h
  have hlt := cell_lt g0
  have hnx : ((k : Int) + 1).tmod (n : Int) = nextPc ⟨k, c0, c1, c2, c3, c4, c5, false⟩ n := Int.tmod_eq_emod_of_nonneg (by omega)
  have hn0 : ((n : Int) == 0) = false := by simp; omega
  generalize nextPc ⟨k, c0, c1, c2, c3, c4, c5, false⟩ n = nx at hnx ⊢
  have HYG := hid hyg
  clear hyg
  obtain ⟨t, ht⟩ : ∃ t, t = (⟨k, c0, c1, c2, c3, c4, c5, false⟩ : St).put a y := ⟨_, rfl⟩
  rw [← ht]
  have HT := hid ht
  clear ht
  go_enter Tryd.func117, Tryd.ntmps117
  go_upto_region 6 with fail
  have hx := do_at w k c0 c1 c2 c3 c4 c5 2 a b
  obtain ⟨wx, hwx⟩ : ∃ wx, wx = (((w.alloc (.cells #[.int .i64 k, .int .i64 c0, .int .i64 c1, .int .i64 c2, .int .i64 c3, .int .i64 c4, .int .i64 c5, .bool false] 40)).alloc (.cells #[.int .i64 0, .int .i64 0, .int .i64 0, .int .i64 0, .int .i64 0, .int .i64 0, .int .i64 0, .bool false] 40)).alloc (.cells #[.int .i64 2, .int .i64 a, .int .i64 b] 45)) := ⟨_, rfl⟩
  rw [← hwx] at hx ⊢
  clear hwx g0 g1 g2 hnx hn0
  have HX := hid hx
  obtain ⟨b0, b1, o0, o1, o2, hb⟩ := hx
  have ca := (blk_cell b0 (1 + a)).trans (stV_get _ ha)
  have fa := blk_free b0 (1 + a)
  have cb := (blk_cell b0 (1 + b)).trans (stV_get _ hbb)
  rw [HYG.out] at cb
  clear b0 b1 hb
  go_upto_region 10 with fail
  go_region
  all_goals go_upto_region 30 with fail
  all_goals
    have hy := (HX.out.put ha y).drew
    obtain ⟨wy, hwy⟩ : ∃ wy, wy = (wx.setCell ⟨w.heap.size, 1 + a, none⟩ (.int .i64 y)).drew := ⟨_, rfl⟩
    rw [← hwy] at hy ⊢
    rw [← HT.out] at hy
    have HY := hid hy
    obtain ⟨⟨p0, p1, p2, p3, p4, p5, p6, p7⟩, p8, ⟨r0, r1, r2, r3, r4, r5, r6, r7⟩, p10⟩ := hy.facts
    clear hy hwy HX o0 o1 o2 HT
    go_wp2_with fail
    have hz := HY.out.fin (nx)
    obtain ⟨wz, hwz⟩ : ∃ wz, wz = put8 (wy.setCell ⟨w.heap.size, 0, none⟩ (.int .i64 (nx))) (w.heap.size + 1) { t with pc := nx } := ⟨_, rfl⟩
    rw [← hwz] at hz
    unfold put8 at hwz
    rw [← hwz]
    obtain ⟨⟨z0, z1, z2, z3, z4, z5, z6, z7⟩, zb⟩ := hz
    clear hwz p0 p1 p2 p3 p4 p5 p6 p7 p8 r0 r1 r2 r3 r4 r5 r6 r7 p10
    refine bodyPost_ret (v := .tuple #[.agg (stV { t with pc := nx }), .int .i64 (-1)]) (by simp [results, Tryd.results117, go_sem, stV, z0, z1, z2, z3, z4, z5, z6, z7]) rfl ?_
    exact ⟨rfl, zb⟩

set_option maxHeartbeats 1000000 in
theorem do_add (ob off n c k : Nat) (c0 c1 c2 c3 c4 c5 : Int) (got : Int) (a b : Nat) (x y v : Int) (is : Bool) (w : World) (ha : a < 6) (hbb : b < 6) (hxg : (⟨k, c0, c1, c2, c3, c4, c5, false⟩ : St).get a = x) (hyg : (⟨k, c0, c1, c2, c3, c4, c5, false⟩ : St).get b = y) (hx0 : 0 ≤ x ∧ x < 1000) (hy0 : 0 ≤ y ∧ y < 1000) (hv : (x + y) % 1000 = v) (h : DoHyp w ob off n k 3 a b) :
    Calls Tryd.prog 117 #[.slice (some ⟨ob, off, none⟩) n c, .agg #[.int .i64 k, .int .i64 c0, .int .i64 c1, .int .i64 c2, .int .i64 c3, .int .i64 c4, .int .i64 c5, .bool false], .int .i64 got, .bool is] w
      (DoneV w { (⟨k, c0, c1, c2, c3, c4, c5, false⟩ : St).put a v with pc := nextPc ⟨k, c0, c1, c2, c3, c4, c5, false⟩ n } (-1)) := by
  obtain ⟨q1, q2, g0, g1, g2⟩ := h
  have hlt := cell_lt g0
  have hnx : ((k : Int) + 1).tmod (n : Int) = nextPc ⟨k, c0, c1, c2, c3, c4, c5, false⟩ n := Int.tmod_eq_emod_of_nonneg (by omega)
  have hn0 : ((n : Int) == 0) = false := by simp; omega
  generalize nextPc ⟨k, c0, c1, c2, c3, c4, c5, false⟩ n = nx at hnx ⊢
  have HXG := hid hxg
  have HYG := hid hyg
  have HM : Hid ((x + y).tmod 1000 = v) := by rw [← hv]; exact Int.tmod_eq_emod_of_nonneg (by omega)
  clear hxg hyg hv
  obtain ⟨t, ht⟩ : ∃ t, t = (⟨k, c0, c1, c2, c3, c4, c5, false⟩ : St).put a v := ⟨_, rfl⟩
  rw [← ht]
  have HT := hid ht
  clear ht
  go_enter Tryd.func117, Tryd.ntmps117
  go_upto_region 6 with fail
  have hx := do_at w k c0 c1 c2 c3 c4 c5 3 a b
  obtain ⟨wx, hwx⟩ : ∃ wx, wx = (((w.alloc (.cells #[.int .i64 k, .int .i64 c0, .int .i64 c1, .int .i64 c2, .int .i64 c3, .int .i64 c4, .int .i64 c5, .bool false] 40)).alloc (.cells #[.int .i64 0, .int .i64 0, .int .i64 0, .int .i64 0, .int .i64 0, .int .i64 0, .int .i64 0, .bool false] 40)).alloc (.cells #[.int .i64 3, .int .i64 a, .int .i64 b] 45)) := ⟨_, rfl⟩
  rw [← hwx] at hx ⊢
  clear hwx g0 g1 g2 hnx hn0
  have HX := hid hx
  obtain ⟨b0, b1, o0, o1, o2, hb⟩ := hx
  have ca := (blk_cell b0 (1 + a)).trans (stV_get _ ha)
  have fa := blk_free b0 (1 + a)
  have cb := (blk_cell b0 (1 + b)).trans (stV_get _ hbb)
  rw [HXG.out] at ca
  rw [HYG.out] at cb
  have e1 : IntKind.i64.wrap (x + y) = x + y := IntWalk.i64_in _ (by omega)
  have e2 : (x + y).tmod 1000 = v := HM.out
  clear b0 b1 hb
  go_upto_region 12 with fail
  go_region
  all_goals go_upto_region 30 with fail
  all_goals
    have hy := (HX.out.put ha v).drew
    obtain ⟨wy, hwy⟩ : ∃ wy, wy = (wx.setCell ⟨w.heap.size, 1 + a, none⟩ (.int .i64 v)).drew := ⟨_, rfl⟩
    rw [← hwy] at hy ⊢
    rw [← HT.out] at hy
    have HY := hid hy
    obtain ⟨⟨p0, p1, p2, p3, p4, p5, p6, p7⟩, p8, ⟨r0, r1, r2, r3, r4, r5, r6, r7⟩, p10⟩ := hy.facts
    clear hy hwy HX o0 o1 o2 HT
    go_wp2_with fail
    have hz := HY.out.fin (nx)
    obtain ⟨wz, hwz⟩ : ∃ wz, wz = put8 (wy.setCell ⟨w.heap.size, 0, none⟩ (.int .i64 (nx))) (w.heap.size + 1) { t with pc := nx } := ⟨_, rfl⟩
    rw [← hwz] at hz
    unfold put8 at hwz
    rw [← hwz]
    obtain ⟨⟨z0, z1, z2, z3, z4, z5, z6, z7⟩, zb⟩ := hz
    clear hwz p0 p1 p2 p3 p4 p5 p6 p7 p8 r0 r1 r2 r3 r4 r5 r6 r7 p10
    refine bodyPost_ret (v := .tuple #[.agg (stV { t with pc := nx }), .int .i64 (-1)]) (by simp [results, Tryd.results117, go_sem, stV, z0, z1, z2, z3, z4, z5, z6, z7]) rfl ?_
    exact ⟨rfl, zb⟩

set_option maxHeartbeats 1000000 in
theorem do_sub (ob off n c k : Nat) (c0 c1 c2 c3 c4 c5 : Int) (got : Int) (a b : Nat) (x y v : Int) (is : Bool) (w : World) (ha : a < 6) (hbb : b < 6) (hxg : (⟨k, c0, c1, c2, c3, c4, c5, false⟩ : St).get a = x) (hyg : (⟨k, c0, c1, c2, c3, c4, c5, false⟩ : St).get b = y) (hx0 : 0 ≤ x ∧ x < 1000) (hy0 : 0 ≤ y ∧ y < 1000) (hv : (x - y + 1000) % 1000 = v) (h : DoHyp w ob off n k 4 a b) :
    Calls Tryd.prog 117 #[.slice (some ⟨ob, off, none⟩) n c, .agg #[.int .i64 k, .int .i64 c0, .int .i64 c1, .int .i64 c2, .int .i64 c3, .int .i64 c4, .int .i64 c5, .bool false], .int .i64 got, .bool is] w
      (DoneV w { (⟨k, c0, c1, c2, c3, c4, c5, false⟩ : St).put a v with pc := nextPc ⟨k, c0, c1, c2, c3, c4, c5, false⟩ n } (-1)) := by
  obtain ⟨q1, q2, g0, g1, g2⟩ := h
  have hlt := cell_lt g0
  have hnx : ((k : Int) + 1).tmod (n : Int) = nextPc ⟨k, c0, c1, c2, c3, c4, c5, false⟩ n := Int.tmod_eq_emod_of_nonneg (by omega)
  have hn0 : ((n : Int) == 0) = false := by simp; omega
  generalize nextPc ⟨k, c0, c1, c2, c3, c4, c5, false⟩ n = nx at hnx ⊢
  have HXG := hid hxg
  have HYG := hid hyg
  have HM : Hid ((x - y + 1000).tmod 1000 = v) := by rw [← hv]; exact Int.tmod_eq_emod_of_nonneg (by omega)
  clear hxg hyg hv
  obtain ⟨t, ht⟩ : ∃ t, t = (⟨k, c0, c1, c2, c3, c4, c5, false⟩ : St).put a v := ⟨_, rfl⟩
  rw [← ht]
  have HT := hid ht
  clear ht
  go_enter Tryd.func117, Tryd.ntmps117
  go_upto_region 6 with fail
  have hx := do_at w k c0 c1 c2 c3 c4 c5 4 a b
  obtain ⟨wx, hwx⟩ : ∃ wx, wx = (((w.alloc (.cells #[.int .i64 k, .int .i64 c0, .int .i64 c1, .int .i64 c2, .int .i64 c3, .int .i64 c4, .int .i64 c5, .bool false] 40)).alloc (.cells #[.int .i64 0, .int .i64 0, .int .i64 0, .int .i64 0, .int .i64 0, .int .i64 0, .int .i64 0, .bool false] 40)).alloc (.cells #[.int .i64 4, .int .i64 a, .int .i64 b] 45)) := ⟨_, rfl⟩
  rw [← hwx] at hx ⊢
  clear hwx g0 g1 g2 hnx hn0
  have HX := hid hx
  obtain ⟨b0, b1, o0, o1, o2, hb⟩ := hx
  have ca := (blk_cell b0 (1 + a)).trans (stV_get _ ha)
  have fa := blk_free b0 (1 + a)
  have cb := (blk_cell b0 (1 + b)).trans (stV_get _ hbb)
  rw [HXG.out] at ca
  rw [HYG.out] at cb
  have e0 : IntKind.i64.wrap (x - y) = x - y := IntWalk.i64_in _ (by omega)
  have e1 : IntKind.i64.wrap (x - y + 1000) = x - y + 1000 := IntWalk.i64_in _ (by omega)
  have e2 : (x - y + 1000).tmod 1000 = v := HM.out
  clear b0 b1 hb
  go_upto_region 14 with fail
  go_region
  all_goals go_upto_region 30 with fail
  all_goals
    have hy := (HX.out.put ha v).drew
    obtain ⟨wy, hwy⟩ : ∃ wy, wy = (wx.setCell ⟨w.heap.size, 1 + a, none⟩ (.int .i64 v)).drew := ⟨_, rfl⟩
    rw [← hwy] at hy ⊢
    rw [← HT.out] at hy
    have HY := hid hy
    obtain ⟨⟨p0, p1, p2, p3, p4, p5, p6, p7⟩, p8, ⟨r0, r1, r2, r3, r4, r5, r6, r7⟩, p10⟩ := hy.facts
    clear hy hwy HX o0 o1 o2 HT
    go_wp2_with fail
    have hz := HY.out.fin (nx)
    obtain ⟨wz, hwz⟩ : ∃ wz, wz = put8 (wy.setCell ⟨w.heap.size, 0, none⟩ (.int .i64 (nx))) (w.heap.size + 1) { t with pc := nx } := ⟨_, rfl⟩
    rw [← hwz] at hz
    unfold put8 at hwz
    rw [← hwz]
    obtain ⟨⟨z0, z1, z2, z3, z4, z5, z6, z7⟩, zb⟩ := hz
    clear hwz p0 p1 p2 p3 p4 p5 p6 p7 p8 r0 r1 r2 r3 r4 r5 r6 r7 p10
    refine bodyPost_ret (v := .tuple #[.agg (stV { t with pc := nx }), .int .i64 (-1)]) (by simp [results, Tryd.results117, go_sem, stV, z0, z1, z2, z3, z4, z5, z6, z7]) rfl ?_
    exact ⟨rfl, zb⟩

set_option maxHeartbeats 1000000 in
theorem do_mul (ob off n c k : Nat) (c0 c1 c2 c3 c4 c5 : Int) (got : Int) (a b : Nat) (x y v : Int) (is : Bool) (w : World) (ha : a < 6) (hbb : b < 6) (hxg : (⟨k, c0, c1, c2, c3, c4, c5, false⟩ : St).get a = x) (hyg : (⟨k, c0, c1, c2, c3, c4, c5, false⟩ : St).get b = y) (hx0 : 0 ≤ x ∧ x < 1000) (hy0 : 0 ≤ y ∧ y < 1000) (hv : (x * y) % 1000 = v) (h : DoHyp w ob off n k 5 a b) :
    Calls Tryd.prog 117 #[.slice (some ⟨ob, off, none⟩) n c, .agg #[.int .i64 k, .int .i64 c0, .int .i64 c1, .int .i64 c2, .int .i64 c3, .int .i64 c4, .int .i64 c5, .bool false], .int .i64 got, .bool is] w
      (DoneV w { (⟨k, c0, c1, c2, c3, c4, c5, false⟩ : St).put a v with pc := nextPc ⟨k, c0, c1, c2, c3, c4, c5, false⟩ n } (-1)) := by
  obtain ⟨q1, q2, g0, g1, g2⟩ := h
  have hlt := cell_lt g0
  have hnx : ((k : Int) + 1).tmod (n : Int) = nextPc ⟨k, c0, c1, c2, c3, c4, c5, false⟩ n := Int.tmod_eq_emod_of_nonneg (by omega)
  have hn0 : ((n : Int) == 0) = false := by simp; omega
  generalize nextPc ⟨k, c0, c1, c2, c3, c4, c5, false⟩ n = nx at hnx ⊢
  have HXG := hid hxg
  have HYG := hid hyg
  have HM : Hid ((x * y).tmod 1000 = v) := by rw [← hv]; exact Int.tmod_eq_emod_of_nonneg (by exact Int.mul_nonneg hx0.1 hy0.1)
  clear hxg hyg hv
  obtain ⟨t, ht⟩ : ∃ t, t = (⟨k, c0, c1, c2, c3, c4, c5, false⟩ : St).put a v := ⟨_, rfl⟩
  rw [← ht]
  have HT := hid ht
  clear ht
  go_enter Tryd.func117, Tryd.ntmps117
  go_upto_region 6 with fail
  have hx := do_at w k c0 c1 c2 c3 c4 c5 5 a b
  obtain ⟨wx, hwx⟩ : ∃ wx, wx = (((w.alloc (.cells #[.int .i64 k, .int .i64 c0, .int .i64 c1, .int .i64 c2, .int .i64 c3, .int .i64 c4, .int .i64 c5, .bool false] 40)).alloc (.cells #[.int .i64 0, .int .i64 0, .int .i64 0, .int .i64 0, .int .i64 0, .int .i64 0, .int .i64 0, .bool false] 40)).alloc (.cells #[.int .i64 5, .int .i64 a, .int .i64 b] 45)) := ⟨_, rfl⟩
  rw [← hwx] at hx ⊢
  clear hwx g0 g1 g2 hnx hn0
  have HX := hid hx
  obtain ⟨b0, b1, o0, o1, o2, hb⟩ := hx
  have ca := (blk_cell b0 (1 + a)).trans (stV_get _ ha)
  have fa := blk_free b0 (1 + a)
  have cb := (blk_cell b0 (1 + b)).trans (stV_get _ hbb)
  rw [HXG.out] at ca
  rw [HYG.out] at cb
  have m0 : 0 ≤ x * y := Int.mul_nonneg hx0.1 hy0.1
  have m1 : x * y ≤ 1000 * 1000 := Int.mul_le_mul (by omega) (by omega) hy0.1 (by omega)
  have e1 : IntKind.i64.wrap (x * y) = x * y := IntWalk.i64_in _ (by omega)
  have e2 : (x * y).tmod 1000 = v := HM.out
  clear b0 b1 hb
  go_upto_region 16 with fail
  go_region
  all_goals go_upto_region 30 with fail
  all_goals
    have hy := (HX.out.put ha v).drew
    obtain ⟨wy, hwy⟩ : ∃ wy, wy = (wx.setCell ⟨w.heap.size, 1 + a, none⟩ (.int .i64 v)).drew := ⟨_, rfl⟩
    rw [← hwy] at hy ⊢
    rw [← HT.out] at hy
    have HY := hid hy
    obtain ⟨⟨p0, p1, p2, p3, p4, p5, p6, p7⟩, p8, ⟨r0, r1, r2, r3, r4, r5, r6, r7⟩, p10⟩ := hy.facts
    clear hy hwy HX o0 o1 o2 HT
    go_wp2_with fail
    have hz := HY.out.fin (nx)
    obtain ⟨wz, hwz⟩ : ∃ wz, wz = put8 (wy.setCell ⟨w.heap.size, 0, none⟩ (.int .i64 (nx))) (w.heap.size + 1) { t with pc := nx } := ⟨_, rfl⟩
    rw [← hwz] at hz
    unfold put8 at hwz
    rw [← hwz]
    obtain ⟨⟨z0, z1, z2, z3, z4, z5, z6, z7⟩, zb⟩ := hz
    clear hwz p0 p1 p2 p3 p4 p5 p6 p7 p8 r0 r1 r2 r3 r4 r5 r6 r7 p10
    refine bodyPost_ret (v := .tuple #[.agg (stV { t with pc := nx }), .int .i64 (-1)]) (by simp [results, Tryd.results117, go_sem, stV, z0, z1, z2, z3, z4, z5, z6, z7]) rfl ?_
    exact ⟨rfl, zb⟩

set_option maxHeartbeats 1000000 in
theorem do_jump (ob off n c k : Nat) (c0 c1 c2 c3 c4 c5 : Int) (got : Int) (a : Int) (b : Int) (is : Bool) (w : World)  (h : DoHyp w ob off n k 7 a b) :
    Calls Tryd.prog 117 #[.slice (some ⟨ob, off, none⟩) n c, .agg #[.int .i64 k, .int .i64 c0, .int .i64 c1, .int .i64 c2, .int .i64 c3, .int .i64 c4, .int .i64 c5, .bool false], .int .i64 got, .bool is] w
      (DoneV w { (⟨k, c0, c1, c2, c3, c4, c5, false⟩ : St) with pc := b } (-1)) := by
  obtain ⟨q1, q2, g0, g1, g2⟩ := h
  have hlt := cell_lt g0
  have hnx : ((k : Int) + 1).tmod (n : Int) = nextPc ⟨k, c0, c1, c2, c3, c4, c5, false⟩ n := Int.tmod_eq_emod_of_nonneg (by omega)
  have hn0 : ((n : Int) == 0) = false := by simp; omega
  generalize nextPc ⟨k, c0, c1, c2, c3, c4, c5, false⟩ n = ny at hnx
  obtain ⟨t, ht⟩ : ∃ t, t = (⟨k, c0, c1, c2, c3, c4, c5, false⟩ : St) := ⟨_, rfl⟩
  rw [show ({ (⟨k, c0, c1, c2, c3, c4, c5, false⟩ : St) with pc := b } : St) = { t with pc := b } by rw [ht]]
  have HT := hid ht
  clear ht
  go_enter Tryd.func117, Tryd.ntmps117
  go_upto_region 6 with fail
  have hx := do_at w k c0 c1 c2 c3 c4 c5 7 a b
  obtain ⟨wx, hwx⟩ : ∃ wx, wx = (((w.alloc (.cells #[.int .i64 k, .int .i64 c0, .int .i64 c1, .int .i64 c2, .int .i64 c3, .int .i64 c4, .int .i64 c5, .bool false] 40)).alloc (.cells #[.int .i64 0, .int .i64 0, .int .i64 0, .int .i64 0, .int .i64 0, .int .i64 0, .int .i64 0, .bool false] 40)).alloc (.cells #[.int .i64 7, .int .i64 a, .int .i64 b] 45)) := ⟨_, rfl⟩
  rw [← hwx] at hx ⊢
  clear hwx g0 g1 g2 hnx hn0
  have HX := hid hx
  obtain ⟨b0, b1, o0, o1, o2, hb⟩ := hx
  clear b0 b1 hb
  go_upto_region 30 with fail
  all_goals
    have hy := HX.out.stay
    obtain ⟨wy, hwy⟩ : ∃ wy, wy = wx := ⟨_, rfl⟩
    rw [← hwy] at hy ⊢
    rw [← HT.out] at hy
    have HY := hid hy
    obtain ⟨⟨p0, p1, p2, p3, p4, p5, p6, p7⟩, p8, ⟨r0, r1, r2, r3, r4, r5, r6, r7⟩, p10⟩ := hy.facts
    clear hy hwy HX o0 o1 o2 HT
    go_wp2_with fail
    have hz := HY.out.fin (b)
    obtain ⟨wz, hwz⟩ : ∃ wz, wz = put8 (wy.setCell ⟨w.heap.size, 0, none⟩ (.int .i64 (b))) (w.heap.size + 1) { t with pc := b } := ⟨_, rfl⟩
    rw [← hwz] at hz
    unfold put8 at hwz
    rw [← hwz]
    obtain ⟨⟨z0, z1, z2, z3, z4, z5, z6, z7⟩, zb⟩ := hz
    clear hwz p0 p1 p2 p3 p4 p5 p6 p7 p8 r0 r1 r2 r3 r4 r5 r6 r7 p10
    refine bodyPost_ret (v := .tuple #[.agg (stV { t with pc := b }), .int .i64 (-1)]) (by simp [results, Tryd.results117, go_sem, stV, z0, z1, z2, z3, z4, z5, z6, z7]) rfl ?_
    exact ⟨rfl, zb⟩

set_option maxHeartbeats 1000000 in
theorem do_rest (ob off n c k : Nat) (c0 c1 c2 c3 c4 c5 : Int) (got : Int) (a : Int) (b : Int) (is : Bool) (w : World)  (h : DoHyp w ob off n k 10 a b) :
    Calls Tryd.prog 117 #[.slice (some ⟨ob, off, none⟩) n c, .agg #[.int .i64 k, .int .i64 c0, .int .i64 c1, .int .i64 c2, .int .i64 c3, .int .i64 c4, .int .i64 c5, .bool false], .int .i64 got, .bool is] w
      (DoneV w { (⟨k, c0, c1, c2, c3, c4, c5, false⟩ : St) with pc := nextPc ⟨k, c0, c1, c2, c3, c4, c5, false⟩ n } (-1)) := by
  obtain ⟨q1, q2, g0, g1, g2⟩ := h
  have hlt := cell_lt g0
  have hnx : ((k : Int) + 1).tmod (n : Int) = nextPc ⟨k, c0, c1, c2, c3, c4, c5, false⟩ n := Int.tmod_eq_emod_of_nonneg (by omega)
  have hn0 : ((n : Int) == 0) = false := by simp; omega
  generalize nextPc ⟨k, c0, c1, c2, c3, c4, c5, false⟩ n = nx at hnx ⊢
  obtain ⟨t, ht⟩ : ∃ t, t = (⟨k, c0, c1, c2, c3, c4, c5, false⟩ : St) := ⟨_, rfl⟩
  rw [← ht]
  have HT := hid ht
  clear ht
  go_enter Tryd.func117, Tryd.ntmps117
  go_upto_region 6 with fail
  have hx := do_at w k c0 c1 c2 c3 c4 c5 10 a b
  obtain ⟨wx, hwx⟩ : ∃ wx, wx = (((w.alloc (.cells #[.int .i64 k, .int .i64 c0, .int .i64 c1, .int .i64 c2, .int .i64 c3, .int .i64 c4, .int .i64 c5, .bool false] 40)).alloc (.cells #[.int .i64 0, .int .i64 0, .int .i64 0, .int .i64 0, .int .i64 0, .int .i64 0, .int .i64 0, .bool false] 40)).alloc (.cells #[.int .i64 10, .int .i64 a, .int .i64 b] 45)) := ⟨_, rfl⟩
  rw [← hwx] at hx ⊢
  clear hwx g0 g1 g2 hnx hn0
  have HX := hid hx
  obtain ⟨b0, b1, o0, o1, o2, hb⟩ := hx
  clear b0 b1 hb
  go_upto_region 30 with fail
  all_goals
    have hy := HX.out.stay
    obtain ⟨wy, hwy⟩ : ∃ wy, wy = wx := ⟨_, rfl⟩
    rw [← hwy] at hy ⊢
    rw [← HT.out] at hy
    have HY := hid hy
    obtain ⟨⟨p0, p1, p2, p3, p4, p5, p6, p7⟩, p8, ⟨r0, r1, r2, r3, r4, r5, r6, r7⟩, p10⟩ := hy.facts
    clear hy hwy HX o0 o1 o2 HT
    go_wp2_with fail
    have hz := HY.out.fin (nx)
    obtain ⟨wz, hwz⟩ : ∃ wz, wz = put8 (wy.setCell ⟨w.heap.size, 0, none⟩ (.int .i64 (nx))) (w.heap.size + 1) { t with pc := nx } := ⟨_, rfl⟩
    rw [← hwz] at hz
    unfold put8 at hwz
    rw [← hwz]
    obtain ⟨⟨z0, z1, z2, z3, z4, z5, z6, z7⟩, zb⟩ := hz
    clear hwz p0 p1 p2 p3 p4 p5 p6 p7 p8 r0 r1 r2 r3 r4 r5 r6 r7 p10
    refine bodyPost_ret (v := .tuple #[.agg (stV { t with pc := nx }), .int .i64 (-1)]) (by simp [results, Tryd.results117, go_sem, stV, z0, z1, z2, z3, z4, z5, z6, z7]) rfl ?_
    exact ⟨rfl, zb⟩

set_option maxHeartbeats 1000000 in
theorem do_zero (ob off n c k : Nat) (c0 c1 c2 c3 c4 c5 : Int) (got : Int) (a : Nat) (b : Int) (is : Bool) (w : World) (ha : a < 6) (hxg : (⟨k, c0, c1, c2, c3, c4, c5, false⟩ : St).get a = 0) (h : DoHyp w ob off n k 6 a b) :
    Calls Tryd.prog 117 #[.slice (some ⟨ob, off, none⟩) n c, .agg #[.int .i64 k, .int .i64 c0, .int .i64 c1, .int .i64 c2, .int .i64 c3, .int .i64 c4, .int .i64 c5, .bool false], .int .i64 got, .bool is] w
      (DoneV w { (⟨k, c0, c1, c2, c3, c4, c5, false⟩ : St) with pc := b } (-1)) := by
  obtain ⟨q1, q2, g0, g1, g2⟩ := h
  have hlt := cell_lt g0
  have hnx : ((k : Int) + 1).tmod (n : Int) = nextPc ⟨k, c0, c1, c2, c3, c4, c5, false⟩ n := Int.tmod_eq_emod_of_nonneg (by omega)
  have hn0 : ((n : Int) == 0) = false := by simp; omega
  generalize nextPc ⟨k, c0, c1, c2, c3, c4, c5, false⟩ n = ny at hnx
  have HXG := hid hxg
  clear hxg
  obtain ⟨t, ht⟩ : ∃ t, t = (⟨k, c0, c1, c2, c3, c4, c5, false⟩ : St) := ⟨_, rfl⟩
  rw [show ({ (⟨k, c0, c1, c2, c3, c4, c5, false⟩ : St) with pc := b } : St) = { t with pc := b } by rw [ht]]
  have HT := hid ht
  clear ht
  go_enter Tryd.func117, Tryd.ntmps117
  go_upto_region 6 with fail
  have hx := do_at w k c0 c1 c2 c3 c4 c5 6 a b
  obtain ⟨wx, hwx⟩ : ∃ wx, wx = (((w.alloc (.cells #[.int .i64 k, .int .i64 c0, .int .i64 c1, .int .i64 c2, .int .i64 c3, .int .i64 c4, .int .i64 c5, .bool false] 40)).alloc (.cells #[.int .i64 0, .int .i64 0, .int .i64 0, .int .i64 0, .int .i64 0, .int .i64 0, .int .i64 0, .bool false] 40)).alloc (.cells #[.int .i64 6, .int .i64 a, .int .i64 b] 45)) := ⟨_, rfl⟩
  rw [← hwx] at hx ⊢
  clear hwx g0 g1 g2 hnx hn0
  have HX := hid hx
  obtain ⟨b0, b1, o0, o1, o2, hb⟩ := hx
  have ca := (blk_cell b0 (1 + a)).trans (stV_get _ ha)
  have fa := blk_free b0 (1 + a)
  rw [HXG.out] at ca
  clear b0 b1 hb
  go_upto_region 30 with fail
  all_goals
    have hy := HX.out.stay
    obtain ⟨wy, hwy⟩ : ∃ wy, wy = wx := ⟨_, rfl⟩
    rw [← hwy] at hy ⊢
    rw [← HT.out] at hy
    have HY := hid hy
    obtain ⟨⟨p0, p1, p2, p3, p4, p5, p6, p7⟩, p8, ⟨r0, r1, r2, r3, r4, r5, r6, r7⟩, p10⟩ := hy.facts
    clear hy hwy HX o0 o1 o2 HT
    go_wp2_with fail
    have hz := HY.out.fin (b)
    obtain ⟨wz, hwz⟩ : ∃ wz, wz = put8 (wy.setCell ⟨w.heap.size, 0, none⟩ (.int .i64 (b))) (w.heap.size + 1) { t with pc := b } := ⟨_, rfl⟩
    rw [← hwz] at hz
    unfold put8 at hwz
    rw [← hwz]
    obtain ⟨⟨z0, z1, z2, z3, z4, z5, z6, z7⟩, zb⟩ := hz
    clear hwz p0 p1 p2 p3 p4 p5 p6 p7 p8 r0 r1 r2 r3 r4 r5 r6 r7 p10
    refine bodyPost_ret (v := .tuple #[.agg (stV { t with pc := b }), .int .i64 (-1)]) (by simp [results, Tryd.results117, go_sem, stV, z0, z1, z2, z3, z4, z5, z6, z7]) rfl ?_
    exact ⟨rfl, zb⟩

set_option maxHeartbeats 1000000 in
theorem do_nonzero (ob off n c k : Nat) (c0 c1 c2 c3 c4 c5 : Int) (got : Int) (a : Nat) (b : Int) (x : Int) (is : Bool) (w : World) (ha : a < 6) (hxg : (⟨k, c0, c1, c2, c3, c4, c5, false⟩ : St).get a = x) (hx0 : (x == 0) = false) (h : DoHyp w ob off n k 6 a b) :
    Calls Tryd.prog 117 #[.slice (some ⟨ob, off, none⟩) n c, .agg #[.int .i64 k, .int .i64 c0, .int .i64 c1, .int .i64 c2, .int .i64 c3, .int .i64 c4, .int .i64 c5, .bool false], .int .i64 got, .bool is] w
      (DoneV w { (⟨k, c0, c1, c2, c3, c4, c5, false⟩ : St) with pc := nextPc ⟨k, c0, c1, c2, c3, c4, c5, false⟩ n } (-1)) := by
  obtain ⟨q1, q2, g0, g1, g2⟩ := h
  have hlt := cell_lt g0
  have hnx : ((k : Int) + 1).tmod (n : Int) = nextPc ⟨k, c0, c1, c2, c3, c4, c5, false⟩ n := Int.tmod_eq_emod_of_nonneg (by omega)
  have hn0 : ((n : Int) == 0) = false := by simp; omega
  generalize nextPc ⟨k, c0, c1, c2, c3, c4, c5, false⟩ n = nx at hnx ⊢
  have HXG := hid hxg
  clear hxg
  obtain ⟨t, ht⟩ : ∃ t, t = (⟨k, c0, c1, c2, c3, c4, c5, false⟩ : St) := ⟨_, rfl⟩
  rw [← ht]
  have HT := hid ht
  clear ht
  go_enter Tryd.func117, Tryd.ntmps117
  go_upto_region 6 with fail
  have hx := do_at w k c0 c1 c2 c3 c4 c5 6 a b
  obtain ⟨wx, hwx⟩ : ∃ wx, wx = (((w.alloc (.cells #[.int .i64 k, .int .i64 c0, .int .i64 c1, .int .i64 c2, .int .i64 c3, .int .i64 c4, .int .i64 c5, .bool false] 40)).alloc (.cells #[.int .i64 0, .int .i64 0, .int .i64 0, .int .i64 0, .int .i64 0, .int .i64 0, .int .i64 0, .bool false] 40)).alloc (.cells #[.int .i64 6, .int .i64 a, .int .i64 b] 45)) := ⟨_, rfl⟩
  rw [← hwx] at hx ⊢
  clear hwx g0 g1 g2 hnx hn0
  have HX := hid hx
  obtain ⟨b0, b1, o0, o1, o2, hb⟩ := hx
  have ca := (blk_cell b0 (1 + a)).trans (stV_get _ ha)
  have fa := blk_free b0 (1 + a)
  rw [HXG.out] at ca
  clear b0 b1 hb
  go_upto_region 30 with fail
  all_goals
    have hy := HX.out.stay
    obtain ⟨wy, hwy⟩ : ∃ wy, wy = wx := ⟨_, rfl⟩
    rw [← hwy] at hy ⊢
    rw [← HT.out] at hy
    have HY := hid hy
    obtain ⟨⟨p0, p1, p2, p3, p4, p5, p6, p7⟩, p8, ⟨r0, r1, r2, r3, r4, r5, r6, r7⟩, p10⟩ := hy.facts
    clear hy hwy HX o0 o1 o2 HT
    go_wp2_with fail
    have hz := HY.out.fin (nx)
    obtain ⟨wz, hwz⟩ : ∃ wz, wz = put8 (wy.setCell ⟨w.heap.size, 0, none⟩ (.int .i64 (nx))) (w.heap.size + 1) { t with pc := nx } := ⟨_, rfl⟩
    rw [← hwz] at hz
    unfold put8 at hwz
    rw [← hwz]
    obtain ⟨⟨z0, z1, z2, z3, z4, z5, z6, z7⟩, zb⟩ := hz
    clear hwz p0 p1 p2 p3 p4 p5 p6 p7 p8 r0 r1 r2 r3 r4 r5 r6 r7 p10
    refine bodyPost_ret (v := .tuple #[.agg (stV { t with pc := nx }), .int .i64 (-1)]) (by simp [results, Tryd.results117, go_sem, stV, z0, z1, z2, z3, z4, z5, z6, z7]) rfl ?_
    exact ⟨rfl, zb⟩

set_option maxHeartbeats 1000000 in
theorem do_send (ob off n c k : Nat) (c0 c1 c2 c3 c4 c5 : Int) (got : Int) (a : Nat) (b : Int) (sx : Int) (is : Bool) (w : World) (ha : a < 6) (hxg : (⟨k, c0, c1, c2, c3, c4, c5, false⟩ : St).get a = sx) (h : DoHyp w ob off n k 8 a b) :
    Calls Tryd.prog 117 #[.slice (some ⟨ob, off, none⟩) n c, .agg #[.int .i64 k, .int .i64 c0, .int .i64 c1, .int .i64 c2, .int .i64 c3, .int .i64 c4, .int .i64 c5, .bool false], .int .i64 got, .bool is] w
      (DoneV w { (⟨k, c0, c1, c2, c3, c4, c5, false⟩ : St) with pc := nextPc ⟨k, c0, c1, c2, c3, c4, c5, false⟩ n } (sx)) := by
  obtain ⟨q1, q2, g0, g1, g2⟩ := h
  have hlt := cell_lt g0
  have hnx : ((k : Int) + 1).tmod (n : Int) = nextPc ⟨k, c0, c1, c2, c3, c4, c5, false⟩ n := Int.tmod_eq_emod_of_nonneg (by omega)
  have hn0 : ((n : Int) == 0) = false := by simp; omega
  generalize nextPc ⟨k, c0, c1, c2, c3, c4, c5, false⟩ n = nx at hnx ⊢
  have HXG := hid hxg
  clear hxg
  obtain ⟨t, ht⟩ : ∃ t, t = (⟨k, c0, c1, c2, c3, c4, c5, false⟩ : St) := ⟨_, rfl⟩
  rw [← ht]
  have HT := hid ht
  clear ht
  go_enter Tryd.func117, Tryd.ntmps117
  go_upto_region 6 with fail
  have hx := do_at w k c0 c1 c2 c3 c4 c5 8 a b
  obtain ⟨wx, hwx⟩ : ∃ wx, wx = (((w.alloc (.cells #[.int .i64 k, .int .i64 c0, .int .i64 c1, .int .i64 c2, .int .i64 c3, .int .i64 c4, .int .i64 c5, .bool false] 40)).alloc (.cells #[.int .i64 0, .int .i64 0, .int .i64 0, .int .i64 0, .int .i64 0, .int .i64 0, .int .i64 0, .bool false] 40)).alloc (.cells #[.int .i64 8, .int .i64 a, .int .i64 b] 45)) := ⟨_, rfl⟩
  rw [← hwx] at hx ⊢
  clear hwx g0 g1 g2 hnx hn0
  have HX := hid hx
  obtain ⟨b0, b1, o0, o1, o2, hb⟩ := hx
  have ca := (blk_cell b0 (1 + a)).trans (stV_get _ ha)
  have fa := blk_free b0 (1 + a)
  rw [HXG.out] at ca
  clear b0 b1 hb
  go_upto_region 30 with fail
  all_goals
    have hy := HX.out.stay
    obtain ⟨wy, hwy⟩ : ∃ wy, wy = wx := ⟨_, rfl⟩
    rw [← hwy] at hy ⊢
    rw [← HT.out] at hy
    have HY := hid hy
    obtain ⟨⟨p0, p1, p2, p3, p4, p5, p6, p7⟩, p8, ⟨r0, r1, r2, r3, r4, r5, r6, r7⟩, p10⟩ := hy.facts
    clear hy hwy HX o0 o1 o2 HT
    go_wp2_with fail
    have hz := HY.out.fin (nx)
    obtain ⟨wz, hwz⟩ : ∃ wz, wz = put8 (wy.setCell ⟨w.heap.size, 0, none⟩ (.int .i64 (nx))) (w.heap.size + 1) { t with pc := nx } := ⟨_, rfl⟩
    rw [← hwz] at hz
    unfold put8 at hwz
    rw [← hwz]
    obtain ⟨⟨z0, z1, z2, z3, z4, z5, z6, z7⟩, zb⟩ := hz
    clear hwz p0 p1 p2 p3 p4 p5 p6 p7 p8 r0 r1 r2 r3 r4 r5 r6 r7 p10
    refine bodyPost_ret (v := .tuple #[.agg (stV { t with pc := nx }), .int .i64 (sx)]) (by simp [results, Tryd.results117, go_sem, stV, z0, z1, z2, z3, z4, z5, z6, z7]) rfl ?_
    exact ⟨rfl, zb⟩

set_option maxHeartbeats 1000000 in
theorem do_wait (ob off n c k : Nat) (c0 c1 c2 c3 c4 c5 : Int) (got : Int) (a : Int) (b : Int) (w : World)  (h : DoHyp w ob off n k 9 a b) :
    Calls Tryd.prog 117 #[.slice (some ⟨ob, off, none⟩) n c, .agg #[.int .i64 k, .int .i64 c0, .int .i64 c1, .int .i64 c2, .int .i64 c3, .int .i64 c4, .int .i64 c5, .bool false], .int .i64 got, .bool false] w
      (DoneV w { (⟨k, c0, c1, c2, c3, c4, c5, false⟩ : St) with pc := (k : Int) } (-1)) := by
  obtain ⟨q1, q2, g0, g1, g2⟩ := h
  have hlt := cell_lt g0
  have hnx : ((k : Int) + 1).tmod (n : Int) = nextPc ⟨k, c0, c1, c2, c3, c4, c5, false⟩ n := Int.tmod_eq_emod_of_nonneg (by omega)
  have hn0 : ((n : Int) == 0) = false := by simp; omega
  generalize nextPc ⟨k, c0, c1, c2, c3, c4, c5, false⟩ n = ny at hnx
  obtain ⟨t, ht⟩ : ∃ t, t = (⟨k, c0, c1, c2, c3, c4, c5, false⟩ : St) := ⟨_, rfl⟩
  rw [show ({ (⟨k, c0, c1, c2, c3, c4, c5, false⟩ : St) with pc := (k : Int) } : St) = { t with pc := (k : Int) } by rw [ht]]
  have HT := hid ht
  clear ht
  go_enter Tryd.func117, Tryd.ntmps117
  go_upto_region 6 with fail
  have hx := do_at w k c0 c1 c2 c3 c4 c5 9 a b
  obtain ⟨wx, hwx⟩ : ∃ wx, wx = (((w.alloc (.cells #[.int .i64 k, .int .i64 c0, .int .i64 c1, .int .i64 c2, .int .i64 c3, .int .i64 c4, .int .i64 c5, .bool false] 40)).alloc (.cells #[.int .i64 0, .int .i64 0, .int .i64 0, .int .i64 0, .int .i64 0, .int .i64 0, .int .i64 0, .bool false] 40)).alloc (.cells #[.int .i64 9, .int .i64 a, .int .i64 b] 45)) := ⟨_, rfl⟩
  rw [← hwx] at hx ⊢
  clear hwx g0 g1 g2 hnx hn0
  have HX := hid hx
  obtain ⟨b0, b1, o0, o1, o2, hb⟩ := hx
  have cp := blk_cell b0 0
  simp [stV] at cp
  clear b0 b1 hb
  go_upto_region 30 with fail
  all_goals
    have hy := HX.out.stay
    obtain ⟨wy, hwy⟩ : ∃ wy, wy = wx := ⟨_, rfl⟩
    rw [← hwy] at hy ⊢
    rw [← HT.out] at hy
    have HY := hid hy
    obtain ⟨⟨p0, p1, p2, p3, p4, p5, p6, p7⟩, p8, ⟨r0, r1, r2, r3, r4, r5, r6, r7⟩, p10⟩ := hy.facts
    clear hy hwy HX o0 o1 o2 HT
    go_wp2_with fail
    have hz := HY.out.fin ((k : Int))
    obtain ⟨wz, hwz⟩ : ∃ wz, wz = put8 (wy.setCell ⟨w.heap.size, 0, none⟩ (.int .i64 ((k : Int)))) (w.heap.size + 1) { t with pc := (k : Int) } := ⟨_, rfl⟩
    rw [← hwz] at hz
    unfold put8 at hwz
    rw [← hwz]
    obtain ⟨⟨z0, z1, z2, z3, z4, z5, z6, z7⟩, zb⟩ := hz
    clear hwz p0 p1 p2 p3 p4 p5 p6 p7 p8 r0 r1 r2 r3 r4 r5 r6 r7 p10
    refine bodyPost_ret (v := .tuple #[.agg (stV { t with pc := (k : Int) }), .int .i64 (-1)]) (by simp [results, Tryd.results117, go_sem, stV, z0, z1, z2, z3, z4, z5, z6, z7]) rfl ?_
    exact ⟨rfl, zb⟩

set_option maxHeartbeats 1000000 in
theorem do_fail (ob off n c k : Nat) (c0 c1 c2 c3 c4 c5 : Int) (got : Int) (a : Int) (b : Int) (is : Bool) (w : World)  (h : DoHyp w ob off n k 11 a b) :
    Calls Tryd.prog 117 #[.slice (some ⟨ob, off, none⟩) n c, .agg #[.int .i64 k, .int .i64 c0, .int .i64 c1, .int .i64 c2, .int .i64 c3, .int .i64 c4, .int .i64 c5, .bool false], .int .i64 got, .bool is] w
      (DoneV w { ({ (⟨k, c0, c1, c2, c3, c4, c5, false⟩ : St) with failed := true } : St) with pc := (k : Int) } (-1)) := by
  obtain ⟨q1, q2, g0, g1, g2⟩ := h
  have hlt := cell_lt g0
  have hnx : ((k : Int) + 1).tmod (n : Int) = nextPc ⟨k, c0, c1, c2, c3, c4, c5, false⟩ n := Int.tmod_eq_emod_of_nonneg (by omega)
  have hn0 : ((n : Int) == 0) = false := by simp; omega
  generalize nextPc ⟨k, c0, c1, c2, c3, c4, c5, false⟩ n = ny at hnx
  obtain ⟨t, ht⟩ : ∃ t, t = ({ (⟨k, c0, c1, c2, c3, c4, c5, false⟩ : St) with failed := true } : St) := ⟨_, rfl⟩
  rw [show ({ ({ (⟨k, c0, c1, c2, c3, c4, c5, false⟩ : St) with failed := true } : St) with pc := (k : Int) } : St) = { t with pc := (k : Int) } by rw [ht]]
  have HT := hid ht
  clear ht
  go_enter Tryd.func117, Tryd.ntmps117
  go_upto_region 6 with fail
  have hx := do_at w k c0 c1 c2 c3 c4 c5 11 a b
  obtain ⟨wx, hwx⟩ : ∃ wx, wx = (((w.alloc (.cells #[.int .i64 k, .int .i64 c0, .int .i64 c1, .int .i64 c2, .int .i64 c3, .int .i64 c4, .int .i64 c5, .bool false] 40)).alloc (.cells #[.int .i64 0, .int .i64 0, .int .i64 0, .int .i64 0, .int .i64 0, .int .i64 0, .int .i64 0, .bool false] 40)).alloc (.cells #[.int .i64 11, .int .i64 a, .int .i64 b] 45)) := ⟨_, rfl⟩
  rw [← hwx] at hx ⊢
  clear hwx g0 g1 g2 hnx hn0
  have HX := hid hx
  obtain ⟨b0, b1, o0, o1, o2, hb⟩ := hx
  have cp := blk_cell b0 0
  simp [stV] at cp
  have cf := blk_cell b0 7
  simp [stV] at cf
  have ff := blk_free b0 7
  clear b0 b1 hb
  go_upto_region 30 with fail
  all_goals
    have hy := HX.out.fails
    obtain ⟨wy, hwy⟩ : ∃ wy, wy = wx.setCell ⟨w.heap.size, 7, none⟩ (.bool true) := ⟨_, rfl⟩
    rw [← hwy] at hy ⊢
    rw [← HT.out] at hy
    have HY := hid hy
    obtain ⟨⟨p0, p1, p2, p3, p4, p5, p6, p7⟩, p8, ⟨r0, r1, r2, r3, r4, r5, r6, r7⟩, p10⟩ := hy.facts
    clear hy hwy HX o0 o1 o2 HT
    go_wp2_with fail
    have hz := HY.out.fin ((k : Int))
    obtain ⟨wz, hwz⟩ : ∃ wz, wz = put8 (wy.setCell ⟨w.heap.size, 0, none⟩ (.int .i64 ((k : Int)))) (w.heap.size + 1) { t with pc := (k : Int) } := ⟨_, rfl⟩
    rw [← hwz] at hz
    unfold put8 at hwz
    rw [← hwz]
    obtain ⟨⟨z0, z1, z2, z3, z4, z5, z6, z7⟩, zb⟩ := hz
    clear hwz p0 p1 p2 p3 p4 p5 p6 p7 p8 r0 r1 r2 r3 r4 r5 r6 r7 p10
    refine bodyPost_ret (v := .tuple #[.agg (stV { t with pc := (k : Int) }), .int .i64 (-1)]) (by simp [results, Tryd.results117, go_sem, stV, z0, z1, z2, z3, z4, z5, z6, z7]) rfl ?_
    exact ⟨rfl, zb⟩
end Go.Proofs.YtongkiccglaniaaDoor

/- Package room: the contracts of Do, for any op, and of Step. -/
namespace Go.Proofs.YtongkiccglaniaaDoor
open Go.RowKit
set_option maxRecDepth 100000

set_option maxHeartbeats 1000000 in
theorem do_failed (A : Option Addr) (n c : Nat) (pc c0 c1 c2 c3 c4 c5 : Int) (got : Int) (is : Bool) (w : World) :
    Calls Tryd.prog 117 #[.slice A n c, .agg #[.int .i64 pc, .int .i64 c0, .int .i64 c1, .int .i64 c2, .int .i64 c3, .int .i64 c4, .int .i64 c5, .bool true], .int .i64 got, .bool is] w
      (DoneV w ⟨pc, c0, c1, c2, c3, c4, c5, true⟩ (-1)) := by
  go_enter Tryd.func117, Tryd.ntmps117
  go_wp2_with fail
  refine bodyPost_ret (v := .tuple #[.agg (stV ⟨pc, c0, c1, c2, c3, c4, c5, true⟩), .int .i64 (-1)]) (by simp [results, Tryd.results117, go_sem, stV]) rfl ?_
  exact ⟨rfl, by repeat (first | exact Below.refl _ _ | refine Below.setCell ?_ (by simp) _ | refine Below.alloc ?_ (by simp) _)⟩

theorem do_any (ob off n c k : Nat) (s : St) (o : Op) (got : Int) (is : Bool) (w : World) (hk : s.pc = k) (hst : stOk s n = true) (hop : opOk o n = true) (hh : DoHyp w ob off n k o.what o.a o.b) :
    Calls Tryd.prog 117 #[.slice (some ⟨ob, off, none⟩) n c, .agg #[.int .i64 s.pc, .int .i64 s.c0, .int .i64 s.c1, .int .i64 s.c2, .int .i64 s.c3, .int .i64 s.c4, .int .i64 s.c5, .bool s.failed], .int .i64 got, .bool is] w
      (DoneV w (stepDo n o s got is).1 (stepDo n o s got is).2) := by
  obtain ⟨pc, c0, c1, c2, c3, c4, c5, f⟩ := s
  simp only [] at hk
  subst hk
  have hcell := (stOk_iff.1 hst).2
  cases f with
  | true => exact do_failed _ n c k c0 c1 c2 c3 c4 c5 got is w
  | false =>
    obtain ⟨what, a, b⟩ := o
    have ha := opOk_a hop
    have hwh := opOk_iff.1 hop
    have hb6 := opOk_b6 hop
    simp only [] at hh ha hb6 hwh
    obtain ⟨ha0, ha6⟩ := ha
    obtain ⟨h1, h2, _⟩ := hwh
    have h11 : what = 1 ∨ what = 2 ∨ what = 3 ∨ what = 4 ∨ what = 5 ∨ what = 6 ∨ what = 7 ∨ what = 8 ∨ what = 9 ∨ what = 10 ∨ what = 11 := by omega
    obtain ⟨a', rfl⟩ : ∃ a' : Nat, a = a' := ⟨a.toNat, by omega⟩
    have ha6' : a' < 6 := by omega
    have hca := hcell a' ha6'
    unfold stepDo
    simp only [Int.toNat_natCast]
    rcases h11 with rfl | rfl | rfl | rfl | rfl | rfl | rfl | rfl | rfl | rfl | rfl
    · exact do_set ob off n c k c0 c1 c2 c3 c4 c5 got a' b is w ha6' hh
    · obtain ⟨hb0, hb6⟩ := hb6 (by omega)
      obtain ⟨b', rfl⟩ : ∃ b' : Nat, b = b' := ⟨b.toNat, by omega⟩
      exact do_copy ob off n c k c0 c1 c2 c3 c4 c5 got a' b' _ is w ha6' (by omega) rfl hh
    · obtain ⟨hb0, hb6⟩ := hb6 (by omega)
      obtain ⟨b', rfl⟩ : ∃ b' : Nat, b = b' := ⟨b.toNat, by omega⟩
      exact do_add ob off n c k c0 c1 c2 c3 c4 c5 got a' b' _ _ _ is w ha6' (by omega) rfl rfl hca (hcell b' (by omega)) rfl hh
    · obtain ⟨hb0, hb6⟩ := hb6 (by omega)
      obtain ⟨b', rfl⟩ : ∃ b' : Nat, b = b' := ⟨b.toNat, by omega⟩
      exact do_sub ob off n c k c0 c1 c2 c3 c4 c5 got a' b' _ _ _ is w ha6' (by omega) rfl rfl hca (hcell b' (by omega)) rfl hh
    · obtain ⟨hb0, hb6⟩ := hb6 (by omega)
      obtain ⟨b', rfl⟩ : ∃ b' : Nat, b = b' := ⟨b.toNat, by omega⟩
      exact do_mul ob off n c k c0 c1 c2 c3 c4 c5 got a' b' _ _ _ is w ha6' (by omega) rfl rfl hca (hcell b' (by omega)) rfl hh
    · by_cases h0 : (⟨k, c0, c1, c2, c3, c4, c5, false⟩ : St).get a' = 0
      · simp only [h0]
        exact do_zero ob off n c k c0 c1 c2 c3 c4 c5 got a' b is w ha6' h0 hh
      · simp only [if_neg h0]
        exact do_nonzero ob off n c k c0 c1 c2 c3 c4 c5 got a' b _ is w ha6' rfl (by simpa using h0) hh
    · exact do_jump ob off n c k c0 c1 c2 c3 c4 c5 got a' b is w hh
    · exact do_send ob off n c k c0 c1 c2 c3 c4 c5 got a' b _ is w ha6' rfl hh
    · cases is with
      | true => exact do_take ob off n c k c0 c1 c2 c3 c4 c5 got a' b w ha6' hh
      | false => exact do_wait ob off n c k c0 c1 c2 c3 c4 c5 got a' b w hh
    · exact do_rest ob off n c k c0 c1 c2 c3 c4 c5 got a' b is w hh
    · exact do_fail ob off n c k c0 c1 c2 c3 c4 c5 got a' b is w hh

/-- A step of a room: the state, what is sent, the fault. -/
def stepOf (l : List Op) (s : St) (got : Int) (is : Bool) : (St × Int) × Int :=
  if roomChk l s ≠ 0 then ((St.zero, 0), roomChk l s) else if is = true ∧ cellB got = false then ((St.zero, 0), 1)
  else match l[s.pc.toNat]? with
    | some o => (stepDo l.length o s got is, 0)
    | none => ((St.zero, 0), 0)
def StepV (w : World) (r : (St × Int) × Int) (e : Ending) (w' : World) : Prop := e = .returned (.tuple #[.agg (stV r.1.1), .int .i64 r.1.2, errV r.2]) ∧ Below w.heap.size w w'

theorem two_at (w : World) (pc c0 c1 c2 c3 c4 c5 : Int) (f : Bool) :
    ((w.alloc (.cells #[.int .i64 pc, .int .i64 c0, .int .i64 c1, .int .i64 c2, .int .i64 c3, .int .i64 c4, .int .i64 c5, .bool f] 40)).alloc (.cells #[.int .i64 0, .int .i64 0, .int .i64 0, .int .i64 0, .int .i64 0, .int .i64 0, .int .i64 0, .bool false] 40)).heap.size = w.heap.size + 2 ∧
    DoEnd w ((w.alloc (.cells #[.int .i64 pc, .int .i64 c0, .int .i64 c1, .int .i64 c2, .int .i64 c3, .int .i64 c4, .int .i64 c5, .bool f] 40)).alloc (.cells #[.int .i64 0, .int .i64 0, .int .i64 0, .int .i64 0, .int .i64 0, .int .i64 0, .int .i64 0, .bool false] 40)) ⟨pc, c0, c1, c2, c3, c4, c5, f⟩ := by
  refine ⟨by simp, ?_, ?_, ((Below.refl _ _).alloc (by simp) _).alloc (by simp) _⟩
  · rw [hp_alloc, if_neg (by simp), hp_alloc, if_pos rfl]; rfl
  · rw [hp_alloc, if_pos (by simp)]; rfl
theorem DoEnd.new {w wy wz : World} {t : St} (h : DoEnd w wy t) (hb : Below wy.heap.size wy wz) : DoEnd w wz t := ⟨(hb.block _ (blk_lt h.b0)).trans h.b0, (hb.block _ (blk_lt h.b1)).trans h.b1, h.below.trans (hb.mono h.below.size)⟩
theorem DoEnd.set {w wy : World} {s : St} (h : DoEnd w wy s) (t : St) : DoEnd w (put8 wy w.heap.size t) t := by
  refine ⟨put8_heap h.b0, ?_, (put8_keep (Keep.of_below NoF h.below) (.inr (Nat.le_refl _)) _).below (Nat.le_refl _) (fun _ h => h.elim)⟩
  unfold put8
  simp only [hp_set]
  rw [if_neg (by omega), if_neg (by omega), if_neg (by omega), if_neg (by omega), if_neg (by omega), if_neg (by omega), if_neg (by omega), if_neg (by omega)]
  exact h.b1
theorem DoEnd.ret {w wy : World} {s : St} (h : DoEnd w wy s) (t : St) : StAt (put8 wy (w.heap.size + 1) t) (w.heap.size + 1) t ∧ Below w.heap.size w (put8 wy (w.heap.size + 1) t) :=
  ⟨stAt (put8_heap h.b1), (put8_keep (Keep.of_below NoF h.below) (.inr (by omega)) _).below (Nat.le_refl _) (fun _ h => h.elim)⟩

set_option maxHeartbeats 2000000 in
theorem room_step (A : Option Addr) (c : Nat) (l : List Op) (s : St) (got : Int) (is : Bool) (w : World) (hf : Forms w) (hs : Sl w A 3 l.length (l.flatMap Op.cells)) (hsw : SlW A c l.length) :
    Calls Tryd.prog 64 #[.slice A l.length c, .agg #[.int .i64 s.pc, .int .i64 s.c0, .int .i64 s.c1, .int .i64 s.c2, .int .i64 s.c3, .int .i64 s.c4, .int .i64 s.c5, .bool s.failed], .int .i64 got, .bool is] w
      (StepV w (stepOf l s got is)) := by
  have HCK : Hid (∀ w', Below w.heap.size w w' → Calls Tryd.prog 115 #[.slice A l.length c, .agg #[.int .i64 s.pc, .int .i64 s.c0, .int .i64 s.c1, .int .i64 s.c2, .int .i64 s.c3, .int .i64 s.c4, .int .i64 s.c5, .bool s.failed]] w' fun e w'' => e = .returned (errV (roomChk l s)) ∧ Below w'.heap.size w' w'') :=
    fun w' hb => room_check A c l s w' (hf.new hb) (hs.new hb) hsw
  unfold stepOf
  by_cases he : roomChk l s = 0
  · rw [if_neg (by simpa using he)]
    rw [he, errV_zero] at HCK
    by_cases hg : is = true ∧ cellB got = false
    · rw [if_pos hg]
      obtain ⟨rfl, hg⟩ := hg
      obtain ⟨pc, c0, c1, c2, c3, c4, c5, f⟩ := s
      simp only [] at HCK ⊢
      obtain ⟨hsz, hx⟩ := two_at w pc c0 c1 c2 c3 c4 c5 f
      have HG : Hid (cellB got = false) := hg
      obtain ⟨n, hn⟩ : ∃ n, n = l.length := ⟨_, rfl⟩
      rw [← hn] at HCK ⊢
      clear hs hsw he hg hf hn
      go_enter Tryd.func64, Tryd.ntmps64
      go_upto_region 1 with fail
      obtain ⟨w0, hw0⟩ : ∃ w0, w0 = ((w.alloc (.cells #[.int .i64 pc, .int .i64 c0, .int .i64 c1, .int .i64 c2, .int .i64 c3, .int .i64 c4, .int .i64 c5, .bool f] 40)).alloc (.cells #[.int .i64 0, .int .i64 0, .int .i64 0, .int .i64 0, .int .i64 0, .int .i64 0, .int .i64 0, .bool false] 40)) := ⟨_, rfl⟩
      rw [← hw0] at hx hsz ⊢
      have HX := hid hx
      obtain ⟨⟨p0, p1, p2, p3, p4, p5, p6, p7⟩, p8, ⟨r0, r1, r2, r3, r4, r5, r6, r7⟩, p10⟩ := hx.facts
      clear hw0 hsz hx
      go_upto_region 4 with (go_at_call 115; refine (HCK.out _ HX.out.below).mono ?_; rintro e w1 ⟨rfl, hb1⟩; have HY := hid (HX.out.new hb1); clear hb1)
      obtain ⟨_, _, ⟨s0, s1, s2, s3, s4, s5, s6, s7⟩, s10⟩ := HY.out.facts
      go_wp2_with (go_at_call 116; refine (rright_any got _).mono ?_; rw [HG.out]; rintro e w1 ⟨rfl, rfl⟩)
      have hz := HY.out.ret St.zero
      obtain ⟨wz, hwz⟩ : ∃ wz, wz = put8 w1 (w.heap.size + 1) St.zero := ⟨_, rfl⟩
      rw [← hwz] at hz
      unfold put8 St.zero at hwz
      simp only [] at hwz
      rw [← hwz]
      obtain ⟨⟨z0, z1, z2, z3, z4, z5, z6, z7⟩, zb⟩ := hz
      simp only [St.zero] at z0 z1 z2 z3 z4 z5 z6 z7
      refine bodyPost_ret (v := .tuple #[.agg (stV St.zero), .int .i64 0, errV 1]) (by simp [results, Tryd.results64, go_sem, stV, St.zero, errV, z0, z1, z2, z3, z4, z5, z6, z7]) rfl ?_
      exact ⟨rfl, zb⟩
    · rw [if_neg hg]
      have hgc : is = true → cellB got = true := fun h => by cases hc : cellB got with | true => rfl | false => exact absurd ⟨h, hc⟩ hg
      have hchk : (codeChk l).2 = 0 ∧ stOk s l.length = true := by
        unfold roomChk at he
        by_cases h1 : (codeChk l).2 = 0
        · rw [if_neg (by simpa using h1)] at he
          refine ⟨h1, ?_⟩
          cases h2 : stOk s l.length with
          | true => rfl
          | false => rw [h2] at he; simp at he
        · rw [if_pos h1] at he; exact absurd he h1
      obtain ⟨hcode, hst⟩ := hchk
      obtain ⟨hl1, hl20, hops⟩ := codeChk_ok hcode
      have hpc := (stOk_iff.1 hst).1
      obtain ⟨k, hk⟩ : ∃ k : Nat, s.pc = k := ⟨s.pc.toNat, by omega⟩
      have hkl : k < l.length := by omega
      have hget := List.getElem?_eq_getElem hkl
      have hop := hops _ (List.getElem_mem hkl)
      obtain ⟨ob, off, rfl, hlb, g0, g1, g2⟩ := hs.op (Below.refl _ _) hkl hkl
      generalize l[k] = o at hget hop g0 g1 g2
      rw [hk, Int.toNat_natCast, hget]
      simp only []
      have HDO : Hid (∀ w', Below w.heap.size w w' → Calls Tryd.prog 117 #[.slice (some ⟨ob, off, none⟩) l.length c, .agg #[.int .i64 k, .int .i64 s.c0, .int .i64 s.c1, .int .i64 s.c2, .int .i64 s.c3, .int .i64 s.c4, .int .i64 s.c5, .bool s.failed], .int .i64 got, .bool is] w'
          (DoneV w' (stepDo l.length o s got is).1 (stepDo l.length o s got is).2)) := fun w' hb => by
        have hkc := fun x => hb.cell (p := ⟨ob, x, none⟩) hlb
        have h := do_any ob off l.length c k s o got is w' hk hst hop ⟨hkl, hl20, by rw [hkc]; exact g0, by rw [hkc]; exact g1, by rw [hkc]; exact g2⟩
        rw [hk] at h
        exact h
      rw [hk] at HCK
      have HG := hid hgc
      generalize stepDo l.length o s got is = q at HDO ⊢
      obtain ⟨t, out⟩ := q
      obtain ⟨n, hn⟩ : ∃ n, n = l.length := ⟨_, rfl⟩
      rw [← hn] at HCK HDO ⊢
      simp only [] at HDO
      obtain ⟨pc, c0, c1, c2, c3, c4, c5, f⟩ := s
      simp only [] at HCK HDO hk ⊢
      subst hk
      have HTW := two_at w k c0 c1 c2 c3 c4 c5 f
      clear hs hsw he hg hf hn hcode hst hl1 hl20 hops hpc hkl hget hop hlb g0 g1 g2 hgc
      cases is with
      | true =>
        have hgt : cellB got = true := HG.out rfl
        have HGT := hid hgt
        clear hgt HG
        obtain ⟨hsz, hx⟩ := HTW
        go_enter Tryd.func64, Tryd.ntmps64
        go_upto_region 1 with fail
        obtain ⟨w0, hw0⟩ : ∃ w0, w0 = ((w.alloc (.cells #[.int .i64 k, .int .i64 c0, .int .i64 c1, .int .i64 c2, .int .i64 c3, .int .i64 c4, .int .i64 c5, .bool f] 40)).alloc (.cells #[.int .i64 0, .int .i64 0, .int .i64 0, .int .i64 0, .int .i64 0, .int .i64 0, .int .i64 0, .bool false] 40)) := ⟨_, rfl⟩
        rw [← hw0] at hx hsz ⊢
        have HX := hid hx
        obtain ⟨⟨p0, p1, p2, p3, p4, p5, p6, p7⟩, p8, ⟨r0, r1, r2, r3, r4, r5, r6, r7⟩, p10⟩ := hx.facts
        clear hw0 hsz hx
        go_upto_region 4 with (go_at_call 115; refine (HCK.out _ HX.out.below).mono ?_; rintro e w1 ⟨rfl, hb1⟩; have HY := hid (HX.out.new hb1); clear hb1)
        clear p0 p1 p2 p3 p4 p5 p6 p7 p8 r0 r1 r2 r3 r4 r5 r6 r7 p10
        obtain ⟨⟨p0, p1, p2, p3, p4, p5, p6, p7⟩, p8, ⟨r0, r1, r2, r3, r4, r5, r6, r7⟩, p10⟩ := HY.out.facts
        go_upto_region 6 with (go_at_call 116; refine (rright_any got _).mono ?_; rw [HGT.out]; rintro e w2 ⟨rfl, rfl⟩)
        go_wp2_with fail
        refine (HDO.out _ HY.out.below).mono ?_
        rintro e w2 ⟨rfl, hb2⟩
        have HV := hid (HY.out.new hb2)
        clear hb2 p0 p1 p2 p3 p4 p5 p6 p7 p8 r0 r1 r2 r3 r4 r5 r6 r7 p10
        obtain ⟨⟨p0, p1, p2, p3, p4, p5, p6, p7⟩, p8, ⟨r0, r1, r2, r3, r4, r5, r6, r7⟩, p10⟩ := HV.out.facts
        unfold stV
        go_upto_region 7 with fail
        have hy := HV.out.set t
        obtain ⟨wy, hwy⟩ : ∃ wy, wy = put8 w2 w.heap.size t := ⟨_, rfl⟩
        rw [← hwy] at hy
        unfold put8 at hwy
        rw [← hwy]
        have HYY := hid hy
        clear hwy p0 p1 p2 p3 p4 p5 p6 p7 p8 r0 r1 r2 r3 r4 r5 r6 r7 p10
        obtain ⟨⟨p0, p1, p2, p3, p4, p5, p6, p7⟩, p8, ⟨r0, r1, r2, r3, r4, r5, r6, r7⟩, p10⟩ := hy.facts
        clear hy
        go_wp2_with fail
        have hz := HYY.out.ret t
        obtain ⟨wz, hwz⟩ : ∃ wz, wz = put8 wy (w.heap.size + 1) t := ⟨_, rfl⟩
        rw [← hwz] at hz
        unfold put8 at hwz
        rw [← hwz]
        obtain ⟨⟨z0, z1, z2, z3, z4, z5, z6, z7⟩, zb⟩ := hz
        refine bodyPost_ret (v := .tuple #[.agg (stV t), .int .i64 out, .nilIface]) (by simp [results, Tryd.results64, go_sem, stV, z0, z1, z2, z3, z4, z5, z6, z7]) rfl ?_
        exact ⟨rfl, zb⟩
      | false =>
        clear HG
        obtain ⟨hsz, hx⟩ := HTW
        go_enter Tryd.func64, Tryd.ntmps64
        go_upto_region 1 with fail
        obtain ⟨w0, hw0⟩ : ∃ w0, w0 = ((w.alloc (.cells #[.int .i64 k, .int .i64 c0, .int .i64 c1, .int .i64 c2, .int .i64 c3, .int .i64 c4, .int .i64 c5, .bool f] 40)).alloc (.cells #[.int .i64 0, .int .i64 0, .int .i64 0, .int .i64 0, .int .i64 0, .int .i64 0, .int .i64 0, .bool false] 40)) := ⟨_, rfl⟩
        rw [← hw0] at hx hsz ⊢
        have HX := hid hx
        obtain ⟨⟨p0, p1, p2, p3, p4, p5, p6, p7⟩, p8, ⟨r0, r1, r2, r3, r4, r5, r6, r7⟩, p10⟩ := hx.facts
        clear hw0 hsz hx
        go_upto_region 4 with (go_at_call 115; refine (HCK.out _ HX.out.below).mono ?_; rintro e w1 ⟨rfl, hb1⟩; have HY := hid (HX.out.new hb1); clear hb1)
        clear p0 p1 p2 p3 p4 p5 p6 p7 p8 r0 r1 r2 r3 r4 r5 r6 r7 p10
        obtain ⟨⟨p0, p1, p2, p3, p4, p5, p6, p7⟩, p8, ⟨r0, r1, r2, r3, r4, r5, r6, r7⟩, p10⟩ := HY.out.facts
        go_upto_region 6 with fail
        go_wp2_with fail
        refine (HDO.out _ HY.out.below).mono ?_
        rintro e w2 ⟨rfl, hb2⟩
        have HV := hid (HY.out.new hb2)
        clear hb2 p0 p1 p2 p3 p4 p5 p6 p7 p8 r0 r1 r2 r3 r4 r5 r6 r7 p10
        obtain ⟨⟨p0, p1, p2, p3, p4, p5, p6, p7⟩, p8, ⟨r0, r1, r2, r3, r4, r5, r6, r7⟩, p10⟩ := HV.out.facts
        unfold stV
        go_upto_region 7 with fail
        have hy := HV.out.set t
        obtain ⟨wy, hwy⟩ : ∃ wy, wy = put8 w2 w.heap.size t := ⟨_, rfl⟩
        rw [← hwy] at hy
        unfold put8 at hwy
        rw [← hwy]
        have HYY := hid hy
        clear hwy p0 p1 p2 p3 p4 p5 p6 p7 p8 r0 r1 r2 r3 r4 r5 r6 r7 p10
        obtain ⟨⟨p0, p1, p2, p3, p4, p5, p6, p7⟩, p8, ⟨r0, r1, r2, r3, r4, r5, r6, r7⟩, p10⟩ := hy.facts
        clear hy
        go_wp2_with fail
        have hz := HYY.out.ret t
        obtain ⟨wz, hwz⟩ : ∃ wz, wz = put8 wy (w.heap.size + 1) t := ⟨_, rfl⟩
        rw [← hwz] at hz
        unfold put8 at hwz
        rw [← hwz]
        obtain ⟨⟨z0, z1, z2, z3, z4, z5, z6, z7⟩, zb⟩ := hz
        refine bodyPost_ret (v := .tuple #[.agg (stV t), .int .i64 out, .nilIface]) (by simp [results, Tryd.results64, go_sem, stV, z0, z1, z2, z3, z4, z5, z6, z7]) rfl ?_
        exact ⟨rfl, zb⟩
  · rw [if_pos he]
    have hv := errV_pos he
    rw [hv] at HCK
    obtain ⟨E, hE⟩ : ∃ E, E = roomChk l s := ⟨_, rfl⟩
    rw [← hE] at HCK ⊢
    have HE := hid (show errV E = _ from hE ▸ hv)
    obtain ⟨pc, c0, c1, c2, c3, c4, c5, f⟩ := s
    simp only [] at HCK ⊢
    obtain ⟨hsz, hx⟩ := two_at w pc c0 c1 c2 c3 c4 c5 f
    obtain ⟨n, hn⟩ : ∃ n, n = l.length := ⟨_, rfl⟩
    rw [← hn] at HCK ⊢
    clear hs hsw he hf hn hv hE
    go_enter Tryd.func64, Tryd.ntmps64
    go_upto_region 1 with fail
    obtain ⟨w0, hw0⟩ : ∃ w0, w0 = ((w.alloc (.cells #[.int .i64 pc, .int .i64 c0, .int .i64 c1, .int .i64 c2, .int .i64 c3, .int .i64 c4, .int .i64 c5, .bool f] 40)).alloc (.cells #[.int .i64 0, .int .i64 0, .int .i64 0, .int .i64 0, .int .i64 0, .int .i64 0, .int .i64 0, .bool false] 40)) := ⟨_, rfl⟩
    rw [← hw0] at hx hsz ⊢
    have HX := hid hx
    obtain ⟨⟨p0, p1, p2, p3, p4, p5, p6, p7⟩, p8, ⟨r0, r1, r2, r3, r4, r5, r6, r7⟩, p10⟩ := hx.facts
    clear hw0 hsz hx
    go_wp2_with (go_at_call 115; refine (HCK.out _ HX.out.below).mono ?_; rintro e w1 ⟨rfl, hb1⟩; have HY := hid (HX.out.new hb1); clear hb1; obtain ⟨_, _, ⟨s0, s1, s2, s3, s4, s5, s6, s7⟩, s10⟩ := HY.out.facts)
    have hz := HY.out.ret St.zero
    obtain ⟨wz, hwz⟩ : ∃ wz, wz = put8 w1 (w.heap.size + 1) St.zero := ⟨_, rfl⟩
    rw [← hwz] at hz
    unfold put8 St.zero at hwz
    simp only [] at hwz
    rw [← hwz]
    obtain ⟨⟨z0, z1, z2, z3, z4, z5, z6, z7⟩, zb⟩ := hz
    simp only [St.zero] at z0 z1 z2 z3 z4 z5 z6 z7
    refine bodyPost_ret (v := .tuple #[.agg (stV St.zero), .int .i64 0, errV E]) (by rw [HE.out]; simp [results, Tryd.results64, go_sem, stV, St.zero, z0, z1, z2, z3, z4, z5, z6, z7]) rfl ?_
    exact ⟨rfl, zb⟩
end Go.Proofs.YtongkiccglaniaaDoor
