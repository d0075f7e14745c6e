/- Package kernel: the contract of Put. -/
import Derived.Test.YthafahnlfpkkbaaGreatDoorRunU
namespace Go.Proofs.YthafahnlfpkkbaaGreatDoor
open Go.RowKit
set_option maxRecDepth 100000
attribute [local go_sem ↓] Go.wp_at_zero Go.wp_at_succ

def KPut (TK TL TP : Nat) (w : World) (kb : Nat) (M : KM) (k' : Kst) (e : Ending) (w' : World) : Prop := e = .returned (.tuple #[]) ∧ KAt TK TL TP w' kb M k' ∧ Keep (KF kb M) w w'
section
variable {kb : Nat} {w : World} {M : KM} {k : Kst}
theorem kput_any (r : Nat) (s0 t : St) (_hn : k.rooms.length ≤ 5) (hka : KAt 146 205 148 w kb M k) (hg : k.rooms[r]? = some s0) :
    Calls Tryz.prog 86 #[.pointer (some ⟨kb, 0, none⟩), .int .i64 r, .agg #[.int .i64 t.pc, .int .i64 t.c0, .int .i64 t.c1, .int .i64 t.c2, .int .i64 t.c3, .int .i64 t.c4, .int .i64 t.c5, .bool t.failed]] w (KPut 146 205 148 w kb M ⟨k.rooms.set r t, k.lines, k.time⟩) := by
  have HKA := hid hka
  have HG := hid hg
  have hrl0 := (List.getElem?_eq_some_iff.1 hg).1
  clear hka hg
  obtain ⟨wc, hwc⟩ : ∃ wc, wc = w.alloc (.cells #[.int .i64 t.pc, .int .i64 t.c0, .int .i64 t.c1, .int .i64 t.c2, .int .i64 t.c3, .int .i64 t.c4, .int .i64 t.c5, .bool t.failed] 95) := ⟨_, rfl⟩
  have hbc : Below w.heap.size w wc := by rw [hwc]; exact (Below.refl _ _).alloc (Nat.le_refl _) _
  have hbx : wc.heap[w.heap.size]? = some (.cells #[.int .i64 t.pc, .int .i64 t.c0, .int .i64 t.c1, .int .i64 t.c2, .int .i64 t.c3, .int .i64 t.c4, .int .i64 t.c5, .bool t.failed] 95 (0, 0)) := by rw [hwc]; exact heap_alloc_new w _
  have HKC := hid (HKA.out.new hbc)
  obtain ⟨k0, k1, k2, k4, k5, k6, kf, hkb⟩ := HKC.out.cells
  obtain ⟨rb, roff, hrA, ⟨s0, s1, s2, s3, s4, s5, s6, s7⟩, hrf, hrb, hrkb, hrl, hrc, hrm⟩ := HKC.out.room HG.out
  rw [hrA] at k4
  obtain ⟨nr, hnr⟩ : ∃ nr, nr = k.rooms.length := ⟨_, rfl⟩
  rw [← hnr] at k4 hrl hrc hrl0
  unfold maxLen at hrm
  have hrl' : (r : Int) < (nr : Int) := by omega
  have p0 := blk_cell hbx 0
  have p1 := blk_cell hbx 1
  have p2 := blk_cell hbx 2
  have p3 := blk_cell hbx 3
  have p4 := blk_cell hbx 4
  have p5 := blk_cell hbx 5
  have p6 := blk_cell hbx 6
  have p7 := blk_cell hbx 7
  simp at p0 p1 p2 p3 p4 p5 p6 p7
  have HPUT : Hid (KPut 146 205 148 w kb M ⟨k.rooms.set r t, k.lines, k.time⟩ (.returned (.tuple #[])) (putAt wc rb (roff + r * 8) t)) :=
    ⟨rfl, HKC.out.putRoomAt hrA rfl HG.out t, (Keep.of_below _ hbc).then (putAt_keep _ _ _ _) fun j _ e => by subst e; exact .inr (.inl (by rw [hrA]; rfl))⟩
  have f0 := hrf (roff + r * 8)
  have f1 := hrf (roff + r * 8 + 1)
  have f2 := hrf (roff + r * 8 + 2)
  have f3 := hrf (roff + r * 8 + 3)
  have f4 := hrf (roff + r * 8 + 4)
  have f5 := hrf (roff + r * 8 + 5)
  have f6 := hrf (roff + r * 8 + 6)
  have f7 := hrf (roff + r * 8 + 7)
  have hbr : w.heap.size ≠ rb := fun e => by have := HKA.out.lt rb (.inl (.inr (.inl (by rw [hrA]; rfl)))); omega
  have hltx := blk_lt hbx
  clear hbx hrA hrf hnr k0 k1 k2 k5 k6 kf hbc HKC HKA HG
  obtain ⟨pc, c0, c1, c2, c3, c4, c5, f⟩ := t
  simp only [] at hwc p0 p1 p2 p3 p4 p5 p6 p7 ⊢
  go_enter Tryz.func86, Tryz.ntmps86
  go_upto_region 1 with fail
  rw [← hwc]
  clear hwc
  go_region
  all_goals
    go_wp2_with fail
    go_end0
    exact ⟨HPUT.out.1, HPUT.out.2.1.new (Below.refl _ _).drew, HPUT.out.2.2.then (Keep.of_below NoF (Below.refl _ _).drew) (fun _ _ h => h.elim)⟩
end
end Go.Proofs.YthafahnlfpkkbaaGreatDoor
