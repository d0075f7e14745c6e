/- The reference (package frameref2): the contracts of Events and EventText. Conditions: none. -/
import Derived.Test.YthdmgighblhmhaaGreatDoorRTextU
import Derived.Test.YthdmgighblhmhaaGreatDoorEvU
namespace Go.Proofs.YthdmgighblhmhaaGreatDoor
open Go.RowKit
set_option maxRecDepth 100000

set_option maxHeartbeats 2000000 in
theorem revtext_any (x : Ev) (hx : WfEv x) (w : World) : Calls Tryz.prog 22 #[.agg #[.int .i64 x.tick, .int .i64 x.room, .int .i64 x.pc, .int .i64 x.what]] w fun e w' => ∃ T : ByteArray, e = .returned (.string T) ∧ T.data.toList = evLine x ∧ Below w.heap.size w w' := by
  obtain ⟨t, r, p, q⟩ := x
  obtain ⟨⟨t0, t1⟩, ⟨r0, r1⟩, ⟨p0, p1⟩, q0, q1⟩ := hx
  simp only [] at t0 t1 r0 r1 p0 p1 q0 q1 ⊢
  obtain ⟨w1, hw1⟩ : ∃ w1, w1 = w.alloc (.cells #[.int .i64 t, .int .i64 r, .int .i64 p, .int .i64 q] 76) := ⟨_, rfl⟩
  have hb1 : Below w.heap.size w w1 := by rw [hw1]; exact (Below.refl _ _).alloc (Nat.le_refl _) _
  have hbox : w1.heap[w.heap.size]? = some (.cells #[.int .i64 t, .int .i64 r, .int .i64 p, .int .i64 q] 76 (0, 0)) := by rw [hw1]; exact heap_alloc_new w _
  have HBX : Hid (∀ w', Below w1.heap.size w1 w' → w'.cell? ⟨w.heap.size, 0, none⟩ = some (.int .i64 t) ∧ w'.cell? ⟨w.heap.size, 1, none⟩ = some (.int .i64 r) ∧ w'.cell? ⟨w.heap.size, 2, none⟩ = some (.int .i64 p) ∧ w'.cell? ⟨w.heap.size, 3, none⟩ = some (.int .i64 q) ∧ w.heap.size < w'.heap.size) := hid fun w' hb => by
    have h := (hb.block _ (blk_lt hbox)).trans hbox
    have x0 := blk_cell h 0
    have x1 := blk_cell h 1
    have x2 := blk_cell h 2
    have x3 := blk_cell h 3
    simp at x0 x1 x2 x3
    exact ⟨x0, x1, x2, x3, blk_lt h⟩
  have h10 : (10 : Int) ^ 7 = 10000000 := by decide
  rw [h10] at t1 r1 p1 q1
  have HB1 := hid hb1
  clear hb1 hbox
  have h32 : (ByteArray.mk #[32]).size = 1 := rfl
  obtain ⟨S0, hS0, hz0, hc0⟩ : ∃ S : ByteArray, S.data.toList = Lib.itoa t ∧ S.size ≤ 21 ∧ ∀ w', Calls Tryz.prog 11 #[.int .i64 t] w' fun e w'' => e = .returned (.string S) ∧ Below w'.heap.size w' w'' := by
    obtain ⟨N, rfl⟩ : ∃ N : Nat, t = N := ⟨t.toNat, by omega⟩
    exact ⟨⟨(Lib.decDigits N).toArray⟩, by rw [itoa_nat], by rw [Lib.size_eq]; exact dec_len21 (by omega), fun w' => rdigits_any N (by omega) w'⟩
  have HC0 := hid hc0
  have HROW : Hid (∀ (word : ByteArray) (w' : World) (b : Nat), w'.heap[b]? = some (.cells #[.int .i64 p, .int .i64 q] 3 (0, 0)) → word.size ≤ 100000 → Calls Tryz.prog 23 #[.string word, .slice (some ⟨b, 0, none⟩) 2 2] w' fun e w'' => ∃ T : ByteArray, e = .returned (.string T) ∧ T.data.toList = word.data.toList ++ [p, q].flatMap numT ∧ Below w'.heap.size w' w'') := hid fun word w' b hb hw =>
    rrow_any word _ 2 [p, q] w' ⟨rfl, fun _ => ⟨b, 0, rfl, blk_lt hb, fun j u hu => by rw [Nat.zero_add, blk_cell hb]; simpa [ints] using hu⟩⟩ (fun n hn => by simp only [List.mem_cons, List.mem_nil_iff, or_false] at hn; rcases hn with rfl | rfl <;> omega) hw (show 2 ≤ 100 by decide)
  clear hc0
  by_cases hr : 0 ≤ r
  · obtain ⟨S1, hS1, hz1, hc1⟩ : ∃ S : ByteArray, S.data.toList = Lib.itoa r ∧ S.size ≤ 21 ∧ ∀ w', Calls Tryz.prog 11 #[.int .i64 r] w' fun e w'' => e = .returned (.string S) ∧ Below w'.heap.size w' w'' := by
      obtain ⟨N, rfl⟩ : ∃ N : Nat, r = N := ⟨r.toNat, by omega⟩
      exact ⟨⟨(Lib.decDigits N).toArray⟩, by rw [itoa_nat], by rw [Lib.size_eq]; exact dec_len21 (by omega), fun w' => rdigits_any N (by omega) w'⟩
    have hrm : roomT ⟨t, r, p, q⟩ = S1.data.toList := by unfold roomT; rw [if_pos hr, hS1]
    have HRM := hid hrm
    have HS0 := hid hS0
    have HC1 := hid hc1
    clear hS0 hS1 hrm hc1
    go_enter Tryz.func22, Tryz.ntmps22
    go_wp2_with fail
    rw [← hw1]
    refine (HC1.out w1).mono ?_
    rintro e w2 ⟨rfl, hb2⟩
    obtain ⟨y0, y1, y2, y3, hly⟩ := HBX.out w2 hb2
    have HB2 := hid hb2
    clear hb2 HC1 hw1
    go_wp2_with fail
    refine (HC0.out w2).mono ?_
    rintro e w3 ⟨rfl, hb3⟩
    obtain ⟨x0, x1, x2, x3, hlx⟩ := HBX.out w3 (HB2.out.trans (hb3.mono HB2.out.size))
    have HB3 := hid (HB2.out.trans (hb3.mono HB2.out.size))
    clear hb3 HC0 y0 y1 y2 y3 hly HB2
    go_wp2_with fail
    refine (HROW.out _ _ w3.heap.size (heap_alloc_new w3 _) ?_).mono ?_
    · rw [ByteArray.size_append, ByteArray.size_append, h32]; omega
    rintro e w4 ⟨T, rfl, hT, hb4⟩
    have HT := hid hT
    have HB4 := hid (((HB1.out.trans (HB3.out.mono HB1.out.size)).alloc (Nat.le_trans HB1.out.size HB3.out.size) _).trans (hb4.mono (by have := HB1.out.size; have := HB3.out.size; simp; omega)))
    clear hT hb4 HROW
    go_wp2_with fail
    go_ret
    refine ⟨T, rfl, ?_, HB4.out⟩
    rw [HT.out]
    simp only [ByteArray.data_append, Array.toList_append, HS0.out]
    unfold evLine
    rw [HRM.out]
    simp [numT]
  · have hrm : roomT ⟨t, r, p, q⟩ = [45] := by unfold roomT; rw [if_neg hr]
    have HRM := hid hrm
    have HS0 := hid hS0
    have h45 : (ByteArray.mk #[45]).size = 1 := rfl
    clear hS0 hrm
    go_enter Tryz.func22, Tryz.ntmps22
    go_wp2_with fail
    rw [← hw1]
    refine (HC0.out w1).mono ?_
    rintro e w3 ⟨rfl, hb3⟩
    obtain ⟨x0, x1, x2, x3, hlx⟩ := HBX.out w3 hb3
    have HB3 := hid hb3
    clear hb3 HC0 hw1
    go_wp2_with fail
    refine (HROW.out _ _ w3.heap.size (heap_alloc_new w3 _) ?_).mono ?_
    · rw [ByteArray.size_append, ByteArray.size_append, h32, h45]; omega
    rintro e w4 ⟨T, rfl, hT, hb4⟩
    have HT := hid hT
    have HB4 := hid (((HB1.out.trans (HB3.out.mono HB1.out.size)).alloc (Nat.le_trans HB1.out.size HB3.out.size) _).trans (hb4.mono (by have := HB1.out.size; have := HB3.out.size; simp; omega)))
    clear hT hb4 HROW
    go_wp2_with fail
    go_ret
    refine ⟨T, rfl, ?_, HB4.out⟩
    rw [HT.out]
    simp only [ByteArray.data_append, Array.toList_append, HS0.out]
    unfold evLine
    rw [HRM.out]
    simp [numT]
end Go.Proofs.YthdmgighblhmhaaGreatDoor
