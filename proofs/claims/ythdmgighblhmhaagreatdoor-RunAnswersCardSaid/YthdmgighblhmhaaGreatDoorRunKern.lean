/- Package run: the contracts of goes, show and wire on a kernel that stands. Conditions: 'Desk', which the row lists. -/
import Derived.Test.YthdmgighblhmhaaGreatDoorRunAU
import Derived.Test.YthdmgighblhmhaaGreatDoorStandU
import Derived.Test.YthdmgighblhmhaaGreatDoorSnapSvU
import Derived.Deep.CutBlock
import Derived.Deep.RegionLaw
import Derived.Deep.DeepCutAuto
namespace Go.Proofs.YthdmgighblhmhaaGreatDoor
open Go.RowKit
set_option maxRecDepth 100000

abbrev rnT (kb : Nat) (p : Pl) (M : KM) (k : Kst) : Tg := kT 88 120 90 kb p M k
/-- An answer to a line that can be read, and the kernel then. -/
def AnsGot (w0 : World) (ts : List Tg) (kb : Nat) (q : List UInt8 × Kst) (e : Ending) (w' : World) : Prop :=
  ∃ (T : ByteArray) (er : Int) (M' : KM), e = .returned (.tuple #[.string T, errV er]) ∧ (er = 0 ∧ T.data.toList = q.1 ∨ er = 1 ∧ q.1 = rangeA) ∧ Stand w0 w' (rnT kb runPl M' q.2 :: ts)
section
variable {w0 w : World} {kb : Nat} {M : KM} {k : Kst} {ts : List Tg}
theorem rn_tick {us : List Tg} {i : Nat} {B : Int} (h : Stand w0 w us) (hi : us[i]? = some (rnT kb runPl M k)) (hk : KOk runPl k B) (hB : B < 4611686018427387904) :
    Calls Tryz.prog 58 #[.pointer (some ⟨kb, 0, none⟩)] w fun e w' => ∃ M', e = .returned (.agg #[.int .i64 (tick runPl k).1.tick, .int .i64 (tick runPl k).1.room, .int .i64 (tick runPl k).1.pc, .int .i64 (tick runPl k).1.what]) ∧ Stand w0 w' (us.set i (rnT kb runPl M' (tick runPl k).2)) := by
  have hl := h.get hi
  refine (ktick_any w kb M k runPl B runPl_ok hl.here.2 hk hB hl.here.1).mono ?_
  rintro e w' ⟨M', rfl, h1, h2, h3, h4⟩
  exact ⟨M', rfl, h.go i hi (k_went hl h1 h2 h3 h4)⟩
theorem rn_tick1 {t0 : Tg} {B : Int} (h : Stand w0 w (t0 :: rnT kb runPl M k :: ts)) (hk : KOk runPl k B) (hB : B < 4611686018427387904) :
    Calls Tryz.prog 58 #[.pointer (some ⟨kb, 0, none⟩)] w fun e w' => ∃ (a b c d : Int) (M' : KM), e = .returned (.agg #[.int .i64 a, .int .i64 b, .int .i64 c, .int .i64 d]) ∧ Stand w0 w' (t0 :: rnT kb runPl M' (tick runPl k).2 :: ts) := by
  refine (rn_tick (i := 1) h rfl hk hB).mono ?_
  rintro e w' ⟨M', rfl, h1⟩
  exact ⟨_, _, _, _, M', rfl, h1⟩
theorem Stand.tail1 {t0 : Tg} {us : List Tg} (h : Stand w0 w (t0 :: us)) : Stand w0 w us :=
  h.sub (fun i => i + 1) (fun i t hi => by rw [List.getElem?_cons_succ]; exact hi) (fun i j _ _ hne => by omega)

set_option maxHeartbeats 4000000 in
theorem goes_any {B : Int} (hk : KOk runPl k B) (hB : B ≤ 1000000) (n : Nat) (hn : n ≤ 100000) (h : Stand w0 w (rnT kb runPl M k :: ts)) :
    Calls Tryz.prog 56 #[.agg #[.pointer (some ⟨kb, 0, none⟩)], .int .i64 n] w (AnsGot w0 ts kb (if 100 < n then (rangeA, k) else (okA, goK runPl k n))) := by
  have hst1 := h.push 44 (.pointer (some ⟨kb, 0, none⟩))
  obtain ⟨w1, hw1⟩ : ∃ w1, w1 = w.alloc (.cells #[.pointer (some ⟨kb, 0, none⟩)] 44) := ⟨_, rfl⟩
  rw [← hw1] at hst1
  have HST := hid hst1
  have HK := hid hk
  clear hst1 hk h
  by_cases hn1 : 100 < n
  · rw [if_pos hn1]
    go_enter Tryz.func56, Tryz.ntmps56
    go_wp2_with fail
    rw [← hw1]
    go_ret2
    exact ⟨⟨#[]⟩, 1, M, rfl, .inr ⟨rfl, rfl⟩, HST.out.tail1⟩
  · rw [if_neg hn1]
    have hn2 : n ≤ 100 := by omega
    go_enter Tryz.func56, Tryz.ntmps56
    go_wp2_with fail
    rw [← hw1]
    clear hw1
    go_loopw [10] (fun v10 wr => ∃ (i : Nat) (M' : KM), i ≤ n ∧ v10 = .int .i64 i ∧ Stand w0 wr (bxT w.heap.size 44 (.pointer (some ⟨kb, 0, none⟩)) :: rnT kb runPl M' (goK runPl k i) :: ts)) (fun v10 _ => n - (intOf v10).toNat)
    case atStart => exact ⟨0, M, by omega, rfl, HST.out⟩
    case round =>
      obtain ⟨i, M', hi, rfl, hst⟩ := hrel
      have HS := hid hst
      have x0 : wr.cell? ⟨w.heap.size, 0, none⟩ = some (.pointer (some ⟨kb, 0, none⟩)) := (show Boxed wr w.heap.size 44 (.pointer (some ⟨kb, 0, none⟩)) from (hst.get (i := 0) rfl).here).cell
      clear hst
      by_cases hin : i < n
      · have HT : Hid (Calls Tryz.prog 58 #[.pointer (some ⟨kb, 0, none⟩)] wr fun e w' => ∃ (a b c d : Int) (M' : KM), e = .returned (.agg #[.int .i64 a, .int .i64 b, .int .i64 c, .int .i64 d]) ∧ Stand w0 w' (bxT w.heap.size 44 (.pointer (some ⟨kb, 0, none⟩)) :: rnT kb runPl M' (goK runPl k (i + 1)) :: ts)) :=
          hid (rn_tick1 HS.out (goK_ok runPl_ok HK.out i) (by omega))
        go_wp2_with (go_at_call 58; refine HT.out.mono ?_; rintro e w3 ⟨ea, eb, ec, ed, M2, rfl, hst3⟩; have HS3 := hid hst3; clear hst3 HT)
        go_roundw
        case rel => exact ⟨i + 1, M2, by omega, by go_num, HS3.out⟩
        case measure => simp [intOf]; omega
      · obtain rfl : i = n := by omega
        go_wp2_with fail
        go_ret2
        exact ⟨⟨#[111, 107]⟩, 0, M', rfl, .inl ⟨rfl, rfl⟩, HS.out.tail1⟩

theorem rn_state {B : Int} (hk : KOk runPl k B) (r : Nat) (h : Stand w0 w (rnT kb runPl M k :: ts)) : ∃ s er, (er = 0 ∧ (if r < 2 then rowA (roomNums (k.rooms.getD r St.zero)) else rangeA) = rowA (roomNums s) ∨ er = 1 ∧ (if r < 2 then rowA (roomNums (k.rooms.getD r St.zero)) else rangeA) = rangeA) ∧ (∀ n ∈ roomNums s, 0 ≤ n ∧ n ≤ 1000) ∧
    ∀ w', Below w.heap.size w w' → Calls Tryz.prog 82 #[.pointer (some ⟨kb, 0, none⟩), .int .i64 r] w' fun e w'' => e = .returned (.tuple #[.agg (stV s), errV er]) ∧ Below w'.heap.size w' w'' := by
  have hlen := run_rooms hk
  have hst : ∀ w', Below w.heap.size w w' → Calls Tryz.prog 82 #[.pointer (some ⟨kb, 0, none⟩), .int .i64 r] w' (StateV w' (stateOf k r)) := fun w' hb => kstate_any (r : Int) (by rw [hlen]; decide) ((h.get (i := 0) rfl).here.1.new hb)
  unfold StateV at hst
  by_cases hr : r < 2
  · have e1 : stateOf k (r : Int) = (k.rooms.getD r St.zero, 0) := by
      unfold stateOf inB
      rw [if_pos (decide_eq_true (by omega)), Int.toNat_natCast]
    rw [e1] at hst
    exact ⟨k.rooms.getD r St.zero, 0, .inl ⟨rfl, by rw [if_pos hr]⟩, room_fit hk r, hst⟩
  · have e1 : stateOf k (r : Int) = (St.zero, 1) := by
      unfold stateOf inB
      rw [if_neg (by rw [decide_eq_false (by omega)]; decide)]
    rw [e1] at hst
    exact ⟨St.zero, 1, .inr ⟨rfl, by rw [if_neg hr]⟩, (fun n hn => by
      have h2 : n = 0 := by simpa [roomNums, St.zero] using hn
      omega), hst⟩
theorem row_letter (hd : Desk w) : ∀ (w' : World) (A : Option Addr) (n c : Nat) (l : List Int), Below w.heap.size w w' → l.length = n → Sl w' A 1 n (ints l) → (∀ x ∈ l, 0 ≤ x ∧ x ≤ 1000000) → 1 ≤ n → n ≤ 40 → Calls Tryz.prog 83 #[.slice A n c] w' fun e w'' => ∃ T : ByteArray, e = .returned (.string T) ∧ T.data.toList = rowA l ∧ Below w'.heap.size w' w'' := fun w' A n c l hb hl hs hfit h1 h40 => by
  subst hl
  refine (runrow_any w' A c l (hd.new hb) hs (fun x hx => by have := hfit x hx; omega) h1 h40).mono ?_
  rintro e w'' ⟨rfl, h2⟩
  exact ⟨_, rfl, rfl, h2⟩

set_option maxHeartbeats 8000000 in
theorem show_any {B : Int} (hk : KOk runPl k B) (hd : Desk w) (r : Nat) (h : Stand w0 w (rnT kb runPl M k :: ts)) :
    Calls Tryz.prog 59 #[.agg #[.pointer (some ⟨kb, 0, none⟩)], .int .i64 r] w (AnsGot w0 ts kb (if r < 2 then rowA (roomNums (k.rooms.getD r St.zero)) else rangeA, k)) := by
  obtain ⟨s, er, her, hnums, hstate⟩ := rn_state hk r h
  generalize (if r < 2 then rowA (roomNums (k.rooms.getD r St.zero)) else rangeA) = ans at her ⊢
  have HST := hid h
  have HROW := hid (row_letter hd)
  have HS := hid hstate
  have HER := hid her
  obtain ⟨w1, hw1⟩ : ∃ w1, w1 = w.alloc (.cells #[.pointer (some ⟨kb, 0, none⟩)] 44) := ⟨_, rfl⟩
  have hb1 : Below w.heap.size w w1 := by rw [hw1]; exact (Below.refl _ _).alloc (Nat.le_refl _) _
  have HB1 := hid hb1
  have HNUM : Hid (∀ n ∈ roomNums s, 0 ≤ n ∧ n ≤ 1000000) := hid fun n hn => by have := hnums n hn; omega
  obtain ⟨pc, c0, c1, c2, c3, c4, c5, fl⟩ := s
  have HST0 := hid (HS.out w1 hb1)
  unfold stV at HST0
  simp only [] at HST0
  clear h hd hk her hnums hstate hb1 HS
  obtain ⟨i0, hi0, hz0, hz1, hz2⟩ := info_parts Tryz.infoInt
  go_enter Tryz.func59, Tryz.ntmps59
  cases fl
  · go_upto_region 5 with (go_at_call 82; rw [← hw1]; refine HST0.out.mono ?_; rintro e w7 ⟨rfl, hb7⟩; have HB7 := hid (HB1.out.trans (hb7.mono HB1.out.size)); clear hb7 HST0 hw1)
    obtain ⟨w8, hw8⟩ : ∃ w8, w8 = w7.alloc (.cells #[.int .i64 pc, .int .i64 c0, .int .i64 c1, .int .i64 c2, .int .i64 c3, .int .i64 c4, .int .i64 c5, .bool false] 81) := ⟨_, rfl⟩
    have hsb : w8.heap[w7.heap.size]? = some (.cells #[.int .i64 pc, .int .i64 c0, .int .i64 c1, .int .i64 c2, .int .i64 c3, .int .i64 c4, .int .i64 c5, .bool false] 81 (0, 0)) := by rw [hw8]; exact heap_alloc_new w7 _
    have HB8 : Hid (Below w.heap.size w w8) := by rw [hw8]; exact HB7.out.alloc HB7.out.size _
    have d0 := blk_cell hsb 0
    have hd := blk_lt hsb
    simp at d0
    have HSB8 : Hid (∀ o : Obj, (w8.alloc o).heap[w7.heap.size]? = some (.cells #[.int .i64 pc, .int .i64 c0, .int .i64 c1, .int .i64 c2, .int .i64 c3, .int .i64 c4, .int .i64 c5, .bool false] 81 (0, 0))) := fun o => (blk_alloc (blk_lt hsb) o).trans hsb
    have HSB9 : Hid (∀ o o' : Obj, ((w8.alloc o).alloc o').heap[w7.heap.size]? = some (.cells #[.int .i64 pc, .int .i64 c0, .int .i64 c1, .int .i64 c2, .int .i64 c3, .int .i64 c4, .int .i64 c5, .bool false] 81 (0, 0))) := fun o o' => (blk_alloc (blk_lt ((blk_alloc (blk_lt hsb) o).trans hsb)) o').trans ((blk_alloc (blk_lt hsb) o).trans hsb)
    rw [← hw8]
    clear hw8 hsb
    generalize w7.heap.size = sb at d0 hd HSB8 HSB9 ⊢
    go_region_law (first
      | (refine step_append_rowS rfl (.tmp 20) (.tmp 22) 63 rfl 3 i0 (.int .i64 0) 1 8 Tryz.underlying63 hi0 hz0 hz1 hz2 rfl (by decide) _ _ _ rfl _ _ _ rfl [.int .i64 pc] [.int .i64 c0, .int .i64 c1, .int .i64 c2, .int .i64 c3, .int .i64 c4, .int .i64 c5] (row_drew (row_lit (heap_alloc_new w8 _))) (sl_drew (sl_six (HSB8.out _))) (by intro u hu; simp at hu; rcases hu with rfl | rfl | rfl | rfl | rfl | rfl <;> rfl) (by decide) (by decide) ?_; intro A7 cap7 w9 hrow9 hkeep9 hin9; have HR9 := hid hrow9; have HR0 := hid (room9 HB8.out ((Below.refl _ _).alloc (Nat.le_refl _) _) (Nat.le_refl _) hkeep9 hin9); have HX9 := hid (one_sl w9 (.int .i64 0) 3); clear hrow9 hkeep9 hin9)
      | (refine step_append_rowS rfl (.tmp 20) (.tmp 22) 63 rfl 3 i0 (.int .i64 0) 1 8 Tryz.underlying63 hi0 hz0 hz1 hz2 rfl (by decide) _ _ _ rfl _ _ _ rfl [.int .i64 pc] [.int .i64 c0, .int .i64 c1, .int .i64 c2, .int .i64 c3, .int .i64 c4, .int .i64 c5] (row_drew ((row_lit (heap_alloc_new w8 _)).alloc _)) (sl_drew (sl_six (HSB9.out _ _))) (by intro u hu; simp at hu; rcases hu with rfl | rfl | rfl | rfl | rfl | rfl <;> rfl) (by decide) (by decide) ?_; intro A7 cap7 w9 hrow9 hkeep9 hin9; have HR9 := hid hrow9; have HR0 := hid (room9 HB8.out (((Below.refl _ _).alloc (Nat.le_refl _) _).alloc (by simp) _) (Nat.le_refl _) hkeep9 hin9); have HX9 := hid (sl_one ((hkeep9.block (w8.heap.size + 1) (by simp) (by simp [InA])).trans (alloc2_new w8 _ _))); clear hrow9 hkeep9 hin9)
      | (refine step_append_rowS rfl (.tmp 20) (.tmp 22) 63 rfl 3 i0 (.int .i64 0) 1 8 Tryz.underlying63 hi0 hz0 hz1 hz2 rfl (by decide) _ _ _ rfl _ _ _ rfl [.int .i64 pc] [.int .i64 c0, .int .i64 c1, .int .i64 c2, .int .i64 c3, .int .i64 c4, .int .i64 c5] (row_drew (row_lit (alloc2_new w8 _ _))) (sl_drew (sl_six (HSB9.out _ _))) (by intro u hu; simp at hu; rcases hu with rfl | rfl | rfl | rfl | rfl | rfl <;> rfl) (by decide) (by decide) ?_; intro A7 cap7 w9 hrow9 hkeep9 hin9; have HR9 := hid hrow9; have HR0 := hid (room9 HB8.out (((Below.refl _ _).alloc (Nat.le_refl _) _).alloc (by simp) _) (Nat.le_succ _) hkeep9 hin9); have HX9 := hid (sl_one ((hkeep9.block w8.heap.size (by simp; omega) (by simp [InA])).trans (alloc2_old w8 _ _))); clear hrow9 hkeep9 hin9)
      | (refine step_append_rowS rfl (.tmp 23) (.tmp 25) 63 rfl 3 i0 (.int .i64 0) 1 8 Tryz.underlying63 hi0 hz0 hz1 hz2 rfl (by decide) _ _ _ rfl _ _ _ rfl [.int .i64 pc, .int .i64 c0, .int .i64 c1, .int .i64 c2, .int .i64 c3, .int .i64 c4, .int .i64 c5] [.int .i64 0] (HR9.out.alloc _) HX9.out (by intro u hu; simp at hu; subst hu; rfl) (by decide) (by decide) ?_; intro A8 cap8 w10 hrow10 hkeep10 hin10; have HR10 := hid hrow10; have HB10 := hid (room10 HR0.out ((Below.refl _ _).alloc (Nat.le_refl _) _) hkeep10); clear hrow10 hkeep10 hin10)
      | (refine step_append_rowS rfl (.tmp 23) (.tmp 25) 63 rfl 3 i0 (.int .i64 0) 1 8 Tryz.underlying63 hi0 hz0 hz1 hz2 rfl (by decide) _ _ _ rfl _ _ _ rfl [.int .i64 pc, .int .i64 c0, .int .i64 c1, .int .i64 c2, .int .i64 c3, .int .i64 c4, .int .i64 c5] [.int .i64 0] HR9.out HX9.out (by intro u hu; simp at hu; subst hu; rfl) (by decide) (by decide) ?_; intro A8 cap8 w10 hrow10 hkeep10 hin10; have HR10 := hid hrow10; have HB10 := hid (room10 HR0.out (Below.refl _ _) hkeep10); clear hrow10 hkeep10 hin10)
      | (go_simp; go_at_call 83; refine (HROW.out w10 _ 8 _ [pc, c0, c1, c2, c3, c4, c5, 0] HB10.out rfl HR10.out.sl HNUM.out (by decide) (by decide)).mono ?_; rintro e w11 ⟨T11, rfl, hT11, hb11⟩; have HB11 := hid (HB10.out.trans (hb11.mono HB10.out.size)); have HT11 := hid hT11; clear hT11 hb11))
    all_goals
      go_wp2_with fail
      go_ret2
      refine ⟨T11, er, M, rfl, ?_, HST.out.new HB11.out⟩
      rcases HER.out with h1 | h1
      · exact .inl ⟨h1.1, HT11.out.trans h1.2.symm⟩
      · exact .inr h1
  · go_upto_region 5 with (go_at_call 82; rw [← hw1]; refine HST0.out.mono ?_; rintro e w7 ⟨rfl, hb7⟩; have HB7 := hid (HB1.out.trans (hb7.mono HB1.out.size)); clear hb7 HST0 hw1)
    obtain ⟨w8, hw8⟩ : ∃ w8, w8 = w7.alloc (.cells #[.int .i64 pc, .int .i64 c0, .int .i64 c1, .int .i64 c2, .int .i64 c3, .int .i64 c4, .int .i64 c5, .bool true] 81) := ⟨_, rfl⟩
    have hsb : w8.heap[w7.heap.size]? = some (.cells #[.int .i64 pc, .int .i64 c0, .int .i64 c1, .int .i64 c2, .int .i64 c3, .int .i64 c4, .int .i64 c5, .bool true] 81 (0, 0)) := by rw [hw8]; exact heap_alloc_new w7 _
    have HB8 : Hid (Below w.heap.size w w8) := by rw [hw8]; exact HB7.out.alloc HB7.out.size _
    have d0 := blk_cell hsb 0
    have hd := blk_lt hsb
    simp at d0
    have HSB8 : Hid (∀ o : Obj, (w8.alloc o).heap[w7.heap.size]? = some (.cells #[.int .i64 pc, .int .i64 c0, .int .i64 c1, .int .i64 c2, .int .i64 c3, .int .i64 c4, .int .i64 c5, .bool true] 81 (0, 0))) := fun o => (blk_alloc (blk_lt hsb) o).trans hsb
    have HSB9 : Hid (∀ o o' : Obj, ((w8.alloc o).alloc o').heap[w7.heap.size]? = some (.cells #[.int .i64 pc, .int .i64 c0, .int .i64 c1, .int .i64 c2, .int .i64 c3, .int .i64 c4, .int .i64 c5, .bool true] 81 (0, 0))) := fun o o' => (blk_alloc (blk_lt ((blk_alloc (blk_lt hsb) o).trans hsb)) o').trans ((blk_alloc (blk_lt hsb) o).trans hsb)
    rw [← hw8]
    clear hw8 hsb
    generalize w7.heap.size = sb at d0 hd HSB8 HSB9 ⊢
    go_region_law (first
      | (refine step_append_rowS rfl (.tmp 20) (.tmp 22) 63 rfl 3 i0 (.int .i64 0) 1 8 Tryz.underlying63 hi0 hz0 hz1 hz2 rfl (by decide) _ _ _ rfl _ _ _ rfl [.int .i64 pc] [.int .i64 c0, .int .i64 c1, .int .i64 c2, .int .i64 c3, .int .i64 c4, .int .i64 c5] (row_drew (row_lit (heap_alloc_new w8 _))) (sl_drew (sl_six (HSB8.out _))) (by intro u hu; simp at hu; rcases hu with rfl | rfl | rfl | rfl | rfl | rfl <;> rfl) (by decide) (by decide) ?_; intro A7 cap7 w9 hrow9 hkeep9 hin9; have HR9 := hid hrow9; have HR0 := hid (room9 HB8.out ((Below.refl _ _).alloc (Nat.le_refl _) _) (Nat.le_refl _) hkeep9 hin9); have HX9 := hid (one_sl w9 (.int .i64 1) 3); clear hrow9 hkeep9 hin9)
      | (refine step_append_rowS rfl (.tmp 20) (.tmp 22) 63 rfl 3 i0 (.int .i64 0) 1 8 Tryz.underlying63 hi0 hz0 hz1 hz2 rfl (by decide) _ _ _ rfl _ _ _ rfl [.int .i64 pc] [.int .i64 c0, .int .i64 c1, .int .i64 c2, .int .i64 c3, .int .i64 c4, .int .i64 c5] (row_drew ((row_lit (heap_alloc_new w8 _)).alloc _)) (sl_drew (sl_six (HSB9.out _ _))) (by intro u hu; simp at hu; rcases hu with rfl | rfl | rfl | rfl | rfl | rfl <;> rfl) (by decide) (by decide) ?_; intro A7 cap7 w9 hrow9 hkeep9 hin9; have HR9 := hid hrow9; have HR0 := hid (room9 HB8.out (((Below.refl _ _).alloc (Nat.le_refl _) _).alloc (by simp) _) (Nat.le_refl _) hkeep9 hin9); have HX9 := hid (sl_one ((hkeep9.block (w8.heap.size + 1) (by simp) (by simp [InA])).trans (alloc2_new w8 _ _))); clear hrow9 hkeep9 hin9)
      | (refine step_append_rowS rfl (.tmp 20) (.tmp 22) 63 rfl 3 i0 (.int .i64 0) 1 8 Tryz.underlying63 hi0 hz0 hz1 hz2 rfl (by decide) _ _ _ rfl _ _ _ rfl [.int .i64 pc] [.int .i64 c0, .int .i64 c1, .int .i64 c2, .int .i64 c3, .int .i64 c4, .int .i64 c5] (row_drew (row_lit (alloc2_new w8 _ _))) (sl_drew (sl_six (HSB9.out _ _))) (by intro u hu; simp at hu; rcases hu with rfl | rfl | rfl | rfl | rfl | rfl <;> rfl) (by decide) (by decide) ?_; intro A7 cap7 w9 hrow9 hkeep9 hin9; have HR9 := hid hrow9; have HR0 := hid (room9 HB8.out (((Below.refl _ _).alloc (Nat.le_refl _) _).alloc (by simp) _) (Nat.le_succ _) hkeep9 hin9); have HX9 := hid (sl_one ((hkeep9.block w8.heap.size (by simp; omega) (by simp [InA])).trans (alloc2_old w8 _ _))); clear hrow9 hkeep9 hin9)
      | (refine step_append_rowS rfl (.tmp 23) (.tmp 25) 63 rfl 3 i0 (.int .i64 0) 1 8 Tryz.underlying63 hi0 hz0 hz1 hz2 rfl (by decide) _ _ _ rfl _ _ _ rfl [.int .i64 pc, .int .i64 c0, .int .i64 c1, .int .i64 c2, .int .i64 c3, .int .i64 c4, .int .i64 c5] [.int .i64 1] (HR9.out.alloc _) HX9.out (by intro u hu; simp at hu; subst hu; rfl) (by decide) (by decide) ?_; intro A8 cap8 w10 hrow10 hkeep10 hin10; have HR10 := hid hrow10; have HB10 := hid (room10 HR0.out ((Below.refl _ _).alloc (Nat.le_refl _) _) hkeep10); clear hrow10 hkeep10 hin10)
      | (refine step_append_rowS rfl (.tmp 23) (.tmp 25) 63 rfl 3 i0 (.int .i64 0) 1 8 Tryz.underlying63 hi0 hz0 hz1 hz2 rfl (by decide) _ _ _ rfl _ _ _ rfl [.int .i64 pc, .int .i64 c0, .int .i64 c1, .int .i64 c2, .int .i64 c3, .int .i64 c4, .int .i64 c5] [.int .i64 1] HR9.out HX9.out (by intro u hu; simp at hu; subst hu; rfl) (by decide) (by decide) ?_; intro A8 cap8 w10 hrow10 hkeep10 hin10; have HR10 := hid hrow10; have HB10 := hid (room10 HR0.out (Below.refl _ _) hkeep10); clear hrow10 hkeep10 hin10)
      | (go_simp; go_at_call 83; refine (HROW.out w10 _ 8 _ [pc, c0, c1, c2, c3, c4, c5, 1] HB10.out rfl HR10.out.sl HNUM.out (by decide) (by decide)).mono ?_; rintro e w11 ⟨T11, rfl, hT11, hb11⟩; have HB11 := hid (HB10.out.trans (hb11.mono HB10.out.size)); have HT11 := hid hT11; clear hT11 hb11))
    all_goals
      go_wp2_with fail
      go_ret2
      refine ⟨T11, er, M, rfl, ?_, HST.out.new HB11.out⟩
      rcases HER.out with h1 | h1
      · exact .inl ⟨h1.1, HT11.out.trans h1.2.symm⟩
      · exact .inr h1

theorem rn_wire {B : Int} (hk : KOk runPl k B) (hB : B ≤ 1000000) (i : Nat) (h : Stand w0 w (rnT kb runPl M k :: ts)) : ∃ (items : List Int) (lost er : Int), (er = 0 ∧ (match k.lines[i]? with | some x => rowA (x.lost :: x.items) | none => rangeA) = rowA (lost :: items) ∨ er = 1 ∧ (match k.lines[i]? with | some x => rowA (x.lost :: x.items) | none => rangeA) = rangeA) ∧ (∀ n ∈ lost :: items, 0 ≤ n ∧ n ≤ 1000000) ∧ items.length ≤ 6 ∧
    ∀ w', Below w.heap.size w w' → Calls Tryz.prog 84 #[.pointer (some ⟨kb, 0, none⟩), .int .i64 i] w' (WireV w' items lost er) := by
  have hlen := run_lines hk
  have hst : ∀ w', Below w.heap.size w w' → Calls Tryz.prog 84 #[.pointer (some ⟨kb, 0, none⟩), .int .i64 i] w' (WireV w' (wireOf k i).1.1 (wireOf k i).1.2 (wireOf k i).2) := fun w' hb => kwire_any (i : Int) runPl B hk (by rw [hlen]; decide) ((h.get (i := 0) rfl).here.1.new hb)
  cases hg : k.lines[i]? with
  | some x =>
    have hr := (List.getElem?_eq_some_iff.1 hg).1
    have e1 : wireOf k (i : Int) = ((x.items, x.lost), 0) := by
      unfold wireOf inB
      rw [if_pos (decide_eq_true (by omega)), Int.toNat_natCast, List.getD_eq_getElem?_getD, hg]; rfl
    rw [e1] at hst
    have hf := wire_fit hk hB (List.mem_of_getElem? hg)
    exact ⟨x.items, x.lost, 0, .inl ⟨rfl, rfl⟩, hf.1, hf.2, hst⟩
  | none =>
    have hr := List.getElem?_eq_none_iff.1 hg
    have e1 : wireOf k (i : Int) = (([], 0), 1) := by
      unfold wireOf inB
      rw [if_neg (by rw [decide_eq_false (by omega)]; decide)]
    rw [e1] at hst
    exact ⟨[], 0, 1, .inr ⟨rfl, rfl⟩, (fun n hn => by
      have h2 : n = 0 := by simpa using hn
      omega), by decide, hst⟩
set_option maxHeartbeats 8000000 in
theorem wire_any {B : Int} (hk : KOk runPl k B) (hB : B ≤ 1000000) (hd : Desk w) (i : Nat) (h : Stand w0 w (rnT kb runPl M k :: ts)) :
    Calls Tryz.prog 60 #[.agg #[.pointer (some ⟨kb, 0, none⟩)], .int .i64 i] w (AnsGot w0 ts kb ((match k.lines[i]? with | some x => rowA (x.lost :: x.items) | none => rangeA), k)) := by
  obtain ⟨items, lost, er, her, hnums, hx6, hwire⟩ := rn_wire hk hB i h
  generalize (match k.lines[i]? with | some x => rowA (x.lost :: x.items) | none => rangeA) = ans at her ⊢
  have HST := hid h
  have HROW := hid (row_letter hd)
  have HER := hid her
  obtain ⟨w1, hw1⟩ : ∃ w1, w1 = w.alloc (.cells #[.pointer (some ⟨kb, 0, none⟩)] 44) := ⟨_, rfl⟩
  have hb1 : Below w.heap.size w w1 := by rw [hw1]; exact (Below.refl _ _).alloc (Nat.le_refl _) _
  have HB1 := hid hb1
  have HNUM := hid hnums
  have hwr := hwire w1 hb1
  unfold WireV at hwr
  have HWR := hid hwr
  obtain ⟨ni, hni⟩ : ∃ ni, items.length = ni := ⟨_, rfl⟩
  rw [hni] at hx6 HWR
  have HNI := hid hni
  clear h hd hk her hnums hwire hb1 hwr hni
  obtain ⟨i0, hi0, hz0, hz1, hz2⟩ := info_parts Tryz.infoInt
  go_enter Tryz.func60, Tryz.ntmps60
  go_wp2_with (first
    | (go_at_call 84; rw [← hw1]; refine HWR.out.mono ?_; rintro e w7 ⟨iA, icap, rfl, hrow, _, hb7⟩; have HB7 := hid (HB1.out.trans (hb7.mono HB1.out.size)); have HR7 := hid hrow; clear hrow hb7 HWR hw1)
    | (at_builtin; refine wpList_append_row _ rfl _ _ 63 rfl 3 i0 (.int .i64 0) 1 8 Tryz.underlying63 hi0 hz0 hz1 hz2 rfl (by decide) (some ⟨w7.heap.size + 1, 0, none⟩) 1 1 [.int .i64 lost] rfl (row_lit (alloc2_new w7 _ _)) iA ni icap (ints items) rfl ?c1 ?c2 ?c3 ?c4 ?_))
  case c1 => exact (HR7.out.sl.new ((Below.refl _ _).alloc (Nat.le_refl _) _)).new ((Below.refl _ _).alloc (Nat.le_refl _) _)
  case c2 => intro u hu; unfold ints at hu; obtain ⟨n, _, rfl⟩ := List.mem_map.1 hu; rfl
  case c3 => unfold maxLen; omega
  case c4 => omega
  intro A9 cap9 w9 hrow9 hkeep9 hin9
  have HR9 := hid hrow9
  have HB9 := hid (wire_below HB7.out hkeep9)
  clear hrow9 hkeep9 hin9
  go_wp2_with fail
  refine (HROW.out w9 _ (1 + ni) _ (lost :: items) HB9.out (by rw [List.length_cons, HNI.out]; omega) HR9.out.sl HNUM.out (by omega) (by omega)).mono ?_
  rintro e w11 ⟨T11, rfl, hT11, hb11⟩
  have HB11 := hid (HB9.out.trans (hb11.mono HB9.out.size))
  have HT11 := hid hT11
  clear hT11 hb11
  go_wp2_with fail
  go_ret2
  refine ⟨T11, er, M, rfl, ?_, HST.out.new HB11.out⟩
  rcases HER.out with h1 | h1
  · exact .inl ⟨h1.1, HT11.out.trans h1.2.symm⟩
  · exact .inr h1
end
end Go.Proofs.YthdmgighblhmhaaGreatDoor
