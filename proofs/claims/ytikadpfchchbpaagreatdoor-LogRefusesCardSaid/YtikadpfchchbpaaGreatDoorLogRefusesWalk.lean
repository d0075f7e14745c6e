/- The walk of framelaw4.LogRefuses: it returns true at every input. -/
import Derived.Test.YtikadpfchchbpaaGreatDoorLogKeep
import Derived.Test.YtikadpfchchbpaaGreatDoorLogNew
import Derived.Test.YtikadpfchchbpaaGreatDoorKernelCountsWalk
import Derived.Test.YtikadpfchchbpaaGreatDoorDoorU
namespace Go.Proofs.YtikadpfchchbpaaGreatDoor
open Go.RowKit
set_option maxRecDepth 100000

theorem two_ok : planChk (countPl 2) = 0 := countPl_ok 2 (by decide) (by decide)
theorem two_rooms (n : Nat) : (runK (countPl 2) n).rooms.length = 2 := by
  rw [(runK_ok (planChk_ok two_ok) n).rooms]; rfl
theorem two_time (n : Nat) : (runK (countPl 2) n).time = n := runK_time _ (planChk_ok two_ok) n
theorem lnew_count {w : World} {B c1 c2 : Nat} {A1 A2 : Option Addr} {rows : List Ro} (hf : Forms w) (h : Counted w B 2 A1 c1 rows A2 c2) :
    Calls Tryz.prog 12 #[.agg #[.slice A1 2 c1, .int .i64 2, .slice A2 2 c2, .slice none 0 0]] w (LMade w (countPl 2)) := by
  have hm := h.many
  have hl : (countSpans 2).length = 2 := by simp [countSpans]
  have hpl := counted_pl h
  have hnew := lnew_any w (countPM 2 A1 c1 rows A2 c2) hf (counted_plan h (by decide)) (by rw [hpl]; exact two_ok)
  rw [hpl] at hnew
  simp only [countPM, hm, hl] at hnew
  exact hnew

section
variable {w0 w : World} {lb kb : Nat} {v0 v1 v2 v3 : Value} {bs : ByteArray} {p : Pl} {k : Kst}
theorem LogAt.below (h : LogAt w0 w lb kb v0 v1 v2 v3 p k bs) : Below w0.heap.size w0 w := by obtain ⟨M, h⟩ := h; exact h.below
theorem LogAt.timed (h : LogAt w0 w lb kb v0 v1 v2 v3 p k bs) : Calls Tryz.prog 15 #[.pointer (some ⟨lb, 0, none⟩)] w fun e w' => e = .returned (.int .i64 k.time) ∧ w = w' := by
  obtain ⟨M, h⟩ := h
  exact ltime_any (show w.heap[lb]? = some (.cells (logCells v0 v1 v2 v3 kb bs) 93 (0, 0)) from (h.get (i := 1) rfl).here) (h.get (i := 0) rfl).here.1
theorem LogAt.bytes (h : LogAt w0 w lb kb v0 v1 v2 v3 p k bs) : Calls Tryz.prog 16 #[.pointer (some ⟨lb, 0, none⟩)] w fun e w' => e = .returned (.int .i64 bs.size) ∧ w = w' := by
  obtain ⟨M, h⟩ := h
  exact lbytes_any (show w.heap[lb]? = some (.cells (logCells v0 v1 v2 v3 kb bs) 93 (0, 0)) from (h.get (i := 1) rfl).here)
end

theorem refuses_ret {w w' : World} {a : Act} (h : a.tmps[4]? = some (.bool true)) (hd : a.defers = []) (hb : Below w.heap.size w w') : bodyPost Tryz.prog Tryz.f4 (fun e w' => e = .returned (.bool true) ∧ Below w.heap.size w w') .ret a w' :=
  bodyPost_ret (v := .bool true) (by simp [results, Tryz.results4, go_sem, h]) hd ⟨rfl, hb⟩

set_option maxHeartbeats 4000000 in
theorem logRefuses_walk {w : World} (hg : Handle w) (hf : Forms w) (_ : Names w) (hp : Pows w) (hpl : 3 < w.heap.size) (n cell : Int) :
    Calls Tryz.prog 4 #[.int .i64 n, .int .i64 cell] w fun e w' => e = .returned (.bool true) ∧ Below w.heap.size w w' := by
  have HG := hid hg
  have HF := hid hf
  have HP := hid hp
  have HPL := hid hpl
  clear hg hf hp hpl
  go_enter Tryz.func4, Tryz.ntmps4
  go_upto_region 4 with (first
    | (go_at_call 6; refine (counting_any 2 (by decide) _).mono ?_; rintro e w1 ⟨A1, c1, rows, A2, c2, rfl, hcnt, hb1⟩; have HNEW := hid (lnew_count (HF.out.new hb1) hcnt); have HB1 := hid hb1; clear hcnt hb1)
    | (go_at_call 12; refine HNEW.out.mono ?_; rintro e w2 ⟨lb, kb, M, v0, v1, v2, v3, rfl, hst⟩; have HL : Hid (LogAt w w2 lb kb v0 v1 v2 v3 (countPl 2) (runK (countPl 2) 0) ⟨#[]⟩) := ⟨M, hst.base HB1.out⟩; clear hst HNEW HB1))
  rcases (show n < 0 ∨ (100 < n ∧ 0 ≤ n) ∨ (0 ≤ n ∧ n ≤ 100) by omega) with h | ⟨h, h'⟩ | ⟨h, h'⟩
  · go_wp2_with (go_at_call 13; refine (lgo_bad n (.inl h) HL.out).mono ?_; rintro e w3 ⟨rfl, rfl⟩)
    rcases (show (cell < 0 ∨ (6 ≤ cell ∧ 0 ≤ cell)) ∨ (0 ≤ cell ∧ cell < 6) by omega) with hc | ⟨hc, hc'⟩
    · refine (lpoke_bad 0 cell 5 2 (two_rooms 0) (by decide) (by omega) HL.out).mono ?_
      rintro e w4 ⟨rfl, hl4⟩
      have HL4 := hid hl4
      have hz : (((⟨#[]⟩ : ByteArray).size : Nat) : Int) = 0 := rfl
      clear hl4 HL
      rcases hc with hc | ⟨hc, hc'⟩
      all_goals
        try have d6 : decide (cell < 6) = false := decide_eq_false (by omega)
        try have d0 : decide (0 ≤ cell) = false := decide_eq_false (by omega)
        have HES : Hid (Calls Tryz.prog 7 #[errV 1, .int .i64 1] w4 fun ev w' => ev = .returned (.bool true) ∧ Below w4.heap.size w4 w') := error_same 1 w4 (HG.out.new HL4.out.below)
        rw [errV_pos (by decide)] at HES ⊢
        go_wp2_with (first
          | (go_at_call 7; refine HES.out.mono ?_; rintro e w5 ⟨rfl, hb5⟩; have HL5 := hid (HL4.out.new hb5); clear hb5 HES)
          | (go_at_call 16; refine HL5.out.bytes.mono ?_; rintro e w6 ⟨rfl, rfl⟩))
        exact refuses_ret rfl rfl HL5.out.below
    · refine (lpoke_ok HP.out HPL.out 0 cell 5 2 (two_rooms 0) (by decide) (by decide) ⟨hc, hc'⟩ (by decide) (by decide) HL.out).mono ?_
      rintro e w4 ⟨rfl, bs', hb1, hb2, hl4⟩
      have HL4 := hid hl4
      have hz : ((bs'.size : Nat) : Int) ≠ 0 := by have : (0 : Nat) < bs'.size := hb1; omega
      have hz' : (((bs'.size : Nat) : Int) == 0) = false := by simpa using hz
      clear hl4 HL hb1 hb2 hz
      have HES : Hid (Calls Tryz.prog 7 #[errV 1, .int .i64 1] w4 fun ev w' => ev = .returned (.bool true) ∧ Below w4.heap.size w4 w') := error_same 1 w4 (HG.out.new HL4.out.below)
      rw [errV_pos (by decide)] at HES ⊢
      go_wp2_with (first
        | (go_at_call 7; refine HES.out.mono ?_; rintro e w5 ⟨rfl, hb5⟩; have HL5 := hid (HL4.out.new hb5); clear hb5 HES)
        | (go_at_call 16; refine HL5.out.bytes.mono ?_; rintro e w6 ⟨rfl, rfl⟩))
      exact refuses_ret rfl rfl HL5.out.below
  · go_wp2_with (go_at_call 13; refine (lgo_bad n (.inr h) HL.out).mono ?_; rintro e w3 ⟨rfl, rfl⟩)
    rcases (show (cell < 0 ∨ (6 ≤ cell ∧ 0 ≤ cell)) ∨ (0 ≤ cell ∧ cell < 6) by omega) with hc | ⟨hc, hc'⟩
    · refine (lpoke_bad 0 cell 5 2 (two_rooms 0) (by decide) (by omega) HL.out).mono ?_
      rintro e w4 ⟨rfl, hl4⟩
      have HL4 := hid hl4
      have hz : (((⟨#[]⟩ : ByteArray).size : Nat) : Int) = 0 := rfl
      clear hl4 HL
      rcases hc with hc | ⟨hc, hc'⟩
      all_goals
        try have d6 : decide (cell < 6) = false := decide_eq_false (by omega)
        try have d0 : decide (0 ≤ cell) = false := decide_eq_false (by omega)
        have HES : Hid (Calls Tryz.prog 7 #[errV 1, .int .i64 1] w4 fun ev w' => ev = .returned (.bool true) ∧ Below w4.heap.size w4 w') := error_same 1 w4 (HG.out.new HL4.out.below)
        rw [errV_pos (by decide)] at HES ⊢
        go_wp2_with (first
          | (go_at_call 7; refine HES.out.mono ?_; rintro e w5 ⟨rfl, hb5⟩; have HL5 := hid (HL4.out.new hb5); clear hb5 HES)
          | (go_at_call 16; refine HL5.out.bytes.mono ?_; rintro e w6 ⟨rfl, rfl⟩))
        exact refuses_ret rfl rfl HL5.out.below
    · refine (lpoke_ok HP.out HPL.out 0 cell 5 2 (two_rooms 0) (by decide) (by decide) ⟨hc, hc'⟩ (by decide) (by decide) HL.out).mono ?_
      rintro e w4 ⟨rfl, bs', hb1, hb2, hl4⟩
      have HL4 := hid hl4
      have hz : ((bs'.size : Nat) : Int) ≠ 0 := by have : (0 : Nat) < bs'.size := hb1; omega
      have hz' : (((bs'.size : Nat) : Int) == 0) = false := by simpa using hz
      clear hl4 HL hb1 hb2 hz
      have HES : Hid (Calls Tryz.prog 7 #[errV 1, .int .i64 1] w4 fun ev w' => ev = .returned (.bool true) ∧ Below w4.heap.size w4 w') := error_same 1 w4 (HG.out.new HL4.out.below)
      rw [errV_pos (by decide)] at HES ⊢
      go_wp2_with (first
        | (go_at_call 7; refine HES.out.mono ?_; rintro e w5 ⟨rfl, hb5⟩; have HL5 := hid (HL4.out.new hb5); clear hb5 HES)
        | (go_at_call 16; refine HL5.out.bytes.mono ?_; rintro e w6 ⟨rfl, rfl⟩))
      exact refuses_ret rfl rfl HL5.out.below
  · obtain ⟨N, rfl⟩ : ∃ N : Nat, n = N := ⟨n.toNat, by omega⟩
    go_wp2_with fail
    refine (lgo_ok (planChk_ok two_ok) HP.out HPL.out N (by omega) (by decide) HL.out).mono ?_
    rintro e w3 ⟨rfl, bs3, hb1, hb2, hl3⟩
    have HL3 := hid hl3
    have hz : (0 : Nat) < bs3.size := hb1
    have hz3 : bs3.size ≤ 100 := by
      have h0 : (⟨#[]⟩ : ByteArray).size = 0 := rfl
      omega
    clear hl3 HL hb1 hb2
    go_wp2_with fail
    rcases (show (cell < 0 ∨ (6 ≤ cell ∧ 0 ≤ cell)) ∨ (0 ≤ cell ∧ cell < 6) by omega) with hc | ⟨hc, hc'⟩
    · refine (lpoke_bad 0 cell 5 2 (two_rooms N) (by decide) (by omega) HL3.out).mono ?_
      rintro e w4 ⟨rfl, hl4⟩
      have HL4 := hid hl4
      have HT := hid hl4.timed
      rw [two_time] at HT
      have hz' : (((bs3.size : Nat) : Int) == 0) = false := by rw [beq_eq_false_iff_ne]; omega
      clear hl4 HL3 hz hz3
      rcases hc with hc | ⟨hc, hc'⟩
      all_goals
        try have d6 : decide (cell < 6) = false := decide_eq_false (by omega)
        try have d0 : decide (0 ≤ cell) = false := decide_eq_false (by omega)
        rw [errV_pos (by decide)]
        go_wp2_with (first
          | (go_at_call 15; refine HT.out.mono ?_; rintro e w5 ⟨rfl, rfl⟩)
          | (go_at_call 16; refine HL4.out.bytes.mono ?_; rintro e w6 ⟨rfl, rfl⟩))
        exact refuses_ret rfl rfl HL4.out.below
    · refine (lpoke_ok HP.out HPL.out 0 cell 5 2 (two_rooms N) (by decide) (by decide) ⟨hc, hc'⟩ (by decide) (by omega) HL3.out).mono ?_
      rintro e w4 ⟨rfl, bs', hb1, hb2, hl4⟩
      have HL4 := hid hl4
      have HT : Hid (Calls Tryz.prog 15 #[.pointer (some ⟨lb, 0, none⟩)] w4 fun e w' => e = .returned (.int .i64 (runK (countPl 2) N).time) ∧ w4 = w') := hl4.timed
      rw [two_time] at HT
      have hz' : (((bs'.size : Nat) : Int) == 0) = false := by rw [beq_eq_false_iff_ne]; omega
      clear hl4 HL3 hb1 hb2 hz hz3
      go_wp2_with (first
        | (go_at_call 15; refine HT.out.mono ?_; rintro e w5 ⟨rfl, rfl⟩)
        | (go_at_call 16; refine HL4.out.bytes.mono ?_; rintro e w6 ⟨rfl, rfl⟩))
      exact refuses_ret rfl rfl HL4.out.below
end Go.Proofs.YtikadpfchchbpaaGreatDoor
