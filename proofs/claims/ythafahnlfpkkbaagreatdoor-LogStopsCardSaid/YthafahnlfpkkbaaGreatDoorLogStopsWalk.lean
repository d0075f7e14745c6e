/- The walk of framelaw3.LogStops: it returns true at every input. -/
import Derived.Test.YthafahnlfpkkbaaGreatDoorLogStopsLaw
import Derived.Test.YthafahnlfpkkbaaGreatDoorLogGNew
import Derived.Test.YthafahnlfpkkbaaGreatDoorLogGPoke
import Derived.Test.YthafahnlfpkkbaaGreatDoorLogGCrash
import Derived.Test.YthafahnlfpkkbaaGreatDoorRunU
import Derived.Test.YthafahnlfpkkbaaGreatDoorDoorU
namespace Go.Proofs.YthafahnlfpkkbaaGreatDoor
open Go.RowKit
set_option maxRecDepth 100000

theorem rest_new {w : World} (hf : Forms w) (s : Nat) (hz : w.heap.size = s) :
    Calls Tryz.prog 36 #[.agg #[.slice (some ⟨s + 1, 0, none⟩) 1 1, .int .i64 1, .slice none 0 0, .slice none 0 0]]
      ((w.alloc (.cells #[.int .i64 10, .int .i64 0, .int .i64 0] 64)).alloc (.cells #[.slice (some ⟨s, 0, none⟩) 1 1] 65)) fun e w' => ∃ (lb : Nat) (m' : PM), m'.pl = restPl ∧ e = .returned (.tuple #[.pointer (some ⟨lb, 0, none⟩), .nilIface]) ∧ LgAt w w' lb m' Lg.new := by
  obtain ⟨w2, hw2⟩ : ∃ w2, w2 = (w.alloc (.cells #[.int .i64 10, .int .i64 0, .int .i64 0] 64)).alloc (.cells #[.slice (some ⟨s, 0, none⟩) 1 1] 65) := ⟨_, rfl⟩
  have hb : Below w.heap.size w w2 := by rw [hw2]; exact ((Below.refl _ _).alloc (Nat.le_refl _) _).alloc (by simp) _
  have h1 : w2.heap[s]? = some (.cells #[.int .i64 10, .int .i64 0, .int .i64 0] 64 (0, 0)) := by
    rw [hw2]; simp only [hp_alloc, sz_alloc, hz]; repeat (first | rw [if_pos True.intro] | rw [if_pos rfl] | rw [if_neg (by omega)])
  have h2 : w2.heap[s + 1]? = some (.cells #[.slice (some ⟨s, 0, none⟩) 1 1] 65 (0, 0)) := by
    rw [hw2]; simp only [hp_alloc, sz_alloc, hz]; repeat (first | rw [if_pos True.intro] | rw [if_pos rfl] | rw [if_neg (by omega)])
  have hp : PlanAt w2 (onePM0 s (s + 1) [⟨10, 0, 0⟩] 1) := one_plan0 h1 h2 (by decide) (by decide) (fun o ho => by
    simp at ho; subst ho
    refine ⟨⟨?_, ?_⟩, ⟨?_, ?_⟩, ⟨?_, ?_⟩⟩ <;> decide)
  rw [← hw2]
  refine (lgnew_any w2 (onePM0 s (s + 1) [⟨10, 0, 0⟩] 1) (hf.new hb) hp rest_chk).mono ?_
  rintro e w' ⟨lb, m', h3, h4, h5⟩
  exact ⟨lb, m', h3, h4, h5.base hb⟩
theorem stops_ret {w w' : World} {a : Act} (h : a.tmps[6]? = some (.bool true)) (hd : a.defers = []) (hb : Below w.heap.size w w') : bodyPost Tryz.prog Tryz.f9 (fun e w' => e = .returned (.bool true) ∧ Below w.heap.size w w') .ret a w' :=
  bodyPost_ret (v := .bool true) (by simp [results, Tryz.results9, go_sem, h]) hd ⟨rfl, hb⟩
theorem rest_alloc (w : World) : Below w.heap.size w ((w.alloc (.cells #[.int .i64 10, .int .i64 0, .int .i64 0] 64)).alloc (.cells #[.slice (some ⟨w.heap.size, 0, none⟩) 1 1] 65)) := ((Below.refl _ _).alloc (Nat.le_refl _) _).alloc (by simp) _

set_option maxHeartbeats 40000000 in
theorem logStops_walk {w : World} (hg : Handle w) (hf : Forms w) (_ : Names w) (hd : Desk w) (after many keep : Int) :
    Calls Tryz.prog 9 #[.int .i64 after, .int .i64 many, .int .i64 keep] w fun e w' => e = .returned (.bool true) ∧ Below w.heap.size w w' := by
  have HG := hid hg
  have HF := hid hf
  have HD := hid hd
  have HPW := hid hd.pows
  have HPL := hid (pows_lt hd.pows)
  have HNEW := hid (rest_new hf w.heap.size rfl)
  clear hg hf hd
  go_enter Tryz.func9, Tryz.ntmps9
  go_upto_region 2 with (go_at_call 36; refine HNEW.out.mono ?_; rintro e w1 ⟨lb, m, hpl, rfl, hlg⟩; have HL := hid hlg; have HPM := hid hpl; clear hlg hpl HNEW)
  rcases (show (after < 0 ∨ (0 ≤ after ∧ 15 < after) ∨ ((0 ≤ after ∧ after ≤ 15) ∧ many < 0) ∨ ((0 ≤ after ∧ after ≤ 15) ∧ 0 ≤ many ∧ 15 < many)) ∨ ((0 ≤ after ∧ after ≤ 15) ∧ 0 ≤ many ∧ many ≤ 15) by omega) with hbad | ⟨⟨ha0, ha1⟩, hm0, hm1⟩
  · rcases hbad with h | ⟨h, h'⟩ | ⟨⟨h, h'⟩, h''⟩ | ⟨⟨h, h'⟩, h'', h3⟩
    all_goals
      go_wp2_with fail
      exact stops_ret rfl rfl HL.out.below
  · obtain ⟨a, rfl⟩ : ∃ a : Nat, after = a := ⟨after.toNat, by omega⟩
    obtain ⟨n, rfl⟩ : ∃ n : Nat, many = n := ⟨many.toNat, by omega⟩
    have ha : a ≤ 15 := by omega
    have hn : n ≤ 15 := by omega
    go_wp2_with (go_at_call 43; refine (lgfail_any (a : Int) (by omega) (by omega) HL.out).mono ?_; rintro e w2 ⟨rfl, hlg⟩; have HL2 := hid hlg; clear hlg HL)
    go_loopw [9, 10] (fun v9 v10 wr => ∃ (i : Nat) (L : Lg), i ≤ n ∧ v9 = .int .i64 i ∧ v10 = .int .i64 i ∧ SA a i L ∧ LgAt w wr lb m L) (fun _ v10 _ => n - (intOf v10).toNat)
    case atStart => exact ⟨0, _, by omega, rfl, rfl, sa_start ha, HL2.out⟩
    case round =>
      obtain ⟨i, L, hi, rfl, rfl, hsa, hlg⟩ := hrel
      have HSA := hid hsa
      have HLR := hid hlg
      clear hsa hlg HL2
      by_cases hin : i < n
      · have hbad : Hid (Calls Tryz.prog 37 #[.pointer (some ⟨lb, 0, none⟩), .int .i64 101] wr fun e w' => e = .returned (errV (if a < i then 6 else 1)) ∧ LgAt w w' lb m L) := by
          have h := lggo_any (m := m) (by rw [HPM.out]; exact planChk_ok rest_chk) (by rw [HPM.out]; exact HSA.out.ok) (by have := HSA.out.few; omega) HPW.out HPL.out 101 HLR.out
          rw [HPM.out, HSA.out.bad] at h
          exact hid h
        obtain ⟨L', hsa', hgo⟩ := HSA.out.go (by omega)
        have hgood : Hid (∀ w', LgAt w w' lb m L → Calls Tryz.prog 37 #[.pointer (some ⟨lb, 0, none⟩), .int .i64 1] w' fun e w' => e = .returned (errV (if i < a then 0 else 6)) ∧ LgAt w w' lb m L') := hid fun w' hl => by
          have h := lggo_any (m := m) (by rw [HPM.out]; exact planChk_ok rest_chk) (by rw [HPM.out]; exact HSA.out.ok) (by have := HSA.out.few; omega) HPW.out HPL.out 1 hl
          rw [HPM.out, hgo] at h
          exact h
        have HSA' := hid hsa'
        clear hsa' hgo
        have HERR : Hid (∀ (e k : Int) (w' : World), Below w.heap.size w w' → Calls Tryz.prog 15 #[errV e, .int .i64 k] w' fun ev w'' => ev = .returned (.bool (decide (e = k))) ∧ Below w'.heap.size w' w'') := hid fun e k w' hb => error_any e k w' (HG.out.new hb)
        rcases (show a < i ∨ i = a ∨ i < a by omega) with h | h | h
        · rw [if_pos h] at hbad
          rw [if_neg (by omega)] at hgood
          go_wp2_with fail
          refine hbad.out.mono ?_
          rintro e w3 ⟨rfl, hl3⟩
          go_wp2_with fail
          refine (hgood.out _ hl3).mono ?_
          rintro e w4 ⟨rfl, hl4⟩
          have HL4 := hid hl4
          clear hl3 hl4 hbad hgood
          go_wp2_with fail
          refine (HERR.out 6 6 w4 HL4.out.below).mono ?_
          rintro e w5 ⟨rfl, hb5⟩
          have HL5 := hid (HL4.out.new hb5)
          clear hb5 HL4
          go_wp2_with fail
          refine (HERR.out 6 1 w5 HL5.out.below).mono ?_
          rintro e w6 ⟨rfl, hb6⟩
          have HL6 := hid (HL5.out.new hb6)
          clear hb6 HL5
          go_wp2_with fail
          refine (HERR.out 6 6 w6 HL6.out.below).mono ?_
          rintro e w7 ⟨rfl, hb7⟩
          have HL7 := hid (HL6.out.new hb7)
          clear hb7 HL6
          go_wp2_with fail
          exact ⟨⟨i + 1, L', by omega, by go_num, by go_num, HSA'.out, HL7.out⟩, by simp [intOf]; omega⟩
        · rw [if_neg (by omega)] at hbad
          rw [if_neg (by omega)] at hgood
          subst h
          go_wp2_with fail
          refine hbad.out.mono ?_
          rintro e w3 ⟨rfl, hl3⟩
          go_wp2_with fail
          refine (hgood.out _ hl3).mono ?_
          rintro e w4 ⟨rfl, hl4⟩
          have HL4 := hid hl4
          clear hl3 hl4 hbad hgood
          go_wp2_with fail
          refine (HERR.out 1 6 w4 HL4.out.below).mono ?_
          rintro e w5 ⟨rfl, hb5⟩
          have HL5 := hid (HL4.out.new hb5)
          clear hb5 HL4
          go_wp2_with fail
          refine (HERR.out 1 1 w5 HL5.out.below).mono ?_
          rintro e w6 ⟨rfl, hb6⟩
          have HL6 := hid (HL5.out.new hb6)
          clear hb6 HL5
          go_wp2_with fail
          refine (HERR.out 6 6 w6 HL6.out.below).mono ?_
          rintro e w7 ⟨rfl, hb7⟩
          have HL7 := hid (HL6.out.new hb7)
          clear hb7 HL6
          go_wp2_with fail
          exact ⟨⟨i + 1, L', by omega, by go_num, by go_num, HSA'.out, HL7.out⟩, by simp [intOf]; omega⟩
        · rw [if_neg (by omega)] at hbad
          rw [if_pos h] at hgood
          go_wp2_with fail
          refine hbad.out.mono ?_
          rintro e w3 ⟨rfl, hl3⟩
          go_wp2_with fail
          refine (hgood.out _ hl3).mono ?_
          rintro e w4 ⟨rfl, hl4⟩
          have HL4 := hid hl4
          clear hl3 hl4 hbad hgood
          go_wp2_with fail
          refine (HERR.out 1 6 w4 HL4.out.below).mono ?_
          rintro e w5 ⟨rfl, hb5⟩
          have HL5 := hid (HL4.out.new hb5)
          clear hb5 HL4
          go_wp2_with fail
          refine (HERR.out 1 1 w5 HL5.out.below).mono ?_
          rintro e w6 ⟨rfl, hb6⟩
          have HL6 := hid (HL5.out.new hb6)
          clear hb6 HL5
          go_wp2_with fail
          refine (HERR.out 0 6 w6 HL6.out.below).mono ?_
          rintro e w7 ⟨rfl, hb7⟩
          have HL7 := hid (HL6.out.new hb7)
          clear hb7 HL6
          rw [errV_zero]
          go_wp2_with fail
          exact ⟨⟨i + 1, L', by omega, by go_num, by go_num, HSA'.out, HL7.out⟩, by simp [intOf]; omega⟩
      · obtain rfl : i = n := by omega
        go_wp2_with fail
        go_loopw [9] (fun v9 wr => ∃ (s : Nat) (L : Lg), s ≤ 16 ∧ v9 = .int .i64 s ∧ SA a s L ∧ LgAt w wr lb m L) (fun v9 _ => 17 - (intOf v9).toNat)
        case atStart => exact ⟨i, L, by omega, rfl, HSA.out, HLR.out⟩
        case round =>
          obtain ⟨s, L, hs, rfl, hsa, hlg⟩ := hrel
          have HSA := hid hsa
          have HLS := hid hlg
          clear hsa hlg HLR
          have HSY : Hid (∀ w', LgAt w w' lb m L → Calls Tryz.prog 38 #[.pointer (some ⟨lb, 0, none⟩)] w' fun e w'' => e = .returned (errV L.syncE.1) ∧ LgAt w w'' lb m L.syncE.2) := hid fun w' hl => lgsync_any (by rw [HPM.out]; exact HSA.out.ok) hl
          by_cases hsn : s ≤ a
          · obtain ⟨L', hsa', hsy⟩ := HSA.out.sync hsn
            rw [hsy] at HSY
            have HSA' := hid hsa'
            clear hsa' hsy
            by_cases h : s = a
            · rw [if_pos h] at HSY
              dsimp only at HSY
              subst h
              go_wp2_with (go_at_call 38; refine (HSY.out _ HLS.out).mono ?_; rintro e w3 ⟨rfl, hl3⟩; rw [errV_pos (by decide)]; have HL3 := hid hl3; clear hl3 HSY)
              exact ⟨⟨s + 1, L', by omega, by go_num, HSA'.out, HL3.out⟩, by simp [intOf]; omega⟩
            · rw [if_neg h] at HSY
              dsimp only at HSY
              have hne : ((s : Int) == (a : Int)) = false := by rw [beq_eq_false_iff_ne]; omega
              go_wp2_with (go_at_call 38; refine (HSY.out _ HLS.out).mono ?_; rintro e w3 ⟨rfl, hl3⟩; rw [errV_zero]; have HL3 := hid hl3; clear hl3 HSY)
              exact ⟨⟨s + 1, L', by omega, by go_num, HSA'.out, HL3.out⟩, by simp [intOf]; omega⟩
          · obtain ⟨e1, e2⟩ := HSA.out.ended (by omega)
            rw [e1] at HSY
            have HPO : Hid (∀ w', LgAt w w' lb m L → Calls Tryz.prog 46 #[.pointer (some ⟨lb, 0, none⟩), .int .i64 0, .int .i64 0, .int .i64 1] w' fun e w'' => e = .returned (errV 6) ∧ LgAt w w'' lb m L) := hid fun w' hl => by
              have h := lgpoke_any (m := m) (by rw [HPM.out]; exact planChk_ok rest_chk) (by rw [HPM.out]; exact HSA.out.ok) (by have := HSA.out.few; omega) HPW.out HPL.out 0 0 1 hl
              rw [HPM.out, e2] at h
              exact h
            have HERR : Hid (∀ (w' : World), Below w.heap.size w w' → Calls Tryz.prog 15 #[errV 6, .int .i64 6] w' fun ev w'' => ev = .returned (.bool true) ∧ Below w'.heap.size w' w'') := hid fun w' hb => error_same 6 w' (HG.out.new hb)
            obtain ⟨t, L2, L3, g1, g2, g3, g4, g5, g6, g7, g8, g9, g10, g11⟩ := HSA.out.back keep
            have HCR : Hid (∀ w', LgAt w w' lb m L → Calls Tryz.prog 39 #[.pointer (some ⟨lb, 0, none⟩), .int .i64 keep] w' fun e w'' => e = .returned (.tuple #[]) ∧ LgAt w w'' lb m L2) := hid fun w' hl => by
              have h := lgcrash_any (m := m) (by rw [HPM.out]; exact rest_chk) (by rw [HPM.out]; exact HSA.out.ok) (by have := HSA.out.few; omega) HF.out HD.out keep hl
              rw [g1] at h
              exact h
            have HT2 : Hid (∀ w', LgAt w w' lb m L2 → Calls Tryz.prog 40 #[.pointer (some ⟨lb, 0, none⟩)] w' fun e w'' => e = .returned (.int .i64 t) ∧ w' = w'') := hid fun w' hl => by
              have h := lgtime_any hl
              rw [HPM.out, g4] at h
              exact h
            have HGO : Hid (∀ w', LgAt w w' lb m L2 → Calls Tryz.prog 37 #[.pointer (some ⟨lb, 0, none⟩), .int .i64 2] w' fun e w'' => e = .returned .nilIface ∧ LgAt w w'' lb m L3) := hid fun w' hl => by
              have h := lggo_any (m := m) (by rw [HPM.out]; exact planChk_ok rest_chk) (by rw [HPM.out]; exact g2) (by omega) HPW.out HPL.out 2 hl
              rw [HPM.out, g6] at h
              exact h
            have HSY3 : Hid (∀ w', LgAt w w' lb m L3 → Calls Tryz.prog 38 #[.pointer (some ⟨lb, 0, none⟩)] w' fun e w'' => e = .returned .nilIface ∧ LgAt w w'' lb m L3.syncE.2) := hid fun w' hl => by
              have h := lgsync_any (m := m) (by rw [HPM.out]; exact g7) hl
              rw [g9] at h
              exact h
            have HT4 : Hid (∀ w', LgAt w w' lb m L3.syncE.2 → Calls Tryz.prog 40 #[.pointer (some ⟨lb, 0, none⟩)] w' fun e w'' => e = .returned (.int .i64 ((t : Int) + 2)) ∧ w' = w'') := hid fun w' hl => by
              have h := lgtime_any hl
              rw [HPM.out, g11] at h
              exact h
            generalize L3.syncE.2 = L4 at HSY3 HT4 g10
            have HSF : Hid (∀ w', LgAt w w' lb m L4 → Calls Tryz.prog 42 #[.pointer (some ⟨lb, 0, none⟩)] w' fun e w'' => e = .returned (.int .i64 L4.text.length) ∧ w' = w'') := hid fun w' hl => by
              have h := lgsafe_any hl
              rw [g10] at h
              exact h
            have HBY : Hid (∀ w', LgAt w w' lb m L4 → Calls Tryz.prog 41 #[.pointer (some ⟨lb, 0, none⟩)] w' fun e w'' => e = .returned (.int .i64 L4.text.length) ∧ w' = w'') := hid fun w' hl => lgbytes_any hl
            obtain ⟨tl, htl⟩ : ∃ tl, tl = L4.text.length := ⟨_, rfl⟩
            rw [← htl] at HSF HBY
            clear e1 e2 g1 g2 g3 g4 g6 g7 g8 g9 g10 g11 htl
            go_wp2_with fail
            refine (HSY.out _ HLS.out).mono ?_
            rintro e w3 ⟨rfl, hl3⟩
            go_wp2_with fail
            refine (HPO.out _ hl3).mono ?_
            rintro e w4 ⟨rfl, hl4⟩
            go_wp2_with fail
            refine (HERR.out w4 hl4.below).mono ?_
            rintro e w5 ⟨rfl, hb5⟩
            have hl5 := hl4.new hb5
            go_wp2_with fail
            refine (HERR.out w5 hl5.below).mono ?_
            rintro e w6 ⟨rfl, hb6⟩
            have hl6 := hl5.new hb6
            clear hb5 hb6 hl3 hl4 hl5 HSY HPO HERR
            go_wp2_with fail
            refine (HCR.out w6 hl6).mono ?_
            rintro e w7 ⟨rfl, hl7⟩
            clear hl6 HCR
            go_wp2_with fail
            refine (HT2.out w7 hl7).mono ?_
            rintro e w8 ⟨rfl, rfl⟩
            go_wp2_with fail
            refine (HGO.out w7 hl7).mono ?_
            rintro e w8 ⟨rfl, hl8⟩
            clear hl7 HT2 HGO
            go_wp2_with fail
            refine (HSY3.out w8 hl8).mono ?_
            rintro e w9 ⟨rfl, hl9⟩
            have HL9 := hid hl9
            clear hl8 hl9 HSY3
            go_wp2_with (first
              | (go_at_call 40; refine (HT4.out _ HL9.out).mono ?_; rintro e wa ⟨rfl, rfl⟩)
              | (go_at_call 42; refine (HSF.out _ HL9.out).mono ?_; rintro e wa ⟨rfl, rfl⟩)
              | (go_at_call 41; refine (HBY.out _ HL9.out).mono ?_; rintro e wa ⟨rfl, rfl⟩))
            exact stops_ret rfl rfl HL9.out.below
end Go.Proofs.YthafahnlfpkkbaaGreatDoor
