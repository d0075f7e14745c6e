/- The walk of framelaw3.RunBegins: it returns true at every input. Conditions: the tables and variables that the row lists. -/
import Derived.Test.YthdmgighblhmhaaGreatDoorRunRun
import Derived.Test.YthdmgighblhmhaaGreatDoorRunTU
import Derived.Test.YthdmgighblhmhaaGreatDoorDeskU
namespace Go.Proofs.YthdmgighblhmhaaGreatDoor
open Go.RowKit
set_option maxRecDepth 100000

def RunGot (s : ByteArray) (w : World) (e : Ending) (w' : World) : Prop := ∃ T : ByteArray, e = .returned (.string T) ∧ T.data.toList = runA s.data.toList ∧ Below w.heap.size w w'
theorem run_got {w : World} (hg : Handle w) (hf : Forms w) (hd : Desk w) (hu : Unread w) (s : ByteArray) (hs : s.size ≤ 3000) : Calls Tryz.prog 6 #[.string s] w (RunGot s w) := by
  refine (run_any hg hf hd hu s hs).mono ?_
  rintro e w' ⟨rfl, hb⟩
  exact ⟨_, rfl, rfl, hb⟩
theorem bytes_is {T : ByteArray} {l : List UInt8} (h : T.data.toList = l) : T = ⟨l.toArray⟩ := by
  cases T with
  | mk d => simp only at h; rw [← h]
theorem take_ext {t : ByteArray} {L : List UInt8} (hL : L = t.data.toList) (k : Nat) : (t.extract 0 k).data.toList = L.take k := by
  rw [hL, ByteArray.data_extract, Array.toList_extract]
  simp
theorem begun_texts {t TA TB : ByteArray} {L : List UInt8} {k : Nat} (hL : L = t.data.toList) (h : Begun L k) (hA : TA.data.toList = runA (t.extract 0 k).data.toList) (hB : TB.data.toList = runA t.data.toList) : TA.size ≤ TB.size ∧ TB.extract 0 TA.size = TA := by
  obtain ⟨r, hr⟩ := begun_part h
  rw [take_ext hL] at hA
  rw [← hL, hr, ← hA] at hB
  refine ⟨by rw [Lib.size_eq, Lib.size_eq, hB, List.length_append]; omega, ?_⟩
  refine (bytes_is ?_).trans (bytes_is (T := TA) rfl).symm
  rw [take_ext rfl, hB, Lib.size_eq, List.take_left]
set_option maxHeartbeats 8000000 in
theorem runBegins_walk {w : World} (hg : Handle w) (hf : Forms w) (_ : Names w) (hd : Desk w) (hu : Unread w) (t : ByteArray) (_ : t.size ≤ maxLen) (many : Int) :
    Calls Tryz.prog 4 #[.string t, .int .i64 many] w fun e w' => e = .returned (.bool true) ∧ Below w.heap.size w w' := by
  have HRUN : Hid (∀ (s : ByteArray) (w' : World), s.size ≤ 3000 → Below w.heap.size w w' → Calls Tryz.prog 6 #[.string s] w' (RunGot s w')) := hid fun s w' hs hb => run_got (hg.new hb) (hf.new hb) (hd.new hb) (hu.new hb) s hs
  unfold RunGot at HRUN
  clear hg hf hd hu
  go_enter Tryz.func4, Tryz.ntmps4
  go_upto_region 4 with (go_at_call 6; refine (HRUN.out _ w (by decide) (Below.refl _ _)).mono ?_; rintro e w1 ⟨T, rfl, hT, hb1⟩; have hTf : T = ⟨factA.toArray⟩ := bytes_is (hT.trans fact_runs); subst hTf; have HB1 := hid hb1; clear hb1 hT)
  by_cases hlong : 3000 < t.size
  · have hl1 : (3000 : Int) < t.size := by omega
    go_wp2_with (go_at_call 6; refine (run_long t hlong _).mono ?_; rintro e w2 ⟨rfl, rfl⟩)
    go_ret
    exact ⟨rfl, HB1.out⟩
  have hs : t.size ≤ 3000 := by omega
  obtain ⟨L, hL⟩ : ∃ L, L = t.data.toList := ⟨_, rfl⟩
  have hLs : t.size = L.length := by rw [hL]; exact Lib.size_eq t
  have HL := hid hL
  have HLS := hid hLs
  clear hL hLs
  go_wp2_with fail
  go_loopw [7, 8] (fun v7 v8 wr => ∃ k c : Nat, v7 = .int .i64 k ∧ v8 = .int .i64 c ∧ k ≤ t.size ∧ c ≤ k ∧ ((c : Int) < many ∨ k = 0 ∨ (L.take k).getLast? = some 10) ∧ wr = w1) (fun v7 _ _ => t.size - (intOf v7).toNat)
  case atStart => exact ⟨0, 0, rfl, rfl, by omega, by omega, .inr (.inl rfl), rfl⟩
  case round =>
    obtain ⟨k, c, rfl, rfl, hk, hc, hgood, rfl⟩ := hrel
    have HGD := hid hgood
    clear hgood
    by_cases hkt : k < t.size
    · have hkl : k < L.length := by rw [← HLS.out]; exact hkt
      by_cases hcm : (c : Int) < many
      · have hb := byte_eq HL.out hkt hkl 10
        have hlast := take_last hkl
        by_cases h10 : L[k] = 10
        · have hb2 : (((t[k]'hkt).toNat : Int) == 10) = true := by
            have e := hb
            rw [h10] at e
            exact e
          have HLAST := hid (hlast.trans (congrArg some h10))
          clear hb hlast h10
          go_wp2_with fail
          go_roundw
          case rel => exact ⟨k + 1, c + 1, by go_num, by go_num, by omega, by omega, .inr (.inr HLAST.out), (by first | rfl | trivial)⟩
          case measure => simp [intOf]; omega
        · have hb2 : (((t[k]'hkt).toNat : Int) == 10) = false := by
            have e := hb
            rw [beq_eq_false_iff_ne.2 h10] at e
            exact e
          clear hb hlast h10
          go_wp2_with fail
          go_roundw
          case rel => exact ⟨k + 1, c, by go_num, rfl, by omega, by omega, .inl hcm, (by first | rfl | trivial)⟩
          case measure => simp [intOf]; omega
      · have HBG : Hid (Begun L k) := hid (by
          rcases HGD.out with h | h | h
          · exact absurd h hcm
          · exact .inl h
          · exact .inr (.inr h))
        have hk0 : (k : Int) ≤ t.size := by omega
        go_upto_region 16 with (go_at_call 6; refine (HRUN.out (t.extract 0 k) wr (by rw [ByteArray.size_extract]; omega) HB1.out).mono ?_; rintro e w2 ⟨TA, rfl, hTA, hb2⟩; have HTA := hid hTA; have HB2 := hid (HB1.out.trans (hb2.mono HB1.out.size)); clear hTA hb2)
        go_upto_region 17 with (go_at_call 6; refine (HRUN.out t w2 hs HB2.out).mono ?_; rintro e w3 ⟨TB, rfl, hTB, hb3⟩; have HTB := hid hTB; have HB3 := hid (HB2.out.trans (hb3.mono HB2.out.size)); clear hTB hb3)
        obtain ⟨hle, hpre⟩ := begun_texts HL.out HBG.out HTA.out HTB.out
        have hle1 : (TA.size : Int) ≤ TB.size := by omega
        go_wp2_with fail
        go_ret
        exact ⟨rfl, HB3.out⟩
    · have hke : k = t.size := by omega
      have HBG : Hid (Begun L k) := hid (.inr (.inl (by rw [hke]; exact HLS.out)))
      clear hke
      have hk0 : (k : Int) ≤ t.size := by omega
      go_upto_region 16 with (go_at_call 6; refine (HRUN.out (t.extract 0 k) wr (by rw [ByteArray.size_extract]; omega) HB1.out).mono ?_; rintro e w2 ⟨TA, rfl, hTA, hb2⟩; have HTA := hid hTA; have HB2 := hid (HB1.out.trans (hb2.mono HB1.out.size)); clear hTA hb2)
      go_upto_region 17 with (go_at_call 6; refine (HRUN.out t w2 hs HB2.out).mono ?_; rintro e w3 ⟨TB, rfl, hTB, hb3⟩; have HTB := hid hTB; have HB3 := hid (HB2.out.trans (hb3.mono HB2.out.size)); clear hTB hb3)
      obtain ⟨hle, hpre⟩ := begun_texts HL.out HBG.out HTA.out HTB.out
      have hle1 : (TA.size : Int) ≤ TB.size := by omega
      go_wp2_with fail
      go_ret
      exact ⟨rfl, HB3.out⟩
end Go.Proofs.YthdmgighblhmhaaGreatDoor
