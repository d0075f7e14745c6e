/- Package supply: the contract of Wait, for every frame. -/
import Derived.Test.YthafahnlfpkkbaaGreatDoorSupply
namespace Go.Proofs.YthafahnlfpkkbaaGreatDoor
open Go.RowKit
set_option maxRecDepth 100000

/-- What Wait tells: the fault, or as many ticks as it waits. -/
def SupWait (w : World) (ticks : Int) (l : List Span) (room : Int) (n : Int) (e : Ending) (w' : World) : Prop :=
  Below w.heap.size w w' ∧
  (if readyOf ticks l room ≠ 0 then e = .returned (.tuple #[.int .i64 0, errV (readyOf ticks l room)])
   else if n < 0 ∨ 100 < n then e = .returned (.tuple #[.int .i64 0, errV 1])
   else if n ≠ 0 ∧ cntH (hitB l ticks.toNat room) 0 ticks.toNat = 0 then e = .returned (.tuple #[.int .i64 0, errV 5])
   else ∃ v : Nat, e = .returned (.tuple #[.int .i64 v, errV 0]) ∧ Waits (hitB l ticks.toNat room) ticks.toNat n.toNat v ∧ v ≤ 8000)

set_option maxHeartbeats 1000000 in
theorem sup_wait (ticks room k : Int) (A : Option Addr) (n c : Nat) (l : List Span) (w : World) (hn : l.length = n) (hs : Sl w A 3 n (l.flatMap Span.cells)) (hsw : SlW A c n) :
    Calls Tryz.prog 34 #[.int .i64 ticks, .slice A n c, .int .i64 room, .int .i64 k] w (SupWait w ticks l room k) := by
  have HN := hid hn
  have HS := hid hs
  have HW := hid hsw
  clear hs hsw hn
  by_cases he : readyOf ticks l room = 0
  · obtain ⟨hf, hr⟩ := readyOf_ok he
    obtain ⟨h1, h2, h3⟩ := frameChk_ticks hf
    have HE := hid he
    have HE' : Hid (¬ readyOf ticks l room ≠ 0) := fun h => h he
    clear hf hr h3 he
    obtain ⟨T, rfl⟩ : ∃ k : Nat, ticks = k := ⟨ticks.toNat, by omega⟩
    by_cases hk0 : k < 0
    · go_enter Tryz.func34, Tryz.ntmps34
      go_wp2_with (go_at_call 91; refine (ready_any T room A n c l _ HN.out HS.out HW.out).mono ?_; rw [HE.out]; rintro e w1 ⟨rfl, hb1⟩; rw [errV_zero])
      go_ret2
      unfold SupWait
      rw [if_neg HE'.out, if_pos (.inl hk0)]
      exact ⟨hb1, rfl⟩
    by_cases hk1 : 100 < k
    · go_enter Tryz.func34, Tryz.ntmps34
      go_wp2_with (go_at_call 91; refine (ready_any T room A n c l _ HN.out HS.out HW.out).mono ?_; rw [HE.out]; rintro e w1 ⟨rfl, hb1⟩; rw [errV_zero])
      go_ret2
      unfold SupWait
      rw [if_neg HE'.out, if_pos (.inr hk1)]
      exact ⟨hb1, rfl⟩
    obtain ⟨k, rfl⟩ : ∃ j : Nat, k = j := ⟨k.toNat, by omega⟩
    have HK' : Hid (¬ ((k : Int) < 0 ∨ 100 < (k : Int))) := by intro h; omega
    have hT := fun w hs => turns_any T 0 T room A n c l w HN.out hs HW.out (by omega) (by omega) (by omega) (by omega)
    rw [Int.natCast_zero] at hT
    generalize hx : cntH (hitB l T room) 0 T = x at hT
    have hxT : x ≤ T := by rw [← hx]; exact cntH_le _ _ _
    have HX := hid hx
    have HT := hid hT
    clear hx hT
    by_cases hz : k = 0
    · subst hz
      go_enter Tryz.func34, Tryz.ntmps34
      go_wp2_with (first
        | (go_at_call 91; refine (ready_any T room A n c l _ HN.out HS.out HW.out).mono ?_; rw [HE.out]; rintro e w1 ⟨rfl, hb1⟩; rw [errV_zero]; have HB1 := hid hb1; clear hb1)
        | (go_at_call 92; refine (HT.out _ (HS.out.new HB1.out)).mono ?_; rintro e w3 ⟨rfl, hb3⟩; have HB3 := hid hb3; clear hb3))
      go_ret2
      unfold SupWait
      rw [if_neg HE'.out, if_neg HK'.out, if_neg (by simp)]
      exact ⟨HB1.out.trans (HB3.out.mono HB1.out.size), 0, rfl, ⟨Nat.zero_le _, fun h => absurd h (by omega)⟩, by omega⟩
    have hz1 : ((k : Int) == 0) = false := by simp; omega
    have hz2 : ¬ ((k : Int) = 0) := by omega
    by_cases hx0 : x = 0
    · subst hx0
      go_enter Tryz.func34, Tryz.ntmps34
      go_wp2_with (first
        | (go_at_call 91; refine (ready_any T room A n c l _ HN.out HS.out HW.out).mono ?_; rw [HE.out]; rintro e w1 ⟨rfl, hb1⟩; rw [errV_zero]; have HB1 := hid hb1; clear hb1)
        | (go_at_call 92; refine (HT.out _ (HS.out.new HB1.out)).mono ?_; rintro e w3 ⟨rfl, hb3⟩; have HB3 := hid hb3; clear hb3))
      go_ret2
      unfold SupWait
      rw [if_neg HE'.out, if_neg HK'.out, if_pos ⟨hz2, by simpa using HX.out⟩]
      exact ⟨HB1.out.trans (HB3.out.mono HB1.out.size), rfl⟩
    have hend := waits_end (hitB_again l T room) (show 0 < T by omega) (show 0 < k by omega) (by rw [HX.out]; omega)
    have hstart := waits_start (hitB_again l T room) (show 0 < T by omega) (show 0 < k by omega)
    rw [HX.out] at hend hstart
    have hq1 : (k - 1) / x ≤ k - 1 := Nat.div_le_self _ _
    have e1 : ((k : Int) - 1).tdiv (x : Int) = (((k - 1) / x : Nat) : Int) := by
      rw [show (k : Int) - 1 = ((k - 1 : Nat) : Int) by omega, Int.tdiv_eq_ediv_of_nonneg (by omega)]; rfl
    generalize (k - 1) / x = q at hend hstart hq1 e1
    have hqT : q * T ≤ 100 * 40 := Nat.mul_le_mul (by omega) (by omega)
    have hqi : (q : Int) * (T : Int) = ((q * T : Nat) : Int) := by rw [Int.natCast_mul]
    generalize q * T = s at hend hstart hqT hqi
    have HEND := hid hend
    have HSTART := hid hstart
    have HQI := hid hqi
    have hx1 : ¬ ((x : Int) = 0) := by omega
    have hx2 : ((x : Int) == 0) = false := by simp; omega
    have e2 : IntKind.i64.wrap (q : Int) = (q : Int) := IntWalk.i64_in _ (by omega)
    clear hend hstart
    go_enter Tryz.func34, Tryz.ntmps34
    go_wp2_with (first
      | (go_at_call 91; refine (ready_any T room A n c l _ HN.out HS.out HW.out).mono ?_; rw [HE.out]; rintro e w1 ⟨rfl, hb1⟩; rw [errV_zero]; have HB1 := hid hb1; clear hb1)
      | (go_at_call 92; refine (HT.out _ (HS.out.new HB1.out)).mono ?_; rintro e w3 ⟨rfl, hb3⟩; have HB3 := hid hb3; clear hb3))
    have HBB := hid (HB1.out.trans (HB3.out.mono HB1.out.size))
    clear e1 e2 HB3 HB1
    go_loopw [12] (fun v12 wr => ∃ j : Nat, s ≤ j ∧ j ≤ s + T ∧ v12 = .int .i64 j ∧ (s < j → leastH (hitB l T room) T (j - 1) < k) ∧ Below w.heap.size w wr) (fun v12 _ => s + T - (intOf v12).toNat)
    case atStart => exact ⟨s, by omega, by omega, rfl, fun h => absurd h (by omega), HBB.out⟩
    case round =>
      obtain ⟨j, hj1, hj2, rfl, hbef, hb⟩ := hrel
      have HBEF := hid hbef
      have HB := hid hb
      clear hbef hb
      have HL := fun w hs => least_any T j room A n c l w HN.out hs HW.out (by omega) (by omega) (by omega)
      generalize hv : leastH (hitB l T room) T j = v at HL
      have HL := hid HL
      have HV := hid hv
      clear hv
      by_cases hlt : v < k
      · go_wp2_with (go_at_call 93; refine (HL.out _ (HS.out.new HB.out)).mono ?_; rintro e w2 ⟨rfl, hb2⟩; have HB2 := hid hb2; clear hb2)
        go_roundw
        case rel =>
          refine ⟨j + 1, by omega, ?_, by go_num, fun _ => ?_, HB.out.trans (HB2.out.mono HB.out.size)⟩
          · by_cases e : j = s + T
            · subst e; have := HEND.out; rw [HV.out] at this; omega
            · omega
          · rw [Nat.add_sub_cancel, HV.out]; exact hlt
        case measure =>
          have hne : j ≠ s + T := by
            intro e
            subst e; have := HEND.out; rw [HV.out] at this; omega
          simp [intOf]; omega
      · go_wp2_with (go_at_call 93; refine (HL.out _ (HS.out.new HB.out)).mono ?_; rintro e w2 ⟨rfl, hb2⟩; have HB2 := hid hb2; clear hb2)
        go_ret2
        unfold SupWait
        rw [if_neg HE'.out, if_neg HK'.out, if_neg (by rintro ⟨_, h⟩; simp at h; have := HX.out; omega)]
        refine ⟨HB.out.trans (HB2.out.mono HB.out.size), j, rfl, ⟨?_, fun _ => ?_⟩, by omega⟩
        · simp only [Int.toNat_natCast]; rw [HV.out]; omega
        · simp only [Int.toNat_natCast]
          have hsj : s < j := by
            by_cases e : j = s
            · subst e; have := HSTART.out; rw [HV.out] at this; omega
            · omega
          exact HBEF.out hsj
  · have hv := errV_pos he
    have HV := hid hv
    have HE := hid he
    clear he hv
    go_enter Tryz.func34, Tryz.ntmps34
    go_wp2_with (go_at_call 91; refine (ready_any ticks room A n c l _ HN.out HS.out HW.out).mono ?_; rw [HV.out]; rintro e w1 ⟨rfl, hb1⟩)
    go_ret2
    unfold SupWait
    rw [if_pos HE.out]
    exact ⟨hb1, by rw [HV.out]; rfl⟩
end Go.Proofs.YthafahnlfpkkbaaGreatDoor
