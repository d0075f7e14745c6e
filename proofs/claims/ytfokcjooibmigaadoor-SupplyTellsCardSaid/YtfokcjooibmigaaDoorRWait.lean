/- The reference of chapter 14: the contract of its Wait, for frames that are right. -/
import Derived.Test.YtfokcjooibmigaaDoorRSupply
namespace Go.Proofs.YtfokcjooibmigaaDoor
open Go.RowKit
set_option maxRecDepth 100000

theorem cntH_mono (h : Nat → Bool) (f : Nat) {a b : Nat} (hab : a ≤ b) : cntH h f a ≤ cntH h f b := by
  obtain ⟨d, rfl⟩ : ∃ d, b = a + d := ⟨b - a, by omega⟩
  rw [cntH_add]; omega
/-- What the most is behind k beginnings. -/
def MostTo (h : Nat → Bool) (n k most : Nat) : Prop := (∀ f, f < k → n ≤ cntH h f most) ∧ (most = 0 ∨ ∃ f, f < k ∧ cntH h f (most - 1) < n)
theorem MostTo.zero (h : Nat → Bool) (n : Nat) : MostTo h n 0 0 := ⟨fun f hf => absurd hf (by omega), .inl rfl⟩
theorem MostTo.more {h : Nat → Bool} {n k most j : Nat} (H : MostTo h n k most) (_hn : 0 < n) (hj : n ≤ cntH h k j) (hb : ∀ i, i < j → cntH h k i < n) (hgt : most < j) : MostTo h n (k + 1) j := by
  refine ⟨fun f hf => ?_, .inr ⟨k, by omega, hb _ (by omega)⟩⟩
  by_cases e : f = k
  · subst e; exact hj
  · exact Nat.le_trans (H.1 f (by omega)) (cntH_mono h f (by omega))
theorem MostTo.same {h : Nat → Bool} {n k most j : Nat} (H : MostTo h n k most) (hj : n ≤ cntH h k j) (hle : j ≤ most) : MostTo h n (k + 1) most := by
  refine ⟨fun f hf => ?_, ?_⟩
  · by_cases e : f = k
    · subst e; exact Nat.le_trans hj (cntH_mono h f hle)
    · exact H.1 f (by omega)
  · rcases H.2 with h0 | ⟨f, h1, h2⟩
    · exact .inl h0
    · exact .inr ⟨f, by omega, h2⟩
theorem MostTo.waits {h : Nat → Bool} {T n most : Nat} (hT : 0 < T) (H : MostTo h n T most) : Waits h T n most := by
  obtain ⟨f, hf, h1⟩ := leastH_ex (h := h) hT most
  refine ⟨by rw [h1]; exact H.1 f hf, fun hp => ?_⟩
  rcases H.2 with h0 | ⟨g, h2, h3⟩
  · omega
  · have := leastTo_le h (most - 1) T g h2
    unfold leastH; omega

/-- What it tells: 0 for none, -1 for ever, else as many ticks as it waits. -/
def RWaitTold (w : World) (h : Nat → Bool) (T n : Nat) (e : Ending) (w' : World) : Prop :=
  Below w.heap.size w w' ∧ (if n ≠ 0 ∧ cntH h 0 T = 0 then e = .returned (.int .i64 (-1)) else ∃ v : Nat, e = .returned (.int .i64 v) ∧ Waits h T n v)

set_option maxHeartbeats 4000000 in
theorem rwait_any (T m : Nat) (room : Int) (A : Option Addr) (n c : Nat) (l : List Span) (w : World) (hn : l.length = n) (hs : Sl w A 3 n (l.flatMap Span.cells)) (hsw : SlW A c n) (h1 : 1 ≤ T) (h2 : T ≤ 40) (hm : m ≤ 100) :
    Calls Tryd.prog 46 #[.int .i64 T, .slice A n c, .int .i64 room, .int .i64 m] w (RWaitTold w (hitB l T room) T m) := by
  have HN := hid hn
  have HS := hid hs
  have HW := hid hsw
  clear hs hsw hn
  have hT := fun w hs => rturns_any T 0 T room A n c l w HN.out hs HW.out h1 h2 (by omega) (by omega)
  rw [Int.natCast_zero] at hT
  have hag := hitB_again l T room
  by_cases hz : m = 0
  · subst hz
    clear hT hag
    go_enter Tryd.func46, Tryd.ntmps46
    go_wp2_with fail
    go_ret
    exact ⟨Below.refl _ _, by rw [if_neg (by simp)]; exact ⟨0, rfl, Nat.zero_le _, fun h => absurd h (by omega)⟩⟩
  · have hz1 : ((m : Int) == 0) = false := by simp; omega
    have hz2 : ¬ ((m : Int) = 0) := by omega
    generalize hx : cntH (hitB l T room) 0 T = x at hT
    have HT := hid hT
    have HX := hid hx
    have HAG := hid hag
    clear hT hx hag
    by_cases hx0 : x = 0
    · subst hx0
      go_enter Tryd.func46, Tryd.ntmps46
      go_wp2_with (go_at_call 43; refine (HT.out _ HS.out).mono ?_; rintro e w1 ⟨rfl, hb1⟩; have HB1 := hid hb1; clear hb1)
      go_ret
      exact ⟨HB1.out, by rw [if_pos ⟨hz, HX.out⟩]; rfl⟩
    · have hx1 : ((x : Int) == 0) = false := by simp; omega
      have hx2 : ¬ ((x : Int) = 0) := by omega
      have HEND : Hid (∀ f, m ≤ cntH (hitB l T room) f (m * T)) := by
        intro f
        have h := cntH_whole HAG.out f 0 m
        rw [Nat.add_zero, cntH_zero, HX.out, Nat.add_zero] at h
        rw [h]
        exact Nat.le_mul_of_pos_right m (by omega)
      have hmT : m * T ≤ 100 * 40 := Nat.mul_le_mul hm h2
      obtain ⟨M, hM⟩ : ∃ M, M = m * T := ⟨_, rfl⟩
      rw [← hM] at hmT HEND
      clear hM
      go_enter Tryd.func46, Tryd.ntmps46
      go_wp2_with (go_at_call 43; refine (HT.out _ HS.out).mono ?_; rintro e w1 ⟨rfl, hb1⟩; have HB1 := hid hb1; clear hb1)
      go_loopw [9, 10, 11, 12] (fun v9 v10 v11 v12 wr => ∃ k most : Nat, k ≤ T ∧ most ≤ M ∧ v10 = .int .i64 k ∧ v9 = .int .i64 most ∧ MostTo (hitB l T room) m k most ∧ Below w.heap.size w wr) (fun _ v10 _ _ _ => T - (intOf v10).toNat)
      case atStart => exact ⟨0, 0, by omega, by omega, rfl, rfl, MostTo.zero _ _, HB1.out⟩
      case round =>
        obtain ⟨k, most, hk, hmo, rfl, rfl, hmost, hb⟩ := hrel
        have HMOST := hid hmost
        have HB := hid hb
        clear hmost hb
        by_cases hkT : k < T
        · go_wp2_with fail
          go_loopw [11, 12] (fun v11 v12 wr => ∃ j q : Nat, j ≤ M ∧ v11 = .int .i64 ((k : Int) + j) ∧ v12 = .int .i64 q ∧ q ≤ m ∧ cntH (hitB l T room) k j = q ∧ (∀ i, i < j → cntH (hitB l T room) k i < m) ∧ Below w.heap.size w wr) (fun v11 _ _ => k + M - (intOf v11).toNat)
          case atStart => exact ⟨0, 0, by omega, by go_num, rfl, by omega, rfl, fun i hi => absurd hi (by omega), HB.out⟩
          case round =>
            obtain ⟨j, q, hj, rfl, rfl, hqm, hq, hbef, hb⟩ := hrel
            have HQ := hid hq
            have HBEF := hid hbef
            have HB2 := hid hb
            have hcs := cntH_succ (hitB l T room) k j
            have HCS := hid hcs
            clear hq hbef hb hcs
            by_cases hqlt : q < m
            · have hjM : j < M := by
                rcases Nat.lt_or_ge j M with h | h
                · exact h
                · have h5 := HEND.out k
                  have h6 := cntH_mono (hitB l T room) k h
                  have h7 := HQ.out
                  omega
              have hu : hitB l T room (k + j) = decide (turnAt l (((k : Int) + j) % (T : Int)) = room) := by unfold hitB; rw [Int.natCast_add]
              have hbound : (k : Int) + j ≤ 5000 := by omega
              by_cases hh : turnAt l (((k : Int) + j) % (T : Int)) = room
              · rw [decide_eq_true hh] at hu
                have HU := hid hu
                have HH := hid hh
                clear hu hh
                go_wp2_with (go_at_call 31; refine (rwho_any T _ A n c l _ HN.out (HS.out.new HB2.out) HW.out (by omega) (by omega) (by omega) (by omega)).mono ?_; rw [HH.out]; rintro e w2 ⟨rfl, hb2⟩; have HB3 := hid hb2; clear hb2)
                go_roundw
                case rel =>
                  refine ⟨j + 1, q + 1, by omega, by go_num, by go_num, by omega, by rw [HCS.out, HQ.out, HU.out]; rfl, fun i hi => ?_, HB2.out.trans (HB3.out.mono HB2.out.size)⟩
                  by_cases e : i = j
                  · subst e; rw [HQ.out]; exact hqlt
                  · exact HBEF.out i (by omega)
                case measure => simp [intOf]; omega
              · rw [decide_eq_false hh] at hu
                have HU := hid hu
                obtain ⟨u, hu2⟩ : ∃ u, turnAt l (((k : Int) + j) % (T : Int)) = u := ⟨_, rfl⟩
                rw [hu2] at hh
                have hb : (u == room) = false := by simpa using hh
                have HU2 := hid hu2
                clear hu hh hu2
                go_wp2_with (go_at_call 31; refine (rwho_any T _ A n c l _ HN.out (HS.out.new HB2.out) HW.out (by omega) (by omega) (by omega) (by omega)).mono ?_; rw [HU2.out]; rintro e w2 ⟨rfl, hb2⟩; have HB3 := hid hb2; clear hb2)
                go_roundw
                case rel =>
                  refine ⟨j + 1, q, by omega, by go_num, rfl, by omega, by rw [HCS.out, HQ.out, HU.out]; rfl, fun i hi => ?_, HB2.out.trans (HB3.out.mono HB2.out.size)⟩
                  by_cases e : i = j
                  · subst e; rw [HQ.out]; exact hqlt
                  · exact HBEF.out i (by omega)
                case measure => simp [intOf]; omega
            · have hqe : m ≤ cntH (hitB l T room) k j := by rw [HQ.out]; omega
              have HQE := hid hqe
              clear hqe
              have hm0 : 0 < m := by omega
              by_cases hgt : most < j
              · have hgi : (most : Int) < (j : Int) := by omega
                go_wp2_with fail
                go_roundw
                case rel => exact ⟨k + 1, j, by omega, by omega, by go_num, by go_num, HMOST.out.more hm0 HQE.out HBEF.out hgt, HB2.out⟩
                case measure => simp [intOf]; omega
              · have hgi : ¬ (most : Int) < (j : Int) := by omega
                go_wp2_with fail
                go_roundw
                case rel => exact ⟨k + 1, most, by omega, by omega, by go_num, rfl, HMOST.out.same HQE.out (by omega), HB2.out⟩
                case measure => simp [intOf]; omega
        · obtain rfl : k = T := by omega
          go_wp2_with fail
          go_ret
          exact ⟨HB.out, by rw [if_neg (by have := HX.out; omega)]; exact ⟨most, rfl, HMOST.out.waits (by omega)⟩⟩
end Go.Proofs.YtfokcjooibmigaaDoor
