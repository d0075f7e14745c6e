/- The walk of framelaw3.SupplyWaits: it returns true at every input. -/
import Derived.Test.YtfokcjooibmigaaSupply2
import Derived.Test.YtfokcjooibmigaaOpen
import Derived.Deep.DeepCutAuto
namespace Go.Proofs.Ytfokcjooibmigaa
open Go.RowKit

def oneSpan : List Span := [⟨0, 1, 3⟩]
theorem one_wait {w w' : World} {e : Ending} (h : SupWait w 4 oneSpan 3 2 e w') : e = .returned (.tuple #[.int .i64 8, .nilIface]) ∧ Below w.heap.size w w' := by
  refine ⟨?_, h.1⟩
  have h2 := h.2
  rw [if_neg (by decide), if_neg (by decide), if_neg (by decide)] at h2
  obtain ⟨v, hv, hw, _⟩ := h2
  have h8 : Waits (hitB oneSpan 4 3) 4 2 8 := ⟨by decide, fun _ => by decide⟩
  have : v = 8 := Waits.eq (by decide) hw h8
  subst this
  exact hv

theorem wrap_next {m : Int} (h0 : 0 ≤ m) (h1 : m ≤ 2000) : wrap64 (m + 1) = m + 1 := by
  have := IntWalk.i64_in (m + 1) (by omega)
  rw [← this]; simp [wrap64, IntKind.wrap_i64]
theorem supLeastOf_ok {ticks : Int} {l : List Span} {room m : Int} (h : (supLeastOf ticks l room m).2 = 0) : readyOf ticks l room = 0 ∧ 0 ≤ m ∧ m ≤ 2000 ∧ (supLeastOf ticks l room m).1 = (leastH (hitB l ticks.toNat room) ticks.toNat m.toNat : Nat) := by
  unfold supLeastOf at h ⊢
  split at h
  · rename_i h1; exact absurd h h1
  · rename_i h1
    split at h
    · rename_i h2
      exact ⟨by simpa using h1, h2.1, h2.2, by rw [if_neg h1, if_pos h2]⟩
    · simp at h
theorem supTurnsOf_ok {ticks : Int} {l : List Span} {room f m : Int} (h : (supTurnsOf ticks l room f m).2 = 0) : readyOf ticks l room = 0 ∧ (0 ≤ f ∧ f ≤ 2000) ∧ (0 ≤ m ∧ m ≤ 2000) ∧ (supTurnsOf ticks l room f m).1 = (cntH (hitB l ticks.toNat room) f.toNat m.toNat : Nat) := by
  unfold supTurnsOf at h ⊢
  split at h
  · rename_i h1; exact absurd h h1
  · rename_i h1
    split at h
    · rename_i h2
      exact ⟨by simpa using h1, ⟨h2.1, h2.2.1⟩, h2.2.2, by rw [if_neg h1, if_pos h2]⟩
    · simp at h
theorem ready_T {ticks : Int} {l : List Span} {room : Int} (h : readyOf ticks l room = 0) : ∃ T : Nat, ticks = T ∧ 0 < T := by
  obtain ⟨hf, _⟩ := readyOf_ok h
  obtain ⟨h1, _, _⟩ := frameChk_ticks hf
  exact ⟨ticks.toNat, by omega, by omega⟩
theorem least_steps {ticks : Int} {l : List Span} {room m : Int} (h : (supLeastOf ticks l room m).2 = 0) (k : (supLeastOf ticks l room (wrap64 (m + 1))).2 = 0) :
    (supLeastOf ticks l room m).1 ≤ (supLeastOf ticks l room (wrap64 (m + 1))).1 ∧ (supLeastOf ticks l room (wrap64 (m + 1))).1 ≤ (supLeastOf ticks l room m).1 + 1 := by
  obtain ⟨hr, h0, h1, h2⟩ := supLeastOf_ok h
  rw [wrap_next h0 h1] at k ⊢
  obtain ⟨_, k0, k1, k2⟩ := supLeastOf_ok k
  obtain ⟨T, rfl, hT⟩ := ready_T hr
  have := leastH_up (h := hitB l T room) hT m.toNat
  rw [h2, k2, show (m + 1).toNat = m.toNat + 1 by omega]
  simp only [Int.toNat_natCast]
  omega
theorem least_turns {ticks : Int} {l : List Span} {room f m : Int} (h : (supLeastOf ticks l room m).2 = 0) (k : (supTurnsOf ticks l room f m).2 = 0) :
    (supLeastOf ticks l room m).1 ≤ (supTurnsOf ticks l room f m).1 := by
  obtain ⟨hr, h0, h1, h2⟩ := supLeastOf_ok h
  obtain ⟨_, k0, k1, k2⟩ := supTurnsOf_ok k
  obtain ⟨T, rfl, hT⟩ := ready_T hr
  have := leastH_le (hitB_again l T room) hT m.toNat f.toNat
  rw [h2, k2]
  simp only [Int.toNat_natCast]
  omega
theorem least_bd (ticks : Int) (l : List Span) (room m : Int) : 0 ≤ (supLeastOf ticks l room m).1 ∧ (supLeastOf ticks l room m).1 ≤ 2000 := by
  unfold supLeastOf
  split
  · simp
  · split
    · have := leastH_m (hitB l ticks.toNat room) ticks.toNat m.toNat
      simp only []
      omega
    · simp

set_option maxHeartbeats 4000000 in
set_option maxRecDepth 100000 in
theorem supplyWaits_walk {w : World} (ticks : Int) (A : Option Addr) (c : Nat) (l : List Span) (hs : Sl w A 3 l.length (l.flatMap Span.cells)) (hsw : SlW A c l.length) (_ok : ∀ y ∈ l, y.Ok) (room f m k : Int) :
    Calls Try.prog 10 #[.int .i64 ticks, .slice A l.length c, .int .i64 room, .int .i64 f, .int .i64 m, .int .i64 k] w fun e w' => e = .returned (.bool true) ∧ Below w.heap.size w w' := by
  obtain ⟨n, hn⟩ : ∃ n, n = l.length := ⟨_, rfl⟩
  rw [← hn] at hs hsw ⊢
  have HN := hid hn.symm
  have HS := hid hs
  have HW := hid hsw
  clear hs hsw hn _ok
  have H1 := hid (least_steps (ticks := ticks) (l := l) (room := room) (m := m))
  have H2 := hid (least_turns (ticks := ticks) (l := l) (room := room) (m := m) (f := f))
  obtain ⟨a0, a1⟩ := least_bd ticks l room m
  obtain ⟨b0, b1⟩ := least_bd ticks l room (wrap64 (m + 1))
  have HLa := fun w hs => sup_least ticks room m A n c l w HN.out hs HW.out
  have HLb := fun w hs => sup_least ticks room (wrap64 (m + 1)) A n c l w HN.out hs HW.out
  have HT := fun w hs => sup_turns ticks room f m A n c l w HN.out hs HW.out
  generalize supLeastOf ticks l room m = ra at H1 H2 HLa a0 a1
  generalize supLeastOf ticks l room (wrap64 (m + 1)) = rb at H1 HLb b0 b1
  generalize supTurnsOf ticks l room f m = rn at H2 HT
  obtain ⟨a, ea⟩ := ra
  obtain ⟨b, eb⟩ := rb
  obtain ⟨q, eq⟩ := rn
  simp only [] at H1 H2 a0 a1 b0 b1
  have HLa := hid HLa
  have HLb := hid HLb
  have HT := hid HT
  go_enter Try.func10, Try.ntmps10
  go_wp2_with fail
  obtain ⟨w0, hw0⟩ : ∃ w0, w0 = w.alloc (Obj.cells #[.int .i64 0, .int .i64 1, .int .i64 3] 64) := ⟨_, rfl⟩
  rw [← hw0]
  have HB0 : Hid (Below w.heap.size w w0) := by rw [hw0]; exact (Below.refl _ _).alloc (Nat.le_refl _) _
  have hso : Sl w0 (some ⟨w.heap.size, 0, none⟩) 3 1 (oneSpan.flatMap Span.cells) := by
    rw [hw0]
    exact ⟨rfl, fun _ => ⟨_, 0, rfl, by simp, fun j u hu => by rw [Nat.zero_add, blk_cell (heap_alloc_new w _) j]; simpa [oneSpan, Span.cells] using hu⟩⟩
  refine (sup_wait 4 3 2 _ 1 1 oneSpan w0 rfl hso ⟨by omega, by simp [maxLen], by simp⟩).mono ?_
  intro e w1 hW
  obtain ⟨rfl, hb1⟩ := one_wait hW
  have HB1 := hid hb1
  have HS1 := hid ((HS.out.new HB0.out).new hb1)
  have HBw := hid (Below.next HB0.out hb1)
  clear hw0 hso hW hb1 HB0 HB1
  go_upto_region 8 with (first
    | (go_at_call 27; refine (HT.out _ (HS1.out.new HB3.out)).mono ?_; rintro e w4 ⟨rfl, hb4⟩; have HB4 := hid (HB3.out.trans (hb4.mono HB3.out.size)); clear hb4)
    | (go_at_call 26; refine (HLb.out _ (HS1.out.new HB2.out)).mono ?_; rintro e w3 ⟨rfl, hb3⟩; have HB3 := hid (HB2.out.trans (hb3.mono HB2.out.size)); clear hb3)
    | (go_at_call 26; refine (HLa.out _ HS1.out).mono ?_; rintro e w2 ⟨rfl, hb2⟩; have HB2 := hid hb2; clear hb2))
  have HBX := hid (Below.next HBw.out HB4.out)
  have HSX := hid (HS1.out.new HB4.out)
  clear HB2 HB3 HB4 HS1 HBw
  go_cut [95] (fun s wx => s = .bool false ∧ wx = w4)
  case first =>
    by_cases h1 : ea = 0
    · subst h1
      by_cases h2 : eb = 0
      · subst h2
        obtain ⟨p1, p2⟩ := H1.out rfl rfl
        by_cases h3 : eq = 0
        · subst h3
          have p3 := H2.out rfl rfl
          rw [errV_zero]
          go_wp2_with fail
          go_meet
          exact ⟨congrArg Value.bool (by simp only [Bool.or_eq_false_iff, decide_eq_false_iff_not]; omega), rfl⟩
        · have HE := hid (errV_pos h3)
          clear h3
          rw [errV_zero, HE.out]
          go_wp2_with fail
          rw [← HE.out]
          go_meet
          exact ⟨congrArg Value.bool (by simp only [Bool.or_eq_false_iff, decide_eq_false_iff_not]; omega), rfl⟩
      · have HE := hid (errV_pos h2)
        clear h2
        by_cases h3 : eq = 0
        · subst h3
          have p3 := H2.out rfl rfl
          rw [errV_zero, HE.out]
          go_wp2_with fail
          rw [← HE.out]
          go_meet
          exact ⟨congrArg Value.bool (by simp only [decide_eq_false_iff_not]; omega), rfl⟩
        · have HE2 := hid (errV_pos h3)
          clear h3
          rw [errV_zero, HE.out, HE2.out]
          go_wp2_with fail
          rw [← HE.out, ← HE2.out]
          go_meet
          exact ⟨rfl, rfl⟩
    · have HE := hid (errV_pos h1)
      clear h1
      rw [HE.out]
      go_wp2_with fail
      rw [← HE.out]
      go_meet
      exact ⟨rfl, rfl⟩
  case rest =>
    obtain ⟨rfl, rfl⟩ := hcut
    go_wp2_with fail
    refine (sup_wait ticks room k A n c l _ HN.out HSX.out HW.out).mono ?_
    rintro e w5 ⟨hb5, hc5⟩
    have HB5 := hid (Below.next HBX.out hb5)
    have HS5 := hid (HSX.out.new hb5)
    clear hb5
    by_cases hr : readyOf ticks l room = 0
    · rw [if_neg (by simp [hr])] at hc5
      by_cases hk : k < 0 ∨ 100 < k
      · rw [if_pos hk] at hc5
        subst hc5
        rw [show errV 1 = .iface 23 (.int .i64 1) from rfl]
        clear hk
        go_wp2_with fail
        go_ret
        exact ⟨rfl, HB5.out⟩
      · rw [if_neg hk] at hc5
        split at hc5
        · subst hc5
          rw [show errV 5 = .iface 23 (.int .i64 5) from rfl]
          clear hk
          go_wp2_with fail
          go_ret
          exact ⟨rfl, HB5.out⟩
        · obtain ⟨v, rfl, hv, hv8⟩ := hc5
          rw [errV_zero]
          obtain ⟨T, rfl, hT⟩ := ready_T hr
          obtain ⟨j, rfl⟩ : ∃ j : Nat, k = j := ⟨k.toNat, by omega⟩
          simp only [Int.toNat_natCast] at hv
          clear hk
          by_cases h19 : 1900 < v
          · have h19' : (1900 : Int) < v := by omega
            go_wp2_with fail
            go_ret
            exact ⟨rfl, HB5.out⟩
          · have HX1 := fun w hs => sup_least T room v A n c l w HN.out hs HW.out
            have hx : supLeastOf T l room v = (((leastH (hitB l T room) T v : Nat) : Int), 0) := by unfold supLeastOf; rw [if_neg (by simp [hr]), if_pos (by omega)]; simp
            rw [hx] at HX1
            have hv1 := hv.1
            have hv2 := hv.2
            generalize hxx : leastH (hitB l T room) T v = x at HX1 hv1
            have HXX := hid hxx
            have HX1 := hid HX1
            have HYY := fun w hs => sup_turns T room f v A n c l w HN.out hs HW.out
            have hy : (supTurnsOf T l room f v).2 = 0 → (j : Int) ≤ (supTurnsOf T l room f v).1 := by
              intro h
              obtain ⟨_, k0, k1, k2⟩ := supTurnsOf_ok h
              rw [k2]
              have := leastH_le (hitB_again l T room) hT v f.toNat
              simp only [Int.toNat_natCast]
              rw [HXX.out] at this
              omega
            generalize supTurnsOf T l room f v = ry at hy HYY
            obtain ⟨y, ey⟩ := ry
            simp only [] at hy
            have HY := hid hy
            have HYY := hid HYY
            have HR := hid hr
            clear hx hxx hy hv hr
            have hni : ¬ (1900 : Int) < v := by omega
            by_cases h0 : v = 0
            · subst h0
              clear hv2
              go_wp2_with (first
                | (go_at_call 26; refine (HX1.out _ HS5.out).mono ?_; rintro e w6 ⟨rfl, hb6⟩; rw [errV_zero]; have HB6 := hid hb6; clear hb6))
              have HBB6 := HB6
              refine (HYY.out _ (HS5.out.new HBB6.out)).mono ?_
              rintro e w7 ⟨rfl, hb7⟩
              have HB7 := hid (Below.next HB5.out (HBB6.out.trans (hb7.mono HBB6.out.size)))
              clear hb7
              by_cases hey : ey = 0
              · subst hey
                have hjy := HY.out rfl
                rw [errV_zero]
                go_wp2_with fail
                go_ret
                exact ⟨by first | rfl | exact ret_bool (by simp; omega), HB7.out⟩
              · have HE := hid (errV_pos hey)
                rw [HE.out]
                clear hey
                go_wp2_with fail
                go_ret
                exact ⟨rfl, HB7.out⟩
            · have hv3 := hv2 (by omega)
              have HX2 := fun w hs => sup_least T room ((v : Int) - 1) A n c l w HN.out hs HW.out
              have hx2 : supLeastOf T l room ((v : Int) - 1) = (((leastH (hitB l T room) T (v - 1) : Nat) : Int), 0) := by
                unfold supLeastOf
                rw [if_neg (by simp [HR.out]), if_pos (by omega), show ((v : Int) - 1).toNat = v - 1 by omega]
                simp
              rw [hx2] at HX2
              generalize leastH (hitB l T room) T (v - 1) = x2 at HX2 hv3
              have HX2 := hid HX2
              clear hv2 hx2
              have hv0 : (0 : Int) < v := by omega
              go_wp2_with (first
                | (go_at_call 26; refine (HX2.out _ (HS5.out.new HB6.out)).mono ?_; rintro e w8 ⟨rfl, hb8⟩; rw [errV_zero]; have HBB6 := hid (HB6.out.trans (hb8.mono HB6.out.size)); clear hb8)
                | (go_at_call 26; refine (HX1.out _ HS5.out).mono ?_; rintro e w6 ⟨rfl, hb6⟩; rw [errV_zero]; have HB6 := hid hb6; clear hb6))
              refine (HYY.out _ (HS5.out.new HBB6.out)).mono ?_
              rintro e w7 ⟨rfl, hb7⟩
              have HB7 := hid (Below.next HB5.out (HBB6.out.trans (hb7.mono HBB6.out.size)))
              clear hb7
              by_cases hey : ey = 0
              · subst hey
                have hjy := HY.out rfl
                rw [errV_zero]
                go_wp2_with fail
                go_ret
                exact ⟨by first | rfl | exact ret_bool (by simp; omega), HB7.out⟩
              · have HE := hid (errV_pos hey)
                rw [HE.out]
                clear hey
                go_wp2_with fail
                go_ret
                exact ⟨rfl, HB7.out⟩
    · rw [if_pos hr] at hc5
      subst hc5
      have HE := hid (errV_pos hr)
      rw [HE.out]
      clear hr
      go_wp2_with fail
      go_ret
      exact ⟨rfl, HB5.out⟩
end Go.Proofs.Ytfokcjooibmigaa
