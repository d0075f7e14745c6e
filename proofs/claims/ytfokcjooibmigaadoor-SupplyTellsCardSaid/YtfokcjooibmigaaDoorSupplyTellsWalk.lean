/- The walk of framelaw3.SupplyTells: it returns true at every input. -/
import Derived.Test.YtfokcjooibmigaaDoorRWait
import Derived.Test.YtfokcjooibmigaaDoorTold
import Derived.Deep.DeepCutAuto
namespace Go.Proofs.YtfokcjooibmigaaDoor
open Go.RowKit
set_option maxRecDepth 100000

def outS (a : Int) : Prop := a < 0 ∨ 2000 < a
instance (a : Int) : Decidable (outS a) := by unfold outS; infer_instance
theorem ready_snd (ticks : Int) (l : List Span) (room : Int) : readyOf ticks l room = if (frameChk ticks l).2 = 0 ∧ (room < 0 ∨ 4 < room) then 1 else (frameChk ticks l).2 := by
  unfold readyOf
  by_cases he : (frameChk ticks l).2 = 0
  · rw [if_neg (by simp [he])]
    by_cases ho : room < 0 ∨ 4 < room
    · rw [if_pos (by rw [roomB_false]; omega), if_pos ⟨he, ho⟩]
    · rw [if_neg (by rw [roomB_false]; omega), if_neg (fun h => ho h.2), he]
  · rw [if_pos he, if_neg (fun h => he h.1)]
theorem supT_snd (ticks : Int) (l : List Span) (room f m : Int) : (supTurnsOf ticks l room f m).2 = if readyOf ticks l room = 0 ∧ (outS f ∨ outS m) then 1 else readyOf ticks l room := by
  unfold supTurnsOf outS
  by_cases he : readyOf ticks l room = 0
  · rw [if_neg (by simp [he])]
    by_cases ho : 0 ≤ f ∧ f ≤ 2000 ∧ 0 ≤ m ∧ m ≤ 2000
    · rw [if_pos ho, if_neg (by omega), he]
    · rw [if_neg ho, if_pos (by omega)]
  · rw [if_pos he, if_neg (fun h => he h.1)]
theorem supL_snd (ticks : Int) (l : List Span) (room m : Int) : (supLeastOf ticks l room m).2 = if readyOf ticks l room = 0 ∧ outS m then 1 else readyOf ticks l room := by
  unfold supLeastOf outS
  by_cases he : readyOf ticks l room = 0
  · rw [if_neg (by simp [he])]
    by_cases ho : 0 ≤ m ∧ m ≤ 2000
    · rw [if_pos ho, if_neg (by omega), he]
    · rw [if_neg ho, if_pos (by omega)]
  · rw [if_pos he, if_neg (fun h => he h.1)]
theorem supT_bad {ticks : Int} {l : List Span} {room f m : Int} (h : (supTurnsOf ticks l room f m).2 ≠ 0) : (supTurnsOf ticks l room f m).1 = 0 := by
  unfold supTurnsOf at h ⊢
  split
  · rfl
  · rename_i h1; rw [if_neg h1] at h
    split
    · rename_i h2; rw [if_pos h2] at h; exact absurd rfl h
    · rfl
theorem supL_bad {ticks : Int} {l : List Span} {room m : Int} (h : (supLeastOf ticks l room m).2 ≠ 0) : (supLeastOf ticks l room m).1 = 0 := by
  unfold supLeastOf at h ⊢
  split
  · rfl
  · rename_i h1; rw [if_neg h1] at h
    split
    · rename_i h2; rw [if_pos h2] at h; exact absurd rfl h
    · rfl
theorem supL_good {ticks : Int} {l : List Span} {room m : Int} (h : (supLeastOf ticks l room m).2 = 0) : readyOf ticks l room = 0 ∧ 0 ≤ m ∧ m ≤ 2000 ∧ (supLeastOf ticks l room m).1 = (leastH (hitB l ticks.toNat room) ticks.toNat m.toNat : Nat) := by
  unfold supLeastOf at h ⊢
  split at h
  · rename_i h1; exact absurd h h1
  · rename_i h1
    split at h
    · rename_i h2
      exact ⟨by simpa using h1, h2.1, h2.2, by rw [if_neg h1, if_pos h2]⟩
    · simp at h
theorem supT_good {ticks : Int} {l : List Span} {room f m : Int} (h : (supTurnsOf ticks l room f m).2 = 0) : readyOf ticks l room = 0 ∧ (0 ≤ f ∧ f ≤ 2000) ∧ (0 ≤ m ∧ m ≤ 2000) ∧ (supTurnsOf ticks l room f m).1 = (cntH (hitB l ticks.toNat room) f.toNat m.toNat : Nat) := by
  unfold supTurnsOf at h ⊢
  split at h
  · rename_i h1; exact absurd h h1
  · rename_i h1
    split at h
    · rename_i h2
      exact ⟨by simpa using h1, ⟨h2.1, h2.2.1⟩, h2.2.2, by rw [if_neg h1, if_pos h2]⟩
    · simp at h
theorem ready_ticks {ticks : Int} {l : List Span} {room : Int} (h : readyOf ticks l room = 0) : 1 ≤ ticks ∧ ticks ≤ 40 := by
  obtain ⟨hf, _⟩ := readyOf_ok h
  obtain ⟨h1, h2, _⟩ := frameChk_ticks hf
  exact ⟨h1, h2⟩
/-- What is told of a wait. -/
def WaitIs (e : Int) (h : Nat → Bool) (T : Nat) (k v e' : Int) : Prop :=
  if e ≠ 0 then v = 0 ∧ e' = e else if k < 0 ∨ 100 < k then v = 0 ∧ e' = 1 else if k ≠ 0 ∧ cntH h 0 T = 0 then v = 0 ∧ e' = 5 else e' = 0 ∧ ∃ u : Nat, v = u ∧ Waits h T k.toNat u
theorem wait_is {w w' : World} {ticks : Int} {l : List Span} {room k v e' : Int} {e : Ending} (h : SupWait w ticks l room k e w') (hr : readyOf ticks l room = 0 → 0 < ticks.toNat) (hi : WaitIs (readyOf ticks l room) (hitB l ticks.toNat room) ticks.toNat k v e') :
    e = .returned (.tuple #[.int .i64 v, errV e']) ∧ Below w.heap.size w w' := by
  obtain ⟨hb, hc⟩ := h
  refine ⟨?_, hb⟩
  unfold WaitIs at hi
  by_cases h0 : readyOf ticks l room = 0
  · rw [if_neg (by simp [h0])] at hc hi
    by_cases hk : k < 0 ∨ 100 < k
    · rw [if_pos hk] at hc hi; rw [hc, hi.1, hi.2]
    · rw [if_neg hk] at hc hi
      by_cases hz : k ≠ 0 ∧ cntH (hitB l ticks.toNat room) 0 ticks.toNat = 0
      · rw [if_pos hz] at hc hi; rw [hc, hi.1, hi.2]
      · rw [if_neg hz] at hc hi
        obtain ⟨u, hu, hw, _⟩ := hc
        obtain ⟨h5, u2, h6, h7⟩ := hi
        rw [hu, h5, h6, Waits.eq (hr h0) hw h7]
  · rw [if_pos h0] at hc hi; rw [hc, hi.1, hi.2]

set_option maxHeartbeats 16000000 in
theorem supplyTells_walk {w : World} (hg : Handle w) (ticks : Int) (A : Option Addr) (c : Nat) (l : List Span) (hs : Sl w A 3 l.length (l.flatMap Span.cells)) (hsw : SlW A c l.length) (_ok : ∀ y ∈ l, y.Ok) (r f m k : Int) :
    Calls Tryd.prog 10 #[.int .i64 ticks, .slice A l.length c, .int .i64 r, .int .i64 f, .int .i64 m, .int .i64 k] w fun e w' => e = .returned (.bool true) ∧ Below w.heap.size w w' := by
  have HG := hid hg
  have HFR := fun w hs => rframe_any ticks A c l w hs hsw
  obtain ⟨n, hn⟩ : ∃ n, n = l.length := ⟨_, rfl⟩
  rw [← hn] at hs hsw HFR ⊢
  have HN := hid hn.symm
  have HS := hid hs
  have HW := hid hsw
  clear hg hs hsw _ok hn
  have HT := fun w hs => sup_turns ticks r f m A n c l w HN.out hs HW.out
  have HL := fun w hs => sup_least ticks r m A n c l w HN.out hs HW.out
  have t1 := supT_snd ticks l r f m
  have t2 := supT_bad (ticks := ticks) (l := l) (room := r) (f := f) (m := m)
  have t3 := supT_good (ticks := ticks) (l := l) (room := r) (f := f) (m := m)
  have l1 := supL_snd ticks l r m
  have l2 := supL_bad (ticks := ticks) (l := l) (room := r) (m := m)
  have l3 := supL_good (ticks := ticks) (l := l) (room := r) (m := m)
  have r1 := ready_snd ticks l r
  have r2 := ready_ticks (ticks := ticks) (l := l) (room := r)
  have HWI := hid (fun (v e' : Int) {w w' : World} {e : Ending} (h : SupWait w ticks l r k e w') => wait_is (v := v) (e' := e') h)
  generalize frameChk ticks l = fc at HFR r1
  obtain ⟨pos, E⟩ := fc
  generalize supTurnsOf ticks l r f m = st at HT t1 t2 t3
  obtain ⟨tv, f1⟩ := st
  generalize supLeastOf ticks l r m = sl at HL l1 l2 l3
  obtain ⟨lv, f2⟩ := sl
  simp only [] at r1 t1 t2 t3 l1 l2 l3
  generalize hrd : readyOf ticks l r = e at t1 t3 l1 l3 r1 r2 HWI
  have HT := hid HT
  have HL := hid HL
  have HFR := hid HFR
  have T1 := hid t1
  have T2 := hid t2
  have T3 := hid t3
  have L1 := hid l1
  have L2 := hid l2
  have L3 := hid l3
  have R1 := hid r1
  have R2 := hid r2
  clear t1 t2 t3 l1 l2 l3 r1 r2 hrd
  obtain ⟨B1, hB1⟩ : ∃ B, B = decide (E = 0 ∧ (r < 0 ∨ 4 < r)) := ⟨_, rfl⟩
  obtain ⟨B2, hB2⟩ : ∃ B, B = decide (e = 0 ∧ (outS f ∨ outS m)) := ⟨_, rfl⟩
  obtain ⟨B3, hB3⟩ : ∃ B, B = decide (e = 0 ∧ outS m) := ⟨_, rfl⟩
  obtain ⟨B4, hB4⟩ : ∃ B, B = decide (e = 0 ∧ (k < 0 ∨ 100 < k)) := ⟨_, rfl⟩
  have HB1d := hid hB1
  have HB2d := hid hB2
  have HB3d := hid hB3
  have HB4d := hid hB4
  clear hB1 hB2 hB3 hB4
  go_enter Tryd.func10, Tryd.ntmps10
  go_upto_region 2 with (first
    | (go_at_call 29; refine (HFR.out _ HS.out).mono ?_; rintro e w1 ⟨rfl, hb1⟩; have HB1 := hid hb1; clear hb1))
  go_cut [37] (fun v wx => v = .bool B1 ∧ wx = w1)
  case first =>
    as_aux_lemma =>
    by_cases hE : E = 0
    · subst hE
      by_cases h1 : r < 0
      · obtain rfl : B1 = true := by rw [HB1d.out]; exact decide_eq_true ⟨rfl, .inl h1⟩
        go_wp2_with fail
        go_meet
        exact ⟨rfl, rfl⟩
      by_cases h2 : 4 < r
      · obtain rfl : B1 = true := by rw [HB1d.out]; exact decide_eq_true ⟨rfl, .inr h2⟩
        go_wp2_with fail
        go_meet
        exact ⟨by first | rfl | simp [h2], rfl⟩
      · obtain rfl : B1 = false := by rw [HB1d.out]; exact decide_eq_false (by omega)
        go_wp2_with fail
        go_meet
        exact ⟨by first | rfl | simp [h2], rfl⟩
    · obtain rfl : B1 = false := by rw [HB1d.out]; exact decide_eq_false (fun h => hE h.1)
      have hE1 : (E == 0) = false := by simpa using hE
      clear hE
      go_wp2_with fail
      go_meet
      exact ⟨rfl, rfl⟩
  case rest =>
    as_aux_lemma =>
    obtain ⟨rfl, rfl⟩ := hcut
    go_upto_if 37 with (fail)
    go_cut [14] (fun v wx => v = .int .i64 e ∧ wx = wc)
    case first =>
      cases B1 with
      | true =>
        have hf := R1.out
        rw [if_pos (of_decide_eq_true HB1d.out.symm)] at hf
        subst hf
        go_wp2_with fail
        go_meet
        exact ⟨rfl, rfl⟩
      | false =>
        have hf := R1.out
        rw [if_neg (of_decide_eq_false HB1d.out.symm)] at hf
        subst hf
        go_wp2_with fail
        go_meet
        exact ⟨rfl, rfl⟩
    case rest =>
      as_aux_lemma =>
      obtain ⟨rfl, rfl⟩ := hcut
      obtain ⟨wd, hwd⟩ : ∃ wd, wd = wc := ⟨_, rfl⟩
      subst hwd
      go_upto_region 5 with (fail)
      go_cut [56] (fun v wx => v = .bool B2 ∧ wx = wd)
      case first =>
        as_aux_lemma =>
        by_cases hE : e = 0
        · subst hE
          by_cases h1 : f < 0
          · obtain rfl : B2 = true := by rw [HB2d.out]; exact decide_eq_true ⟨rfl, .inl (.inl h1)⟩
            go_wp2_with fail
            go_meet
            exact ⟨rfl, rfl⟩
          by_cases h2 : 2000 < f
          · obtain rfl : B2 = true := by rw [HB2d.out]; exact decide_eq_true ⟨rfl, .inl (.inr h2)⟩
            go_wp2_with fail
            go_meet
            exact ⟨rfl, rfl⟩
          by_cases h3 : m < 0
          · obtain rfl : B2 = true := by rw [HB2d.out]; exact decide_eq_true ⟨rfl, .inr (.inl h3)⟩
            go_wp2_with fail
            go_meet
            exact ⟨rfl, rfl⟩
          by_cases h4 : 2000 < m
          · obtain rfl : B2 = true := by rw [HB2d.out]; exact decide_eq_true ⟨rfl, .inr (.inr h4)⟩
            go_wp2_with fail
            go_meet
            exact ⟨by first | rfl | simp [h4], rfl⟩
          · obtain rfl : B2 = false := by rw [HB2d.out]; exact decide_eq_false (by unfold outS; omega)
            go_wp2_with fail
            go_meet
            exact ⟨by first | rfl | simp [h4], rfl⟩
        · obtain rfl : B2 = false := by rw [HB2d.out]; exact decide_eq_false (fun h => hE h.1)
          have hE1 : (e == 0) = false := by simpa using hE
          clear hE
          go_wp2_with fail
          go_meet
          exact ⟨rfl, rfl⟩
      case rest =>
        as_aux_lemma =>
        obtain ⟨rfl, rfl⟩ := hcut
        go_upto_if 56 with (fail)
        go_cut [15] (fun v wx => v = .int .i64 f1 ∧ wx = wc)
        case first =>
          cases B2 with
          | true =>
            have hf := T1.out
            rw [if_pos (of_decide_eq_true HB2d.out.symm)] at hf
            subst hf
            go_wp2_with fail
            go_meet
            exact ⟨rfl, rfl⟩
          | false =>
            have hf := T1.out
            rw [if_neg (of_decide_eq_false HB2d.out.symm)] at hf
            subst hf
            go_wp2_with fail
            go_meet
            exact ⟨rfl, rfl⟩
        case rest =>
          as_aux_lemma =>
          obtain ⟨rfl, rfl⟩ := hcut
          obtain ⟨we, hwe⟩ : ∃ we, we = wc := ⟨_, rfl⟩
          subst hwe
          go_upto_if 58 with (fail)
          go_cut [16] (fun v wx => v = .int .i64 tv ∧ Below we.heap.size we wx)
          case first =>
            as_aux_lemma =>
            by_cases hf : f1 = 0
            · subst hf
              obtain ⟨he, hfr, hmr, htv⟩ := T3.out rfl
              obtain ⟨k1, k2⟩ := R2.out he
              have HEE := hid he
              clear he
              obtain ⟨T, rfl⟩ : ∃ T : Nat, ticks = T := ⟨ticks.toNat, by omega⟩
              obtain ⟨f, rfl⟩ : ∃ j : Nat, f = j := ⟨f.toNat, by omega⟩
              obtain ⟨m, rfl⟩ : ∃ j : Nat, m = j := ⟨m.toNat, by omega⟩
              simp only [Int.toNat_natCast] at htv
              have HX := fun w hs => rturns_any T f m r A n c l w HN.out hs HW.out (by omega) (by omega) (by omega) (by omega)
              rw [← htv] at HX
              have HX := hid HX
              clear htv
              go_wp2_with (go_at_call 43; refine (HX.out _ (HS.out.new HB1.out)).mono ?_; rintro ee w2 ⟨rfl, hb2⟩; have HB2 := hid hb2; clear hb2)
              go_meet
              exact ⟨rfl, HB2.out⟩
            · have htv := T2.out hf
              subst htv
              have hf1 : (f1 == 0) = false := by simpa using hf
              clear hf
              go_wp2_with fail
              go_meet
              exact ⟨rfl, Below.refl _ _⟩
          case rest =>
            as_aux_lemma =>
            obtain ⟨rfl, hb⟩ := hcut
            have HBX := hid (HB1.out.trans (hb.mono HB1.out.size))
            clear hb
            go_upto_region 13 with (first
              | (go_at_call 12; refine (error_same f1 _ (HG.out.new HB3.out)).mono ?_; rintro ee w4 ⟨rfl, hb4⟩; have HB4 := hid (HB3.out.trans (hb4.mono HB3.out.size)); clear hb4)
              | (go_at_call 44; refine (HT.out _ (HS.out.new HBX.out)).mono ?_; rintro ee w3 ⟨rfl, hb3⟩; have HB3 := hid (HBX.out.trans (hb3.mono HBX.out.size)); clear hb3))
            go_cut [92] (fun v wx => v = .bool B3 ∧ wx = w4)
            case first =>
              as_aux_lemma =>
              by_cases hE : e = 0
              · subst hE
                by_cases h3 : m < 0
                · obtain rfl : B3 = true := by rw [HB3d.out]; exact decide_eq_true ⟨rfl, .inl h3⟩
                  go_wp2_with fail
                  go_meet
                  exact ⟨rfl, rfl⟩
                by_cases h4 : 2000 < m
                · obtain rfl : B3 = true := by rw [HB3d.out]; exact decide_eq_true ⟨rfl, .inr h4⟩
                  go_wp2_with fail
                  go_meet
                  exact ⟨by first | rfl | simp [h4], rfl⟩
                · obtain rfl : B3 = false := by rw [HB3d.out]; exact decide_eq_false (by unfold outS; omega)
                  go_wp2_with fail
                  go_meet
                  exact ⟨by first | rfl | simp [h4], rfl⟩
              · obtain rfl : B3 = false := by rw [HB3d.out]; exact decide_eq_false (fun h => hE h.1)
                have hE1 : (e == 0) = false := by simpa using hE
                clear hE
                go_wp2_with fail
                go_meet
                exact ⟨rfl, rfl⟩
            case rest =>
              as_aux_lemma =>
              obtain ⟨rfl, rfl⟩ := hcut
              go_upto_if 92 with (fail)
              go_cut [15] (fun v wx => v = .int .i64 f2 ∧ wx = wc)
              case first =>
                cases B3 with
                | true =>
                  have hf := L1.out
                  rw [if_pos (of_decide_eq_true HB3d.out.symm)] at hf
                  subst hf
                  go_wp2_with fail
                  go_meet
                  exact ⟨rfl, rfl⟩
                | false =>
                  have hf := L1.out
                  rw [if_neg (of_decide_eq_false HB3d.out.symm)] at hf
                  subst hf
                  go_wp2_with fail
                  go_meet
                  exact ⟨rfl, rfl⟩
              case rest =>
                as_aux_lemma =>
                obtain ⟨rfl, rfl⟩ := hcut
                obtain ⟨wg, hwg⟩ : ∃ wg, wg = wc := ⟨_, rfl⟩
                subst hwg
                go_upto_if 94 with (fail)
                go_cut [16] (fun v wx => v = .int .i64 lv ∧ Below wg.heap.size wg wx)
                case first =>
                  as_aux_lemma =>
                  by_cases hf : f2 = 0
                  · subst hf
                    obtain ⟨he, hm0, hm1, hlv⟩ := L3.out rfl
                    obtain ⟨k1, k2⟩ := R2.out he
                    have HEE := hid he
                    clear he
                    obtain ⟨T, rfl⟩ : ∃ T : Nat, ticks = T := ⟨ticks.toNat, by omega⟩
                    obtain ⟨m, rfl⟩ : ∃ j : Nat, m = j := ⟨m.toNat, by omega⟩
                    simp only [Int.toNat_natCast] at hlv
                    have HX := fun w hs => rleast_any T m r A n c l w HN.out hs HW.out (by omega) (by omega) (by omega)
                    rw [← hlv] at HX
                    have HX := hid HX
                    clear hlv
                    go_wp2_with (go_at_call 45; refine (HX.out _ (HS.out.new HB4.out)).mono ?_; rintro ee w2 ⟨rfl, hb2⟩; have HB2 := hid hb2; clear hb2)
                    go_meet
                    exact ⟨rfl, HB2.out⟩
                  · have htv := L2.out hf
                    subst htv
                    have hf1 : (f2 == 0) = false := by simpa using hf
                    clear hf
                    go_wp2_with fail
                    go_meet
                    exact ⟨rfl, Below.refl _ _⟩
                case rest =>
                  as_aux_lemma =>
                  obtain ⟨rfl, hb⟩ := hcut
                  have HBY := hid (HB4.out.trans (hb.mono HB4.out.size))
                  clear hb
                  obtain ⟨e5, he5⟩ : ∃ x, x = if e = 0 ∧ (k < 0 ∨ 100 < k) then 1 else e := ⟨_, rfl⟩
                  have HE5 := hid he5
                  clear he5
                  go_upto_region 20 with (first
                    | (go_at_call 12; refine (error_same f2 _ (HG.out.new HB6.out)).mono ?_; rintro ee w7 ⟨rfl, hb7⟩; have HB7 := hid (HB6.out.trans (hb7.mono HB6.out.size)); clear hb7)
                    | (go_at_call 41; refine (HL.out _ (HS.out.new HBY.out)).mono ?_; rintro ee w6 ⟨rfl, hb6⟩; have HB6 := hid (HBY.out.trans (hb6.mono HBY.out.size)); clear hb6))
                  go_cut [125] (fun v wx => v = .bool B4 ∧ wx = w7)
                  case first =>
                    as_aux_lemma =>
                    by_cases hE : e = 0
                    · subst hE
                      by_cases h3 : k < 0
                      · obtain rfl : B4 = true := by rw [HB4d.out]; exact decide_eq_true ⟨rfl, .inl h3⟩
                        go_wp2_with fail
                        go_meet
                        exact ⟨rfl, rfl⟩
                      by_cases h4 : 100 < k
                      · obtain rfl : B4 = true := by rw [HB4d.out]; exact decide_eq_true ⟨rfl, .inr h4⟩
                        go_wp2_with fail
                        go_meet
                        exact ⟨by first | rfl | simp [h4], rfl⟩
                      · obtain rfl : B4 = false := by rw [HB4d.out]; exact decide_eq_false (by omega)
                        go_wp2_with fail
                        go_meet
                        exact ⟨by first | rfl | simp [h4], rfl⟩
                    · obtain rfl : B4 = false := by rw [HB4d.out]; exact decide_eq_false (fun h => hE h.1)
                      have hE1 : (e == 0) = false := by simpa using hE
                      clear hE
                      go_wp2_with fail
                      go_meet
                      exact ⟨rfl, rfl⟩
                  case rest =>
                    as_aux_lemma =>
                    obtain ⟨rfl, rfl⟩ := hcut
                    go_upto_if 125 with (fail)
                    go_cut [14] (fun v wx => v = .int .i64 e5 ∧ wx = wc)
                    case first =>
                      cases B4 with
                      | true =>
                        have hf := HE5.out
                        rw [if_pos (of_decide_eq_true HB4d.out.symm)] at hf
                        subst hf
                        go_wp2_with fail
                        go_meet
                        exact ⟨rfl, rfl⟩
                      | false =>
                        have hf := HE5.out
                        rw [if_neg (of_decide_eq_false HB4d.out.symm)] at hf
                        subst hf
                        go_wp2_with fail
                        go_meet
                        exact ⟨rfl, rfl⟩
                    case rest =>
                      as_aux_lemma =>
                      obtain ⟨rfl, rfl⟩ := hcut
                      obtain ⟨wi, hwi⟩ : ∃ wi, wi = wc := ⟨_, rfl⟩
                      subst hwi
                      go_upto_if 127 with (fail)
                      go_cut [14, 16] (fun v14 v16 wx => ∃ v4 e4 : Int, v14 = .int .i64 e4 ∧ v16 = .int .i64 v4 ∧ WaitIs e (hitB l ticks.toNat r) ticks.toNat k v4 e4 ∧ Below wi.heap.size wi wx)
                      case first =>
                        as_aux_lemma =>
                        by_cases hf : e5 = 0
                        · have h5 := HE5.out
                          have hek : e = 0 ∧ ¬ (k < 0 ∨ 100 < k) := by
                            by_cases he : e = 0
                            · by_cases hk : k < 0 ∨ 100 < k
                              · rw [if_pos ⟨he, hk⟩] at h5; omega
                              · exact ⟨he, hk⟩
                            · rw [if_neg (fun h => he h.1)] at h5; omega
                          obtain ⟨he, hk⟩ := hek
                          obtain ⟨k1, k2⟩ := R2.out he
                          subst hf
                          have hge : Hid (e = 0) := he
                          have hnk : Hid (¬ (k < 0 ∨ 100 < k)) := hk
                          obtain ⟨T, rfl⟩ : ∃ T : Nat, ticks = T := ⟨ticks.toNat, by omega⟩
                          obtain ⟨j, rfl⟩ : ∃ j : Nat, k = j := ⟨k.toNat, by omega⟩
                          have hj : j ≤ 100 := by omega
                          clear h5 he hk
                          go_wp2_with fail
                          refine (rwait_any T j r A n c l _ HN.out (HS.out.new HB7.out) HW.out (by omega) (by omega) hj).mono ?_
                          rintro ee w8 ⟨hb8, hc8⟩
                          have HB8 := hid hb8
                          clear hb8
                          by_cases hz : j ≠ 0 ∧ cntH (hitB l T r) 0 T = 0
                          · rw [if_pos hz] at hc8
                            subst hc8
                            have HZ := hid hz
                            clear hz
                            go_wp2_with fail
                            go_meet
                            refine ⟨0, 5, (by first | rfl | trivial), (by first | rfl | trivial), ?_, HB8.out⟩
                            unfold WaitIs
                            simp only [Int.toNat_natCast]
                            rw [if_neg (by rw [hge.out]; simp), if_neg hnk.out, if_pos ⟨by have := HZ.out.1; omega, HZ.out.2⟩]
                            exact ⟨by first | rfl | trivial, by first | rfl | trivial⟩
                          · rw [if_neg hz] at hc8
                            obtain ⟨v, rfl, hv⟩ := hc8
                            have HZ := hid hz
                            have HV := hid hv
                            have hvi : ¬ (v : Int) < 0 := by omega
                            clear hz hv
                            go_wp2_with fail
                            go_meet
                            refine ⟨v, 0, (by first | rfl | trivial), (by first | rfl | trivial), ?_, HB8.out⟩
                            unfold WaitIs
                            simp only [Int.toNat_natCast]
                            rw [if_neg (by rw [hge.out]; simp), if_neg hnk.out, if_neg (fun h => HZ.out ⟨by have := h.1; omega, h.2⟩)]
                            exact ⟨by first | rfl | trivial, v, by first | rfl | trivial, HV.out⟩
                        · have hwis : WaitIs e (hitB l ticks.toNat r) ticks.toNat k 0 e5 := by
                            have h5 := HE5.out
                            unfold WaitIs
                            by_cases he : e = 0
                            · by_cases hk : k < 0 ∨ 100 < k
                              · rw [if_pos ⟨he, hk⟩] at h5
                                rw [if_neg (by simp [he]), if_pos hk]
                                exact ⟨rfl, h5⟩
                              · rw [if_neg (fun h => hk h.2)] at h5; omega
                            · rw [if_neg (fun h => he h.1)] at h5
                              rw [if_pos he]
                              exact ⟨rfl, h5⟩
                          have HWIS := hid hwis
                          have hf1 : (e5 == 0) = false := by simpa using hf
                          clear hf hwis
                          go_wp2_with fail
                          go_meet
                          exact ⟨0, e5, (by first | rfl | trivial), (by first | rfl | trivial), HWIS.out, Below.refl _ _⟩
                      case rest =>
                        as_aux_lemma =>
                        obtain ⟨v4, e4, rfl, rfl, his, hb⟩ := hcut
                        have HIS := hid his
                        have HBZ := hid (HB7.out.trans (hb.mono HB7.out.size))
                        clear his hb
                        go_wp2_with fail
                        refine (sup_wait ticks r k A n c l _ HN.out (HS.out.new HBZ.out) HW.out).mono ?_
                        intro ee w9 hW9
                        obtain ⟨rfl, hb9⟩ := HWI.out v4 e4 hW9 (fun h => by have := R2.out h; omega) HIS.out
                        have HB9 := hid (HBZ.out.trans (hb9.mono HBZ.out.size))
                        clear hW9 hb9
                        go_wp2_with (go_at_call 12; refine (error_same e4 _ (HG.out.new HB9.out)).mono ?_; rintro ee wA ⟨rfl, hbA⟩; have HBA := hid (HB9.out.trans (hbA.mono HB9.out.size)); clear hbA)
                        go_ret
                        exact ⟨by first | rfl | simp, HBA.out⟩
end Go.Proofs.YtfokcjooibmigaaDoor
