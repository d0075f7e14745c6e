/- The walk of framelaw1.SightTells: it returns true at every input. -/
import Derived.Test.YtnmbomhlonifnaaDoorRPlan
import Derived.Test.YtnmbomhlonifnaaDoorRStates
import Derived.Test.YtnmbomhlonifnaaDoorRSees
import Derived.Test.YtnmbomhlonifnaaDoorSightOfBad
import Derived.Test.YtnmbomhlonifnaaDoorSightLongWalk
import Derived.Test.YtnmbomhlonifnaaDoorSameStates
import Derived.Test.YtnmbomhlonifnaaDoorSameHelds
import Derived.Test.YtnmbomhlonifnaaDoorDoorU
import Derived.Test.YtnmbomhlonifnaaDoorWaysU
import Derived.IntWalk
import Derived.Deep.DeepCutAuto
import Derived.Deep.CutBlock
import Derived.StillTailTactics
namespace Go.Proofs.YtnmbomhlonifnaaDoor
open Go.RowKit
set_option maxRecDepth 100000

theorem sight_bad_args' (w : World) (m : PM) (n r : Int) (hf : Forms w) (hm : PlanAt w m) (he : planChk m.pl = 0) (hb : r < 0 ∨ m.ros.length ≤ r ∨ n < 0 ∨ 2000 < n) :
    Calls Tryd.prog 38 #[.agg #[.slice m.A m.ros.length m.c, .int .i64 m.ticks, .slice m.sA m.spans.length m.sc, .slice m.wA m.wires.length m.wc], .int .i64 n, .int .i64 r] w
      fun e w' => e = .returned (.tuple #[.slice none 0 0, errV 1]) ∧ Below w.heap.size w w' := by
  have := sight_bad_args w m n r hf hm he hb
  rw [errV_pos (by decide)]; exact this
theorem states_nil (w : World) : Calls Tryd.prog 39 #[.slice none 0 0, .slice none 0 0] w (Read w (.bool true)) := same_states none none 0 0 0 [] w (Sl.nil _ _ _) (Sl.nil _ _ _) (by omega) (Nat.le_refl _) (Nat.le_refl _)

/-- Where the plan is not right. -/
theorem sightTells_bad {w : World} (hg : Handle w) (hf : Forms w) (m : PM) (hm : PlanAt w m) (n r go0 : Int) (he : planChk m.pl ≠ 0) :
    Calls Tryd.prog 11 #[.agg #[.slice m.A m.ros.length m.c, .int .i64 m.ticks, .slice m.sA m.spans.length m.sc, .slice m.wA m.wires.length m.wc], .int .i64 n, .int .i64 r, .int .i64 go0] w fun e w' => e = .returned (.bool true) ∧ Below w.heap.size w w' := by
  have HG := hid hg
  have HF := hid hf
  have HM := hid hm
  obtain ⟨W1, hW1⟩ : ∃ W1, W1 = w.alloc (.cells #[.slice m.A m.ros.length m.c, .int .i64 m.ticks, .slice m.sA m.spans.length m.sc, .slice m.wA m.wires.length m.wc] 31) := ⟨_, rfl⟩
  have hb1 : Below w.heap.size w W1 := by rw [hW1]; exact (Below.refl _ _).alloc (Nat.le_refl _) _
  have hbox : W1.heap[w.heap.size]? = some (.cells #[.slice m.A m.ros.length m.c, .int .i64 m.ticks, .slice m.sA m.spans.length m.sc, .slice m.wA m.wires.length m.wc] 31 (0, 0)) := by rw [hW1]; exact heap_alloc_new w _
  have HB1 := hid hb1
  have HBOX := hid hbox
  have HRP := hid (rplan_any W1 m (HM.out.new hb1))
  have HKN : Hid (∀ w', Below w.heap.size w w' → Calls Tryd.prog 16 #[.agg #[.slice m.A m.ros.length m.c, .int .i64 m.ticks, .slice m.sA m.spans.length m.sc, .slice m.wA m.wires.length m.wc]] w' fun e w'' => e = .returned (.tuple #[.pointer none, errV (planChk m.pl)]) ∧ Below w'.heap.size w' w'') := fun w' hb => kern_new_bad w' m (HF.out.new hb) (HM.out.new hb) he
  have HSR : Hid (∀ w', Below w.heap.size w w' → Calls Tryd.prog 38 #[.agg #[.slice m.A m.ros.length m.c, .int .i64 m.ticks, .slice m.sA m.spans.length m.sc, .slice m.wA m.wires.length m.wc], .int .i64 n, .int .i64 r] w' fun e w'' => e = .returned (.tuple #[.slice none 0 0, errV (planChk m.pl)]) ∧ Below w'.heap.size w' w'') := fun w' hb => by
    have := sight_bad_plan w' m n r (HF.out.new hb) (HM.out.new hb) he
    rw [errV_pos he]; exact this
  have hneb : (planChk m.pl != 0) = true := by simpa using he
  have heqb : (planChk m.pl == 0) = false := by simpa using he
  generalize planChk m.pl = E at HRP HKN HSR hneb heqb
  generalize m.ros.length = nr at hW1 HBOX HRP HKN HSR ⊢
  generalize m.spans.length = ns at hW1 HBOX HRP HKN HSR ⊢
  generalize m.wires.length = nw at hW1 HBOX HRP HKN HSR ⊢
  obtain ⟨A0, c0, _, tk, sA0, sc0, _, wA0, wc0, _⟩ := m
  simp only [] at hW1 HBOX HRP HKN HSR ⊢
  clear hb1 hbox hf hm hg he
  have x0 := blk_cell HBOX.out 0
  have x1 := blk_cell HBOX.out 1
  have x2 := blk_cell HBOX.out 2
  have x3 := blk_cell HBOX.out 3
  have hlt := blk_lt HBOX.out
  simp at x0 x1 x2 x3
  go_enter Tryd.func11, Tryd.ntmps11
  go_wp2_with fail
  rw [← hW1]
  go_wp2_with fail
  refine HRP.out.mono ?_
  rintro e w2 ⟨rfl, hb2⟩
  have HB2 := hid (HB1.out.trans (hb2.mono HB1.out.size))
  have HBX2 := hid ((hb2.block _ hlt).trans HBOX.out)
  clear hb2 HRP hW1 x0 x1 x2 x3 hlt HBOX
  have x0 := blk_cell HBX2.out 0
  have x1 := blk_cell HBX2.out 1
  have x2 := blk_cell HBX2.out 2
  have x3 := blk_cell HBX2.out 3
  have hlt := blk_lt HBX2.out
  simp at x0 x1 x2 x3
  go_wp2_with fail
  refine (HKN.out _ HB2.out).mono ?_
  rintro e w3 ⟨rfl, hb3⟩
  have HB3 := hid (HB2.out.trans (hb3.mono HB2.out.size))
  have HBX3 := hid ((hb3.block _ (blk_lt HBX2.out)).trans HBX2.out)
  clear hb3 x0 x1 x2 x3 hlt HKN HBX2
  go_wp2_with fail
  refine (error_same E w3 (HG.out.new HB3.out)).mono ?_
  rintro e w4 ⟨rfl, hb4⟩
  have HB4 := hid (HB3.out.trans (hb4.mono HB3.out.size))
  have HBX4 := hid ((hb4.block _ (blk_lt HBX3.out)).trans HBX3.out)
  clear hb4 HBX3
  have x0 := blk_cell HBX4.out 0
  have x1 := blk_cell HBX4.out 1
  have x2 := blk_cell HBX4.out 2
  have x3 := blk_cell HBX4.out 3
  have hlt := blk_lt HBX4.out
  simp at x0 x1 x2 x3
  by_cases h300 : 300 < n
  all_goals
    go_wp2_with fail
    refine (HSR.out _ HB4.out).mono ?_
    rintro e w5 ⟨rfl, hb5⟩
    have HB5 := hid (HB4.out.trans (hb5.mono HB4.out.size))
    clear hb5
    go_wp2_with fail
    refine (error_same E w5 (HG.out.new HB5.out)).mono ?_
    rintro e w6 ⟨rfl, hb6⟩
    have HB6 := hid (HB5.out.trans (hb6.mono HB5.out.size))
    clear hb6
    go_wp2_with fail
    refine (states_nil w6).mono ?_
    rintro e w7 ⟨rfl, d, rfl⟩
    go_wp2_with fail
    go_ret
    exact ⟨rfl, below_drawn HB6.out _⟩

/-- The head of a round: both kernels are alike. -/
structure TellsMid (w wr : World) (kb mb : Nat) (p : Pl) (i : Nat) (k : Kst) (B : Int) (M N : KM) : Prop where
  pair : RPair w wr kb p M k mb N k
  ok : KOk p k B
  bound : B ≤ i

set_option maxHeartbeats 8000000 in
theorem sightTells_good {w : World} (hg : Handle w) (hf : Forms w) (m : PM) (hm : PlanAt w m) (n r go0 : Int) (he : planChk m.pl = 0) :
    Calls Tryd.prog 11 #[.agg #[.slice m.A m.ros.length m.c, .int .i64 m.ticks, .slice m.sA m.spans.length m.sc, .slice m.wA m.wires.length m.wc], .int .i64 n, .int .i64 r, .int .i64 go0] w fun e w' => e = .returned (.bool true) ∧ Below w.heap.size w w' := by
  have HG := hid hg
  have HF := hid hf
  have HM := hid hm
  have HE := hid he
  have HPL : Hid (PlOk m.pl) := planChk_ok he
  have hnr5 : m.ros.length ≤ 5 := (planSmall he).ros
  have hnw12 : m.wires.length ≤ 12 := (planSmall he).wires
  obtain ⟨W1, hW1⟩ : ∃ W1, W1 = w.alloc (.cells #[.slice m.A m.ros.length m.c, .int .i64 m.ticks, .slice m.sA m.spans.length m.sc, .slice m.wA m.wires.length m.wc] 31) := ⟨_, rfl⟩
  have hb1 : Below w.heap.size w W1 := by rw [hW1]; exact (Below.refl _ _).alloc (Nat.le_refl _) _
  have hbox : W1.heap[w.heap.size]? = some (.cells #[.slice m.A m.ros.length m.c, .int .i64 m.ticks, .slice m.sA m.spans.length m.sc, .slice m.wA m.wires.length m.wc] 31 (0, 0)) := by rw [hW1]; exact heap_alloc_new w _
  have HB1 := hid hb1
  have HBOX := hid hbox
  have hRP := rplan_any W1 m (HM.out.new hb1)
  rw [he] at hRP
  have HRP := hid hRP
  have HKN : Hid (∀ w', Below w.heap.size w w' → Calls Tryd.prog 16 #[.agg #[.slice m.A m.ros.length m.c, .int .i64 m.ticks, .slice m.sA m.spans.length m.sc, .slice m.wA m.wires.length m.wc]] w' (KNew w' m.pl)) := fun w' hb => new_run w' m (HF.out.new hb) (HM.out.new hb) he
  have HRN : Hid (∀ w', Below w.heap.size w w' → Calls Tryd.prog 21 #[.agg #[.slice m.A m.ros.length m.c, .int .i64 m.ticks, .slice m.sA m.spans.length m.sc, .slice m.wA m.wires.length m.wc]] w' (RNewd w' m)) := fun w' hb => rnew_run w' m (HM.out.new hb) he
  have HRUNB : Hid (∀ w', Below w.heap.size w w' → (r < 0 ∨ m.ros.length ≤ r ∨ n < 0 ∨ 2000 < n) → Calls Tryd.prog 38 #[.agg #[.slice m.A m.ros.length m.c, .int .i64 m.ticks, .slice m.sA m.spans.length m.sc, .slice m.wA m.wires.length m.wc], .int .i64 n, .int .i64 r] w' fun e w'' => e = .returned (.tuple #[.slice none 0 0, errV 1]) ∧ Below w'.heap.size w' w'') := fun w' hb h => sight_bad_args' w' m n r (HF.out.new hb) (HM.out.new hb) he h
  have HRUNG : Hid (∀ w' (N R : Nat), Below w.heap.size w w' → N ≤ 2000 → R < m.ros.length → Calls Tryd.prog 38 #[.agg #[.slice m.A m.ros.length m.c, .int .i64 m.ticks, .slice m.sA m.spans.length m.sc, .slice m.wA m.wires.length m.wc], .int .i64 N, .int .i64 R] w' (SightRun w' m.pl R N)) := fun w' N R hb hN hR => sight_run w' m N R (HF.out.new hb) (HM.out.new hb) he hN hR
  have HSTG : Hid (∀ w' (N R : Nat), Below w.heap.size w w' → N ≤ 2000 → R < m.ros.length → Calls Tryd.prog 37 #[.agg #[.slice m.A m.ros.length m.c, .int .i64 m.ticks, .slice m.sA m.spans.length m.sc, .slice m.wA m.wires.length m.wc], .int .i64 N, .int .i64 R] w' (RStates w' m.pl R N)) := fun w' N R hb hN hR => rstates_any w' m N R (HM.out.new hb) he hN hR
  have HOF : Hid (∀ (w0 w' : World) (kb : Nat) (M : KM) (k : Kst) (B : Int) (R : Nat) (s : St), KRun w0 w' kb m.pl M k → Below w.heap.size w w' → KOk m.pl k B → k.rooms[R]? = some s → Calls Tryd.prog 42 #[.pointer (some ⟨kb, 0, none⟩), .agg #[.slice m.A m.ros.length m.c, .int .i64 m.ticks, .slice m.sA m.spans.length m.sc, .slice m.wA m.wires.length m.wc], .int .i64 R] w' (SightOf w' s (seen R k.lines))) := fun w0 w' kb M k B R s h hb hk hs => sight_of h m (HF.out.new hb) (HM.out.new hb) rfl he hk hs
  have HOFB : Hid (∀ (w0 w' : World) (kb : Nat) (M : KM) (k : Kst) (B : Int), KRun w0 w' kb m.pl M k → Below w.heap.size w w' → KOk m.pl k B → inB r k.rooms.length = false → Calls Tryd.prog 42 #[.pointer (some ⟨kb, 0, none⟩), .agg #[.slice m.A m.ros.length m.c, .int .i64 m.ticks, .slice m.sA m.spans.length m.sc, .slice m.wA m.wires.length m.wc], .int .i64 r] w' (SightNone w')) := fun w0 w' kb M k B h hb hk hr => sight_of_range h m (HF.out.new hb) (HM.out.new hb) rfl he hk hr
  have HRL : Hid (∀ k B, KOk m.pl k B → k.rooms.length = m.ros.length) := fun k B h => by rw [h.rooms]; simp [PM.pl]
  have HLL : Hid (∀ k B, KOk m.pl k B → k.lines.length = m.wires.length) := fun k B h => by rw [lines_len h]; rfl
  have HMK : Hid (∀ (w wr w3 : World) (kb mb : Nat) (M N : KM) (k k' : Kst), KRun w wr kb m.pl M k → RRun wr w3 mb m.pl N k' → N.P = m → PlanAt w m → RPair w w3 kb m.pl M k mb N k') := fun _ _ _ _ _ _ _ _ _ h hb hP ho => RPair.mk' h hb hP ho
  clear hRP hb1 hbox hf hg hm he
  obtain ⟨p, hp⟩ : ∃ p, p = m.pl := ⟨_, rfl⟩
  rw [← hp] at HPL HKN HRUNG HSTG HOF HOFB HRL HLL HMK
  unfold RNewd at HRN
  rw [← hp] at HRN
  obtain ⟨nr, hnr⟩ : ∃ nr, m.ros.length = nr := ⟨_, rfl⟩
  obtain ⟨ns, hns⟩ : ∃ ns, m.spans.length = ns := ⟨_, rfl⟩
  obtain ⟨nw, hnw⟩ : ∃ nw, m.wires.length = nw := ⟨_, rfl⟩
  rw [hnr] at hnr5
  rw [hnw] at hnw12
  rw [hnr, hns, hnw] at hW1 HBOX HRP HKN HRN HRUNB HRUNG HSTG HOF HOFB ⊢
  rw [hnr] at HRL
  rw [hnw] at HLL
  clear hp hnr hns hnw
  have x0 := blk_cell HBOX.out 0
  have x1 := blk_cell HBOX.out 1
  have x2 := blk_cell HBOX.out 2
  have x3 := blk_cell HBOX.out 3
  have hlt := blk_lt HBOX.out
  simp at x0 x1 x2 x3
  go_enter Tryd.func11, Tryd.ntmps11
  go_wp2_with fail
  rw [← hW1]
  go_wp2_with fail
  refine HRP.out.mono ?_
  rintro e w2 ⟨rfl, hb2⟩
  have HB2 := hid (HB1.out.trans (hb2.mono HB1.out.size))
  have HBX2 := hid ((hb2.block _ hlt).trans HBOX.out)
  clear hb2 HRP hW1 x0 x1 x2 x3 hlt HBOX
  have x0 := blk_cell HBX2.out 0
  have x1 := blk_cell HBX2.out 1
  have x2 := blk_cell HBX2.out 2
  have x3 := blk_cell HBX2.out 3
  have hlt := blk_lt HBX2.out
  simp at x0 x1 x2 x3
  go_wp2_with fail
  refine (HKN.out _ HB2.out).mono ?_
  rintro e w3 ⟨kb, M3, rfl, hr3⟩
  have HR3 := hid hr3
  have HB3 := hid (HB2.out.trans (hr3.below.mono HB2.out.size))
  clear hr3 x0 x1 x2 x3 hlt HKN
  go_wp2_with fail
  have hsame := error_same 0 w3 (HG.out.new HB3.out)
  rw [errV_zero] at hsame
  refine hsame.mono ?_
  clear hsame
  rintro e w4 ⟨rfl, hb4⟩
  have HR4 := hid (HR3.out.new hb4)
  have HB4 := hid (HB3.out.trans (hb4.mono HB3.out.size))
  have HBX4 := hid ((HR4.out.below.block _ (blk_lt HBX2.out)).trans HBX2.out)
  clear hb4 HR3 HB3
  have x0 := blk_cell HBX4.out 0
  have hlt := blk_lt HBX4.out
  simp at x0
  go_upto_region 7 with fail
  obtain ⟨b, hb⟩ : ∃ b : Bool, b = decide (r < 0 ∨ (nr : Int) ≤ r ∨ n < 0 ∨ 2000 < n) := ⟨_, rfl⟩
  have HBB := hid hb
  clear hb
  go_cut [57] (fun v wx => v = .bool b ∧ wx = w4)
  case first =>
    as_aux_lemma =>
    by_cases h1 : r < 0
    · have hb : b = true := by rw [HBB.out]; exact decide_eq_true (.inl h1)
      have hd1 : decide (r < 0) = true := decide_eq_true h1
      have HB0 := hid hb
      clear hb h1
      go_wp2_with fail
      go_meet
      exact ⟨by rw [HB0.out], rfl⟩
    · have hd1 : decide (r < 0) = false := decide_eq_false h1
      by_cases h2 : (nr : Int) ≤ r
      · have hb : b = true := by rw [HBB.out]; exact decide_eq_true (.inr (.inl h2))
        have hd2 : decide ((nr : Int) ≤ r) = true := decide_eq_true h2
        have HB0 := hid hb
        clear hb h1 h2
        go_wp2_with fail
        go_meet
        exact ⟨by rw [HB0.out], rfl⟩
      · have hd2 : decide ((nr : Int) ≤ r) = false := decide_eq_false h2
        by_cases h3 : n < 0
        · have hb : b = true := by rw [HBB.out]; exact decide_eq_true (.inr (.inr (.inl h3)))
          have hd3 : decide (n < 0) = true := decide_eq_true h3
          have HB0 := hid hb
          clear hb h1 h2 h3
          go_wp2_with fail
          go_meet
          exact ⟨by rw [HB0.out], rfl⟩
        · have hd3 : decide (n < 0) = false := decide_eq_false h3
          by_cases h4 : 2000 < n
          · have hb : b = true := by rw [HBB.out]; exact decide_eq_true (.inr (.inr (.inr h4)))
            have hd4 : decide (2000 < n) = true := decide_eq_true h4
            have HB0 := hid hb
            clear hb h1 h2 h3 h4
            go_wp2_with fail
            go_meet
            exact ⟨by rw [HB0.out], rfl⟩
          · have hb : b = false := by rw [HBB.out]; exact decide_eq_false (by omega)
            have hd4 : decide (2000 < n) = false := decide_eq_false h4
            have HB0 := hid hb
            clear hb h1 h2 h3 h4
            go_wp2_with fail
            go_meet
            exact ⟨by rw [HB0.out], rfl⟩
  obtain ⟨rfl, rfl⟩ := hcut
  obtain ⟨w4, rfl⟩ : ∃ w4 : World, w4 = wc := ⟨_, rfl⟩
  obtain ⟨F, hF⟩ : ∃ F : Int, F = if b = true then 1 else 0 := ⟨_, rfl⟩
  have HFF := hid hF
  clear hF x0 hlt
  go_upto_if 57 with fail
  go_cut [13] (fun v wx => v = .int .i64 F ∧ wx = w4)
  case first =>
    as_aux_lemma =>
    cases b with
    | true =>
      go_wp2_with fail
      go_meet
      exact ⟨by rw [HFF.out]; rfl, rfl⟩
    | false =>
      go_wp2_with fail
      go_meet
      exact ⟨by rw [HFF.out]; rfl, rfl⟩
  obtain ⟨rfl, rfl⟩ := hcut
  obtain ⟨w4, rfl⟩ : ∃ w4 : World, w4 = wc := ⟨_, rfl⟩
  by_cases hq : 300 < n ∧ F = 0
  · obtain ⟨h300, rfl⟩ := hq
    have hd : decide (300 < n) = true := decide_eq_true h300
    go_wp2_with fail
    go_ret
    exact ⟨rfl, HB4.out⟩
  · have HQ := hid hq
    have hcond : ∀ v, (v = decide (300 < n)) → (v = true ∧ (F == 0) = false) ∨ v = false := fun v hv => by
      cases v with
      | false => exact .inr rfl
      | true =>
        have h3 : 300 < n := of_decide_eq_true hv.symm
        refine .inl ⟨rfl, ?_⟩
        have : F ≠ 0 := fun h => hq ⟨h3, h⟩
        simpa using this
    have HCD := hid hcond
    clear hq hcond
    go_upto_region 9 with fail
    go_cut [63] (fun v wx => v = .bool false ∧ wx = w4)
    case first =>
      as_aux_lemma =>
      rcases HCD.out _ rfl with ⟨hd, h0⟩ | hd
      · go_wp2_with fail
        go_meet
        exact ⟨rfl, rfl⟩
      · go_wp2_with fail
        go_meet
        exact ⟨rfl, rfl⟩
    obtain ⟨rfl, rfl⟩ := hcut
    obtain ⟨w4, rfl⟩ : ∃ w4 : World, w4 = wc := ⟨_, rfl⟩
    obtain ⟨L, hL⟩ : ∃ L : List St, L = if (r < 0 ∨ (nr : Int) ≤ r ∨ n < 0 ∨ 2000 < n) then [] else statesTo p r.toNat (n.toNat + 1) := ⟨_, rfl⟩
    obtain ⟨nl, hnl⟩ : ∃ nl, nl = L.length := ⟨_, rfl⟩
    have hnl2 : nl ≤ 2001 := by
      rw [hnl, hL]
      split
      · simp
      · rw [statesTo_len]; omega
    have HRUN : Hid (∀ w', Below w.heap.size w w' → Calls Tryd.prog 38 #[.agg #[.slice m.A nr m.c, .int .i64 m.ticks, .slice m.sA ns m.sc, .slice m.wA nw m.wc], .int .i64 n, .int .i64 r] w' fun e w'' => ∃ A c, e = .returned (.tuple #[.slice A nl c, errV F]) ∧ Row w'' 43 8 A nl c (L.flatMap St.cells) ∧ Below w'.heap.size w' w'') := fun w' hb => by
      by_cases hbad : r < 0 ∨ (nr : Int) ≤ r ∨ n < 0 ∨ 2000 < n
      · have hF1 : F = 1 := by rw [HFF.out, HBB.out, decide_eq_true hbad]; rfl
        rw [hF1]
        rw [if_pos hbad] at hL
        rw [hL] at hnl
        refine Calls.mono (HRUNB.out w' hb hbad) ?_
        rintro e w'' ⟨h1, h2⟩
        exact ⟨none, 0, by rw [h1, hnl]; rfl, by rw [hnl, hL]; exact Row.nil _ _ _, h2⟩
      · have hF1 : F = 0 := by rw [HFF.out, HBB.out, decide_eq_false hbad]; rfl
        rw [hF1, errV_zero]
        rw [if_neg hbad] at hL
        obtain ⟨N, rfl⟩ : ∃ N : Nat, n = N := ⟨n.toNat, by omega⟩
        obtain ⟨R, rfl⟩ : ∃ R : Nat, r = R := ⟨r.toNat, by omega⟩
        rw [Int.toNat_natCast, Int.toNat_natCast] at hL
        have hN1 : nl = N + 1 := by rw [hnl, hL, statesTo_len]
        refine Calls.mono (HRUNG.out w' N R hb (by omega) (by omega)) ?_
        rintro e w'' ⟨A, c, h1, h2, _, h4⟩
        exact ⟨A, c, by rw [h1, hN1], by rw [hN1, hL]; exact h2, h4⟩
    have HSTS : Hid (F = 0 → ∀ w', Below w.heap.size w w' → Calls Tryd.prog 37 #[.agg #[.slice m.A nr m.c, .int .i64 m.ticks, .slice m.sA ns m.sc, .slice m.wA nw m.wc], .int .i64 n, .int .i64 r] w' fun e w'' => ∃ A c, e = .returned (.slice A nl c) ∧ Row w'' 43 8 A nl c (L.flatMap St.cells) ∧ Below w'.heap.size w' w'') := fun h0 w' hb => by
      by_cases hbad : r < 0 ∨ (nr : Int) ≤ r ∨ n < 0 ∨ 2000 < n
      · have hF1 : F = 1 := by rw [HFF.out, HBB.out, decide_eq_true hbad]; rfl
        omega
      · rw [if_neg hbad] at hL
        obtain ⟨N, rfl⟩ : ∃ N : Nat, n = N := ⟨n.toNat, by omega⟩
        obtain ⟨R, rfl⟩ : ∃ R : Nat, r = R := ⟨r.toNat, by omega⟩
        rw [Int.toNat_natCast, Int.toNat_natCast] at hL
        have hN1 : nl = N + 1 := by rw [hnl, hL, statesTo_len]
        refine Calls.mono (HSTG.out w' N R hb (by omega) (by omega)) ?_
        rintro e w'' ⟨A, c, h1, h2, h4⟩
        exact ⟨A, c, by rw [h1, hN1], by rw [hN1, hL]; exact h2, h4⟩
    have HF01 : Hid (F = 0 ∨ F = 1 ∧ nl = 0 ∧ L = []) := by
      by_cases hbad : r < 0 ∨ (nr : Int) ≤ r ∨ n < 0 ∨ 2000 < n
      · rw [if_pos hbad] at hL
        exact .inr ⟨by rw [HFF.out, HBB.out, decide_eq_true hbad]; rfl, by rw [hnl, hL]; rfl, hL⟩
      · exact .inl (by rw [HFF.out, HBB.out, decide_eq_false hbad]; rfl)
    clear hL hnl HRUNB HRUNG HSTG HCD HQ HBB HFF
    go_upto_if 65 with fail
    go_cut [14] (fun v14 wx => ∃ A c, v14 = .slice A nl c ∧ Row wx 43 8 A nl c (L.flatMap St.cells) ∧ Below w4.heap.size w4 wx)
    case first =>
      as_aux_lemma =>
      have x0 := blk_cell HBX4.out 0
      have x1 := blk_cell HBX4.out 1
      have x2 := blk_cell HBX4.out 2
      have x3 := blk_cell HBX4.out 3
      have hlt := blk_lt HBX4.out
      simp at x0 x1 x2 x3
      rcases HF01.out with h0 | ⟨h1, h2, h3⟩
      · have hst := HSTS.out h0 w4 HB4.out
        subst h0
        go_wp2_with fail
        refine hst.mono ?_
        clear hst x0 x1 x2 x3 hlt
        rintro e w5 ⟨A, c, rfl, hrow, hb5⟩
        have HROW := hid hrow
        have HB5 := hid hb5
        clear hrow hb5
        go_wp2_with fail
        go_meet
        exact ⟨A, c, rfl, HROW.out, HB5.out⟩
      · subst h1 h2 h3
        go_wp2_with fail
        go_meet
        exact ⟨none, 0, rfl, Row.nil _ _ _, Below.refl _ _⟩
    obtain ⟨A, c, rfl, hrow, hb5⟩ := hcut
    obtain ⟨w5, rfl⟩ : ∃ w5 : World, w5 = wc := ⟨_, rfl⟩
    have HROW5 := hid hrow
    have HR5 := hid (HR4.out.new hb5)
    have HB5 := hid (HB4.out.trans (hb5.mono HB4.out.size))
    have HBX5 := hid ((hb5.block _ (blk_lt HBX4.out)).trans HBX4.out)
    clear hrow hb5 HR4 HB4 HBX4
    have x0 := blk_cell HBX5.out 0
    have x1 := blk_cell HBX5.out 1
    have x2 := blk_cell HBX5.out 2
    have x3 := blk_cell HBX5.out 3
    have hlt := blk_lt HBX5.out
    simp at x0 x1 x2 x3
    have hrun := HRUN.out w5 HB5.out
    go_wp2_with fail
    refine hrun.mono ?_
    clear hrun x0 x1 x2 x3 hlt
    rintro e w6 ⟨A2, c2, rfl, hrow2, hb6⟩
    have HROW2 := hid hrow2
    have HROW6 := hid (HROW5.out.new hb6)
    have HR6 := hid (HR5.out.new hb6)
    have HB6 := hid (HB5.out.trans (hb6.mono HB5.out.size))
    have HBX6 := hid ((hb6.block _ (blk_lt HBX5.out)).trans HBX5.out)
    clear hrow2 hb6 HROW5 HR5 HB5 HBX5
    have hes := error_same F w6 (HG.out.new HB6.out)
    go_wp2_with fail
    refine hes.mono ?_
    clear hes
    rintro e w7 ⟨rfl, hb7⟩
    have hss := same_states A2 A nl c2 c L w7 (HROW2.out.new hb7).sl (HROW6.out.new hb7).sl (by omega) HROW2.out.le.1 HROW6.out.le.1
    have HR7 := hid (HR6.out.new hb7)
    have HB7 := hid (HB6.out.trans (hb7.mono HB6.out.size))
    have HBX7 := hid ((hb7.block _ (blk_lt HBX6.out)).trans HBX6.out)
    clear hb7 HROW2 HROW6 HR6 HB6 HBX6
    go_wp2_with fail
    refine hss.mono ?_
    clear hss
    rintro e w5 ⟨rfl, d, hw5⟩
    have hb5 : Below w7.heap.size w7 w5 := by rw [hw5]; exact below_drawn (Below.refl _ _) _
    have HR5 := hid (HR7.out.new hb5)
    have HB5 := hid (HB7.out.trans (hb5.mono HB7.out.size))
    have HBX5 := hid ((hb5.block _ (blk_lt HBX7.out)).trans HBX7.out)
    clear hb5 hw5 HR7 HB7 HBX7
    have x0 := blk_cell HBX5.out 0
    have x1 := blk_cell HBX5.out 1
    have x2 := blk_cell HBX5.out 2
    have x3 := blk_cell HBX5.out 3
    have hlt := blk_lt HBX5.out
    simp at x0 x1 x2 x3
    go_wp2_with fail
    refine (HRN.out _ HB5.out).mono ?_
    clear x0 x1 x2 x3 hlt
    rintro e w6 ⟨mb, N6, rfl, hr6, hP6⟩
    have HPR := hid (HMK.out _ _ _ _ _ _ _ _ _ HR5.out hr6 hP6 (HM.out.new HB2.out))
    clear hr6 hP6 HRN HR5 HB5 HBX5
    go_wp2_with fail
    go_loopw [18] (fun v18 wr => ∃ i k B M N, i ≤ 60 ∧ v18 = .int .i64 (i : Nat) ∧ TellsMid w2 wr kb mb p i k B M N) (fun v18 _ => 60 - (intOf v18).toNat)
    case atStart => exact ⟨0, kNew p, 0, M3, N6, by omega, rfl, HPR.out, kNew_ok HPL.out, by omega⟩
    case round =>
      obtain ⟨wo, rfl⟩ : ∃ wo : World, wo = wr := ⟨_, rfl⟩
      obtain ⟨i, k, B, M, N, hi60, rfl, hpm⟩ := hrel
      have HPM := hid hpm
      clear hpm HPR
      obtain ⟨q, hq⟩ : ∃ q : Bool, q = decide ((i : Int) < go0 ∧ i < 60) := ⟨_, rfl⟩
      have HQQ := hid hq
      clear hq
      go_upto_region 20 with fail
      go_cut [96] (fun v wx => v = .bool q ∧ wx = wo)
      case first =>
        as_aux_lemma =>
        by_cases h1 : (i : Int) < go0
        · by_cases h2 : i < 60
          · have hb : q = true := by rw [HQQ.out]; exact decide_eq_true ⟨h1, h2⟩
            have hd1 : decide ((i : Int) < go0) = true := decide_eq_true h1
            have hd2 : decide ((i : Int) < 60) = true := decide_eq_true (by omega)
            have HB0 := hid hb
            clear hb h1 h2
            go_wp2_with fail
            go_meet
            exact ⟨by rw [HB0.out], rfl⟩
          · have hb : q = false := by rw [HQQ.out]; exact decide_eq_false (by omega)
            have hd1 : decide ((i : Int) < go0) = true := decide_eq_true h1
            have hd2 : decide ((i : Int) < 60) = false := decide_eq_false (by omega)
            have HB0 := hid hb
            clear hb h1 h2
            go_wp2_with fail
            go_meet
            exact ⟨by rw [HB0.out], rfl⟩
        · have hb : q = false := by rw [HQQ.out]; exact decide_eq_false (by omega)
          have hd1 : decide ((i : Int) < go0) = false := decide_eq_false h1
          have HB0 := hid hb
          clear hb h1
          go_wp2_with fail
          go_meet
          exact ⟨by rw [HB0.out], rfl⟩
      obtain ⟨rfl, rfl⟩ := hcut
      obtain ⟨wo, rfl⟩ : ∃ wo : World, wo = wc := ⟨_, rfl⟩
      cases q with
      | true =>
        have hlt60 : i < 60 := (of_decide_eq_true HQQ.out.symm).2
        have hBB : B < 4611686018427387904 := by have := HPM.out.bound; omega
        obtain ⟨⟨⟨x1, x2, x3, x4⟩, k2⟩, hq⟩ : ∃ q, q = tick p k := ⟨_, rfl⟩
        have hta := tick_run HPM.out.pair.a HPL.out HPM.out.ok hBB
        rw [← hq] at hta
        have HOK2 : Hid (KOk p k2 (B + 1)) := by
          have h := tick_ok HPL.out HPM.out.ok (spans_ok HPL.out)
          have h2 : k2 = (tick p k).2 := by rw [← hq]
          rw [h2]; exact h
        have HQ2 := hid hq
        have HBD := hid hBB
        clear hq hBB
        go_wp2_with fail
        refine hta.mono ?_
        clear hta
        rintro e w7 ⟨M2, rfl, hr7, hk7, hf7⟩
        have HI7 := hid (HPM.out.pair.goA hr7 hk7 hf7)
        have htb := rtick_run HI7.out.b HPL.out HPM.out.ok HBD.out
        rw [← HQ2.out] at htb
        clear hr7 hk7 hf7
        go_wp2_with fail
        refine htb.mono ?_
        clear htb
        rintro e w8 ⟨N2, rfl, hr8, hk8, hf8, hP8⟩
        have HI8 := hid (HI7.out.goB hr8 hk8 hf8 hP8)
        clear hr8 hk8 hf8 hP8
        go_wp2_with fail
        go_roundw
        case rel => exact ⟨i + 1, k2, B + 1, M2, N2, by omega, by go_num, HI8.out, HOK2.out, by have := HPM.out.bound; omega⟩
        case measure => simp [intOf]; omega
      | false =>
        have HBXO := hid ((HPM.out.pair.a.below.block _ (blk_lt HBX2.out)).trans HBX2.out)
        have HBO := hid (HB2.out.trans (HPM.out.pair.a.below.mono HB2.out.size))
        have HRLK := hid (HRL.out k B HPM.out.ok)
        have x0 := blk_cell HBXO.out 0
        have hlt := blk_lt HBXO.out
        simp at x0
        go_upto_region 24 with fail
        go_cut [111] (fun v wx => v = .bool (!inB r nr) ∧ wx = wo)
        case first =>
          as_aux_lemma =>
          by_cases h1 : r < 0
          · have hi1 : inB r nr = false := by unfold inB; exact decide_eq_false (by omega)
            have hd1 : decide (r < 0) = true := decide_eq_true h1
            go_wp2_with fail
            go_meet
            exact ⟨by rw [hi1]; rfl, rfl⟩
          · have hd1 : decide (r < 0) = false := decide_eq_false h1
            by_cases h2 : (nr : Int) ≤ r
            · have hi1 : inB r nr = false := by unfold inB; exact decide_eq_false (by omega)
              have hd2 : decide ((nr : Int) ≤ r) = true := decide_eq_true h2
              go_wp2_with fail
              go_meet
              exact ⟨by rw [hi1]; rfl, rfl⟩
            · have hi1 : inB r nr = true := by unfold inB; exact decide_eq_true (by omega)
              have hd2 : decide ((nr : Int) ≤ r) = false := decide_eq_false h2
              go_wp2_with fail
              go_meet
              exact ⟨by rw [hi1]; rfl, rfl⟩
        obtain ⟨rfl, rfl⟩ := hcut
        obtain ⟨wo, rfl⟩ : ∃ wo : World, wo = wc := ⟨_, rfl⟩
        have hgd := state_guard
        have HEQ : Hid (∀ (s : St) (w : World), (binOp .eql 43 (.agg (stV s)) (.agg (stV s))).run Tryd.prog w = .ok (.bool true) w) := fun s w => by
          have := state_eql s s w
          rw [stEq_refl] at this; exact this
        clear x0 hlt
        cases hin : inB r nr with
        | false =>
          have x0 := blk_cell HBXO.out 0
          have x1 := blk_cell HBXO.out 1
          have x2 := blk_cell HBXO.out 2
          have x3 := blk_cell HBXO.out 3
          have hlt := blk_lt HBXO.out
          simp at x0 x1 x2 x3
          have hof := fun (w' : World) (h : Below wo.heap.size wo w') => HOFB.out w2 w' kb M k B (HPM.out.pair.a.new h) (HBO.out.trans (h.mono HBO.out.size)) HPM.out.ok (by rw [HRLK.out]; exact hin)
          have HOFF := hid hof
          clear hof hin
          go_upto_region 31 with fail
          obtain ⟨wa, hwa⟩ : ∃ wa, wa = wo.alloc (.cells #[.int .i64 0, .int .i64 0, .int .i64 0, .int .i64 0, .int .i64 0, .int .i64 0, .int .i64 0, .bool false] 43) := ⟨_, rfl⟩
          rw [← hwa]
          obtain ⟨ab, hab⟩ : ∃ ab, ab = wo.heap.size := ⟨_, rfl⟩
          rw [← hab]
          have hba : Below wo.heap.size wo wa := by rw [hwa]; exact (Below.refl _ _).alloc (Nat.le_refl _) _
          have haa : wa.heap[ab]? = some (.cells #[.int .i64 0, .int .i64 0, .int .i64 0, .int .i64 0, .int .i64 0, .int .i64 0, .int .i64 0, .bool false] 43 (0, 0)) := by rw [hwa, hab]; exact heap_alloc_new wo _
          have HBA := hid hba
          have HAA := hid haa
          clear x0 x1 x2 x3 hlt hwa hab hba haa
          have hbx := (HBA.out.block _ (blk_lt HBXO.out)).trans HBXO.out
          have x0 := blk_cell hbx 0
          have x1 := blk_cell hbx 1
          have x2 := blk_cell hbx 2
          have x3 := blk_cell hbx 3
          have hlt := blk_lt hbx
          simp at x0 x1 x2 x3
          clear hbx
          go_wp2_with fail
          refine (HOFF.out _ HBA.out).mono ?_
          clear x0 x1 x2 x3 hlt
          rintro e wb ⟨rfl, hbb⟩
          have HBB := hid (HBA.out.trans (hbb.mono HBA.out.size))
          have HAB := hid ((hbb.block _ (blk_lt HAA.out)).trans HAA.out)
          clear hbb HBA HAA
          go_wp2_with fail
          obtain ⟨wd, hwd⟩ : ∃ wd, wd = wb.alloc (.cells #[.int .i64 0, .int .i64 0, .int .i64 0, .int .i64 0, .int .i64 0, .int .i64 0, .int .i64 0, .bool false] 43) := ⟨_, rfl⟩
          rw [← hwd]
          obtain ⟨tb, htb⟩ : ∃ tb, tb = wb.heap.size := ⟨_, rfl⟩
          rw [← htb]
          have hbd : Below wo.heap.size wo wd := by rw [hwd]; exact HBB.out.alloc HBB.out.size _
          have htd : wd.heap[tb]? = some (.cells #[.int .i64 0, .int .i64 0, .int .i64 0, .int .i64 0, .int .i64 0, .int .i64 0, .int .i64 0, .bool false] 43 (0, 0)) := by rw [hwd, htb]; exact heap_alloc_new wb _
          have had : wd.heap[ab]? = some (.cells #[.int .i64 0, .int .i64 0, .int .i64 0, .int .i64 0, .int .i64 0, .int .i64 0, .int .i64 0, .bool false] 43 (0, 0)) := by rw [hwd, blk_alloc (blk_lt HAB.out)]; exact HAB.out
          have HBD := hid hbd
          have HTD := hid htd
          have HAD := hid had
          have hes := error_same 1 wd (HG.out.new (HBO.out.trans (hbd.mono HBO.out.size)))
          rw [errV_pos (by decide)] at hes
          clear hwd htb hbd htd had HBB HAB
          refine hes.mono ?_
          clear hes
          rintro e we ⟨rfl, hbe⟩
          have HBE := hid (HBD.out.trans (hbe.mono HBD.out.size))
          have hte := (hbe.block _ (blk_lt HTD.out)).trans HTD.out
          have hae := (hbe.block _ (blk_lt HAD.out)).trans HAD.out
          have y0 := blk_cell hte 0
          have y1 := blk_cell hte 1
          have y2 := blk_cell hte 2
          have y3 := blk_cell hte 3
          have y4 := blk_cell hte 4
          have y5 := blk_cell hte 5
          have y6 := blk_cell hte 6
          have y7 := blk_cell hte 7
          have z0 := blk_cell hae 0
          have z1 := blk_cell hae 1
          have z2 := blk_cell hae 2
          have z3 := blk_cell hae 3
          have z4 := blk_cell hae 4
          have z5 := blk_cell hae 5
          have z6 := blk_cell hae 6
          have z7 := blk_cell hae 7
          simp at y0 y1 y2 y3 y4 y5 y6 y7 z0 z1 z2 z3 z4 z5 z6 z7
          have hltt := blk_lt hte
          have hlts := blk_lt hae
          have heq := HEQ.out St.zero
          simp only [stV, St.zero] at heq
          have hhs := helds_same none none 0 0 0 0 [] [] we ⟨Row.nil _ _ _, fun h hh => by simp at hh⟩ ⟨Row.nil _ _ _, fun h hh => by simp at hh⟩ (by omega) (by omega)
          rw [eqB_true rfl] at hhs
          clear hbe hte hae HTD HAD HBD
          go_wp2_with fail
          refine hhs.mono ?_
          clear hhs
          rintro e wf ⟨rfl, hbf⟩
          have HBF := hid (HBO.out.trans ((HBE.out.trans (hbf.mono HBE.out.size)).mono HBO.out.size))
          clear hbf
          go_wp2_with fail
          go_ret
          exact ⟨rfl, HBF.out⟩
        | true =>
          have hb1 : 0 ≤ r ∧ r < nr := by simpa [inB] using hin
          obtain ⟨R, rfl⟩ : ∃ R : Nat, r = R := ⟨r.toNat, by omega⟩
          obtain ⟨s, hg⟩ : ∃ s, k.rooms[R]? = some s := ⟨_, List.getElem?_eq_getElem (by rw [HRLK.out]; omega)⟩
          obtain ⟨sp, s0, s1, s2, s3, s4, s5, sf⟩ := s
          have HGS := hid hg
          have hll : k.lines.length ≤ 12 := by rw [HLL.out k B HPM.out.ok]; exact hnw12
          have HL12 := hid hll
          clear hin hb1 hg hll
          go_upto_region 29 with fail
          obtain ⟨wa, hwa⟩ : ∃ wa, wa = wo.alloc (.cells #[.int .i64 0, .int .i64 0, .int .i64 0, .int .i64 0, .int .i64 0, .int .i64 0, .int .i64 0, .bool false] 43) := ⟨_, rfl⟩
          rw [← hwa]
          obtain ⟨ab, hab⟩ : ∃ ab, ab = wo.heap.size := ⟨_, rfl⟩
          rw [← hab]
          have hba : Below wo.heap.size wo wa := by rw [hwa]; exact (Below.refl _ _).alloc (Nat.le_refl _) _
          have haa : wa.heap[ab]? = some (.cells #[.int .i64 0, .int .i64 0, .int .i64 0, .int .i64 0, .int .i64 0, .int .i64 0, .int .i64 0, .bool false] 43 (0, 0)) := by rw [hwa, hab]; exact heap_alloc_new wo _
          have HBA := hid hba
          have HAA := hid haa
          have HABS : Hid (wo.heap.size ≤ ab) := by rw [hab]; exact Nat.le_refl _
          clear hwa hab haa
          obtain ⟨rb, roff, hrA, ⟨y0, y1, y2, y3, y4, y5, y6, y7⟩, hrf, hrb, hrkb, hrl, hrc, hrm⟩ := (HPM.out.pair.new hba).b.kat.room HGS.out
          obtain ⟨_, _, _, k4, _, _, _, hmb⟩ := (HPM.out.pair.new hba).b.kat.cells
          rw [hrA, HRLK.out] at k4
          rw [HRLK.out] at hrl hrc
          simp only [] at y0 y1 y2 y3 y4 y5 y6 y7
          unfold maxLen at hrm
          have hltab := blk_lt HAA.out
          clear hrA hrf hba
          go_upto_region 30 with (refine wpList_store_rowK rfl 43 _ _ rfl ab #[.int .i64 sp, .int .i64 s0, .int .i64 s1, .int .i64 s2, .int .i64 s3, .int .i64 s4, .int .i64 s5, .bool sf] rfl rfl 43 _ HAA.out (by kernel_rfl) rfl (by simp [Value.oneCell']) ?_; intro wx hx hk _; have HX := hid hx; have HK := hid hk; clear hx hk)
          have hbx : Below wo.heap.size wo wx := Keep.below (F := NoF) ((Keep.of_below NoF HBA.out).then HK.out fun j hj hf => by have := HABS.out; omega) (Nat.le_refl _) (fun _ h => h.elim)
          have HBX := hid hbx
          have HPX := hid (HPM.out.pair.new hbx)
          have hsee := rsees_any wx mb N k p B R HPM.out.ok HL12.out HPX.out.b.kat
          clear y0 y1 y2 y3 y4 y5 y6 y7 k4 hmb hrb hrc hrm hltab hbx HK HAA HBA
          go_wp2_with fail
          refine hsee.mono ?_
          clear hsee
          rintro e wb ⟨A3, n3, c3, hs, rfl, hin3, hval, hbb⟩
          have HIN := hid hin3
          have HVAL := hid hval
          have HBB := hid (HBX.out.trans (hbb.mono HBX.out.size))
          have HAB := hid ((hbb.block _ (blk_lt HX.out)).trans HX.out)
          have HPB := hid (HPX.out.new hbb)
          have hbxb := (HBB.out.block _ (blk_lt HBXO.out)).trans HBXO.out
          have x0 := blk_cell hbxb 0
          have x1 := blk_cell hbxb 1
          have x2 := blk_cell hbxb 2
          have x3 := blk_cell hbxb 3
          have hlt := blk_lt hbxb
          simp at x0 x1 x2 x3
          have hof := HOF.out w2 wb kb M k B R _ HPB.out.a (HBO.out.trans (HBB.out.mono HBO.out.size)) HPM.out.ok HGS.out
          unfold SightOf stV at hof
          clear hin3 hval hbb hbxb HX HBX HPX
          go_wp2_with fail
          refine hof.mono ?_
          clear hof x0 x1 x2 x3 hlt
          rintro e wc2 ⟨A4, c4, gs, rfl, hhel, hval4⟩
          obtain ⟨n4, hn4⟩ : ∃ n4, gs.length = n4 := ⟨_, rfl⟩
          rw [hn4] at hhel ⊢
          have hbc := hhel.grow.below
          have hin4 : HeldsIn wc2 A4 n4 c4 gs := ⟨hhel.grow.row, fun g hg => ⟨(hhel.each g hg).1, (hhel.each g hg).2.1⟩⟩
          have HIN4 := hid hin4
          have HIN3 := hid (HIN.out.new hbc)
          have HV4 := hid hval4
          have HBC := hid (HBB.out.trans (hbc.mono HBB.out.size))
          have HAC := hid ((hbc.block _ (blk_lt HAB.out)).trans HAB.out)
          clear hhel hval4 hn4 hbc hin4 HIN HBB HAB HPB
          go_wp2_with fail
          obtain ⟨wd, hwd⟩ : ∃ wd, wd = wc2.alloc (.cells #[.int .i64 sp, .int .i64 s0, .int .i64 s1, .int .i64 s2, .int .i64 s3, .int .i64 s4, .int .i64 s5, .bool sf] 43) := ⟨_, rfl⟩
          rw [← hwd]
          obtain ⟨tb, htb⟩ : ∃ tb, tb = wc2.heap.size := ⟨_, rfl⟩
          rw [← htb]
          have hbcd : Below wc2.heap.size wc2 wd := by rw [hwd]; exact (Below.refl _ _).alloc (Nat.le_refl _) _
          have htd : wd.heap[tb]? = some (.cells #[.int .i64 sp, .int .i64 s0, .int .i64 s1, .int .i64 s2, .int .i64 s3, .int .i64 s4, .int .i64 s5, .bool sf] 43 (0, 0)) := by rw [hwd, htb]; exact heap_alloc_new wc2 _
          have HBD := hid (HBC.out.trans (hbcd.mono HBC.out.size))
          have HTD := hid htd
          have HAD := hid ((hbcd.block _ (blk_lt HAC.out)).trans HAC.out)
          have HIN4d := hid (HIN4.out.new hbcd)
          have HIN3d := hid (HIN3.out.new hbcd)
          have hes := error_same 0 wd (HG.out.new (HBO.out.trans (HBD.out.mono HBO.out.size)))
          rw [errV_zero] at hes
          clear hwd htb hbcd htd HBC HAC HIN4 HIN3
          refine hes.mono ?_
          clear hes
          rintro e we ⟨rfl, hbe⟩
          have HBE := hid (HBD.out.trans (hbe.mono HBD.out.size))
          have hte := (hbe.block _ (blk_lt HTD.out)).trans HTD.out
          have hae := (hbe.block _ (blk_lt HAD.out)).trans HAD.out
          have y0 := blk_cell hte 0
          have y1 := blk_cell hte 1
          have y2 := blk_cell hte 2
          have y3 := blk_cell hte 3
          have y4 := blk_cell hte 4
          have y5 := blk_cell hte 5
          have y6 := blk_cell hte 6
          have y7 := blk_cell hte 7
          have z0 := blk_cell hae 0
          have z1 := blk_cell hae 1
          have z2 := blk_cell hae 2
          have z3 := blk_cell hae 3
          have z4 := blk_cell hae 4
          have z5 := blk_cell hae 5
          have z6 := blk_cell hae 6
          have z7 := blk_cell hae 7
          simp at y0 y1 y2 y3 y4 y5 y6 y7 z0 z1 z2 z3 z4 z5 z6 z7
          have hltt := blk_lt hte
          have hlts := blk_lt hae
          have heq := HEQ.out ⟨sp, s0, s1, s2, s3, s4, s5, sf⟩
          simp only [stV] at heq
          have hse : (seen (R : Int) k.lines).length ≤ 12 := by
            unfold seen
            rw [List.length_map]
            exact Nat.le_trans (List.length_filter_le _ _) HL12.out
          have hl3 : n3 ≤ 1000 := by
            have h1 := heldsIn_len HIN3d.out
            have h2 := congrArg List.length HVAL.out
            rw [List.length_map] at h2
            omega
          have hl4 : n4 ≤ 1000 := by
            have h1 := heldsIn_len HIN4d.out
            have h2 := congrArg List.length HV4.out
            rw [List.length_map] at h2
            omega
          have hhs := helds_same A4 A3 n4 n3 c4 c3 gs hs we (HIN4d.out.new hbe) (HIN3d.out.new hbe) hl4 hl3
          rw [eqB_true (HV4.out.trans HVAL.out.symm)] at hhs
          clear hbe hte hae HTD HAD HBD hse hl3 hl4
          go_wp2_with fail
          refine hhs.mono ?_
          clear hhs
          rintro e wf ⟨rfl, hbf⟩
          have HBF := hid (HBO.out.trans ((HBE.out.trans (hbf.mono HBE.out.size)).mono HBO.out.size))
          clear hbf
          go_wp2_with fail
          go_ret
          exact ⟨rfl, HBF.out⟩
theorem sightTells_walk {w : World} (hg : Handle w) (hf : Forms w) (m : PM) (hm : PlanAt w m) (n r go0 : Int) :
    Calls Tryd.prog 11 #[.agg #[.slice m.A m.ros.length m.c, .int .i64 m.ticks, .slice m.sA m.spans.length m.sc, .slice m.wA m.wires.length m.wc], .int .i64 n, .int .i64 r, .int .i64 go0] w fun e w' => e = .returned (.bool true) ∧ Below w.heap.size w w' := by
  by_cases he : planChk m.pl = 0
  · exact sightTells_good hg hf m hm n r go0 he
  · exact sightTells_bad hg hf m hm n r go0 he
end Go.Proofs.YtnmbomhlonifnaaDoor
