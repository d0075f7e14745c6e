/- The walk of framelaw2.CarePlays: it returns true at every input. -/
import Derived.Test.YtongkiccglaniaaDoorCareJoin
import Derived.Test.YtongkiccglaniaaDoorCareGet
import Derived.Test.YtongkiccglaniaaDoorRPlanU
import Derived.Test.YtongkiccglaniaaDoorAloneMem
import Derived.Test.YtongkiccglaniaaDoorSameU
import Derived.Test.YtongkiccglaniaaDoorDoorU
import Derived.IntWalk
import Derived.StillTailTactics
import Derived.Deep.DeepCutAuto
import Derived.Deep.CutBlock
namespace Go.Proofs.YtongkiccglaniaaDoor
open Go.RowKit
set_option maxRecDepth 100000

set_option maxHeartbeats 8000000 in
theorem carePlays_walk {w : World} (hg : Handle w) (hf : Forms w) (m : PM) (hm : PlanAt w m) (A : Option Addr) (c : Nat) (what : List Int) (hs : Sl w A 1 what.length (ints what)) (hsw : SlW A c what.length) (most n r : Int) :
    Calls Tryd.prog 15 #[.agg #[.slice m.A m.ros.length m.c, .int .i64 m.ticks, .slice m.sA m.spans.length m.sc, .slice m.wA m.wires.length m.wc], .slice A what.length c, .int .i64 most, .int .i64 n, .int .i64 r] w fun e w' => e = .returned (.bool true) ∧ Below w.heap.size w w' := by
  have HG := hid hg
  have HF := hid hf
  have HM := hid hm
  have HS := hid hs
  have HSW := hid hsw
  have HPF := hid hm.lt
  have hcap1 := hsw.1
  have hcap2 := hsw.2.1
  unfold maxLen at hcap2
  have hlm : m.pl.code.length = m.ros.length := by simp [PM.pl]
  obtain ⟨w1, hw1⟩ : ∃ w1, w1 = w.alloc (.cells #[.slice m.A m.ros.length m.c, .int .i64 m.ticks, .slice m.sA m.spans.length m.sc, .slice m.wA m.wires.length m.wc] 31) := ⟨_, rfl⟩
  have hb1 : Below w.heap.size w w1 := by rw [hw1]; exact (Below.refl _ _).alloc (Nat.le_refl _) _
  have hbox : w1.heap[w.heap.size]? = some (.cells #[.slice m.A m.ros.length m.c, .int .i64 m.ticks, .slice m.sA m.spans.length m.sc, .slice m.wA m.wires.length m.wc] 31 (0, 0)) := by rw [hw1]; exact heap_alloc_new w _
  have hrp := rplan_any w1 m (hm.new hb1)
  obtain ⟨nn, hnn⟩ : ∃ nn, m.ros.length = nn := ⟨_, rfl⟩
  obtain ⟨ns, hns⟩ : ∃ ns, m.spans.length = ns := ⟨_, rfl⟩
  obtain ⟨nw, hnw⟩ : ∃ nw, m.wires.length = nw := ⟨_, rfl⟩
  obtain ⟨nl, hnl⟩ : ∃ nl, what.length = nl := ⟨_, rfl⟩
  rw [hnn, hns, hnw] at hw1 hbox hrp ⊢
  rw [hnl] at hcap1 ⊢
  rw [hnn] at hlm
  unfold TellV at hrp
  have HNN := hid hnn
  have HNS := hid hns
  have HNW := hid hnw
  have HNL := hid hnl
  have HLC := hid hlm
  have HB1 := hid hb1
  have HXS : Hid (∀ w', Below w1.heap.size w1 w' → w'.cell? ⟨w.heap.size, 0, none⟩ = some (.slice m.A nn m.c) ∧ w'.cell? ⟨w.heap.size, 1, none⟩ = some (.int .i64 m.ticks) ∧ w'.cell? ⟨w.heap.size, 2, none⟩ = some (.slice m.sA ns m.sc) ∧ w'.cell? ⟨w.heap.size, 3, none⟩ = some (.slice m.wA nw m.wc) ∧ w.heap.size < w'.heap.size) := fun w' hb => by
    have h := (hb.block _ (blk_lt hbox)).trans hbox
    exact ⟨blk_cell h 0, blk_cell h 1, blk_cell h 2, blk_cell h 3, blk_lt h⟩
  have HRP := hid hrp
  clear hg hf hm hs hsw hb1 hbox hnn hns hnw hnl hlm hrp
  obtain ⟨x0, x1, x2, x3, hlx⟩ := HXS.out _ (Below.refl _ _)
  go_enter Tryd.func15, Tryd.ntmps15
  go_upto_region 1 with fail
  rw [← hw1]
  clear hw1
  go_wp2_with fail
  refine HRP.out.mono ?_
  clear HRP x0 x1 x2 x3 hlx
  rintro e w2 ⟨rfl, hb2⟩
  have HXB := hid hb2
  have HB2 := hid (HB1.out.trans (hb2.mono HB1.out.size))
  clear hb2
  obtain ⟨E0, hE0⟩ : ∃ E0, planChk m.pl = E0 := ⟨_, rfl⟩
  rw [hE0]
  have HE0 := hid hE0
  clear hE0
  go_upto_region 2 with fail
  go_cut [37] (fun v wx => (∃ b, v = .bool b ∧ ((b = true ∧ E0 = 0 ∧ nl ≠ nn) ∨ (b = false ∧ (E0 ≠ 0 ∨ nl = nn)))) ∧ wx = w2)
  case first =>
    as_aux_lemma =>
    obtain ⟨x0, x1, x2, x3, hlx⟩ := HXS.out _ HXB.out
    by_cases h0 : E0 = 0
    · subst h0
      by_cases hln : nl = nn
      · have hd : ((nl : Int) != (nn : Int)) = false := by simp; omega
        have hd2 : (nl != nn) = false := by simp; omega
        have HLN := hid hln
        clear hln
        go_wp2_with fail
        go_meet
        exact ⟨⟨false, rfl, .inr ⟨rfl, .inr HLN.out⟩⟩, rfl⟩
      · have hd : ((nl : Int) != (nn : Int)) = true := by simp; omega
        have hd2 : (nl != nn) = true := by simpa using hln
        have HLN := hid hln
        clear hln
        go_wp2_with fail
        go_meet
        exact ⟨⟨true, rfl, .inl ⟨rfl, by first | rfl | trivial, HLN.out⟩⟩, rfl⟩
    · have hd : (E0 == 0) = false := by simpa using h0
      have H0 := hid h0
      clear h0
      go_wp2_with fail
      go_meet
      exact ⟨⟨false, rfl, .inr ⟨rfl, .inl H0.out⟩⟩, rfl⟩
  obtain ⟨⟨b37, rfl, hb37⟩, rfl⟩ := hcut
  obtain ⟨w2, rfl⟩ : ∃ w' : World, w' = wc := ⟨_, rfl⟩
  obtain ⟨E1, hE1⟩ : ∃ E1 : Int, E1 = if E0 ≠ 0 then E0 else if nl ≠ nn then 3 else 0 := ⟨_, rfl⟩
  have HE1 := hid hE1
  have HB37 := hid hb37
  clear hE1 hb37
  go_upto_if 37 with fail
  go_cut [11] (fun v11 wx => v11 = .int .i64 E1 ∧ wx = w2)
  case first =>
    as_aux_lemma =>
    cases b37 with
    | true =>
      go_wp2_with fail
      go_meet
      refine ⟨?_, rfl⟩
      rcases HB37.out with ⟨_, h1, h2⟩ | ⟨h, _⟩
      · rw [HE1.out, if_neg (by rw [h1]; simp), if_pos h2]
      · cases h
    | false =>
      go_wp2_with fail
      go_meet
      refine ⟨?_, rfl⟩
      rcases HB37.out with ⟨h, _⟩ | ⟨_, h⟩
      · cases h
      · rw [HE1.out]
        by_cases h0 : E0 = 0
        · rw [if_neg (by rw [h0]; simp), if_neg (by rcases h with h | h; exact absurd h0 h; simp [h]), h0]
        · rw [if_pos h0]
  obtain ⟨rfl, rfl⟩ := hcut
  obtain ⟨w2, rfl⟩ : ∃ w' : World, w' = wc := ⟨_, rfl⟩
  obtain ⟨E2, hE2⟩ : ∃ E2 : Int, E2 = if E1 ≠ 0 then E1 else if what.any badRule = true then 1 else 0 := ⟨_, rfl⟩
  have HE2 := hid hE2
  clear hE2 HB37
  go_upto_block 0 with fail
  go_cut [11] (fun v11 wx => v11 = .int .i64 E2 ∧ wx = w2)
  case first =>
    as_aux_lemma =>
    go_wp2_with fail
    go_loopw [11, 12] (fun v11 v12 wr => ∃ (i : Nat) (e : Int), i ≤ nl ∧ v11 = .int .i64 e ∧ v12 = .int .i64 i ∧ wr = w2 ∧ ((e ≠ 0 ∧ e = E2) ∨ (e = 0 ∧ E1 = 0 ∧ ∀ j x, j < i → what[j]? = some x → badRule x = false))) (fun _ v12 _ => nl - (intOf v12).toNat)
    case atStart =>
      refine ⟨0, E1, by omega, rfl, rfl, rfl, ?_⟩
      by_cases h1 : E1 = 0
      · exact .inr ⟨h1, h1, fun j x hj => by omega⟩
      · exact .inl ⟨h1, by rw [HE2.out, if_pos h1]⟩
    case round =>
      obtain ⟨i, e, hi, rfl, rfl, rfl, hor⟩ := hrel
      obtain ⟨w2, rfl⟩ : ∃ w' : World, w' = wr := ⟨_, rfl⟩
      by_cases hin : i < nl
      · rcases hor with ⟨hne, rfl⟩ | ⟨rfl, h1, hall⟩
        · have hd : (e == 0) = false := beq_false_of_ne hne
          clear hne
          go_wp2_with fail
          go_meet
          exact ⟨rfl, rfl⟩
        · have HALL := hid hall
          have H1 := hid h1
          have hil : i < what.length := by rw [HNL.out]; exact hin
          obtain ⟨wb, wo, rfl, hwb, hwx⟩ := sl_int (HS.out.new HB2.out) hil hil
          have hget := List.getElem?_eq_getElem hil
          generalize what[i] = x at hwx hget
          have HGET := hid hget
          clear hget hil hall h1
          by_cases hb : badRule x = true
          · have hbb : x < 0 ∨ (¬ x < 0 ∧ 2 < x) := by unfold badRule at hb; simp at hb; omega
            have HE21 : Hid (E2 = 1) := by
              show E2 = 1
              rw [HE2.out, if_neg (by rw [H1.out]; simp), if_pos (List.any_eq_true.2 ⟨x, List.mem_of_getElem? HGET.out, hb⟩)]
            clear hb
            rcases hbb with h2 | ⟨h2, h3⟩
            all_goals
              go_wp2_with fail
              go_roundw
              case rel => exact ⟨i + 1, 1, by omega, rfl, by go_num, by first | rfl | trivial, .inl ⟨by decide, HE21.out.symm⟩⟩
              case measure => simp [intOf]; omega
          · have hbf : badRule x = false := by simpa using hb
            have h2 : ¬ x < 0 := by unfold badRule at hbf; simp at hbf; omega
            have h3 : ¬ 2 < x := by unfold badRule at hbf; simp at hbf; omega
            have HBF := hid hbf
            clear hb hbf
            go_wp2_with fail
            go_roundw
            case rel =>
              refine ⟨i + 1, 0, by omega, rfl, by go_num, by first | rfl | trivial, .inr ⟨by first | rfl | trivial, H1.out, fun j y hj hy => ?_⟩⟩
              by_cases e : j = i
              · subst e; rw [HGET.out] at hy; cases hy; exact HBF.out
              · exact HALL.out j y (by omega) hy
            case measure => simp [intOf]; omega
      · obtain rfl : i = nl := by omega
        have hee : e = E2 := by
          rcases hor with ⟨_, h⟩ | ⟨rfl, h1, hall⟩
          · exact h
          · rw [HE2.out, if_neg (by rw [h1]; simp), if_neg]
            intro h
            obtain ⟨x, hx, hb⟩ := List.any_eq_true.1 h
            obtain ⟨j, hj⟩ := List.mem_iff_getElem?.1 hx
            have := hall j x (by have := (List.getElem?_eq_some_iff.1 hj).1; rw [HNL.out] at this; exact this) hj
            rw [this] at hb
            cases hb
        subst hee
        clear hor
        go_wp2_with fail
        go_meet
        exact ⟨rfl, rfl⟩
  obtain ⟨rfl, rfl⟩ := hcut
  obtain ⟨w2, rfl⟩ : ∃ w' : World, w' = wc := ⟨_, rfl⟩
  go_upto_region 9 with fail
  go_cut [69] (fun v wx => (∃ b, v = .bool b ∧ ((b = true ∧ E2 = 0 ∧ (most < 0 ∨ 100 < most)) ∨ (b = false ∧ (E2 ≠ 0 ∨ (0 ≤ most ∧ most ≤ 100))))) ∧ wx = w2)
  case first =>
    as_aux_lemma =>
    by_cases h0 : E2 = 0
    · have H0 := hid h0
      have hd : (E2 == 0) = true := by rw [h0]; rfl
      clear h0
      by_cases h1 : most < 0
      · go_wp2_with fail
        go_meet
        exact ⟨⟨true, rfl, .inl ⟨rfl, H0.out, .inl h1⟩⟩, rfl⟩
      · by_cases h2 : 100 < most
        · go_wp2_with fail
          go_meet
          exact ⟨⟨true, rfl, .inl ⟨rfl, H0.out, .inr h2⟩⟩, rfl⟩
        · go_wp2_with fail
          go_meet
          exact ⟨⟨false, rfl, .inr ⟨rfl, .inr (by omega)⟩⟩, rfl⟩
    · have hd : (E2 == 0) = false := by simpa using h0
      have H0 := hid h0
      clear h0
      go_wp2_with fail
      go_meet
      exact ⟨⟨false, rfl, .inr ⟨rfl, .inl H0.out⟩⟩, rfl⟩
  obtain ⟨⟨b69, rfl, hb69⟩, rfl⟩ := hcut
  obtain ⟨w2, rfl⟩ : ∃ w' : World, w' = wc := ⟨_, rfl⟩
  obtain ⟨E, hE⟩ : ∃ E : Int, E = careE m.pl what most := ⟨_, rfl⟩
  have hEE : E = if E2 ≠ 0 then E2 else if most < 0 ∨ 100 < most then 1 else 0 := by
    rw [hE]
    unfold careE
    rw [HE0.out, HNL.out, HLC.out]
    exact care_steps HE1.out HE2.out
  have HE := hid hE
  have HEE := hid hEE
  have HB69 := hid hb69
  clear hE hEE hb69 HE1
  go_upto_if 69 with fail
  go_cut [11] (fun v11 wx => v11 = .int .i64 E ∧ wx = w2)
  case first =>
    as_aux_lemma =>
    cases b69 with
    | true =>
      go_wp2_with fail
      go_meet
      refine ⟨?_, rfl⟩
      rcases HB69.out with ⟨_, h1, h2⟩ | ⟨h, _⟩
      · rw [HEE.out, if_neg (by rw [h1]; simp), if_pos h2]
      · cases h
    | false =>
      go_wp2_with fail
      go_meet
      refine ⟨?_, rfl⟩
      rcases HB69.out with ⟨h, _⟩ | ⟨_, h⟩
      · cases h
      · rw [HEE.out]
        by_cases h0 : E2 = 0
        · rw [if_neg (by rw [h0]; simp), if_neg (by rcases h with h | h; exact absurd h0 h; omega), h0]
        · rw [if_pos h0]
  obtain ⟨rfl, rfl⟩ := hcut
  obtain ⟨w2, rfl⟩ : ∃ w' : World, w' = wc := ⟨_, rfl⟩
  clear HB69 HEE HE2
  obtain ⟨x0, x1, x2, x3, hlx⟩ := HXS.out _ HXB.out
  by_cases hE : E = 0
  · have hcn := careNew_good (HF.out.new HB2.out) (HM.out.new HB2.out) (HS.out.new HB2.out) HSW.out (most := most) (by rw [← HE.out]; exact hE)
    obtain ⟨he0, hwl, hbd, hm0, hm1⟩ := careE_zero (p := m.pl) (what := what) (most := most) (by rw [← HE.out]; exact hE)
    rw [HNN.out, HNS.out, HNW.out, HNL.out] at hcn
    unfold CMade at hcn
    have HP := hid (planChk_ok he0)
    have HWL := hid hwl
    have HBD := hid hbd
    have hln : nl = nn := by rw [← HNL.out, hwl, HLC.out]
    have hn5 : nn ≤ 5 := by have := HP.out.most5; rw [← HLC.out]; exact this
    have HPE := hid he0
    subst hE
    subst hln
    clear he0 hwl hbd
    go_wp2_with fail
    refine hcn.mono ?_
    clear hcn x0 x1 x2 x3 hlx
    rintro e w3 ⟨cb, C3, rfl, hst, _⟩
    have HS3 := hid hst
    clear hst
    have hsame := error_same 0 w3 (HG.out.new (HB2.out.trans (HS3.out.below.mono HB2.out.size)))
    rw [errV_zero] at hsame
    go_wp2_with fail
    refine hsame.mono ?_
    clear hsame
    rintro e w4 ⟨rfl, hb4⟩
    have HS4 := hid (HS3.out.new hb4)
    clear hb4 HS3
    have HW4 := hid (HB2.out.trans (HS4.out.below.mono HB2.out.size))
    have hnk := fun (w' : World) (hb : Below w.heap.size w w') => rnew_run w' m (HM.out.new hb) HPE.out
    unfold RNewd at hnk
    rw [HNN.out, HNS.out, HNW.out] at hnk
    have HNK := hid hnk
    have hmk := fun w => run_makeTimes hn5 w
    have HSX : Hid (∀ w', Below w4.heap.size w4 w' → w'.cell? ⟨w.heap.size, 0, none⟩ = some (.slice m.A nl m.c) ∧ w'.cell? ⟨w.heap.size, 1, none⟩ = some (.int .i64 m.ticks) ∧ w'.cell? ⟨w.heap.size, 2, none⟩ = some (.slice m.sA ns m.sc) ∧ w'.cell? ⟨w.heap.size, 3, none⟩ = some (.slice m.wA nw m.wc)) := fun w' hb => by
      obtain ⟨x0, x1, x2, x3, _⟩ := HXS.out w' (HXB.out.trans ((HS4.out.below.trans (hb.mono HS4.out.below.size)).mono HXB.out.size))
      exact ⟨x0, x1, x2, x3⟩
    obtain ⟨TI, hTI⟩ : ∃ TI, TI = (ints (List.replicate nl 0)).toArray := ⟨_, rfl⟩
    rw [← hTI] at hmk
    have HTI := hid hTI
    clear hnk hTI
    go_upto_region 15 with fail
    obtain ⟨x0, x1, x2, x3, hlx⟩ := HXS.out _ (HXB.out.trans (HS4.out.below.mono HXB.out.size))
    go_cut [16] (fun v16 wx => ∃ (db : Nat) (D : RCM), v16 = .pointer (some ⟨db, 0, none⟩) ∧ Stand w2 wx [careT cb m.pl what most C3 (careNew m.pl), rcT db m.pl what most D (careNew m.pl)])
    case first =>
      go_region_held3 (fun w' => w'.cell? ⟨w.heap.size, 0, none⟩ = some (.slice m.A nl m.c) ∧ w'.cell? ⟨w.heap.size, 1, none⟩ = some (.int .i64 m.ticks) ∧ w'.cell? ⟨w.heap.size, 2, none⟩ = some (.slice m.sA ns m.sc) ∧ w'.cell? ⟨w.heap.size, 3, none⟩ = some (.slice m.wA nw m.wc))
        ((refine HSX.out _ ?_; (repeat (with_reducible first | exact HB3.out | exact Below.refl _ _ | refine Below.drew ?_ | refine Below.alloc ?_ (Nat.le_refl _) _ | refine Below.alloc ?_ HB3.out.size _ | refine Below.alloc ?_ (by ((try dsimp only); (try simp only [sz_alloc])); first | exact Nat.le_succ _ | exact Nat.le_succ_of_le HB3.out.size) _))))
        (first | (go_at_call 34; refine (HNK.out w4.drew HW4.out.drew).mono ?_; rintro e w5 ⟨mb, N5, rfl, hr5, hP5⟩; have HB3 := hid ((Below.refl w4.heap.size w4).drew.trans hr5.below); have HR5 := hid (And.intro hr5 hP5); clear hr5 hP5) | (go_at_call 34; refine (HNK.out (w4.alloc (.cells TI 3)).drew (HW4.out.alloc HW4.out.size _).drew).mono ?_; rintro e w5 ⟨mb, N5, rfl, hr5, hP5⟩; have HB3 := hid (((Below.refl w4.heap.size w4).alloc (Nat.le_refl _) _).drew.trans (hr5.below.mono (by simp))); have HR5' := hid (And.intro hr5 hP5); clear hr5 hP5))
      all_goals
        go_wp2_with fail
        go_meet
      · obtain ⟨hr5, hP5⟩ := HR5.out
        have hst := Stand.addR (HS4.out.new (Below.refl _ _).drew) hr5 fun j hj => by rw [hP5] at hj; exact Nat.lt_of_lt_of_le (HPF.out j hj) HB2.out.size
        have hba : Below w5.heap.size w5 (w5.alloc (.cells TI 3)) := (Below.refl _ _).alloc (Nat.le_refl _) _
        have hrow := times_row (w := w5.alloc (.cells TI 3)) (tb := w5.heap.size) (n := nl) (by rw [← HTI.out]; exact heap_alloc_new w5 _) hn5
        have hst2 := hst.add hba (row_lie hrow) (fun j hj => by simp [rowT, InA] at hj; omega) (fun j hj => .inl (by simp [rowT, InA] at hj; omega))
        have hst3 := hst2.lay #[.pointer (some ⟨mb, 0, none⟩), .slice A nl c, .int .i64 most, .slice (some ⟨w5.heap.size, 0, none⟩) nl nl] 115
        have hst4 := hst3.add (t := slT A 1 what.length (ints what)) (Below.refl _ _) (sl_lie (HS.out.new (HB2.out.trans (hst3.below.mono HB2.out.size)))) (fun j hj => hj.elim) (fun j hj => .inr (Nat.lt_of_lt_of_le (HS.out.lt hj.1 j hj.2) HB2.out.size))
        have hsz : (w5.alloc (.cells TI 3)).heap.size = w5.heap.size + 1 := by simp
        rw [hsz] at hst4
        refine ⟨w5.heap.size + 1, ⟨mb, N5, A, c, some ⟨w5.heap.size, 0, none⟩, nl⟩, rfl, rc_join hst4 (fun i => [3, 1, 2, 4].getD i 0) rfl ?_ ?_ ?_ ?_⟩
        · intro i u hu
          have hnl := HNL.out
          have hlc := HLC.out
          have ht0 : (careNew m.pl).times = List.replicate nl 0 := by show List.replicate m.pl.code.length (0 : Int) = _; rw [hlc]
          unfold rcareL at hu
          rw [ht0] at hu
          match i, hu with
          | 0, hu => simp only [List.getElem?_cons_zero, Option.some.injEq] at hu; subst hu; rw [hnl]; rfl
          | 1, hu => simp only [List.getElem?_cons_succ, List.getElem?_cons_zero, Option.some.injEq] at hu; subst hu; rfl
          | 2, hu => simp only [List.getElem?_cons_succ, List.getElem?_cons_zero, Option.some.injEq] at hu; subst hu; rw [hnl]; rfl
          | 3, hu => simp only [List.getElem?_cons_succ, List.getElem?_cons_zero, Option.some.injEq] at hu; subst hu; rw [hnl]; rfl
          | (q+4), hu => simp at hu
        · intro i j hi hj hij
          have : ∀ i : Fin 4, ∀ j : Fin 4, i ≠ j → [3, 1, 2, 4].getD i.val 0 ≠ [3, 1, 2, 4].getD j.val 0 := by decide
          exact this ⟨i, hi⟩ ⟨j, hj⟩ (by simpa using hij)
        · intro i hi
          have : ∀ i : Fin 4, [3, 1, 2, 4].getD i.val 0 ≠ 0 := by decide
          exact this ⟨i, hi⟩
        · exact ⟨HSW.out.1, HSW.out.2.1⟩
      · obtain ⟨hr5, hP5⟩ := HR5'.out
        have hrow := times_row (w := w4.alloc (.cells TI 3)) (tb := w4.heap.size) (n := nl) (by rw [← HTI.out]; exact heap_alloc_new w4 _) hn5
        have hst := HS4.out.add ((Below.refl _ _).alloc (Nat.le_refl _) _) (row_lie hrow) (fun j hj => by simp [rowT, InA] at hj; omega) (fun j hj => .inl (by simp [rowT, InA] at hj; omega))
        have hst2 := Stand.addR (hst.new (Below.refl _ _).drew) hr5 fun j hj => by rw [hP5] at hj; exact Nat.lt_of_lt_of_le (HPF.out j hj) HB2.out.size
        have hst3 := hst2.lay #[.pointer (some ⟨mb, 0, none⟩), .slice A nl c, .int .i64 most, .slice (some ⟨w4.heap.size, 0, none⟩) nl nl] 115
        have hst4 := hst3.add (t := slT A 1 what.length (ints what)) (Below.refl _ _) (sl_lie (HS.out.new (HB2.out.trans (hst3.below.mono HB2.out.size)))) (fun j hj => hj.elim) (fun j hj => .inr (Nat.lt_of_lt_of_le (HS.out.lt hj.1 j hj.2) HB2.out.size))
        refine ⟨w5.heap.size, ⟨mb, N5, A, c, some ⟨w4.heap.size, 0, none⟩, nl⟩, rfl, rc_join hst4 (fun i => [3, 2, 1, 4].getD i 0) rfl ?_ ?_ ?_ ?_⟩
        · intro i u hu
          have hnl := HNL.out
          have hlc := HLC.out
          have ht0 : (careNew m.pl).times = List.replicate nl 0 := by show List.replicate m.pl.code.length (0 : Int) = _; rw [hlc]
          unfold rcareL at hu
          rw [ht0] at hu
          match i, hu with
          | 0, hu => simp only [List.getElem?_cons_zero, Option.some.injEq] at hu; subst hu; rw [hnl]; rfl
          | 1, hu => simp only [List.getElem?_cons_succ, List.getElem?_cons_zero, Option.some.injEq] at hu; subst hu; rfl
          | 2, hu => simp only [List.getElem?_cons_succ, List.getElem?_cons_zero, Option.some.injEq] at hu; subst hu; rw [hnl]; rfl
          | 3, hu => simp only [List.getElem?_cons_succ, List.getElem?_cons_zero, Option.some.injEq] at hu; subst hu; rw [hnl]; rfl
          | (q+4), hu => simp at hu
        · intro i j hi hj hij
          have : ∀ i : Fin 4, ∀ j : Fin 4, i ≠ j → [3, 2, 1, 4].getD i.val 0 ≠ [3, 2, 1, 4].getD j.val 0 := by decide
          exact this ⟨i, hi⟩ ⟨j, hj⟩ (by simpa using hij)
        · intro i hi
          have : ∀ i : Fin 4, [3, 2, 1, 4].getD i.val 0 ≠ 0 := by decide
          exact this ⟨i, hi⟩
        · exact ⟨HSW.out.1, HSW.out.2.1⟩
    obtain ⟨db, D3, rfl, hst⟩ := hcut
    obtain ⟨w5, rfl⟩ : ∃ w' : World, w' = wc := ⟨_, rfl⟩
    have HS5 := hid hst
    clear hst hmk x0 x1 x2 x3 hlx HSX HNK HS4 HTI HW4
    go_wp2_with fail
    go_loopw [15, 17] (fun v15 v17 wr => ∃ (i : Nat) (C : CM) (D : RCM) (k : Cst) (B : Int), i ≤ 120 ∧ v15 = .bool true ∧ v17 = .int .i64 i ∧ COk m.pl what most k B ∧ B ≤ i ∧ Stand w2 wr [careT cb m.pl what most C k, rcT db m.pl what most D k]) (fun _ v17 _ => 120 - (intOf v17).toNat)
    case atStart => exact ⟨0, C3, D3, careNew m.pl, 0, by omega, rfl, rfl, careNew_ok HP.out hm0, by omega, HS5.out⟩
    case round =>
      obtain ⟨wo, rfl⟩ : ∃ wo : World, wo = wr := ⟨_, rfl⟩
      obtain ⟨i, C, D, k, B, hi, rfl, rfl, hk, hB, hst⟩ := hrel
      have HSR := hid hst
      have HTO := hid hk
      have HBI := hid hB
      clear hst hk hB HS5
      by_cases hin : (i : Int) < n ∧ i < 120
      · obtain ⟨hin, h120⟩ := hin
        have h120' : (i : Int) < 120 := by omega
        have hr17 : Int.tmod (i : Int) 17 = ((i % 17 : Nat) : Int) := by rw [Int.tmod_eq_emod_of_nonneg (by omega)]; omega
        obtain ⟨u17, hu17⟩ : ∃ u : Nat, u = i % 17 := ⟨_, rfl⟩
        have hlt17 : u17 < 17 := by omega
        rw [← hu17] at hr17
        clear hu17
        go_upto_if 107 with fail
        go_cut [15] (fun v15 wx => ∃ (k' : Cst), v15 = .bool true ∧ COk m.pl what most k' B ∧ Stand w2 wx [careT cb m.pl what most C k', rcT db m.pl what most D k'])
        case first =>
          as_aux_lemma =>
          by_cases h5 : u17 = 5
          · subst h5
            have hr7 : Int.tmod (i : Int) 7 = ((i % 7 : Nat) : Int) := by rw [Int.tmod_eq_emod_of_nonneg (by omega)]; omega
            obtain ⟨u7, hu7⟩ : ∃ u : Nat, u = i % 7 := ⟨_, rfl⟩
            have hlt7 : u7 < 7 := by omega
            rw [← hu7] at hr7
            clear hu7
            have hcp := fun (w' : World) (h : Stand w2 w' [careT cb m.pl what most C k, rcT db m.pl what most D k]) => cpoke_stand HP.out HTO.out h r u7 i
            have hrp := fun (w' : World) (t : Tg) (h : Stand w2 w' [t, rcT db m.pl what most D k]) => rpoke_stand HP.out HTO.out h r u7 i
            have hpo := pkC_ok HTO.out r u7 i
            obtain ⟨P, hP⟩ : ∃ P, pkE m.pl r u7 i = P := ⟨_, rfl⟩
            obtain ⟨k2, hk2⟩ : ∃ k2, pkC m.pl k r u7 i = k2 := ⟨_, rfl⟩
            rw [hP, hk2] at hcp
            rw [hk2] at hpo
            simp only [hP, hk2] at hcp hrp
            have HCP := hid hcp
            have HRP := hid hrp
            have HPO := hid hpo
            have HES : Hid (∀ w' : World, Below w.heap.size w w' → Calls Tryd.prog 22 #[errV P, .int .i64 P] w' fun e w'' => e = .returned (.bool true) ∧ Below w'.heap.size w' w'') := fun w' hb => error_same P w' (HG.out.new hb)
            clear hcp hrp hpo hP hk2
            go_upto_region 20 with fail
            have HB := hid (HSR.out.get (i := 1) rfl).here.kcell
            go_region_held3 (fun w' => w'.cell? ⟨db, 0, none⟩ = some (.pointer (some ⟨D.kb, 0, none⟩)))
              (exact HB.out)
              (first | (go_at_call 52; refine (HCP.out _ (HSR.out.new (Below.refl _ _).drew)).mono ?_; rintro e w9 ⟨rfl, hst⟩; have HS9 := hid hst; replace HB := hid (hst.get (i := 1) rfl).here.kcell; clear hst) | (go_at_call 53; refine (HRP.out _ _ HS9.out).mono ?_; rintro e w10 ⟨rfl, hst⟩; have HS10 := hid hst; replace HB := hid (hst.get (i := 1) rfl).here.kcell; clear hst) | (go_at_call 22; refine (HES.out _ (HB2.out.trans (HS10.out.below.mono HB2.out.size))).mono ?_; rintro e w11 ⟨rfl, hb11⟩; have HS11 := hid (HS10.out.new hb11); replace HB := hid (HS11.out.get (i := 1) rfl).here.kcell; clear hb11))
            all_goals
              go_wp2_with fail
              go_meet
              exact ⟨k2, rfl, HPO.out, HS11.out⟩
          · have h5' : ((u17 : Int) == 5) = false := by simp; omega
            go_wp2_with fail
            go_meet
            exact ⟨k, rfl, HTO.out, HSR.out⟩
        obtain ⟨k', rfl, hk', hst'⟩ := hcut
        obtain ⟨wd, rfl⟩ : ∃ w' : World, w' = wc := ⟨_, rfl⟩
        have HSD := hid hst'
        have HTO' := hid hk'
        have HIN := hid hin
        clear hst' hk' HSR HTO hin hr17 hlt17
        have htk := ctick_any HP.out HTO'.out (by have := HBI.out; omega) HWL.out hm1 (HSD.out.get (i := 0) rfl).here
        have htr := fun (w' : World) (h : RCareAt w' db m.pl what most D k') => rctick_any HP.out HTO'.out (by have := HBI.out; omega) HWL.out HBD.out hm1 h
        have HTN := hid (careTick_ok HP.out HTO'.out)
        unfold CTicked at htk
        unfold RCTicked at htr
        obtain ⟨q', hq'⟩ : ∃ q, q = careTick m.pl what most k' := ⟨_, rfl⟩
        rw [← hq'] at htk htr HTN
        clear hq'
        obtain ⟨⟨e1, e2, e3, e4⟩, kn⟩ := q'
        simp only [] at htk htr HTN
        have HTR := hid htr
        have hne : ∀ w, (binOp .eql 34 (.agg #[.int .i64 e1, .int .i64 e2, .int .i64 e3, .int .i64 e4]) (.agg #[.int .i64 e1, .int .i64 e2, .int .i64 e3, .int .i64 e4])).run Tryd.prog w = .ok (.bool true) w := fun w => event_eql ⟨e1, e2, e3, e4⟩ w
        have hge := event_guard
        clear htr
        go_wp2_with fail
        refine htk.mono ?_
        clear htk
        rintro e w6 ⟨C', rfl, hw6⟩
        have HS6 : Hid (Stand w2 w6 [careT cb m.pl what most C' kn, rcT db m.pl what most D k']) := hid (HSD.out.go 0 rfl hw6)
        clear hw6 HSD
        go_wp2_with fail
        refine (HTR.out _ (HS6.out.get (i := 1) rfl).here).mono ?_
        rintro e w7 ⟨D', rfl, hw7⟩
        have HS7 : Hid (Stand w2 w7 [careT cb m.pl what most C' kn, rcT db m.pl what most D' kn]) := hid (HS6.out.go 1 rfl hw7)
        clear hw7 HS6 HTR
        obtain ⟨Bn, hBn⟩ : ∃ Bn, Bn = B + 1 := ⟨_, rfl⟩
        have hBn2 : Bn ≤ (i + 1 : Nat) := by have := HBI.out; omega
        rw [← hBn] at HTN
        have HBN := hid hBn2
        clear hBn hBn2 HBI HTO'
        have HRL : Hid (kn.k.rooms.length = nl) := by show kn.k.rooms.length = nl; exact HTN.out.k.rooms.trans HLC.out
        have HTL : Hid (kn.times.length = nl) := by show kn.times.length = nl; exact HTN.out.many.trans HLC.out
        have HSE := hid (HS7.out.lab #[.int .i64 0, .int .i64 0, .int .i64 0, .int .i64 0, .int .i64 0, .int .i64 0, .int .i64 0, .bool false] 40)
        obtain ⟨we, hwe⟩ : ∃ we, we = w7.alloc (.cells #[.int .i64 0, .int .i64 0, .int .i64 0, .int .i64 0, .int .i64 0, .int .i64 0, .int .i64 0, .bool false] 40) := ⟨_, rfl⟩
        obtain ⟨ob, hob⟩ : ∃ ob, ob = w7.heap.size := ⟨_, rfl⟩
        rw [← hwe, ← hob] at HSE
        go_upto_region 24 with fail
        rw [← hwe, ← hob]
        clear hwe hob HS7 hne hge
        go_upto_region 25 with fail
        obtain ⟨x0, x1, x2, x3, hlx⟩ := HXS.out _ (HXB.out.trans (HSE.out.below.mono HXB.out.size))
        go_cut [137] (fun v wx => v = .bool (!inB r nl) ∧ wx = we)
        case first =>
          as_aux_lemma =>
          by_cases h1 : r < 0
          · have hi1 : inB r nl = false := by unfold inB; exact decide_eq_false (by omega)
            have hd1 : decide (r < 0) = true := decide_eq_true h1
            go_wp2_with fail
            go_meet
            exact ⟨by rw [hi1]; rfl, rfl⟩
          · have hd1 : decide (r < 0) = false := decide_eq_false h1
            by_cases h2 : (nl : Int) ≤ r
            · have hi1 : inB r nl = false := by unfold inB; exact decide_eq_false (by omega)
              have hd2 : decide ((nl : Int) ≤ r) = true := decide_eq_true h2
              go_wp2_with fail
              go_meet
              exact ⟨by rw [hi1]; rfl, rfl⟩
            · have hi1 : inB r nl = true := by unfold inB; exact decide_eq_true (by omega)
              have hd2 : decide ((nl : Int) ≤ r) = false := decide_eq_false h2
              go_wp2_with fail
              go_meet
              exact ⟨by rw [hi1]; rfl, rfl⟩
        obtain ⟨rfl, rfl⟩ := hcut
        obtain ⟨we, rfl⟩ : ∃ we : World, we = wc := ⟨_, rfl⟩
        clear x0 x1 x2 x3 hlx
        obtain ⟨z, hst⟩ : ∃ z : St × Int, z = stateOf kn.k r := ⟨_, rfl⟩
        obtain ⟨⟨sp, s0', s1, s2, s3, s4, s5, sf⟩, se⟩ := z
        have HST := hid hst
        obtain ⟨ty, hty⟩ : ∃ ty : Int, timesOf kn r = (ty, se) := ⟨(timesOf kn r).1, by
          have h : se = (stateOf kn.k r).2 := congrArg Prod.snd hst
          refine Prod.ext rfl ?_
          rw [h]
          unfold timesOf stateOf
          rw [HTL.out, HRL.out]
          by_cases hx : 0 ≤ r ∧ r < nl
          · rw [if_pos hx, if_pos (by unfold inB; exact decide_eq_true hx)]
          · rw [if_neg hx, if_neg (by unfold inB; simpa using hx)]⟩
        have HTY := hid hty
        clear hst hty
        go_upto_if 137 with fail
        go_cut [11, 20] (fun v11 v20 wx => v11 = .int .i64 se ∧ v20 = .int .i64 ty ∧ Stand w2 wx [careT cb m.pl what most C' kn, rcT db m.pl what most D' kn, blkT ob (.cells #[.int .i64 sp, .int .i64 s0', .int .i64 s1, .int .i64 s2, .int .i64 s3, .int .i64 s4, .int .i64 s5, .bool sf] 40 (0, 0))])
        case first =>
          as_aux_lemma =>
          cases hin : inB r nl with
          | false =>
            have hq := HST.out
            have hq2 := HTY.out
            unfold stateOf at hq
            unfold timesOf at hq2
            have hnb : ¬ (0 ≤ r ∧ r < nl) := by simpa [inB] using hin
            rw [HRL.out, hin, if_neg (by decide)] at hq
            rw [HTL.out, if_neg hnb] at hq2
            simp only [St.zero, Prod.mk.injEq, St.mk.injEq] at hq
            obtain ⟨⟨rfl, rfl, rfl, rfl, rfl, rfl, rfl, rfl⟩, rfl⟩ := hq
            obtain rfl : 0 = ty := congrArg Prod.fst hq2
            clear hin hq2 hnb
            go_wp2_with fail
            go_meet
            exact ⟨rfl, rfl, HSE.out⟩
          | true =>
            have hb1 : 0 ≤ r ∧ r < nl := by simpa [inB] using hin
            obtain ⟨Q, rfl⟩ : ∃ Q : Nat, r = Q := ⟨r.toNat, by omega⟩
            have hgs : kn.k.rooms[Q]? = some ⟨sp, s0', s1, s2, s3, s4, s5, sf⟩ ∧ se = 0 := by
              have h := HST.out
              unfold stateOf at h
              rw [HRL.out, hin, if_pos rfl, Int.toNat_natCast] at h
              simp only [Prod.mk.injEq] at h
              refine ⟨?_, h.2⟩
              rw [h.1, List.getD_eq_getElem?_getD, List.getElem?_eq_getElem (by rw [HRL.out]; omega)]; rfl
            obtain ⟨hgs, rfl⟩ := hgs
            have hgt : kn.times[Q]? = some ty := by
              have h := HTY.out
              unfold timesOf at h
              rw [HTL.out, if_pos hb1, Int.toNat_natCast] at h
              have h2 : kn.times.getD Q 0 = ty := congrArg Prod.fst h
              rw [← h2, List.getD_eq_getElem?_getD, List.getElem?_eq_getElem (by rw [HTL.out]; omega)]; rfl
            have HGT := hid hgt
            have hkk := (HSE.out.get (i := 1) rfl).here.kat
            obtain ⟨rb, roff, hrA, ⟨y0, y1, y2, y3, y4, y5, y6, y7⟩, hrf, hrb, hrkb, hrl, hrc, hrm⟩ := hkk.room hgs
            obtain ⟨_, _, _, k4, _, _, _, hmb⟩ := hkk.cells
            have d0 := (HSE.out.get (i := 1) rfl).here.kcell
            rw [hrA, HRL.out] at k4
            rw [HRL.out] at hrl hrc
            simp only [] at y0 y1 y2 y3 y4 y5 y6 y7
            unfold maxLen at hrm
            clear hin hb1 hgs hgt hrA hrf hkk
            have hQnn : Q < nl := by have := hrl; omega
            go_wp2_with (refine wpList_store_rowK rfl 40 _ _ rfl ob #[.int .i64 sp, .int .i64 s0', .int .i64 s1, .int .i64 s2, .int .i64 s3, .int .i64 s4, .int .i64 s5, .bool sf] rfl rfl 40 _ (HSE.out.get (i := 2) rfl).here (by kernel_rfl) rfl (by simp [Value.oneCell']) ?_)
            intro wx hx hk _
            have HSX : Hid (Stand w2 wx [careT cb m.pl what most C' kn, rcT db m.pl what most D' kn, blkT ob (.cells #[.int .i64 sp, .int .i64 s0', .int .i64 s1, .int .i64 s2, .int .i64 s3, .int .i64 s4, .int .i64 s5, .bool sf] 40 (0, 0))]) := HSE.out.go 2 rfl (blk_went (HSE.out.get (i := 2) rfl) hk hx)
            clear hx hk y0 y1 y2 y3 y4 y5 y6 y7 k4 d0 hrl hrc hrm hrb hrkb hmb
            have hRC := (HSX.out.get (i := 1) rfl).here
            obtain ⟨tb, tf, htA, htb, htx, htf, _, htc, htm, _⟩ := row_put hRC.times HGT.out
            have d3 := hRC.tcell
            rw [htA, HNL.out] at d3
            rw [HNL.out] at htc
            unfold maxLen at htm
            clear htA hRC
            go_wp2_with fail
            go_meet
            exact ⟨rfl, rfl, HSX.out⟩
        obtain ⟨rfl, rfl, hsf⟩ := hcut
        obtain ⟨wf, rfl⟩ : ∃ wf : World, wf = wc := ⟨_, rfl⟩
        have HSF := hid hsf
        clear hsf HSE
        have hks := cstate_any HP.out HTN.out (HSF.out.get (i := 0) rfl).here r
        rw [← HST.out] at hks
        unfold StateV stV at hks
        go_wp2_with fail
        refine hks.mono ?_
        clear hks
        rintro e wg ⟨rfl, hbg⟩
        have hsg := HSF.out.new hbg
        have hsh := hsg.lay #[.int .i64 sp, .int .i64 s0', .int .i64 s1, .int .i64 s2, .int .i64 s3, .int .i64 s4, .int .i64 s5, .bool sf] 40
        obtain ⟨wh', hwh⟩ : ∃ wh', wh' = wg.alloc (.cells #[.int .i64 sp, .int .i64 s0', .int .i64 s1, .int .i64 s2, .int .i64 s3, .int .i64 s4, .int .i64 s5, .bool sf] 40) := ⟨_, rfl⟩
        obtain ⟨ub, hub⟩ : ∃ ub, ub = wg.heap.size := ⟨_, rfl⟩
        rw [← hwh, ← hub] at hsh
        have HSH := hid hsh
        clear hbg hsg hsh HSF
        go_upto_region 30 with fail
        rw [← hwh, ← hub]
        clear hwh hub
        have hes := error_same se wh' (HG.out.new (HB2.out.trans (HSH.out.below.mono HB2.out.size)))
        go_wp2_with fail
        refine hes.mono ?_
        clear hes
        rintro e wi ⟨rfl, hbi⟩
        have HSI := hid (HSH.out.new hbi)
        clear hbi HSH
        have ht1 : wi.heap[ob]? = some (.cells #[.int .i64 sp, .int .i64 s0', .int .i64 s1, .int .i64 s2, .int .i64 s3, .int .i64 s4, .int .i64 s5, .bool sf] 40 (0, 0)) := (HSI.out.get (i := 2) rfl).here
        have ht2 : wi.heap[ub]? = some (.cells #[.int .i64 sp, .int .i64 s0', .int .i64 s1, .int .i64 s2, .int .i64 s3, .int .i64 s4, .int .i64 s5, .bool sf] 40 (0, 0)) := (HSI.out.get (i := 3) rfl).here
        have y0 := blk_cell ht1 0
        have y1 := blk_cell ht1 1
        have y2 := blk_cell ht1 2
        have y3 := blk_cell ht1 3
        have y4 := blk_cell ht1 4
        have y5 := blk_cell ht1 5
        have y6 := blk_cell ht1 6
        have y7 := blk_cell ht1 7
        have z0 := blk_cell ht2 0
        have z1 := blk_cell ht2 1
        have z2 := blk_cell ht2 2
        have z3 := blk_cell ht2 3
        have z4 := blk_cell ht2 4
        have z5 := blk_cell ht2 5
        have z6 := blk_cell ht2 6
        have z7 := blk_cell ht2 7
        simp at y0 y1 y2 y3 y4 y5 y6 y7 z0 z1 z2 z3 z4 z5 z6 z7
        have hltt := blk_lt ht1
        have hlts := blk_lt ht2
        have hgd := state_guard
        have heq : ∀ w, (binOp .eql 40 (.agg #[.int .i64 sp, .int .i64 s0', .int .i64 s1, .int .i64 s2, .int .i64 s3, .int .i64 s4, .int .i64 s5, .bool sf]) (.agg #[.int .i64 sp, .int .i64 s0', .int .i64 s1, .int .i64 s2, .int .i64 s3, .int .i64 s4, .int .i64 s5, .bool sf])).run Tryd.prog w = .ok (.bool true) w := fun w => by
          have := state_eql ⟨sp, s0', s1, s2, s3, s4, s5, sf⟩ ⟨sp, s0', s1, s2, s3, s4, s5, sf⟩ w
          rw [stEq_refl] at this; exact this
        clear ht1 ht2
        go_upto_region 31 with fail
        clear y0 y1 y2 y3 y4 y5 y6 y7 z0 z1 z2 z3 z4 z5 z6 z7 hltt hlts hgd heq HST
        have HSJ : Hid (Stand w2 wi [careT cb m.pl what most C' kn, rcT db m.pl what most D' kn]) := hid (HSI.out.few (us := [blkT ob _, conT ub _]))
        clear HSI
        have hct := ctimes_any (HSJ.out.get (i := 0) rfl).here r
        rw [HTY.out] at hct
        go_wp2_with fail
        refine hct.mono ?_
        clear hct
        rintro e wk ⟨rfl, rfl⟩
        have hes := error_same se wi (HG.out.new (HB2.out.trans (HSJ.out.below.mono HB2.out.size)))
        go_wp2_with fail
        refine hes.mono ?_
        clear hes
        rintro e wl ⟨rfl, hbl⟩
        have HSL := hid (HSJ.out.new hbl)
        clear hbl HSJ
        go_wp2_with fail
        go_roundw
        case rel => exact ⟨i + 1, C', D', kn, Bn, by omega, rfl, by go_num, HTN.out, HBN.out, HSL.out⟩
        case measure => simp [intOf]; omega
      · have HBO := hid (HB2.out.trans (HSR.out.below.mono HB2.out.size))
        have hex : n ≤ (i : Int) ∨ ((i : Int) < n ∧ i = 120) := by omega
        clear hin
        rcases hex with h1 | ⟨h1, rfl⟩
        all_goals
          go_wp2_with fail
          go_ret
          exact ⟨rfl, HBO.out⟩
  · have hbad := careNew_bad (HF.out.new HB2.out) (HM.out.new HB2.out) (HS.out.new HB2.out) (A := A) (c := c) (most := most) (by rw [← HE.out]; exact hE)
    rw [HNN.out, HNS.out, HNW.out, HNL.out, ← HE.out] at hbad
    unfold CNot at hbad
    have hd : (E == 0) = false := by simpa using hE
    have hd2 : (E != 0) = true := by simpa using hE
    clear hE
    go_wp2_with fail
    refine hbad.mono ?_
    clear hbad x0 x1 x2 x3 hlx
    rintro e w3 ⟨rfl, hb3⟩
    have HB3 := hid (HB2.out.trans (hb3.mono HB2.out.size))
    clear hb3
    go_wp2_with fail
    refine (error_same E w3 (HG.out.new HB3.out)).mono ?_
    rintro e w4 ⟨rfl, hb4⟩
    have HB4 := hid (HB3.out.trans (hb4.mono HB3.out.size))
    clear hb4
    go_wp2_with fail
    go_ret
    exact ⟨rfl, HB4.out⟩
end Go.Proofs.YtongkiccglaniaaDoor
