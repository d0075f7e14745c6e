/- The walk of frametop.TopLevels: it returns true at every input. -/
import Derived.Test.YtnmbomhlonifnaaDoorTopOne
import Derived.Test.YtnmbomhlonifnaaDoorSwayAll
import Derived.Test.YtnmbomhlonifnaaDoorLeast
import Derived.Test.YtnmbomhlonifnaaDoorLeastLaw
import Derived.Test.YtnmbomhlonifnaaDoorApart
import Derived.StillTailTactics
import Derived.Deep.DeepCutAuto
import Derived.Deep.DrawnRows
namespace Go.Proofs.YtnmbomhlonifnaaDoor
open Go.RowKit
set_option maxRecDepth 100000

theorem topApart_any (a b : Int) (m : PM) (w : World) (hm : PlanAt w m) (hch : (flowChk m.wires).2 = 0) (ha : roomB a = true) (hb : roomB b = true) :
    Calls Tryd.prog 33 #[.agg #[.slice m.A m.ros.length m.c, .int .i64 m.ticks, .slice m.sA m.spans.length m.sc, .slice m.wA m.wires.length m.wc], .int .i64 a, .int .i64 b] w fun e w' => e = .returned (.bool (!reachB m.wires a.toNat b.toNat && !reachB m.wires b.toNat a.toNat)) ∧ Below w.heap.size w w' := by
  have HA : Hid (∀ w', Below w.heap.size w w' → Calls Tryd.prog 67 #[.slice m.wA m.wires.length m.wc, .int .i64 a, .int .i64 b] w' fun e w'' => e = .returned (.tuple #[.bool (!reachB m.wires a.toNat b.toNat && !reachB m.wires b.toNat a.toNat), .nilIface]) ∧ Below w'.heap.size w' w'') := fun w' hb' => by
    have h := apart_any a b m.wA m.wc m.wires w' (hm.new hb').wires hm.wiresW
    unfold TellB apartOf at h
    rw [if_neg (fun e => e hch), if_neg (by rw [ha, hb]; simp), errV_zero] at h
    exact h
  generalize (!reachB m.wires a.toNat b.toNat && !reachB m.wires b.toNat a.toNat) = q at HA ⊢
  obtain ⟨nw, hnw⟩ : ∃ nw, nw = m.wires.length := ⟨_, rfl⟩
  rw [← hnw] at HA ⊢
  clear hm hch ha hb hnw
  go_enter Tryd.func33, Tryd.ntmps33
  go_wp2_with fail
  refine (HA.out _ ((Below.refl _ _).alloc (Nat.le_refl _) _)).mono ?_
  rintro e w1 ⟨rfl, hb1⟩
  have HB := hid (((Below.refl w.heap.size w).alloc (Nat.le_refl _) _).trans (hb1.mono (by simp)))
  clear hb1
  go_wp2_with fail
  go_ret
  exact ⟨rfl, HB.out⟩
set_option maxHeartbeats 4000000 in
theorem topLevels_walk {w : World} (hf : Forms w) (m : PM) (hm : PlanAt w m) (c v t : Int) :
    Calls Tryd.prog 9 #[.agg #[.slice m.A m.ros.length m.c, .int .i64 m.ticks, .slice m.sA m.spans.length m.sc, .slice m.wA m.wires.length m.wc], .int .i64 c, .int .i64 v, .int .i64 t] w fun e w' => e = .returned (.bool true) ∧ Below w.heap.size w w' := by
  have HF := hid hf
  have HM := hid hm
  have hall : ∀ w', Below w.heap.size w w' → Calls Tryd.prog 25 #[.agg #[.slice m.A m.ros.length m.c, .int .i64 m.ticks, .slice m.sA m.spans.length m.sc, .slice m.wA m.wires.length m.wc], .int .i64 c, .int .i64 v, .int .i64 t] w' (AllV w' m.pl c v t) := fun w' hb => swayAll_any w' m c v t (hf.new hb) (hm.new hb)
  have hlv : ∀ w', Below w.heap.size w w' → Calls Tryd.prog 32 #[.slice m.wA m.wires.length m.wc] w' (TellL w' (leastOf m.wires)) := fun w' hb => least_lv m.wA m.wc m.wires w' (hm.new hb).wires hm.wiresW
  have hap : ∀ w' a b, Below w.heap.size w w' → (flowChk m.wires).2 = 0 → roomB a = true → roomB b = true → Calls Tryd.prog 33 #[.agg #[.slice m.A m.ros.length m.c, .int .i64 m.ticks, .slice m.sA m.spans.length m.sc, .slice m.wA m.wires.length m.wc], .int .i64 a, .int .i64 b] w' fun e w'' => e = .returned (.bool (!reachB m.wires a.toNat b.toNat && !reachB m.wires b.toNat a.toNat)) ∧ Below w'.heap.size w' w'' := fun w' a b hb h1 h2 h3 => topApart_any a b m w' (hm.new hb) h1 h2 h3
  have hlen : m.pl.code.length = m.ros.length := by simp [PM.pl]
  rw [show m.wires = m.pl.wires from rfl] at hall hlv hap ⊢
  obtain ⟨p, hp⟩ : ∃ p, p = m.pl := ⟨_, rfl⟩
  rw [← hp] at hall hlen hlv hap ⊢
  obtain ⟨nn, hnn⟩ : ∃ nn, m.ros.length = nn := ⟨_, rfl⟩
  obtain ⟨ns, hns⟩ : ∃ ns, m.spans.length = ns := ⟨_, rfl⟩
  obtain ⟨nw, hnw⟩ : ∃ nw, p.wires.length = nw := ⟨_, rfl⟩
  rw [hnn, hns, hnw] at hall hap ⊢
  rw [hnn] at hlen
  rw [hnw] at hlv
  have HLEN := hid hlen
  have HALL := hid hall
  have HLV := hid hlv
  have HAP := hid hap
  obtain ⟨w1, hw1⟩ : ∃ w1, w1 = w.alloc (.cells #[.slice m.A nn m.c, .int .i64 m.ticks, .slice m.sA ns m.sc, .slice m.wA nw m.wc] 31) := ⟨_, rfl⟩
  have hb1 : Below w.heap.size w w1 := by rw [hw1]; exact (Below.refl _ _).alloc (Nat.le_refl _) _
  have hbox : w1.heap[w.heap.size]? = some (.cells #[.slice m.A nn m.c, .int .i64 m.ticks, .slice m.sA ns m.sc, .slice m.wA nw m.wc] 31 (0, 0)) := by rw [hw1]; exact heap_alloc_new w _
  have HB1 := hid hb1
  have HBX := hid hbox
  have hone := top_one (hf.new hb1)
  have HXC : Hid (∀ w', Below w1.heap.size w1 w' → w'.cell? ⟨w.heap.size, 0, none⟩ = some (.slice m.A nn m.c) ∧ w'.cell? ⟨w.heap.size, 1, none⟩ = some (.int .i64 m.ticks) ∧ w'.cell? ⟨w.heap.size, 2, none⟩ = some (.slice m.sA ns m.sc) ∧ w'.cell? ⟨w.heap.size, 3, none⟩ = some (.slice m.wA nw m.wc) ∧ w.heap.size < w'.heap.size) := fun w' hb => by
    have h := (hb.block _ (blk_lt hbox)).trans hbox
    exact ⟨blk_cell h 0, blk_cell h 1, blk_cell h 2, blk_cell h 3, blk_lt h⟩
  clear hm hf hall hlen hlv hap hnn hns hnw hp hb1 hbox
  go_enter Tryd.func9, Tryd.ntmps9
  go_wp2_with fail
  rw [← hw1]
  refine hone.mono ?_
  clear hone hw1
  rintro e w2 ⟨rfl, hb2⟩
  obtain ⟨x0, x1, x2, x3, hlx⟩ := HXC.out _ hb2
  have HB2 := hid hb2
  clear hb2
  by_cases ht : 60 < t
  · go_wp2_with fail
    go_ret
    exact ⟨rfl, HB1.out.trans (HB2.out.mono HB1.out.size)⟩
  have ht' : t ≤ 60 := by omega
  clear ht
  go_wp2_with fail
  refine (HALL.out _ (HB1.out.trans (HB2.out.mono HB1.out.size))).mono ?_
  rintro e w3 (⟨hne, rfl, hb3⟩ | ⟨he, A, n, k, hs, rfl, hn, hfl, hmap⟩)
  · have HB3 := hid (HB2.out.trans (hb3.mono HB2.out.size))
    rw [errV_pos hne]
    clear hb3 x0 x1 x2 x3 hlx
    go_wp2_with fail
    go_ret
    exact ⟨rfl, HB1.out.trans (HB3.out.mono HB1.out.size)⟩
  obtain ⟨e1, e2, e3, e4, e5, e6⟩ := swayE_zero he
  have hp := planChk_ok e1
  have hfc := hp.flow
  have h5 := hp.most5
  rw [HLEN.out] at hn h5
  subst hn
  have HFL := hid hfl
  have HB3 := hid (HB2.out.trans (hfl.grow.below.mono HB2.out.size))
  have hl := HLV.out w3 (HB1.out.trans (HB3.out.mono HB1.out.size))
  unfold TellL leastOf at hl
  rw [if_neg (fun e => e hfc), errV_zero] at hl
  obtain ⟨x0, x1, x2, x3, hlx⟩ := HXC.out _ HB3.out
  obtain ⟨T, rfl⟩ : ∃ T : Nat, t = T := ⟨t.toNat, by omega⟩
  rw [Int.toNat_natCast] at hmap
  have hwr := (flowChk_ok hp.flow).2.2
  have HROW : Hid (∀ a : Nat, a < n → ∃ g : Bm, hs[a]? = some g ∧ g.l.length = n ∧ ∀ b : Nat, b < n → ∃ f : Bool, g.l[b]? = some f ∧ (f = true → reachB p.wires a b = true ∧ rnd p.wires 5 a ≤ rnd p.wires 5 b)) := fun a ha => by
    have hlen : hs.length = n := by have := congrArg List.length hmap; simpa [allRows, HLEN.out] using this
    have hg := List.getElem?_eq_getElem (show a < hs.length by omega)
    have h2 : (hs.map Bm.l)[a]? = some (hs[a]'(by omega)).l := by rw [List.getElem?_map, hg]; rfl
    rw [hmap, HLEN.out] at h2
    simp only [allRows, List.getElem?_map, List.getElem?_range ha, Option.map_some, HLEN.out] at h2
    have h3 := Option.some.inj h2
    refine ⟨_, hg, by rw [← h3, allRow_len], fun b hb => ⟨decide (0 ≤ sinceOf p a c v b T), by rw [← h3]; simp [allRow, List.getElem?_range hb], fun h => ?_⟩⟩
    have h4 : 0 ≤ c ∧ c < 6 ∧ 0 ≤ v ∧ v < 1000 := by
      have : 0 ≤ (0 : Int) ∧ (0 : Int) < p.code.length ∧ 0 ≤ c ∧ c < 6 ∧ 0 ≤ v ∧ v < 1000 := by simpa [pokeOk] using e2
      exact this.2.2
    have h5 := since_flows hp (a := (a : Int)) (c := c) (v := v) (by unfold pokeOk; exact decide_eq_true ⟨by omega, by rw [HLEN.out]; omega, h4⟩) (of_decide_eq_true h)
    rw [Int.toNat_natCast] at h5
    exact ⟨reachB_iff.2 h5, rnd_reach hwr h5⟩
  have HFC := hid hfc
  have HRB : Hid (∀ a : Nat, a < 5 → roomB (a : Int) = true) := fun a ha => by unfold roomB; exact decide_eq_true (by omega)
  clear hmap hfl e1 e2 e3 e4 e5 e6 he hwr hp hfc
  go_wp2_with fail
  refine hl.mono ?_
  clear hl
  rintro e w4 ⟨LA, lc, rfl, hrow, _, hb4⟩
  have hll : (lvls (rnd p.wires 5)).length = 5 := lvls_len _
  simp only [hll] at hrow ⊢
  have HB4 := hid (HB3.out.trans (hb4.mono HB3.out.size))
  have HF4 := hid (HFL.out.new hb4)
  have HL4 := hid hrow
  have HLC := hid hrow.le
  obtain ⟨x0, x1, x2, x3, hlx⟩ := HXC.out _ HB4.out
  clear hb4 hll hrow HFL HB3
  go_wp2_with fail
  go_loopw [14] (fun v14 wr => ∃ a : Nat, a ≤ n ∧ v14 = .int .i64 a ∧ Below w4.heap.size w4 wr) (fun v14 _ => n - (intOf v14).toNat)
  case atStart => exact ⟨0, by omega, rfl, Below.refl _ _⟩
  case round =>
    obtain ⟨wo, rfl⟩ : ∃ wo : World, wo = wr := ⟨_, rfl⟩
    obtain ⟨a, hal, rfl, hbo⟩ := hrel
    have HBO := hid hbo
    clear hbo x0 x1 x2 x3 hlx
    by_cases han : a < n
    · obtain ⟨g, hg, hgl, hgb⟩ := HROW.out a han
      obtain ⟨ab, ao, rfl, hab, hnc, hcm, _, z0⟩ := (HF4.out.new HBO.out).get hg
      rw [hgl] at z0
      have HGB := hid hgb
      have HGG := hid hg
      have HGL := hid hgl
      unfold maxLen at hcm
      have HZ0 : Hid (∀ w', Below wo.heap.size wo w' → w'.cell? ⟨ab, ao + a, none⟩ = some (.slice g.A n g.c)) := fun w' hb => (hb.cell (p := ⟨ab, ao + a, none⟩) (cell_lt z0)).trans z0
      clear hgb hg hgl
      go_wp2_with fail
      go_loopw [15] (fun v15 wr => ∃ b : Nat, b ≤ n ∧ v15 = .int .i64 b ∧ Below wo.heap.size wo wr) (fun v15 _ => n - (intOf v15).toNat)
      case atStart => exact ⟨0, by omega, rfl, Below.refl _ _⟩
      case round =>
        obtain ⟨wi, rfl⟩ : ∃ wi : World, wi = wr := ⟨_, rfl⟩
        obtain ⟨b, hbl, rfl, hbi⟩ := hrel
        have HBI := hid hbi
        have HBW := hid (HBO.out.trans (hbi.mono HBO.out.size))
        have y0 := HZ0.out _ hbi
        clear hbi z0
        by_cases hbn : b < n
        · obtain ⟨f, hf, hff⟩ := HGB.out b hbn
          obtain ⟨rb, ro, hrA, hrb, hrl, hrc, hrm, z1⟩ := (HF4.out.new HBW.out).flag HGG.out hf
          rw [hrA] at y0
          rw [HGL.out] at hrl hrc
          unfold maxLen at hrm
          obtain ⟨lb, lo, hlA, hlb, hlx⟩ := (HL4.out.new HBW.out).sl.2 (by decide)
          have la : wi.cell? ⟨lb, lo + a, none⟩ = some (.int .i64 (rnd p.wires 5 a)) := hlx a _ (by
            have := lvA_get (rnd p.wires 5) (i := a) (by omega)
            simpa [lvA] using this)
          have lb' : wi.cell? ⟨lb, lo + b, none⟩ = some (.int .i64 (rnd p.wires 5 b)) := hlx b _ (by
            have := lvA_get (rnd p.wires 5) (i := b) (by omega)
            simpa [lvA] using this)
          have hlc1 := HLC.out.1
          have hlc2 := HLC.out.2
          unfold maxLen at hlc2
          obtain ⟨x0, x1, x2, x3, hlx'⟩ := HXC.out _ (HB4.out.trans (HBW.out.mono HB4.out.size))
          subst hlA
          have ha5 : a < 5 := by omega
          have hb5' : b < 5 := by omega
          have ha5i : (a : Int) < 5 := by omega
          have hb5i : (b : Int) < 5 := by omega
          have hani : (a : Int) < (n : Int) := by omega
          have hbni : (b : Int) < (n : Int) := by omega
          generalize rnd p.wires 5 a = ra at la hff
          generalize rnd p.wires 5 b = rb' at lb' hff
          clear hlx hrA hf
          cases f with
          | false =>
            go_upto_region 20 with fail
            go_quiet (fail)
            go_wp2_with fail
            go_roundw
            case rel => exact ⟨b + 1, by omega, by go_num, below_drewN HBI.out _⟩
            case measure => simp [intOf]; omega
          | true =>
            obtain ⟨hR, hrr⟩ := hff rfl
            have hr2 : ¬ ((rb' : Int) < (ra : Int)) := by omega
            have d1 : decide ((rb' : Int) < (ra : Int)) = false := decide_eq_false hr2
            by_cases hq : ra = rb'
            · subst hq
              by_cases hab' : a = b
              · subst hab'
                have e3 : ((a : Int) != (a : Int)) = false := by simp
                go_upto_region 20 with fail
                go_quiet (fail)
                go_wp2_with fail
                go_roundw
                case rel => exact ⟨a + 1, by omega, by go_num, below_drewN HBI.out _⟩
                case measure => simp [intOf]; omega
              · have e3 : ((a : Int) != (b : Int)) = true := by simp; omega
                have HCALL : Hid (∀ w', Below wi.heap.size wi w' → Calls Tryd.prog 33 #[.agg #[.slice m.A n m.c, .int .i64 m.ticks, .slice m.sA ns m.sc, .slice m.wA nw m.wc], .int .i64 a, .int .i64 b] w' fun e w'' => e = .returned (.bool false) ∧ Below w'.heap.size w' w'') := fun w' hb => by
                  have hbw : Below w.heap.size w w' := HB1.out.trans ((HB4.out.trans ((HBW.out.trans (hb.mono HBW.out.size)).mono HB4.out.size)).mono HB1.out.size)
                  have h := HAP.out w' a b hbw HFC.out (HRB.out a ha5) (HRB.out b hb5')
                  rw [Int.toNat_natCast, Int.toNat_natCast, hR] at h
                  simpa using h
                have HFA : Hid (∀ w', Below wi.heap.size wi w' → (w'.cell? ⟨w.heap.size, 0, none⟩ = some (.slice m.A n m.c) ∧ w'.cell? ⟨w.heap.size, 1, none⟩ = some (.int .i64 m.ticks) ∧ w'.cell? ⟨w.heap.size, 2, none⟩ = some (.slice m.sA ns m.sc) ∧ w'.cell? ⟨w.heap.size, 3, none⟩ = some (.slice m.wA nw m.wc)) ∧ w'.cell? ⟨ab, ao + a, none⟩ = some (.slice (some ⟨rb, ro, none⟩) n g.c) ∧ w'.cell? ⟨rb, ro + b, none⟩ = some (.bool true) ∧ w'.cell? ⟨lb, lo + a, none⟩ = some (.int .i64 ra) ∧ w'.cell? ⟨lb, lo + b, none⟩ = some (.int .i64 ra)) := fun w' hb =>
                  ⟨⟨(hb.cell (p := ⟨w.heap.size, 0, none⟩) hlx').trans x0, (hb.cell (p := ⟨w.heap.size, 1, none⟩) hlx').trans x1, (hb.cell (p := ⟨w.heap.size, 2, none⟩) hlx').trans x2, (hb.cell (p := ⟨w.heap.size, 3, none⟩) hlx').trans x3⟩, (hb.cell (p := ⟨ab, ao + a, none⟩) (cell_lt y0)).trans y0, (hb.cell (p := ⟨rb, ro + b, none⟩) hrb).trans z1, (hb.cell (p := ⟨lb, lo + a, none⟩) hlb).trans la, (hb.cell (p := ⟨lb, lo + b, none⟩) hlb).trans lb'⟩
                go_upto_region 20 with fail
                go_region_held3 (fun w' => (w'.cell? ⟨w.heap.size, 0, none⟩ = some (.slice m.A n m.c) ∧ w'.cell? ⟨w.heap.size, 1, none⟩ = some (.int .i64 m.ticks) ∧ w'.cell? ⟨w.heap.size, 2, none⟩ = some (.slice m.sA ns m.sc) ∧ w'.cell? ⟨w.heap.size, 3, none⟩ = some (.slice m.wA nw m.wc)) ∧ w'.cell? ⟨ab, ao + a, none⟩ = some (.slice (some ⟨rb, ro, none⟩) n g.c) ∧ w'.cell? ⟨rb, ro + b, none⟩ = some (.bool true) ∧ w'.cell? ⟨lb, lo + a, none⟩ = some (.int .i64 ra) ∧ w'.cell? ⟨lb, lo + b, none⟩ = some (.int .i64 ra))
                  (first | (with_reducible exact HFA.out _ HB9.out) | (with_reducible exact HFA.out _ (Below.refl _ _).drew))
                  (first | (go_at_call 33; refine (HCALL.out _ (Below.refl _ _).drew).mono ?_; rintro e w9 ⟨rfl, hb9⟩; have HB9 := hid ((Below.refl wi.heap.size wi).drew.trans hb9); clear hb9))
                all_goals
                  go_wp2_with fail
                  go_roundw
                  case rel => exact ⟨b + 1, by omega, by go_num, HBI.out.trans (HB9.out.mono HBI.out.size)⟩
                  case measure => simp [intOf]; omega
            · have e3 : ((ra : Int) == (rb' : Int)) = false := by simp; omega
              go_upto_region 20 with fail
              go_quiet (fail)
              go_wp2_with fail
              go_roundw
              case rel => exact ⟨b + 1, by omega, by go_num, below_drewN HBI.out _⟩
              case measure => simp [intOf]; omega
        · obtain rfl : b = n := by omega
          go_wp2_with fail
          go_roundw
          case rel => exact ⟨a + 1, by omega, by go_num, HBW.out⟩
          case measure => simp [intOf]; omega
    · obtain rfl : a = n := by omega
      go_wp2_with fail
      go_ret
      exact ⟨rfl, HB1.out.trans ((HB4.out.trans (HBO.out.mono HB4.out.size)).mono HB1.out.size)⟩
end Go.Proofs.YtnmbomhlonifnaaDoor
