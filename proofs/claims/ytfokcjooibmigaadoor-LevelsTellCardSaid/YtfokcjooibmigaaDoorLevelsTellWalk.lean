/- The walk of framelaw2.LevelsTell: it returns true at every input. -/
import Derived.Test.YtfokcjooibmigaaDoorRWire
import Derived.Test.YtfokcjooibmigaaDoorRRings
import Derived.Test.YtfokcjooibmigaaDoorRLevel
import Derived.Test.YtfokcjooibmigaaDoorApart
import Derived.Test.YtfokcjooibmigaaDoorSameLists
import Derived.Test.YtfokcjooibmigaaDoorAs
import Derived.Deep.DeepCutAuto
namespace Go.Proofs.YtfokcjooibmigaaDoor
open Go.RowKit
set_option maxRecDepth 100000

theorem error_same (e : Int) (w : World) (hg : Handle w) : Calls Tryd.prog 12 #[errV e, .int .i64 e] w fun ev w' => ev = .returned (.bool true) ∧ Below w.heap.size w w' := by
  have h := error_any e e w hg
  rw [decide_eq_true rfl] at h
  exact h
def lvTo (f : Nat → Nat) (k : Nat) : List Int := (List.range k).map fun i => (f i : Int)
theorem lvTo_succ (f : Nat → Nat) (k : Nat) : lvTo f (k + 1) = lvTo f k ++ [(f k : Int)] := by simp [lvTo, List.range_succ]
theorem lvTo_five (f : Nat → Nat) : lvTo f 5 = lvls f := rfl

set_option maxHeartbeats 16000000 in
theorem levelsTell_walk {w : World} (hg : Handle w) (A : Option Addr) (c : Nat) (l : List Wire) (hs : Sl w A 4 l.length (l.flatMap Wire.cells)) (hsw : SlW A c l.length) (_ok : ∀ y ∈ l, y.Ok) (a b : Int) :
    Calls Tryd.prog 8 #[.slice A l.length c, .int .i64 a, .int .i64 b] w fun e w' => e = .returned (.bool true) ∧ Below w.heap.size w w' := by
  have HG := hid hg
  have HS := hid hs
  have HW := hid hsw
  have h63 : l.length ≤ 9223372036854775807 := by have := hsw.1; have := hsw.2.1; unfold maxLen at this; omega
  clear hg hs hsw _ok
  have HCHK := fun w hs => rwires_any A c l w hs HW.out
  by_cases he : (flowChk l).2 = 0
  · obtain ⟨h12, hall, hin⟩ := flowChk_ok he
    obtain ⟨pos, hpos⟩ : ∃ pos, pos = (flowChk l).1 := ⟨_, rfl⟩
    have hfc : flowChk l = (pos, 0) := by rw [hpos, ← he]
    rw [hfc] at HCHK
    have HE := hid he
    have HIN := hid hin
    have HCHK := hid HCHK
    have HRO : Hid (ringsOf l = (ringsTo l 5, 0)) := by show _ = _; simp [ringsOf, he]
    have HLO : Hid (leastOf l = (lvls (rnd l 5), 0)) := by show _ = _; simp [leastOf, he]
    obtain ⟨n, hn⟩ : ∃ n, n = (ringsTo l 5).length := ⟨_, rfl⟩
    have HN := hid hn
    have hn5 : n ≤ 5 := by rw [hn]; exact ringsTo_len l 5
    obtain ⟨i0, hi0, hz0, hz1, hz2⟩ := info_parts Tryd.infoInt
    clear he hall hin hpos hfc hn
    go_enter Tryd.func8, Tryd.ntmps8
    go_wp2_with (first
      | (go_at_call 22; refine (HCHK.out _ HS.out).mono ?_; rintro e w1 ⟨rfl, hb1⟩; have HB1 := hid hb1; clear hb1)
      | (go_at_call 38; refine (rrings_any A c l _ (HS.out.new HB1.out) h12 HIN.out).mono ?_; rintro e w2 ⟨A2, c2, rs, hrs, rfl, hra, hb2⟩; rw [← HN.out] at hra ⊢; have HRS := hid hrs; have HRA := hid hra; have HB2 := hid (HB1.out.trans (hb2.mono HB1.out.size)); clear hrs hra hb2))
    have hs2 := HB2.out.size
    go_loopw [10, 11, 12] (fun v10 v11 v12 wr => ∃ (k : Nat) (G : Option Addr) (gc : Nat), k ≤ 5 ∧ v11 = .int .i64 k ∧ v10 = .slice G k gc ∧ Row wr 3 1 G k gc (ints (lvTo (rnd l 5) k)) ∧ (∀ i, InA G i → w2.heap.size ≤ i) ∧ Below w2.heap.size w2 wr) (fun _ v11 _ _ => 5 - (intOf v11).toNat)
    case atStart => exact ⟨0, none, 0, by omega, rfl, rfl, Row.nil _ _ _, fun i h => by simp [InA] at h, Below.refl _ _⟩
    case round =>
      obtain ⟨k, G, gc, hk, rfl, rfl, hrow, hnew, hb⟩ := hrel
      have HROW := hid hrow
      have HNEW := hid hnew
      have HB := hid hb
      clear hrow hnew hb
      by_cases hk5 : k < 5
      · have hki : (k : Int) < 5 := by omega
        have HC := fun w hs => rlevel_any A c l h12 HIN.out 61 k w hk5 (by have := rnd_bound l 5 k; have : 5 * l.length ≤ 5 * 12 := Nat.mul_le_mul (Nat.le_refl _) h12; omega) hs
        have hsu := lvTo_succ (rnd l 5) k
        generalize rnd l 5 k = v at HC hsu
        have HC := hid HC
        have HSU := hid hsu
        clear hsu
        have hbs := HB.out.size
        go_wp2_with (first
          | (go_at_call 39; refine (HC.out _ (HS.out.new (HB2.out.trans (HB.out.mono HB2.out.size)))).mono ?_; rintro e w5 ⟨rfl, hb5⟩; have HB5 := hid hb5; clear hb5)
          | (at_builtin
             refine wpList_append_row _ rfl (.tmp 38) (.tmp 40) 24 rfl 3 i0 (.int .i64 0) 1 8 Tryd.underlying24 hi0 hz0 hz1 hz2 rfl (by decide) G k gc (ints (lvTo (rnd l 5) k)) rfl (by exact (HROW.out.new HB5.out).alloc _)
               (some ⟨w5.heap.size, 0, none⟩) 1 1 (ints [(v : Int)]) rfl (by exact ⟨rfl, fun _ => ⟨w5.heap.size, 0, rfl, by simp, fun i u hv => by
                  match i, hv with
                  | 0, hv => (simp [ints] at hv; subst hv; rw [Nat.zero_add]; exact (blk_cell (heap_alloc_new w5 _) 0).trans rfl)⟩⟩)
               (ints_one _) (by unfold maxLen; omega) (by omega) ?_
             intro A4 cap4 w6 hr6 hk6 hi6
             have HR6 := hid hr6
             have HK6 := hid hk6
             have HI6 := hid hi6
             clear hr6 hk6 hi6))
        go_roundw
        case rel =>
          have hs5 := HB5.out.size
          refine ⟨k + 1, A4, cap4, by omega, by go_num, rfl, by rw [HSU.out, ints_app]; exact HR6.out, fun i h => ?_, ?_⟩
          · rcases HI6.out i h with h | h
            · exact HNEW.out i h
            · simp at h; omega
          · exact ((HB.out.trans (HB5.out.mono hbs)).alloc (by omega) _).trans (HK6.out.below (by simp; omega) (fun i h => HNEW.out i h))
        case measure => simp [intOf]; omega
      · obtain rfl : k = 5 := by omega
        have HBX := hid (HB2.out.trans (HB.out.mono HB2.out.size))
        have HRX := hid (HRA.out.new_ HB.out)
        obtain ⟨wm, hwm⟩ : ∃ wm, wm = wr := ⟨_, rfl⟩
        subst hwm
        go_upto_region 15 with (first
          | (go_at_call 27; refine (same_ints A7 G 5 c7 gc (lvls (rnd l 5)) _ (HR7.out.new HB8.out).sl (HROW.out.new (HBB7.out.trans (HB8.out.mono HBB7.out.size))).sl (by omega) HR7.out.le.1 HROW.out.le.1).mono ?_; rintro e w9 ⟨rfl, d9, hw9⟩; have HB9 : Hid (Below wm.heap.size wm w9) := (by rw [hw9]; exact Below.drawnN (HBB7.out.trans (HB8.out.mono HBB7.out.size)) _); clear hw9)
          | (go_at_call 12; refine (error_same 0 _ (HG.out.new (HBX.out.trans (HBB7.out.mono HBX.out.size)))).mono ?_; rintro e w8 ⟨rfl, hb8⟩; have HB8 := hid hb8; clear hb8)
          | (go_at_call 35; refine (least_lv A c l _ (HS.out.new (HBX.out.trans (HBB6.out.mono HBX.out.size))) HW.out).mono ?_; rw [HLO.out]; rintro e w7 ⟨A7, c7, rfl, hr7, _, hb7⟩; rw [show (lvls (rnd l 5), (0 : Int)).1.length = 5 from rfl] at *; have HR7 := hid hr7; have HBB7 := hid (HBB6.out.trans (hb7.mono HBB6.out.size)); clear hr7 hb7)
          | (go_at_call 40; refine (same_lists A4 A2 n c4 c2 _ _ rs4 rs _ (HRA4.out.new_ HB5.out) (HRX.out.new_ (HB4.out.trans (HB5.out.mono HB4.out.size))) (by rw [HRS4.out, HRS.out]) (by omega) HLN.out).mono ?_; rintro e w6 ⟨rfl, d6, hw6⟩; have HBB6 : Hid (Below wm.heap.size wm w6) := (by rw [hw6]; exact Below.drawnN (HB4.out.trans (HB5.out.mono HB4.out.size)) _); clear hw6)
          | (go_at_call 12; refine (error_same 0 _ (HG.out.new (HBX.out.trans (HB4.out.mono HBX.out.size)))).mono ?_; rintro e w5 ⟨rfl, hb5⟩; have HB5 := hid hb5; clear hb5)
          | (go_at_call 36; refine (rings_any A c l _ (HS.out.new HBX.out) HW.out).mono ?_; rw [HRO.out]; rintro e w4 ⟨A4, c4, rs4, hrs4, rfl, hra4, hb4⟩
             rw [show (ringsTo l 5, (0 : Int)).1.length = n from HN.out.symm] at hra4 ⊢
             have hln : ∀ r ∈ rs4, r.xs.length ≤ 1000 := by
               intro r hr
               have hm : r.xs ∈ rs4.map Ri.xs := List.mem_map.2 ⟨r, hr, rfl⟩
               rw [hrs4] at hm
               obtain ⟨i, hi⟩ := List.mem_iff_getElem?.1 hm
               obtain ⟨x, _, hx, _⟩ := ringsTo_get hi
               rw [hx]
               exact Nat.le_trans (ringTo_len l x 5) (by omega)
             have HLN := hid hln
             have HRS4 := hid hrs4
             have HRA4 := hid hra4
             have HB4 := hid hb4
             clear hrs4 hra4 hb4 hln))
        have HB0 := hid (HBX.out.trans (HB9.out.mono HBX.out.size))
        have HS9 := hid (HS.out.new HB0.out)
        by_cases hout : a < 0 ∨ 4 < a ∨ b < 0 ∨ 4 < b
        · have hap : apartOf l a b = (false, 1) := by
            unfold apartOf
            rw [if_neg (by simp [HE.out]), if_pos (by rw [roomB_false, roomB_false]; omega)]
          have HAP := hid hap
          clear hap
          by_cases h1 : a < 0
          · clear hout
            go_wp2_with (first
              | (go_at_call 12; refine (error_same 1 _ (HG.out.new (HB0.out.trans (HBA.out.mono HB0.out.size)))).mono ?_; rintro e wB ⟨rfl, hbB⟩; have HBB := hid (HBA.out.trans (hbB.mono HBA.out.size)); clear hbB)
              | (go_at_call 37; refine (apart_any a b A c l _ HS9.out HW.out).mono ?_; rw [HAP.out]; rintro e wA ⟨rfl, hbA⟩; have HBA := hid hbA; clear hbA))
            go_ret
            exact ⟨rfl, HB0.out.trans (HBB.out.mono HB0.out.size)⟩
          by_cases h2 : 4 < a
          · clear hout
            go_wp2_with (first
              | (go_at_call 12; refine (error_same 1 _ (HG.out.new (HB0.out.trans (HBA.out.mono HB0.out.size)))).mono ?_; rintro e wB ⟨rfl, hbB⟩; have HBB := hid (HBA.out.trans (hbB.mono HBA.out.size)); clear hbB)
              | (go_at_call 37; refine (apart_any a b A c l _ HS9.out HW.out).mono ?_; rw [HAP.out]; rintro e wA ⟨rfl, hbA⟩; have HBA := hid hbA; clear hbA))
            go_ret
            exact ⟨rfl, HB0.out.trans (HBB.out.mono HB0.out.size)⟩
          by_cases h3 : b < 0
          · clear hout
            go_wp2_with (first
              | (go_at_call 12; refine (error_same 1 _ (HG.out.new (HB0.out.trans (HBA.out.mono HB0.out.size)))).mono ?_; rintro e wB ⟨rfl, hbB⟩; have HBB := hid (HBA.out.trans (hbB.mono HBA.out.size)); clear hbB)
              | (go_at_call 37; refine (apart_any a b A c l _ HS9.out HW.out).mono ?_; rw [HAP.out]; rintro e wA ⟨rfl, hbA⟩; have HBA := hid hbA; clear hbA))
            go_ret
            exact ⟨rfl, HB0.out.trans (HBB.out.mono HB0.out.size)⟩
          · have h4 : 4 < b := by omega
            clear hout
            go_wp2_with (first
              | (go_at_call 12; refine (error_same 1 _ (HG.out.new (HB0.out.trans (HBA.out.mono HB0.out.size)))).mono ?_; rintro e wB ⟨rfl, hbB⟩; have HBB := hid (HBA.out.trans (hbB.mono HBA.out.size)); clear hbB)
              | (go_at_call 37; refine (apart_any a b A c l _ HS9.out HW.out).mono ?_; rw [HAP.out]; rintro e wA ⟨rfl, hbA⟩; have HBA := hid hbA; clear hbA))
            go_ret
            exact ⟨rfl, HB0.out.trans (HBB.out.mono HB0.out.size)⟩
        · obtain ⟨i, rfl⟩ : ∃ n : Nat, a = n := ⟨a.toNat, by omega⟩
          obtain ⟨j, rfl⟩ : ∃ n : Nat, b = n := ⟨b.toNat, by omega⟩
          have i5 : i < 5 := by omega
          have j5 : j < 5 := by omega
          have z1 : decide ((i : Int) < 0) = false := by simp
          have z2 : decide ((4 : Int) < (i : Int)) = false := by simp; omega
          have z3 : decide ((j : Int) < 0) = false := by simp
          have z4 : decide ((4 : Int) < (j : Int)) = false := by simp; omega
          have y1 : (i : Int) ≤ 4 := by omega
          have y2 : (j : Int) ≤ 4 := by omega
          have hap : apartOf l i j = (!reachB l i j && !reachB l j i, 0) := by
            unfold apartOf
            rw [if_neg (by simp [HE.out]), if_neg (by rw [roomB_false, roomB_false]; omega)]
            simp
          have HI75 : Hid ((Tryd.prog.info? 53).map (·.size) = some (waysV l).size) := by rw [waysV, bitsA_size]; show _ = _; kernel_rfl
          have HONE : Hid ((waysV l).all (·.oneCell') = true) := bitsA_one _
          have u1 := waysV_get l i5 j5
          have u2 := waysV_get l j5 i5
          clear hout
          generalize reachB l i j = p1 at hap u1
          generalize reachB l j i = p2 at hap u2
          have HAP := hid hap
          have U1 := hid u1
          have U2 := hid u2
          clear hap u1 u2
          cases p1 <;> cases p2
          all_goals
            go_wp2_with (first
              | (go_at_call 12; refine (error_same 0 _ (HG.out.new (HB0.out.trans (HBA.out.mono HB0.out.size)))).mono ?_; rintro e wB ⟨rfl, hbB⟩; have HBB := hid (HBA.out.trans (hbB.mono HBA.out.size)); clear hbB)
              | (go_at_call 37; refine (apart_any i j A c l _ (HS9.out.new HBD.out) HW.out).mono ?_; rw [HAP.out]; rintro e wA ⟨rfl, hbA⟩; have HBA := hid (HBD.out.trans (hbA.mono HBD.out.size)); clear hbA)
              | (go_at_call 24; refine (rways_any A c l _ HS9.out h12 HIN.out).mono ?_; rintro e wC ⟨rfl, hbC⟩; have HBC := hid hbC; clear hbC)
              | (refine wpList_store_rowK rfl 53 _ _ rfl wC.heap.size (waysV l) rfl rfl _ _ (heap_alloc_new wC _) HI75.out (by rw [waysV, bitsA_size]; rfl) HONE.out ?_
                 intro wD hrD hkD hzD
                 have hbD : Below w9.heap.size w9 wD := (HBC.out.alloc HBC.out.size _).trans (hkD.below (by have := HBC.out.size; simp; omega) (fun i h => by have := HBC.out.size; omega))
                 have v1 := (blk_cell hrD (i * 5 + j)).trans U1.out
                 have v2 := (blk_cell hrD (j * 5 + i)).trans U2.out
                 have HBD := hid hbD
                 clear hrD hbD hkD hzD))
            go_ret
            exact ⟨rfl, HB0.out.trans (HBB.out.mono HB0.out.size)⟩
  · obtain ⟨pos, hpos⟩ : ∃ pos, pos = (flowChk l).1 := ⟨_, rfl⟩
    obtain ⟨E, hE⟩ : ∃ E, E = (flowChk l).2 := ⟨_, rfl⟩
    have hfc : flowChk l = (pos, E) := by rw [hpos, hE]
    rw [hfc] at HCHK
    have HCHK := hid HCHK
    have HRO : Hid (ringsOf l = ([], E)) := by show _ = _; simp [ringsOf, he, hE]
    have HLO : Hid (leastOf l = ([], E)) := by show _ = _; simp [leastOf, he, hE]
    have HAP : Hid (apartOf l a b = (false, E)) := by show _ = _; simp [apartOf, he, hE]
    rw [← hE] at he
    have he1 : (E == 0) = false := by simpa using he
    clear hpos hE hfc
    go_enter Tryd.func8, Tryd.ntmps8
    go_wp2_with (first
      | (go_at_call 12; refine (error_same E _ (HG.out.new HBA.out)).mono ?_; rintro e wB ⟨rfl, hbB⟩; have HBB := hid (HBA.out.trans (hbB.mono HBA.out.size)); clear hbB)
      | (go_at_call 37; refine (apart_any a b A c l _ (HS.out.new HB9.out) HW.out).mono ?_; rw [HAP.out]; rintro e wA ⟨rfl, hbA⟩; have HBA := hid (HB9.out.trans (hbA.mono HB9.out.size)); clear hbA)
      | (go_at_call 27; refine (same_ints A7 none 0 c7 0 [] _ (Sl.nil _ _ _) (Sl.nil _ _ _) (by omega) (by omega) (by omega)).mono ?_; rintro e w9 ⟨rfl, d9, hw9⟩; have HB9 : Hid (Below w.heap.size w w9) := (by rw [hw9]; exact Below.drawnN HB8.out _); clear hw9)
      | (go_at_call 12; refine (error_same E _ (HG.out.new HB7.out)).mono ?_; rintro e w8 ⟨rfl, hb8⟩; have HB8 := hid (HB7.out.trans (hb8.mono HB7.out.size)); clear hb8)
      | (go_at_call 35; refine (least_lv A c l _ (HS.out.new HB6.out) HW.out).mono ?_; rw [HLO.out]; rintro e w7 ⟨A7, c7, rfl, _, _, hb7⟩; rw [show (([], E) : List Int × Int).1.length = 0 from rfl] at *; have HB7 := hid (HB6.out.trans (hb7.mono HB6.out.size)); clear hb7)
      | (go_at_call 40; refine (same_lists A4 none 0 c4 0 _ 0 rs4 [] _ (HRA4.out.new_ HB5.out) (RingsAt.nil _ _) HRS4.out (by omega) (by have h := HRA4.out.len; rw [List.eq_nil_of_length_eq_zero h]; intro r hr; simp at hr)).mono ?_; rintro e w6 ⟨rfl, d6, hw6⟩; have HB6 : Hid (Below w.heap.size w w6) := (by rw [hw6]; exact Below.drawnN (HB4.out.trans (HB5.out.mono HB4.out.size)) _); clear hw6)
      | (go_at_call 12; refine (error_same E _ (HG.out.new HB4.out)).mono ?_; rintro e w5 ⟨rfl, hb5⟩; have HB5 := hid hb5; clear hb5)
      | (go_at_call 36; refine (rings_any A c l _ (HS.out.new HB1.out) HW.out).mono ?_; rw [HRO.out]; rintro e w4 ⟨A4, c4, rs4, hrs4, rfl, hra4, hb4⟩
         rw [show (([], E) : List (List Int) × Int).1.length = 0 from rfl] at hra4 ⊢
         have HRS4 := hid hrs4
         have HRA4 := hid hra4
         have HB4 := hid (HB1.out.trans (hb4.mono HB1.out.size))
         clear hrs4 hra4 hb4)
      | (go_at_call 22; refine (HCHK.out _ HS.out).mono ?_; rintro e w1 ⟨rfl, hb1⟩; have HB1 := hid hb1; clear hb1))
    go_ret
    exact ⟨rfl, HBB.out⟩
end Go.Proofs.YtfokcjooibmigaaDoor
