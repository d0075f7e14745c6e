/- Package levels: the contract of Apart, for every list of wires. -/
import Derived.Test.YtnmbomhlonifnaaDoorLeast
import Derived.Test.YtnmbomhlonifnaaDoorFlow
namespace Go.Proofs.YtnmbomhlonifnaaDoor
open Go.RowKit
set_option maxRecDepth 100000

noncomputable def apartOf (l : List Wire) (a b : Int) : Bool × Int :=
  if (flowChk l).2 ≠ 0 then (false, (flowChk l).2) else if roomB a = false ∨ roomB b = false then (false, 1) else (!reachB l a.toNat b.toNat && !reachB l b.toNat a.toNat, 0)

set_option maxHeartbeats 1000000 in
set_option maxRecDepth 100000 in
theorem apart_any (a b : Int) (A : Option Addr) (c : Nat) (l : List Wire) (w : World) (hs : Sl w A 4 l.length (l.flatMap Wire.cells)) (hsw : SlW A c l.length) :
    Calls Tryd.prog 67 #[.slice A l.length c, .int .i64 a, .int .i64 b] w (TellB w (apartOf l a b)) := by
  have HS := hid hs
  have HW := hid hsw
  clear hs hsw
  by_cases he : (flowChk l).2 = 0
  · obtain ⟨h12, hall, hin⟩ := flowChk_ok he
    have HE := hid he
    have HIN := hid hin
    clear hall hin
    cases ha : roomB a with
    | false =>
      rw [show apartOf l a b = (false, 1) by simp [apartOf, he, ha]]
      clear he
      go_enter Tryd.func67, Tryd.ntmps67
      go_wp2_with (first
        | (go_at_call 65; refine (flow_right A c l _ HS.out HW.out).mono ?_; rw [HE.out]; rintro e w1 ⟨rfl, hb1⟩; rw [errV_zero])
        | (go_at_call 66; refine (room_any _ _).mono ?_; rintro e w2 ⟨rfl, rfl⟩))
      go_ret2
      exact ⟨rfl, hb1⟩
    | true =>
      cases hb : roomB b with
      | false =>
        rw [show apartOf l a b = (false, 1) by simp [apartOf, he, hb]]
        clear he
        go_enter Tryd.func67, Tryd.ntmps67
        go_wp2_with (first
          | (go_at_call 65; refine (flow_right A c l _ HS.out HW.out).mono ?_; rw [HE.out]; rintro e w1 ⟨rfl, hb1⟩; rw [errV_zero])
          | (go_at_call 66; refine (room_any _ _).mono ?_; rintro e w2 ⟨rfl, rfl⟩))
        go_ret2
        exact ⟨rfl, hb1⟩
      | true =>
        obtain ⟨a0, a5⟩ := roomB_true.1 ha
        obtain ⟨b0, b5⟩ := roomB_true.1 hb
        obtain ⟨i, rfl⟩ : ∃ n : Nat, a = n := ⟨a.toNat, by omega⟩
        obtain ⟨j, rfl⟩ : ∃ n : Nat, b = n := ⟨b.toNat, by omega⟩
        have i5 : i < 5 := by omega
        have j5 : j < 5 := by omega
        obtain ⟨q, hq⟩ : ∃ q, q = (!reachB l i j && !reachB l j i) := ⟨_, rfl⟩
        rw [show apartOf l i j = (q, 0) by simp [apartOf, he, ha, hb, hq]]
        clear he
        have HI75 : Hid ((Tryd.prog.info? 119).map (·.size) = some (waysV l).size) := by rw [waysV, bitsA_size]; show _ = _; kernel_rfl
        have HONE : Hid ((waysV l).all (·.oneCell') = true) := bitsA_one _
        have u1 := waysV_get l i5 j5
        have u2 := waysV_get l j5 i5
        cases h1 : reachB l i j with
        | true =>
          rw [h1] at u1 hq
          simp only [Bool.not_true, Bool.false_and] at hq
          subst hq
          clear h1 u2
          go_enter Tryd.func67, Tryd.ntmps67
          go_wp2_with (first
            | (go_at_call 65; refine (flow_right A c l _ HS.out HW.out).mono ?_; rw [HE.out]; rintro e w1 ⟨rfl, hb1⟩; rw [errV_zero]; have HB1 := hid hb1; clear hb1)
            | (go_at_call 66; refine (room_any _ _).mono ?_; rintro e w2 ⟨rfl, rfl⟩)
            | (go_at_call 54; refine (ways_any A c l _ (HS.out.new HB1.out) h12 HIN.out).mono ?_; rintro e w3 ⟨rfl, hb3⟩; have HB3 := hid (HB1.out.trans (hb3.mono HB1.out.size)); clear hb3)
            | (refine wpList_store_rowK rfl 119 _ _ rfl w3.heap.size (waysV l) rfl rfl _ _ (heap_alloc_new w3 _) HI75.out (by rw [waysV, bitsA_size]; rfl) HONE.out ?_
               intro w4 hr4 hk4 hz4
               have hb4 : Below w.heap.size w w4 := (HB3.out.alloc HB3.out.size _).trans (hk4.below (by have := HB3.out.size; simp; omega) (fun i h => by have := HB3.out.size; omega))
               have v1 := (blk_cell hr4 (i * 5 + j)).trans u1
               have HB4 := hid hb4
               clear hr4 hb4 hk4 hz4))
          go_ret2
          exact ⟨rfl, HB4.out⟩
        | false =>
          rw [h1] at u1 hq
          simp only [Bool.not_false, Bool.true_and] at hq
          clear h1
          cases h2 : reachB l j i
          all_goals
            rw [h2] at u2 hq
            subst hq
            clear h2
            go_enter Tryd.func67, Tryd.ntmps67
            go_wp2_with (first
              | (go_at_call 65; refine (flow_right A c l _ HS.out HW.out).mono ?_; rw [HE.out]; rintro e w1 ⟨rfl, hb1⟩; rw [errV_zero]; have HB1 := hid hb1; clear hb1)
              | (go_at_call 66; refine (room_any _ _).mono ?_; rintro e w2 ⟨rfl, rfl⟩)
              | (go_at_call 54; refine (ways_any A c l _ (HS.out.new HB1.out) h12 HIN.out).mono ?_; rintro e w3 ⟨rfl, hb3⟩; have HB3 := hid (HB1.out.trans (hb3.mono HB1.out.size)); clear hb3)
              | (refine wpList_store_rowK rfl 119 _ _ rfl w3.heap.size (waysV l) rfl rfl _ _ (heap_alloc_new w3 _) HI75.out (by rw [waysV, bitsA_size]; rfl) HONE.out ?_
                 intro w4 hr4 hk4 hz4
                 have hb4 : Below w.heap.size w w4 := (HB3.out.alloc HB3.out.size _).trans (hk4.below (by have := HB3.out.size; simp; omega) (fun i h => by have := HB3.out.size; omega))
                 have v1 := (blk_cell hr4 (i * 5 + j)).trans u1
                 have v2 := (blk_cell hr4 (j * 5 + i)).trans u2
                 have HB4 := hid hb4
                 clear hr4 hb4 hk4 hz4))
            go_ret2
            exact ⟨rfl, HB4.out⟩
  · rw [show apartOf l a b = (false, (flowChk l).2) by simp [apartOf, he]]
    have hv := errV_pos he
    have HV := hid hv
    clear he hv
    go_enter Tryd.func67, Tryd.ntmps67
    go_wp2_with (go_at_call 65; refine (flow_right A c l _ HS.out HW.out).mono ?_; rw [HV.out]; rintro e w1 ⟨rfl, hb1⟩)
    go_ret2
    exact ⟨by rw [HV.out]; rfl, hb1⟩
end Go.Proofs.YtnmbomhlonifnaaDoor
