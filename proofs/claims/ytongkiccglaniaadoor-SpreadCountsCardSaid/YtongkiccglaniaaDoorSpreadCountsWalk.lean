/- The walk of framelaw4.SpreadCounts: it returns true at every input. -/
import Derived.Test.YtongkiccglaniaaDoorSpreadGet
import Derived.Test.YtongkiccglaniaaDoorKernelCountsWalk
import Derived.IntWalk
namespace Go.Proofs.YtongkiccglaniaaDoor
open Go.RowKit
set_option maxRecDepth 100000

theorem count_ev (n t : Nat) (h : 1 ≤ n) (h5 : n ≤ 5) (ht : t ≤ 400) : (tick (countPl n) (countK n t)).1.tick = t ∧ (tick (countPl n) (countK n t)).1.room = ((t % n : Nat) : Int) := by
  have hr := Nat.mod_lt t h
  have hturn : turnAt (countSpans n) ((countK n t).time % (countPl n).ticks) = ((t % n : Nat) : Int) := by
    show turnAt (countSpans n) ((t : Int) % (n : Int)) = _
    rw [← Int.natCast_emod]; exact count_turn_nat' n _ hr h5
  have hT : turnsTo n t (t % n) < 1000 := by
    unfold turnsTo
    have := Nat.div_le_self (t + (n - 1 - t % n)) n
    omega
  obtain ⟨o, ho, _, _, _⟩ := cst_step _ hT
  have hc : (countPl n).code[t % n]? = some countOps := by
    show (List.replicate n countOps)[t % n]? = _
    rw [List.getElem?_replicate, if_pos hr]
  have hrm : (countK n t).rooms[t % n]? = some (cst (turnsTo n t (t % n))) := by
    simp [countK, List.getElem?_map, List.getElem?_range hr]
  unfold tick
  rw [show (countPl n).spans = countSpans n from rfl, tick_room hturn hc hrm ho]
  exact ⟨rfl, rfl⟩
theorem spread_count {w : World} {B n c1 c2 : Nat} {A1 A2 : Option Addr} {rows : List Ro} (h1 : 1 ≤ n) (h5 : n ≤ 5) (hf : Forms w) (h : Counted w B n A1 c1 rows A2 c2) :
    Calls Tryd.prog 25 #[.agg #[.slice A1 n c1, .int .i64 n, .slice A2 n c2, .slice none 0 0]] w (SNew w (countPl n)) := by
  have hm := h.many
  have hl : (countSpans n).length = n := by simp [countSpans]
  have hpl := counted_pl h
  have hk := countPl_ok n h1 h5
  have hnew := spread_good (m := countPM n A1 c1 rows A2 c2) hf (counted_plan h h5) (by rw [hpl]; exact hk)
  rw [hpl] at hnew
  simp only [countPM, hm, hl] at hnew
  exact hnew

set_option maxHeartbeats 2000000 in
theorem spreadCounts_walk {w : World} (hf : Forms w) (n many : Int) : Calls Tryd.prog 6 #[.int .i64 n, .int .i64 many] w fun e w' => e = .returned (.bool true) ∧ Below w.heap.size w w' := by
  by_cases h1 : n < 1
  · clear hf
    go_enter Tryd.func6, Tryd.ntmps6
    go_wp2_with fail
    go_ret
    exact ⟨rfl, Below.refl _ _⟩
  by_cases h2 : 5 < n
  · clear hf
    have h1' : 1 ≤ n := by omega
    clear h1
    go_enter Tryd.func6, Tryd.ntmps6
    go_wp2_with fail
    go_ret
    exact ⟨rfl, Below.refl _ _⟩
  by_cases h3 : many < 0
  · clear hf
    have h1' : 1 ≤ n := by omega
    have h2' : n ≤ 5 := by omega
    clear h1 h2
    go_enter Tryd.func6, Tryd.ntmps6
    go_wp2_with fail
    go_ret
    exact ⟨rfl, Below.refl _ _⟩
  by_cases h4 : 40 < many
  · clear hf
    have h1' : 1 ≤ n := by omega
    have h2' : n ≤ 5 := by omega
    have h3' : 0 ≤ many := by omega
    clear h1 h2 h3
    go_enter Tryd.func6, Tryd.ntmps6
    go_wp2_with fail
    go_ret
    exact ⟨rfl, Below.refl _ _⟩
  obtain ⟨N, rfl⟩ : ∃ N : Nat, n = N := ⟨n.toNat, by omega⟩
  obtain ⟨m, rfl⟩ : ∃ m : Nat, many = m := ⟨many.toNat, by omega⟩
  have hN1 : 1 ≤ N := by omega
  have hN5 : N ≤ 5 := by omega
  have hm : m ≤ 40 := by omega
  obtain ⟨T, hT⟩ : ∃ T, T = 2 * N * m := ⟨_, rfl⟩
  have hT4 : T ≤ 400 := by
    rw [hT]; have : 2 * N * m ≤ 10 * 40 := Nat.mul_le_mul (by omega) hm; omega
  have hTi : (2 : Int) * (N : Int) * (m : Int) = (T : Int) := by rw [hT]; simp [Int.natCast_mul]
  have hw : IntKind.i64.wrap (2 * (N : Int) * (m : Int)) = (T : Int) := by rw [hTi]; exact IntWalk.i64_in _ (by omega)
  have HOK := hid (fun t ht => count_ok N hN1 hN5 t ht)
  have HP := hid (planChk_ok (countPl_ok N hN1 hN5))
  have HCT := hid (fun t ht => count_tick N t hN1 hN5 ht)
  have HEV := hid (fun t ht => count_ev N t hN1 hN5 ht)
  have HSTT : Hid (∀ r : Nat, r < N → stateOf (countK N T) r = (⟨0, m, if m = 0 then 0 else 1, 0, 0, 0, 0, false⟩, 0)) := fun r hr => by rw [hT]; exact count_state N m r hr
  have HF := hid hf
  have HW := hid hw
  have HTI := hid hTi
  clear hf h1 h2 h3 h4 hT hw hTi
  go_enter Tryd.func6, Tryd.ntmps6
  go_wp2_with fail
  refine (counting_any N hN5 _).mono ?_
  rintro e w1 ⟨A1, c1, rows, A2, c2, rfl, hcnt, hb1⟩
  have hnew := spread_count hN1 hN5 (HF.out.new hb1) hcnt
  unfold SNew at hnew
  rw [count_new] at hnew
  have HB1 := hid hb1
  clear hcnt hb1
  go_wp2_with fail
  refine hnew.mono ?_
  clear hnew
  rintro e w2 ⟨sb, S, rfl, hst, _⟩
  have HST := hid (hst.base HB1.out)
  clear hst
  have hw := HW.out
  go_wp2_with fail
  go_loopw [7] (fun v7 wr => ∃ (i : Nat) (S : SM), i ≤ T ∧ v7 = .int .i64 i ∧ Stand w wr [spreadT sb (countPl N) S (countK N i)]) (fun v7 _ => T - (intOf v7).toNat)
  case atStart => exact ⟨0, S, by omega, rfl, HST.out⟩
  case round =>
    obtain ⟨wo, rfl⟩ : ∃ wo : World, wo = wr := ⟨_, rfl⟩
    obtain ⟨i, S, hi, rfl, hst⟩ := hrel
    have HSR := hid hst
    clear hst
    by_cases hit : i < T
    · have htk := stick_stand (i := 0) HSR.out rfl HF.out HP.out (HOK.out i (by omega)) (by omega)
      rw [(HEV.out i (by omega)).1, (HEV.out i (by omega)).2, HCT.out i (by omega)] at htk
      have hmod : (i : Int).tmod (N : Int) = ((i % N : Nat) : Int) := by rw [Int.tmod_eq_emod_of_nonneg (by omega)]; exact (Int.natCast_emod i N).symm
      have hN0 : ¬ (N : Int) = 0 := by omega
      obtain ⟨u, hu⟩ : ∃ u : Nat, u = i % N := ⟨_, rfl⟩
      rw [← hu] at hmod htk
      clear hu
      go_wp2_with fail
      refine htk.mono ?_
      clear htk
      rintro e w3 ⟨S', rfl, hst⟩
      generalize (tick (countPl N) (countK N i)).1.pc = pc
      generalize (tick (countPl N) (countK N i)).1.what = wh
      have HS4 : Hid (Stand w (w3.alloc (.cells #[.int .i64 i, .int .i64 u, .int .i64 pc, .int .i64 wh] 34)) [spreadT sb (countPl N) S' (countK N (i + 1))]) := hst.new ((Below.refl _ _).alloc (Nat.le_refl _) _)
      clear hst
      go_wp2_with fail
      go_quiet (fail)
      go_wp2_with fail
      go_roundw
      case rel => exact ⟨i + 1, S', by omega, by go_num, HS4.out.new (below_drawn (Below.refl _ _) _)⟩
      case measure => simp [intOf]; omega
    · obtain rfl : i = T := by omega
      go_wp2_with fail
      clear hw
      have HSC : Hid (∀ r : Nat, r < N → ∀ w', Below wo.heap.size wo w' → Calls Tryd.prog 27 #[.pointer (some ⟨sb, 0, none⟩), .int .i64 r] w' fun e w'' => e = .returned (.tuple #[.agg #[.int .i64 0, .int .i64 m, .int .i64 (if m = 0 then 0 else 1), .int .i64 0, .int .i64 0, .int .i64 0, .int .i64 0, .bool false], .nilIface]) ∧ Below w'.heap.size w' w'') := fun r hr w' hb => by
        have h := sstate_any ((HSR.out.new hb).get (i := 0) rfl).here (by simp [countK]; omega) (r : Int)
        rw [HSTT.out r hr] at h
        exact h
      go_loopw [9] (fun v9 wq => ∃ r : Nat, r ≤ N ∧ v9 = .int .i64 r ∧ Below wo.heap.size wo wq) (fun v9 _ => N - (intOf v9).toNat)
      case atStart => exact ⟨0, by omega, rfl, Below.refl _ _⟩
      case round =>
        obtain ⟨wq, rfl⟩ : ∃ wq : World, wq = wr := ⟨_, rfl⟩
        obtain ⟨r, hr, rfl, hbq⟩ := hrel
        have HBQ := hid hbq
        clear hbq
        by_cases hrN : r < N
        · have HCR := hid (HSC.out r hrN)
          generalize (if m = 0 then (0 : Int) else 1) = y at HCR
          go_wp2_with fail
          refine (HCR.out _ HBQ.out).mono ?_
          rintro e w3 ⟨rfl, hb3⟩
          have HB3 := hid (HBQ.out.trans (hb3.mono HBQ.out.size))
          clear hb3
          go_wp2_with fail
          go_roundw
          case rel => exact ⟨r + 1, by omega, by go_num, HB3.out.alloc HB3.out.size _⟩
          case measure => simp [intOf]; omega
        · obtain rfl : r = N := by omega
          go_wp2_with fail
          go_ret
          exact ⟨rfl, HSR.out.below.trans (HBQ.out.mono HSR.out.below.size)⟩
end Go.Proofs.YtongkiccglaniaaDoor
