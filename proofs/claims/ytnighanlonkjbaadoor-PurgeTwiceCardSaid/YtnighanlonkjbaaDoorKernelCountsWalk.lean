/- The walk of framelaw4.KernelCounts: it returns true at every input. -/
import Derived.Test.YtnighanlonkjbaaDoorTickU
import Derived.Test.YtnighanlonkjbaaDoorKernNew
import Derived.Test.YtnighanlonkjbaaDoorGetU
import Derived.Test.YtnighanlonkjbaaDoorKLawU
import Derived.Test.YtnighanlonkjbaaDoorCounting
import Derived.IntWalk
namespace Go.Proofs.YtnighanlonkjbaaDoor
open Go.RowKit
set_option maxRecDepth 100000

/-- The counting plan as it lies. -/
def countPM (n : Nat) (A1 : Option Addr) (c1 : Nat) (rows : List Ro) (A2 : Option Addr) (c2 : Nat) : PM := ⟨A1, c1, rows, n, A2, c2, countSpans n, none, 0, []⟩
theorem counted_pl {w : World} {B n c1 c2 : Nat} {A1 A2 : Option Addr} {rows : List Ro} (h : Counted w B n A1 c1 rows A2 c2) : (countPM n A1 c1 rows A2 c2).pl = countPl n := by
  show Pl.mk _ _ _ _ = Pl.mk _ _ _ _
  congr 1
  rw [List.eq_replicate_iff]
  refine ⟨by simp [countPM, h.many], fun b hb => ?_⟩
  obtain ⟨r, hr, rfl⟩ := List.mem_map.1 hb
  exact (h.each r hr).1
theorem counted_plan {w : World} {B n c1 c2 : Nat} {A1 A2 : Option Addr} {rows : List Ro} (h : Counted w B n A1 c1 rows A2 c2) (hn : n ≤ 5) : PlanAt w (countPM n A1 c1 rows A2 c2) := by
  have hl : (countSpans n).length = n := by simp [countSpans]
  have hm := h.many
  refine ⟨?_, ?_, fun r hr => ⟨?_, ?_, ?_⟩, ⟨by simp only [countPM]; omega, by simp only [countPM]; omega⟩, ?_, ?_, ?_, Sl.nil _ _ _, ⟨Nat.le_refl _, Nat.zero_le _, fun _ => ⟨rfl, rfl⟩⟩, fun y hy => by simp [countPM] at hy⟩
  · simp only [countPM, hm]; exact h.code.sl
  · simp only [countPM, hm]; exact h.code.slW
  · have := (h.each r hr).2.1.sl
    rw [(h.each r hr).1] at this ⊢
    exact this
  · have := (h.each r hr).2.1.slW
    rw [(h.each r hr).1]
    exact this
  · intro o ho
    rw [(h.each r hr).1] at ho
    simp [countOps] at ho
    rcases ho with rfl | rfl <;> refine ⟨⟨?_, ?_⟩, ⟨?_, ?_⟩, ⟨?_, ?_⟩⟩ <;> decide
  · simp only [countPM, hl]; exact h.spans.sl
  · simp only [countPM, hl]; exact h.spans.slW
  · intro y hy
    simp [countPM, countSpans] at hy
    obtain ⟨i, hi, rfl⟩ := hy
    refine ⟨⟨?_, ?_⟩, ⟨?_, ?_⟩, ⟨?_, ?_⟩⟩ <;> simp only [] <;> omega

theorem count_ok (n : Nat) (h : 1 ≤ n) (h5 : n ≤ 5) : ∀ t : Nat, t ≤ 400 → KOk (countPl n) (countK n t) t
  | 0, _ => by
    have := kNew_ok (planChk_ok (countPl_ok n h h5))
    rw [count_new] at this; exact this
  | t + 1, ht => by
    have h1 := count_ok n h h5 t (by omega)
    have hp := planChk_ok (countPl_ok n h h5)
    have h2 := tick_ok hp h1 (spans_in hp)
    have h3 := count_tick n t h h5 (by omega)
    unfold tick at h3
    rw [h3] at h2
    exact h2
theorem count_state (n m r : Nat) (h : r < n) : stateOf (countK n (2 * n * m)) r = (⟨0, m, if m = 0 then 0 else 1, 0, 0, 0, 0, false⟩, 0) := by
  have hl : (countK n (2 * n * m)).rooms.length = n := by simp [countK]
  have hin : inB r (countK n (2 * n * m)).rooms.length = true := by
    unfold inB; rw [hl]; exact decide_eq_true (by omega)
  have hg : (countK n (2 * n * m)).rooms.getD r St.zero = cst (turnsTo n (2 * n * m) r) := by
    simp [countK, List.getD_eq_getElem?_getD, List.getElem?_map, List.getElem?_range h]
  unfold stateOf
  rw [hin, if_pos rfl, Int.toNat_natCast, hg, turnsTo_end n m r h]
  simp only [cst, Prod.mk.injEq, and_true]
  apply St.ext' <;> simp <;> omega

/-- What the making of a kernel of rooms that count leaves. -/
def KCounts (w : World) (n : Nat) (e : Ending) (w' : World) : Prop :=
  ∃ kb M, e = .returned (.tuple #[.pointer (some ⟨kb, 0, none⟩), .nilIface]) ∧ KAt 137 125 48 w' kb M (countK n 0) ∧ M.P.pl = countPl n ∧ (∀ j, TF kb M j → w.heap.size ≤ j) ∧ Below w.heap.size w w'
theorem new_count {w : World} {B n c1 c2 : Nat} {A1 A2 : Option Addr} {rows : List Ro} (h1 : 1 ≤ n) (h5 : n ≤ 5) (hf : Forms w) (h : Counted w B n A1 c1 rows A2 c2) :
    Calls Tryd.prog 33 #[.agg #[.slice A1 n c1, .int .i64 n, .slice A2 n c2, .slice none 0 0]] w (KCounts w n) := by
  have hm := h.many
  have hl : (countSpans n).length = n := by simp [countSpans]
  have hpl := counted_pl h
  have hk := countPl_ok n h1 h5
  have hnew := kern_new_ok w (countPM n A1 c1 rows A2 c2) hf (counted_plan h h5) (by rw [hpl]; exact hk)
  unfold KMade at hnew
  rw [hpl, count_new] at hnew
  simp only [countPM, hm, hl] at hnew
  exact hnew

set_option maxHeartbeats 2000000 in
theorem kernelCounts_walk {w : World} (hf : Forms w) (n many : Int) : Calls Tryd.prog 8 #[.int .i64 n, .int .i64 many] w fun e w' => e = .returned (.bool true) ∧ Below w.heap.size w w' := by
  by_cases h1 : n < 1
  · clear hf
    go_enter Tryd.func8, Tryd.ntmps8
    go_wp2_with fail
    go_ret
    exact ⟨rfl, Below.refl _ _⟩
  by_cases h2 : 5 < n
  · clear hf
    have h1' : 1 ≤ n := by omega
    clear h1
    go_enter Tryd.func8, Tryd.ntmps8
    go_wp2_with fail
    go_ret
    exact ⟨rfl, Below.refl _ _⟩
  by_cases h3 : many < 0
  · clear hf
    have h1' : 1 ≤ n := by omega
    have h2' : n ≤ 5 := by omega
    clear h1 h2
    go_enter Tryd.func8, Tryd.ntmps8
    go_wp2_with fail
    go_ret
    exact ⟨rfl, Below.refl _ _⟩
  by_cases h4 : 40 < many
  · clear hf
    have h1' : 1 ≤ n := by omega
    have h2' : n ≤ 5 := by omega
    have h3' : 0 ≤ many := by omega
    clear h1 h2 h3
    go_enter Tryd.func8, Tryd.ntmps8
    go_wp2_with fail
    go_ret
    exact ⟨rfl, Below.refl _ _⟩
  obtain ⟨N, rfl⟩ : ∃ N : Nat, n = N := ⟨n.toNat, by omega⟩
  obtain ⟨m, rfl⟩ : ∃ m : Nat, many = m := ⟨many.toNat, by omega⟩
  have hN1 : 1 ≤ N := by omega
  have hN5 : N ≤ 5 := by omega
  have hm : m ≤ 40 := by omega
  obtain ⟨T, hT⟩ : ∃ T, T = 2 * N * m := ⟨_, rfl⟩
  have hT4 : T ≤ 400 := by
    rw [hT]; have : 2 * N * m ≤ 10 * 40 := Nat.mul_le_mul (by omega) hm; omega
  have hTi : (2 : Int) * (N : Int) * (m : Int) = (T : Int) := by rw [hT]; simp [Int.natCast_mul]
  have hw : IntKind.i64.wrap (2 * (N : Int) * (m : Int)) = (T : Int) := by rw [hTi]; exact IntWalk.i64_in _ (by omega)
  have HOK := hid (fun t ht => count_ok N hN1 hN5 t ht)
  have HP := hid (planChk_ok (countPl_ok N hN1 hN5))
  have HCT := hid (fun t ht => count_tick N t hN1 hN5 ht)
  have HST : Hid (∀ r : Nat, r < N → stateOf (countK N T) r = (⟨0, m, if m = 0 then 0 else 1, 0, 0, 0, 0, false⟩, 0)) := fun r hr => by rw [hT]; exact count_state N m r hr
  have HF := hid hf
  have HW := hid hw
  have HTI := hid hTi
  clear hf h1 h2 h3 h4 hT hw hTi
  go_enter Tryd.func8, Tryd.ntmps8
  go_upto_region 4 with (first | (go_at_call 34; refine (counting_any N hN5 _).mono ?_; rintro e w1 ⟨A1, c1, rows, A2, c2, rfl, hcnt, hb1⟩; have HNEW := hid (new_count hN1 hN5 (HF.out.new hb1) hcnt); have HB1 := hid hb1; clear hcnt hb1) | (go_at_call 33; refine (HNEW.out).mono ?_; rintro e w2 ⟨kb, M, rfl, hka, hpl, htf, hb2⟩; have HKA := hid hka; have HPL := hid hpl; have HTF := hid (fun j hj => Nat.le_trans HB1.out.size (htf j hj)); have HBW := hid (HB1.out.trans (hb2.mono HB1.out.size)); clear hka hpl htf hb2))
  have hw := HW.out
  go_wp2_with fail
  go_loopw [7] (fun v7 wr => ∃ (i : Nat) (M : KM), i ≤ T ∧ v7 = .int .i64 i ∧ KAt 137 125 48 wr kb M (countK N i) ∧ M.P.pl = countPl N ∧ (∀ j, KF kb M j → w.heap.size ≤ j) ∧ Below w.heap.size w wr) (fun v7 _ => T - (intOf v7).toNat)
  case atStart => exact ⟨0, M, by omega, rfl, HKA.out, HPL.out, fun j hj => HTF.out j (.inl hj), HBW.out⟩
  case round =>
    obtain ⟨i, M, hi, rfl, hka, hpl, hkf, hb⟩ := hrel
    have HK := hid hka
    have HL := hid hpl
    have HKF := hid hkf
    have HB := hid hb
    clear hka hpl hkf hb
    by_cases hit : i < T
    · have HTK : Hid (Calls Tryd.prog 35 #[.pointer (some ⟨kb, 0, none⟩)] wr (KTicked 137 125 48 wr kb M (tick (countPl N) (countK N i)))) :=
        ktick_any wr kb M (countK N i) (countPl N) i HP.out HL.out (HOK.out i (by omega)) (by omega) HK.out
      obtain ⟨q, hq⟩ : ∃ q, q = tick (countPl N) (countK N i) := ⟨_, rfl⟩
      have hq2 : q.2 = countK N (i + 1) := by rw [hq]; exact HCT.out i (by omega)
      rw [← hq] at HTK
      have HQ := hid hq2
      clear hq hq2
      go_wp2_with (go_at_call 35; refine (HTK.out).mono ?_; rintro e w3 ⟨M', rfl, h1, h2, h3, h4⟩; have HH1 := hid h1; have HH2 := hid h2; have HH3 := hid h3; have HH4 := hid h4; clear h1 h2 h3 h4)
      go_roundw
      case rel => exact ⟨i + 1, M', by omega, by go_num, by rw [← HQ.out]; exact HH1.out, by rw [HH2.out.1]; exact HL.out, fun j hj => (HH4.out j hj).elim (fun h => HKF.out j h) (fun h => Nat.le_trans HB.out.size h), (((Keep.of_below NoF HB.out).then HH3.out) (fun j hj h => by have := HKF.out j h; omega)).below (Nat.le_refl _) (fun j h => h.elim)⟩
      case measure => simp [intOf]; omega
    · obtain rfl : i = T := by omega
      go_wp2_with fail
      clear hw
      obtain ⟨wo, rfl⟩ : ∃ wo : World, wo = wr := ⟨_, rfl⟩
      have HSC : Hid (∀ r : Nat, r < N → ∀ w', Below wo.heap.size wo w' → Calls Tryd.prog 36 #[.pointer (some ⟨kb, 0, none⟩), .int .i64 r] w' fun e w'' => e = .returned (.tuple #[.agg #[.int .i64 0, .int .i64 m, .int .i64 (if m = 0 then 0 else 1), .int .i64 0, .int .i64 0, .int .i64 0, .int .i64 0, .bool false], .nilIface]) ∧ Below w'.heap.size w' w'') := fun r hr w' hb => by
        have h := kstate_any (r : Int) (by simp [countK]; omega) (HK.out.new hb)
        rw [HST.out r hr] at h
        exact h
      have HTIME : Hid (∀ w', Below wo.heap.size wo w' → Calls Tryd.prog 37 #[.pointer (some ⟨kb, 0, none⟩)] w' fun e w'' => e = .returned (.int .i64 i) ∧ w' = w'') := fun w' hb => ktime_any (HK.out.new hb)
      go_loopw [8, 9, 10] (fun v8 v9 v10 wq => ∃ r : Nat, r ≤ N ∧ v8 = .int .i64 r ∧ Below wo.heap.size wo wq) (fun v8 _ _ _ => N - (intOf v8).toNat)
      case atStart => exact ⟨0, by omega, rfl, Below.refl _ _⟩
      case round =>
        obtain ⟨r, hr, rfl, hbq⟩ := hrel
        have HBQ := hid hbq
        clear hbq
        by_cases hrN : r < N
        · have HCR := hid (HSC.out r hrN)
          generalize (if m = 0 then (0 : Int) else 1) = y at HCR
          go_wp2_with (go_at_call 36; refine (HCR.out _ HBQ.out).mono ?_; rintro e w3 ⟨rfl, hb3⟩; have HB3 := hid (HBQ.out.trans (hb3.mono HBQ.out.size)); clear hb3)
          go_roundw
          case rel => exact ⟨r + 1, by omega, by go_num, HB3.out.alloc HB3.out.size _⟩
          case measure => simp [intOf]; omega
        · obtain rfl : r = N := by omega
          have hw := HW.out
          go_wp2_with (go_at_call 37; refine (HTIME.out _ HBQ.out).mono ?_; rintro e w3 ⟨rfl, rfl⟩)
          go_ret
          exact ⟨rfl, HB.out.trans (HBQ.out.mono HB.out.size)⟩
end Go.Proofs.YtnighanlonkjbaaDoor
