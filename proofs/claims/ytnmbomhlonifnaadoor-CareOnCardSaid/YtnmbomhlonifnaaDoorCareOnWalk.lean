/- The walk of framelaw4.CareOn: it returns true at every input. -/
import Derived.Test.YtnmbomhlonifnaaDoorCareNew
import Derived.Test.YtnmbomhlonifnaaDoorCareGet
import Derived.Test.YtnmbomhlonifnaaDoorCareOnLaw
import Derived.Test.YtnmbomhlonifnaaDoorRunU
namespace Go.Proofs.YtnmbomhlonifnaaDoor
open Go.RowKit
set_option maxRecDepth 100000

theorem on_careE (most : Int) : careE onPl [2] most = if most < 0 ∨ 100 < most then 1 else 0 := by
  unfold careE
  rw [if_neg (fun e => e on_chk), if_neg (by decide)]
  have : ([2] : List Int).any badRule = false := by decide
  rw [this]
  simp
theorem on_plan {w : World} {s : Nat} (h1 : w.heap[s]? = some (.cells #[.int .i64 1, .int .i64 1, .int .i64 1, .int .i64 3, .int .i64 0, .int .i64 1, .int .i64 11, .int .i64 0, .int .i64 0] 23 (0, 0))) (h2 : w.heap[s + 1]? = some (.cells #[.slice (some ⟨s, 0, none⟩) 3 3] 24 (0, 0)))
    (h3 : w.heap[s + 1 + 1]? = some (.cells #[.int .i64 0, .int .i64 1, .int .i64 0] 27 (0, 0))) : PlanAt w (onePM s (s + 1) (s + 1 + 1) onOps 1 [⟨0, 1, 0⟩]) := by
  refine one_plan h1 h2 h3 (by decide) (by decide) (by decide) (fun o ho => ?_) (fun y hy => ?_)
  · simp [onOps] at ho
    rcases ho with rfl | rfl | rfl <;> refine ⟨⟨?_, ?_⟩, ⟨?_, ?_⟩, ⟨?_, ?_⟩⟩ <;> decide
  · simp at hy; subst hy
    refine ⟨⟨?_, ?_⟩, ⟨?_, ?_⟩, ⟨?_, ?_⟩⟩ <;> decide
set_option maxHeartbeats 4000000 in
theorem careOn_walk {w : World} (hf : Forms w) (most n : Int) (_hm : Fits most) (_hn : Fits n) : Calls Tryd.prog 3 #[.int .i64 most, .int .i64 n] w fun e w' => e = .returned (.bool true) ∧ Below w.heap.size w w' := by
  obtain ⟨w5, hw5⟩ : ∃ w5, w5 = ((((w.alloc (.cells #[.int .i64 1, .int .i64 1, .int .i64 1, .int .i64 3, .int .i64 0, .int .i64 1, .int .i64 11, .int .i64 0, .int .i64 0] 23)).alloc (.cells #[.slice (some ⟨w.heap.size, 0, none⟩) 3 3] 24)).alloc (.cells #[.int .i64 0, .int .i64 1, .int .i64 0] 27)).alloc (.cells #[.slice (some ⟨w.heap.size + 1, 0, none⟩) 1 1, .int .i64 1, .slice (some ⟨w.heap.size + 1 + 1, 0, none⟩) 1 1, .slice none 0 0] 31)).alloc (.cells #[.int .i64 2] 3) := ⟨_, rfl⟩
  have hblk : w5.heap[w.heap.size]? = some (.cells #[.int .i64 1, .int .i64 1, .int .i64 1, .int .i64 3, .int .i64 0, .int .i64 1, .int .i64 11, .int .i64 0, .int .i64 0] 23 (0, 0)) ∧ w5.heap[w.heap.size + 1]? = some (.cells #[.slice (some ⟨w.heap.size, 0, none⟩) 3 3] 24 (0, 0)) ∧ w5.heap[w.heap.size + 1 + 1]? = some (.cells #[.int .i64 0, .int .i64 1, .int .i64 0] 27 (0, 0)) ∧
      w5.heap[w.heap.size + 1 + 1 + 1 + 1]? = some (.cells #[.int .i64 2] 3 (0, 0)) := by
    rw [hw5]
    simp only [hp_alloc, sz_alloc]
    refine ⟨?_, ?_, ?_, ?_⟩
    all_goals (repeat (first | rw [if_pos True.intro] | rw [if_pos rfl] | rw [if_neg (by omega)]))
  have hb5 : Below w.heap.size w w5 := by rw [hw5]; exact (((((Below.refl _ _).alloc (Nat.le_refl _) _).alloc (by simp) _).alloc (by simp; omega) _).alloc (by simp; omega) _).alloc (by simp; omega) _
  obtain ⟨b0, b1, b2, b3⟩ := hblk
  have hpl := on_plan b0 b1 b2
  have hru : Sl w5 (some ⟨w.heap.size + 1 + 1 + 1 + 1, 0, none⟩) 1 1 (ints [2]) := sl_blk b3 1 1 _ rfl rfl
  have HB5 := hid hb5
  by_cases hm : most < 0 ∨ 100 < most
  · have hnew := careNew_bad (m := onePM w.heap.size (w.heap.size + 1) (w.heap.size + 1 + 1) onOps 1 [⟨0, 1, 0⟩]) (what := [2]) (c := 1) (most := most) (hf.new hb5) hpl hru (by show careE onPl [2] most ≠ 0; rw [on_careE, if_pos hm]; decide) (by decide)
    have he : careE onPl [2] most = 1 := by rw [on_careE, if_pos hm]
    unfold CNot at hnew
    rw [show careE (onePM w.heap.size (w.heap.size + 1) (w.heap.size + 1 + 1) onOps 1 [⟨0, 1, 0⟩]).pl [2] most = 1 from he, errV_pos (by decide)] at hnew
    have HNEW := hid hnew
    have hm2 : most < 0 ∨ (0 ≤ most ∧ 100 < most) := by omega
    clear hnew he hm hf hpl hru b0 b1 b2 b3 hb5
    rcases hm2 with hm | ⟨hm, hm1⟩
    all_goals
      go_enter Tryd.func3, Tryd.ntmps3
      go_wp2_with fail
      rw [← hw5]
      refine HNEW.out.mono ?_
      rintro e w6 ⟨rfl, hb6⟩
      have HB6 := hid (HB5.out.trans (hb6.mono HB5.out.size))
      clear hb6
      go_wp2_with fail
      go_ret
      exact ⟨rfl, HB6.out⟩
  · obtain ⟨M, rfl⟩ : ∃ M : Nat, most = M := ⟨most.toNat, by omega⟩
    have hM : M ≤ 100 := by omega
    have hnew := careNew_good (m := onePM w.heap.size (w.heap.size + 1) (w.heap.size + 1 + 1) onOps 1 [⟨0, 1, 0⟩]) (what := [2]) (c := 1) (most := M) (hf.new hb5) hpl hru (lit_slW _ 1 (by decide)) (by show careE onPl [2] M = 0; rw [on_careE, if_neg hm])
    unfold CMade at hnew
    rw [show (onePM w.heap.size (w.heap.size + 1) (w.heap.size + 1 + 1) onOps 1 [⟨0, 1, 0⟩]).pl = onPl from rfl] at hnew
    have HNEW := hid hnew
    clear hnew hm hf hpl hru b0 b1 b2 b3 hb5
    have HPO := hid (planChk_ok on_chk)
    by_cases hn : 0 ≤ n ∧ n ≤ 300
    · obtain ⟨N, rfl⟩ : ∃ N : Nat, n = N := ⟨n.toNat, by omega⟩
      have hN : N ≤ 300 := by omega
      clear hn
      go_enter Tryd.func3, Tryd.ntmps3
      go_wp2_with fail
      rw [← hw5]
      refine HNEW.out.mono ?_
      rintro e w6 ⟨cb, C, rfl, hst, _⟩
      have HST := hid hst
      clear hst hw5
      go_wp2_with fail
      go_loopw [8] (fun v8 wr => ∃ (i : Nat) (C : CM), i ≤ N ∧ v8 = .int .i64 i ∧ Stand w5 wr [careT cb onPl [2] M C (runC onPl [2] M i)]) (fun v8 _ => N - (intOf v8).toNat)
      case atStart => exact ⟨0, C, by omega, rfl, HST.out⟩
      case round =>
        obtain ⟨i, C, hi, rfl, hst⟩ := hrel
        have HS := hid hst
        clear hst HST
        by_cases hin : i < N
        · go_wp2_with fail
          refine (ctick_any HPO.out (runC_ok HPO.out (by omega) i) (by omega) (by decide) (by omega) (HS.out.get (i := 0) rfl).here).mono ?_
          rintro e w7 ⟨C', rfl, hw⟩
          have HS7 := hid (HS.out.go 0 rfl hw)
          clear hw
          go_wp2_with fail
          go_roundw
          case rel => exact ⟨i + 1, C', by omega, by go_num, HS7.out⟩
          case measure => simp [intOf]; omega
        · obtain rfl : i = N := by omega
          have hok := runC_ok (what := [2]) HPO.out (show (0 : Int) ≤ M by omega) i
          have hca := (HS.out.get (i := 0) rfl).here
          have hs := cstate_any HPO.out hok hca 0
          have hrun := on_run M hM i
          have hso : stateOf (runC onPl [2] M i).k 0 = (onSt (onU M i), 0) := by rw [hrun]; rfl
          have hto : timesOf (runC onPl [2] M i) 0 = ((((onU M i - 1) / 3 : Nat) : Int), 0) := by rw [hrun]; rfl
          rw [hso] at hs
          unfold StateV at hs
          rw [errV_zero] at hs
          have ht : ∀ w', Below w6.heap.size w6 w6 → CareAt w' cb onPl [2] M C (runC onPl [2] M i) → Calls Tryd.prog 15 #[.pointer (some ⟨cb, 0, none⟩), .int .i64 0] w' fun e w'' => e = .returned (.tuple #[.int .i64 (((onU M i - 1) / 3 : Nat) : Int), .nilIface]) ∧ w' = w'' := fun w' _ h => by
            have := ctimes_any h 0
            rw [hto] at this
            simp only [errV_zero] at this
            exact this
          have h0 := on_c0 M i
          have h1 := on_times M i
          have HT := hid ht
          have HB6 := hid (HB5.out.trans (HS.out.below.mono HB5.out.size))
          obtain ⟨X, hX⟩ : ∃ X, X = onSt (onU M i) := ⟨_, rfl⟩
          obtain ⟨K, hK⟩ : ∃ K, K = (((onU M i - 1) / 3 : Nat) : Int) := ⟨_, rfl⟩
          rw [← hX] at hs h0
          rw [← hK] at HT h1
          have HSS := hid hs
          have HCA := hid hca
          obtain ⟨pc, c0, c1, c2, c3, c4, c5, f⟩ := X
          unfold stV at HSS
          simp only [] at HSS h0
          have e1 : Int.tdiv ((i : Int) + 1) 3 = ((i : Int) + 1) / 3 := Int.tdiv_eq_ediv_of_nonneg (by omega)
          have hc : ((M : Int) + 1 < ((i : Int) + 1) / 3 ∧ c0 = (M : Int) + 1) ∨ (((i : Int) + 1) / 3 ≤ (M : Int) + 1 ∧ c0 = ((i : Int) + 1) / 3) := by
            split at h0
            · exact .inl ⟨by omega, h0⟩
            · exact .inr ⟨by omega, h0⟩
          have hk : (((i : Int) == 0) = true ∧ K = 0) ∨ (((i : Int) == 0) = false ∧ (0 : Int) ≤ (i : Int) - 1 ∧ (M : Int) < ((i : Int) - 1) / 3 ∧ K = M) ∨ (((i : Int) == 0) = false ∧ (0 : Int) ≤ (i : Int) - 1 ∧ ((i : Int) - 1) / 3 ≤ M ∧ K = ((i : Int) - 1) / 3) := by
            by_cases hz : i = 0
            · refine .inl ⟨by simp [hz], ?_⟩
              rw [if_pos hz, if_neg (by omega)] at h1; exact h1
            · rw [if_neg hz] at h1
              have hb : ((i : Int) == 0) = false := by simp; omega
              split at h1
              · exact .inr (.inl ⟨hb, by omega, by omega, h1⟩)
              · exact .inr (.inr ⟨hb, by omega, by omega, h1⟩)
          clear hs ht hca hrun hso hto hX hK hok h0 h1 e1 HNEW
          have HCC := hid hc
          have HKK := hid hk
          clear hc hk
          go_wp2_with fail
          refine HSS.out.mono ?_
          rintro e w7 ⟨rfl, hb7⟩
          have HB7 := hid hb7
          clear hb7
          go_wp2_with fail
          refine (HT.out _ (Below.refl _ _) (HCA.out.new (HB7.out.alloc HB7.out.size _))).mono ?_
          rintro e w8 ⟨rfl, rfl⟩
          have hbl := heap_alloc_new w7 (.cells #[.int .i64 pc, .int .i64 c0, .int .i64 c1, .int .i64 c2, .int .i64 c3, .int .i64 c4, .int .i64 c5, .bool f] 43)
          obtain ⟨w8, hw8⟩ : ∃ w8, w8 = w7.alloc (.cells #[.int .i64 pc, .int .i64 c0, .int .i64 c1, .int .i64 c2, .int .i64 c3, .int .i64 c4, .int .i64 c5, .bool f] 43) := ⟨_, rfl⟩
          have HB8 : Hid (Below wr.heap.size wr w8) := by rw [hw8]; exact HB7.out.alloc HB7.out.size _
          rw [← hw8] at hbl
          have g1 := blk_cell hbl 1
          have hlg := blk_lt hbl
          simp at g1
          rw [← hw8]
          clear hw8 hbl
          rcases HCC.out with ⟨a1, e1⟩ | ⟨a1, e1⟩ <;> rcases HKK.out with ⟨z, e3⟩ | ⟨z, z1, b1, e3⟩ | ⟨z, z1, b1, e3⟩
          all_goals
            rw [e1] at g1
            rw [e3]
            clear e1 e3
            go_wp2_with fail
          all_goals
            go_ret
            refine ⟨?_, HB6.out.trans (HB8.out.mono HB6.out.size)⟩
            all_goals first | rfl | exact ret_bool (by simp)
    · have hn2 : n < 0 ∨ (0 ≤ n ∧ 300 < n) := by omega
      clear hn
      rcases hn2 with hn | ⟨hn, hn1⟩
      all_goals
        go_enter Tryd.func3, Tryd.ntmps3
        go_wp2_with fail
        rw [← hw5]
        refine HNEW.out.mono ?_
        rintro e w6 ⟨cb, C, rfl, hst, _⟩
        have HB6 := hid (HB5.out.trans (hst.below.mono HB5.out.size))
        clear hst
        go_wp2_with fail
        go_ret
        exact ⟨rfl, HB6.out⟩
end Go.Proofs.YtnmbomhlonifnaaDoor
