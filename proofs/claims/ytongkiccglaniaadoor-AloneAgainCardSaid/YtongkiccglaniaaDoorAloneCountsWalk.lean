/- The walk of framelaw4.AloneCounts: it returns true at every input. -/
import Derived.Test.YtongkiccglaniaaDoorAloneT
import Derived.Test.YtongkiccglaniaaDoorAloneNew
import Derived.Test.YtongkiccglaniaaDoorKernelCountsWalk
import Derived.IntWalk
namespace Go.Proofs.YtongkiccglaniaaDoor
open Go.RowKit
set_option maxRecDepth 100000

/-- A room that counts, behind so many turns. -/
def cA (i : Nat) : Ast := ⟨cst i, i⟩
theorem cA_step {i : Nat} (h : i < 1000) : ∃ o, countOps[(cA i).st.pc.toNat]? = some o ∧ (stepDo countOps.length o (cA i).st 0 false).2 = -1 ∧ aGo countOps.length (cA i) o 0 false = cA (i + 1) := by
  obtain ⟨o, ho, h8, _, hs⟩ := cst_step i h
  refine ⟨o, ho, by rw [stepDo_snd, if_neg (fun h1 => h8 h1.2)], ?_⟩
  unfold aGo cA
  rw [show (stepDo (countOps.length : Int) o (cst i) 0 false).1 = cst (i + 1) from hs]
  simp
theorem cA_ok : ∀ i : Nat, i ≤ 1000 → AOk countOps (cA i) i
  | 0, _ => by
    have h := aNew_ok (l := countOps) (by decide)
    exact h
  | i + 1, hi => by
    obtain ⟨o, ho, _, hs⟩ := cA_step (i := i) (by omega)
    have h := (cA_ok i (by omega)).go ho (got := 0) (is := false) (by simp)
    rw [hs] at h
    exact h
theorem count_astep {w0 wr : World} {ab c : Nat} {A : Option Addr} {i : Nat} {ts : List Tg} (h : Stand w0 wr (aloneT ab A c countOps 1 (cA i) :: ts)) (hf : Forms wr) (hi : i ≤ 400) :
    Calls Tryd.prog 19 #[.pointer (some ⟨ab, 0, none⟩), .int .i64 0, .bool false] wr fun e w' => ∃ v : Int, e = .returned (.tuple #[.agg #[.int .i64 i, .int .i64 1, .int .i64 (i % 2 : Nat), .int .i64 v], .int .i64 (-1), .nilIface]) ∧ Stand w0 w' (aloneT ab A c countOps 1 (cA (i + 1)) :: ts) := by
  obtain ⟨o, ho, hout, hs⟩ := cA_step (i := i) (by omega)
  refine (astep_ok (h.get (i := 0) rfl).here hf (cA_ok i (by omega)) (by omega) ho 0 false (by simp)).mono ?_
  rintro e w' ⟨rfl, hw⟩
  rw [hout]
  rw [hs] at hw
  exact ⟨_, rfl, h.go 0 rfl hw⟩
theorem alone_count {w : World} {B c1 c2 : Nat} {A1 A2 : Option Addr} {rows : List Ro} (hf : Forms w) (h : Counted w B 3 A1 c1 rows A2 c2) :
    Calls Tryd.prog 17 #[.agg #[.slice A1 3 c1, .int .i64 3, .slice A2 3 c2, .slice none 0 0], .int .i64 1] w (ANew w countOps 1) := by
  have hm := h.many
  have hl : (countSpans 3).length = 3 := by simp [countSpans]
  have hpl := counted_pl h
  have hk := countPl_ok 3 (by decide) (by decide)
  have hnew := aloneNew_good (m := countPM 3 A1 c1 rows A2 c2) hf (counted_plan h (by decide)) (by rw [hpl]; exact hk) (r := 1) (l := countOps) (by rw [hpl]; rfl)
  simp only [countPM, hm, hl] at hnew
  exact hnew
theorem ANew.stand {w w' : World} {l : List Op} {r : Int} {ab c : Nat} {A : Option Addr} (h1 : AloneAt w' ab A c l r ⟨St.zero, 0⟩) (h2 : ∀ j, (j = ab ∨ (0 < l.length ∧ InA A j)) → w.heap.size ≤ j) (h3 : Below w.heap.size w w') : Stand w w' [aloneT ab A c l r ⟨St.zero, 0⟩] :=
  (Stand.nil w).add h3 h1.lie (fun j hj => h2 j (.inl hj)) (fun j hj => .inl (h2 j hj))

set_option maxHeartbeats 2000000 in
theorem aloneCounts_walk {w : World} (hf : Forms w) (n : Int) : Calls Tryd.prog 3 #[.int .i64 n] w fun e w' => e = .returned (.bool true) ∧ Below w.heap.size w w' := by
  have HF := hid hf
  clear hf
  go_enter Tryd.func3, Tryd.ntmps3
  go_wp2_with fail
  refine (counting_any 3 (by decide) _).mono ?_
  rintro e w1 ⟨A1, c1, rows, A2, c2, rfl, hcnt, hb1⟩
  have hnew := alone_count (HF.out.new hb1) hcnt
  unfold ANew at hnew
  have HB1 := hid hb1
  clear hcnt hb1
  go_wp2_with fail
  refine hnew.mono ?_
  clear hnew
  rintro e w2 ⟨ab, A, c, rfl, hal, hfr, hb2⟩
  have hst := ANew.stand hal hfr hb2
  have HST : Hid (Stand w w2 [aloneT ab A c countOps 1 (cA 0)]) := hst.base HB1.out
  clear hal hfr hb2 hst
  by_cases h0 : n < 0
  · go_wp2_with fail
    go_ret
    exact ⟨rfl, HST.out.below⟩
  by_cases h3 : 300 < n
  · have h0' : 0 ≤ n := by omega
    clear h0
    go_wp2_with fail
    go_ret
    exact ⟨rfl, HST.out.below⟩
  obtain ⟨N, rfl⟩ : ∃ N : Nat, n = N := ⟨n.toNat, by omega⟩
  have hN : N ≤ 300 := by omega
  clear h0 h3
  go_wp2_with fail
  go_loopw [5] (fun v5 wr => ∃ i : Nat, i ≤ N ∧ v5 = .int .i64 i ∧ Stand w wr [aloneT ab A c countOps 1 (cA i)]) (fun v5 _ => N - (intOf v5).toNat)
  case atStart => exact ⟨0, by omega, rfl, HST.out⟩
  case round =>
    obtain ⟨wo, rfl⟩ : ∃ wo : World, wo = wr := ⟨_, rfl⟩
    obtain ⟨i, hi, rfl, hst⟩ := hrel
    have HSR := hid hst
    clear hst
    by_cases hin : i < N
    · have hm1 : ((i : Int)).tmod 2 = ((i % 2 : Nat) : Int) := by rw [Int.tmod_eq_emod_of_nonneg (by omega)]; omega
      go_wp2_with fail
      refine (count_astep HSR.out (HF.out.new HSR.out.below) (by omega)).mono ?_
      rintro e w3 ⟨v, rfl, hst⟩
      have HS3 := hid (hst.new ((Below.refl _ _).alloc (Nat.le_refl _) (.cells #[.int .i64 i, .int .i64 1, .int .i64 (i % 2 : Nat), .int .i64 v] 34)))
      clear hst
      obtain ⟨u, hu⟩ : ∃ u : Nat, u = i % 2 := ⟨_, rfl⟩
      rw [← hu] at hm1 HS3 ⊢
      clear hu
      go_wp2_with fail
      go_roundw
      case rel => exact ⟨i + 1, by omega, by go_num, HS3.out⟩
      case measure => simp [intOf]; omega
    · obtain rfl : i = N := by omega
      have hd : (i : Int).tdiv 2 = ((i / 2 : Nat) : Int) := by rw [Int.tdiv_eq_ediv_of_nonneg (by omega)]; omega
      have hd2 : (i : Int) / 2 = ((i / 2 : Nat) : Int) := by omega
      have hst := astate_any (HSR.out.get (i := 0) rfl).here
      have htn := aturns_any (HSR.out.get (i := 0) rfl).here
      unfold stV at hst
      have HSA := hid hst
      clear hst
      go_wp2_with fail
      refine htn.mono ?_
      clear htn
      rintro e w4 ⟨rfl, rfl⟩
      have hfd : ∀ (p a0 a1 a2 a3 a4 a5 : Int) (f : Bool) w, (Instr.field 40 (.agg #[.int .i64 p, .int .i64 a0, .int .i64 a1, .int .i64 a2, .int .i64 a3, .int .i64 a4, .int .i64 a5, .bool f]) 1).run Tryd.prog w = .ok (.agg #[.int .i64 a0, .int .i64 a1, .int .i64 a2, .int .i64 a3, .int .i64 a4, .int .i64 a5]) w := fun p a0 a1 a2 a3 a4 a5 f w => by kernel_rfl
      have hix : ∀ (a0 a1 a2 a3 a4 a5 : Int) w, (Instr.index 38 (.agg #[.int .i64 a0, .int .i64 a1, .int .i64 a2, .int .i64 a3, .int .i64 a4, .int .i64 a5]) (.int .i64 0)).run Tryd.prog w = .ok (.int .i64 a0) w := fun a0 a1 a2 a3 a4 a5 w => by kernel_rfl
      have hc0 : (cA i).st.c0 = ((i / 2 : Nat) : Int) := rfl
      rw [hc0] at HSA
      obtain ⟨q, hq⟩ : ∃ q : Nat, q = i / 2 := ⟨_, rfl⟩
      rw [← hq] at hd hd2 HSA
      generalize (cA i).st = s at HSA
      obtain ⟨sp, s0, s1, s2, s3, s4, s5, sf⟩ := s
      simp only [] at HSA
      clear hc0 hq
      go_wp2_with fail
      refine HSA.out.mono ?_
      rintro e w5 ⟨rfl, hb5⟩
      have HB5 := hid (HSR.out.below.trans (hb5.mono HSR.out.below.size))
      clear hb5
      go_wp2_with fail
      go_ret
      exact ⟨rfl, HB5.out⟩
end Go.Proofs.YtongkiccglaniaaDoor
