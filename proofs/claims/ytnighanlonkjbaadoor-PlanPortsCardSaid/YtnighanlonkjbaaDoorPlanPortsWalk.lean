/- The walk of framelaw4.PlanPorts: it returns true at every input. -/
import Derived.Test.YtnighanlonkjbaaDoorPlanW2
import Derived.Test.YtnighanlonkjbaaDoorPlanMem
import Derived.Test.YtnighanlonkjbaaDoorPlanPortsLaw
import Derived.Test.YtnighanlonkjbaaDoorTold
namespace Go.Proofs.YtnighanlonkjbaaDoor
open Go.RowKit
set_option maxRecDepth 100000

/-- The plan of the statement as it lies. -/
def portsPM (x : Wire) (b c : Nat) : PM := ⟨some ⟨b + 1 + 1 + 1, 0, none⟩, 2, [⟨some ⟨b + 1, 0, none⟩, 1, [⟨10, 0, 0⟩]⟩, ⟨some ⟨b + 1 + 1, 0, none⟩, 1, [⟨8, 0, 0⟩]⟩], 1, none, 0, [], some ⟨c, 0, none⟩, 1, [x]⟩
theorem sl_block {w : World} {b t : Nat} {cs : Array Value} (h : w.heap[b]? = some (.cells cs t (0, 0))) (sz n : Nat) (hn : cs.toList.length = n * sz) : Sl w (some ⟨b, 0, none⟩) sz n cs.toList := by
  refine ⟨hn, fun _ => ⟨b, 0, rfl, blk_lt h, fun j u hu => ?_⟩⟩
  rw [Nat.zero_add, blk_cell h]
  simpa using hu
theorem one_slW (b n : Nat) (hn : n ≤ 100) : SlW (some ⟨b, 0, none⟩) n n := ⟨Nat.le_refl _, by unfold maxLen; omega, fun h => by cases h⟩
theorem fits_small {a : Int} (h : -100 ≤ a ∧ a ≤ 100) : Fits a := ⟨by omega, by omega⟩
theorem ports_plan {w : World} {b c : Nat} {x : Wire} (hx : x.Ok)
    (h1 : w.heap[b + 1]? = some (.cells #[.int .i64 10, .int .i64 0, .int .i64 0] 27 (0, 0))) (h2 : w.heap[b + 1 + 1]? = some (.cells #[.int .i64 8, .int .i64 0, .int .i64 0] 27 (0, 0)))
    (h3 : w.heap[b + 1 + 1 + 1]? = some (.cells #[.slice (some ⟨b + 1, 0, none⟩) 1 1, .slice (some ⟨b + 1 + 1, 0, none⟩) 1 1] 22 (0, 0)))
    (h4 : w.heap[c]? = some (.cells #[.int .i64 x.fr, .int .i64 x.to, .int .i64 x.kind, .int .i64 x.deep] 44 (0, 0))) : PlanAt w (portsPM x b c) := by
  refine ⟨sl_block h3 1 2 rfl, one_slW _ 2 (by omega), fun r hr => ?_, fits_small (by simp [portsPM]), Sl.nil _ _ _, ⟨Nat.le_refl _, Nat.zero_le _, fun _ => ⟨rfl, rfl⟩⟩, fun y hy => by simp [portsPM] at hy, sl_block h4 4 1 rfl, one_slW _ 1 (by omega), fun y hy => ?_⟩
  · simp [portsPM] at hr
    rcases hr with rfl | rfl
    · refine ⟨sl_block h1 3 1 rfl, one_slW _ 1 (by omega), fun o ho => ?_⟩
      simp at ho; subst ho
      exact ⟨fits_small (by simp), fits_small (by simp), fits_small (by simp)⟩
    · refine ⟨sl_block h2 3 1 rfl, one_slW _ 1 (by omega), fun o ho => ?_⟩
      simp at ho; subst ho
      exact ⟨fits_small (by simp), fits_small (by simp), fits_small (by simp)⟩
  · simp [portsPM] at hy; subst hy; exact hx

set_option maxHeartbeats 2000000 in
theorem planPorts_walk {w : World} (hg : Handle w) (hf : Forms w) (kind deep : Int) (hk : Fits kind) (hd : Fits deep) : Calls Tryd.prog 7 #[.int .i64 kind, .int .i64 deep] w fun e w' => e = .returned (.bool true) ∧ Below w.heap.size w w' := by
  have HG := hid hg
  have HF := hid hf
  have HK := hid hk
  have HD := hid hd
  clear hg hf hk hd
  go_enter Tryd.func7, Tryd.ntmps7
  go_upto_region 3 with fail
  obtain ⟨w1, hw1⟩ : ∃ w1, w1 = ((((((w.alloc (.cells #[.int .i64 0, .int .i64 1, .int .i64 kind, .int .i64 deep] 44)).alloc (.cells #[.int .i64 10, .int .i64 0, .int .i64 0] 27)).alloc (.cells #[.int .i64 8, .int .i64 0, .int .i64 0] 27)).alloc (.cells #[.slice (some ⟨w.heap.size + 1, 0, none⟩) 1 1, .slice (some ⟨w.heap.size + 1 + 1, 0, none⟩) 1 1] 22)).alloc (.cells #[.int .i64 0, .int .i64 1, .int .i64 kind, .int .i64 deep] 44)).alloc (.cells #[.slice (some ⟨w.heap.size + 1 + 1 + 1, 0, none⟩) 2 2, .int .i64 1, .slice none 0 0, .slice (some ⟨w.heap.size + 1 + 1 + 1 + 1, 0, none⟩) 1 1] 70)) := ⟨_, rfl⟩
  have h0 : w1.heap[w.heap.size]? = some (.cells #[.int .i64 0, .int .i64 1, .int .i64 kind, .int .i64 deep] 44 (0, 0)) := by
    rw [hw1]; simp only [hp_alloc, sz_alloc]; repeat (first | rw [if_pos True.intro] | rw [if_pos rfl] | rw [if_neg (by omega)])
  have h1 : w1.heap[w.heap.size + 1]? = some (.cells #[.int .i64 10, .int .i64 0, .int .i64 0] 27 (0, 0)) := by
    rw [hw1]; simp only [hp_alloc, sz_alloc]; repeat (first | rw [if_pos True.intro] | rw [if_pos rfl] | rw [if_neg (by omega)])
  have h2 : w1.heap[w.heap.size + 1 + 1]? = some (.cells #[.int .i64 8, .int .i64 0, .int .i64 0] 27 (0, 0)) := by
    rw [hw1]; simp only [hp_alloc, sz_alloc]; repeat (first | rw [if_pos True.intro] | rw [if_pos rfl] | rw [if_neg (by omega)])
  have h3 : w1.heap[w.heap.size + 1 + 1 + 1]? = some (.cells #[.slice (some ⟨w.heap.size + 1, 0, none⟩) 1 1, .slice (some ⟨w.heap.size + 1 + 1, 0, none⟩) 1 1] 22 (0, 0)) := by
    rw [hw1]; simp only [hp_alloc, sz_alloc]; repeat (first | rw [if_pos True.intro] | rw [if_pos rfl] | rw [if_neg (by omega)])
  have h4 : w1.heap[w.heap.size + 1 + 1 + 1 + 1]? = some (.cells #[.int .i64 0, .int .i64 1, .int .i64 kind, .int .i64 deep] 44 (0, 0)) := by
    rw [hw1]; simp only [hp_alloc, sz_alloc]; repeat (first | rw [if_pos True.intro] | rw [if_pos rfl] | rw [if_neg (by omega)])
  have h5 : w1.heap[w.heap.size + 1 + 1 + 1 + 1 + 1]? = some (.cells #[.slice (some ⟨w.heap.size + 1 + 1 + 1, 0, none⟩) 2 2, .int .i64 1, .slice none 0 0, .slice (some ⟨w.heap.size + 1 + 1 + 1 + 1, 0, none⟩) 1 1] 70 (0, 0)) := by
    rw [hw1]; simp only [hp_alloc, sz_alloc]; repeat (first | rw [if_pos True.intro] | rw [if_pos rfl] | rw [if_neg (by omega)])
  have hsz : w1.heap.size = w.heap.size + 1 + 1 + 1 + 1 + 1 + 1 := by rw [hw1]; simp only [sz_alloc]
  have hb1 : Below w.heap.size w w1 := by
    rw [hw1]; exact ((((((Below.refl _ _).alloc (by simp) _).alloc (by simp) _).alloc (by simp; omega) _).alloc (by simp; omega) _).alloc (by simp; omega) _).alloc (by simp; omega) _
  rw [← hw1]
  have HPA : Hid (∀ (w' : World) (x : Wire) (c : Nat), x.Ok → w'.heap[w.heap.size + 1]? = w1.heap[w.heap.size + 1]? → w'.heap[w.heap.size + 1 + 1]? = w1.heap[w.heap.size + 1 + 1]? → w'.heap[w.heap.size + 1 + 1 + 1]? = w1.heap[w.heap.size + 1 + 1 + 1]? → w'.heap[c]? = some (.cells #[.int .i64 x.fr, .int .i64 x.to, .int .i64 x.kind, .int .i64 x.deep] 44 (0, 0)) → Below w.heap.size w w' →
      Calls Tryd.prog 32 #[.agg #[.slice (some ⟨w.heap.size + 1 + 1 + 1, 0, none⟩) 2 2, .int .i64 1, .slice none 0 0, .slice (some ⟨c, 0, none⟩) 1 1]] w' fun e w'' => e = .returned (errV (planChk (portsPl x))) ∧ Below w'.heap.size w' w'') := fun w' x c hx e1 e2 e3 e4 hb =>
    plan_check (portsPM x w.heap.size c) w' (HF.out.new hb) (ports_plan hx (e1.trans h1) (e2.trans h2) (e3.trans h3) e4)
  have hx0 : (⟨0, 1, kind, deep⟩ : Wire).Ok := ⟨fits_small (by simp), fits_small (by simp), HK.out, HD.out⟩
  have HC1 := hid (HPA.out w1 ⟨0, 1, kind, deep⟩ _ hx0 rfl rfl rfl h4 hb1)
  have H0 := hid h0
  have H5 := hid h5
  have HB1 := hid hb1
  have HSZ := hid hsz
  have a0 := blk_cell h0 0
  have a1 := blk_cell h0 1
  have a2 := blk_cell h0 2
  have a3 := blk_cell h0 3
  have p0 := blk_cell h5 0
  have p1 := blk_cell h5 1
  have p2 := blk_cell h5 2
  have p3 := blk_cell h5 3
  simp at a0 a1 a2 a3 p0 p1 p2 p3
  have HWC : Hid (∀ w', Calls Tryd.prog 23 #[.agg #[.int .i64 0, .int .i64 1, .int .i64 kind, .int .i64 deep]] w' fun e w'' => e = .returned (errV (wireChk ⟨0, 1, kind, deep⟩)) ∧ Below w'.heap.size w' w'') := fun w' => wire_check 0 1 kind deep w'
  by_cases he : wireChk ⟨0, 1, kind, deep⟩ = 0
  · obtain ⟨e1, e2⟩ := ports_ok he
    rw [e1, errV_pos (by decide)] at HC1
    rw [he, errV_zero] at HWC
    have HER : Hid (∀ w', Below w.heap.size w w' → Calls Tryd.prog 20 #[.iface 119 (.int .i64 3), .int .i64 3] w' fun e w'' => e = .returned (.bool true) ∧ Below w'.heap.size w' w'') := fun w' hb => error_same 3 w' (HG.out.new hb)
    have HE2 := hid e2
    have H1 := hid h1
    have H2 := hid h2
    have H3 := hid h3
    clear hw1 h0 h1 h2 h3 h4 h5 hb1 he hx0 e1 e2
    go_upto_region 9 with (first | (go_at_call 32; refine (HC1.out).mono ?_; rintro e w2 ⟨rfl, hb2⟩; have hh0 := (hb2.block _ (blk_lt H0.out)).trans H0.out; clear a0 a1 a2 a3 p0 p1 p2 p3; have a0 := blk_cell hh0 0; have a1 := blk_cell hh0 1; have a2 := blk_cell hh0 2; have a3 := blk_cell hh0 3; simp at a0 a1 a2 a3; have HB2 := hid hb2; clear hb2 hh0) | (go_at_call 23; refine (HWC.out _).mono ?_; rintro e w3 ⟨rfl, hb3⟩; have HB3 := hid (HB2.out.trans (hb3.mono HB2.out.size)); have hh0 := (HB3.out.block _ (blk_lt H0.out)).trans H0.out; clear a0 a1 a2 a3; have a0 := blk_cell hh0 0; have a1 := blk_cell hh0 1; have a2 := blk_cell hh0 2; have a3 := blk_cell hh0 3; have af := fun j => blk_free hh0 j; have hh5 := (HB3.out.block _ (blk_lt H5.out)).trans H5.out; have p0 := blk_cell hh5 0; have p1 := blk_cell hh5 1; have p2 := blk_cell hh5 2; have p3 := blk_cell hh5 3; have pf := fun j => blk_free hh5 j; simp at a0 a1 a2 a3 p0 p1 p2 p3; have hlt0 := blk_lt hh0; have hlt5 := blk_lt hh5; have HH0 := hid hh0; have HH5 := hid hh5; clear hb3 hh0 hh5))
    obtain ⟨w4, hw4⟩ : ∃ w4, w4 = ((((w3.setCell ⟨w.heap.size, 0, none⟩ (.int .i64 1)).setCell ⟨w.heap.size, 1, none⟩ (.int .i64 0)).setCell ⟨w.heap.size + 1 + 1 + 1 + 1 + 1, 3, none⟩ (.slice (some ⟨w3.heap.size, 0, none⟩) 1 1)).alloc (.cells #[.int .i64 1, .int .i64 0, .int .i64 kind, .int .i64 deep] 44)) := ⟨_, rfl⟩
    have hs3 := HB3.out.size
    have hsz1 := HSZ.out
    have far : ∀ j, j < w1.heap.size → j ≠ w.heap.size → j ≠ w.heap.size + 1 + 1 + 1 + 1 + 1 → w4.heap[j]? = w1.heap[j]? := fun j h1 h2 h3 => by
      rw [hw4, blk_alloc (by rw [sz_set, sz_set, sz_set]; omega), hp_set, if_neg h3, hp_set, if_neg h2, hp_set, if_neg h2]
      exact HB3.out.block j h1
    have q1 := far (w.heap.size + 1) (by omega) (by omega) (by omega)
    have q2 := far (w.heap.size + 1 + 1) (by omega) (by omega) (by omega)
    have q3 := far (w.heap.size + 1 + 1 + 1) (by omega) (by omega) (by omega)
    have q4 : w4.heap[w3.heap.size]? = some (.cells #[.int .i64 1, .int .i64 0, .int .i64 kind, .int .i64 deep] 44 (0, 0)) := by
      rw [hw4, hp_alloc, if_pos (by rw [sz_set, sz_set, sz_set])]
    have q5 : w4.heap[w.heap.size + 1 + 1 + 1 + 1 + 1]? = some (.cells #[.slice (some ⟨w.heap.size + 1 + 1 + 1, 0, none⟩) 2 2, .int .i64 1, .slice none 0 0, .slice (some ⟨w3.heap.size, 0, none⟩) 1 1] 70 (0, 0)) := by
      rw [hw4, blk_alloc (by rw [sz_set, sz_set, sz_set]; omega), hp_set, if_pos rfl, hp_set, if_neg (by omega), hp_set, if_neg (by omega), HH5.out]
      rfl
    have hb4 : Below w.heap.size w w4 := by
      rw [hw4]
      have h3w : Below w.heap.size w w3 := HB1.out.trans (HB3.out.mono HB1.out.size)
      exact (((h3w.setCell (Nat.le_refl _) _).setCell (Nat.le_refl _) _).setCell (show w.heap.size ≤ w.heap.size + 1 + 1 + 1 + 1 + 1 by omega) _).alloc (by rw [sz_set, sz_set, sz_set]; omega) _
    rw [← hw4]
    obtain ⟨nb, hnb⟩ : ∃ nb, nb = w3.heap.size := ⟨_, rfl⟩
    rw [← hnb] at q4 q5 ⊢
    have HCK2 : Hid (∀ w5, Below w4.heap.size w4 w5 → Calls Tryd.prog 32 #[.agg #[.slice (some ⟨w.heap.size + 1 + 1 + 1, 0, none⟩) 2 2, .int .i64 1, .slice none 0 0, .slice (some ⟨nb, 0, none⟩) 1 1]] w5 fun e w'' => e = .returned .nilIface ∧ Below w5.heap.size w5 w'') := fun w5 hb => by
      have h := HPA.out w5 ⟨1, 0, kind, deep⟩ nb ⟨fits_small (by simp), fits_small (by simp), HK.out, HD.out⟩ ((hb.block _ (by have := blk_lt q5; omega)).trans q1) ((hb.block _ (by have := blk_lt q5; omega)).trans q2) ((hb.block _ (by have := blk_lt q5; omega)).trans q3) ((hb.block _ (blk_lt q4)).trans q4) (hb4.trans (hb.mono hb4.size))
      rw [HE2.out, errV_zero] at h
      exact h
    have HQ5 := hid q5
    have HB4 := hid hb4
    clear hw4 far q1 q2 q3 q4 q5 hb4 hs3 hsz1 hnb a0 a1 a2 a3 p0 p1 p2 p3 af pf hlt0 hlt5 HPA HC1 HWC HH0 HH5
    go_wp2_with (first | (go_at_call 20; refine (HER.out _ HB4.out).mono ?_; rintro e w5 ⟨rfl, hb5⟩; have hh5 := (hb5.block _ (blk_lt HQ5.out)).trans HQ5.out; have p0 := blk_cell hh5 0; have p1 := blk_cell hh5 1; have p2 := blk_cell hh5 2; have p3 := blk_cell hh5 3; simp at p0 p1 p2 p3; have HB5 := hid hb5; clear hb5 hh5) | (go_at_call 32; refine (HCK2.out _ HB5.out).mono ?_; rintro e w6 ⟨rfl, hb6⟩))
    go_ret
    exact ⟨rfl, (HB4.out.trans (HB5.out.mono HB4.out.size)).trans (hb6.mono (by have := HB4.out.size; have := HB5.out.size; omega))⟩
  · rw [ports_bad he, errV_pos he] at HC1
    rw [errV_pos he] at HWC
    have hwlt : w.heap.size + 1 + 1 + 1 + 1 + 1 + 1 = w1.heap.size := hsz.symm
    clear hw1 h0 h1 h2 h3 h4 h5 hsz hb1 he hx0 HPA
    go_wp2_with (first | (go_at_call 32; refine (HC1.out).mono ?_; rintro e w2 ⟨rfl, hb2⟩; have hh0 := (hb2.block _ (blk_lt H0.out)).trans H0.out; clear a0 a1 a2 a3 p0 p1 p2 p3; have a0 := blk_cell hh0 0; have a1 := blk_cell hh0 1; have a2 := blk_cell hh0 2; have a3 := blk_cell hh0 3; simp at a0 a1 a2 a3; have HB2 := hid (HB1.out.trans (hb2.mono HB1.out.size)); clear hb2 hh0) | (go_at_call 23; refine (HWC.out _).mono ?_; rintro e w3 ⟨rfl, hb3⟩))
    go_ret
    exact ⟨rfl, HB2.out.trans (hb3.mono HB2.out.size)⟩
end Go.Proofs.YtnighanlonkjbaaDoor
