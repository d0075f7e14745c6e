/- Package frameref2: the contract of States, for every plan that is right. -/
import Derived.Test.YtongkiccglaniaaDoorRKern
import Derived.Test.YtongkiccglaniaaDoorSightW
import Derived.Deep.DeepCutAuto
namespace Go.Proofs.YtongkiccglaniaaDoor
open Go.RowKit
set_option maxRecDepth 100000
attribute [local go_sem ↓] Go.wp_at_zero Go.wp_at_succ

theorem sl_state1 {w3 : World} (s : St) : Sl (w3.alloc (.cells #[.int .i64 s.pc, .int .i64 s.c0, .int .i64 s.c1, .int .i64 s.c2, .int .i64 s.c3, .int .i64 s.c4, .int .i64 s.c5, .bool s.failed] 40)) (some ⟨w3.heap.size, 0, none⟩) 8 1 s.cells := by
  have h := heap_alloc_new w3 (.cells #[.int .i64 s.pc, .int .i64 s.c0, .int .i64 s.c1, .int .i64 s.c2, .int .i64 s.c3, .int .i64 s.c4, .int .i64 s.c5, .bool s.failed] 40)
  refine ⟨rfl, fun _ => ⟨_, 0, rfl, blk_lt h, fun j u hu => ?_⟩⟩
  rw [Nat.zero_add, blk_cell h]
  simpa [St.cells] using hu
theorem row_state1 {w3 : World} (s : St) : Row (w3.alloc (.cells #[.int .i64 s.pc, .int .i64 s.c0, .int .i64 s.c1, .int .i64 s.c2, .int .i64 s.c3, .int .i64 s.c4, .int .i64 s.c5, .bool s.failed] 40)) 40 8 (some ⟨w3.heap.size, 0, none⟩) 1 1 s.cells := by
  have h := heap_alloc_new w3 (.cells #[.int .i64 s.pc, .int .i64 s.c0, .int .i64 s.c1, .int .i64 s.c2, .int .i64 s.c3, .int .i64 s.c4, .int .i64 s.c5, .bool s.failed] 40)
  refine ⟨rfl, .inr ⟨_, 0, _, rfl, h, Nat.le_refl _, by unfold maxLen; omega, Nat.le_refl _, fun j u hu => ?_⟩⟩
  rw [Nat.zero_add]
  simpa [St.cells] using hu

def RStates (w : World) (p : Pl) (r n : Nat) (e : Ending) (w' : World) : Prop :=
  ∃ A c, e = .returned (.slice A (n + 1) c) ∧ Row w' 40 8 A (n + 1) c ((statesTo p r (n + 1)).flatMap St.cells) ∧ Below w.heap.size w w'
/-- The head of a round: so many ticks on, one state more. -/
structure RStAt (w wr : World) (kb : Nat) (p : Pl) (r t : Nat) (M : KM) (A : Option Addr) (c : Nat) : Prop where
  grow : Grow w wr 40 8 A (t + 1) c ((statesTo p r (t + 1)).flatMap St.cells)
  run : RRun w wr kb p M (runK p t)
  old : ∀ j, planF M.P j → j < w.heap.size
  apart : ∀ j, InA A j → ¬ TF kb M j
section
variable {w wr w3 w4 : World} {kb : Nat} {p : Pl} {r t c c' : Nat} {M M' : KM} {A A' : Option Addr}
theorem RStAt.next (h : RStAt w wr kb p r t M A c) (h1 : RRun w w3 kb p M' (runK p (t + 1))) (h2 : Keep (KF kb M) wr w3) (h3 : ∀ j, TF kb M' j → TF kb M j ∨ wr.heap.size ≤ j) (h4 : M'.P = M.P)
    {o : Obj} (hr : Row w4 40 8 A' (t + 1 + 1) c' ((statesTo p r (t + 1)).flatMap St.cells ++ (stAtT p r (t + 1)).cells)) (hk : Keep (InA A) (w3.alloc o) w4) (hn : ∀ j, InA A' j → InA A j ∨ w3.heap.size + 1 ≤ j) : RStAt w w4 kb p r (t + 1) M' A' c' := by
  have s0 := h.grow.below.size
  have s2 := h2.size
  have hlt := h1.kat.lt
  have hlr := h.grow.row.lt
  have hA : ∀ j, InA A j → ¬ TF kb M' j := fun j hj hf => (h3 j hf).elim (h.apart j hj) fun h5 => by have := hlr j hj; omega
  have hb4 : Below w.heap.size w w4 := Keep.below (F := NoF) ((Keep.of_below NoF (h1.below.alloc h1.below.size o)).then hk fun j hj hA => by have := h.grow.fresh j hA; omega) (Nat.le_refl _) (fun j h => h.elim)
  have hnew : RRun w (w3.alloc o) kb p M' (runK p (t + 1)) := h1.new ((Below.refl _ _).alloc (Nat.le_refl _) _)
  refine ⟨⟨?_, fun j hj => ?_, hb4⟩, ⟨hnew.kat.through hk fun j hj hf => hA j hf hj, h1.plan, h1.fresh, hb4⟩, by rw [h4]; exact h.old, fun j hj hf => ?_⟩
  · show Row _ _ _ _ _ _ ((statesTo p r (t + 1) ++ [stAtT p r (t + 1)]).flatMap St.cells)
    rw [List.flatMap_append, List.flatMap_cons, List.flatMap_nil, List.append_nil]; exact hr
  · rcases hn j hj with h5 | h5
    · exact h.grow.fresh j h5
    · omega
  · rcases hn j hj with h5 | h5
    · exact hA j h5 hf
    · have := hlt j hf; omega
end
set_option maxHeartbeats 4000000 in
theorem rstates_any (w : World) (m : PM) (n r : Nat) (hm : PlanAt w m) (he : planChk m.pl = 0) (hn : n ≤ 2000) (hr : r < m.ros.length) :
    Calls Tryd.prog 47 #[.agg #[.slice m.A m.ros.length m.c, .int .i64 m.ticks, .slice m.sA m.spans.length m.sc, .slice m.wA m.wires.length m.wc], .int .i64 n, .int .i64 r] w (RStates w m.pl r n) := by
  have HP := hid (planChk_ok he)
  have HM := hid hm
  obtain ⟨wa, hwa⟩ : ∃ wa, wa = w.alloc (.cells #[.slice m.A m.ros.length m.c, .int .i64 m.ticks, .slice m.sA m.spans.length m.sc, .slice m.wA m.wires.length m.wc] 31) := ⟨_, rfl⟩
  have hba : Below w.heap.size w wa := by rw [hwa]; exact (Below.refl _ _).alloc (Nat.le_refl _) _
  have hbx : wa.heap[w.heap.size]? = some (.cells #[.slice m.A m.ros.length m.c, .int .i64 m.ticks, .slice m.sA m.spans.length m.sc, .slice m.wA m.wires.length m.wc] 31 (0, 0)) := by rw [hwa]; exact heap_alloc_new w _
  have HBA := hid hba
  have HNEW := hid (rnew_run wa m (hm.new hba) he)
  have HRN : Hid (∀ t, (runK m.pl t).rooms.length = m.ros.length) := fun t => by rw [(runK_ok HP.out t).rooms]; simp [PM.pl]
  have HKOK : Hid (∀ t, KOk m.pl (runK m.pl t) t) := fun t => runK_ok HP.out t
  have hnr5 : m.ros.length ≤ 5 := by have := (planChk_ok he).most5; simpa [PM.pl] using this
  have x0 := blk_cell hbx 0
  have x1 := blk_cell hbx 1
  have x2 := blk_cell hbx 2
  have x3 := blk_cell hbx 3
  have hlt := blk_lt hbx
  simp at x0 x1 x2 x3
  obtain ⟨nn, hnn⟩ : ∃ nn, nn = m.ros.length := ⟨_, rfl⟩
  obtain ⟨ns, hns⟩ : ∃ ns, ns = m.spans.length := ⟨_, rfl⟩
  obtain ⟨nw, hnw⟩ : ∃ nw, nw = m.wires.length := ⟨_, rfl⟩
  rw [← hnn] at HRN hr hnr5 hwa x0
  rw [← hns] at hwa x2
  rw [← hnw] at hwa x3
  rw [← hnn, ← hns, ← hnw] at HNEW ⊢
  clear hba hbx he hm hnn hns hnw
  obtain ⟨i0, hi, hz0, hz1, hz2⟩ := info_parts Tryd.infoSt
  go_enter Tryd.func47, Tryd.ntmps47
  go_wp2_with fail
  rw [← hwa]
  go_wp2_with fail
  refine HNEW.out.mono ?_
  clear x0 x1 x2 x3 hlt HNEW hwa
  rintro e w1 ⟨kb, M, rfl, hrun, hMP⟩
  have HR1 : Hid (RRun w w1 kb m.pl M (runK m.pl 0)) := hrun.base HBA.out
  have HOLD : Hid (∀ j, planF M.P j → j < w.heap.size) := fun j hj => by rw [hMP] at hj; exact HM.out.lt j hj
  have hst : ∀ (W : World) (k0 : Nat) (N : KM) (t : Nat), RRun w W k0 m.pl N (runK m.pl t) → ∃ rb roff, N.rA = some ⟨rb, roff, none⟩ ∧ StIn W rb (roff + r * 8) (stAtT m.pl r t) ∧ rb < W.heap.size ∧ W.cell? ⟨k0, 4, none⟩ = some (.slice (some ⟨rb, roff, none⟩) nn N.rc) ∧ nn ≤ N.rc ∧ N.rc ≤ maxLen ∧ k0 < W.heap.size := fun W k0 N t h => by
    have hg : (runK m.pl t).rooms[r]? = some (stAtT m.pl r t) := by
      unfold stAtT
      rw [List.getD_eq_getElem?_getD, List.getElem?_eq_getElem (by rw [HRN.out]; exact hr)]; rfl
    obtain ⟨rb, roff, hrA, hs, _, hrb, _, hl, hc, hmx⟩ := h.kat.room hg
    obtain ⟨_, _, _, k4, _, _, _, hk⟩ := h.kat.cells
    rw [hrA, HRN.out] at k4
    rw [HRN.out] at hc
    exact ⟨rb, roff, hrA, hs, hrb, k4, hc, hmx, hk⟩
  have HST := hid hst
  clear hrun hMP hst
  obtain ⟨rb, roff, hrA, ⟨y0, y1, y2, y3, y4, y5, y6, y7⟩, hrb, k4, hrc, hrm, hkb⟩ := HST.out _ _ _ _ HR1.out
  unfold maxLen at hrm
  have hgrow : ∀ o : St, o = stAtT m.pl r 0 → RStAt w (w1.alloc (.cells #[.int .i64 o.pc, .int .i64 o.c0, .int .i64 o.c1, .int .i64 o.c2, .int .i64 o.c3, .int .i64 o.c4, .int .i64 o.c5, .bool o.failed] 40)) kb m.pl r 0 M (some ⟨w1.heap.size, 0, none⟩) 1 := fun o ho => by
    have hsz := HR1.out.below.size
    have hn := HR1.out.new ((Below.refl _ _).alloc (Nat.le_refl _) (.cells #[.int .i64 o.pc, .int .i64 o.c0, .int .i64 o.c1, .int .i64 o.c2, .int .i64 o.c3, .int .i64 o.c4, .int .i64 o.c5, .bool o.failed] 40))
    have hrow := row_state1 (w3 := w1) o
    refine ⟨⟨?_, fun j hj => ?_, hn.below⟩, hn, HOLD.out, fun j hj hf => ?_⟩
    · show Row _ _ _ _ _ _ ((statesTo m.pl r 0 ++ [stAtT m.pl r 0]).flatMap St.cells)
      rw [← ho]
      simpa [statesTo] using hrow
    · simp [InA] at hj; omega
    · simp [InA] at hj
      have := HR1.out.kat.lt j hf
      omega
  have HG := hid hgrow
  clear hgrow
  generalize stAtT m.pl r 0 = s at y0 y1 y2 y3 y4 y5 y6 y7 HG
  obtain ⟨pc, c0, c1, c2, c3, c4, c5, f⟩ := s
  have HG1 := hid (HG.out ⟨pc, c0, c1, c2, c3, c4, c5, f⟩ rfl)
  simp only [] at y0 y1 y2 y3 y4 y5 y6 y7 HG1
  clear HG hrA
  go_upto_region 3 with fail
  clear y0 y1 y2 y3 y4 y5 y6 y7 hrb k4 hrc hrm hkb
  go_wp2_with fail
  go_loopw [9, 8] (fun v9 v8 wr => ∃ (t : Nat) (M : KM) (A : Option Addr) (c : Nat), t ≤ n ∧ v9 = .int .i64 t ∧ v8 = .slice A (t + 1 : Nat) c ∧ RStAt w wr kb m.pl r t M A c) (fun v9 _ _ => n - (intOf v9).toNat)
  case atStart => exact ⟨0, M, _, 1, by omega, rfl, rfl, HG1.out⟩
  case round =>
    obtain ⟨wt, rfl⟩ : ∃ wt : World, wt = wr := ⟨_, rfl⟩
    clear HR1 HOLD HG1
    obtain ⟨t, M, A, c, ht, rfl, rfl, hat⟩ := hrel
    have HAT := hid hat
    clear hat
    by_cases htn : t < n
    · have htk := rtick_run HAT.out.run HP.out (HKOK.out t) (by omega)
      obtain ⟨q, hq⟩ : ∃ q, q = tick m.pl (runK m.pl t) := ⟨_, rfl⟩
      have hq2 : q.2 = runK m.pl (t + 1) := by rw [hq]; rfl
      rw [← hq] at htk
      have HQ := hid hq2
      clear hq hq2
      go_wp2_with fail
      refine htk.mono ?_
      clear htk
      rintro e w3 ⟨M', rfl, h1, h2, h3, h4⟩
      rw [HQ.out] at h1
      have H1 := hid h1
      have H2 := hid h2
      have H3 := hid h3
      have H4 := hid h4
      clear h1 h2 h3 h4
      obtain ⟨rb, roff, hrA, ⟨y0, y1, y2, y3, y4, y5, y6, y7⟩, hrb, k4, hrc, hrm, hkb⟩ := HST.out _ _ _ _ H1.out
      unfold maxLen at hrm
      have HNX : Hid (∀ o w4 A' c', Row w4 40 8 A' (t + 1 + 1) c' ((statesTo m.pl r (t + 1)).flatMap St.cells ++ (stAtT m.pl r (t + 1)).cells) → Keep (InA A) (w3.alloc o) w4 → (∀ j, InA A' j → InA A j ∨ w3.heap.size + 1 ≤ j) → RStAt w w4 kb m.pl r (t + 1) M' A' c') := fun o w4 A' c' hr hk hn => HAT.out.next H1.out H2.out H3.out H4.out hr hk hn
      have HROW := hid ((HAT.out.grow.row.through H2.out fun j hj hf => HAT.out.apart j hj (.inl hf)))
      generalize stAtT m.pl r (t + 1) = s at y0 y1 y2 y3 y4 y5 y6 y7 HNX
      obtain ⟨pc, c0, c1, c2, c3, c4, c5, f⟩ := s
      simp only [] at y0 y1 y2 y3 y4 y5 y6 y7
      clear hrA HAT
      go_wp2_with (at_builtin; refine wpList_append_row _ rfl _ _ 80 rfl 40 i0 _ 8 64 Tryd.underlying80 hi hz0 hz1 hz2 rfl (by decide) A (t + 1) c ((statesTo m.pl r (t + 1)).flatMap St.cells) rfl ?c0 (some ⟨w3.heap.size, 0, none⟩) 1 1 (St.cells ⟨pc, c0, c1, c2, c3, c4, c5, f⟩) rfl ?c1 ?c2 ?c3 ?c4 ?_)
      case c0 => exact HROW.out.alloc _
      case c1 => exact sl_state1 _
      case c2 => exact one_state _
      case c3 => unfold maxLen; omega
      case c4 => omega
      intro A' cap' w4 hrow4 hkeep4 hin4
      have HN := hid (HNX.out _ w4 A' cap' hrow4 hkeep4 hin4)
      clear hrow4 hkeep4 hin4 y0 y1 y2 y3 y4 y5 y6 y7 k4 HNX HROW
      go_wp2_with fail
      go_roundw
      case rel => exact ⟨t + 1, M', A', cap', by omega, by go_num, by go_num, HN.out⟩
      case measure => simp [intOf]; omega
    · obtain rfl : t = n := by omega
      go_wp2_with fail
      go_ret
      exact ⟨A, c, rfl, HAT.out.grow.row, HAT.out.grow.below⟩
end Go.Proofs.YtongkiccglaniaaDoor
