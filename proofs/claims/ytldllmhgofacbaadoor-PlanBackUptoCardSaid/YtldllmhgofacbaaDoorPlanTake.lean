/- Package plan: the contract of take, for a span and for a wire. Conditions: none. -/
import Derived.Test.YtldllmhgofacbaaDoorPlanRd
import Derived.Deep.RegionHeld3
namespace Go.Proofs.YtldllmhgofacbaaDoor
open Go.RowKit
set_option maxRecDepth 100000

section
variable {base b : Nat} {w : World} {m : PM}
theorem Tryd.infoRdSpan : (Tryd.prog.info? 53).map (fun i => (i.zero, i.size, i.bytes)) = some (some (.agg #[.int .i64 0, .int .i64 0, .int .i64 0]), 3, 24) := by kernel_rfl
set_option maxHeartbeats 4000000 in
theorem take_span (h : RdAt base w b m 1 true) (hfew : m.spans.length ≤ 1073741824) {A : Option Addr} {c N0 N1 N2 : Nat} (hn : Row w 3 1 A 3 c (ints ([N0, N1, N2].map Int.ofNat))) :
    Calls Tryd.prog 28 #[.pointer (some ⟨b, 0, none⟩), .slice A 3 c] w fun e w' => ∃ m' : PM, m'.pl = (⟨m.pl.code, m.pl.ticks, m.pl.spans ++ [⟨(N0 : Nat), (N1 : Nat), (N2 : Nat)⟩], m.pl.wires⟩ : Pl) ∧ e = .returned (.tuple #[]) ∧ RdAt base w' b m' 1 true ∧ Keep (rdF m b) w w' := by
  obtain ⟨nb, no, rfl, hnl, gx⟩ := nums_four hn.sl (by decide)
  have hna : ¬ InA m.sA nb := fun hj => hn.apart2 h.spans (by decide) nb rfl hj
  have hnb : nb ≠ b := fun e => hn.apart h.blk (by decide) (by rw [e]; rfl)
  obtain ⟨i0, hi0, hz0, hz1, hz2⟩ := info_parts Tryd.infoRdSpan
  have g0 := gx 0 N0 rfl
  have g1 := gx 1 N1 rfl
  have g2 := gx 2 N2 rfl
  rw [Nat.add_zero] at g0
  have hblk := h.blk
  unfold rdCells at hblk
  have x2 := blk_cell hblk 2
  have x4 := blk_cell hblk 4
  have xf := fun o => blk_free hblk o
  have hl := blk_lt hblk
  simp at x2 x4
  have hl2 := h.low
  obtain ⟨q, hq⟩ : ∃ q, q = m.spans.length := ⟨_, rfl⟩
  have hrow := h.spans
  rw [← hq] at x2 hrow hfew
  obtain ⟨wd, hwd⟩ : ∃ wd, wd = (w.alloc (.cells #[.int .i64 N0, .int .i64 N1, .int .i64 N2] 53)).drew := ⟨_, rfl⟩
  have hrd : Row wd 53 3 m.sA q m.sc (m.spans.flatMap Span.cells) := by rw [hwd]; exact hrow.alloc _
  have hsd : Sl wd (some ⟨w.heap.size, 0, none⟩) 3 1 [.int .i64 N0, .int .i64 N1, .int .i64 N2] := by rw [hwd]; exact sl_blk (heap_alloc_new w _) 3 1 _ rfl rfl
  have hkd : Keep NoF w wd := by rw [hwd]; exact ((Keep.refl _ _).alloc _).drew
  have hfr : ∀ j, InA m.sA j → base ≤ j := fun j hj => h.fresh j (.inr (.inl hj))
  have H := hid h
  have HQ := hid hq
  have HKD := hid hkd
  have HRD := hid hrd
  have HSD := hid hsd
  have HFR := hid hfr
  have HBL : Hid (∀ w4, Keep (InA m.sA) wd w4 → w4.heap[b]? = w.heap[b]? ∧ b < w4.heap.size) := hid fun w4 hk => by
    have h1 := hkd.size
    exact ⟨(hk.block b (by omega) fun hj => by have := hfr b hj; omega).trans (hkd.block b hl fun hj => hj.elim), by have := hk.size; omega⟩
  have FIN : Hid (∀ A' c' w4, Row w4 53 3 A' (q + 1) c' (m.spans.flatMap Span.cells ++ [.int .i64 N0, .int .i64 N1, .int .i64 N2]) → Keep (InA m.sA) wd w4 → (∀ j, InA A' j → InA m.sA j ∨ wd.heap.size ≤ j) →
      ∃ m' : PM, m'.pl = (⟨m.pl.code, m.pl.ticks, m.pl.spans ++ [⟨(N0 : Nat), (N1 : Nat), (N2 : Nat)⟩], m.pl.wires⟩ : Pl) ∧ RdAt base (w4.setCell ⟨b, 2, none⟩ (.slice A' (q + 1) c')) b m' 1 true ∧ Keep (rdF m b) w (w4.setCell ⟨b, 2, none⟩ (.slice A' (q + 1) c'))) := hid fun A' c' w4 hr4 hk4 hn4 => by
    have h1 := hkd.size
    have hbig := h.big
    have hkw : Keep (InA m.sA) w w4 := (hkd.mono (G := InA m.sA) fun j _ hj => hj.elim).then hk4 fun _ _ hj => hj
    have far : ∀ j, j ≠ b → (w4.setCell ⟨b, 2, none⟩ (.slice A' (q + 1) c')).heap[j]? = w4.heap[j]? := fun j hj => blk_far (p := ⟨b, 2, none⟩) (by simp; omega) _
    have hb4 : w4.heap[b]? = _ := (HBL.out w4 hk4).1.trans hblk
    have fresh' : ∀ j, InA A' j → base ≤ j := fun j hj => (hn4 j hj).elim (fun h => hfr j h) fun h => by omega
    refine ⟨⟨m.A, m.c, m.ros, m.ticks, A', c', m.spans ++ [⟨(N0 : Nat), (N1 : Nat), (N2 : Nat)⟩], m.wA, m.wc, m.wires⟩, rfl, ⟨?_, ?_, fun r hr => ?_, h.apart, ?_, ?_, ?_, h.freshC, hl2, ?_⟩, ?_⟩
    · refine (blk_set hb4 2 _).trans ?_
      unfold rdCells
      simp only [List.length_append, List.length_singleton, ← hq]
      rfl
    · refine ((h.rows.through hkw fun j hj hg => (h.rows.apart2 h.spans (by decide)) j hj hg)).keep fun j hj _ => far j (by have := h.fresh j (.inl hj); omega)
    · refine ((h.codes r hr).through hkw fun j hj hg => ((h.codes r hr).apart2 h.spans (by decide)) j hj hg).keep fun j hj _ => far j (by have := h.freshC r hr j hj; omega)
    · have e : (m.spans ++ [(⟨(N0 : Nat), (N1 : Nat), (N2 : Nat)⟩ : Span)]).flatMap Span.cells = m.spans.flatMap Span.cells ++ [.int .i64 N0, .int .i64 N1, .int .i64 N2] := by rw [List.flatMap_append]; rfl
      simp only [List.length_append, List.length_singleton, ← hq]
      rw [e]
      exact hr4.keep fun j hj _ => far j (by have := fresh' j hj; omega)
    · refine (h.wires.through hkw fun j hj hg => (h.wires.apart2 h.spans (by decide)) j hj hg).keep fun j hj _ => far j (by have := h.fresh j (.inr (.inr hj)); omega)
    · rintro j (hj | hj | hj)
      · exact h.fresh j (.inl hj)
      · exact fresh' j hj
      · exact h.fresh j (.inr (.inr hj))
    · rw [sz_set]; have := hkw.size; omega
    · exact (hkw.mono (G := rdF m b) fun j _ hj => .inr (.inr (.inl hj))).setCell (.inl (.inl rfl)) _
  have HNA := hid hna
  have HS4 : Hid (∀ w4, Keep (InA m.sA) wd w4 → w4.cell? ⟨nb, no, none⟩ = some (.int .i64 N0) ∧ w4.cell? ⟨nb, no + 1, none⟩ = some (.int .i64 N1) ∧ w4.cell? ⟨nb, no + 2, none⟩ = some (.int .i64 N2)) := hid fun w4 hk => by
    have q : ∀ o, w4.cell? ⟨nb, o, none⟩ = w.cell? ⟨nb, o, none⟩ := fun o => (hk.cell (Nat.lt_of_lt_of_le hnl hkd.size) hna).trans (hkd.cell hnl fun hj => hj.elim)
    exact ⟨(q _).trans g0, (q _).trans g1, (q _).trans g2⟩
  have HSA : Hid (wd.cell? ⟨nb, no, none⟩ = some (.int .i64 N0) ∧ wd.cell? ⟨nb, no + 1, none⟩ = some (.int .i64 N1) ∧ wd.cell? ⟨nb, no + 2, none⟩ = some (.int .i64 N2)) := hid (by
    rw [hwd]
    have q : ∀ o, (w.alloc (.cells #[.int .i64 N0, .int .i64 N1, .int .i64 N2] 53)).drew.cell? ⟨nb, o, none⟩ = w.cell? ⟨nb, o, none⟩ := fun o => World.cell?_alloc_lt w _ ⟨nb, o, none⟩ hnl
    exact ⟨(q _).trans g0, (q _).trans g1, (q _).trans g2⟩)
  have HSS : Hid (∀ (w4 : World) (v : Value), w4.cell? ⟨nb, no, none⟩ = some (.int .i64 N0) ∧ w4.cell? ⟨nb, no + 1, none⟩ = some (.int .i64 N1) ∧ w4.cell? ⟨nb, no + 2, none⟩ = some (.int .i64 N2) → (w4.setCell ⟨b, 2, none⟩ v).cell? ⟨nb, no, none⟩ = some (.int .i64 N0) ∧ (w4.setCell ⟨b, 2, none⟩ v).cell? ⟨nb, no + 1, none⟩ = some (.int .i64 N1) ∧ (w4.setCell ⟨b, 2, none⟩ v).cell? ⟨nb, no + 2, none⟩ = some (.int .i64 N2)) := hid fun w4 v h => by
    have q : ∀ o, (w4.setCell ⟨b, 2, none⟩ v).cell? ⟨nb, o, none⟩ = w4.cell? ⟨nb, o, none⟩ := fun o => World.cell?_of_block (blk_far (p := ⟨b, 2, none⟩) (fun e => hnb e) v)
    exact ⟨(q _).trans h.1, (q _).trans h.2.1, (q _).trans h.2.2⟩
  clear hblk hrow hrd hsd hkd hfr h hn gx hl2 hq hna
  go_enter Tryd.func28, Tryd.ntmps28
  go_upto_region 5 with fail
  refine wp_region_held_drew (S := (fun w' => w'.cell? ⟨nb, no, none⟩ = some (.int .i64 N0) ∧ w'.cell? ⟨nb, no + 1, none⟩ = some (.int .i64 N1) ∧ w'.cell? ⟨nb, no + 2, none⟩ = some (.int .i64 N2))) (by kernel_rfl) ?_ (fun hHeld => ?_)
  · exact ⟨g0, g1, g2⟩
  refine wpAnyH_take (i := 0) (v := ?v1) rfl (by kernel_rfl) (by kernel_rfl) (by kernel_rfl) (fun _ _ _ h => h) (Or.inl ⟨by rfl, ?hy1⟩) (by assumption) ?rest1
  case hy1 => (intro w hSw; (try dsimp only at hSw); (try simp only [List.getElem_toArray, List.getElem_cons_zero]); go_simp; (try with_reducible rfl))
  (try simp only [Act.put, List.getElem_toArray, List.getElem_cons_zero, List.setIfInBounds_toArray, List.set_cons_zero, List.set_cons_succ])
  refine wpAnyH_take (i := 1) (v := ?v2) rfl (by kernel_rfl) (by kernel_rfl) (by kernel_rfl) (fun _ _ _ h => h) (Or.inl ⟨by rfl, ?hy2⟩) (by assumption) ?rest2
  case hy2 => (intro w hSw; (try dsimp only at hSw); (try simp only [List.getElem_toArray, List.getElem_cons_zero, List.getElem_cons_succ]); go_simp; (try with_reducible rfl))
  (try simp only [Act.put, List.getElem_toArray, List.getElem_cons_zero, List.getElem_cons_succ, List.setIfInBounds_toArray, List.set_cons_zero, List.set_cons_succ])
  refine wpAnyH_take (i := 2) (v := ?v3) rfl (by kernel_rfl) (by kernel_rfl) (by kernel_rfl) (fun _ _ _ h => h) (Or.inl ⟨by rfl, ?hy3⟩) (by assumption) ?rest3
  case hy3 => (intro w hSw; (try dsimp only at hSw); (try simp only [List.getElem_toArray, List.getElem_cons_zero, List.getElem_cons_succ]); go_simp; (try with_reducible rfl))
  (try simp only [Act.put, List.getElem_toArray, List.getElem_cons_zero, List.getElem_cons_succ, List.setIfInBounds_toArray, List.set_cons_zero, List.set_cons_succ])
  refine wpAnyH_take (i := 3) (v := ?v4) rfl (by kernel_rfl) (by kernel_rfl) (by kernel_rfl) (fun _ _ _ h => h) (Or.inl ⟨by rfl, ?hy4⟩) (by assumption) ?rest4
  case hy4 => (intro w hSw; (try dsimp only at hSw); (try simp only [List.getElem_toArray, List.getElem_cons_zero, List.getElem_cons_succ]); go_simp; (try with_reducible rfl))
  (try simp only [Act.put, List.getElem_toArray, List.getElem_cons_zero, List.getElem_cons_succ, List.setIfInBounds_toArray, List.set_cons_zero, List.set_cons_succ])
  refine wpAnyH_take (i := 4) (v := ?v5) rfl (by kernel_rfl) (by kernel_rfl) (by kernel_rfl) (fun _ _ _ h => h) (Or.inl ⟨by rfl, ?hy5⟩) (by assumption) ?rest5
  case hy5 => (intro w hSw; (try dsimp only at hSw); (try simp only [List.getElem_toArray, List.getElem_cons_zero, List.getElem_cons_succ]); go_simp; (try with_reducible rfl))
  (try simp only [Act.put, List.getElem_toArray, List.getElem_cons_zero, List.getElem_cons_succ, List.setIfInBounds_toArray, List.set_cons_zero, List.set_cons_succ])
  refine wpAnyH_take (i := 6) (v := ?v6) rfl (by kernel_rfl) (by kernel_rfl) (by kernel_rfl) (fun _ _ _ h => h) (Or.inl ⟨by rfl, ?hy6⟩) (by assumption) ?rest6
  case hy6 => (intro w hSw; (try dsimp only at hSw); (try simp only [List.getElem_toArray, List.getElem_cons_zero, List.getElem_cons_succ]); go_simp; (try with_reducible rfl))
  (try simp only [Act.put, List.getElem_toArray, List.getElem_cons_zero, List.getElem_cons_succ, List.setIfInBounds_toArray, List.set_cons_zero, List.set_cons_succ])
  refine wpAnyH_take (i := 7) (v := ?v7) rfl (by kernel_rfl) (by kernel_rfl) (by kernel_rfl) (fun _ _ _ h => h) (Or.inl ⟨by rfl, ?hy7⟩) (by assumption) ?rest7
  case hy7 => (intro w hSw; (try dsimp only at hSw); (try simp only [List.getElem_toArray, List.getElem_cons_zero, List.getElem_cons_succ]); go_simp; (try with_reducible rfl))
  (try simp only [Act.put, List.getElem_toArray, List.getElem_cons_zero, List.getElem_cons_succ, List.setIfInBounds_toArray, List.set_cons_zero, List.set_cons_succ])
  refine wpAnyH_take (i := 8) (v := ?v8) rfl (by kernel_rfl) (by kernel_rfl) (by kernel_rfl) (fun _ _ _ h => h) (Or.inl ⟨by rfl, ?hy8⟩) (by assumption) ?rest8
  case hy8 => (intro w hSw; (try dsimp only at hSw); (try simp only [List.getElem_toArray, List.getElem_cons_zero, List.getElem_cons_succ]); go_simp; (try with_reducible rfl))
  (try simp only [Act.put, List.getElem_toArray, List.getElem_cons_zero, List.getElem_cons_succ, List.setIfInBounds_toArray, List.set_cons_zero, List.set_cons_succ])
  refine wpAnyH_take (i := 9) (v := ?v9) rfl (by kernel_rfl) (by kernel_rfl) (by kernel_rfl) (fun _ _ _ h => h) (Or.inl ⟨by rfl, ?hy9⟩) (by assumption) ?rest9
  case hy9 => (intro w hSw; (try dsimp only at hSw); (try simp only [List.getElem_toArray, List.getElem_cons_zero, List.getElem_cons_succ]); go_simp; (try with_reducible rfl))
  (try simp only [Act.put, List.getElem_toArray, List.getElem_cons_zero, List.getElem_cons_succ, List.setIfInBounds_toArray, List.set_cons_zero, List.set_cons_succ])
  refine wpAnyH_take (i := 10) (v := ?v10) rfl (by kernel_rfl) (by kernel_rfl) (by kernel_rfl) (fun _ _ _ h => h) (Or.inl ⟨by rfl, ?hy10⟩) (by assumption) ?rest10
  case hy10 => (intro w hSw; (try dsimp only at hSw); (try simp only [List.getElem_toArray, List.getElem_cons_zero, List.getElem_cons_succ]); go_simp; (try with_reducible rfl))
  (try simp only [Act.put, List.getElem_toArray, List.getElem_cons_zero, List.getElem_cons_succ, List.setIfInBounds_toArray, List.set_cons_zero, List.set_cons_succ])
  refine wpAnyH_take (i := 11) (v := ?v11) rfl (by kernel_rfl) (by kernel_rfl) (by kernel_rfl) (fun _ _ _ h => h) (Or.inl ⟨by rfl, ?hy11⟩) (by assumption) ?rest11
  case hy11 => (intro w hSw; (try dsimp only at hSw); (try simp only [List.getElem_toArray, List.getElem_cons_zero, List.getElem_cons_succ]); go_simp; (try with_reducible rfl))
  (try simp only [Act.put, List.getElem_toArray, List.getElem_cons_zero, List.getElem_cons_succ, List.setIfInBounds_toArray, List.set_cons_zero, List.set_cons_succ])
  refine wpAnyH_take (i := 12) (v := ?v12) rfl (by kernel_rfl) (by kernel_rfl) (by kernel_rfl) (fun _ _ _ h => h) (Or.inl ⟨by rfl, ?hy12⟩) (by assumption) ?rest12
  case hy12 => (intro w hSw; (try dsimp only at hSw); (try simp only [List.getElem_toArray, List.getElem_cons_zero, List.getElem_cons_succ]); go_simp; (try with_reducible rfl))
  (try simp only [Act.put, List.getElem_toArray, List.getElem_cons_zero, List.getElem_cons_succ, List.setIfInBounds_toArray, List.set_cons_zero, List.set_cons_succ])
  refine wpAnyH_take (i := 13) (v := ?v13) rfl (by kernel_rfl) (by kernel_rfl) (by kernel_rfl) (fun _ _ _ h => h) (Or.inl ⟨by rfl, ?hy13⟩) (by assumption) ?rest13
  case hy13 => (intro w hSw; (try dsimp only at hSw); (try simp only [List.getElem_toArray, List.getElem_cons_zero, List.getElem_cons_succ]); go_simp; (try with_reducible rfl))
  (try simp only [Act.put, List.getElem_toArray, List.getElem_cons_zero, List.getElem_cons_succ, List.setIfInBounds_toArray, List.set_cons_zero, List.set_cons_succ])
  refine wpAnyH_take (i := 14) (v := ?v14) rfl (by kernel_rfl) (by kernel_rfl) (by kernel_rfl) (fun _ _ _ h => h) (Or.inl ⟨by rfl, ?hy14⟩) (by assumption) ?rest14
  case hy14 => (intro w hSw; (try dsimp only at hSw); (try simp only [List.getElem_toArray, List.getElem_cons_zero, List.getElem_cons_succ]); go_simp; (try with_reducible rfl))
  (try simp only [Act.put, List.getElem_toArray, List.getElem_cons_zero, List.getElem_cons_succ, List.setIfInBounds_toArray, List.set_cons_zero, List.set_cons_succ])
  refine wpAnyH_take (i := 15) (v := ?v15) rfl (by kernel_rfl) (by kernel_rfl) (by kernel_rfl) (fun _ _ _ h => h) (Or.inl ⟨by rfl, ?hy15⟩) (by assumption) ?rest15
  case hy15 => (intro w hSw; (try dsimp only at hSw); (try simp only [List.getElem_toArray, List.getElem_cons_zero, List.getElem_cons_succ]); go_simp; (try with_reducible rfl))
  (try simp only [Act.put, List.getElem_toArray, List.getElem_cons_zero, List.getElem_cons_succ, List.setIfInBounds_toArray, List.set_cons_zero, List.set_cons_succ])
  refine wpAnyH_ready (rs := [5, 16]) (by kernel_rfl) (by simp) ?_
  refine AllReadyH.cons rfl (fun K hK => ?_) (AllReadyH.cons rfl (fun K hK => ?_) AllReadyH.nil)
  · go_simp
    refine hK.out _ _ ?_ (fun hHeld => ?_)
    · exact ⟨g0, g1, g2⟩
    clear hK K
    (try simp only [Act.put, List.getElem_toArray, List.getElem_cons_zero, List.getElem_cons_succ, List.setIfInBounds_toArray, List.set_cons_zero, List.set_cons_succ])
    refine wpAnyH_ready (rs := [16]) (by kernel_rfl) (by simp) ?_
    refine AllReadyH.cons rfl (fun K hK => ?_) AllReadyH.nil
    go_simp
    refine hK.out _ _ ?_ (fun hHeld => ?_)
    · exact hwd ▸ HSA.out
    clear hK K
    (try simp only [Act.put, List.getElem_toArray, List.getElem_cons_zero, List.getElem_cons_succ, List.setIfInBounds_toArray, List.set_cons_zero, List.set_cons_succ])
    refine wpAnyH_ready (rs := [17]) (by kernel_rfl) (by simp) ?_
    refine AllReadyH.cons rfl (fun K hK => ?_) AllReadyH.nil
    refine step_append_row _ rfl _ _ 23 rfl 53 i0 _ 3 24 Tryd.underlying23 hi0 hz0 hz1 hz2 rfl (by decide) m.sA q m.sc (m.spans.flatMap Span.cells) rfl (by rw [← hwd]; exact HRD.out) (some ⟨w.heap.size, 0, none⟩) 1 1 [.int .i64 N0, .int .i64 N1, .int .i64 N2] rfl (by rw [← hwd]; exact HSD.out) (by intro u hu; simp at hu; rcases hu with rfl | rfl | rfl <;> rfl) (by unfold maxLen; omega) (by omega) ?_
    intro A' c' w4 hr4 hk4 hn4
    have hk4 := hwd ▸ hk4
    have hn4 := hwd ▸ hn4
    obtain ⟨d0, d1⟩ := HBL.out w4 hk4
    have d2 := d0.trans H.out.blk
    unfold rdCells at d2
    have d3 := blk_cell d2 2
    have d4 := blk_free d2 2
    simp at d3
    have HR4 := hid hr4
    have HK4 := hid hk4
    have HN4 := hid hn4
    clear hr4 hk4 hn4 d0 d2
    refine hK.out _ _ ?_ (fun hHeld => ?_)
    · exact HS4.out w4 HK4.out
    clear hK K
    (try simp only [Act.put, List.getElem_toArray, List.getElem_cons_zero, List.getElem_cons_succ, List.setIfInBounds_toArray, List.set_cons_zero, List.set_cons_succ])
    refine wpAnyH_take (i := 18) (v := ?v16) rfl (by kernel_rfl) (by kernel_rfl) (by kernel_rfl) (fun _ _ _ h => h) (Or.inl ⟨by rfl, ?hy16⟩) (by assumption) ?rest16
    case hy16 => (intro w hSw; (try dsimp only at hSw); (try simp only [List.getElem_toArray, List.getElem_cons_zero, List.getElem_cons_succ]); go_simp; (try with_reducible rfl))
    (try simp only [Act.put, List.getElem_toArray, List.getElem_cons_zero, List.getElem_cons_succ, List.setIfInBounds_toArray, List.set_cons_zero, List.set_cons_succ])
    refine wpAnyH_take (i := 19) (v := ?v17) rfl (by kernel_rfl) (by kernel_rfl) (by kernel_rfl) (fun _ _ _ h => h) (Or.inl ⟨by rfl, ?hy17⟩) (by assumption) ?rest17
    case hy17 => (intro w hSw; (try dsimp only at hSw); (try simp only [List.getElem_toArray, List.getElem_cons_zero, List.getElem_cons_succ]); go_simp; (try with_reducible rfl))
    (try simp only [Act.put, List.getElem_toArray, List.getElem_cons_zero, List.getElem_cons_succ, List.setIfInBounds_toArray, List.set_cons_zero, List.set_cons_succ])
    refine wpAnyH_take (i := 20) (v := ?v18) rfl (by kernel_rfl) (by kernel_rfl) (by kernel_rfl) (fun _ _ _ h => h) (Or.inl ⟨by rfl, ?hy18⟩) (by assumption) ?rest18
    case hy18 => (intro w hSw; (try dsimp only at hSw); (try simp only [List.getElem_toArray, List.getElem_cons_zero, List.getElem_cons_succ]); go_simp; (try with_reducible rfl))
    (try simp only [Act.put, List.getElem_toArray, List.getElem_cons_zero, List.getElem_cons_succ, List.setIfInBounds_toArray, List.set_cons_zero, List.set_cons_succ])
    refine wpAnyH_ready (rs := [21]) (by kernel_rfl) (by simp) ?_
    refine AllReadyH.cons rfl (fun K hK => ?_) AllReadyH.nil
    go_simp
    refine hK.out _ _ ?_ (fun hHeld => ?_)
    · exact HSS.out w4 _ (HS4.out w4 HK4.out)
    clear hK K
    (try simp only [Act.put, List.getElem_toArray, List.getElem_cons_zero, List.getElem_cons_succ, List.setIfInBounds_toArray, List.set_cons_zero, List.set_cons_succ])
    refine wpAnyH_done (by kernel_rfl) ?_ _
    go_wp2_with fail
    go_end0
    obtain ⟨m', h1, h2, h3⟩ := FIN.out _ _ _ HR4.out HK4.out HN4.out
    exact ⟨m', h1, rfl, h2, h3⟩
  · go_simp
    refine hK.out _ _ ?_ (fun hHeld => ?_)
    · exact hwd ▸ HSA.out
    clear hK K
    (try simp only [Act.put, List.getElem_toArray, List.getElem_cons_zero, List.getElem_cons_succ, List.setIfInBounds_toArray, List.set_cons_zero, List.set_cons_succ])
    refine wpAnyH_ready (rs := [5]) (by kernel_rfl) (by simp) ?_
    refine AllReadyH.cons rfl (fun K hK => ?_) AllReadyH.nil
    go_simp
    refine hK.out _ _ ?_ (fun hHeld => ?_)
    · exact hwd ▸ HSA.out
    clear hK K
    (try simp only [Act.put, List.getElem_toArray, List.getElem_cons_zero, List.getElem_cons_succ, List.setIfInBounds_toArray, List.set_cons_zero, List.set_cons_succ])
    refine wpAnyH_ready (rs := [17]) (by kernel_rfl) (by simp) ?_
    refine AllReadyH.cons rfl (fun K hK => ?_) AllReadyH.nil
    refine step_append_row _ rfl _ _ 23 rfl 53 i0 _ 3 24 Tryd.underlying23 hi0 hz0 hz1 hz2 rfl (by decide) m.sA q m.sc (m.spans.flatMap Span.cells) rfl (by rw [← hwd]; exact HRD.out) (some ⟨w.heap.size, 0, none⟩) 1 1 [.int .i64 N0, .int .i64 N1, .int .i64 N2] rfl (by rw [← hwd]; exact HSD.out) (by intro u hu; simp at hu; rcases hu with rfl | rfl | rfl <;> rfl) (by unfold maxLen; omega) (by omega) ?_
    intro A' c' w4 hr4 hk4 hn4
    have hk4 := hwd ▸ hk4
    have hn4 := hwd ▸ hn4
    obtain ⟨d0, d1⟩ := HBL.out w4 hk4
    have d2 := d0.trans H.out.blk
    unfold rdCells at d2
    have d3 := blk_cell d2 2
    have d4 := blk_free d2 2
    simp at d3
    have HR4 := hid hr4
    have HK4 := hid hk4
    have HN4 := hid hn4
    clear hr4 hk4 hn4 d0 d2
    refine hK.out _ _ ?_ (fun hHeld => ?_)
    · exact HS4.out w4 HK4.out
    clear hK K
    (try simp only [Act.put, List.getElem_toArray, List.getElem_cons_zero, List.getElem_cons_succ, List.setIfInBounds_toArray, List.set_cons_zero, List.set_cons_succ])
    refine wpAnyH_take (i := 18) (v := ?v19) rfl (by kernel_rfl) (by kernel_rfl) (by kernel_rfl) (fun _ _ _ h => h) (Or.inl ⟨by rfl, ?hy19⟩) (by assumption) ?rest19
    case hy19 => (intro w hSw; (try dsimp only at hSw); (try simp only [List.getElem_toArray, List.getElem_cons_zero, List.getElem_cons_succ]); go_simp; (try with_reducible rfl))
    (try simp only [Act.put, List.getElem_toArray, List.getElem_cons_zero, List.getElem_cons_succ, List.setIfInBounds_toArray, List.set_cons_zero, List.set_cons_succ])
    refine wpAnyH_take (i := 19) (v := ?v20) rfl (by kernel_rfl) (by kernel_rfl) (by kernel_rfl) (fun _ _ _ h => h) (Or.inl ⟨by rfl, ?hy20⟩) (by assumption) ?rest20
    case hy20 => (intro w hSw; (try dsimp only at hSw); (try simp only [List.getElem_toArray, List.getElem_cons_zero, List.getElem_cons_succ]); go_simp; (try with_reducible rfl))
    (try simp only [Act.put, List.getElem_toArray, List.getElem_cons_zero, List.getElem_cons_succ, List.setIfInBounds_toArray, List.set_cons_zero, List.set_cons_succ])
    refine wpAnyH_take (i := 20) (v := ?v21) rfl (by kernel_rfl) (by kernel_rfl) (by kernel_rfl) (fun _ _ _ h => h) (Or.inl ⟨by rfl, ?hy21⟩) (by assumption) ?rest21
    case hy21 => (intro w hSw; (try dsimp only at hSw); (try simp only [List.getElem_toArray, List.getElem_cons_zero, List.getElem_cons_succ]); go_simp; (try with_reducible rfl))
    (try simp only [Act.put, List.getElem_toArray, List.getElem_cons_zero, List.getElem_cons_succ, List.setIfInBounds_toArray, List.set_cons_zero, List.set_cons_succ])
    refine wpAnyH_ready (rs := [21]) (by kernel_rfl) (by simp) ?_
    refine AllReadyH.cons rfl (fun K hK => ?_) AllReadyH.nil
    go_simp
    refine hK.out _ _ ?_ (fun hHeld => ?_)
    · exact HSS.out w4 _ (HS4.out w4 HK4.out)
    clear hK K
    (try simp only [Act.put, List.getElem_toArray, List.getElem_cons_zero, List.getElem_cons_succ, List.setIfInBounds_toArray, List.set_cons_zero, List.set_cons_succ])
    refine wpAnyH_done (by kernel_rfl) ?_ _
    go_wp2_with fail
    go_end0
    obtain ⟨m', h1, h2, h3⟩ := FIN.out _ _ _ HR4.out HK4.out HN4.out
    exact ⟨m', h1, rfl, h2, h3⟩

theorem Tryd.infoRdWire : (Tryd.prog.info? 55).map (fun i => (i.zero, i.size, i.bytes)) = some (some (.agg #[.int .i64 0, .int .i64 0, .int .i64 0, .int .i64 0]), 4, 32) := by kernel_rfl
set_option maxHeartbeats 4000000 in
theorem take_wire (h : RdAt base w b m 2 true) (hfew : m.wires.length ≤ 1073741824) {A : Option Addr} {c N0 N1 N2 N3 : Nat} (hn : Row w 3 1 A 4 c (ints ([N0, N1, N2, N3].map Int.ofNat))) :
    Calls Tryd.prog 28 #[.pointer (some ⟨b, 0, none⟩), .slice A 4 c] w fun e w' => ∃ m' : PM, m'.pl = (⟨m.pl.code, m.pl.ticks, m.pl.spans, m.pl.wires ++ [⟨(N0 : Nat), (N1 : Nat), (N2 : Nat), (N3 : Nat)⟩]⟩ : Pl) ∧ e = .returned (.tuple #[]) ∧ RdAt base w' b m' 2 true ∧ Keep (rdF m b) w w' := by
  obtain ⟨nb, no, rfl, hnl, gx⟩ := nums_four hn.sl (by decide)
  have hna : ¬ InA m.wA nb := fun hj => hn.apart2 h.wires (by decide) nb rfl hj
  have hnb : nb ≠ b := fun e => hn.apart h.blk (by decide) (by rw [e]; rfl)
  obtain ⟨i0, hi0, hz0, hz1, hz2⟩ := info_parts Tryd.infoRdWire
  have g0 := gx 0 N0 rfl
  have g1 := gx 1 N1 rfl
  have g2 := gx 2 N2 rfl
  have g3 := gx 3 N3 rfl
  rw [Nat.add_zero] at g0
  have hblk := h.blk
  unfold rdCells at hblk
  have x3 := blk_cell hblk 3
  have x4 := blk_cell hblk 4
  have xf := fun o => blk_free hblk o
  have hl := blk_lt hblk
  simp at x3 x4
  have hl2 := h.low
  obtain ⟨q, hq⟩ : ∃ q, q = m.wires.length := ⟨_, rfl⟩
  have hrow := h.wires
  rw [← hq] at x3 hrow hfew
  obtain ⟨wd, hwd⟩ : ∃ wd, wd = (w.alloc (.cells #[.int .i64 N0, .int .i64 N1, .int .i64 N2, .int .i64 N3] 55)).drew := ⟨_, rfl⟩
  have hrd : Row wd 55 4 m.wA q m.wc (m.wires.flatMap Wire.cells) := by rw [hwd]; exact hrow.alloc _
  have hsd : Sl wd (some ⟨w.heap.size, 0, none⟩) 4 1 [.int .i64 N0, .int .i64 N1, .int .i64 N2, .int .i64 N3] := by rw [hwd]; exact sl_blk (heap_alloc_new w _) 4 1 _ rfl rfl
  have hkd : Keep NoF w wd := by rw [hwd]; exact ((Keep.refl _ _).alloc _).drew
  have hfr : ∀ j, InA m.wA j → base ≤ j := fun j hj => h.fresh j (.inr (.inr hj))
  have H := hid h
  have HQ := hid hq
  have HKD := hid hkd
  have HRD := hid hrd
  have HSD := hid hsd
  have HFR := hid hfr
  have HBL : Hid (∀ w4, Keep (InA m.wA) wd w4 → w4.heap[b]? = w.heap[b]? ∧ b < w4.heap.size) := hid fun w4 hk => by
    have h1 := hkd.size
    exact ⟨(hk.block b (by omega) fun hj => by have := hfr b hj; omega).trans (hkd.block b hl fun hj => hj.elim), by have := hk.size; omega⟩
  have FIN : Hid (∀ A' c' w4, Row w4 55 4 A' (q + 1) c' (m.wires.flatMap Wire.cells ++ [.int .i64 N0, .int .i64 N1, .int .i64 N2, .int .i64 N3]) → Keep (InA m.wA) wd w4 → (∀ j, InA A' j → InA m.wA j ∨ wd.heap.size ≤ j) →
      ∃ m' : PM, m'.pl = (⟨m.pl.code, m.pl.ticks, m.pl.spans, m.pl.wires ++ [⟨(N0 : Nat), (N1 : Nat), (N2 : Nat), (N3 : Nat)⟩]⟩ : Pl) ∧ RdAt base (w4.setCell ⟨b, 3, none⟩ (.slice A' (q + 1) c')) b m' 2 true ∧ Keep (rdF m b) w (w4.setCell ⟨b, 3, none⟩ (.slice A' (q + 1) c'))) := hid fun A' c' w4 hr4 hk4 hn4 => by
    have h1 := hkd.size
    have hbig := h.big
    have hkw : Keep (InA m.wA) w w4 := (hkd.mono (G := InA m.wA) fun j _ hj => hj.elim).then hk4 fun _ _ hj => hj
    have far : ∀ j, j ≠ b → (w4.setCell ⟨b, 3, none⟩ (.slice A' (q + 1) c')).heap[j]? = w4.heap[j]? := fun j hj => blk_far (p := ⟨b, 3, none⟩) (by simp; omega) _
    have hb4 : w4.heap[b]? = _ := (HBL.out w4 hk4).1.trans hblk
    have fresh' : ∀ j, InA A' j → base ≤ j := fun j hj => (hn4 j hj).elim (fun h => hfr j h) fun h => by omega
    refine ⟨⟨m.A, m.c, m.ros, m.ticks, m.sA, m.sc, m.spans, A', c', m.wires ++ [⟨(N0 : Nat), (N1 : Nat), (N2 : Nat), (N3 : Nat)⟩]⟩, rfl, ⟨?_, ?_, fun r hr => ?_, h.apart, ?_, ?_, ?_, h.freshC, hl2, ?_⟩, ?_⟩
    · refine (blk_set hb4 3 _).trans ?_
      unfold rdCells
      simp only [List.length_append, List.length_singleton, ← hq]
      rfl
    · refine ((h.rows.through hkw fun j hj hg => (h.rows.apart2 h.wires (by decide)) j hj hg)).keep fun j hj _ => far j (by have := h.fresh j (.inl hj); omega)
    · refine ((h.codes r hr).through hkw fun j hj hg => ((h.codes r hr).apart2 h.wires (by decide)) j hj hg).keep fun j hj _ => far j (by have := h.freshC r hr j hj; omega)
    · refine (h.spans.through hkw fun j hj hg => (h.spans.apart2 h.wires (by decide)) j hj hg).keep fun j hj _ => far j (by have := h.fresh j (.inr (.inl hj)); omega)
    · have e : (m.wires ++ [(⟨(N0 : Nat), (N1 : Nat), (N2 : Nat), (N3 : Nat)⟩ : Wire)]).flatMap Wire.cells = m.wires.flatMap Wire.cells ++ [.int .i64 N0, .int .i64 N1, .int .i64 N2, .int .i64 N3] := by rw [List.flatMap_append]; rfl
      simp only [List.length_append, List.length_singleton, ← hq]
      rw [e]
      exact hr4.keep fun j hj _ => far j (by have := fresh' j hj; omega)
    · rintro j (hj | hj | hj)
      · exact h.fresh j (.inl hj)
      · exact h.fresh j (.inr (.inl hj))
      · exact fresh' j hj
    · rw [sz_set]; have := hkw.size; omega
    · exact (hkw.mono (G := rdF m b) fun j _ hj => .inr (.inr (.inr hj))).setCell (.inl (.inl rfl)) _
  have HNA := hid hna
  have HS4 : Hid (∀ w4, Keep (InA m.wA) wd w4 → w4.cell? ⟨nb, no, none⟩ = some (.int .i64 N0) ∧ w4.cell? ⟨nb, no + 1, none⟩ = some (.int .i64 N1) ∧ w4.cell? ⟨nb, no + 2, none⟩ = some (.int .i64 N2) ∧ w4.cell? ⟨nb, no + 3, none⟩ = some (.int .i64 N3)) := hid fun w4 hk => by
    have q : ∀ o, w4.cell? ⟨nb, o, none⟩ = w.cell? ⟨nb, o, none⟩ := fun o => (hk.cell (Nat.lt_of_lt_of_le hnl hkd.size) hna).trans (hkd.cell hnl fun hj => hj.elim)
    exact ⟨(q _).trans g0, (q _).trans g1, (q _).trans g2, (q _).trans g3⟩
  have HSA : Hid (wd.cell? ⟨nb, no, none⟩ = some (.int .i64 N0) ∧ wd.cell? ⟨nb, no + 1, none⟩ = some (.int .i64 N1) ∧ wd.cell? ⟨nb, no + 2, none⟩ = some (.int .i64 N2) ∧ wd.cell? ⟨nb, no + 3, none⟩ = some (.int .i64 N3)) := hid (by
    rw [hwd]
    have q : ∀ o, (w.alloc (.cells #[.int .i64 N0, .int .i64 N1, .int .i64 N2, .int .i64 N3] 55)).drew.cell? ⟨nb, o, none⟩ = w.cell? ⟨nb, o, none⟩ := fun o => World.cell?_alloc_lt w _ ⟨nb, o, none⟩ hnl
    exact ⟨(q _).trans g0, (q _).trans g1, (q _).trans g2, (q _).trans g3⟩)
  have HSS : Hid (∀ (w4 : World) (v : Value), w4.cell? ⟨nb, no, none⟩ = some (.int .i64 N0) ∧ w4.cell? ⟨nb, no + 1, none⟩ = some (.int .i64 N1) ∧ w4.cell? ⟨nb, no + 2, none⟩ = some (.int .i64 N2) ∧ w4.cell? ⟨nb, no + 3, none⟩ = some (.int .i64 N3) → (w4.setCell ⟨b, 3, none⟩ v).cell? ⟨nb, no, none⟩ = some (.int .i64 N0) ∧ (w4.setCell ⟨b, 3, none⟩ v).cell? ⟨nb, no + 1, none⟩ = some (.int .i64 N1) ∧ (w4.setCell ⟨b, 3, none⟩ v).cell? ⟨nb, no + 2, none⟩ = some (.int .i64 N2) ∧ (w4.setCell ⟨b, 3, none⟩ v).cell? ⟨nb, no + 3, none⟩ = some (.int .i64 N3)) := hid fun w4 v h => by
    have q : ∀ o, (w4.setCell ⟨b, 3, none⟩ v).cell? ⟨nb, o, none⟩ = w4.cell? ⟨nb, o, none⟩ := fun o => World.cell?_of_block (blk_far (p := ⟨b, 3, none⟩) (fun e => hnb e) v)
    exact ⟨(q _).trans h.1, (q _).trans h.2.1, (q _).trans h.2.2.1, (q _).trans h.2.2.2⟩
  clear hblk hrow hrd hsd hkd hfr h hn gx hl2 hq hna
  go_enter Tryd.func28, Tryd.ntmps28
  go_upto_region 7 with fail
  refine wp_region_held_drew (S := (fun w' => w'.cell? ⟨nb, no, none⟩ = some (.int .i64 N0) ∧ w'.cell? ⟨nb, no + 1, none⟩ = some (.int .i64 N1) ∧ w'.cell? ⟨nb, no + 2, none⟩ = some (.int .i64 N2) ∧ w'.cell? ⟨nb, no + 3, none⟩ = some (.int .i64 N3))) (by kernel_rfl) ?_ (fun hHeld => ?_)
  · exact ⟨g0, g1, g2, g3⟩
  refine wpAnyH_take (i := 0) (v := ?v1) rfl (by kernel_rfl) (by kernel_rfl) (by kernel_rfl) (fun _ _ _ h => h) (Or.inl ⟨by rfl, ?hy1⟩) (by assumption) ?rest1
  case hy1 => (intro w hSw; (try dsimp only at hSw); (try simp only [List.getElem_toArray, List.getElem_cons_zero]); go_simp; (try with_reducible rfl))
  (try simp only [Act.put, List.getElem_toArray, List.getElem_cons_zero, List.setIfInBounds_toArray, List.set_cons_zero, List.set_cons_succ])
  refine wpAnyH_take (i := 1) (v := ?v2) rfl (by kernel_rfl) (by kernel_rfl) (by kernel_rfl) (fun _ _ _ h => h) (Or.inl ⟨by rfl, ?hy2⟩) (by assumption) ?rest2
  case hy2 => (intro w hSw; (try dsimp only at hSw); (try simp only [List.getElem_toArray, List.getElem_cons_zero, List.getElem_cons_succ]); go_simp; (try with_reducible rfl))
  (try simp only [Act.put, List.getElem_toArray, List.getElem_cons_zero, List.getElem_cons_succ, List.setIfInBounds_toArray, List.set_cons_zero, List.set_cons_succ])
  refine wpAnyH_take (i := 2) (v := ?v3) rfl (by kernel_rfl) (by kernel_rfl) (by kernel_rfl) (fun _ _ _ h => h) (Or.inl ⟨by rfl, ?hy3⟩) (by assumption) ?rest3
  case hy3 => (intro w hSw; (try dsimp only at hSw); (try simp only [List.getElem_toArray, List.getElem_cons_zero, List.getElem_cons_succ]); go_simp; (try with_reducible rfl))
  (try simp only [Act.put, List.getElem_toArray, List.getElem_cons_zero, List.getElem_cons_succ, List.setIfInBounds_toArray, List.set_cons_zero, List.set_cons_succ])
  refine wpAnyH_take (i := 3) (v := ?v4) rfl (by kernel_rfl) (by kernel_rfl) (by kernel_rfl) (fun _ _ _ h => h) (Or.inl ⟨by rfl, ?hy4⟩) (by assumption) ?rest4
  case hy4 => (intro w hSw; (try dsimp only at hSw); (try simp only [List.getElem_toArray, List.getElem_cons_zero, List.getElem_cons_succ]); go_simp; (try with_reducible rfl))
  (try simp only [Act.put, List.getElem_toArray, List.getElem_cons_zero, List.getElem_cons_succ, List.setIfInBounds_toArray, List.set_cons_zero, List.set_cons_succ])
  refine wpAnyH_take (i := 4) (v := ?v5) rfl (by kernel_rfl) (by kernel_rfl) (by kernel_rfl) (fun _ _ _ h => h) (Or.inl ⟨by rfl, ?hy5⟩) (by assumption) ?rest5
  case hy5 => (intro w hSw; (try dsimp only at hSw); (try simp only [List.getElem_toArray, List.getElem_cons_zero, List.getElem_cons_succ]); go_simp; (try with_reducible rfl))
  (try simp only [Act.put, List.getElem_toArray, List.getElem_cons_zero, List.getElem_cons_succ, List.setIfInBounds_toArray, List.set_cons_zero, List.set_cons_succ])
  refine wpAnyH_take (i := 6) (v := ?v6) rfl (by kernel_rfl) (by kernel_rfl) (by kernel_rfl) (fun _ _ _ h => h) (Or.inl ⟨by rfl, ?hy6⟩) (by assumption) ?rest6
  case hy6 => (intro w hSw; (try dsimp only at hSw); (try simp only [List.getElem_toArray, List.getElem_cons_zero, List.getElem_cons_succ]); go_simp; (try with_reducible rfl))
  (try simp only [Act.put, List.getElem_toArray, List.getElem_cons_zero, List.getElem_cons_succ, List.setIfInBounds_toArray, List.set_cons_zero, List.set_cons_succ])
  refine wpAnyH_take (i := 7) (v := ?v7) rfl (by kernel_rfl) (by kernel_rfl) (by kernel_rfl) (fun _ _ _ h => h) (Or.inl ⟨by rfl, ?hy7⟩) (by assumption) ?rest7
  case hy7 => (intro w hSw; (try dsimp only at hSw); (try simp only [List.getElem_toArray, List.getElem_cons_zero, List.getElem_cons_succ]); go_simp; (try with_reducible rfl))
  (try simp only [Act.put, List.getElem_toArray, List.getElem_cons_zero, List.getElem_cons_succ, List.setIfInBounds_toArray, List.set_cons_zero, List.set_cons_succ])
  refine wpAnyH_take (i := 8) (v := ?v8) rfl (by kernel_rfl) (by kernel_rfl) (by kernel_rfl) (fun _ _ _ h => h) (Or.inl ⟨by rfl, ?hy8⟩) (by assumption) ?rest8
  case hy8 => (intro w hSw; (try dsimp only at hSw); (try simp only [List.getElem_toArray, List.getElem_cons_zero, List.getElem_cons_succ]); go_simp; (try with_reducible rfl))
  (try simp only [Act.put, List.getElem_toArray, List.getElem_cons_zero, List.getElem_cons_succ, List.setIfInBounds_toArray, List.set_cons_zero, List.set_cons_succ])
  refine wpAnyH_take (i := 9) (v := ?v9) rfl (by kernel_rfl) (by kernel_rfl) (by kernel_rfl) (fun _ _ _ h => h) (Or.inl ⟨by rfl, ?hy9⟩) (by assumption) ?rest9
  case hy9 => (intro w hSw; (try dsimp only at hSw); (try simp only [List.getElem_toArray, List.getElem_cons_zero, List.getElem_cons_succ]); go_simp; (try with_reducible rfl))
  (try simp only [Act.put, List.getElem_toArray, List.getElem_cons_zero, List.getElem_cons_succ, List.setIfInBounds_toArray, List.set_cons_zero, List.set_cons_succ])
  refine wpAnyH_take (i := 10) (v := ?v10) rfl (by kernel_rfl) (by kernel_rfl) (by kernel_rfl) (fun _ _ _ h => h) (Or.inl ⟨by rfl, ?hy10⟩) (by assumption) ?rest10
  case hy10 => (intro w hSw; (try dsimp only at hSw); (try simp only [List.getElem_toArray, List.getElem_cons_zero, List.getElem_cons_succ]); go_simp; (try with_reducible rfl))
  (try simp only [Act.put, List.getElem_toArray, List.getElem_cons_zero, List.getElem_cons_succ, List.setIfInBounds_toArray, List.set_cons_zero, List.set_cons_succ])
  refine wpAnyH_take (i := 11) (v := ?v11) rfl (by kernel_rfl) (by kernel_rfl) (by kernel_rfl) (fun _ _ _ h => h) (Or.inl ⟨by rfl, ?hy11⟩) (by assumption) ?rest11
  case hy11 => (intro w hSw; (try dsimp only at hSw); (try simp only [List.getElem_toArray, List.getElem_cons_zero, List.getElem_cons_succ]); go_simp; (try with_reducible rfl))
  (try simp only [Act.put, List.getElem_toArray, List.getElem_cons_zero, List.getElem_cons_succ, List.setIfInBounds_toArray, List.set_cons_zero, List.set_cons_succ])
  refine wpAnyH_take (i := 12) (v := ?v12) rfl (by kernel_rfl) (by kernel_rfl) (by kernel_rfl) (fun _ _ _ h => h) (Or.inl ⟨by rfl, ?hy12⟩) (by assumption) ?rest12
  case hy12 => (intro w hSw; (try dsimp only at hSw); (try simp only [List.getElem_toArray, List.getElem_cons_zero, List.getElem_cons_succ]); go_simp; (try with_reducible rfl))
  (try simp only [Act.put, List.getElem_toArray, List.getElem_cons_zero, List.getElem_cons_succ, List.setIfInBounds_toArray, List.set_cons_zero, List.set_cons_succ])
  refine wpAnyH_take (i := 13) (v := ?v13) rfl (by kernel_rfl) (by kernel_rfl) (by kernel_rfl) (fun _ _ _ h => h) (Or.inl ⟨by rfl, ?hy13⟩) (by assumption) ?rest13
  case hy13 => (intro w hSw; (try dsimp only at hSw); (try simp only [List.getElem_toArray, List.getElem_cons_zero, List.getElem_cons_succ]); go_simp; (try with_reducible rfl))
  (try simp only [Act.put, List.getElem_toArray, List.getElem_cons_zero, List.getElem_cons_succ, List.setIfInBounds_toArray, List.set_cons_zero, List.set_cons_succ])
  refine wpAnyH_take (i := 14) (v := ?v14) rfl (by kernel_rfl) (by kernel_rfl) (by kernel_rfl) (fun _ _ _ h => h) (Or.inl ⟨by rfl, ?hy14⟩) (by assumption) ?rest14
  case hy14 => (intro w hSw; (try dsimp only at hSw); (try simp only [List.getElem_toArray, List.getElem_cons_zero, List.getElem_cons_succ]); go_simp; (try with_reducible rfl))
  (try simp only [Act.put, List.getElem_toArray, List.getElem_cons_zero, List.getElem_cons_succ, List.setIfInBounds_toArray, List.set_cons_zero, List.set_cons_succ])
  refine wpAnyH_take (i := 15) (v := ?v15) rfl (by kernel_rfl) (by kernel_rfl) (by kernel_rfl) (fun _ _ _ h => h) (Or.inl ⟨by rfl, ?hy15⟩) (by assumption) ?rest15
  case hy15 => (intro w hSw; (try dsimp only at hSw); (try simp only [List.getElem_toArray, List.getElem_cons_zero, List.getElem_cons_succ]); go_simp; (try with_reducible rfl))
  (try simp only [Act.put, List.getElem_toArray, List.getElem_cons_zero, List.getElem_cons_succ, List.setIfInBounds_toArray, List.set_cons_zero, List.set_cons_succ])
  refine wpAnyH_take (i := 16) (v := ?v16) rfl (by kernel_rfl) (by kernel_rfl) (by kernel_rfl) (fun _ _ _ h => h) (Or.inl ⟨by rfl, ?hy16⟩) (by assumption) ?rest16
  case hy16 => (intro w hSw; (try dsimp only at hSw); (try simp only [List.getElem_toArray, List.getElem_cons_zero, List.getElem_cons_succ]); go_simp; (try with_reducible rfl))
  (try simp only [Act.put, List.getElem_toArray, List.getElem_cons_zero, List.getElem_cons_succ, List.setIfInBounds_toArray, List.set_cons_zero, List.set_cons_succ])
  refine wpAnyH_take (i := 17) (v := ?v17) rfl (by kernel_rfl) (by kernel_rfl) (by kernel_rfl) (fun _ _ _ h => h) (Or.inl ⟨by rfl, ?hy17⟩) (by assumption) ?rest17
  case hy17 => (intro w hSw; (try dsimp only at hSw); (try simp only [List.getElem_toArray, List.getElem_cons_zero, List.getElem_cons_succ]); go_simp; (try with_reducible rfl))
  (try simp only [Act.put, List.getElem_toArray, List.getElem_cons_zero, List.getElem_cons_succ, List.setIfInBounds_toArray, List.set_cons_zero, List.set_cons_succ])
  refine wpAnyH_take (i := 18) (v := ?v18) rfl (by kernel_rfl) (by kernel_rfl) (by kernel_rfl) (fun _ _ _ h => h) (Or.inl ⟨by rfl, ?hy18⟩) (by assumption) ?rest18
  case hy18 => (intro w hSw; (try dsimp only at hSw); (try simp only [List.getElem_toArray, List.getElem_cons_zero, List.getElem_cons_succ]); go_simp; (try with_reducible rfl))
  (try simp only [Act.put, List.getElem_toArray, List.getElem_cons_zero, List.getElem_cons_succ, List.setIfInBounds_toArray, List.set_cons_zero, List.set_cons_succ])
  refine wpAnyH_ready (rs := [5, 19]) (by kernel_rfl) (by simp) ?_
  refine AllReadyH.cons rfl (fun K hK => ?_) (AllReadyH.cons rfl (fun K hK => ?_) AllReadyH.nil)
  · go_simp
    refine hK.out _ _ ?_ (fun hHeld => ?_)
    · exact ⟨g0, g1, g2, g3⟩
    clear hK K
    (try simp only [Act.put, List.getElem_toArray, List.getElem_cons_zero, List.getElem_cons_succ, List.setIfInBounds_toArray, List.set_cons_zero, List.set_cons_succ])
    refine wpAnyH_ready (rs := [19]) (by kernel_rfl) (by simp) ?_
    refine AllReadyH.cons rfl (fun K hK => ?_) AllReadyH.nil
    go_simp
    refine hK.out _ _ ?_ (fun hHeld => ?_)
    · exact hwd ▸ HSA.out
    clear hK K
    (try simp only [Act.put, List.getElem_toArray, List.getElem_cons_zero, List.getElem_cons_succ, List.setIfInBounds_toArray, List.set_cons_zero, List.set_cons_succ])
    refine wpAnyH_ready (rs := [20]) (by kernel_rfl) (by simp) ?_
    refine AllReadyH.cons rfl (fun K hK => ?_) AllReadyH.nil
    refine step_append_row _ rfl _ _ 24 rfl 55 i0 _ 4 32 Tryd.underlying24 hi0 hz0 hz1 hz2 rfl (by decide) m.wA q m.wc (m.wires.flatMap Wire.cells) rfl (by rw [← hwd]; exact HRD.out) (some ⟨w.heap.size, 0, none⟩) 1 1 [.int .i64 N0, .int .i64 N1, .int .i64 N2, .int .i64 N3] rfl (by rw [← hwd]; exact HSD.out) (by intro u hu; simp at hu; rcases hu with rfl | rfl | rfl | rfl <;> rfl) (by unfold maxLen; omega) (by omega) ?_
    intro A' c' w4 hr4 hk4 hn4
    have hk4 := hwd ▸ hk4
    have hn4 := hwd ▸ hn4
    obtain ⟨d0, d1⟩ := HBL.out w4 hk4
    have d2 := d0.trans H.out.blk
    unfold rdCells at d2
    have d3 := blk_cell d2 3
    have d4 := blk_free d2 3
    simp at d3
    have HR4 := hid hr4
    have HK4 := hid hk4
    have HN4 := hid hn4
    clear hr4 hk4 hn4 d0 d2
    refine hK.out _ _ ?_ (fun hHeld => ?_)
    · exact HS4.out w4 HK4.out
    clear hK K
    (try simp only [Act.put, List.getElem_toArray, List.getElem_cons_zero, List.getElem_cons_succ, List.setIfInBounds_toArray, List.set_cons_zero, List.set_cons_succ])
    refine wpAnyH_take (i := 21) (v := ?v19) rfl (by kernel_rfl) (by kernel_rfl) (by kernel_rfl) (fun _ _ _ h => h) (Or.inl ⟨by rfl, ?hy19⟩) (by assumption) ?rest19
    case hy19 => (intro w hSw; (try dsimp only at hSw); (try simp only [List.getElem_toArray, List.getElem_cons_zero, List.getElem_cons_succ]); go_simp; (try with_reducible rfl))
    (try simp only [Act.put, List.getElem_toArray, List.getElem_cons_zero, List.getElem_cons_succ, List.setIfInBounds_toArray, List.set_cons_zero, List.set_cons_succ])
    refine wpAnyH_take (i := 22) (v := ?v20) rfl (by kernel_rfl) (by kernel_rfl) (by kernel_rfl) (fun _ _ _ h => h) (Or.inl ⟨by rfl, ?hy20⟩) (by assumption) ?rest20
    case hy20 => (intro w hSw; (try dsimp only at hSw); (try simp only [List.getElem_toArray, List.getElem_cons_zero, List.getElem_cons_succ]); go_simp; (try with_reducible rfl))
    (try simp only [Act.put, List.getElem_toArray, List.getElem_cons_zero, List.getElem_cons_succ, List.setIfInBounds_toArray, List.set_cons_zero, List.set_cons_succ])
    refine wpAnyH_take (i := 23) (v := ?v21) rfl (by kernel_rfl) (by kernel_rfl) (by kernel_rfl) (fun _ _ _ h => h) (Or.inl ⟨by rfl, ?hy21⟩) (by assumption) ?rest21
    case hy21 => (intro w hSw; (try dsimp only at hSw); (try simp only [List.getElem_toArray, List.getElem_cons_zero, List.getElem_cons_succ]); go_simp; (try with_reducible rfl))
    (try simp only [Act.put, List.getElem_toArray, List.getElem_cons_zero, List.getElem_cons_succ, List.setIfInBounds_toArray, List.set_cons_zero, List.set_cons_succ])
    refine wpAnyH_ready (rs := [24]) (by kernel_rfl) (by simp) ?_
    refine AllReadyH.cons rfl (fun K hK => ?_) AllReadyH.nil
    go_simp
    refine hK.out _ _ ?_ (fun hHeld => ?_)
    · exact HSS.out w4 _ (HS4.out w4 HK4.out)
    clear hK K
    (try simp only [Act.put, List.getElem_toArray, List.getElem_cons_zero, List.getElem_cons_succ, List.setIfInBounds_toArray, List.set_cons_zero, List.set_cons_succ])
    refine wpAnyH_done (by kernel_rfl) ?_ _
    go_wp2_with fail
    go_end0
    obtain ⟨m', h1, h2, h3⟩ := FIN.out _ _ _ HR4.out HK4.out HN4.out
    exact ⟨m', h1, rfl, h2, h3⟩
  · go_simp
    refine hK.out _ _ ?_ (fun hHeld => ?_)
    · exact hwd ▸ HSA.out
    clear hK K
    (try simp only [Act.put, List.getElem_toArray, List.getElem_cons_zero, List.getElem_cons_succ, List.setIfInBounds_toArray, List.set_cons_zero, List.set_cons_succ])
    refine wpAnyH_ready (rs := [5]) (by kernel_rfl) (by simp) ?_
    refine AllReadyH.cons rfl (fun K hK => ?_) AllReadyH.nil
    go_simp
    refine hK.out _ _ ?_ (fun hHeld => ?_)
    · exact hwd ▸ HSA.out
    clear hK K
    (try simp only [Act.put, List.getElem_toArray, List.getElem_cons_zero, List.getElem_cons_succ, List.setIfInBounds_toArray, List.set_cons_zero, List.set_cons_succ])
    refine wpAnyH_ready (rs := [20]) (by kernel_rfl) (by simp) ?_
    refine AllReadyH.cons rfl (fun K hK => ?_) AllReadyH.nil
    refine step_append_row _ rfl _ _ 24 rfl 55 i0 _ 4 32 Tryd.underlying24 hi0 hz0 hz1 hz2 rfl (by decide) m.wA q m.wc (m.wires.flatMap Wire.cells) rfl (by rw [← hwd]; exact HRD.out) (some ⟨w.heap.size, 0, none⟩) 1 1 [.int .i64 N0, .int .i64 N1, .int .i64 N2, .int .i64 N3] rfl (by rw [← hwd]; exact HSD.out) (by intro u hu; simp at hu; rcases hu with rfl | rfl | rfl | rfl <;> rfl) (by unfold maxLen; omega) (by omega) ?_
    intro A' c' w4 hr4 hk4 hn4
    have hk4 := hwd ▸ hk4
    have hn4 := hwd ▸ hn4
    obtain ⟨d0, d1⟩ := HBL.out w4 hk4
    have d2 := d0.trans H.out.blk
    unfold rdCells at d2
    have d3 := blk_cell d2 3
    have d4 := blk_free d2 3
    simp at d3
    have HR4 := hid hr4
    have HK4 := hid hk4
    have HN4 := hid hn4
    clear hr4 hk4 hn4 d0 d2
    refine hK.out _ _ ?_ (fun hHeld => ?_)
    · exact HS4.out w4 HK4.out
    clear hK K
    (try simp only [Act.put, List.getElem_toArray, List.getElem_cons_zero, List.getElem_cons_succ, List.setIfInBounds_toArray, List.set_cons_zero, List.set_cons_succ])
    refine wpAnyH_take (i := 21) (v := ?v22) rfl (by kernel_rfl) (by kernel_rfl) (by kernel_rfl) (fun _ _ _ h => h) (Or.inl ⟨by rfl, ?hy22⟩) (by assumption) ?rest22
    case hy22 => (intro w hSw; (try dsimp only at hSw); (try simp only [List.getElem_toArray, List.getElem_cons_zero, List.getElem_cons_succ]); go_simp; (try with_reducible rfl))
    (try simp only [Act.put, List.getElem_toArray, List.getElem_cons_zero, List.getElem_cons_succ, List.setIfInBounds_toArray, List.set_cons_zero, List.set_cons_succ])
    refine wpAnyH_take (i := 22) (v := ?v23) rfl (by kernel_rfl) (by kernel_rfl) (by kernel_rfl) (fun _ _ _ h => h) (Or.inl ⟨by rfl, ?hy23⟩) (by assumption) ?rest23
    case hy23 => (intro w hSw; (try dsimp only at hSw); (try simp only [List.getElem_toArray, List.getElem_cons_zero, List.getElem_cons_succ]); go_simp; (try with_reducible rfl))
    (try simp only [Act.put, List.getElem_toArray, List.getElem_cons_zero, List.getElem_cons_succ, List.setIfInBounds_toArray, List.set_cons_zero, List.set_cons_succ])
    refine wpAnyH_take (i := 23) (v := ?v24) rfl (by kernel_rfl) (by kernel_rfl) (by kernel_rfl) (fun _ _ _ h => h) (Or.inl ⟨by rfl, ?hy24⟩) (by assumption) ?rest24
    case hy24 => (intro w hSw; (try dsimp only at hSw); (try simp only [List.getElem_toArray, List.getElem_cons_zero, List.getElem_cons_succ]); go_simp; (try with_reducible rfl))
    (try simp only [Act.put, List.getElem_toArray, List.getElem_cons_zero, List.getElem_cons_succ, List.setIfInBounds_toArray, List.set_cons_zero, List.set_cons_succ])
    refine wpAnyH_ready (rs := [24]) (by kernel_rfl) (by simp) ?_
    refine AllReadyH.cons rfl (fun K hK => ?_) AllReadyH.nil
    go_simp
    refine hK.out _ _ ?_ (fun hHeld => ?_)
    · exact HSS.out w4 _ (HS4.out w4 HK4.out)
    clear hK K
    (try simp only [Act.put, List.getElem_toArray, List.getElem_cons_zero, List.getElem_cons_succ, List.setIfInBounds_toArray, List.set_cons_zero, List.set_cons_succ])
    refine wpAnyH_done (by kernel_rfl) ?_ _
    go_wp2_with fail
    go_end0
    obtain ⟨m', h1, h2, h3⟩ := FIN.out _ _ _ HR4.out HK4.out HN4.out
    exact ⟨m', h1, rfl, h2, h3⟩
end
end Go.Proofs.YtldllmhgofacbaaDoor
