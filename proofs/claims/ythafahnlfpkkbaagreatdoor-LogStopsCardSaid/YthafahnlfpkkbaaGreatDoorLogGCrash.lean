/- Package log: the contract of Crash, for every log. Conditions: 'Desk' and the table of forms, which the row lists. -/
import Derived.Test.YthafahnlfpkkbaaGreatDoorLogGRedo
import Derived.Test.YthafahnlfpkkbaaGreatDoorLogGGo
import Derived.BigRegion
namespace Go.Proofs.YthafahnlfpkkbaaGreatDoor
open Go.RowKit
set_option maxRecDepth 100000

theorem keepN_eq {L : Lg} {p : Pl} (hL : LgOk p L) (keep : Int) : (L.safe : Int) + max 0 (min keep ((L.text.length : Int) - L.safe)) = L.keepN keep ∧ L.keepN keep ≤ L.text.length ∧ L.safe ≤ L.keepN keep := by
  have hs := hL.safe
  unfold Lg.keepN
  split
  · omega
  · split
    · omega
    · omega
/-- The bytes that are left, and those of them that are whole records. -/
theorem crash_cut {L : Lg} {p : Pl} (hL : LgOk p L) (keep : Int) :
    Lib.lastIndexByte ⟨(L.text.take (L.keepN keep)).toArray⟩ 10 + 1 = ((recsText (L.crash keep).done).length : Int) ∧ (L.text.take (L.keepN keep)).take (recsText (L.crash keep).done).length = recsText (L.crash keep).done ∧ (recsText (L.crash keep).done).length ≤ (L.text.take (L.keepN keep)).length := by
  obtain ⟨R, hR, hno⟩ := whole_split L.done L.part (L.keepN keep) hL.part
  have hR' : L.text.take (L.keepN keep) = recsText (L.crash keep).done ++ R := hR
  rw [hR']
  refine ⟨?_, ?_, ?_⟩
  · rw [last_nl (recs_end _) hno]; omega
  · simp
  · simp
section
variable {w0 w : World} {lb : Nat} {m : PM} {L : Lg}
set_option maxHeartbeats 4000000 in
theorem lgcrash_any (he : planChk m.pl = 0) (hL : LgOk m.pl L) (hfew : L.done.length ≤ 1000) (hf : Forms w0) (hd : Desk w0) (keep : Int) (h : LgAt w0 w lb m L) :
    Calls Tryz.prog 39 #[.pointer (some ⟨lb, 0, none⟩), .int .i64 keep] w fun e w' => e = .returned (.tuple #[]) ∧ LgAt w0 w' lb m (L.crash keep) := by
  have hp := planChk_ok he
  obtain ⟨kb, M, hst⟩ := h
  obtain ⟨_, c5, c6, _, _, hl, _⟩ := lg_cells hst
  obtain ⟨e1, e2, e3⟩ := keepN_eq hL keep
  obtain ⟨g1, g2, g3⟩ := crash_cut hL keep
  have htl := Lg.text_le hp.most5 hL
  obtain ⟨TX, hTX⟩ : ∃ TX : ByteArray, TX = ⟨L.text.toArray⟩ := ⟨_, rfl⟩
  have hTXs : TX.size = L.text.length := by rw [hTX, Lib.size_eq]
  have hc := Lg.crash_ok hL keep
  obtain ⟨L2, hL2⟩ : ∃ L2, L2 = L.crash keep := ⟨_, rfl⟩
  rw [← hL2] at g1 g2 g3 hc ⊢
  obtain ⟨K, hK⟩ : ∃ K, K = L.keepN keep := ⟨_, rfl⟩
  rw [← hK] at e1 e2 e3 g1 g2 g3
  obtain ⟨sf, hsf⟩ : ∃ sf, sf = L.safe := ⟨_, rfl⟩
  rw [← hsf] at c6 e1 e3
  unfold txt at c5
  rw [← hTX] at c5
  rw [← hTXs] at e1 e2 htl
  obtain ⟨C, hC⟩ : ∃ C, C = (recsText L2.done).length := ⟨_, rfl⟩
  rw [← hC] at g1 g2 g3
  obtain ⟨B1, hB1⟩ : ∃ B1 : ByteArray, B1 = TX.extract 0 K := ⟨_, rfl⟩
  have hB1l : B1 = ⟨(L.text.take K).toArray⟩ := by rw [hB1, Lib.extract_eq, hTX]; simp
  have hB1s : B1.size = (L.text.take K).length := by rw [hB1l, Lib.size_eq]
  rw [← hB1l] at g1
  rw [← hB1s] at g3
  obtain ⟨B2, hB2⟩ : ∃ B2 : ByteArray, B2 = B1.extract 0 C := ⟨_, rfl⟩
  have hB2l : B2.data.toList = recsText L2.done := by
    rw [hB2, Lib.extract_eq, hB1l]
    simp only [List.drop_zero, Nat.sub_zero]
    exact g2
  have hB2s : B2.size = C := by rw [Lib.size_eq, hB2l, hC]
  have HLI : Hid (∀ w', Calls Tryz.prog 98 #[.string B1, .string ⟨#[10]⟩] w' fun e w'' => e = .returned (.int .i64 ((C : Int) - 1)) ∧ w' = w'') := hid fun w' => by
    have hs1 : (⟨#[10]⟩ : ByteArray).size = 1 := rfl
    refine (Tryz.strings_LastIndex_one B1 ⟨#[10]⟩ hs1 (by rw [hB1s, List.length_take]; omega) w').mono ?_
    rintro e w'' ⟨rfl, rfl⟩
    refine ⟨?_, rfl⟩
    have e4 : (((⟨#[10]⟩ : ByteArray)[0]'(by omega)).toNat : Int) = 10 := rfl
    rw [e4, show Lib.lastIndexByte B1 10 = (C : Int) - 1 by omega]
  have HREDO : Hid (∀ w', Stand w0 w' [kTh kb m.pl M (runRecs m.pl L.done), lgT lb m kb L, planT m] → Calls Tryz.prog 99 #[.pointer (some ⟨lb, 0, none⟩), .string B2] w' fun e w'' => ∃ kb2 M2, e = .returned (.tuple #[.pointer (some ⟨kb2, 0, none⟩), .nilIface]) ∧ Stand w0 w'' [kTh kb2 m.pl M2 (runRecs m.pl L2.done), kTh kb m.pl M (runRecs m.pl L.done), lgT lb m kb L, planT m]) := hid fun w' hs => by
    refine redo_any (fun t ht => ?_) hs (show w'.heap[lb]? = some (.cells (lgCells m kb L) 174 (0, 0)) from (hs.get (i := 1) rfl).here) (hs.get (i := 2) rfl).here he hf hd L2.done hc.recs ?_ B2 hB2l ?_
    · simp only [List.mem_cons, List.mem_nil_iff, or_false] at ht
      rcases ht with rfl | rfl | rfl
      · exact celled_k _ _ _ _ _ _ _
      · exact celled_blk _ rfl
      · exact celled_plan _
    · rw [hL2]
      unfold Lg.crash
      exact Nat.le_trans (List.length_take_le' _ _) hfew
    · rw [hB2s]; rw [hB1s, List.length_take] at g3; omega
  have q1 : (C : Int) ≤ B1.size := by omega
  have q2 : IntKind.i64.wrap ((TX.size : Int) - sf) = (TX.size : Int) - sf := IntWalk.i64_in _ (by omega)
  have q3 : IntKind.i64.wrap ((sf : Int) + max 0 (min keep ((TX.size : Int) - sf))) = (K : Int) := by rw [e1]; exact IntWalk.i64_in _ (by omega)
  have HST := hid hst
  have HL2 := hid hL2
  have HB1 := hid hB1
  have HB2E := hid hB2
  have HB2 := hid hB2l
  have HB2S := hid hB2s
  have HCE := hid hC
  have q4 : TX.size ≤ 20000 := by omega
  have q5 : C ≤ 20000 := by rw [hB1s, List.length_take] at g3; omega
  clear hst hL hfew hf hd hp he hc g1 g2 htl hTX hTXs hL2 hK hsf hC hB1 hB1l hB1s hB2l hB2s hB2
  go_enter Tryz.func39, Tryz.ntmps39
  go_wp2_with fail
  go_region
  rw [← HB1.out]
  have q6 : IntKind.i64.wrap ((C : Int) - 1 + 1) = (C : Int) := by rw [IntWalk.i64_in _ (by omega)]; omega
  have q7 : (C : Int) - 1 + 1 = (C : Int) := by omega
  obtain ⟨wd, hwd⟩ : ∃ wd, wd = w.drew := ⟨_, rfl⟩
  have HSD : Hid (Stand w0 wd [kTh kb m.pl M (runRecs m.pl L.done), lgT lb m kb L, planT m]) := by rw [hwd]; exact HST.out.new (Below.refl _ _).drew
  rw [← hwd]
  clear hwd c5 c6
  go_wp2_with (first
    | (go_at_call 98; refine (HLI.out _).mono ?_; rintro e w1 ⟨rfl, rfl⟩)
    | (go_at_call 99; rw [← HB2E.out]; refine (HREDO.out _ HSD.out).mono ?_; rintro e w2 ⟨kb2, M2, rfl, hs2⟩; have HS2 := hid hs2; have hc := lg_cells (hs2.pick3 1 2 3 rfl rfl rfl (by decide) (by decide) (by decide)); obtain ⟨c4, c5, c6, c7, c8, hl2, fz⟩ := hc; have f4 := fz 4; have f5 := fz 5; have f6 := fz 6; have f7 := fz 7; have f8 := fz 8; clear fz hs2 HREDO))
  have hx : w2.heap[lb]? = some (.cells (lgCells m kb L) 174 (0, 0)) := (HS2.out.get (i := 2) rfl).here
  have htx : txt L2.text = .string B2 := by
    have e5 : L2.text = recsText L2.done := by
      rw [HL2.out]
      show recsText (L.crash keep).done ++ [] = _
      rw [List.append_nil]
    rw [e5]
    unfold txt
    rw [← bytes_of HB2.out]
  have hsf : L2.safe = B2.size := by rw [HB2S.out, HCE.out, HL2.out]; rfl
  have hlf : L2.left = -1 := by rw [HL2.out]; rfl
  have hsp : L2.stopped = false := by rw [HL2.out]; rfl
  obtain ⟨w9, hw9⟩ : ∃ w9, w9 = ((((w2.setCell ⟨lb, 4, none⟩ (.pointer (some ⟨kb2, 0, none⟩))).setCell ⟨lb, 5, none⟩ (.string B2)).setCell ⟨lb, 6, none⟩ (.int .i64 B2.size)).setCell ⟨lb, 7, none⟩ (.int .i64 (-1))).setCell ⟨lb, 8, none⟩ (.bool false) := ⟨_, rfl⟩
  have hx9 : w9.heap[lb]? = some (.cells (lgCells m kb2 L2) 174 (0, 0)) := by
    rw [hw9]
    refine (blk_set (blk_set (blk_set (blk_set (blk_set hx 4 (.pointer (some ⟨kb2, 0, none⟩))) 5 (.string B2)) 6 (.int .i64 B2.size)) 7 (.int .i64 (-1))) 8 (.bool false)).trans ?_
    unfold lgCells
    rw [htx, hsf, hlf, hsp]
    rfl
  have hk9 : Keep (fun j => j = lb) w2 w9 := by
    rw [hw9]
    exact (((((Keep.refl (fun j => j = lb) w2).setCell (.inl rfl) _).setCell (.inl rfl) _).setCell (.inl rfl) _).setCell (.inl rfl) _).setCell (.inl rfl) _
  rw [← hw9]
  clear hw9
  go_end0
  exact ⟨rfl, kb2, M2, (HS2.out.go 2 rfl (lg_went hk9 hx9)).pick3 0 2 3 rfl rfl rfl (by decide) (by decide) (by decide)⟩
end
end Go.Proofs.YthafahnlfpkkbaaGreatDoor
