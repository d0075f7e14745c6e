/- The walk of framelaw1.CodeBack: it returns true at every input. -/
import Derived.Test.YteneedblgaialaaDoorParseW
import Derived.Test.YteneedblgaialaaDoorCodeBackLaw
import Derived.Test.YteneedblgaialaaDoorSamePlan
namespace Go.Proofs.YteneedblgaialaaDoor
open Go.RowKit
set_option maxRecDepth 100000

theorem txt_of (t : ByteArray) : txt t.data.toList = .string t := rfl
theorem belowQ {B : Nat} {a w : World} (h : Below B a w) (n : Nat) : Below B a (w.drewN n) := ⟨h.os, h.tape, h.output, h.size, h.block⟩
theorem one_op1 (w : World) {x y z : Value} {T : Nat} : Sl (w.alloc (.cells #[x, y, z] T)) (some ⟨w.heap.size, 0, none⟩) 3 1 [x, y, z] := by
  have h := heap_alloc_new w (.cells #[x, y, z] T)
  refine ⟨rfl, fun _ => ⟨w.heap.size, 0, rfl, blk_lt h, fun j u hu => ?_⟩⟩
  rw [Nat.zero_add, blk_cell h]
  simpa using hu
theorem op_one (l : List Op) : ∀ u ∈ l.flatMap Op.cells, u.oneCell' = true := by
  intro u hu
  obtain ⟨o, _, ho⟩ := List.mem_flatMap.1 hu
  simp [Op.cells] at ho
  rcases ho with rfl | rfl | rfl <;> rfl
/-- The first text is read as it stands. -/
def FactGot (w : World) (e : Ending) (w' : World) : Prop :=
  ∃ (b off c : Nat), e = .returned (.tuple #[.slice (some ⟨b, off, none⟩) 3 c, .nilIface]) ∧ w'.cell? ⟨b, off + 2, none⟩ = some (.int .i64 5) ∧ w'.cell? ⟨b, off + 3, none⟩ = some (.int .i64 8) ∧ w'.cell? ⟨b, off + 7, none⟩ = some (.int .i64 0) ∧ Below w.heap.size w w'
theorem fact_any (w : World) (hf : Forms w) (hnm : Names w) (hd : Desk w) : Calls Tryd.prog 8 #[.string ⟨#[115, 101, 116, 32, 49, 32, 53, 10, 115, 101, 110, 100, 32, 49, 32, 48, 10, 106, 117, 109, 112, 32, 48, 10]⟩] w (FactGot w) := by
  have h0 : (⟨#[115, 101, 116, 32, 49, 32, 53, 10, 115, 101, 110, 100, 32, 49, 32, 48, 10, 106, 117, 109, 112, 32, 48, 10]⟩ : ByteArray).data.toList = codeText factOps := fact_text.symm
  refine (parse_any _ (by decide) w hf hnm hd).mono ?_
  rintro e w' ⟨hb, ⟨l, A, n, c, hwf, hct, hchk, hn, rfl, hrow, _⟩ | ⟨l, hwf, hct, hchk, rfl⟩ | ⟨hno, rfl⟩⟩
  · rw [h0] at hct
    have hl := code_inj hwf (wf_ok fact_ok) hct
    subst hl
    obtain rfl : n = 3 := by rw [← hn]; rfl
    obtain ⟨b, off, rfl, _, hx⟩ := hrow.sl.2 (by decide)
    exact ⟨b, off, c, rfl, hx 2 _ rfl, hx 3 _ rfl, hx 7 _ rfl, hb⟩
  · rw [h0] at hct
    have hl := code_inj hwf (wf_ok fact_ok) hct
    subst hl
    exact absurd fact_ok hchk
  · exact absurd h0.symm (hno factOps (wf_ok fact_ok))
/-- Any text, in short. -/
def TextGot (t : ByteArray) (w : World) (e : Ending) (w' : World) : Prop :=
  Below w.heap.size w w' ∧ ((∃ (l : List Op) (A : Option Addr) (n c : Nat), codeText l = t.data.toList ∧ (codeChk l).2 = 0 ∧ l.length = n ∧ (∀ o ∈ l, WfOp o) ∧ e = .returned (.tuple #[.slice A n c, .nilIface]) ∧ Row w' 23 3 A n c (l.flatMap Op.cells)) ∨ (∃ k : Int, k ≠ 0 ∧ e = .returned (.tuple #[.slice none 0 0, errV k])))
theorem text_any (t : ByteArray) (ht : t.size ≤ 1073741824) (w : World) (hf : Forms w) (hnm : Names w) (hd : Desk w) : Calls Tryd.prog 8 #[.string t] w (TextGot t w) := by
  refine (parse_any t ht w hf hnm hd).mono ?_
  rintro e w' ⟨hb, ⟨l, A, n, c, hwf, hct, hchk, hn, rfl, hrow, _⟩ | ⟨l, hwf, hct, hchk, rfl⟩ | ⟨hno, rfl⟩⟩
  · exact ⟨hb, .inl ⟨l, A, n, c, hct, hchk, hn, hwf, rfl, hrow⟩⟩
  · exact ⟨hb, .inr ⟨_, hchk, rfl⟩⟩
  · exact ⟨hb, .inr ⟨2, by decide, rfl⟩⟩
/-- Its own text is read as it was. -/
theorem own_text {l : List Op} (h : (codeChk l).2 = 0) (w : World) (hf : Forms w) (hnm : Names w) (hd : Desk w) : Calls Tryd.prog 8 #[txt (codeText l)] w fun e w' =>
    ∃ A c, e = .returned (.tuple #[.slice A l.length c, .nilIface]) ∧ Row w' 23 3 A l.length c (l.flatMap Op.cells) ∧ Below w.heap.size w w' := by
  have h20 := (codeChk_ok h).2.1
  have hle := text_le (wf_ok h)
  have h0 : (⟨(codeText l).toArray⟩ : ByteArray).data.toList = codeText l := rfl
  refine (parse_any _ (by rw [Lib.size_eq, h0]; omega) w hf hnm hd).mono ?_
  rintro e w' ⟨hb, ⟨l', A, n, c, hwf, hct, hchk, hn, rfl, hrow, _⟩ | ⟨l', hwf, hct, hchk, rfl⟩ | ⟨hno, rfl⟩⟩
  · have hl := code_inj hwf (wf_ok h) hct
    subst hl hn
    exact ⟨A, c, rfl, hrow, hb⟩
  · have hl := code_inj hwf (wf_ok h) hct
    subst hl
    exact absurd h hchk
  · exact absurd h0.symm (hno l (wf_ok h))

theorem codeBack_ret {w w' : World} {a : Act} (h : a.tmps[6]? = some (.bool true)) (hd : a.defers = []) (hb : Below w.heap.size w w') : bodyPost Tryd.prog Tryd.f4 (fun e w' => e = .returned (.bool true) ∧ Below w.heap.size w w') .ret a w' :=
  bodyPost_ret (v := .bool true) (by simp [results, Tryd.results4, go_sem, h]) hd ⟨rfl, hb⟩

set_option maxHeartbeats 8000000 in
theorem codeBack_walk {w : World} (hf : Forms w) (hnm : Names w) (hd : Desk w) (A : Option Addr) (c : Nat) (l : List Op) (hs : Sl w A 3 l.length (l.flatMap Op.cells)) (hsw : SlW A c l.length) (t : ByteArray) (ht : t.size ≤ 1073741824) (o : Op) :
    Calls Tryd.prog 4 #[.slice A l.length c, .string t, .agg #[.int .i64 o.what, .int .i64 o.a, .int .i64 o.b]] w fun e w' => e = .returned (.bool true) ∧ Below w.heap.size w w' := by
  obtain ⟨i0, hi0, hz0, hz1, hz2⟩ := info_parts Tryd.infoOpR
  have HF : Hid (∀ w', Below w.heap.size w w' → Forms w' ∧ Names w' ∧ Desk w') := hid fun w' hb => ⟨hf.new hb, hnm.new hf hb, hd.new hb⟩
  have HS := hid hs
  have HSW := hid hsw
  obtain ⟨what, oa, ob⟩ := o
  obtain ⟨n, hn⟩ : ∃ n, n = l.length := ⟨_, rfl⟩
  rw [← hn] at HS HSW ⊢
  have HN := hid hn
  obtain ⟨w1, hw1⟩ : ∃ w1, w1 = w.alloc (.cells #[.int .i64 what, .int .i64 oa, .int .i64 ob] 23) := ⟨_, rfl⟩
  have hb1 : Below w.heap.size w w1 := by rw [hw1]; exact (Below.refl _ _).alloc (Nat.le_refl _) _
  have hbox : w1.heap[w.heap.size]? = some (.cells #[.int .i64 what, .int .i64 oa, .int .i64 ob] 23 (0, 0)) := by rw [hw1]; exact heap_alloc_new w _
  have HB1 := hid hb1
  have HF1 : Hid (∀ w', Below w1.heap.size w1 w' → Forms w' ∧ Names w' ∧ Desk w') := hid fun w' hb => HF.out w' (hb1.trans (hb.mono hb1.size))
  have HS1 : Hid (∀ w', Below w1.heap.size w1 w' → Sl w' A 3 n (l.flatMap Op.cells)) := hid fun w' hb => Sl.new HS.out (hb1.trans (hb.mono hb1.size))
  have HBX : Hid (∀ w', Below w1.heap.size w1 w' → w'.cell? ⟨w.heap.size, 0, none⟩ = some (.int .i64 what) ∧ w'.cell? ⟨w.heap.size, 1, none⟩ = some (.int .i64 oa) ∧ w'.cell? ⟨w.heap.size, 2, none⟩ = some (.int .i64 ob) ∧ w.heap.size < w'.heap.size) := hid fun w' hb => by
    have h := (hb.block _ (blk_lt hbox)).trans hbox
    have x0 := blk_cell h 0
    have x1 := blk_cell h 1
    have x2 := blk_cell h 2
    simp at x0 x1 x2
    exact ⟨x0, x1, x2, blk_lt h⟩
  have HFACT := hid (fact_any w1 (HF.out w1 hb1).1 (HF.out w1 hb1).2.1 (HF.out w1 hb1).2.2)
  clear hf hnm hd hs hsw hn hb1 hbox HF HS
  go_enter Tryd.func4, Tryd.ntmps4
  go_wp2_with (go_at_call 8; rw [← hw1]; refine HFACT.out.mono ?_; rintro e w2 ⟨b2, off2, c2, rfl, x2, x3, x7, hb2⟩; have HV2 := hid hb2; have hl2 := cell_lt x2; clear hb2 hw1 HFACT)
  have HTXT := hid (text_any t ht w2 (HF1.out w2 HV2.out).1 (HF1.out w2 HV2.out).2.1 (HF1.out w2 HV2.out).2.2)
  clear x2 x3 x7 hl2
  refine HTXT.out.mono ?_
  rintro e w3 ⟨hb3, ⟨lx, Ax, nx, cx, htx, hcx, hnx, _, rfl, hrx⟩ | ⟨k, hk, rfl⟩⟩
  case' inl =>
    have hbw3 := HV2.out.trans (hb3.mono HV2.out.size)
    have hpx := print_any Ax cx lx w3 (HF1.out w3 hbw3).1 (HF1.out w3 hbw3).2.1 (HF1.out w3 hbw3).2.2.pows (pows_lt (HF1.out w3 hbw3).2.2.pows) (by rw [hnx]; exact hrx.sl) (by rw [hnx]; exact row_slW hrx)
    unfold Printed at hpx
    rw [hnx, if_pos hcx, hcx, errV_zero, htx, txt_of] at hpx
    have HPX := hid hpx
    have HV3 := hid hbw3
    clear hb3 htx hcx hnx hrx hbw3 hpx
    go_wp2_with (go_at_call 6; refine HPX.out.mono ?_; rintro e w4 ⟨rfl, hb4⟩; have HV4 := hid (HV3.out.trans (hb4.mono HV3.out.size)); clear hb4 HPX)
  case' inr =>
    obtain ⟨w4, rfl⟩ : ∃ w4, w4 = w3 := ⟨_, rfl⟩
    have HV4 := hid (HV2.out.trans (hb3.mono HV2.out.size))
    rw [errV_pos hk]
    clear hb3
    go_wp2_with fail
  all_goals
    have hpl := print_any A c l w4 (HF1.out w4 HV4.out).1 (HF1.out w4 HV4.out).2.1 (HF1.out w4 HV4.out).2.2.pows (pows_lt (HF1.out w4 HV4.out).2.2.pows) (by rw [← HN.out]; exact HS1.out w4 HV4.out) (by rw [← HN.out]; exact HSW.out)
    unfold Printed at hpl
    rw [← HN.out] at hpl
    by_cases he : (codeChk l).2 = 0
    · rw [if_pos he, he, errV_zero] at hpl
      refine hpl.mono ?_
      rintro e w5 ⟨rfl, hb5⟩
      have HV5 := hid (HV4.out.trans (hb5.mono HV4.out.size))
      clear hb5 hpl
      go_wp2_with fail
      refine (own_text he w5 (HF1.out w5 HV5.out).1 (HF1.out w5 HV5.out).2.1 (HF1.out w5 HV5.out).2.2).mono ?_
      rw [← HN.out]
      rintro e w6 ⟨A6, c6, rfl, hrow6, hb6⟩
      have h20 := (codeChk_ok he).2.1
      rw [← HN.out] at h20
      have HV6 := hid (HV5.out.trans (hb6.mono HV5.out.size))
      have HSAME := hid (same_code A6 A n c6 c l w6 hrow6.sl (HS1.out w6 HV6.out) (by omega) hrow6.le.1 HSW.out.1)
      clear hrow6 hb6
      go_wp2_with (go_at_call 9; refine HSAME.out.mono ?_; rintro e w7 ⟨rfl, nq, hw7⟩; have HV7 : Hid (Below w1.heap.size w1 w7) := hid (by rw [hw7]; exact belowQ HV6.out nq); obtain ⟨x0, x1, x2, hlx⟩ := HBX.out w7 HV7.out; clear hw7 HSAME)
      have hw8 : Below w1.heap.size w1 (w7.alloc (.cells #[.int .i64 what, .int .i64 oa, .int .i64 ob] 23)) := HV7.out.alloc HV7.out.size _
      refine (code_check (some ⟨w7.heap.size, 0, none⟩) 1 [⟨what, oa, ob⟩] _ (HF1.out _ hw8).1 (one_op1 w7) ⟨Nat.le_refl _, by decide, fun h => by cases h⟩).mono ?_
      rintro e w9 ⟨rfl, hb9⟩
      have HV9 := hid (hw8.trans (hb9.mono hw8.size))
      obtain ⟨E1, hE1⟩ : ∃ E1, (codeChk [⟨what, oa, ob⟩]).2 = E1 := ⟨_, rfl⟩
      obtain ⟨P1, hP1⟩ : ∃ P1, (codeChk [⟨what, oa, ob⟩]).1 = P1 := ⟨_, rfl⟩
      rw [hE1, hP1]
      have HE1 := hid hE1
      clear hw8 hb9 x0 x1 x2 hlx hE1 hP1
      obtain ⟨x0, x1, x2, hlx⟩ := HBX.out w9 HV9.out
      go_upto_region 17 with fail
      generalize hA0 : (none : Option Addr) = A0
      have HR0 : Hid (∀ w', Row w' 23 3 A0 0 0 []) := hid fun w' => by rw [← hA0]; exact Row.nil _ _ _
      have HN0 : Hid (∀ j, ¬ InA A0 j) := hid fun j => by rw [← hA0]; simp [InA]
      clear hA0
      go_wp2_with (at_builtin; refine wpList_append_row _ rfl _ _ 28 rfl 23 i0 (.agg #[.int .i64 0, .int .i64 0, .int .i64 0]) 3 24 Tryd.underlying28 hi0 hz0 hz1 hz2 rfl (by decide) A0 0 0 [] rfl (HR0.out _) A n c (l.flatMap Op.cells) rfl (HS1.out w9 HV9.out) (op_one l) (by unfold maxLen; omega) (by omega) ?_)
      intro A10 c10 w10 hr10 hk10 hi10
      have hb10 : Below w9.heap.size w9 w10 := Keep.below hk10 (Nat.le_refl _) fun i hi => absurd hi (HN0.out i)
      have HR10 := hid hr10
      have HN10 : Hid (∀ k, InA A10 k → w9.heap.size ≤ k) := hid fun k hk => (hi10 k hk).resolve_left (HN0.out k)
      have HV10 := hid (HV9.out.trans (hb10.mono HV9.out.size))
      clear hr10 hk10 hi10 hb10 x0 x1 x2 hlx
      obtain ⟨x0, x1, x2, hlx⟩ := HBX.out w10 HV10.out
      go_wp2_with (at_builtin; refine wpList_append_row _ rfl _ _ 28 rfl 23 i0 (.agg #[.int .i64 0, .int .i64 0, .int .i64 0]) 3 24 Tryd.underlying28 hi0 hz0 hz1 hz2 rfl (by decide) A10 n c10 (l.flatMap Op.cells) rfl (HR10.out.alloc _) (some ⟨w10.heap.size, 0, none⟩) 1 1 [.int .i64 what, .int .i64 oa, .int .i64 ob] rfl (one_op1 w10) (by intro u hu; simp at hu; rcases hu with rfl | rfl | rfl <;> rfl) (by unfold maxLen; omega) (by omega) ?_)
      intro A11 c11 w11 hr11 hk11 hi11
      have hb11 : Below w1.heap.size w1 w11 := (HV10.out.alloc HV10.out.size _).trans (Keep.below hk11 (by have := HV10.out.size; simp; omega) fun i hi => Nat.le_trans HV9.out.size (HN10.out i hi))
      have hlen : (l ++ [(⟨what, oa, ob⟩ : Op)]).length = n + 1 := by rw [List.length_append, ← HN.out]; rfl
      have hchk := code_check A11 c11 (l ++ [⟨what, oa, ob⟩]) w11 (HF1.out w11 hb11).1 (by rw [hlen, List.flatMap_append]; exact hr11.sl) (by rw [hlen]; exact row_slW hr11)
      rw [hlen] at hchk
      have HCHK := hid hchk
      have HV11 := hid hb11
      have HMORE : Hid (E1 = 0 → n < 20 → (codeChk (l ++ [⟨what, oa, ob⟩])).2 = 0) := hid fun h1 h2 => chk_more he (HE1.out.trans h1) (by rw [← HN.out]; exact h2)
      clear hr11 hk11 hi11 hb11 hlen hchk
      go_wp2_with fail
      refine HCHK.out.mono ?_
      rintro e w12 ⟨rfl, hb12⟩
      have HV12 := hid (HV11.out.trans (hb12.mono HV11.out.size))
      obtain ⟨E2, hE2⟩ : ∃ E2, (codeChk (l ++ [⟨what, oa, ob⟩])).2 = E2 := ⟨_, rfl⟩
      obtain ⟨P2, hP2⟩ : ∃ P2, (codeChk (l ++ [⟨what, oa, ob⟩])).1 = P2 := ⟨_, rfl⟩
      rw [hE2, hP2]
      rw [hE2] at HMORE
      clear hb12 HCHK hE2 hP2
      by_cases hE1 : E1 = 0
      · subst hE1
        rw [errV_zero]
        by_cases h20' : n < 20
        · rw [HMORE.out rfl h20', errV_zero]
          have d20 : decide ((20 : Int) ≤ ↑n) = false := decide_eq_false (by omega)
          go_wp2_with fail
          exact codeBack_ret rfl rfl (HB1.out.trans (HV12.out.mono HB1.out.size))
        · have d20 : decide ((20 : Int) ≤ ↑n) = true := decide_eq_true (by omega)
          go_wp2_with fail
          exact codeBack_ret rfl rfl (HB1.out.trans (HV12.out.mono HB1.out.size))
      · rw [errV_pos hE1]
        go_wp2_with fail
        exact codeBack_ret rfl rfl (HB1.out.trans (HV12.out.mono HB1.out.size))
    · rw [if_neg he, errV_pos he] at hpl
      refine hpl.mono ?_
      rintro e w5 ⟨rfl, hb5⟩
      have HV5 := hid (HV4.out.trans (hb5.mono HV4.out.size))
      clear hb5 hpl
      go_wp2_with fail
      exact codeBack_ret rfl rfl (HB1.out.trans (HV5.out.mono HB1.out.size))
end Go.Proofs.YteneedblgaialaaDoor
