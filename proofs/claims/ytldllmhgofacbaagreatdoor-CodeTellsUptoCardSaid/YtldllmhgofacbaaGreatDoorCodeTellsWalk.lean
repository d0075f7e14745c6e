/- The walk of framelaw1.CodeTells: it returns true at every input. -/
import Derived.Test.YtldllmhgofacbaaGreatDoorROpRead
import Derived.Test.YtldllmhgofacbaaGreatDoorParseW
import Derived.Test.YtldllmhgofacbaaGreatDoorCodeBackLaw
import Derived.Test.YtldllmhgofacbaaGreatDoorSamePlan
import Derived.Test.YtldllmhgofacbaaGreatDoorWiresW
import Derived.Test.YtldllmhgofacbaaGreatDoorDoorU
import Derived.Deep.DeepCutAuto
namespace Go.Proofs.YtldllmhgofacbaaGreatDoor
open Go.RowKit
set_option maxRecDepth 100000

/-- A row of ops handed back, and an error. -/
def ReadRow (w : World) (ll : List Op) (v : Value) (e : Ending) (w' : World) : Prop := ∃ A n c, e = .returned (.tuple #[.slice A n c, v]) ∧ n = ll.length ∧ Row w' 42 3 A n c (ll.flatMap Op.cells) ∧ Below w.heap.size w w'
/-- The program and the reference read the same. -/
theorem both_read (t : ByteArray) (ht : t.size ≤ 1073741824) : ∃ (ll : List Op) (E : Int), ll.length ≤ 20 ∧ (∀ w, Calls Tryz.prog 36 #[.string t] w (ReadRow w ll (.int .i64 E))) ∧ (∀ w, Forms w → Names w → Desk w → Calls Tryz.prog 37 #[.string t] w (ReadRow w ll (errV E))) := by
  by_cases h : ∃ l : List Op, (∀ o ∈ l, WfOp o) ∧ codeText l = t.data.toList
  · obtain ⟨l, hwf, hct⟩ := h
    by_cases hc : (codeChk l).2 = 0
    · refine ⟨l, 0, (codeChk_ok hc).2.1, fun w => ?_, fun w h1 h2 h3 => ?_⟩
      · refine (rreadcode_any t ht w).mono ?_
        rintro e w' ⟨hb, ⟨l', A, n, c, g1, g2, g3, g4, rfl, g5⟩ | ⟨l', g1, g2, g3, rfl⟩ | ⟨g, rfl⟩⟩
        · have := code_inj g1 hwf (g2.trans hct.symm); subst this
          exact ⟨A, n, c, rfl, g4.symm, g5, hb⟩
        · have := code_inj g1 hwf (g2.trans hct.symm); subst this
          exact absurd hc g3
        · exact absurd hct (g l hwf)
      · refine (parse_any t ht w h1 h2 h3).mono ?_
        rintro e w' ⟨hb, ⟨l', A, n, c, g1, g2, g3, g4, rfl, g5, _⟩ | ⟨l', g1, g2, g3, rfl⟩ | ⟨g, rfl⟩⟩
        · have := code_inj g1 hwf (g2.trans hct.symm); subst this
          exact ⟨A, n, c, by rw [errV_zero], g4.symm, g5, hb⟩
        · have := code_inj g1 hwf (g2.trans hct.symm); subst this
          exact absurd hc g3
        · exact absurd hct (g l hwf)
    · refine ⟨[], (codeChk l).2, by simp, fun w => ?_, fun w h1 h2 h3 => ?_⟩
      · refine (rreadcode_any t ht w).mono ?_
        rintro e w' ⟨hb, ⟨l', A, n, c, g1, g2, g3, g4, rfl, g5⟩ | ⟨l', g1, g2, g3, rfl⟩ | ⟨g, rfl⟩⟩
        · have := code_inj g1 hwf (g2.trans hct.symm); subst this
          exact absurd g3 hc
        · have := code_inj g1 hwf (g2.trans hct.symm); subst this
          exact ⟨none, 0, 0, rfl, rfl, Row.nil _ _ _, hb⟩
        · exact absurd hct (g l hwf)
      · refine (parse_any t ht w h1 h2 h3).mono ?_
        rintro e w' ⟨hb, ⟨l', A, n, c, g1, g2, g3, g4, rfl, g5, _⟩ | ⟨l', g1, g2, g3, rfl⟩ | ⟨g, rfl⟩⟩
        · have := code_inj g1 hwf (g2.trans hct.symm); subst this
          exact absurd g3 hc
        · have := code_inj g1 hwf (g2.trans hct.symm); subst this
          exact ⟨none, 0, 0, rfl, rfl, Row.nil _ _ _, hb⟩
        · exact absurd hct (g l hwf)
  · refine ⟨[], 2, by simp, fun w => ?_, fun w h1 h2 h3 => ?_⟩
    · refine (rreadcode_any t ht w).mono ?_
      rintro e w' ⟨hb, ⟨l', A, n, c, g1, g2, g3, g4, rfl, g5⟩ | ⟨l', g1, g2, g3, rfl⟩ | ⟨g, rfl⟩⟩
      · exact absurd ⟨l', g1, g2⟩ h
      · exact absurd ⟨l', g1, g2⟩ h
      · exact ⟨none, 0, 0, rfl, rfl, Row.nil _ _ _, hb⟩
    · refine (parse_any t ht w h1 h2 h3).mono ?_
      rintro e w' ⟨hb, ⟨l', A, n, c, g1, g2, g3, g4, rfl, g5, _⟩ | ⟨l', g1, g2, g3, rfl⟩ | ⟨g, rfl⟩⟩
      · exact absurd ⟨l', g1, g2⟩ h
      · exact absurd ⟨l', g1, g2⟩ h
      · exact ⟨none, 0, 0, rfl, rfl, Row.nil _ _ _, hb⟩
/-- The ports of code that is right; none else. -/
def portsE (E : Int) (l : List Op) (k : Int) : List Int := if E = 0 then portsL l k [] else []
/-- Two rows of numbers and an error. -/
def TwoRows (w : World) (P Q : List Int) (v : Value) (e : Ending) (w' : World) : Prop := ∃ A B n m c d, e = .returned (.tuple #[.slice A n c, .slice B m d, v]) ∧ n = P.length ∧ m = Q.length ∧ Row w' 3 1 A n c (ints P) ∧ Row w' 3 1 B m d (ints Q) ∧ Below w.heap.size w w'
theorem wires_uni (A : Option Addr) (c : Nat) (l : List Op) (w : World) (hf : Forms w) (hs : Sl w A 3 l.length (l.flatMap Op.cells)) (hsw : SlW A c l.length) :
    Calls Tryz.prog 34 #[.slice A l.length c] w (TwoRows w (portsE (codeChk l).2 l 8) (portsE (codeChk l).2 l 9) (errV (codeChk l).2)) := by
  refine (wires_any A c l w hf hs hsw).mono ?_
  rintro e w' (⟨h, rfl, hb⟩ | ⟨h, A2, B2, n, m, c2, d2, rfl, h1, h2, h3, h4, hb⟩)
  · have e1 : ∀ k, portsE (codeChk l).2 l k = [] := fun k => by unfold portsE; rw [if_neg h]
    rw [e1, e1]
    exact ⟨none, none, 0, 0, 0, 0, rfl, rfl, rfl, Row.nil _ _ _, Row.nil _ _ _, hb⟩
  · have e1 : ∀ k, portsE (codeChk l).2 l k = portsL l k [] := fun k => by unfold portsE; rw [if_pos h]
    rw [e1, e1, h, errV_zero]
    exact ⟨A2, B2, n, m, c2, d2, rfl, h1, h2, h3, h4, hb⟩
theorem codeTells_ret {w w' : World} {a : Act} (h : a.tmps[4]? = some (.bool true)) (hd : a.defers = []) (hb : Below w.heap.size w w') : bodyPost Tryz.prog Tryz.f6 (fun e w' => e = .returned (.bool true) ∧ Below w.heap.size w w') .ret a w' :=
  bodyPost_ret (v := .bool true) (by simp [results, Tryz.results6, go_sem, h]) hd ⟨rfl, hb⟩
theorem ports_few (E : Int) (l : List Op) (k : Int) (h : E = 0 → l.length ≤ 20) : (portsE E l k).length ≤ 20 := by
  unfold portsE
  split
  · rename_i he
    have := portsL_len k l []
    have := h he
    simp only [List.length_nil] at *
    omega
  · simp

set_option maxHeartbeats 8000000 in
theorem codeTells_walk {w : World} (hg : Handle w) (hf : Forms w) (hnm : Names w) (hd : Desk w) (A : Option Addr) (c : Nat) (l : List Op) (hs : Sl w A 3 l.length (l.flatMap Op.cells)) (hsw : SlW A c l.length) (t : ByteArray) (ht : t.size ≤ 1073741824) :
    Calls Tryz.prog 6 #[.slice A l.length c, .string t] w fun e w' => e = .returned (.bool true) ∧ Below w.heap.size w w' := by
  have HCODE := hid (rcode_any A c l w hs hsw)
  have HCHK : Hid (∀ w', Below w.heap.size w w' → Calls Tryz.prog 30 #[.slice A l.length c] w' (CodeFound w' (codeChk l))) := hid fun w' hb => code_check A c l w' (hf.new hb) (hs.new hb) hsw
  have HER : Hid (∀ e w', Below w.heap.size w w' → Calls Tryz.prog 13 #[errV e, .int .i64 e] w' fun ev w'' => ev = .returned (.bool true) ∧ Below w'.heap.size w' w'') := hid fun e w' hb => error_same e w' (hg.new hb)
  have HPR : Hid (∀ w', Below w.heap.size w w' → Calls Tryz.prog 33 #[.slice A l.length c] w' (Printed w' l)) := hid fun w' hb => print_any A c l w' (hf.new hb) (hnm.new hf hb) (hd.new hb).pows (pows_lt (hd.new hb).pows) (hs.new hb) hsw
  have HWI : Hid (∀ w', Below w.heap.size w w' → Calls Tryz.prog 34 #[.slice A l.length c] w' (TwoRows w' (portsE (codeChk l).2 l 8) (portsE (codeChk l).2 l 9) (errV (codeChk l).2))) := hid fun w' hb => wires_uni A c l w' (hf.new hb) (hs.new hb) hsw
  have HCT : Hid ((codeChk l).2 = 0 → ∀ w', Below w.heap.size w w' → Calls Tryz.prog 31 #[.slice A l.length c] w' fun e w'' => ∃ T : ByteArray, e = .returned (.string T) ∧ T.data.toList = codeText l ∧ Below w'.heap.size w' w'') := hid fun he w' hb => rcodetext_any A c l w' (wf_ok he) (hs.new hb) (codeChk_ok he).2.1
  have HPO : Hid ((codeChk l).2 = 0 → ∀ (k : Int) w', Below w.heap.size w w' → Calls Tryz.prog 32 #[.slice A l.length c, .int .i64 k] w' (Drawn w' (portsL l k []))) := hid fun he k w' hb => rports_any A l.length c l k w' (hs.new hb) (by have := (codeChk_ok he).2.1; omega) hsw.1
  have hl20 : (codeChk l).2 = 0 → l.length ≤ 20 := fun he => (codeChk_ok he).2.1
  obtain ⟨ll, E2, hll, hrr, hpp⟩ := both_read t ht
  have HRR := hid hrr
  have HPP : Hid (∀ w', Below w.heap.size w w' → Calls Tryz.prog 37 #[.string t] w' (ReadRow w' ll (errV E2))) := hid fun w' hb => hpp w' (hf.new hb) (hnm.new hf hb) (hd.new hb)
  unfold TellNI at HCODE
  unfold CodeFound at HCHK
  unfold Printed at HPR
  unfold TwoRows at HWI
  unfold ReadRow at HRR HPP
  unfold Drawn at HPO
  obtain ⟨⟨at0, E⟩, hq⟩ : ∃ q, q = codeChk l := ⟨_, rfl⟩
  rw [← hq] at HCODE HCHK HPR HWI HCT HPO hl20
  simp only [] at HCODE HCHK HPR HWI HCT HPO hl20
  have hp8 := ports_few E l 8 hl20
  have hp9 := ports_few E l 9 hl20
  obtain ⟨P8, hP8⟩ : ∃ P8, P8 = portsE E l 8 := ⟨_, rfl⟩
  obtain ⟨P9, hP9⟩ : ∃ P9, P9 = portsE E l 9 := ⟨_, rfl⟩
  rw [← hP8, ← hP9] at HWI
  rw [← hP8] at hp8
  rw [← hP9] at hp9
  obtain ⟨TX, hTX⟩ : ∃ TX : ByteArray, TX = ⟨(if E = 0 then codeText l else []).toArray⟩ := ⟨_, rfl⟩
  have HPR2 : Hid (∀ w', Below w.heap.size w w' → Calls Tryz.prog 33 #[.slice A l.length c] w' fun e w'' => e = .returned (.tuple #[.string TX, errV E]) ∧ Below w'.heap.size w' w'') := hid fun w' hb => by rw [hTX]; exact HPR.out w' hb
  have HP8 := hid hP8
  have HP9 := hid hP9
  have HTX := hid hTX
  have HLL := hid hll
  obtain ⟨n, hn⟩ : ∃ n, n = l.length := ⟨_, rfl⟩
  rw [← hn] at HCODE HCHK HPR2 HWI HCT HPO ⊢
  clear hg hf hnm hd hs hsw hl20 hrr hpp hq hP8 hP9 hTX HPR hn hll
  go_enter Tryz.func6, Tryz.ntmps6
  go_upto_if 40 with (first
    | (go_at_call 29; refine HCODE.out.mono ?_; rintro e w1 ⟨rfl, hb1⟩; have HB := hid hb1; clear hb1 HCODE)
    | (go_at_call 30; refine (HCHK.out _ HB.out).mono ?_; rintro e w2 ⟨rfl, hb2⟩; replace HB := hid (HB.out.trans (hb2.mono HB.out.size)); clear hb2 HCHK)
    | (go_at_call 13; refine (HER.out _ _ HB.out).mono ?_; rintro e w3 ⟨rfl, hb3⟩; replace HB := hid (HB.out.trans (hb3.mono HB.out.size)); clear hb3))
  go_cut [10, 11, 12] (fun v10 v11 v12 wx => ∃ (A8 A9 : Option Addr) (n8 n9 c8 c9 : Nat), v10 = .string TX ∧ v11 = .slice A8 n8 c8 ∧ v12 = .slice A9 n9 c9 ∧ n8 = P8.length ∧ n9 = P9.length ∧ Row wx 3 1 A8 n8 c8 (ints P8) ∧ Row wx 3 1 A9 n9 c9 (ints P9) ∧ Below w.heap.size w wx)
  case first =>
    as_aux_lemma =>
    by_cases he : E = 0
    · have e8 : P8 = portsL l 8 [] := by rw [HP8.out]; unfold portsE; rw [if_pos he]
      have e9 : P9 = portsL l 9 [] := by rw [HP9.out]; unfold portsE; rw [if_pos he]
      have et : TX = ⟨(codeText l).toArray⟩ := by rw [HTX.out, if_pos he]
      have HCT2 := hid (HCT.out he)
      have HPO2 := hid (HPO.out he)
      have HE8 := hid e8
      have HE9 := hid e9
      have HET := hid et
      subst he
      clear e8 e9 et HCT HPO
      go_wp2_with fail
      refine (HCT2.out _ HB.out).mono ?_
      rintro e w4 ⟨T, rfl, hT, hb4⟩
      replace HB := hid (HB.out.trans (hb4.mono HB.out.size))
      have hTT : T = TX := by
        rw [HET.out]
        apply ByteArray.ext
        apply Array.ext'
        rw [hT]
      subst hTT
      clear hT hb4
      go_wp2_with fail
      refine (HPO2.out 8 _ HB.out).mono ?_
      rintro e w5 ⟨A8, n8, c8, rfl, hn8, hr8, _, hb5⟩
      replace HB := hid (HB.out.trans (hb5.mono HB.out.size))
      have HR8 := hid hr8
      have HN8 := hid hn8
      clear hr8 hb5 hn8
      go_wp2_with fail
      refine (HPO2.out 9 _ HB.out).mono ?_
      rintro e w6 ⟨A9, n9, c9, rfl, hn9, hr9, _, hb6⟩
      replace HB := hid (HB.out.trans (hb6.mono HB.out.size))
      have HR9 := hid hr9
      have HN9 := hid hn9
      have HR8' := hid (HR8.out.new hb6)
      clear hr9 hb6 hn9
      go_wp2_with fail
      go_meet
      refine ⟨A8, A9, n8, n9, c8, c9, rfl, rfl, rfl, ?_, ?_, ?_, ?_, HB.out⟩
      · rw [HE8.out]; exact HN8.out
      · rw [HE9.out]; exact HN9.out
      · rw [HE8.out]; exact HR8'.out
      · rw [HE9.out]; exact HR9.out
    · have e8 : P8 = [] := by rw [HP8.out]; unfold portsE; rw [if_neg he]
      have e9 : P9 = [] := by rw [HP9.out]; unfold portsE; rw [if_neg he]
      have et : TX = ⟨#[]⟩ := by rw [HTX.out, if_neg he]
      have hne : (E == 0) = false := by simpa using he
      have HE8 := hid e8
      have HE9 := hid e9
      have HET := hid et
      clear e8 e9 et he
      go_wp2_with fail
      go_meet
      refine ⟨none, none, 0, 0, 0, 0, ?_, rfl, rfl, ?_, ?_, ?_, ?_, HB.out⟩
      · rw [HET.out]
      · rw [HE8.out]; rfl
      · rw [HE9.out]; rfl
      · rw [HE8.out]; exact Row.nil _ _ _
      · rw [HE9.out]; exact Row.nil _ _ _
  case rest =>
    as_aux_lemma =>
    obtain ⟨A8, A9, n8, n9, c8, c9, rfl, rfl, rfl, hn8, hn9, hr8, hr9, hbc⟩ := hcut
    obtain ⟨wa, rfl⟩ : ∃ wa : World, wa = wc := ⟨_, rfl⟩
    have HR8 := hid hr8
    have HR9 := hid hr9
    have HN8 := hid hn8
    have HN9 := hid hn9
    replace HB := hid hbc
    have h8 : n8 ≤ 20 := by rw [hn8]; exact hp8
    have h9 : n9 ≤ 20 := by rw [hn9]; exact hp9
    clear hr8 hr9 hn8 hn9 hbc hp8 hp9
    go_upto_region 12 with (first
      | (go_at_call 33; refine (HPR2.out _ HB.out).mono ?_; rintro e w2 ⟨rfl, hb2⟩; replace HB := hid (HB.out.trans (hb2.mono HB.out.size)); replace HR8 := hid (HR8.out.new hb2); replace HR9 := hid (HR9.out.new hb2); clear hb2)
      | (go_at_call 13; refine (HER.out _ _ HB.out).mono ?_; rintro e w3 ⟨rfl, hb3⟩; replace HB := hid (HB.out.trans (hb3.mono HB.out.size)); replace HR8 := hid (HR8.out.new hb3); replace HR9 := hid (HR9.out.new hb3); clear hb3))
    go_upto_region 13 with (go_at_call 34; refine (HWI.out _ HB.out).mono ?_; rintro e w4 ⟨X8, X9, x8, x9, k8, k9, rfl, hx8, hx9, hrx8, hrx9, hb4⟩; replace HB := hid (HB.out.trans (hb4.mono HB.out.size)); replace HR8 := hid (HR8.out.new hb4); replace HR9 := hid (HR9.out.new hb4); have HX8 := hid hrx8; have HX9 := hid hrx9; have HQ8 := hid hx8; have HQ9 := hid hx9; clear hb4 hrx8 hrx9 hx8 hx9)
    obtain rfl : x8 = n8 := HQ8.out.trans HN8.out.symm
    obtain rfl : x9 = n9 := HQ9.out.trans HN9.out.symm
    have HS8 : Hid (∀ w', Below w4.heap.size w4 w' → Calls Tryz.prog 35 #[.slice X8 x8 k8, .slice A8 x8 c8] w' (Read w' (.bool true))) := hid fun w' hb => same_ints X8 A8 x8 k8 c8 P8 w' (HX8.out.new hb).sl (HR8.out.new hb).sl (by omega) (HX8.out.new hb).le.1 (HR8.out.new hb).le.1
    have HS9 : Hid (∀ w', Below w4.heap.size w4 w' → Calls Tryz.prog 35 #[.slice X9 x9 k9, .slice A9 x9 c9] w' (Read w' (.bool true))) := hid fun w' hb => same_ints X9 A9 x9 k9 c9 P9 w' (HX9.out.new hb).sl (HR9.out.new hb).sl (by omega) (HX9.out.new hb).le.1 (HR9.out.new hb).le.1
    have HBB := hid (Below.refl w4.heap.size w4)
    go_upto_region 14 with (go_at_call 13; refine (HER.out _ _ HB.out).mono ?_; rintro e w5 ⟨rfl, hb5⟩; replace HB := hid (HB.out.trans (hb5.mono HB.out.size)); replace HBB := hid (HBB.out.trans (hb5.mono HBB.out.size)); clear hb5)
    refine (HS8.out _ HBB.out).mono ?_
    rintro e w6 hrd
    obtain ⟨rfl, hb6⟩ := hrd.below
    replace HB := hid (HB.out.trans (hb6.mono HB.out.size))
    replace HBB := hid (HBB.out.trans (hb6.mono HBB.out.size))
    clear hb6 hrd
    go_upto_region 14 with fail
    refine (HS9.out _ HBB.out).mono ?_
    rintro e w6b hrd
    obtain ⟨rfl, hb6⟩ := hrd.below
    replace HB := hid (HB.out.trans (hb6.mono HB.out.size))
    clear hb6 hrd
    go_upto_region 14 with fail
    clear HS8 HS9 HBB HX8 HX9 HR8 HR9 HQ8 HQ9 HN8 HN9 HWI HPR2 HCT HPO
    go_upto_region 15 with (go_at_call 36; refine (HRR.out _).mono ?_; rintro e w7 ⟨Ar, nr, cr, rfl, hnr, hrr, hb7⟩; replace HB := hid (HB.out.trans (hb7.mono HB.out.size)); have HRW := hid hrr; have HNR := hid hnr; clear hb7 hrr hnr)
    go_upto_region 16 with (go_at_call 37; refine (HPP.out _ HB.out).mono ?_; rintro e w8 ⟨Ap, np, cp, rfl, hnp, hrp, hb8⟩; replace HB := hid (HB.out.trans (hb8.mono HB.out.size)); replace HRW := hid (HRW.out.new hb8); have HRP := hid hrp; have HNP := hid hnp; clear hb8 hrp hnp)
    obtain rfl : np = nr := HNP.out.trans HNR.out.symm
    have hnp20 : np ≤ 20 := by rw [HNP.out]; exact HLL.out
    have HSC : Hid (∀ w', Below w8.heap.size w8 w' → Calls Tryz.prog 38 #[.slice Ap np cp, .slice Ar np cr] w' (Read w' (.bool true))) := hid fun w' hb => same_code Ap Ar np cp cr ll w' (HRP.out.new hb).sl (HRW.out.new hb).sl (by omega) (HRP.out.new hb).le.1 (HRW.out.new hb).le.1
    have HBB := hid (Below.refl w8.heap.size w8)
    go_wp2_with (first
      | (go_at_call 13; refine (HER.out _ _ HB.out).mono ?_; rintro e w9 ⟨rfl, hb9⟩; replace HB := hid (HB.out.trans (hb9.mono HB.out.size)); replace HBB := hid (HBB.out.trans (hb9.mono HBB.out.size)); clear hb9)
      | (go_at_call 38; refine (HSC.out _ HBB.out).mono ?_; rintro e w10 hrd; obtain ⟨rfl, hb10⟩ := hrd.below; replace HB := hid (HB.out.trans (hb10.mono HB.out.size)); clear hb10 hrd))
    exact codeTells_ret rfl rfl HB.out
end Go.Proofs.YtldllmhgofacbaaGreatDoor
