/- The walk of framelaw3.RunAnswers: it returns true at every input. Conditions: the tables and variables that the row lists. -/
import Derived.Test.YthdmgighblhmhaaGreatDoorRunRun
import Derived.Test.YthdmgighblhmhaaGreatDoorRRunU
import Derived.BigQuiet
import Derived.Deep.DeepCutAuto
namespace Go.Proofs.YthdmgighblhmhaaGreatDoor
open Go.RowKit
set_option maxRecDepth 100000

def RunSaid (s : ByteArray) (w : World) (e : Ending) (w' : World) : Prop := ∃ T : ByteArray, e = .returned (.string T) ∧ T.data.toList = runA s.data.toList ∧ Below w.heap.size w w'
theorem run_said {w : World} (hg : Handle w) (hf : Forms w) (hd : Desk w) (hu : Unread w) (s : ByteArray) (hs : s.size ≤ 3000) : Calls Tryz.prog 6 #[.string s] w (RunSaid s w) := by
  refine (run_any hg hf hd hu s hs).mono ?_
  rintro e w' ⟨rfl, hb⟩
  exact ⟨_, rfl, rfl, hb⟩
theorem same_bytes {T S : ByteArray} (h : T.data.toList = S.data.toList) : T = S := by
  cases T with
  | mk d => cases S with
    | mk d2 => simp only at h; rw [Array.ext' h]
theorem both_list (a b : ByteArray) : (a ++ b).data.toList = a.data.toList ++ b.data.toList := by rw [ByteArray.data_append, Array.toList_append]
theorem endCut_take (P : List (List UInt8)) : endCut P = P.take (endCut P).length := by
  unfold endCut
  split
  · rw [List.length_dropLast, List.dropLast_eq_take]
  · rw [List.take_length]
theorem endCut_len (P : List (List UInt8)) : (endCut P).length = if P.getLast? = some [] then P.length - 1 else P.length := by
  unfold endCut
  split
  · rw [List.length_dropLast]
  · rfl
/-- A text's lines, cut. -/
def CutGot (P : List (List UInt8)) (n : Nat) (w : World) (e : Ending) (w' : World) : Prop := ∃ b off cap, e = .returned (.slice (some ⟨b, off, none⟩) n cap) ∧ Row w' 9 1 (some ⟨b, off, none⟩) n cap (P.map txt) ∧ Below w.heap.size w w'
theorem cut_got (s : ByteArray) {P : List (List UInt8)} {n : Nat} (h : cutA 10 [] s.data.toList = P) (hn : P.length = n) (hs : s.size ≤ 1099511627776) (w : World) :
    Calls Tryz.prog 7 #[.string s, .int .u8 10] w (CutGot P n w) := by
  have hne := cutA_ne 10 s.data.toList []
  subst h
  subst hn
  refine (cut_any s 10 w hs).mono ?_
  rintro e w' ⟨A, cap, rfl, h1, _, h2⟩
  obtain ⟨b, off, rfl, _, _⟩ := h1.sl.2 (List.length_pos_iff.2 hne)
  exact ⟨b, off, cap, rfl, h1, h2⟩
theorem cut_text {w : World} {b off n c : Nat} {P : List (List UInt8)} (h : Row w 9 1 (some ⟨b, off, none⟩) n c (P.map txt)) {i : Nat} {s : List UInt8} (hs : P[i]? = some s) : b < w.heap.size ∧ w.cell? ⟨b, off + i, none⟩ = some (.string ⟨s.toArray⟩) := by
  have hl := h.sl.1
  rw [List.length_map] at hl
  have hi := (List.getElem?_eq_some_iff.1 hs).1
  obtain ⟨b', off', e, hb, hx⟩ := h.sl.2 (by omega)
  injection e with e
  injection e with e1 e2
  subst e1 e2
  exact ⟨hb, hx i _ (by rw [List.getElem?_map, hs]; rfl)⟩
set_option maxHeartbeats 8000000 in
theorem runAnswers_walk {w : World} (hg : Handle w) (hf : Forms w) (_ : Names w) (hd : Desk w) (hu : Unread w) (t : ByteArray) (_ : t.size ≤ maxLen) :
    Calls Tryz.prog 3 #[.string t] w fun e w' => e = .returned (.bool true) ∧ Below w.heap.size w w' := by
  by_cases hlong : 3000 < t.size
  · have HLG := hid (run_long t hlong w)
    have hl1 : (3000 : Int) < t.size := by omega
    clear hg hf hd hu hlong
    go_enter Tryz.func3, Tryz.ntmps3
    go_wp2_with (go_at_call 6; refine HLG.out.mono ?_; rintro e w2 ⟨rfl, rfl⟩)
    go_ret
    exact ⟨rfl, Below.refl _ _⟩
  have hs : t.size ≤ 3000 := by omega
  have HRUN := hid (run_said hg hf hd hu t hs)
  unfold RunSaid at HRUN
  obtain ⟨L, hL⟩ : ∃ L, L = t.data.toList := ⟨_, rfl⟩
  obtain ⟨P, hP⟩ : ∃ P, P = cutA 10 [] L := ⟨_, rfl⟩
  obtain ⟨n, hn⟩ : ∃ n, P.length = n := ⟨_, rfl⟩
  obtain ⟨q, hq⟩ : ∃ q, (endCut P).length = q := ⟨_, rfl⟩
  have hPne : P ≠ [] := by rw [hP]; exact cutA_ne _ _ _
  have hn1 : 1 ≤ n := by rw [← hn]; exact List.length_pos_iff.2 hPne
  have hLs : t.size = L.length := by rw [hL]; exact Lib.size_eq t
  have hql : endCut P = (linesOf L).map bare := by rw [hP, lines_cutA]
  have hq3 : q ≤ 3000 := by
    have := linesOf_few L
    rw [← hq, hql, List.length_map]; omega
  have hn3 : n ≤ 3001 := by
    have h1 := cutA_len 10 L []
    have h2 := List.count_le_length (a := (10 : UInt8)) (l := L)
    rw [← hP, hn] at h1
    omega
  have hqn : q = if P.getLast? = some [] then n - 1 else n := by rw [← hq, ← hn]; exact endCut_len P
  have HQN := hid hqn
  have hsz : ∀ x ∈ P, x.length ≤ 3000 := fun x hx => by
    have := cutA_le 10 L [] x (by rw [← hP]; exact hx)
    simp only [List.length_nil, Nat.zero_add] at this
    omega
  have HSZ := hid hsz
  have HCUT := hid (fun w' => cut_got t (P := P) (n := n) (by rw [← hL, ← hP]) hn (by omega) w')
  unfold CutGot at HCUT
  have HN := hid hn
  have HQ := hid hq
  have HQL := hid hql
  have HL := hid hL
  obtain ⟨z, hz⟩ : ∃ z, n = z + 1 := ⟨n - 1, by omega⟩
  have hzn : (n : Int) - 1 = z := by omega
  have hz1 : (0 : Int) ≤ z := by omega
  have hz2 : (z : Int) < n := by omega
  have hz3 : z < n := by omega
  obtain ⟨x, hx⟩ : ∃ x, P[z]? = some x := ⟨P[z]'(by omega), List.getElem?_eq_getElem _⟩
  have hlast : P.getLast? = some x := by rw [List.getLast?_eq_getElem?, hn, hz]; exact hx
  have HX := hid hx
  have HLAST := hid hlast
  have HZ := hid hz
  have h3000 : (t.size : Int) ≤ 3000 := by omega
  clear hg hf hd hu hlong hL hP hn hq hLs hql hqn hsz hz hx hlast hPne
  go_enter Tryz.func3, Tryz.ntmps3
  go_upto_region 4 with (go_at_call 6; refine HRUN.out.mono ?_; rintro e w1 ⟨T, rfl, hT, hb1⟩; have HT := hid hT; have HB1 := hid hb1; clear hT hb1 HRUN)
  go_upto_region 5 with (go_at_call 7; refine (HCUT.out w1).mono ?_; rintro e w2 ⟨lb, lo, lc, rfl, hr2, hb2⟩; have HR2 := hid hr2; have HB2 := hid (HB1.out.trans (hb2.mono HB1.out.size)); have hcl := hr2.le; clear hr2 hb2 HCUT)
  unfold maxLen at hcl
  obtain ⟨hcl1, hcl2⟩ := hcl
  obtain ⟨hlb, y0⟩ := cut_text HR2.out HX.out
  generalize hV : (⟨x.toArray⟩ : ByteArray) = V at y0
  have HV : Hid (V.toList = x) := hid (by rw [← hV, Lib.toList_data])
  clear hV
  have hzc : (z : Int) ≤ lc := by omega
  go_upto_if 24 with fail
  generalize hb24 : V.toList.isEmpty = b24
  have HB24 : Hid ((b24 = true ∧ q = z) ∨ (b24 = false ∧ q = n)) := hid (by
    rw [← hb24, HV.out, HQN.out, HLAST.out]
    cases x with
    | nil => rw [if_pos rfl, HZ.out]; exact .inl ⟨rfl, rfl⟩
    | cons _ _ => rw [if_neg (by simp)]; exact .inr ⟨rfl, rfl⟩)
  clear hb24
  go_cut [4] (fun v4 wx => (∃ lc' : Nat, v4 = .slice (some ⟨lb, lo, none⟩) q lc') ∧ wx = w2)
  case first =>
    as_aux_lemma =>
    cases b24 with
    | true =>
      go_wp2_with fail
      go_meet
      refine ⟨⟨lc, ?_⟩, rfl⟩
      rcases HB24.out with ⟨_, h⟩ | ⟨h, _⟩
      · rw [h]
      · cases h
    | false =>
      go_wp2_with fail
      go_meet
      refine ⟨⟨lc, ?_⟩, rfl⟩
      rcases HB24.out with ⟨h, _⟩ | ⟨_, h⟩
      · cases h
      · rw [h]
  obtain ⟨⟨lc', rfl⟩, rfl⟩ := hcut
  obtain ⟨w2, rfl⟩ : ∃ w' : World, w' = wc := ⟨_, rfl⟩
  have hqle : q ≤ n := by
    rw [HQN.out]; split <;> omega
  have HTK : Hid (∀ i : Nat, i < q → ∃ s, P[i]? = some s ∧ ((linesOf L).map bare)[i]? = some s) := hid fun i hi => by
    obtain ⟨s, hsi⟩ : ∃ s, P[i]? = some s := ⟨P[i]'(by rw [HN.out]; omega), List.getElem?_eq_getElem _⟩
    refine ⟨s, hsi, ?_⟩
    rw [← HQL.out, endCut_take, HQ.out, List.getElem?_take, if_pos hi]
    exact hsi
  have HLN : Hid (((linesOf L).map bare).length = q) := hid (by rw [← HQL.out, HQ.out])
  obtain ⟨ls, hls⟩ : ∃ ls, ls = (linesOf L).map bare := ⟨_, rfl⟩
  rw [← hls] at HTK HLN
  have HT2 : Hid (T.data.toList = sessA (kNew runPl) ls) := hid (by rw [HT.out, ← HL.out, hls]; rfl)
  clear hls HQL HQN HLAST HX HZ HQ HT hcl1 hcl2 hzn hz1 hz2 hz3 hzc y0 HV
  go_upto_region 8 with (first
    | (go_at_call 8; refine HNEW.out.mono ?_; rintro e w4 ⟨kb, M, rfl, hk, hMP⟩; have HK := hid hk; have HMP := hid hMP; clear hk hMP HNEW)
    | (go_at_call 9; refine (rrplan_any w2).mono ?_; rintro e w3 ⟨m, hpl, rfl, hm, hb3⟩; have HB3 := hid hb3; have HM := hid hm; have HPL := hid hpl; have HNEW := hid (rnew_run w3 m hm (by rw [hpl]; exact runPl_chk)); unfold RNewd at HNEW; clear hb3 hm hpl))
  have hst0 : Stand w3 w4 [rrT kb runPl M (kNew runPl)] := by
    have h := (Stand.nil w3).add HK.out.below (k_lie HK.out.kat HK.out.plan) (fun j hj => HK.out.fresh j (.inl hj)) fun j hj => by
      rcases hj with hj | hj | hj
      · exact .inl (HK.out.fresh j (.inl hj))
      · exact .inl (HK.out.fresh j (.inr hj))
      · exact .inr (HM.out.lt j (by rw [← HMP.out]; exact hj))
    rw [HPL.out] at h
    exact h
  have HST0 := hid hst0
  have HR3 := hid (HR2.out.new HB3.out)
  have HBW := hid (HB2.out.trans (HB3.out.mono HB2.out.size))
  clear hst0 HR2 HK HM HMP HPL HB1 HB2 HB3
  go_wp2_with fail
  go_loopw [6, 7, 8] (fun v6 v7 _ wr => ∃ (i : Nat) (S : ByteArray) (N : KM), i ≤ q ∧ v6 = .string S ∧ v7 = .int .i64 i ∧ S.data.toList = sessA (kNew runPl) (ls.take i) ∧ Stand w3 wr [rrT kb runPl N (sessK (kNew runPl) (ls.take i))]) (fun _ v7 _ _ => q - (intOf v7).toNat)
  case atStart => exact ⟨0, ⟨#[]⟩, M, by omega, rfl, rfl, rfl, HST0.out⟩
  case round =>
    obtain ⟨i, S, N, hi, rfl, rfl, hS, hst⟩ := hrel
    have HS := hid hS
    have HST := hid hst
    have HRW := hid (HR3.out.new hst.below)
    clear hS hst
    by_cases hiq : i < q
    · obtain ⟨s, hs1, hs2⟩ := HTK.out i hiq
      obtain ⟨hlw, y1⟩ := cut_text HRW.out hs1
      obtain ⟨V2, hV2⟩ : ∃ V2 : ByteArray, V2 = ⟨s.toArray⟩ := ⟨_, rfl⟩
      rw [← hV2] at y1
      have hVd : V2.data.toList = s := by rw [hV2]
      have hVs : V2.size ≤ 100000 := by
        rw [Lib.size_eq, hVd]
        have := HSZ.out s (List.mem_of_getElem? hs1)
        omega
      have hlen : (ls.take i).length ≤ 3000 := by rw [List.length_take]; omega
      have hkok := sessK_ok (ls.take i) (kNew_ok runPl_ok)
      have hsl := sessA_len (ls.take i) (kNew_ok runPl_ok) (by omega)
      rw [← HS.out, ← Lib.size_eq] at hsl
      have htk : ls.take (i + 1) = ls.take i ++ [s] := by rw [List.take_add_one, hs2]; rfl
      have hnk : sessK (kNew runPl) (ls.take (i + 1)) = (lineA (sessK (kNew runPl) (ls.take i)) V2.data.toList).2 := by rw [htk, sessK_snoc, hVd]
      have hna : sessA (kNew runPl) (ls.take (i + 1)) = sessA (kNew runPl) (ls.take i) ++ ((lineA (sessK (kNew runPl) (ls.take i)) V2.data.toList).1 ++ [10]) := by rw [htk, sessA_snoc, hVd]
      have hll := lineA_len hkok (by omega) V2.data.toList
      have hline := rline_all hkok (by omega) V2 hVs HST.out
      rw [← HS.out] at hna
      generalize lineA (sessK (kNew runPl) (ls.take i)) V2.data.toList = qq at hnk hna hll hline
      unfold RAnsGot at hline
      have HLINE := hid hline
      have HNK := hid hnk
      have HNA := hid hna
      have HLL := hid hll
      have hS1 : S.size ≤ 2703000 := by omega
      have hiI : (i : Int) < q := by omega
      clear hline hnk hna hll htk hkok hsl hlen hVs hVd hV2 hs1 hs2
      go_upto_region 13 with (go_at_call 10; refine HLINE.out.mono ?_; rintro e w5 ⟨A, N5, rfl, hA, hst5⟩; have HA := hid hA; have HST5 := hid hst5; clear hA hst5 HLINE)
      have hAs : A.size ≤ 900 := by rw [Lib.size_eq, HA.out]; exact HLL.out
      have k1 : ¬ 9223372036854775807 < S.size + A.size := by omega
      have k2 : ¬ 9223372036854775807 < S.size + A.size + 1 := by omega
      go_wp2_with fail
      go_roundw
      case rel => exact ⟨i + 1, _, N5, by omega, rfl, by go_num, by rw [both_list, both_list, HNA.out, HA.out, List.append_assoc], by rw [HNK.out]; exact HST5.out⟩
      case measure => simp [intOf]; omega
    · have hie : i = q := by omega
      have hts : T = S := same_bytes (by rw [HT2.out, HS.out, hie, ← HLN.out, List.take_length])
      subst hts
      clear hie
      go_wp2_with fail
      go_ret
      exact ⟨rfl, HBW.out.trans (HST.out.below.mono HBW.out.size)⟩
end Go.Proofs.YthdmgighblhmhaaGreatDoor
