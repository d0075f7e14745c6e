/- frameref1.Plan: the contract, for every plan. -/
import Derived.Test.YtnmbomhlonifnaaDoorRPorts
import Derived.Test.YtnmbomhlonifnaaDoorRFrame
import Derived.Test.YtnmbomhlonifnaaDoorRLineU
import Derived.Test.YtnmbomhlonifnaaDoorRCodeW
import Derived.Test.YtnmbomhlonifnaaDoorPlanU
namespace Go.Proofs.YtnmbomhlonifnaaDoor
open Go.RowKit
set_option maxRecDepth 100000

def pFr (ws : List Wire) (i : Nat) (u : Int) : Bool := match ws[u.toNat]? with | some x => decide (x.fr = i) | none => false
def pTo (ws : List Wire) (i : Nat) (u : Int) : Bool := match ws[u.toNat]? with | some x => decide (x.to = i) | none => false
theorem portsOk_split (ws : List Wire) (i : Nat) (l : List Op) : portsOk ws i l = ((portsL l 8 []).all (pFr ws i) && (portsL l 9 []).all (pTo ws i)) := by
  rw [Bool.eq_iff_iff, Bool.and_eq_true, List.all_eq_true, List.all_eq_true]
  unfold portsOk
  rw [List.all_eq_true]
  constructor
  · intro h
    refine ⟨fun u hu => ?_, fun u hu => ?_⟩
    · obtain ⟨o, ho, h8, hb⟩ := ((portsL_mem 8 u l []).1 hu).resolve_left (by simp)
      have := h o ho
      unfold portOk at this
      rw [if_pos h8, hb] at this
      exact this
    · obtain ⟨o, ho, h9, hb⟩ := ((portsL_mem 9 u l []).1 hu).resolve_left (by simp)
      have := h o ho
      unfold portOk at this
      rw [if_neg (by omega), if_pos h9, hb] at this
      exact this
  · rintro ⟨h1, h2⟩ o ho
    unfold portOk
    by_cases h8 : o.what = 8
    · rw [if_pos h8]
      exact h1 o.b ((portsL_mem 8 o.b l []).2 (.inr ⟨o, ho, h8, rfl⟩))
    · rw [if_neg h8]
      by_cases h9 : o.what = 9
      · rw [if_pos h9]
        exact h2 o.b ((portsL_mem 9 o.b l []).2 (.inr ⟨o, ho, h9, rfl⟩))
      · rw [if_neg h9]
theorem all_of {l : List Int} {q : Nat} (hq : q = l.length) {p : Int → Bool} (h : ∀ j u, j < q → l[j]? = some u → p u = true) : l.all p = true := by
  rw [List.all_eq_true]
  intro u hu
  obtain ⟨j, hj⟩ := List.mem_iff_getElem?.1 hu
  exact h j u (by rw [hq]; exact (List.getElem?_eq_some_iff.1 hj).1) hj
theorem all_snoc {l : List Int} {k : Nat} {p : Int → Bool} {u : Int} (h : ∀ j u, j < k → l[j]? = some u → p u = true) (hu : l[k]? = some u) (hp : p u = true) : ∀ j u, j < k + 1 → l[j]? = some u → p u = true := by
  intro j v hj hg
  by_cases e : j = k
  · subst e; rw [hu] at hg; cases hg; exact hp
  · exact h j v (by omega) hg

set_option maxHeartbeats 8000000 in
theorem rplan_any (w : World) (m : PM) (hm : PlanAt w m) :
    Calls Tryd.prog 19 #[.agg #[.slice m.A m.ros.length m.c, .int .i64 m.ticks, .slice m.sA m.spans.length m.sc, .slice m.wA m.wires.length m.wc]] w (TellV w (planChk m.pl)) := by
  obtain ⟨hrn1, hrn2, hrn3⟩ := hm.rowsW
  have HFR : Hid (∀ w', Below w.heap.size w w' → Calls Tryd.prog 56 #[.int .i64 m.ticks, .slice m.sA m.spans.length m.sc] w' (TellII w' (frameChk m.ticks m.spans))) := fun w' hb => rframe_any _ _ _ _ w' (hm.spans.new hb) hm.spansW
  have HFL : Hid (∀ w', Below w.heap.size w w' → Calls Tryd.prog 57 #[.slice m.wA m.wires.length m.wc] w' (TellII w' (flowChk m.wires))) := fun w' hb => rwires_any _ _ _ w' (hm.wires.new hb) hm.wiresW
  obtain ⟨R, hR⟩ : ∃ R, R = planChk m.pl := ⟨_, rfl⟩
  rw [← hR]
  have hpe : R = if 5 < m.ros.length then 4 else if m.ros.length = 0 then 5
    else if (frameChk m.ticks m.spans).2 ≠ 0 then (frameChk m.ticks m.spans).2
    else if (flowChk m.wires).2 ≠ 0 then (flowChk m.wires).2
    else if (m.spans.any (spanOver m.ros.length) || m.wires.any (wireOver m.ros.length)) = true then 1
    else if codesChk (m.ros.map Ro.ops) ≠ 0 then codesChk (m.ros.map Ro.ops)
    else if allPorts m.wires (m.ros.map Ro.ops) 0 = false then 3 else 0 := by
    rw [hR]; unfold planChk; simp only [PM.pl, List.length_map]; rfl
  have HROWS := hid hm.rows
  have HCODES := hid hm.codes
  have HSP := hid hm.spans
  have HWI := hid hm.wires
  have h12 : (frameChk m.ticks m.spans).2 = 0 → m.spans.length ≤ 12 := fun h => (frameChk_ticks h).2.2
  have h12w : (flowChk m.wires).2 = 0 → m.wires.length ≤ 12 := fun h => (flowChk_ok h).1
  obtain ⟨A, c, ros, tk, sA, sc, spans, wA, wc, ws⟩ := m
  simp only [] at HFR HFL hpe hrn1 hrn2 hrn3 HROWS HCODES HWI HSP h12 h12w ⊢
  obtain ⟨n, hn⟩ : ∃ n, n = ros.length := ⟨_, rfl⟩
  obtain ⟨ns, hns⟩ : ∃ n, n = spans.length := ⟨_, rfl⟩
  obtain ⟨nw, hnw⟩ : ∃ n, n = ws.length := ⟨_, rfl⟩
  rw [← hn] at hpe hrn1 HROWS ⊢
  rw [← hns] at HFR h12 HSP ⊢
  rw [← hnw] at HFL h12w HWI ⊢
  have HN := hid hn
  have HNS := hid hns
  have HNW := hid hnw
  generalize frameChk tk spans = FF at HFR hpe h12
  obtain ⟨Fi, F⟩ := FF
  generalize flowChk ws = WW at HFL hpe h12w
  obtain ⟨Wi, WF⟩ := WW
  simp only [] at hpe h12 h12w
  clear hm hR hn hns hnw hrn3
  by_cases h5 : 5 < n
  · rw [if_pos h5] at hpe
    subst hpe
    clear h12 h12w
    go_enter Tryd.func19, Tryd.ntmps19
    go_wp2_with fail
    go_ret
    exact ⟨rfl, (Below.refl _ _).alloc (by simp) _⟩
  rw [if_neg h5] at hpe
  by_cases h0 : n = 0
  · subst h0
    rw [if_pos rfl] at hpe
    subst hpe
    clear h12 h12w
    go_enter Tryd.func19, Tryd.ntmps19
    go_wp2_with fail
    go_ret
    exact ⟨rfl, (Below.refl _ _).alloc (by simp) _⟩
  rw [if_neg h0] at hpe
  have h01 : 0 < n := by omega
  have h05 : n ≤ 5 := by omega
  have h0b : ((n : Int) == 0) = false := by simp; omega
  clear h5 h0 hrn1 hrn2
  have HPE := hid hpe
  have H12 := hid h12
  have H12W := hid h12w
  clear hpe h12 h12w
  go_enter Tryd.func19, Tryd.ntmps19
  go_upto_region 1 with fail
  obtain ⟨w0, hw0⟩ : ∃ w0, w0 = w.alloc (.cells #[.slice A n c, .int .i64 tk, .slice sA ns sc, .slice wA nw wc] 31) := ⟨_, rfl⟩
  have h0p : w0.heap[w.heap.size]? = some (.cells #[.slice A n c, .int .i64 tk, .slice sA ns sc, .slice wA nw wc] 31 (0, 0)) := by rw [hw0]; exact heap_alloc_new w _
  have h0w : Below w.heap.size w w0 := by rw [hw0]; exact (Below.refl _ _).alloc (by simp) _
  rw [← hw0]
  have H0P := hid h0p
  have HW0 := hid h0w
  have HPC : Hid (∀ w' : World, Below w0.heap.size w0 w' → w'.cell? ⟨w.heap.size, 0, none⟩ = some (.slice A n c) ∧ w'.cell? ⟨w.heap.size, 1, none⟩ = some (.int .i64 tk) ∧ w'.cell? ⟨w.heap.size, 2, none⟩ = some (.slice sA ns sc) ∧ w'.cell? ⟨w.heap.size, 3, none⟩ = some (.slice wA nw wc)) :=
    fun w' hb => have h := (hb.block _ (blk_lt h0p)).trans h0p; ⟨blk_cell h 0, blk_cell h 1, blk_cell h 2, blk_cell h 3⟩
  have HBX : Hid (∀ w' : World, Below w0.heap.size w0 w' → Below w.heap.size w w') := fun w' hb => h0w.trans (hb.mono h0w.size)
  obtain ⟨p0, p1, p2, p3⟩ := HPC.out _ (Below.refl _ _)
  clear hw0 h0p h0w
  by_cases hF : F = 0
  · subst hF
    have h12 := H12.out rfl
    have hpe := HPE.out
    rw [if_neg (by simp)] at hpe
    by_cases hWF : WF = 0
    · subst hWF
      have h12w := H12W.out rfl
      rw [if_neg (by simp)] at hpe
      replace HPE := hid hpe
      clear hpe
      go_wp2_with (first | (go_at_call 56; refine (HFR.out _ HW0.out).mono ?_; rintro e w1 ⟨rfl, hb1⟩; have HB1 := hid ((Below.refl _ _).trans hb1); clear p0 p1 p2 p3 hb1; obtain ⟨p0, p1, p2, p3⟩ := HPC.out _ HB1.out) | (go_at_call 57; refine (HFL.out _ (HBX.out _ HB1.out)).mono ?_; rintro e w2 ⟨rfl, hb1⟩; have HB2 := hid (HB1.out.trans (hb1.mono HB1.out.size)); clear p0 p1 p2 p3 hb1; obtain ⟨p0, p1, p2, p3⟩ := HPC.out _ HB2.out))
      clear p0 p1 p2 p3 HFR HFL H12 H12W
      obtain ⟨C, hC⟩ : ∃ C, C = codesChk (ros.map Ro.ops) := ⟨_, rfl⟩
      obtain ⟨P, hP⟩ : ∃ P, P = allPorts ws (ros.map Ro.ops) 0 := ⟨_, rfl⟩
      have hpe := HPE.out
      rw [← hC, ← hP] at hpe
      replace HPE := hid hpe
      have HC := hid hC
      have HP := hid hP
      clear hC hP hpe
      go_loopw [5] (fun v5 wr => ∃ k : Nat, k ≤ ns ∧ v5 = .int .i64 k ∧ (∀ j s', j < k → spans[j]? = some s' → ¬ spanOver n s' = true) ∧ Below w0.heap.size w0 wr) (fun v5 _ => ns - (intOf v5).toNat)
      case atStart => exact ⟨0, by omega, rfl, fun j s hj => absurd hj (by omega), HB2.out⟩
      case round =>
        obtain ⟨k, hk, rfl, hno, hb⟩ := hrel
        have HNO := hid hno
        have HB := hid hb
        obtain ⟨p0, p1, p2, p3⟩ := HPC.out _ hb
        have hpl : w.heap.size < wr.heap.size := cell_lt p0
        clear hno hb
        by_cases hkn : k < ns
        · have hks : k < spans.length := by rw [← HNS.out]; exact hkn
          obtain ⟨b, off, rfl, _, g0, g1, g2⟩ := HSP.out.span (HBX.out _ HB.out) hks hkn
          have hget := List.getElem?_eq_getElem hks
          generalize spans[k] = x at g0 g1 g2 hget
          have HG := hid hget
          clear hget
          by_cases hov : (n : Int) ≤ x.room
          · have hR : R = 1 := by
              rw [HPE.out, List.any_eq_true.2 ⟨x, List.mem_of_getElem? HG.out, by unfold spanOver; exact decide_eq_true hov⟩]; rfl
            subst hR
            go_wp2_with fail
            go_quiet (fail)
            go_wp2_with fail
            go_ret
            exact ⟨rfl, HBX.out _ (below_drewN HB.out _)⟩
          · have HX := hid (show ¬ spanOver n x = true by unfold spanOver; simpa using hov)
            have hd : decide ((n : Int) ≤ x.room) = false := decide_eq_false hov
            go_wp2_with fail
            go_quiet (fail)
            go_wp2_with fail
            go_roundw
            case rel => exact ⟨k + 1, by omega, by go_num, no_snoc HNO.out HG.out HX.out, below_drewN HB.out _⟩
            case measure => simp [intOf]; omega
        · obtain rfl : k = ns := by omega
          have hs0 : spans.any (spanOver n) = false := by
            rw [List.any_eq_false]
            intro x hx
            obtain ⟨j, hj, rfl⟩ := List.getElem_of_mem hx
            exact HNO.out j _ (by rw [HNS.out]; exact hj) (List.getElem?_eq_getElem hj)
          have hpe := HPE.out
          rw [hs0, Bool.false_or] at hpe
          replace HPE := hid hpe
          clear hpe hs0
          go_wp2_with fail
          clear p0 p1 p2 p3 hpl
          go_loopw [6] (fun v6 wq => ∃ j : Nat, j ≤ nw ∧ v6 = .int .i64 j ∧ (∀ i s', i < j → ws[i]? = some s' → ¬ wireOver n s' = true) ∧ Below w0.heap.size w0 wq) (fun v6 _ => nw - (intOf v6).toNat)
          case atStart => exact ⟨0, by omega, rfl, fun j s hj => absurd hj (by omega), HB.out⟩
          case round =>
            obtain ⟨wq, rfl⟩ : ∃ wq : World, wq = wr := ⟨_, rfl⟩
            obtain ⟨j, hj, rfl, hnow, hb⟩ := hrel
            have HNOW := hid hnow
            have HBQ := hid hb
            obtain ⟨p0, p1, p2, p3⟩ := HPC.out _ hb
            have hpl : w.heap.size < wq.heap.size := cell_lt p0
            clear hnow hb
            by_cases hjn : j < nw
            · have hjs : j < ws.length := by rw [← HNW.out]; exact hjn
              obtain ⟨b, off, rfl, _, g0, g1, g2, g3⟩ := HWI.out.wire (HBX.out _ HBQ.out) hjs hjn
              have hget := List.getElem?_eq_getElem hjs
              generalize ws[j] = x at g0 g1 g2 g3 hget
              have HG := hid hget
              clear hget
              by_cases hov : (n : Int) ≤ x.fr
              · have hR : R = 1 := by
                  rw [HPE.out, List.any_eq_true.2 ⟨x, List.mem_of_getElem? HG.out, by unfold wireOver; exact decide_eq_true (.inl hov)⟩]; rfl
                subst hR
                have hd : decide ((n : Int) ≤ x.fr) = true := decide_eq_true hov
                go_wp2_with fail
                go_quiet (fail)
                go_wp2_with fail
                go_ret
                exact ⟨rfl, HBX.out _ (below_drewN HBQ.out _)⟩
              · have hd : decide ((n : Int) ≤ x.fr) = false := decide_eq_false hov
                by_cases hov2 : (n : Int) ≤ x.to
                · have hR : R = 1 := by
                    rw [HPE.out, List.any_eq_true.2 ⟨x, List.mem_of_getElem? HG.out, by unfold wireOver; exact decide_eq_true (.inr hov2)⟩]; rfl
                  subst hR
                  have hd2 : decide ((n : Int) ≤ x.to) = true := decide_eq_true hov2
                  go_wp2_with fail
                  go_quiet (fail)
                  go_wp2_with fail
                  go_ret
                  exact ⟨rfl, HBX.out _ (below_drewN HBQ.out _)⟩
                · have hd2 : decide ((n : Int) ≤ x.to) = false := decide_eq_false hov2
                  have HX := hid (show ¬ wireOver n x = true by unfold wireOver; simp; omega)
                  go_wp2_with fail
                  go_quiet (fail)
                  go_wp2_with fail
                  go_roundw
                  case rel => exact ⟨j + 1, by omega, by go_num, no_snocW HNOW.out HG.out HX.out, below_drewN HBQ.out _⟩
                  case measure => simp [intOf]; omega
            · obtain rfl : nw = j := by omega
              have hs0 : ws.any (wireOver n) = false := by
                rw [List.any_eq_false]
                intro x hx
                obtain ⟨i, hi, rfl⟩ := List.getElem_of_mem hx
                exact HNOW.out i _ (by rw [HNW.out]; exact hi) (List.getElem?_eq_getElem hi)
              have hpe := HPE.out
              rw [hs0, if_neg (by decide)] at hpe
              replace HPE := hid hpe
              clear hpe hs0
              go_wp2_with fail
              clear p0 p1 p2 p3 hpl
              go_loopw [7] (fun v7 wr => ∃ k : Nat, k ≤ n ∧ v7 = .int .i64 k ∧ C = codesChk ((ros.drop k).map Ro.ops) ∧ Below w0.heap.size w0 wr) (fun v7 _ => n - (intOf v7).toNat)
              case atStart => exact ⟨0, by omega, rfl, by rw [List.drop_zero]; exact HC.out, HBQ.out⟩
              case round =>
                obtain ⟨wc, rfl⟩ : ∃ wc : World, wc = wr := ⟨_, rfl⟩
                obtain ⟨i, hi, rfl, hck, hb⟩ := hrel
                have HCK := hid hck
                have HBC := hid hb
                have HBW := hid (HBX.out _ hb)
                obtain ⟨p0, p1, p2, p3⟩ := HPC.out _ hb
                have hpl : w.heap.size < wc.heap.size := cell_lt p0
                clear hck hb
                by_cases hin : i < n
                · obtain ⟨ro, hro⟩ : ∃ ro, ros[i]? = some ro := ⟨_, List.getElem?_eq_getElem (by rw [← HN.out]; exact hin)⟩
                  obtain ⟨rb, roff, rfl, hrb, hcell⟩ := HROWS.out.ro HBW.out hro hin
                  have hat := HCODES.out ro (List.mem_of_getElem? hro)
                  have HCR : Hid (∀ w', Below w.heap.size w w' → Calls Tryd.prog 58 #[.slice ro.A ro.ops.length ro.c] w' (TellNI w' (codeChk ro.ops))) := fun w' hb => rcode_any ro.A ro.c ro.ops w' (hat.1.new hb) hat.2.1
                  have hdrop := codes_drop hro
                  have hcs : codesChk ((ros.drop i).map Ro.ops) = if (codeChk ro.ops).2 ≠ 0 then (codeChk ro.ops).2 else codesChk ((ros.drop (i + 1)).map Ro.ops) := by rw [hdrop]; rfl
                  obtain ⟨RA, rc, ops⟩ := ro
                  simp only [] at HCR hcell hcs
                  generalize ops.length = lo at HCR hcell
                  generalize codeChk ops = EE at HCR hcs
                  obtain ⟨Ei, E⟩ := EE
                  simp only [] at hcs
                  have HCS := hid hcs
                  have hrlt : rb < wc.heap.size := Nat.lt_of_lt_of_le hrb HBW.out.size
                  clear hcs hdrop hat hro hrb
                  by_cases hE : E = 0
                  · subst hE
                    have hc2 := HCK.out
                    rw [HCS.out, if_neg (by simp)] at hc2
                    have HC2 := hid hc2
                    clear hc2
                    go_wp2_with (go_at_call 58; refine (HCR.out _ HBW.out).mono ?_; rintro e w1 ⟨rfl, hb1⟩; have HB1 := hid hb1; clear hb1)
                    go_roundw
                    case rel => exact ⟨i + 1, by omega, by go_num, HC2.out, HBC.out.trans (HB1.out.mono HBC.out.size)⟩
                    case measure => simp [intOf]; omega
                  · have hc2 := HCK.out
                    rw [HCS.out, if_pos hE] at hc2
                    have hpe := HPE.out
                    rw [hc2, if_pos hE] at hpe
                    have hEb : (E != 0) = true := by simpa using hE
                    clear hE hc2
                    subst hpe
                    go_wp2_with (go_at_call 58; refine (HCR.out _ HBW.out).mono ?_; rintro e w1 ⟨rfl, hb1⟩; have HB1 := hid hb1; clear hb1)
                    go_ret
                    exact ⟨rfl, HBW.out.trans (HB1.out.mono HBW.out.size)⟩
                · obtain rfl : i = n := by omega
                  have hc0 : C = 0 := by rw [HCK.out, List.drop_eq_nil_of_le (by rw [← HN.out]; exact Nat.le_refl _)]; rfl
                  have hall : ∀ r ∈ ros, (codeChk r.ops).2 = 0 := fun r hr => codesChk_ok (by rw [← HC.out]; exact hc0) _ (List.mem_map_of_mem hr)
                  have hpe := HPE.out
                  rw [if_neg (by simpa using hc0)] at hpe
                  have HALL := hid hall
                  replace HPE := hid hpe
                  clear hc0 hall hpe
                  go_wp2_with fail
                  clear p0 p1 p2 p3 hpl
                  go_loopw [8] (fun v8 wr => ∃ k : Nat, k ≤ i ∧ v8 = .int .i64 k ∧ P = allPorts ws ((ros.drop k).map Ro.ops) k ∧ Below w0.heap.size w0 wr) (fun v8 _ => i - (intOf v8).toNat)
                  case atStart => exact ⟨0, by omega, rfl, by rw [List.drop_zero]; exact HP.out, HBC.out⟩
                  case round =>
                    obtain ⟨wp, rfl⟩ : ∃ wp : World, wp = wr := ⟨_, rfl⟩
                    obtain ⟨k, hk, rfl, hpj, hb⟩ := hrel
                    have HPJ := hid hpj
                    have HBP := hid hb
                    obtain ⟨p0, p1, p2, p3⟩ := HPC.out _ hb
                    clear hpj hb
                    by_cases hkn : k < i
                    · obtain ⟨ro, hro⟩ : ∃ ro, ros[k]? = some ro := ⟨_, List.getElem?_eq_getElem (by rw [← HN.out]; exact hkn)⟩
                      obtain ⟨rb, roff, rfl, hrb, hcell⟩ := HROWS.out.ro (Below.refl _ _) hro hkn
                      have HCELL : Hid (∀ w', Below w.heap.size w w' → w'.cell? ⟨rb, roff + k, none⟩ = some (.slice ro.A ro.ops.length ro.c)) := fun w' hb => (hb.cell (p := ⟨rb, roff + k, none⟩) hrb).trans hcell
                      have hat := HCODES.out ro (List.mem_of_getElem? hro)
                      have hcc := codeChk_ok (HALL.out ro (List.mem_of_getElem? hro))
                      have HPT : Hid (∀ w', Below w.heap.size w w' → ∀ v, Calls Tryd.prog 59 #[.slice ro.A ro.ops.length ro.c, .int .i64 v] w' (Drawn w' (portsL ro.ops v []))) := fun w' hb v => rports_any ro.A _ ro.c ro.ops v w' (hat.1.new hb) (by have := hcc.2.1; omega) hat.2.1.1
                      have hpos : ∀ v, v = 8 ∨ v = 9 → ∀ u ∈ portsL ro.ops v [], 0 ≤ u := fun v hv u hu => by
                        obtain ⟨o, ho, h8, hb⟩ := ((portsL_mem v u ro.ops []).1 hu).resolve_left (by simp)
                        have := opOk_iff.1 (hcc.2.2 o ho)
                        omega
                      have hlen : ∀ v, (portsL ro.ops v []).length ≤ 20 := fun v => by have := portsL_len v ro.ops []; have := hcc.2.1; simp at *; omega
                      have hdrop := codes_drop hro
                      have hcs : allPorts ws ((ros.drop k).map Ro.ops) k = (portsOk ws k ro.ops && allPorts ws ((ros.drop (k + 1)).map Ro.ops) (k + 1)) := by rw [hdrop]; rfl
                      have hsplit := portsOk_split ws k ro.ops
                      have hpos8 := hpos 8 (.inl rfl)
                      have hpos9 := hpos 9 (.inr rfl)
                      have hlen8 := hlen 8
                      have hlen9 := hlen 9
                      have HPT8 : Hid (∀ w', Below w.heap.size w w' → Calls Tryd.prog 59 #[.slice ro.A ro.ops.length ro.c, .int .i64 8] w' (Drawn w' (portsL ro.ops 8 []))) := fun w' hb => HPT.out w' hb 8
                      have HPT9 : Hid (∀ w', Below w.heap.size w w' → Calls Tryd.prog 59 #[.slice ro.A ro.ops.length ro.c, .int .i64 9] w' (Drawn w' (portsL ro.ops 9 []))) := fun w' hb => HPT.out w' hb 9
                      generalize portsL ro.ops 8 [] = y8 at hpos8 hlen8 hsplit HPT8
                      generalize portsL ro.ops 9 [] = y9 at hpos9 hlen9 hsplit HPT9
                      obtain ⟨RA, rc, ops⟩ := ro
                      simp only [] at hcs hsplit HPT8 HPT9 HCELL
                      generalize ops.length = lo at HPT8 HPT9 HCELL
                      generalize portsOk ws k ops = pk at hcs hsplit
                      have HCS := hid hcs
                      have HSPLIT := hid hsplit
                      have HPOS8 := hid hpos8
                      have HPOS9 := hid hpos9
                      clear HPT hpos hlen hcs hsplit hpos8 hpos9 hcell hat hcc hdrop hro
                      have c9 := HCELL.out _ (HBX.out _ HBP.out)
                      have hrlt := cell_lt c9
                      have hplt := cell_lt p0
                      go_upto_region 31 with (go_at_call 59; refine (HPT8.out _ (HBX.out _ HBP.out)).mono ?_; rintro e w1 ⟨A8, q8, x8, rfl, hq8, hr8, hf8, hb1⟩; have HQ8 := hid hq8; have HS8 := hid hr8.sl; have HB1 := hid (HBP.out.trans (hb1.mono HBP.out.size)); clear hr8 hf8 hb1 hq8 p0 p1 p2 p3 c9 hrlt hplt)
                      obtain ⟨p0, p1, p2, p3⟩ := HPC.out _ HB1.out
                      have c9 := HCELL.out _ (HBX.out _ HB1.out)
                      have hrlt := cell_lt c9
                      have hplt := cell_lt p0
                      go_wp2_with (go_at_call 59; refine (HPT9.out _ (HBX.out _ HB1.out)).mono ?_; rintro e w2 ⟨A9, q9, x9, rfl, hq9, hr9, hf9, hb1⟩; have HQ9 := hid hq9; have HS9 := hid hr9.sl; have HS8' := hid (HS8.out.new hb1); have HB2 := hid (HB1.out.trans (hb1.mono HB1.out.size)); clear hr9 hf9 hb1 hq9 p0 p1 p2 p3 c9 hrlt hplt)
                      rw [← HQ8.out] at hlen8
                      rw [← HQ9.out] at hlen9
                      go_loopw [11] (fun v11 wr => ∃ j : Nat, j ≤ q8 ∧ v11 = .int .i64 j ∧ (∀ t u, t < j → y8[t]? = some u → pFr ws k u = true) ∧ Below w2.heap.size w2 wr) (fun v11 _ => q8 - (intOf v11).toNat)
                      case atStart => exact ⟨0, by omega, rfl, fun t u ht => absurd ht (by omega), Below.refl _ _⟩
                      case round =>
                        obtain ⟨wj, rfl⟩ : ∃ wj : World, wj = wr := ⟨_, rfl⟩
                        obtain ⟨j, hj, rfl, hall, hb⟩ := hrel
                        have HALL11 := hid hall
                        have HBJ11 := hid (HB2.out.trans (hb.mono HB2.out.size))
                        have HBK11 := hid hb
                        obtain ⟨p0, p1, p2, p3⟩ := HPC.out _ HBJ11.out
                        have hplt := cell_lt p0
                        clear hall hb
                        by_cases hjq : j < q8
                        · obtain ⟨b, o, rfl, hlb, hx⟩ := HS8'.out.2 (by omega)
                          have hjl : j < y8.length := by rw [← HQ8.out]; exact hjq
                          have hu : (ints y8)[j]? = some (.int .i64 y8[j]) := by simp [ints, hjl]
                          have c1 := (HBK11.out.cell (p := ⟨b, o + j, none⟩) hlb).trans (hx j _ hu)
                          have hblt := cell_lt c1
                          have hget := List.getElem?_eq_getElem hjl
                          have hnn := HPOS8.out y8[j] (List.getElem_mem hjl)
                          generalize y8[j] = u at c1 hget hnn
                          obtain ⟨U, rfl⟩ : ∃ U : Nat, u = U := ⟨u.toNat, by omega⟩
                          have HG11 := hid hget
                          have HBAD : Hid (pFr ws k U = false → R = 3) := fun h => by
                            rw [HPE.out, if_pos]
                            rw [HPJ.out, HCS.out, HSPLIT.out]
                            have : y8.all (pFr ws k) = false := by rw [List.all_eq_false]; exact ⟨U, List.mem_of_getElem? hget, by rw [h]; decide⟩
                            rw [this]; simp
                          clear hget hu hx hjl hnn
                          by_cases hbw : nw ≤ U
                          · have hR : R = 3 := HBAD.out (by unfold pFr; rw [Int.toNat_natCast, List.getElem?_eq_none (by rw [← HNW.out]; exact hbw)])
                            subst hR
                            have hd1 : decide ((nw : Int) ≤ (U : Int)) = true := decide_eq_true (by omega)
                            have hd2 : decide (nw ≤ U) = true := decide_eq_true hbw
                            clear hblt
                            go_wp2_with fail
                            go_quiet (fail)
                            go_wp2_with fail
                            go_ret
                            exact ⟨rfl, HBX.out _ (below_drewN HBJ11.out _)⟩
                          · have hUw : U < ws.length := by rw [← HNW.out]; omega
                            obtain ⟨wb, woff, rfl, hwb, g0, g1, g2, g3⟩ := HWI.out.wire (HBX.out _ HBJ11.out) hUw (by omega)
                            have hp8 : pFr ws k U = decide (ws[U].fr = k) := by unfold pFr; rw [Int.toNat_natCast, List.getElem?_eq_getElem hUw]
                            generalize ws[U] = x at g0 g1 g2 g3 hp8
                            have hwlt := cell_lt g0
                            have hbw' : U < nw := by omega
                            have hd1 : decide ((nw : Int) ≤ (U : Int)) = false := decide_eq_false (by omega)
                            have hd2 : decide (nw ≤ U) = false := decide_eq_false hbw
                            clear g1 g2 g3 hbw hUw
                            by_cases hfr : x.fr = k
                            · have HP8 := hid (hp8.trans (decide_eq_true hfr))
                              rw [hfr] at g0
                              clear hp8 hfr
                              go_wp2_with fail
                              go_quiet (fail)
                              go_wp2_with fail
                              go_roundw
                              case rel => exact ⟨j + 1, by omega, by go_num, all_snoc HALL11.out HG11.out HP8.out, below_drewN HBK11.out _⟩
                              case measure => simp [intOf]; omega
                            · have hR : R = 3 := HBAD.out (hp8.trans (decide_eq_false hfr))
                              subst hR
                              have hfb : (x.fr == (k : Int)) = false := by simpa using hfr
                              have hfn : (x.fr != (k : Int)) = true := by simpa using hfr
                              generalize x.fr = xf at g0 hfb hfn
                              clear hp8 hfr
                              go_wp2_with fail
                              go_quiet (fail)
                              go_wp2_with fail
                              go_ret
                              exact ⟨rfl, HBX.out _ (below_drewN HBJ11.out _)⟩
                        · obtain rfl : j = q8 := by omega
                          have HEND11 := hid (all_of HQ8.out HALL11.out)
                          have HS9' := hid (HS9.out.new HBK11.out)
                          clear p0 p1 p2 p3 hplt
                          go_wp2_with fail
                          go_loopw [12] (fun v12 wr => ∃ j : Nat, j ≤ q9 ∧ v12 = .int .i64 j ∧ (∀ t u, t < j → y9[t]? = some u → pTo ws k u = true) ∧ Below wj.heap.size wj wr) (fun v12 _ => q9 - (intOf v12).toNat)
                          case atStart => exact ⟨0, by omega, rfl, fun t u ht => absurd ht (by omega), Below.refl _ _⟩
                          case round =>
                            obtain ⟨ws2, rfl⟩ : ∃ ws2 : World, ws2 = wr := ⟨_, rfl⟩
                            obtain ⟨j, hj, rfl, hall, hb⟩ := hrel
                            have HALL12 := hid hall
                            have HBJ12 := hid (HBJ11.out.trans (hb.mono HBJ11.out.size))
                            have HBK12 := hid hb
                            obtain ⟨p0, p1, p2, p3⟩ := HPC.out _ HBJ12.out
                            have hplt := cell_lt p0
                            clear hall hb
                            by_cases hjq : j < q9
                            · obtain ⟨b, o, rfl, hlb, hx⟩ := HS9'.out.2 (by omega)
                              have hjl : j < y9.length := by rw [← HQ9.out]; exact hjq
                              have hu : (ints y9)[j]? = some (.int .i64 y9[j]) := by simp [ints, hjl]
                              have c1 := (HBK12.out.cell (p := ⟨b, o + j, none⟩) hlb).trans (hx j _ hu)
                              have hblt := cell_lt c1
                              have hget := List.getElem?_eq_getElem hjl
                              have hnn := HPOS9.out y9[j] (List.getElem_mem hjl)
                              generalize y9[j] = u at c1 hget hnn
                              obtain ⟨U, rfl⟩ : ∃ U : Nat, u = U := ⟨u.toNat, by omega⟩
                              have HG12 := hid hget
                              have HBAD : Hid (pTo ws k U = false → R = 3) := fun h => by
                                rw [HPE.out, if_pos]
                                rw [HPJ.out, HCS.out, HSPLIT.out]
                                have : y9.all (pTo ws k) = false := by rw [List.all_eq_false]; exact ⟨U, List.mem_of_getElem? hget, by rw [h]; decide⟩
                                rw [this]; simp
                              clear hget hu hx hjl hnn
                              by_cases hbw : nw ≤ U
                              · have hR : R = 3 := HBAD.out (by unfold pTo; rw [Int.toNat_natCast, List.getElem?_eq_none (by rw [← HNW.out]; exact hbw)])
                                subst hR
                                have hd1 : decide ((nw : Int) ≤ (U : Int)) = true := decide_eq_true (by omega)
                                have hd2 : decide (nw ≤ U) = true := decide_eq_true hbw
                                clear hblt
                                go_wp2_with fail
                                go_quiet (fail)
                                go_wp2_with fail
                                go_ret
                                exact ⟨rfl, HBX.out _ (below_drewN HBJ12.out _)⟩
                              · have hUw : U < ws.length := by rw [← HNW.out]; omega
                                obtain ⟨wb, woff, rfl, hwb, g0, g1, g2, g3⟩ := HWI.out.wire (HBX.out _ HBJ12.out) hUw (by omega)
                                have hp8 : pTo ws k U = decide (ws[U].to = k) := by unfold pTo; rw [Int.toNat_natCast, List.getElem?_eq_getElem hUw]
                                generalize ws[U] = x at g0 g1 g2 g3 hp8
                                have hwlt := cell_lt g0
                                have hbw' : U < nw := by omega
                                have hd1 : decide ((nw : Int) ≤ (U : Int)) = false := decide_eq_false (by omega)
                                have hd2 : decide (nw ≤ U) = false := decide_eq_false hbw
                                clear g0 g2 g3 hbw hUw
                                by_cases hfr : x.to = k
                                · have HP8 := hid (hp8.trans (decide_eq_true hfr))
                                  rw [hfr] at g1
                                  clear hp8 hfr
                                  go_wp2_with fail
                                  go_quiet (fail)
                                  go_wp2_with fail
                                  go_roundw
                                  case rel => exact ⟨j + 1, by omega, by go_num, all_snoc HALL12.out HG12.out HP8.out, below_drewN HBK12.out _⟩
                                  case measure => simp [intOf]; omega
                                · have hR : R = 3 := HBAD.out (hp8.trans (decide_eq_false hfr))
                                  subst hR
                                  have hfb : (x.to == (k : Int)) = false := by simpa using hfr
                                  have hfn : (x.to != (k : Int)) = true := by simpa using hfr
                                  generalize x.to = xf at g1 hfb hfn
                                  clear hp8 hfr
                                  go_wp2_with fail
                                  go_quiet (fail)
                                  go_wp2_with fail
                                  go_ret
                                  exact ⟨rfl, HBX.out _ (below_drewN HBJ12.out _)⟩
                            · obtain rfl : j = q9 := by omega
                              have HEND12 := hid (all_of HQ9.out HALL12.out)
                              clear p0 p1 p2 p3 hplt
                              go_wp2_with fail
                              go_roundw
                              case rel =>
                                have hp2 := HPJ.out
                                rw [HCS.out, HSPLIT.out, HEND11.out, HEND12.out, Bool.and_self, Bool.true_and] at hp2
                                exact ⟨k + 1, by omega, by go_num, hp2, HBJ12.out⟩
                              case measure => simp [intOf]; omega
                    · obtain rfl : k = i := by omega
                      have hpt : P = true := by rw [HPJ.out, List.drop_eq_nil_of_le (by rw [← HN.out]; exact Nat.le_refl _)]; rfl
                      have hpe := HPE.out
                      rw [if_neg (by rw [hpt]; decide)] at hpe
                      subst hpe
                      clear hpt
                      go_wp2_with fail
                      go_ret
                      exact ⟨rfl, HBX.out _ HBP.out⟩
    · have hpe := HPE.out
      rw [if_pos hWF] at hpe
      have HWB := hid (show (WF != 0) = true by simpa using hWF)
      clear hWF h12
      replace HPE := hid hpe
      clear hpe
      go_upto_region 8 with (go_at_call 56; refine (HFR.out _ HW0.out).mono ?_; rintro e w1 ⟨rfl, hb1⟩; have HB1 := hid ((Below.refl _ _).trans hb1); clear p0 p1 p2 p3 hb1)
      obtain ⟨p0, p1, p2, p3⟩ := HPC.out _ HB1.out
      clear p0 p1 p2
      have hWb := HWB.out
      go_wp2_with (go_at_call 57; refine (HFL.out _ (HBX.out _ HB1.out)).mono ?_; rintro e w2 ⟨rfl, hb1⟩; have HB2 := hid (HB1.out.trans (hb1.mono HB1.out.size)); clear p3 hb1)
      go_ret
      exact ⟨by rw [HPE.out]; rfl, HBX.out _ HB2.out⟩
  · have hpe := HPE.out
    rw [if_pos hF] at hpe
    have hFb : (F != 0) = true := by simpa using hF
    clear hF
    subst hpe
    go_wp2_with (go_at_call 56; refine (HFR.out _ HW0.out).mono ?_; rintro e w1 ⟨rfl, hb1⟩; have HB1 := hid ((Below.refl _ _).trans hb1); clear p0 p1 p2 p3 hb1)
    go_ret
    exact ⟨rfl, HBX.out _ HB1.out⟩
end Go.Proofs.YtnmbomhlonifnaaDoor
