/- framesame.Helds: of any two lists of what is held it says whether they are the same. -/
import Derived.Test.YtnmbomhlonifnaaDoorRunU
import Derived.Deep.DrawnRows
import Derived.IntWalk
namespace Go.Proofs.YtnmbomhlonifnaaDoor
open Go.RowKit
set_option maxRecDepth 100000

theorem heldsIn_len {w : World} {A : Option Addr} {n c : Nat} {hs : List Hm} (h : HeldsIn w A n c hs) : hs.length = n := by
  have := h.row.1
  rw [flatMap_len Hm.cells 2 Hm.len] at this
  omega
set_option maxHeartbeats 1000000 in
theorem helds_same (A B : Option Addr) (n m ca cb : Nat) (hs gs : List Hm) (w : World) (hA : HeldsIn w A n ca hs) (hB : HeldsIn w B m cb gs) (hn : n ≤ 1000) (hm : m ≤ 1000) :
    Calls Tryd.prog 43 #[.slice A n ca, .slice B m cb] w fun e w' => e = .returned (.bool (eqB (hs.map Hm.val) (gs.map Hm.val))) ∧ Below w.heap.size w w' := by
  have hln := heldsIn_len hA
  have hlm := heldsIn_len hB
  obtain ⟨E, hE⟩ : ∃ E, E = eqB (hs.map Hm.val) (gs.map Hm.val) := ⟨_, rfl⟩
  rw [← hE]
  have HE := hid hE
  have HA := hid hA
  have HB := hid hB
  have HLN := hid hln
  have HLM := hid hlm
  have hca := hA.row.le
  have hcb := hB.row.le
  unfold maxLen at hca hcb
  clear hE hA hB hln hlm
  by_cases hnm : n = m
  · subst hnm
    go_enter Tryd.func43, Tryd.ntmps43
    go_wp2_with fail
    go_loopw [5, 6] (fun v5 v6 wr => ∃ k : Nat, k ≤ n ∧ v5 = .int .i64 k ∧ Below w.heap.size w wr ∧ (hs.map Hm.val).take k = (gs.map Hm.val).take k) (fun v5 _ _ => n - (intOf v5).toNat)
    case atStart => exact ⟨0, by omega, rfl, Below.refl _ _, rfl⟩
    case round =>
      obtain ⟨k, hk, rfl, hbw, htk⟩ := hrel
      have HBW := hid hbw
      have HTK := hid htk
      clear hbw htk
      by_cases hkn : k < n
      · have g1 := List.getElem?_eq_getElem (show k < hs.length by rw [HLN.out]; exact hkn)
        have g2 := List.getElem?_eq_getElem (show k < gs.length by rw [HLM.out]; exact hkn)
        have HT1 := hid (List.take_succ_eq_append_getElem (l := hs.map Hm.val) (i := k) (by rw [List.length_map, HLN.out]; exact hkn))
        have HT2 := hid (List.take_succ_eq_append_getElem (l := gs.map Hm.val) (i := k) (by rw [List.length_map, HLM.out]; exact hkn))
        simp only [List.getElem_map] at HT1 HT2
        generalize hs[k]'(by rw [HLN.out]; exact hkn) = a at g1 HT1
        generalize gs[k]'(by rw [HLM.out]; exact hkn) = b at g2 HT2
        obtain ⟨ab, ao, rfl, hab, c0, c1, ha⟩ := (HA.out.new HBW.out).get g1
        obtain ⟨bb, bo, rfl, hbb, d0, d1, hb⟩ := (HB.out.new HBW.out).get g2
        have HSAME := hid (fun (w' : World) (hb' : Below wr.heap.size wr w') => held_same a b w' (ha.new hb') (hb.new hb'))
        have HS0 : Hid (∀ w', Below wr.heap.size wr w' → w'.cell? ⟨ab, ao + k * 2, none⟩ = some (.slice a.A a.items.length a.c) ∧ w'.cell? ⟨ab, ao + k * 2 + 1, none⟩ = some (.int .i64 a.lost) ∧ w'.cell? ⟨bb, bo + k * 2, none⟩ = some (.slice b.A b.items.length b.c) ∧ w'.cell? ⟨bb, bo + k * 2 + 1, none⟩ = some (.int .i64 b.lost)) := fun w' h =>
          ⟨(h.cell (p := ⟨ab, ao + k * 2, none⟩) hab).trans c0, (h.cell (p := ⟨ab, ao + k * 2 + 1, none⟩) hab).trans c1, (h.cell (p := ⟨bb, bo + k * 2, none⟩) hbb).trans d0, (h.cell (p := ⟨bb, bo + k * 2 + 1, none⟩) hbb).trans d1⟩
        by_cases hv : a.val = b.val
        · rw [eqB_true hv] at HSAME
          have HV := hid hv
          obtain ⟨aA, ac, ai, al⟩ := a
          obtain ⟨bA, bc, bi, bl⟩ := b
          simp only [] at c0 c1 d0 d1 HSAME HS0
          generalize ai.length = an at c0 HSAME HS0
          generalize bi.length = bn at d0 HSAME HS0
          clear hv ha hb g1 g2
          go_wp2_with fail
          go_region_held3 (fun w' => w'.cell? ⟨ab, ao + k * 2, none⟩ = some (.slice aA an ac) ∧ w'.cell? ⟨ab, ao + k * 2 + 1, none⟩ = some (.int .i64 al) ∧ w'.cell? ⟨bb, bo + k * 2, none⟩ = some (.slice bA bn bc) ∧ w'.cell? ⟨bb, bo + k * 2 + 1, none⟩ = some (.int .i64 bl))
            (first | (with_reducible exact HS0.out _ HB2.out) | (with_reducible exact HS0.out _ (Below.drew (Below.refl _ _))))
            (first | (go_at_call 78; refine (HSAME.out _ (Below.refl _ _).drew).mono ?_; rintro e w2 ⟨rfl, hb2⟩; have HB2 := hid ((Below.refl wr.heap.size wr).drew.trans hb2); clear hb2))
          go_wp2_with fail
          go_roundw
          case rel => exact ⟨k + 1, by omega, by go_num, HBW.out.trans (HB2.out.mono HBW.out.size), by rw [HT1.out, HT2.out, HTK.out, HV.out]⟩
          case measure => simp [intOf]; omega
        · rw [eqB_false hv] at HSAME
          have hEf : E = false := by
            rw [HE.out]
            refine eqB_false fun e => hv ?_
            have := congrArg (fun l => l[k]?) e
            simp only [List.getElem?_map, g1, g2, Option.map_some, Option.some.injEq] at this
            exact this
          obtain ⟨aA, ac, ai, al⟩ := a
          obtain ⟨bA, bc, bi, bl⟩ := b
          simp only [] at c0 c1 d0 d1 HSAME HS0
          generalize ai.length = an at c0 HSAME HS0
          generalize bi.length = bn at d0 HSAME HS0
          clear hv ha hb g1 g2
          go_wp2_with fail
          go_region_held3 (fun w' => w'.cell? ⟨ab, ao + k * 2, none⟩ = some (.slice aA an ac) ∧ w'.cell? ⟨ab, ao + k * 2 + 1, none⟩ = some (.int .i64 al) ∧ w'.cell? ⟨bb, bo + k * 2, none⟩ = some (.slice bA bn bc) ∧ w'.cell? ⟨bb, bo + k * 2 + 1, none⟩ = some (.int .i64 bl))
            (first | (with_reducible exact HS0.out _ HB2.out) | (with_reducible exact HS0.out _ (Below.drew (Below.refl _ _))))
            (first | (go_at_call 78; refine (HSAME.out _ (Below.refl _ _).drew).mono ?_; rintro e w2 ⟨rfl, hb2⟩; have HB2 := hid ((Below.refl wr.heap.size wr).drew.trans hb2); clear hb2))
          go_wp2_with fail
          go_ret
          exact ⟨by rw [hEf]; rfl, HBW.out.trans (HB2.out.mono HBW.out.size)⟩
      · obtain rfl : n = k := by omega
        have hEt : E = true := by
          rw [HE.out]
          refine eqB_true ?_
          have h := HTK.out
          rw [List.take_of_length_le (by rw [List.length_map, HLN.out]; exact Nat.le_refl _), List.take_of_length_le (by rw [List.length_map, HLM.out]; exact Nat.le_refl _)] at h
          exact h
        go_wp2_with fail
        go_ret
        exact ⟨by rw [hEt]; rfl, HBW.out⟩
  · have hEf : E = false := by
      rw [HE.out]
      refine eqB_false fun e => hnm ?_
      have := congrArg List.length e
      simp only [List.length_map, HLN.out, HLM.out] at this
      exact this
    have e1 : (n == m) = false := by simpa using hnm
    have e2 : (n != m) = true := by simpa using hnm
    go_enter Tryd.func43, Tryd.ntmps43
    go_wp2_with fail
    go_ret
    exact ⟨by rw [hEf]; rfl, Below.refl _ _⟩
end Go.Proofs.YtnmbomhlonifnaaDoor
