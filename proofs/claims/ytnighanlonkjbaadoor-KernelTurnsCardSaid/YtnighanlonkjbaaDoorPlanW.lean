/- Package plan: contracts of ports and Check, for every plan. -/
import Derived.Test.YtnighanlonkjbaaDoorCodeW
import Derived.Test.YtnighanlonkjbaaDoorPlanLaw
import Derived.Test.YtnighanlonkjbaaDoorOpen2
import Derived.Test.YtnighanlonkjbaaDoorLine2
namespace Go.Proofs.YtnighanlonkjbaaDoor
open Go.RowKit
set_option maxRecDepth 100000

theorem Sl.ro {w : World} {A : Option Addr} {n : Nat} {l : List Ro} (h : Sl w A 1 n (l.flatMap Ro.cells)) {wr : World} (hb : Below w.heap.size w wr) {i : Nat} {r : Ro} (hi : l[i]? = some r) (hn : i < n) :
    ∃ b off, A = some ⟨b, off, none⟩ ∧ b < w.heap.size ∧ wr.cell? ⟨b, off + i, none⟩ = some (.slice r.A r.ops.length r.c) := by
  obtain ⟨b, off, rfl, hlt, hx⟩ := h.2 (by omega)
  refine ⟨b, off, rfl, hlt, ?_⟩
  rw [hb.cell (p := ⟨b, off + i, none⟩) hlt]
  have := flatMap_get Ro.cells 1 Ro.len l i 0 r hi (by omega)
  rw [Nat.mul_one, Nat.add_zero] at this
  exact hx _ _ (this.trans rfl)

theorem portOk_8 {ws : List Wire} {r : Nat} {a : Int} {b : Nat} : portOk ws r ⟨8, a, b⟩ = (match ws[b]? with | some x => decide (x.fr = r) | none => false) := by
  unfold portOk; rw [if_pos rfl, Int.toNat_natCast]; cases ws[b]? <;> rfl
theorem portOk_9 {ws : List Wire} {r : Nat} {a : Int} {b : Nat} : portOk ws r ⟨9, a, b⟩ = (match ws[b]? with | some x => decide (x.to = r) | none => false) := by
  unfold portOk; rw [if_neg (show ¬ (9 : Int) = 8 by decide), if_pos rfl, Int.toNat_natCast]; cases ws[b]? <;> rfl
theorem portOk_else {ws : List Wire} {r : Nat} {o : Op} (h8 : o.what ≠ 8) (h9 : o.what ≠ 9) : portOk ws r o = true := by
  unfold portOk; rw [if_neg h8, if_neg h9]

set_option maxHeartbeats 4000000 in
theorem ports_any (w : World) (A : Option Addr) (c n : Nat) (ros : List Ro) (hrows : Sl w A 1 n (ros.flatMap Ro.cells)) (r : Nat) (ro : Ro) (hro : ros[r]? = some ro) (hrn : r < n)
    (hops : Sl w ro.A 3 ro.ops.length (ro.ops.flatMap Op.cells)) (hok : (codeChk ro.ops).2 = 0) (tk : Int) (sA : Option Addr) (sn sc : Nat) (wA : Option Addr) (wc nw : Nat) (ws : List Wire) (hnw : ws.length = nw)
    (hws : Sl w wA 4 nw (ws.flatMap Wire.cells)) :
    Calls Tryd.prog 70 #[.agg #[.slice A n c, .int .i64 tk, .slice sA sn sc, .slice wA nw wc], .int .i64 r] w (TellOk w (portsOk ws r ro.ops)) := by
  obtain ⟨hl1, hl20, hgood⟩ := codeChk_ok hok
  obtain ⟨rb, roff, rfl, hrb, hcell⟩ := hrows.ro (Below.refl _ _) hro hrn
  obtain ⟨RA, rc, ops⟩ := ro
  simp only [] at hops hl1 hl20 hgood hcell ⊢
  obtain ⟨q, hq⟩ : ∃ q, q = portsOk ws r ops := ⟨_, rfl⟩
  rw [← hq]
  have HBAD : Hid (∀ (k : Nat) (o : Op), ops[k]? = some o → portOk ws r o = false → q = false) := fun k o hk ho => by
    rw [hq]; unfold portsOk; rw [List.all_eq_false]; exact ⟨o, List.mem_of_getElem? hk, by rw [ho]; decide⟩
  have HALL : Hid ((∀ (j : Nat) (o : Op), j < ops.length → ops[j]? = some o → portOk ws r o = true) → q = true) := fun h => by
    rw [hq]; unfold portsOk; rw [List.all_eq_true]
    intro o ho
    obtain ⟨j, hj⟩ := List.mem_iff_getElem?.1 ho
    exact h j o (List.getElem?_eq_some_iff.1 hj).1 hj
  have HGOOD : Hid (∀ o ∈ ops, 0 ≤ o.b ∨ (o.what ≠ 8 ∧ o.what ≠ 9)) := fun o ho => by
    have := opOk_iff.1 (hgood o ho); omega
  have HO := hid hops
  have HWS := hid hws
  have HNW := hid hnw
  obtain ⟨no, hno⟩ : ∃ no, no = ops.length := ⟨_, rfl⟩
  rw [← hno] at hcell hl1 hl20 HALL HO
  have HNO := hid hno
  have hnl : rb < w.heap.size := hrb
  have hcell' : ∀ o, (w.alloc o).cell? ⟨rb, roff + r, none⟩ = some (.slice RA no rc) := fun o => (World.cell?_alloc_lt w o ⟨rb, roff + r, none⟩ hrb).trans hcell
  clear hrows hro hops hok hws hnw hgood hq hno hcell
  go_enter Tryd.func70, Tryd.ntmps70
  go_wp2_with fail
  obtain ⟨w0, hw0⟩ : ∃ w0, w0 = w.alloc (.cells #[.slice (some ⟨rb, roff, none⟩) n c, .int .i64 tk, .slice sA sn sc, .slice wA nw wc] 70) := ⟨_, rfl⟩
  have h0p : w0.heap[w.heap.size]? = some (.cells #[.slice (some ⟨rb, roff, none⟩) n c, .int .i64 tk, .slice sA sn sc, .slice wA nw wc] 70 (0, 0)) := by rw [hw0]; exact heap_alloc_new w _
  have h0b : Below w.heap.size w w0 := by rw [hw0]; exact (Below.refl _ _).alloc (Nat.le_refl _) _
  rw [← hw0]
  have H0P := hid h0p
  have H0B := hid h0b
  clear hw0 h0p h0b hcell'
  go_loopw [13] (fun v13 wr => ∃ k : Nat, k ≤ no ∧ v13 = .int .i64 k ∧ (∀ (j : Nat) (o : Op), j < k → ops[j]? = some o → portOk ws r o = true) ∧ Below w0.heap.size w0 wr) (fun v13 _ => no - (intOf v13).toNat)
  case atStart => exact ⟨0, by omega, rfl, fun j o hj => absurd hj (by omega), Below.refl _ _⟩
  case round =>
    obtain ⟨k, hk, rfl, hall, hb⟩ := hrel
    have HA := hid hall
    have HB := hid hb
    have HBW := hid (H0B.out.trans (hb.mono H0B.out.size))
    clear hall hb
    by_cases hkl : k < no
    · have hkl2 : k < ops.length := by rw [← HNO.out]; exact hkl
      obtain ⟨b, off, rfl, hlb, g0, g1, g2⟩ := HO.out.op HBW.out hkl2 hkl
      have hget := List.getElem?_eq_getElem hkl2
      have hbd := HGOOD.out ops[k] (List.getElem_mem hkl2)
      generalize ops[k] = x at g0 g1 g2 hget hbd
      obtain ⟨what, a, bb⟩ := x
      simp only [] at g0 g1 g2 hbd
      have HG := hid hget
      have hpb := (HB.out.block _ (blk_lt H0P.out)).trans H0P.out
      have c3 := blk_cell hpb 3
      have hplt := blk_lt hpb
      simp at c3
      have HNEXT : Hid (portOk ws r ⟨what, a, bb⟩ = true → ∀ (j : Nat) (o : Op), j < k + 1 → ops[j]? = some o → portOk ws r o = true) := fun h j o hj ho => by
        by_cases e : j = k
        · subst e; rw [HG.out] at ho; cases ho; exact h
        · exact HA.out j o (by omega) ho
      clear hget hpb
      by_cases h8 : what = 8
      · subst h8
        obtain ⟨bn, rfl⟩ : ∃ bn : Nat, bb = bn := ⟨bb.toNat, by omega⟩
        clear hbd
        by_cases hbw : nw ≤ bn
        · have hf := HBAD.out k _ HG.out (by rw [portOk_8, List.getElem?_eq_none (by rw [HNW.out]; exact hbw)])
          subst hf
          go_wp2_with fail
          go_ret
          exact ⟨rfl, HBW.out.alloc HBW.out.size _⟩
        · obtain ⟨wb, woff, rfl, hwb, y0, y1, y2, y3⟩ := HWS.out.wire HBW.out (show bn < ws.length by rw [HNW.out]; omega) (by omega)
          have hwget := List.getElem?_eq_getElem (show bn < ws.length by rw [HNW.out]; omega)
          have hp8 : portOk ws r ⟨8, a, bn⟩ = decide ((ws[bn]'(by rw [HNW.out]; omega)).fr = r) := by rw [portOk_8, hwget]
          generalize ws[bn]'(by rw [HNW.out]; omega) = x at y0 y1 y2 y3 hp8
          have hwlt := cell_lt y0
          have hbw' : bn < nw := by omega
          by_cases hfr : x.fr = r
          · have HP := hid (HNEXT.out (hp8.trans (decide_eq_true hfr)))
            rw [hfr] at y0
            clear hwget hp8 hfr y1 y2 y3 hbw
            go_wp2_with fail
            go_roundw
            case rel => exact ⟨k + 1, by omega, by go_num, HP.out, HB.out.alloc HB.out.size _⟩
            case measure => simp [intOf]; omega
          · have hf := HBAD.out k _ HG.out (hp8.trans (decide_eq_false hfr))
            subst hf
            have hfb : (x.fr == (r : Int)) = false := by simpa using hfr
            have hfn : (x.fr != (r : Int)) = true := by simpa using hfr
            generalize x.fr = xf at y0 hfb hfn
            clear hwget hp8 hfr y1 y2 y3 hbw
            go_wp2_with fail
            go_ret
            exact ⟨rfl, HBW.out.alloc HBW.out.size _⟩
      · by_cases h9 : what = 9
        · subst h9
          obtain ⟨bn, rfl⟩ : ∃ bn : Nat, bb = bn := ⟨bb.toNat, by omega⟩
          clear hbd h8
          by_cases hbw : nw ≤ bn
          · have hf := HBAD.out k _ HG.out (by rw [portOk_9, List.getElem?_eq_none (by rw [HNW.out]; exact hbw)])
            subst hf
            go_wp2_with fail
            go_ret
            exact ⟨rfl, HBW.out.alloc HBW.out.size _⟩
          · obtain ⟨wb, woff, rfl, hwb, y0, y1, y2, y3⟩ := HWS.out.wire HBW.out (show bn < ws.length by rw [HNW.out]; omega) (by omega)
            have hwget := List.getElem?_eq_getElem (show bn < ws.length by rw [HNW.out]; omega)
            have hp8 : portOk ws r ⟨9, a, bn⟩ = decide ((ws[bn]'(by rw [HNW.out]; omega)).to = r) := by rw [portOk_9, hwget]
            generalize ws[bn]'(by rw [HNW.out]; omega) = x at y0 y1 y2 y3 hp8
            have hwlt := cell_lt y0
            have hbw' : bn < nw := by omega
            by_cases hfr : x.to = r
            · have HP := hid (HNEXT.out (hp8.trans (decide_eq_true hfr)))
              rw [hfr] at y1
              clear hwget hp8 hfr y0 y2 y3 hbw
              go_wp2_with fail
              go_roundw
              case rel => exact ⟨k + 1, by omega, by go_num, HP.out, HB.out.alloc HB.out.size _⟩
              case measure => simp [intOf]; omega
            · have hf := HBAD.out k _ HG.out (hp8.trans (decide_eq_false hfr))
              subst hf
              have hfb : (x.to == (r : Int)) = false := by simpa using hfr
              have hfn : (x.to != (r : Int)) = true := by simpa using hfr
              generalize x.to = xf at y1 hfb hfn
              clear hwget hp8 hfr y0 y2 y3 hbw
              go_wp2_with fail
              go_ret
              exact ⟨rfl, HBW.out.alloc HBW.out.size _⟩
        · have HP := hid (HNEXT.out (portOk_else h8 h9))
          have e8 : (what == 8) = false := by simpa using h8
          have e9 : (what == 9) = false := by simpa using h9
          have f8 : (what != 8) = true := by simpa using h8
          have f9 : (what != 9) = true := by simpa using h9
          clear hbd h8 h9
          go_wp2_with fail
          go_roundw
          case rel => exact ⟨k + 1, by omega, by go_num, HP.out, HB.out.alloc HB.out.size _⟩
          case measure => simp [intOf]; omega
    · obtain rfl : k = no := by omega
      have ht := HALL.out (fun j o hj ho => HA.out j o (by have := HNO.out; omega) ho)
      subst ht
      go_wp2_with fail
      go_ret
      exact ⟨rfl, HBW.out⟩
end Go.Proofs.YtnighanlonkjbaaDoor
