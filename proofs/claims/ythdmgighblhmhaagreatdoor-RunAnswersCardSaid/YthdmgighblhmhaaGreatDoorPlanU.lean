/- Several parts: each begins with what it says. -/
import Derived.Test.YthdmgighblhmhaaGreatDoorCodeW
import Derived.Test.YthdmgighblhmhaaGreatDoorKLawU
import Derived.Test.YthdmgighblhmhaaGreatDoorOpen2
import Derived.Test.YthdmgighblhmhaaGreatDoorLineU
import Derived.Test.YthdmgighblhmhaaGreatDoorFrameU
import Derived.Deep.DeepCutAuto
/- Package plan: contracts of ports and Check, for every plan. -/
namespace Go.Proofs.YthdmgighblhmhaaGreatDoor
open Go.RowKit
set_option maxRecDepth 100000

theorem Sl.ro {w : World} {A : Option Addr} {n : Nat} {l : List Ro} (h : Sl w A 1 n (l.flatMap Ro.cells)) {wr : World} (hb : Below w.heap.size w wr) {i : Nat} {r : Ro} (hi : l[i]? = some r) (hn : i < n) :
    ∃ b off, A = some ⟨b, off, none⟩ ∧ b < w.heap.size ∧ wr.cell? ⟨b, off + i, none⟩ = some (.slice r.A r.ops.length r.c) := by
  obtain ⟨b, off, rfl, hlt, hx⟩ := h.2 (by omega)
  refine ⟨b, off, rfl, hlt, ?_⟩
  rw [hb.cell (p := ⟨b, off + i, none⟩) hlt]
  have := flatMap_get Ro.cells 1 Ro.len l i 0 r hi (by omega)
  rw [Nat.mul_one, Nat.add_zero] at this
  exact hx _ _ (this.trans rfl)

theorem portOk_8 {ws : List Wire} {r : Nat} {a : Int} {b : Nat} : portOk ws r ⟨8, a, b⟩ = (match ws[b]? with | some x => decide (x.fr = r) | none => false) := by
  unfold portOk; rw [if_pos rfl, Int.toNat_natCast]; cases ws[b]? <;> rfl
theorem portOk_9 {ws : List Wire} {r : Nat} {a : Int} {b : Nat} : portOk ws r ⟨9, a, b⟩ = (match ws[b]? with | some x => decide (x.to = r) | none => false) := by
  unfold portOk; rw [if_neg (show ¬ (9 : Int) = 8 by decide), if_pos rfl, Int.toNat_natCast]; cases ws[b]? <;> rfl
theorem portOk_else {ws : List Wire} {r : Nat} {o : Op} (h8 : o.what ≠ 8) (h9 : o.what ≠ 9) : portOk ws r o = true := by
  unfold portOk; rw [if_neg h8, if_neg h9]

set_option maxHeartbeats 4000000 in
theorem ports_any (w : World) (A : Option Addr) (c n : Nat) (ros : List Ro) (hrows : Sl w A 1 n (ros.flatMap Ro.cells)) (r : Nat) (ro : Ro) (hro : ros[r]? = some ro) (hrn : r < n)
    (hops : Sl w ro.A 3 ro.ops.length (ro.ops.flatMap Op.cells)) (hok : (codeChk ro.ops).2 = 0) (tk : Int) (sA : Option Addr) (sn sc : Nat) (wA : Option Addr) (wc nw : Nat) (ws : List Wire) (hnw : ws.length = nw)
    (hws : Sl w wA 4 nw (ws.flatMap Wire.cells)) :
    Calls Tryz.prog 45 #[.agg #[.slice A n c, .int .i64 tk, .slice sA sn sc, .slice wA nw wc], .int .i64 r] w (TellOk w (portsOk ws r ro.ops)) := by
  obtain ⟨hl1, hl20, hgood⟩ := codeChk_ok hok
  obtain ⟨rb, roff, rfl, hrb, hcell⟩ := hrows.ro (Below.refl _ _) hro hrn
  obtain ⟨RA, rc, ops⟩ := ro
  simp only [] at hops hl1 hl20 hgood hcell ⊢
  obtain ⟨q, hq⟩ : ∃ q, q = portsOk ws r ops := ⟨_, rfl⟩
  rw [← hq]
  have HBAD : Hid (∀ (k : Nat) (o : Op), ops[k]? = some o → portOk ws r o = false → q = false) := fun k o hk ho => by
    rw [hq]; unfold portsOk; rw [List.all_eq_false]; exact ⟨o, List.mem_of_getElem? hk, by rw [ho]; decide⟩
  have HALL : Hid ((∀ (j : Nat) (o : Op), j < ops.length → ops[j]? = some o → portOk ws r o = true) → q = true) := fun h => by
    rw [hq]; unfold portsOk; rw [List.all_eq_true]
    intro o ho
    obtain ⟨j, hj⟩ := List.mem_iff_getElem?.1 ho
    exact h j o (List.getElem?_eq_some_iff.1 hj).1 hj
  have HGOOD : Hid (∀ o ∈ ops, 0 ≤ o.b ∨ (o.what ≠ 8 ∧ o.what ≠ 9)) := fun o ho => by
    have := opOk_iff.1 (hgood o ho); omega
  have HO := hid hops
  have HWS := hid hws
  have HNW := hid hnw
  obtain ⟨no, hno⟩ : ∃ no, no = ops.length := ⟨_, rfl⟩
  rw [← hno] at hcell hl1 hl20 HALL HO
  have HNO := hid hno
  have hnl : rb < w.heap.size := hrb
  have hcell' : ∀ o, (w.alloc o).cell? ⟨rb, roff + r, none⟩ = some (.slice RA no rc) := fun o => (World.cell?_alloc_lt w o ⟨rb, roff + r, none⟩ hrb).trans hcell
  clear hrows hro hops hok hws hnw hgood hq hno hcell
  go_enter Tryz.func45, Tryz.ntmps45
  go_wp2_with fail
  obtain ⟨w0, hw0⟩ : ∃ w0, w0 = w.alloc (.cells #[.slice (some ⟨rb, roff, none⟩) n c, .int .i64 tk, .slice sA sn sc, .slice wA nw wc] 31) := ⟨_, rfl⟩
  have h0p : w0.heap[w.heap.size]? = some (.cells #[.slice (some ⟨rb, roff, none⟩) n c, .int .i64 tk, .slice sA sn sc, .slice wA nw wc] 31 (0, 0)) := by rw [hw0]; exact heap_alloc_new w _
  have h0b : Below w.heap.size w w0 := by rw [hw0]; exact (Below.refl _ _).alloc (Nat.le_refl _) _
  rw [← hw0]
  have H0P := hid h0p
  have H0B := hid h0b
  clear hw0 h0p h0b hcell'
  go_loopw [13] (fun v13 wr => ∃ k : Nat, k ≤ no ∧ v13 = .int .i64 k ∧ (∀ (j : Nat) (o : Op), j < k → ops[j]? = some o → portOk ws r o = true) ∧ Below w0.heap.size w0 wr) (fun v13 _ => no - (intOf v13).toNat)
  case atStart => exact ⟨0, by omega, rfl, fun j o hj => absurd hj (by omega), Below.refl _ _⟩
  case round =>
    obtain ⟨k, hk, rfl, hall, hb⟩ := hrel
    have HA := hid hall
    have HB := hid hb
    have HBW := hid (H0B.out.trans (hb.mono H0B.out.size))
    clear hall hb
    by_cases hkl : k < no
    · have hkl2 : k < ops.length := by rw [← HNO.out]; exact hkl
      obtain ⟨b, off, rfl, hlb, g0, g1, g2⟩ := HO.out.op HBW.out hkl2 hkl
      have hget := List.getElem?_eq_getElem hkl2
      have hbd := HGOOD.out ops[k] (List.getElem_mem hkl2)
      generalize ops[k] = x at g0 g1 g2 hget hbd
      obtain ⟨what, a, bb⟩ := x
      simp only [] at g0 g1 g2 hbd
      have HG := hid hget
      have hpb := (HB.out.block _ (blk_lt H0P.out)).trans H0P.out
      have c3 := blk_cell hpb 3
      have hplt := blk_lt hpb
      simp at c3
      have HNEXT : Hid (portOk ws r ⟨what, a, bb⟩ = true → ∀ (j : Nat) (o : Op), j < k + 1 → ops[j]? = some o → portOk ws r o = true) := fun h j o hj ho => by
        by_cases e : j = k
        · subst e; rw [HG.out] at ho; cases ho; exact h
        · exact HA.out j o (by omega) ho
      clear hget hpb
      by_cases h8 : what = 8
      · subst h8
        obtain ⟨bn, rfl⟩ : ∃ bn : Nat, bb = bn := ⟨bb.toNat, by omega⟩
        clear hbd
        by_cases hbw : nw ≤ bn
        · have hf := HBAD.out k _ HG.out (by rw [portOk_8, List.getElem?_eq_none (by rw [HNW.out]; exact hbw)])
          subst hf
          go_wp2_with fail
          go_ret
          exact ⟨rfl, HBW.out.alloc HBW.out.size _⟩
        · obtain ⟨wb, woff, rfl, hwb, y0, y1, y2, y3⟩ := HWS.out.wire HBW.out (show bn < ws.length by rw [HNW.out]; omega) (by omega)
          have hwget := List.getElem?_eq_getElem (show bn < ws.length by rw [HNW.out]; omega)
          have hp8 : portOk ws r ⟨8, a, bn⟩ = decide ((ws[bn]'(by rw [HNW.out]; omega)).fr = r) := by rw [portOk_8, hwget]
          generalize ws[bn]'(by rw [HNW.out]; omega) = x at y0 y1 y2 y3 hp8
          have hwlt := cell_lt y0
          have hbw' : bn < nw := by omega
          by_cases hfr : x.fr = r
          · have HP := hid (HNEXT.out (hp8.trans (decide_eq_true hfr)))
            rw [hfr] at y0
            clear hwget hp8 hfr y1 y2 y3 hbw
            go_wp2_with fail
            go_roundw
            case rel => exact ⟨k + 1, by omega, by go_num, HP.out, HB.out.alloc HB.out.size _⟩
            case measure => simp [intOf]; omega
          · have hf := HBAD.out k _ HG.out (hp8.trans (decide_eq_false hfr))
            subst hf
            have hfb : (x.fr == (r : Int)) = false := by simpa using hfr
            have hfn : (x.fr != (r : Int)) = true := by simpa using hfr
            generalize x.fr = xf at y0 hfb hfn
            clear hwget hp8 hfr y1 y2 y3 hbw
            go_wp2_with fail
            go_ret
            exact ⟨rfl, HBW.out.alloc HBW.out.size _⟩
      · by_cases h9 : what = 9
        · subst h9
          obtain ⟨bn, rfl⟩ : ∃ bn : Nat, bb = bn := ⟨bb.toNat, by omega⟩
          clear hbd h8
          by_cases hbw : nw ≤ bn
          · have hf := HBAD.out k _ HG.out (by rw [portOk_9, List.getElem?_eq_none (by rw [HNW.out]; exact hbw)])
            subst hf
            go_wp2_with fail
            go_ret
            exact ⟨rfl, HBW.out.alloc HBW.out.size _⟩
          · obtain ⟨wb, woff, rfl, hwb, y0, y1, y2, y3⟩ := HWS.out.wire HBW.out (show bn < ws.length by rw [HNW.out]; omega) (by omega)
            have hwget := List.getElem?_eq_getElem (show bn < ws.length by rw [HNW.out]; omega)
            have hp8 : portOk ws r ⟨9, a, bn⟩ = decide ((ws[bn]'(by rw [HNW.out]; omega)).to = r) := by rw [portOk_9, hwget]
            generalize ws[bn]'(by rw [HNW.out]; omega) = x at y0 y1 y2 y3 hp8
            have hwlt := cell_lt y0
            have hbw' : bn < nw := by omega
            by_cases hfr : x.to = r
            · have HP := hid (HNEXT.out (hp8.trans (decide_eq_true hfr)))
              rw [hfr] at y1
              clear hwget hp8 hfr y0 y2 y3 hbw
              go_wp2_with fail
              go_roundw
              case rel => exact ⟨k + 1, by omega, by go_num, HP.out, HB.out.alloc HB.out.size _⟩
              case measure => simp [intOf]; omega
            · have hf := HBAD.out k _ HG.out (hp8.trans (decide_eq_false hfr))
              subst hf
              have hfb : (x.to == (r : Int)) = false := by simpa using hfr
              have hfn : (x.to != (r : Int)) = true := by simpa using hfr
              generalize x.to = xf at y1 hfb hfn
              clear hwget hp8 hfr y0 y2 y3 hbw
              go_wp2_with fail
              go_ret
              exact ⟨rfl, HBW.out.alloc HBW.out.size _⟩
        · have HP := hid (HNEXT.out (portOk_else h8 h9))
          have e8 : (what == 8) = false := by simpa using h8
          have e9 : (what == 9) = false := by simpa using h9
          have f8 : (what != 8) = true := by simpa using h8
          have f9 : (what != 9) = true := by simpa using h9
          clear hbd h8 h9
          go_wp2_with fail
          go_roundw
          case rel => exact ⟨k + 1, by omega, by go_num, HP.out, HB.out.alloc HB.out.size _⟩
          case measure => simp [intOf]; omega
    · obtain rfl : k = no := by omega
      have ht := HALL.out (fun j o hj ho => HA.out j o (by have := HNO.out; omega) ho)
      subst ht
      go_wp2_with fail
      go_ret
      exact ⟨rfl, HBW.out⟩
end Go.Proofs.YthdmgighblhmhaaGreatDoor

/- Package plan: the contract of Check, for every plan. -/
namespace Go.Proofs.YthdmgighblhmhaaGreatDoor
open Go.RowKit
set_option maxRecDepth 100000

theorem over_any (x : Span) (many : Int) (bm : Nat) (w : World) (hm : w.cell? ⟨bm, 0, none⟩ = some (.int .i64 many)) :
    Calls Tryz.prog 41 #[.agg #[.int .i64 x.fr, .int .i64 x.to, .int .i64 x.room], .pointer (some ⟨bm, 0, none⟩)] w fun e w' => e = .returned (.bool (spanOver many x)) ∧ Below w.heap.size w w' := by
  have hlt := cell_lt hm
  unfold spanOver
  go_enter Tryz.func41, Tryz.ntmps41
  go_wp2
  go_ret
  exact ⟨rfl, (Below.refl _ _).alloc (Nat.le_refl _) _⟩
theorem wover_any (x : Wire) (many : Int) (bm : Nat) (w : World) (hm : w.cell? ⟨bm, 0, none⟩ = some (.int .i64 many)) :
    Calls Tryz.prog 43 #[.agg #[.int .i64 x.fr, .int .i64 x.to, .int .i64 x.kind, .int .i64 x.deep], .pointer (some ⟨bm, 0, none⟩)] w fun e w' => e = .returned (.bool (wireOver many x)) ∧ Below w.heap.size w w' := by
  have hlt := cell_lt hm
  by_cases q1 : many ≤ x.fr
  · rw [show wireOver many x = true by simp [wireOver, q1]]
    go_enter Tryz.func43, Tryz.ntmps43
    go_wp2
    go_ret
    exact ⟨rfl, (Below.refl _ _).alloc (Nat.le_refl _) _⟩
  · rw [show wireOver many x = decide (many ≤ x.to) by simp [wireOver, q1]]
    have d1 : decide (many ≤ x.fr) = false := decide_eq_false q1
    go_enter Tryz.func43, Tryz.ntmps43
    go_wp2
    go_ret
    exact ⟨rfl, (Below.refl _ _).alloc (Nat.le_refl _) _⟩

theorem index_over (many : Int) (bm : Nat) (A : Option Addr) (c n : Nat) (l : List Span) (w : World) (hnl : l.length = n) (hs : Sl w A 3 n (l.flatMap Span.cells)) (hn : n ≤ 12) (h0 : w.cell? ⟨bm, 0, none⟩ = some (.int .i64 many)) :
    Calls Tryz.prog 73 #[.slice A n c, .func (.func 41) #[] #[.pointer (some ⟨bm, 0, none⟩)]] w (SpanAt l (spanOver many) w) := by
  have hlt := cell_lt h0
  have HS := hid hs
  have H0 := hid h0
  have HN := hid hnl
  clear hs h0 hnl
  go_enter Tryz.func73, Tryz.ntmps73
  go_wp2_with fail
  go_loopw [5, 8] (fun v5 v8 wr => ∃ k : Nat, k ≤ n ∧ v8 = .int .i64 k ∧ (∀ j s', j < k → l[j]? = some s' → ¬ spanOver many s' = true) ∧ Below w.heap.size w wr) (fun _ v8 _ => n - (intOf v8).toNat)
  case atStart => exact ⟨0, by omega, rfl, fun j s hj => absurd hj (by omega), Below.refl _ _⟩
  case round =>
    obtain ⟨k, hk, rfl, hno, hb⟩ := hrel
    have HNO := hid hno
    have HB := hid hb
    have k0 := HB.out.cell (p := ⟨bm, 0, none⟩) hlt
    rw [H0.out] at k0
    have K0 := hid k0
    clear hno hb k0
    by_cases hkl : k < n
    · obtain ⟨b, off, rfl, _, g0, g1, g2⟩ := HS.out.span HB.out (show k < l.length by rw [HN.out]; exact hkl) hkl
      have hget := List.getElem?_eq_getElem (show k < l.length by rw [HN.out]; exact hkl)
      generalize l[k]'(by rw [HN.out]; exact hkl) = x at g0 g1 g2 hget
      have HG := hid hget
      clear hget
      cases hm : spanOver many x with
      | true =>
        have HM := hid hm
        clear hm
        go_wp2_with (go_at_call 41; refine (over_any x many bm _ K0.out).mono ?_; rw [HM.out]; rintro e w1 ⟨rfl, hb1⟩)
        go_ret
        refine ⟨_, rfl, ?_, HB.out.trans (hb1.mono HB.out.size)⟩
        rw [List.any_eq_true.2 ⟨x, List.mem_of_getElem? HG.out, HM.out⟩]; simp
      | false =>
        have HM := hid hm
        clear hm
        go_wp2_with (go_at_call 41; refine (over_any x many bm _ K0.out).mono ?_; rw [HM.out]; rintro e w1 ⟨rfl, hb1⟩)
        go_roundw
        case rel => exact ⟨k + 1, by omega, by go_num, no_snoc HNO.out HG.out (by rw [HM.out]; decide), HB.out.trans (hb1.mono HB.out.size)⟩
        case measure => simp [intOf]; omega
    · obtain rfl : k = n := by omega
      go_wp2_with fail
      go_ret
      refine ⟨-1, rfl, ?_, HB.out⟩
      have : l.any (spanOver many) = false := by
        rw [List.any_eq_false]
        intro x hx
        obtain ⟨j, hj, rfl⟩ := List.getElem_of_mem hx
        exact HNO.out j _ (by rw [← HN.out]; exact hj) (List.getElem?_eq_getElem hj)
      rw [this]; rfl
theorem contains_over (many : Int) (bm : Nat) (A : Option Addr) (c n : Nat) (l : List Span) (w : World) (hnl : l.length = n) (hs : Sl w A 3 n (l.flatMap Span.cells)) (hn : n ≤ 12) (h0 : w.cell? ⟨bm, 0, none⟩ = some (.int .i64 many)) :
    Calls Tryz.prog 40 #[.slice A n c, .func (.func 41) #[] #[.pointer (some ⟨bm, 0, none⟩)]] w (TellOk w (l.any (spanOver many))) := by
  obtain ⟨q, hq⟩ : ∃ q, q = l.any (spanOver many) := ⟨_, rfl⟩
  rw [← hq]
  have HQ := hid hq
  have HS := hid hs
  have HN := hid hnl
  have H0 := hid h0
  clear hq hs hnl h0
  go_enter Tryz.func40, Tryz.ntmps40
  go_wp2_with (go_at_call 73; refine (index_over many bm A c n l _ HN.out HS.out hn H0.out).mono ?_; rintro e w1 ⟨r, rfl, hr, hb1⟩; have HR := hid hr; clear hr)
  go_ret
  refine ⟨?_, hb1⟩
  rw [HQ.out, ← HR.out]
  rfl
def WireAtI (l : List Wire) (Q : Wire → Bool) (w : World) (e : Ending) (w' : World) : Prop :=
  ∃ r : Int, e = .returned (.int .i64 r) ∧ (decide (0 ≤ r) = l.any Q) ∧ Below w.heap.size w w'
theorem no_snocW {l : List Wire} {k : Nat} {Q : Wire → Prop} {s : Wire} (h : ∀ j s, j < k → l[j]? = some s → ¬ Q s) (hs : l[k]? = some s) (hq : ¬ Q s) : ∀ j s, j < k + 1 → l[j]? = some s → ¬ Q s := by
  intro j s' hj hg
  by_cases hjk : j = k
  · subst hjk; rw [hs] at hg; cases hg; exact hq
  · exact h j s' (by omega) hg
theorem windex_over (many : Int) (bm : Nat) (A : Option Addr) (c n : Nat) (l : List Wire) (w : World) (hnl : l.length = n) (hs : Sl w A 4 n (l.flatMap Wire.cells)) (hn : n ≤ 12) (h0 : w.cell? ⟨bm, 0, none⟩ = some (.int .i64 many)) :
    Calls Tryz.prog 74 #[.slice A n c, .func (.func 43) #[] #[.pointer (some ⟨bm, 0, none⟩)]] w (WireAtI l (wireOver many) w) := by
  have hlt := cell_lt h0
  have HS := hid hs
  have H0 := hid h0
  have HN := hid hnl
  clear hs h0 hnl
  go_enter Tryz.func74, Tryz.ntmps74
  go_wp2_with fail
  go_loopw [5, 8] (fun v5 v8 wr => ∃ k : Nat, k ≤ n ∧ v8 = .int .i64 k ∧ (∀ j s', j < k → l[j]? = some s' → ¬ wireOver many s' = true) ∧ Below w.heap.size w wr) (fun _ v8 _ => n - (intOf v8).toNat)
  case atStart => exact ⟨0, by omega, rfl, fun j s hj => absurd hj (by omega), Below.refl _ _⟩
  case round =>
    obtain ⟨k, hk, rfl, hno, hb⟩ := hrel
    have HNO := hid hno
    have HB := hid hb
    have k0 := HB.out.cell (p := ⟨bm, 0, none⟩) hlt
    rw [H0.out] at k0
    have K0 := hid k0
    clear hno hb k0
    by_cases hkl : k < n
    · obtain ⟨b, off, rfl, _, g0, g1, g2, g3⟩ := HS.out.wire HB.out (show k < l.length by rw [HN.out]; exact hkl) hkl
      have hget := List.getElem?_eq_getElem (show k < l.length by rw [HN.out]; exact hkl)
      generalize l[k]'(by rw [HN.out]; exact hkl) = x at g0 g1 g2 g3 hget
      have HG := hid hget
      clear hget
      cases hm : wireOver many x with
      | true =>
        have HM := hid hm
        clear hm
        go_wp2_with (go_at_call 43; refine (wover_any x many bm _ K0.out).mono ?_; rw [HM.out]; rintro e w1 ⟨rfl, hb1⟩)
        go_ret
        refine ⟨_, rfl, ?_, HB.out.trans (hb1.mono HB.out.size)⟩
        rw [List.any_eq_true.2 ⟨x, List.mem_of_getElem? HG.out, HM.out⟩]; simp
      | false =>
        have HM := hid hm
        clear hm
        go_wp2_with (go_at_call 43; refine (wover_any x many bm _ K0.out).mono ?_; rw [HM.out]; rintro e w1 ⟨rfl, hb1⟩)
        go_roundw
        case rel => exact ⟨k + 1, by omega, by go_num, no_snocW HNO.out HG.out (by rw [HM.out]; decide), HB.out.trans (hb1.mono HB.out.size)⟩
        case measure => simp [intOf]; omega
    · obtain rfl : k = n := by omega
      go_wp2_with fail
      go_ret
      refine ⟨-1, rfl, ?_, HB.out⟩
      have : l.any (wireOver many) = false := by
        rw [List.any_eq_false]
        intro x hx
        obtain ⟨j, hj, rfl⟩ := List.getElem_of_mem hx
        exact HNO.out j _ (by rw [← HN.out]; exact hj) (List.getElem?_eq_getElem hj)
      rw [this]; rfl
theorem wcontains_over (many : Int) (bm : Nat) (A : Option Addr) (c n : Nat) (l : List Wire) (w : World) (hnl : l.length = n) (hs : Sl w A 4 n (l.flatMap Wire.cells)) (hn : n ≤ 12) (h0 : w.cell? ⟨bm, 0, none⟩ = some (.int .i64 many)) :
    Calls Tryz.prog 42 #[.slice A n c, .func (.func 43) #[] #[.pointer (some ⟨bm, 0, none⟩)]] w (TellOk w (l.any (wireOver many))) := by
  obtain ⟨q, hq⟩ : ∃ q, q = l.any (wireOver many) := ⟨_, rfl⟩
  rw [← hq]
  have HQ := hid hq
  have HS := hid hs
  have HN := hid hnl
  have H0 := hid h0
  clear hq hs hnl h0
  go_enter Tryz.func42, Tryz.ntmps42
  go_wp2_with (go_at_call 74; refine (windex_over many bm A c n l _ HN.out HS.out hn H0.out).mono ?_; rintro e w1 ⟨r, rfl, hr, hb1⟩; have HR := hid hr; clear hr)
  go_ret
  refine ⟨?_, hb1⟩
  rw [HQ.out, ← HR.out]
  rfl

/-- The plan that lies, as plain data. -/
def PM.pl (m : PM) : Pl := ⟨m.ros.map Ro.ops, m.ticks, m.spans, m.wires⟩

theorem codes_drop {l : List Ro} {k : Nat} {r : Ro} (h : l[k]? = some r) : (l.drop k).map Ro.ops = r.ops :: (l.drop (k + 1)).map Ro.ops := by
  obtain ⟨hlt, rfl⟩ := List.getElem?_eq_some_iff.1 h
  rw [List.drop_eq_getElem_cons hlt, List.map_cons]

theorem plan_eq (m : PM) : planChk m.pl = if 5 < m.ros.length then 4 else if m.ros.length = 0 then 5 else if (frameChk m.ticks m.spans).2 ≠ 0 then (frameChk m.ticks m.spans).2
    else if (flowChk m.wires).2 ≠ 0 then (flowChk m.wires).2 else if (m.spans.any (spanOver m.ros.length) || m.wires.any (wireOver m.ros.length)) = true then 1
    else if codesChk (m.ros.map Ro.ops) ≠ 0 then codesChk (m.ros.map Ro.ops) else if allPorts m.wires (m.ros.map Ro.ops) 0 = false then 3 else 0 := by
  unfold planChk PM.pl
  simp only [List.length_map]

set_option maxHeartbeats 8000000 in
theorem plan_check (m : PM) (w : World) (hf : Forms w) (hm : PlanAt w m) :
    Calls Tryz.prog 25 #[.agg #[.slice m.A m.ros.length m.c, .int .i64 m.ticks, .slice m.sA m.spans.length m.sc, .slice m.wA m.wires.length m.wc]] w
      fun e w' => e = .returned (errV (planChk m.pl)) ∧ Below w.heap.size w w' := by
  have HFR : Hid (∀ w', Below w.heap.size w w' → Calls Tryz.prog 38 #[.int .i64 m.ticks, .slice m.sA m.spans.length m.sc] w' fun e w'' => e = .returned (errV (frameChk m.ticks m.spans).2) ∧ Below w'.heap.size w' w'') :=
    fun w' hb => frame_right m.ticks m.sA m.sc m.spans w' (hm.spans.new hb) hm.spansW
  have HFL : Hid (∀ w', Below w.heap.size w w' → Calls Tryz.prog 39 #[.slice m.wA m.wires.length m.wc] w' fun e w'' => e = .returned (errV (flowChk m.wires).2) ∧ Below w'.heap.size w' w'') :=
    fun w' hb => flow_right m.wA m.wc m.wires w' (hm.wires.new hb) hm.wiresW
  have hpe := plan_eq m
  obtain ⟨R, hR⟩ : ∃ R, R = planChk m.pl := ⟨_, rfl⟩
  rw [← hR] at hpe ⊢
  clear hR
  obtain ⟨hrn1, hrn2, hrn3⟩ := hm.rowsW
  unfold maxLen at hrn2
  have HROWS := hid hm.rows
  have HCODES := hid hm.codes
  have HFF := hid hf
  have HWI := hid hm.wires
  have h12 : (frameChk m.ticks m.spans).2 = 0 → m.spans.length ≤ 12 := fun h => (frameChk_ticks h).2.2
  have h12w : (flowChk m.wires).2 = 0 → m.wires.length ≤ 12 := fun h => (flowChk_ok h).1
  have hO1 : ∀ w', Below w.heap.size w w' → ∀ bm, m.spans.length ≤ 12 → w'.cell? ⟨bm, 0, none⟩ = some (.int .i64 m.ros.length) → Calls Tryz.prog 40 #[.slice m.sA m.spans.length m.sc, .func (.func 41) #[] #[.pointer (some ⟨bm, 0, none⟩)]] w' (TellOk w' (m.spans.any (spanOver m.ros.length))) :=
    fun w' hb bm h1 h2 => contains_over m.ros.length bm m.sA m.sc _ m.spans w' rfl (hm.spans.new hb) h1 h2
  have hO2 : ∀ w', Below w.heap.size w w' → ∀ bm, m.wires.length ≤ 12 → w'.cell? ⟨bm, 0, none⟩ = some (.int .i64 m.ros.length) → Calls Tryz.prog 42 #[.slice m.wA m.wires.length m.wc, .func (.func 43) #[] #[.pointer (some ⟨bm, 0, none⟩)]] w' (TellOk w' (m.wires.any (wireOver m.ros.length))) :=
    fun w' hb bm h1 h2 => wcontains_over m.ros.length bm m.wA m.wc _ m.wires w' rfl (hm.wires.new hb) h1 h2
  obtain ⟨A, c, ros, tk, sA, sc, spans, wA, wc, ws⟩ := m
  simp only [] at HFR HFL hpe hrn1 hrn2 hrn3 HROWS HCODES HWI h12 h12w hO1 hO2 ⊢
  obtain ⟨n, hn⟩ : ∃ n, n = ros.length := ⟨_, rfl⟩
  obtain ⟨ns, hns⟩ : ∃ n, n = spans.length := ⟨_, rfl⟩
  obtain ⟨nw, hnw⟩ : ∃ n, n = ws.length := ⟨_, rfl⟩
  rw [← hn] at hpe hrn1 HROWS hO1 hO2 ⊢
  rw [← hns] at HFR h12 hO1 ⊢
  rw [← hnw] at HFL h12w hO2 HWI ⊢
  have HN := hid hn
  have HNW := hid hnw
  generalize (frameChk tk spans).2 = F at HFR hpe h12
  generalize (flowChk ws).2 = WF at HFL hpe h12w
  generalize spans.any (spanOver n) = o1 at hpe hO1
  generalize ws.any (wireOver n) = o2 at hpe hO2
  clear hm hf hn hns hnw hrn3
  by_cases h5 : 5 < n
  · rw [if_pos h5] at hpe
    subst hpe
    clear hO1 hO2 h12 h12w
    go_enter Tryz.func25, Tryz.ntmps25
    go_wp2_with fail
    go_ret
    exact ⟨rfl, ((Below.refl _ _).alloc (by simp) _).alloc (by simp) _⟩
  rw [if_neg h5] at hpe
  by_cases h0 : n = 0
  · subst h0
    rw [if_pos rfl] at hpe
    subst hpe
    clear hO1 hO2 h12 h12w
    go_enter Tryz.func25, Tryz.ntmps25
    go_wp2_with fail
    go_ret
    exact ⟨rfl, ((Below.refl _ _).alloc (by simp) _).alloc (by simp) _⟩
  rw [if_neg h0] at hpe
  have h01 : 0 < n := by omega
  have h05 : n ≤ 5 := by omega
  have h0b : ((n : Int) == 0) = false := by simp; omega
  clear h5 h0 hrn1 hrn2
  have HPE := hid hpe
  have HO1' := hid hO1
  have HO2' := hid hO2
  have H12 := hid h12
  have H12W := hid h12w
  clear hpe hO1 hO2 h12 h12w
  go_enter Tryz.func25, Tryz.ntmps25
  go_upto_region 2 with fail
  obtain ⟨w0, hw0⟩ : ∃ w0, w0 = (w.alloc (.cells #[.slice A n c, .int .i64 tk, .slice sA ns sc, .slice wA nw wc] 31)).alloc (.cells #[.int .i64 n] 3) := ⟨_, rfl⟩
  have h0p : w0.heap[w.heap.size]? = some (.cells #[.slice A n c, .int .i64 tk, .slice sA ns sc, .slice wA nw wc] 31 (0, 0)) := by rw [hw0, hp_alloc, if_neg (by simp)]; exact heap_alloc_new w _
  have h0m : w0.heap[w.heap.size + 1]? = some (.cells #[.int .i64 n] 3 (0, 0)) := by rw [hw0, hp_alloc, if_pos (by simp)]
  have h0w : Below w.heap.size w w0 := by rw [hw0]; exact ((Below.refl _ _).alloc (by simp) _).alloc (by simp) _
  rw [← hw0]
  have H0P := hid h0p
  have H0M := hid h0m
  have HW0 := hid h0w
  have HPC : Hid (∀ w' : World, w'.heap[w.heap.size]? = some (.cells #[.slice A n c, .int .i64 tk, .slice sA ns sc, .slice wA nw wc] 31 (0, 0)) → w'.cell? ⟨w.heap.size, 0, none⟩ = some (.slice A n c) ∧ w'.cell? ⟨w.heap.size, 1, none⟩ = some (.int .i64 tk) ∧ w'.cell? ⟨w.heap.size, 2, none⟩ = some (.slice sA ns sc) ∧ w'.cell? ⟨w.heap.size, 3, none⟩ = some (.slice wA nw wc)) :=
    fun w' h => ⟨blk_cell h 0, blk_cell h 1, blk_cell h 2, blk_cell h 3⟩
  have HMC : Hid (∀ w' : World, Below w0.heap.size w0 w' → w'.cell? ⟨w.heap.size + 1, 0, none⟩ = some (.int .i64 n)) := fun w' hb => (hb.cell (p := ⟨w.heap.size + 1, 0, none⟩) (blk_lt H0M.out)).trans (blk_cell H0M.out 0)
  have HB := hid (Below.refl w0.heap.size w0)
  obtain ⟨p0, p1, p2, p3⟩ := HPC.out _ h0p
  have pm := HMC.out _ HB.out
  clear hw0 h0p h0m h0w
  by_cases hF : F = 0
  · subst hF
    rw [errV_zero] at HFR
    have h12 := H12.out rfl
    have HO1 : Hid (∀ w', Below w.heap.size w w' → w'.cell? ⟨w.heap.size + 1, 0, none⟩ = some (.int .i64 n) → Calls Tryz.prog 40 #[.slice sA ns sc, .func (.func 41) #[] #[.pointer (some ⟨w.heap.size + 1, 0, none⟩)]] w' (TellOk w' o1)) := fun w' hb hc => HO1'.out w' hb _ h12 hc
    have hpe := HPE.out
    rw [if_neg (by simp)] at hpe
    by_cases hWF : WF = 0
    · subst hWF
      rw [errV_zero] at HFL
      have h12w := H12W.out rfl
      have HO2 : Hid (∀ w', Below w.heap.size w w' → w'.cell? ⟨w.heap.size + 1, 0, none⟩ = some (.int .i64 n) → Calls Tryz.prog 42 #[.slice wA nw wc, .func (.func 43) #[] #[.pointer (some ⟨w.heap.size + 1, 0, none⟩)]] w' (TellOk w' o2)) := fun w' hb hc => HO2'.out w' hb _ h12w hc
      rw [if_neg (by simp)] at hpe
      cases o1 with
      | true =>
        rw [if_pos (by simp)] at hpe
        subst hpe
        clear h12 h12w
        go_wp2_with (first | (go_at_call 38; refine (HFR.out _ (HW0.out.trans (HB.out.mono HW0.out.size))).mono ?_; rintro e w1 ⟨rfl, hb1⟩; replace HB := hid (HB.out.trans (hb1.mono HB.out.size)); clear p0 p1 p2 p3 pm hb1; obtain ⟨p0, p1, p2, p3⟩ := HPC.out _ ((HB.out.block _ (blk_lt H0P.out)).trans H0P.out); have pm := HMC.out _ HB.out) | (go_at_call 39; refine (HFL.out _ (HW0.out.trans (HB.out.mono HW0.out.size))).mono ?_; rintro e w1 ⟨rfl, hb1⟩; replace HB := hid (HB.out.trans (hb1.mono HB.out.size)); clear p0 p1 p2 p3 pm hb1; obtain ⟨p0, p1, p2, p3⟩ := HPC.out _ ((HB.out.block _ (blk_lt H0P.out)).trans H0P.out); have pm := HMC.out _ HB.out) | (go_at_call 40; refine (HO1.out _ (HW0.out.trans (HB.out.mono HW0.out.size)) pm).mono ?_; rintro e w1 ⟨rfl, hb1⟩; replace HB := hid (HB.out.trans (hb1.mono HB.out.size)); clear p0 p1 p2 p3 pm hb1; obtain ⟨p0, p1, p2, p3⟩ := HPC.out _ ((HB.out.block _ (blk_lt H0P.out)).trans H0P.out); have pm := HMC.out _ HB.out))
        go_ret
        exact ⟨rfl, (HW0.out.trans (HB.out.mono HW0.out.size))⟩
      | false =>
        cases o2 with
        | true =>
          rw [if_pos (by simp)] at hpe
          subst hpe
          clear h12 h12w
          go_wp2_with (first | (go_at_call 38; refine (HFR.out _ (HW0.out.trans (HB.out.mono HW0.out.size))).mono ?_; rintro e w1 ⟨rfl, hb1⟩; replace HB := hid (HB.out.trans (hb1.mono HB.out.size)); clear p0 p1 p2 p3 pm hb1; obtain ⟨p0, p1, p2, p3⟩ := HPC.out _ ((HB.out.block _ (blk_lt H0P.out)).trans H0P.out); have pm := HMC.out _ HB.out) | (go_at_call 39; refine (HFL.out _ (HW0.out.trans (HB.out.mono HW0.out.size))).mono ?_; rintro e w1 ⟨rfl, hb1⟩; replace HB := hid (HB.out.trans (hb1.mono HB.out.size)); clear p0 p1 p2 p3 pm hb1; obtain ⟨p0, p1, p2, p3⟩ := HPC.out _ ((HB.out.block _ (blk_lt H0P.out)).trans H0P.out); have pm := HMC.out _ HB.out) | (go_at_call 40; refine (HO1.out _ (HW0.out.trans (HB.out.mono HW0.out.size)) pm).mono ?_; rintro e w1 ⟨rfl, hb1⟩; replace HB := hid (HB.out.trans (hb1.mono HB.out.size)); clear p0 p1 p2 p3 pm hb1; obtain ⟨p0, p1, p2, p3⟩ := HPC.out _ ((HB.out.block _ (blk_lt H0P.out)).trans H0P.out); have pm := HMC.out _ HB.out) | (go_at_call 42; refine (HO2.out _ (HW0.out.trans (HB.out.mono HW0.out.size)) pm).mono ?_; rintro e w1 ⟨rfl, hb1⟩; replace HB := hid (HB.out.trans (hb1.mono HB.out.size)); clear p0 p1 p2 p3 pm hb1; obtain ⟨p0, p1, p2, p3⟩ := HPC.out _ ((HB.out.block _ (blk_lt H0P.out)).trans H0P.out); have pm := HMC.out _ HB.out))
          go_ret
          exact ⟨rfl, (HW0.out.trans (HB.out.mono HW0.out.size))⟩
        | false =>
          rw [if_neg (by simp)] at hpe
          replace HPE := hid hpe
          clear hpe h12 h12w
          go_wp2_with (first | (go_at_call 38; refine (HFR.out _ (HW0.out.trans (HB.out.mono HW0.out.size))).mono ?_; rintro e w1 ⟨rfl, hb1⟩; replace HB := hid (HB.out.trans (hb1.mono HB.out.size)); clear p0 p1 p2 p3 pm hb1; obtain ⟨p0, p1, p2, p3⟩ := HPC.out _ ((HB.out.block _ (blk_lt H0P.out)).trans H0P.out); have pm := HMC.out _ HB.out) | (go_at_call 39; refine (HFL.out _ (HW0.out.trans (HB.out.mono HW0.out.size))).mono ?_; rintro e w1 ⟨rfl, hb1⟩; replace HB := hid (HB.out.trans (hb1.mono HB.out.size)); clear p0 p1 p2 p3 pm hb1; obtain ⟨p0, p1, p2, p3⟩ := HPC.out _ ((HB.out.block _ (blk_lt H0P.out)).trans H0P.out); have pm := HMC.out _ HB.out) | (go_at_call 40; refine (HO1.out _ (HW0.out.trans (HB.out.mono HW0.out.size)) pm).mono ?_; rintro e w1 ⟨rfl, hb1⟩; replace HB := hid (HB.out.trans (hb1.mono HB.out.size)); clear p0 p1 p2 p3 pm hb1; obtain ⟨p0, p1, p2, p3⟩ := HPC.out _ ((HB.out.block _ (blk_lt H0P.out)).trans H0P.out); have pm := HMC.out _ HB.out) | (go_at_call 42; refine (HO2.out _ (HW0.out.trans (HB.out.mono HW0.out.size)) pm).mono ?_; rintro e w1 ⟨rfl, hb1⟩; replace HB := hid (HB.out.trans (hb1.mono HB.out.size)); clear p0 p1 p2 p3 pm hb1; obtain ⟨p0, p1, p2, p3⟩ := HPC.out _ ((HB.out.block _ (blk_lt H0P.out)).trans H0P.out); have pm := HMC.out _ HB.out))
          obtain ⟨C, hC⟩ : ∃ C, C = codesChk (ros.map Ro.ops) := ⟨_, rfl⟩
          obtain ⟨P, hP⟩ : ∃ P, P = allPorts ws (ros.map Ro.ops) 0 := ⟨_, rfl⟩
          have hpe := HPE.out
          rw [← hC, ← hP] at hpe
          replace HPE := hid hpe
          have HC := hid hC
          have HP := hid hP
          clear hC hP hpe p0 p1 p2 p3 pm
          go_loopw [49] (fun v49 wr => ∃ k : Nat, k ≤ n ∧ v49 = .int .i64 k ∧ C = codesChk ((ros.drop k).map Ro.ops) ∧ Below w0.heap.size w0 wr) (fun v49 _ => n - (intOf v49).toNat)
          case atStart => exact ⟨0, by omega, rfl, by rw [List.drop_zero]; exact HC.out, HB.out⟩
          case round =>
            obtain ⟨k, hk, rfl, hck, hb⟩ := hrel
            have HCK := hid hck
            have HBR := hid hb
            have HBW := hid (HW0.out.trans (hb.mono HW0.out.size))
            clear hck hb
            by_cases hkn : k < n
            · obtain ⟨ro, hro⟩ : ∃ ro, ros[k]? = some ro := ⟨_, List.getElem?_eq_getElem (by rw [← HN.out]; exact hkn)⟩
              obtain ⟨rb, roff, rfl, hrb, hcell⟩ := HROWS.out.ro HBW.out hro hkn
              have hat := HCODES.out ro (List.mem_of_getElem? hro)
              have HCR : Hid (∀ w', Below w.heap.size w w' → Calls Tryz.prog 44 #[.slice ro.A ro.ops.length ro.c] w' fun e w'' => e = .returned (errV (codeChk ro.ops).2) ∧ Below w'.heap.size w' w'') := fun w' hb => code_right ro.A ro.c ro.ops w' (HFF.out.new hb) (hat.1.new hb) hat.2.1
              have hdrop := codes_drop hro
              have hcs : codesChk ((ros.drop k).map Ro.ops) = if (codeChk ro.ops).2 ≠ 0 then (codeChk ro.ops).2 else codesChk ((ros.drop (k + 1)).map Ro.ops) := by rw [hdrop]; rfl
              obtain ⟨RA, rc, ops⟩ := ro
              simp only [] at HCR hcell hcs
              generalize ops.length = lo at HCR hcell
              generalize (codeChk ops).2 = E at HCR hcs
              have HCS := hid hcs
              have hrlt : rb < wr.heap.size := Nat.lt_of_lt_of_le hrb HBW.out.size
              clear hcs hdrop hat hro hrb
              by_cases hE : E = 0
              · subst hE
                rw [errV_zero] at HCR
                have hc2 := HCK.out
                rw [HCS.out, if_neg (by simp)] at hc2
                have HC2 := hid hc2
                clear hc2
                go_wp2_with (go_at_call 44; refine (HCR.out _ HBW.out).mono ?_; rintro e w1 ⟨rfl, hb1⟩; have HB1 := hid hb1; clear hb1)
                go_roundw
                case rel => exact ⟨k + 1, by omega, by go_num, HC2.out, HBR.out.trans (HB1.out.mono HBR.out.size)⟩
                case measure => simp [intOf]; omega
              · have hc2 := HCK.out
                rw [HCS.out, if_pos hE] at hc2
                have hpe := HPE.out
                rw [hc2, if_pos hE] at hpe
                have hv := errV_pos hE
                have HV : Hid (errV R = .iface 98 (.int .i64 E)) := by rw [hpe]; exact hv
                rw [hv] at HCR
                clear hc2 hpe hv hE
                go_wp2_with (go_at_call 44; refine (HCR.out _ HBW.out).mono ?_; rintro e w1 ⟨rfl, hb1⟩; have HB1 := hid hb1; clear hb1)
                go_ret
                exact ⟨by rw [HV.out]; rfl, HBW.out.trans (HB1.out.mono HBW.out.size)⟩
            · obtain rfl : k = n := by omega
              have hc0 : C = 0 := by rw [HCK.out, List.drop_eq_nil_of_le (by rw [← HN.out]; exact Nat.le_refl _)]; rfl
              have hall : ∀ r ∈ ros, (codeChk r.ops).2 = 0 := fun r hr => codesChk_ok (by rw [← HC.out]; exact hc0) _ (List.mem_map_of_mem hr)
              have hpe := HPE.out
              rw [if_neg (by simpa using hc0)] at hpe
              have HALL := hid hall
              replace HPE := hid hpe
              obtain ⟨p0, p1, p2, p3⟩ := HPC.out _ ((HBR.out.block _ (blk_lt H0P.out)).trans H0P.out)
              clear hc0 hall hpe
              go_wp2_with fail
              clear p0 p1 p2 p3
              go_loopw [62, 9] (fun v62 v9 wq => ∃ j : Nat, j ≤ k ∧ v62 = .int .i64 j ∧ P = allPorts ws ((ros.drop j).map Ro.ops) j ∧ Below w0.heap.size w0 wq) (fun v62 _ _ => k - (intOf v62).toNat)
              case atStart => exact ⟨0, by omega, rfl, by rw [List.drop_zero]; exact HP.out, HBR.out⟩
              case round =>
                obtain ⟨j, hj, rfl, hpj, hbq⟩ := hrel
                have HPJ := hid hpj
                have HBQ := hid hbq
                have HBV := hid (HW0.out.trans (hbq.mono HW0.out.size))
                clear hpj hbq
                by_cases hjk : j < k
                · obtain ⟨ro, hro⟩ : ∃ ro, ros[j]? = some ro := ⟨_, List.getElem?_eq_getElem (by rw [← HN.out]; exact hjk)⟩
                  have hat := HCODES.out ro (List.mem_of_getElem? hro)
                  have HPT : Hid (∀ w', Below w.heap.size w w' → Calls Tryz.prog 45 #[.agg #[.slice A k c, .int .i64 tk, .slice sA ns sc, .slice wA nw wc], .int .i64 j] w' (TellOk w' (portsOk ws j ro.ops))) := fun w' hb =>
                    ports_any w' A c k ros (HROWS.out.new hb) j ro hro hjk (hat.1.new hb) (HALL.out ro (List.mem_of_getElem? hro)) tk sA ns sc wA wc nw ws HNW.out.symm (HWI.out.new hb)
                  have hdrop := codes_drop hro
                  have hcs : allPorts ws ((ros.drop j).map Ro.ops) j = (portsOk ws j ro.ops && allPorts ws ((ros.drop (j + 1)).map Ro.ops) (j + 1)) := by rw [hdrop]; rfl
                  generalize portsOk ws j ro.ops = pk at HPT hcs
                  have HCS := hid hcs
                  obtain ⟨p0, p1, p2, p3⟩ := HPC.out _ ((HBQ.out.block _ (blk_lt H0P.out)).trans H0P.out)
                  clear hcs hdrop hat hro
                  cases pk with
                  | true =>
                    have hp2 := HPJ.out
                    rw [HCS.out, Bool.true_and] at hp2
                    have HP2 := hid hp2
                    clear hp2
                    go_wp2_with (go_at_call 45; refine (HPT.out _ HBV.out).mono ?_; rintro e w1 ⟨rfl, hb1⟩; have HB1 := hid hb1; clear hb1)
                    go_roundw
                    case rel => exact ⟨j + 1, by omega, by go_num, HP2.out, HBQ.out.trans (HB1.out.mono HBQ.out.size)⟩
                    case measure => simp [intOf]; omega
                  | false =>
                    have hp2 := HPJ.out
                    rw [HCS.out, Bool.false_and] at hp2
                    have hpe := HPE.out
                    rw [if_pos hp2] at hpe
                    subst hpe
                    clear hp2
                    go_wp2_with (go_at_call 45; refine (HPT.out _ HBV.out).mono ?_; rintro e w1 ⟨rfl, hb1⟩; have HB1 := hid hb1; clear hb1)
                    go_ret
                    exact ⟨rfl, HBV.out.trans (HB1.out.mono HBV.out.size)⟩
                · obtain rfl : j = k := by omega
                  have hpt : P = true := by rw [HPJ.out, List.drop_eq_nil_of_le (by rw [← HN.out]; exact Nat.le_refl _)]; rfl
                  have hpe := HPE.out
                  rw [if_neg (by rw [hpt]; decide)] at hpe
                  subst hpe
                  clear hpt
                  go_wp2_with fail
                  go_ret
                  exact ⟨rfl, HBV.out⟩
    · rw [if_pos hWF] at hpe
      have hv := errV_pos hWF
      have HV : Hid (errV R = .iface 98 (.int .i64 WF)) := by rw [hpe]; exact hv
      rw [hv] at HFL
      clear hv hWF h12 hpe
      go_wp2_with (first | (go_at_call 38; refine (HFR.out _ (HW0.out.trans (HB.out.mono HW0.out.size))).mono ?_; rintro e w1 ⟨rfl, hb1⟩; replace HB := hid (HB.out.trans (hb1.mono HB.out.size)); clear p0 p1 p2 p3 pm hb1; obtain ⟨p0, p1, p2, p3⟩ := HPC.out _ ((HB.out.block _ (blk_lt H0P.out)).trans H0P.out); have pm := HMC.out _ HB.out) | (go_at_call 39; refine (HFL.out _ (HW0.out.trans (HB.out.mono HW0.out.size))).mono ?_; rintro e w1 ⟨rfl, hb1⟩; replace HB := hid (HB.out.trans (hb1.mono HB.out.size)); clear p0 p1 p2 p3 pm hb1; obtain ⟨p0, p1, p2, p3⟩ := HPC.out _ ((HB.out.block _ (blk_lt H0P.out)).trans H0P.out); have pm := HMC.out _ HB.out))
      go_ret
      exact ⟨by rw [HV.out]; rfl, (HW0.out.trans (HB.out.mono HW0.out.size))⟩
  · have hpe := HPE.out
    rw [if_pos hF] at hpe
    have hv := errV_pos hF
    have HV : Hid (errV R = .iface 98 (.int .i64 F)) := by rw [hpe]; exact hv
    rw [hv] at HFR
    clear hv hF hpe
    go_wp2_with (go_at_call 38; refine (HFR.out _ (HW0.out.trans (HB.out.mono HW0.out.size))).mono ?_; rintro e w1 ⟨rfl, hb1⟩; replace HB := hid (HB.out.trans (hb1.mono HB.out.size)); clear p0 p1 p2 p3 pm hb1; obtain ⟨p0, p1, p2, p3⟩ := HPC.out _ ((HB.out.block _ (blk_lt H0P.out)).trans H0P.out); have pm := HMC.out _ HB.out)
    go_ret
    exact ⟨by rw [HV.out]; rfl, (HW0.out.trans (HB.out.mono HW0.out.size))⟩
end Go.Proofs.YthdmgighblhmhaaGreatDoor
