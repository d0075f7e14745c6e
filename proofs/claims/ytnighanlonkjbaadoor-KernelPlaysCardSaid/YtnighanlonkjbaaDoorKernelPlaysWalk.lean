/- The walk of framelaw1.KernelPlays: it returns true at every input. -/
import Derived.Test.YtnighanlonkjbaaDoorRKern
import Derived.Test.YtnighanlonkjbaaDoorRPlan
import Derived.Test.YtnighanlonkjbaaDoorKLawU
import Derived.Test.YtnighanlonkjbaaDoorSameU
import Derived.Test.YtnighanlonkjbaaDoorSameHelds
import Derived.Test.YtnighanlonkjbaaDoorRunU
import Derived.Test.YtnighanlonkjbaaDoorDoorU
import Derived.IntWalk
import Derived.StillTailTactics
import Derived.Deep.DeepCutAuto
import Derived.Deep.CutBlock
namespace Go.Proofs.YtnighanlonkjbaaDoor
open Go.RowKit
set_option maxRecDepth 100000

/-- What holds ahead of each step: both kernels are alike. -/
structure PlaysMid (w wr : World) (kb mb : Nat) (p : Pl) (i : Nat) (k : Kst) (B : Int) (M N : KM) : Prop where
  pair : RPair w wr kb p M k mb N k
  ok : KOk p k B
  bound : B ≤ 5 * i

/-- In a step: both kernels, and the step's own numbers. -/
structure PlaysIn (w wr : World) (kb mb vb : Nat) (p : Pl) (o : Obj) (k m : Kst) (M N : KM) : Prop where
  pair : RPair w wr kb p M k mb N m
  arr : wr.heap[vb]? = some o
  na : ¬ TF kb M vb
  nb : ¬ TF mb N vb
section
variable {w wr w3 : World} {kb mb vb : Nat} {p : Pl} {o : Obj} {k k' m m' : Kst} {M M' N N' : KM}
theorem PlaysIn.lt (h : PlaysIn w wr kb mb vb p o k m M N) : vb < wr.heap.size := (Array.getElem?_eq_some_iff.1 h.arr).1
theorem PlaysIn.new (h : PlaysIn w wr kb mb vb p o k m M N) (hb : Below wr.heap.size wr w3) : PlaysIn w w3 kb mb vb p o k m M N := ⟨h.pair.new hb, (hb.block _ h.lt).trans h.arr, h.na, h.nb⟩
theorem PlaysIn.goA (h : PlaysIn w wr kb mb vb p o k m M N) (h1 : KRun w w3 kb p M' k') (h3 : Keep (KF kb M) wr w3) (h4 : ∀ j, TF kb M' j → TF kb M j ∨ wr.heap.size ≤ j) : PlaysIn w w3 kb mb vb p o k' m M' N :=
  ⟨h.pair.goA h1 h3 h4, (h3.block _ h.lt fun hj => h.na (.inl hj)).trans h.arr, fun hj => (h4 _ hj).elim h.na fun h5 => by have := h.lt; omega, h.nb⟩
theorem PlaysIn.goB (h : PlaysIn w wr kb mb vb p o k m M N) (h1 : RRun w w3 mb p N' m') (h3 : Keep (KF mb N) wr w3) (h4 : ∀ j, TF mb N' j → TF mb N j ∨ wr.heap.size ≤ j) (h5 : N'.P = N.P) : PlaysIn w w3 kb mb vb p o k m' M N' :=
  ⟨h.pair.goB h1 h3 h4 h5, (h3.block _ h.lt fun hj => h.nb (.inl hj)).trans h.arr, h.na, fun hj => (h4 _ hj).elim h.nb fun h5 => by have := h.lt; omega⟩
theorem PlaysIn.pokedA (h : PlaysIn w wr kb mb vb p o k m M N) (h1 : KAt 137 125 48 w3 kb M k') (h3 : Keep (KF kb M) wr w3) : PlaysIn w w3 kb mb vb p o k' m M N :=
  h.goA (h.pair.a.ticked h1 ⟨rfl, rfl⟩ h3 fun _ hj => .inl hj) h3 fun _ hj => .inl hj
theorem PlaysIn.pokedB (h : PlaysIn w wr kb mb vb p o k m M N) (h1 : KAt 99 55 51 w3 mb N m') (h3 : Keep (KF mb N) wr w3) : PlaysIn w w3 kb mb vb p o k m' M N :=
  h.goB (h.pair.b.ticked h1 ⟨rfl, rfl⟩ h3 fun _ hj => .inl hj) h3 (fun _ hj => .inl hj) rfl
/-- A step begins: its numbers lie in new memory. -/
theorem PlaysIn.start {w6 wx : World} (h : RPair w wr kb p M k mb N m) (hv : vb = wr.heap.size) (hb : Below wr.heap.size wr w6) (hk : Keep (fun j => j = vb) w6 wx) (ha : wx.heap[vb]? = some o) : PlaysIn w wx kb mb vb p o k m M N := by
  have h6 := h.new hb
  have hA := h.a.kat.lt
  have hB := h.b.kat.lt
  have hbx : Below w.heap.size w wx := Keep.below (F := NoF) ((Keep.of_below NoF h6.a.below).then hk fun j hj hf => by have := h.a.below.size; omega) (Nat.le_refl _) (fun _ h => h.elim)
  refine ⟨⟨⟨h6.a.kat.through hk fun j hj hf => by have := hA j hj; omega, h6.a.plan, h6.a.fresh, hbx⟩, ⟨h6.b.kat.through hk fun j hj hf => by have := hB j hj; omega, h6.b.plan, h6.b.fresh, hbx⟩, h6.old, h6.apart⟩, ha, fun hj => by have := hA _ hj; omega, fun hj => by have := hB _ hj; omega⟩
end

set_option maxHeartbeats 8000000 in
theorem kernelPlays_walk {w : World} (hg : Handle w) (hf : Forms w) (m : PM) (hm : PlanAt w m) (A : Option Addr) (c : Nat) (l : List Il) (hs : Sl w A 1 l.length (l.flatMap Il.cells)) (hsw : SlW A c l.length) (hat : ∀ y ∈ l, y.At w) :
    Calls Tryd.prog 10 #[.agg #[.slice m.A m.ros.length m.c, .int .i64 m.ticks, .slice m.sA m.spans.length m.sc, .slice m.wA m.wires.length m.wc], .slice A l.length c] w fun e w' => e = .returned (.bool true) ∧ Below w.heap.size w w' := by
  have HG := hid hg
  have HF := hid hf
  have HM := hid hm
  have HS := hid hs
  have HAT := hid hat
  obtain ⟨hsw1, hsw2, _⟩ := hsw
  unfold maxLen at hsw2
  obtain ⟨nl, hnl⟩ : ∃ nl, l.length = nl := ⟨_, rfl⟩
  rw [hnl] at hsw1 HS ⊢
  have HNL := hid hnl
  obtain ⟨W1, hW1⟩ : ∃ W1, W1 = w.alloc (.cells #[.slice m.A m.ros.length m.c, .int .i64 m.ticks, .slice m.sA m.spans.length m.sc, .slice m.wA m.wires.length m.wc] 70) := ⟨_, rfl⟩
  have hb1 : Below w.heap.size w W1 := by rw [hW1]; exact (Below.refl _ _).alloc (Nat.le_refl _) _
  have hbox : W1.heap[w.heap.size]? = some (.cells #[.slice m.A m.ros.length m.c, .int .i64 m.ticks, .slice m.sA m.spans.length m.sc, .slice m.wA m.wires.length m.wc] 70 (0, 0)) := by rw [hW1]; exact heap_alloc_new w _
  have HB1 := hid hb1
  have HBOX := hid hbox
  have hRP := rplan_any W1 m (HM.out.new hb1)
  clear hb1 hbox hf hm hg hs hat hnl
  obtain ⟨nr, hnr⟩ : ∃ nr, m.ros.length = nr := ⟨_, rfl⟩
  obtain ⟨ns, hns⟩ : ∃ ns, m.spans.length = ns := ⟨_, rfl⟩
  obtain ⟨nw, hnw⟩ : ∃ nw, m.wires.length = nw := ⟨_, rfl⟩
  rw [hnr, hns, hnw] at hW1 HBOX hRP ⊢
  have HRP := hid hRP
  have HNR := hid hnr
  have HNS := hid hns
  have HNW := hid hnw
  clear hnr hns hnw hRP
  have x0 := blk_cell HBOX.out 0
  have x1 := blk_cell HBOX.out 1
  have x2 := blk_cell HBOX.out 2
  have x3 := blk_cell HBOX.out 3
  have hlt := blk_lt HBOX.out
  simp at x0 x1 x2 x3
  go_enter Tryd.func10, Tryd.ntmps10
  go_wp2_with fail
  rw [← hW1]
  go_wp2_with fail
  refine HRP.out.mono ?_
  rintro e w2 ⟨rfl, hb2⟩
  have HB2 := hid (HB1.out.trans (hb2.mono HB1.out.size))
  have HBX2 := hid ((hb2.block _ hlt).trans HBOX.out)
  clear hb2 HRP hW1 x0 x1 x2 x3 hlt
  have x0 := blk_cell HBX2.out 0
  have x1 := blk_cell HBX2.out 1
  have x2 := blk_cell HBX2.out 2
  have x3 := blk_cell HBX2.out 3
  have hlt := blk_lt HBX2.out
  simp at x0 x1 x2 x3
  by_cases he : planChk m.pl = 0
  · have hnew := new_run w2 m (HF.out.new HB2.out) (HM.out.new HB2.out) he
    have hnr := HNR.out
    have hns := HNS.out
    have hnw := HNW.out
    rw [hnr, hns, hnw] at hnew
    rw [he]
    have HE := hid he
    clear he hnr hns hnw
    go_wp2_with fail
    refine hnew.mono ?_
    clear hnew
    rintro e w3 ⟨kb, M3, rfl, hr3⟩
    have HR3 := hid hr3
    have HW3 := hid (HB2.out.trans (hr3.below.mono HB2.out.size))
    clear hr3
    go_wp2_with fail
    have hsame := error_same 0 w3 (HG.out.new HW3.out)
    rw [errV_zero] at hsame
    refine hsame.mono ?_
    clear hsame x0 x1 x2 x3 hlt
    rintro e w4 ⟨rfl, hb4⟩
    have HR4 := hid (HR3.out.new hb4)
    have HW4 := hid (HW3.out.trans (hb4.mono HW3.out.size))
    have HBX4 := hid ((HR4.out.below.block _ (blk_lt HBX2.out)).trans HBX2.out)
    clear hb4 HR3 HW3
    have x0 := blk_cell HBX4.out 0
    have x1 := blk_cell HBX4.out 1
    have x2 := blk_cell HBX4.out 2
    have x3 := blk_cell HBX4.out 3
    have hlt := blk_lt HBX4.out
    simp at x0 x1 x2 x3
    go_wp2_with fail
    have hnew := rnew_run w4 m (HM.out.new HW4.out) HE.out
    have hnr := HNR.out
    have hns := HNS.out
    have hnw := HNW.out
    rw [hnr, hns, hnw] at hnew
    refine hnew.mono ?_
    clear hnew hnr hns hnw x0 x1 x2 x3 hlt
    rintro e w5 ⟨mb, N5, rfl, hr5, hP5⟩
    have HPR := hid (RPair.mk' HR4.out hr5 hP5 (HM.out.new HB2.out))
    clear hr5 hP5 HR4 HW4 HBX4
    go_wp2_with fail
    obtain ⟨i0, hi, hz0, hz1, hz2⟩ := info_parts Tryd.infoSt
    have HPL : Hid (PlOk m.pl) := planChk_ok HE.out
    have HRL : Hid (∀ k B, KOk m.pl k B → k.rooms.length = nr) := fun k B h => by rw [h.rooms]; simp only [PM.pl, List.length_map]; exact HNR.out
    have HLL : Hid (∀ k B, KOk m.pl k B → k.lines.length = nw) := fun k B h => by rw [lines_len h]; exact HNW.out
    have hnr5 : nr ≤ 5 := by have := (planSmall HE.out).ros; have := HNR.out; omega
    have hnw12 : nw ≤ 12 := by have := (planSmall HE.out).wires; have := HNW.out; omega
    go_loopw [10] (fun v10 wr => ∃ i k B M N, i ≤ nl ∧ i ≤ 60 ∧ v10 = .int .i64 (i : Nat) ∧ PlaysMid w2 wr kb mb m.pl i k B M N) (fun v10 _ => nl - (intOf v10).toNat)
    case atStart => exact ⟨0, kNew m.pl, 0, M3, N5, by omega, by omega, rfl, HPR.out, kNew_ok HPL.out, by omega⟩
    case round =>
      obtain ⟨wo, rfl⟩ : ∃ wo : World, wo = wr := ⟨_, rfl⟩
      obtain ⟨i, k, B, M, N, hil, hi60, rfl, hpm⟩ := hrel
      have HPM := hid hpm
      have HBXR := hid ((hpm.pair.a.below.block _ (blk_lt HBX2.out)).trans HBX2.out)
      have HWR := hid (HB2.out.trans (hpm.pair.a.below.mono HB2.out.size))
      clear hpm
      by_cases hin : i < nl
      · by_cases h60 : i < 60
        · have hil2 : i < l.length := by rw [HNL.out]; exact hin
          have hget := List.getElem?_eq_getElem hil2
          have hyat := HAT.out _ (List.getElem_mem hil2)
          obtain ⟨lb, lo, rfl, hlb, hlx⟩ := HS.out.2 (by omega)
          have hcell := flatMap_get Il.cells 1 Il.len l i 0 _ hget (by decide)
          rw [Nat.mul_one, Nat.add_zero] at hcell
          replace hcell := hlx i _ (hcell.trans rfl)
          generalize l[i] = y at hyat hcell
          have hcw : ∀ w', Below w.heap.size w w' → w'.cell? ⟨lb, lo + i, none⟩ = some (.slice y.A y.l.length y.c) := fun w' hb => (hb.cell (p := ⟨lb, lo + i, none⟩) hlb).trans hcell
          obtain ⟨ny, hny⟩ : ∃ ny, y.l.length = ny := ⟨_, rfl⟩
          rw [hny] at hcw
          have HCW := hid hcw
          have HYAT := hid hyat
          have HNY := hid hny
          clear hget hyat hlx hcell hcw hny hil2
          have hd60 : decide ((i : Int) < 60) = true := decide_eq_true (by omega)
          go_upto_block 2 with fail
          obtain ⟨w6, hw6⟩ : ∃ w6, w6 = wo.alloc (.cells #[.int .i64 0, .int .i64 0, .int .i64 0, .int .i64 0] 94) := ⟨_, rfl⟩
          rw [← hw6]
          obtain ⟨vb, hvb⟩ : ∃ vb, vb = wo.heap.size := ⟨_, rfl⟩
          rw [← hvb]
          have hb6 : Below wo.heap.size wo w6 := by rw [hw6]; exact (Below.refl _ _).alloc (Nat.le_refl _) _
          have hv6 : w6.heap[vb]? = some (.cells #[.int .i64 0, .int .i64 0, .int .i64 0, .int .i64 0] 94 (0, 0)) := by rw [hw6, hvb]; exact heap_alloc_new wo _
          have HV6 := hid hv6
          have HW6 := hid (HWR.out.trans (hb6.mono HWR.out.size))
          have hvw : w.heap.size ≤ vb := by rw [hvb]; exact HWR.out.size
          have HB6 := hid hb6
          have HVB := hid hvb
          clear hw6 hb6 hv6 hvb
          go_cut [12] (fun v12 wx => (∃ j : Nat, v12 = .int .i64 j) ∧ ∃ a0 a1 a2 a3 : Int, wx.heap[vb]? = some (.cells #[.int .i64 a0, .int .i64 a1, .int .i64 a2, .int .i64 a3] 94 (0, 0)) ∧ Keep (fun j => j = vb) w6 wx)
          case first =>
            as_aux_lemma =>
            go_wp2_with fail
            go_loopw [12] (fun v12 wr => ∃ (j : Nat) (a0 a1 a2 a3 : Int), j ≤ 4 ∧ j ≤ ny ∧ v12 = .int .i64 j ∧ wr.heap[vb]? = some (.cells #[.int .i64 a0, .int .i64 a1, .int .i64 a2, .int .i64 a3] 94 (0, 0)) ∧ Keep (fun j => j = vb) w6 wr) (fun v12 _ => 4 - (intOf v12).toNat)
            case atStart => exact ⟨0, 0, 0, 0, 0, by omega, by omega, rfl, HV6.out, Keep.refl _ _⟩
            case round =>
              obtain ⟨wt, rfl⟩ : ∃ wt : World, wt = wr := ⟨_, rfl⟩
              obtain ⟨j, a0, a1, a2, a3, hj4, hjn, rfl, hvt, hkt⟩ := hrel
              have HVT := hid hvt
              have HKT := hid hkt
              have HOLD : Hid (∀ b, b < w.heap.size → wt.heap[b]? = w.heap[b]?) := fun b hb => (hkt.block b (Nat.lt_of_lt_of_le hb HW6.out.size) (by omega)).trans (HW6.out.block b hb)
              have y0 : wt.cell? ⟨lb, lo + i, none⟩ = some (.slice y.A ny y.c) := (World.cell?_of_block (HOLD.out lb hlb)).trans (HCW.out w (Below.refl _ _))
              have hltb := cell_lt y0
              clear hvt hkt
              by_cases hjy : j < ny
              · by_cases hj : j < 4
                · obtain ⟨yb, yo, hyA, hyb, hyx⟩ := HYAT.out.1.2 (by rw [HNY.out]; omega)
                  have hjl : j < y.l.length := by rw [HNY.out]; exact hjy
                  have hu : (y.l.flatMap fun a => [Value.int .i64 a])[j]? = some (.int .i64 y.l[j]) := by
                    have := flatMap_get (fun a : Int => [Value.int .i64 a]) 1 (fun _ => rfl) y.l j 0 _ (List.getElem?_eq_getElem hjl) (by decide)
                    rw [Nat.mul_one, Nat.add_zero] at this
                    exact this.trans rfl
                  have z0 : wt.cell? ⟨yb, yo + j, none⟩ = some (.int .i64 y.l[j]) := (World.cell?_of_block (HOLD.out yb hyb)).trans (hyx j _ hu)
                  rw [hyA] at y0
                  generalize y.l[j] = u at z0
                  have hltz := cell_lt z0
                  have hyv : yb ≠ vb := by omega
                  have hlv : lb ≠ vb := by omega
                  have g0 := blk_cell HVT.out 0
                  have g1 := blk_cell HVT.out 1
                  have g2 := blk_cell HVT.out 2
                  have g3 := blk_cell HVT.out 3
                  have gf := fun n => blk_free HVT.out n
                  have hltv := blk_lt HVT.out
                  simp at g0 g1 g2 g3
                  clear hu hyx hjl hyA
                  obtain ⟨wx, hwx⟩ : ∃ wx, wx = wt.setCell ⟨vb, j, none⟩ (.int .i64 u) := ⟨_, rfl⟩
                  have hkx : Keep (fun j => j = vb) w6 wx := by rw [hwx]; exact HKT.out.setCell (.inl rfl) _
                  have hvx : ∃ b0 b1 b2 b3 : Int, wx.heap[vb]? = some (.cells #[.int .i64 b0, .int .i64 b1, .int .i64 b2, .int .i64 b3] 94 (0, 0)) := by
                    rw [hwx, hp_set, if_pos rfl, HVT.out]
                    rcases (show j = 0 ∨ j = 1 ∨ j = 2 ∨ j = 3 by omega) with rfl | rfl | rfl | rfl
                    · exact ⟨u, a1, a2, a3, rfl⟩
                    · exact ⟨a0, u, a2, a3, rfl⟩
                    · exact ⟨a0, a1, u, a3, rfl⟩
                    · exact ⟨a0, a1, a2, u, rfl⟩
                  have HKX := hid hkx
                  have HVX := hid hvx
                  have gj : ∃ g, wt.cell? ⟨vb, j, none⟩ = some g := by
                    rcases (show j = 0 ∨ j = 1 ∨ j = 2 ∨ j = 3 by omega) with rfl | rfl | rfl | rfl
                    · exact ⟨_, g0⟩
                    · exact ⟨_, g1⟩
                    · exact ⟨_, g2⟩
                    · exact ⟨_, g3⟩
                  obtain ⟨g, gj⟩ := gj
                  have gfj := gf j
                  clear hkx hvx g0 g1 g2 g3 gf
                  go_wp2_with fail
                  rw [← hwx]
                  go_roundw
                  case rel =>
                    obtain ⟨b0, b1, b2, b3, h⟩ := HVX.out
                    exact ⟨j + 1, b0, b1, b2, b3, by omega, by omega, by go_num, h, HKX.out⟩
                  case measure => simp [intOf]; omega
                · obtain rfl : j = 4 := by omega
                  go_wp2_with fail
                  go_meet
                  exact ⟨⟨4, rfl⟩, a0, a1, a2, a3, HVT.out, HKT.out⟩
              · have hd : decide ((j : Int) < (ny : Int)) = false := decide_eq_false (by omega)
                go_wp2_with fail
                go_meet
                exact ⟨⟨j, rfl⟩, a0, a1, a2, a3, HVT.out, HKT.out⟩
          case rest =>
            as_aux_lemma =>
            obtain ⟨⟨j12, rfl⟩, a0, a1, a2, a3, hva, hkv⟩ := hcut
            have HIN := hid (PlaysIn.start HPM.out.pair HVB.out HB6.out hkv hva)
            have HBXC := hid ((HIN.out.pair.a.below.block _ (blk_lt HBX2.out)).trans HBX2.out)
            have g0 := blk_cell HIN.out.arr 0
            have hltv := HIN.out.lt
            simp at g0
            clear hva hkv
            go_upto_if 74 with fail
            clear g0 hltv
            go_cut [5, 8, 13] (fun _ v8 _ wx => v8 = .bool true ∧ ∃ k' B' M' N', PlaysIn w2 wx kb mb vb m.pl (.cells #[.int .i64 a0, .int .i64 a1, .int .i64 a2, .int .i64 a3] 94 (0, 0)) k' k' M' N' ∧ KOk m.pl k' B' ∧ B' ≤ 5 * (i + 1 : Nat))
            case first =>
              as_aux_lemma =>
              have hvals : Hid (∀ wx : World, wx.heap[vb]? = some (.cells #[.int .i64 a0, .int .i64 a1, .int .i64 a2, .int .i64 a3] 94 (0, 0)) → wx.cell? ⟨vb, 1, none⟩ = some (.int .i64 a1) ∧ wx.cell? ⟨vb, 2, none⟩ = some (.int .i64 a2) ∧ wx.cell? ⟨vb, 3, none⟩ = some (.int .i64 a3)) := fun wx h => ⟨blk_cell h 1, blk_cell h 2, blk_cell h 3⟩
              obtain ⟨g1, g2, g3⟩ := hvals.out _ HIN.out.arr
              have hltv := HIN.out.lt
              have hr5 : k.rooms.length ≤ 5 := by rw [HRL.out k B HPM.out.ok]; exact hnr5
              have hwc := HWR
              by_cases h0 : a0 = 0
              · subst h0
                cases hpk : pokeOk k.rooms.length a1 a2 a3 with
                | false =>
                  have hrp := rpoke_bad a1 a2 a3 hr5 HIN.out.pair.b.kat hpk
                  have hkp := kpoke_bad a1 a2 a3 hr5 HIN.out.pair.a.kat hpk
                  have hes := error_same 1 wc (HG.out.new (HB2.out.trans (HIN.out.pair.a.below.mono HB2.out.size)))
                  rw [errV_pos (by decide)] at hkp hes
                  clear hpk hr5 hwc
                  go_wp2_with fail
                  refine hrp.mono ?_
                  clear hrp
                  rintro e w7 ⟨rfl, rfl⟩
                  go_wp2_with fail
                  refine hkp.mono ?_
                  clear hkp
                  rintro e w7 ⟨rfl, rfl⟩
                  go_wp2_with fail
                  refine hes.mono ?_
                  clear hes g1 g2 g3 hltv
                  rintro e w7 ⟨rfl, hb7⟩
                  go_wp2_with fail
                  go_meet
                  exact ⟨rfl, k, B, M, N, HIN.out.new hb7, HPM.out.ok, by have := HPM.out.bound; omega⟩
                | true =>
                  have hrp := rpoke_ok a1 a2 a3 hr5 HIN.out.pair.b.kat hpk
                  have HOK : Hid (KOk m.pl (pokeK k a1 a2 a3) B) := poke_right HPM.out.ok hpk
                  have HPK := hid hpk
                  have HR5 := hid hr5
                  clear hpk hr5 hwc
                  go_wp2_with fail
                  refine hrp.mono ?_
                  clear hrp g1 g2 g3 hltv
                  rintro e w7 ⟨rfl, hk7, hkp7, _⟩
                  have HI7 := hid (HIN.out.pokedB hk7 hkp7)
                  have hkp := kpoke_ok a1 a2 a3 HR5.out HI7.out.pair.a.kat HPK.out
                  obtain ⟨g1, g2, g3⟩ := hvals.out _ HI7.out.arr
                  have hltv := HI7.out.lt
                  clear hk7 hkp7
                  go_wp2_with fail
                  refine hkp.mono ?_
                  clear hkp g1 g2 g3 hltv
                  rintro e w8 ⟨rfl, hk8, hkp8, _⟩
                  have HI8 := hid (HI7.out.pokedA hk8 hkp8)
                  have hes := error_same 0 w8 (HG.out.new (HB2.out.trans (HI8.out.pair.a.below.mono HB2.out.size)))
                  rw [errV_zero] at hes
                  clear hk8 hkp8
                  go_wp2_with fail
                  refine hes.mono ?_
                  clear hes
                  rintro e w9 ⟨rfl, hb9⟩
                  go_wp2_with fail
                  go_meet
                  exact ⟨rfl, _, B, M, N, HI8.out.new hb9, HOK.out, by have := HPM.out.bound; omega⟩
              · have h0b : (a0 == 0) = false := by simpa using h0
                clear h0 hr5 hwc g1 g2 g3
                have hgd := event_guard
                simp only [h0b]
                clear h0b
                go_wp2_with fail
                go_loopw [8, 13] (fun v8 v13 wr => ∃ (t : Nat) (k' : Kst) (B' : Int) (M' N' : KM), t ≤ 5 ∧ v13 = .int .i64 t ∧ v8 = .bool true ∧ PlaysIn w2 wr kb mb vb m.pl (.cells #[.int .i64 a0, .int .i64 a1, .int .i64 a2, .int .i64 a3] 94 (0, 0)) k' k' M' N' ∧ KOk m.pl k' B' ∧ B' ≤ B + t) (fun _ v13 _ => 5 - (intOf v13).toNat)
                case atStart => exact ⟨0, k, B, M, N, by omega, rfl, rfl, HIN.out, HPM.out.ok, by omega⟩
                case round =>
                  obtain ⟨wt, rfl⟩ : ∃ wt : World, wt = wr := ⟨_, rfl⟩
                  obtain ⟨t, k', B', M', N', ht5, rfl, rfl, hin', hok', hB'⟩ := hrel
                  have HIT := hid hin'
                  have HOT := hid hok'
                  clear hin' hok'
                  by_cases ht : t < 5
                  · have hBB : B' < 4611686018427387904 := by have := HPM.out.bound; omega
                    obtain ⟨⟨⟨x1, x2, x3, x4⟩, k2⟩, hq⟩ : ∃ q, q = tick m.pl k' := ⟨_, rfl⟩
                    have hta := tick_run HIT.out.pair.a HPL.out HOT.out hBB
                    rw [← hq] at hta
                    have HOK2 : Hid (KOk m.pl k2 (B' + 1)) := by
                      have h := tick_ok HPL.out HOT.out (spans_ok HPL.out)
                      have h2 : k2 = (tick m.pl k').2 := by rw [← hq]
                      rw [h2]; exact h
                    have HQ := hid hq
                    have HBB := hid hBB
                    have heq : ∀ w, (binOp .eql 77 (.agg #[.int .i64 x1, .int .i64 x2, .int .i64 x3, .int .i64 x4]) (.agg #[.int .i64 x1, .int .i64 x2, .int .i64 x3, .int .i64 x4])).run Tryd.prog w = .ok (.bool true) w := fun w => event_eql ⟨x1, x2, x3, x4⟩ w
                    clear hq hBB
                    go_wp2_with fail
                    refine hta.mono ?_
                    clear hta
                    rintro e w7 ⟨M2, rfl, hr7, hk7, hf7⟩
                    have HI7 := hid (HIT.out.goA hr7 hk7 hf7)
                    have htb := rtick_run HI7.out.pair.b HPL.out HOT.out HBB.out
                    rw [← HQ.out] at htb
                    clear hr7 hk7 hf7
                    go_wp2_with fail
                    refine htb.mono ?_
                    clear htb
                    rintro e w8 ⟨N2, rfl, hr8, hk8, hf8, hP8⟩
                    have HI8 := hid (HI7.out.goB hr8 hk8 hf8 hP8)
                    clear hr8 hk8 hf8 hP8
                    go_wp2_with fail
                    go_roundw
                    case rel => exact ⟨t + 1, k2, B' + 1, M2, N2, by omega, by go_num, rfl, HI8.out, HOK2.out, by omega⟩
                    case measure => simp [intOf]; omega
                  · obtain rfl : t = 5 := by omega
                    go_wp2_with fail
                    go_meet
                    exact ⟨rfl, k', B', M', N', HIT.out, HOT.out, by have := HPM.out.bound; omega⟩
            case rest =>
              as_aux_lemma =>
              obtain ⟨rfl, k', B', M', N', hin', hok', hB'⟩ := hcut
              obtain ⟨wd, rfl⟩ : ∃ wd : World, wd = wc := ⟨_, rfl⟩
              have hbxd := (hin'.pair.a.below.block _ (blk_lt HBX2.out)).trans HBX2.out
              have HID := hid hin'
              have HOKD := hid hok'
              have HBXD := hid hbxd
              have hrl := HRL.out k' B' hok'
              have hll := HLL.out k' B' hok'
              have HRLD := hid hrl
              have HLLD := hid hll
              have HBD := hid hB'
              clear hin' hok' hbxd hrl hll hB'
              go_upto_region 25 with fail
              obtain ⟨we, hwe⟩ : ∃ we, we = wd.alloc (.cells #[.int .i64 0, .int .i64 0, .int .i64 0, .int .i64 0, .int .i64 0, .int .i64 0, .int .i64 0, .bool false] 25) := ⟨_, rfl⟩
              rw [← hwe]
              obtain ⟨sb, hsb⟩ : ∃ sb, sb = wd.heap.size := ⟨_, rfl⟩
              rw [← hsb]
              have hbe : Below wd.heap.size wd we := by rw [hwe]; exact (Below.refl _ _).alloc (Nat.le_refl _) _
              have hse : we.heap[sb]? = some (.cells #[.int .i64 0, .int .i64 0, .int .i64 0, .int .i64 0, .int .i64 0, .int .i64 0, .int .i64 0, .bool false] 25 (0, 0)) := by rw [hwe, hsb]; exact heap_alloc_new wd _
              have HIE := hid (HID.out.new hbe)
              have HBE := hid hbe
              have HSE := hid hse
              have HSB := hid hsb
              have g1 := blk_cell HIE.out.arr 1
              have q0 := blk_cell ((hbe.block _ (blk_lt HBXD.out)).trans HBXD.out) 0
              have hltv := HIE.out.lt
              have hltq := cell_lt q0
              simp at g1 q0
              clear hwe hbe hse hsb
              go_cut [115] (fun v wx => v = .bool (!inB a1 nr) ∧ wx = we)
              case first =>
                as_aux_lemma =>
                by_cases h1 : a1 < 0
                · have hi1 : inB a1 nr = false := by unfold inB; exact decide_eq_false (by omega)
                  have hd1 : decide (a1 < 0) = true := decide_eq_true h1
                  go_wp2_with fail
                  go_meet
                  exact ⟨by rw [hi1]; rfl, rfl⟩
                · have hd1 : decide (a1 < 0) = false := decide_eq_false h1
                  by_cases h2 : (nr : Int) ≤ a1
                  · have hi1 : inB a1 nr = false := by unfold inB; exact decide_eq_false (by omega)
                    have hd2 : decide ((nr : Int) ≤ a1) = true := decide_eq_true h2
                    go_wp2_with fail
                    go_meet
                    exact ⟨by rw [hi1]; rfl, rfl⟩
                  · have hi1 : inB a1 nr = true := by unfold inB; exact decide_eq_true (by omega)
                    have hd2 : decide ((nr : Int) ≤ a1) = false := decide_eq_false h2
                    go_wp2_with fail
                    go_meet
                    exact ⟨by rw [hi1]; rfl, rfl⟩
              obtain ⟨rfl, rfl⟩ := hcut
              obtain ⟨we, rfl⟩ : ∃ we : World, we = wc := ⟨_, rfl⟩
              clear g1 q0 hltv hltq
              obtain ⟨q, hst⟩ : ∃ q : St × Int, q = stateOf k' a1 := ⟨_, rfl⟩
              obtain ⟨⟨sp, s0, s1, s2, s3, s4, s5, sf⟩, se⟩ := q
              have HST := hid hst
              clear hst
              go_upto_if 115 with fail
              go_cut [5] (fun v5 wx => v5 = .int .i64 se ∧ Below wd.heap.size wd wx ∧ wx.heap[sb]? = some (.cells #[.int .i64 sp, .int .i64 s0, .int .i64 s1, .int .i64 s2, .int .i64 s3, .int .i64 s4, .int .i64 s5, .bool sf] 25 (0, 0)))
              case first =>
                as_aux_lemma =>
                cases hin : inB a1 nr with
                | false =>
                  have hq := HST.out
                  unfold stateOf at hq
                  rw [HRLD.out, hin, if_neg (by decide)] at hq
                  simp only [St.zero, Prod.mk.injEq, St.mk.injEq] at hq
                  obtain ⟨⟨rfl, rfl, rfl, rfl, rfl, rfl, rfl, rfl⟩, rfl⟩ := hq
                  clear hin
                  go_wp2_with fail
                  go_meet
                  exact ⟨rfl, HBE.out, HSE.out⟩
                | true =>
                  have hb1 : 0 ≤ a1 ∧ a1 < nr := by simpa [inB] using hin
                  obtain ⟨R, rfl⟩ : ∃ R : Nat, a1 = R := ⟨a1.toNat, by omega⟩
                  have hgs : k'.rooms[R]? = some ⟨sp, s0, s1, s2, s3, s4, s5, sf⟩ ∧ se = 0 := by
                    have h := HST.out
                    unfold stateOf at h
                    rw [HRLD.out, hin, if_pos rfl, Int.toNat_natCast] at h
                    simp only [Prod.mk.injEq] at h
                    refine ⟨?_, h.2⟩
                    rw [h.1, List.getD_eq_getElem?_getD, List.getElem?_eq_getElem (by rw [HRLD.out]; omega)]; rfl
                  obtain ⟨hg, rfl⟩ := hgs
                  obtain ⟨rb, roff, hrA, ⟨y0, y1, y2, y3, y4, y5, y6, y7⟩, hrf, hrb, hrkb, hrl, hrc, hrm⟩ := HIE.out.pair.b.kat.room hg
                  obtain ⟨_, _, _, k4, _, _, _, hmb⟩ := HIE.out.pair.b.kat.cells
                  rw [hrA, HRLD.out] at k4
                  rw [HRLD.out] at hrl hrc
                  simp only [] at y0 y1 y2 y3 y4 y5 y6 y7
                  have g1 := blk_cell HIE.out.arr 1
                  simp at g1
                  have hltv := HIE.out.lt
                  unfold maxLen at hrm
                  clear hin hb1 hg hrA hrf
                  go_upto_region 27 with fail
                  go_still_tail 8, (by kernel_rfl)
                  refine wpList_store_rowK rfl 25 _ _ rfl sb #[.int .i64 sp, .int .i64 s0, .int .i64 s1, .int .i64 s2, .int .i64 s3, .int .i64 s4, .int .i64 s5, .bool sf] rfl rfl 25 _ HSE.out (by kernel_rfl) rfl (by simp [Value.oneCell']) ?_
                  intro wx hx hk _
                  have HX := hid hx
                  have HBX : Hid (Below wd.heap.size wd wx) := Keep.below (F := NoF) ((Keep.of_below NoF HBE.out).then (w := we) (Keep.then (F := fun j => j = sb) (Keep.drew (Keep.refl _ we)) hk fun _ _ h => h) fun j hj hf => by have := HSB.out; omega) (Nat.le_refl _) (fun _ h => h.elim)
                  clear hx hk y0 y1 y2 y3 y4 y5 y6 y7 k4 g1
                  go_wp2_with fail
                  go_meet
                  exact ⟨rfl, HBX.out, HX.out⟩
              obtain ⟨rfl, hbf, hsf⟩ := hcut
              obtain ⟨wf, rfl⟩ : ∃ wf : World, wf = wc := ⟨_, rfl⟩
              have HBF := hid hbf
              have HSF := hid hsf
              have HIF := hid (HID.out.new hbf)
              have hr5 : k'.rooms.length ≤ 5 := by rw [HRLD.out]; exact hnr5
              have hks := kstate_any a1 hr5 HIF.out.pair.a.kat
              rw [← HST.out] at hks
              unfold StateV stV at hks
              have g1 := blk_cell HIF.out.arr 1
              simp at g1
              have hltv := HIF.out.lt
              clear hbf hsf hr5 HSE HIE HBE
              go_wp2_with fail
              refine hks.mono ?_
              clear hks g1 hltv
              rintro e wg ⟨rfl, hbg⟩
              have HBG := hid hbg
              clear hbg
              go_wp2_with fail
              obtain ⟨wh, hwh⟩ : ∃ wh, wh = wg.alloc (.cells #[.int .i64 sp, .int .i64 s0, .int .i64 s1, .int .i64 s2, .int .i64 s3, .int .i64 s4, .int .i64 s5, .bool sf] 25) := ⟨_, rfl⟩
              rw [← hwh]
              obtain ⟨tb, htb⟩ : ∃ tb, tb = wg.heap.size := ⟨_, rfl⟩
              rw [← htb]
              have hbh : Below wf.heap.size wf wh := by rw [hwh]; exact HBG.out.alloc HBG.out.size _
              have hth : wh.heap[tb]? = some (.cells #[.int .i64 sp, .int .i64 s0, .int .i64 s1, .int .i64 s2, .int .i64 s3, .int .i64 s4, .int .i64 s5, .bool sf] 25 (0, 0)) := by rw [hwh, htb]; exact heap_alloc_new wg _
              have HBH := hid hbh
              have HTH := hid hth
              have hes := error_same se wh (HG.out.new (HB2.out.trans (((HIF.out.new hbh)).pair.a.below.mono HB2.out.size)))
              clear hwh htb hbh hth HBG
              refine hes.mono ?_
              clear hes
              rintro e wi ⟨rfl, hbi⟩
              have HTI := hid ((hbi.block _ (blk_lt HTH.out)).trans HTH.out)
              have HBI := hid (HBH.out.trans (hbi.mono HBH.out.size))
              have HSI := hid ((HBI.out.block _ (blk_lt HSF.out)).trans HSF.out)
              have HII := hid (HIF.out.new HBI.out)
              have HDI := hid (HBF.out.trans (HBI.out.mono HBF.out.size))
              clear hbi HTH HBH HSF
              have y0 := blk_cell HTI.out 0
              have y1 := blk_cell HTI.out 1
              have y2 := blk_cell HTI.out 2
              have y3 := blk_cell HTI.out 3
              have y4 := blk_cell HTI.out 4
              have y5 := blk_cell HTI.out 5
              have y6 := blk_cell HTI.out 6
              have y7 := blk_cell HTI.out 7
              have z0 := blk_cell HSI.out 0
              have z1 := blk_cell HSI.out 1
              have z2 := blk_cell HSI.out 2
              have z3 := blk_cell HSI.out 3
              have z4 := blk_cell HSI.out 4
              have z5 := blk_cell HSI.out 5
              have z6 := blk_cell HSI.out 6
              have z7 := blk_cell HSI.out 7
              simp at y0 y1 y2 y3 y4 y5 y6 y7 z0 z1 z2 z3 z4 z5 z6 z7
              have hltt := blk_lt HTI.out
              have hlts := blk_lt HSI.out
              have hgd := state_guard
              have heq : ∀ w, (binOp .eql 25 (.agg #[.int .i64 sp, .int .i64 s0, .int .i64 s1, .int .i64 s2, .int .i64 s3, .int .i64 s4, .int .i64 s5, .bool sf]) (.agg #[.int .i64 sp, .int .i64 s0, .int .i64 s1, .int .i64 s2, .int .i64 s3, .int .i64 s4, .int .i64 s5, .bool sf])).run Tryd.prog w = .ok (.bool true) w := fun w => by
                have := state_eql ⟨sp, s0, s1, s2, s3, s4, s5, sf⟩ ⟨sp, s0, s1, s2, s3, s4, s5, sf⟩ w
                rw [stEq_refl] at this; exact this
              go_upto_region 32 with fail
              clear y0 y1 y2 y3 y4 y5 y6 y7 z0 z1 z2 z3 z4 z5 z6 z7 hltt hlts hgd heq HST HSI HTI HBI HSB HBF HIF
              obtain ⟨wj, hwj⟩ : ∃ wj, wj = wi.alloc (.cells #[.slice none 0 0, .int .i64 0] 53) := ⟨_, rfl⟩
              rw [← hwj]
              obtain ⟨hb, hhb⟩ : ∃ hb, hb = wi.heap.size := ⟨_, rfl⟩
              rw [← hhb]
              have hbj : Below wd.heap.size wd wj := by rw [hwj]; exact HDI.out.alloc HDI.out.size _
              have hhj : wj.heap[hb]? = some (.cells #[.slice none 0 0, .int .i64 0] 53 (0, 0)) := by rw [hwj, hhb]; exact heap_alloc_new wi _
              have hlo : wd.heap.size ≤ hb := by rw [hhb]; exact HDI.out.size
              have HDJ := hid hbj
              have HHJ := hid hhj
              have HLO := hid hlo
              have HIJ := hid (HID.out.new hbj)
              have g2 := blk_cell HIJ.out.arr 2
              have q3 := blk_cell ((hbj.block _ (blk_lt HBXD.out)).trans HBXD.out) 3
              have hltv := HIJ.out.lt
              have hltq := cell_lt q3
              simp at g2 q3
              clear hwj hhb hbj hhj hlo HII HDI
              go_cut [149] (fun v wx => v = .bool (!inB a2 nw) ∧ wx = wj)
              case first =>
                as_aux_lemma =>
                by_cases h1 : a2 < 0
                · have hi1 : inB a2 nw = false := by unfold inB; exact decide_eq_false (by omega)
                  have hd1 : decide (a2 < 0) = true := decide_eq_true h1
                  go_wp2_with fail
                  go_meet
                  exact ⟨by rw [hi1]; rfl, rfl⟩
                · have hd1 : decide (a2 < 0) = false := decide_eq_false h1
                  by_cases h2 : (nw : Int) ≤ a2
                  · have hi1 : inB a2 nw = false := by unfold inB; exact decide_eq_false (by omega)
                    have hd2 : decide ((nw : Int) ≤ a2) = true := decide_eq_true h2
                    go_wp2_with fail
                    go_meet
                    exact ⟨by rw [hi1]; rfl, rfl⟩
                  · have hi1 : inB a2 nw = true := by unfold inB; exact decide_eq_true (by omega)
                    have hd2 : decide ((nw : Int) ≤ a2) = false := decide_eq_false h2
                    go_wp2_with fail
                    go_meet
                    exact ⟨by rw [hi1]; rfl, rfl⟩
              obtain ⟨rfl, rfl⟩ := hcut
              obtain ⟨wj, rfl⟩ : ∃ wj : World, wj = wc := ⟨_, rfl⟩
              clear g2 q3 hltv hltq
              obtain ⟨q, hwo⟩ : ∃ q : (List Int × Int) × Int, q = wireOf k' a2 := ⟨_, rfl⟩
              obtain ⟨⟨hi, hl⟩, he⟩ := q
              obtain ⟨nh, hnh⟩ : ∃ nh, hi.length = nh := ⟨_, rfl⟩
              have HWO := hid hwo
              have HNH := hid hnh
              clear hwo hnh
              go_upto_if 149 with fail
              go_cut [5] (fun v5 wx => ∃ (A1 : Option Addr) (c1 : Nat), v5 = .int .i64 he ∧ Below wd.heap.size wd wx ∧ wx.heap[hb]? = some (.cells #[.slice A1 nh c1, .int .i64 hl] 53 (0, 0)) ∧ HmAt wx ⟨A1, c1, hi, hl⟩)
              case first =>
                as_aux_lemma =>
                cases hin : inB a2 nw with
                | false =>
                  have hq := HWO.out
                  unfold wireOf at hq
                  rw [HLLD.out, hin, if_neg (by decide)] at hq
                  simp only [Prod.mk.injEq] at hq
                  obtain ⟨⟨rfl, rfl⟩, rfl⟩ := hq
                  have hn0 : nh = 0 := HNH.out.symm
                  subst hn0
                  clear hin
                  go_wp2_with fail
                  go_meet
                  exact ⟨none, 0, rfl, HDJ.out, HHJ.out, ⟨Sl.nil _ _ _, Nat.le_refl _, Nat.zero_le _⟩⟩
                | true =>
                  have hb1 : 0 ≤ a2 ∧ a2 < nw := by simpa [inB] using hin
                  obtain ⟨J, rfl⟩ : ∃ J : Nat, a2 = J := ⟨a2.toNat, by omega⟩
                  have hgs : ∃ x, k'.lines[J]? = some x ∧ x.items = hi ∧ x.lost = hl ∧ he = 0 := by
                    have h := HWO.out
                    unfold wireOf at h
                    rw [HLLD.out, hin, if_pos rfl, Int.toNat_natCast] at h
                    simp only [Prod.mk.injEq] at h
                    have hg := List.getElem?_eq_getElem (l := k'.lines) (i := J) (by rw [HLLD.out]; omega)
                    refine ⟨_, hg, ?_, ?_, h.2⟩
                    · rw [h.1.1, List.getD_eq_getElem?_getD, hg]; rfl
                    · rw [h.1.2, List.getD_eq_getElem?_getD, hg]; rfl
                  obtain ⟨x, hg, rfl, rfl, rfl⟩ := hgs
                  have hsix := (HOKD.out.lns x (List.mem_of_getElem? hg)).six
                  obtain ⟨la, pb, poff, hla, hlA, hlp, hln, hlt', hpb⟩ := HID.out.pair.b.kat.line hg
                  obtain ⟨_, _, _, _, k5, _, _, hmb⟩ := HID.out.pair.b.kat.cells
                  have hple := HID.out.pair.b.kat.ptrs.le
                  rw [hlA, HLLD.out] at k5
                  rw [HLLD.out] at hple
                  obtain ⟨cap, hlh, hlr⟩ := hln
                  have hlc := hlr.le
                  have hmm : HmAt wd ⟨la.A, cap, x.items, x.lost⟩ := ⟨hlr.sl, hlc.1, by simp only []; omega⟩
                  have hlb := blk_lt hlh
                  have k5j := (HDJ.out.cell (p := ⟨mb, 5, none⟩) hmb).trans k5
                  have lpj := (HDJ.out.cell (p := ⟨pb, poff + J, none⟩) hpb).trans hlp
                  have r4 := (HDJ.out.cell (p := ⟨la.b, 4, none⟩) hlb).trans (blk_cell hlh 4)
                  have r5 := (HDJ.out.cell (p := ⟨la.b, 5, none⟩) hlb).trans (blk_cell hlh 5)
                  have g2 := blk_cell HIJ.out.arr 2
                  simp at g2 r4 r5
                  rw [HNH.out] at r4
                  have hltv := HIJ.out.lt
                  have s1 := HDJ.out.size
                  have hmbj : mb < wj.heap.size := by omega
                  have hpbj : pb < wj.heap.size := by omega
                  have hlbj : la.b < wj.heap.size := by omega
                  have hJn : J < nw := by omega
                  obtain ⟨hple1, hple2⟩ := hple
                  unfold maxLen at hple2
                  have HMM := hid hmm
                  clear hin hb1 hg hsix hla hlA hlp hlh hlr hlc hmm k5 hmb hpb hlb s1 hlt'
                  go_upto_region 34 with fail
                  go_still_tail 11, (by kernel_rfl)
                  refine wpList_store_rowK rfl 53 _ _ rfl hb #[.slice la.A nh cap, .int .i64 x.lost] rfl rfl 53 _ HHJ.out (by kernel_rfl) rfl (by simp [Value.oneCell']) ?_
                  intro wx hx hk _
                  have HX := hid hx
                  have HBX : Hid (Below wd.heap.size wd wx) := Keep.below (F := NoF) ((Keep.of_below NoF HDJ.out).then (w := wj) (Keep.then (F := fun j => j = hb) (Keep.drew (Keep.refl _ wj)) hk fun _ _ h => h) fun j hj hf => by have := HLO.out; omega) (Nat.le_refl _) (fun _ h => h.elim)
                  clear hx hk k5j lpj r4 r5 g2
                  go_wp2_with fail
                  go_meet
                  exact ⟨la.A, cap, rfl, HBX.out, HX.out, HMM.out.new HBX.out⟩
              obtain ⟨A1, c1, rfl, hbk, hhk, hmk⟩ := hcut
              obtain ⟨wk, rfl⟩ : ∃ wk : World, wk = wc := ⟨_, rfl⟩
              have HDK := hid hbk
              have HHK := hid hhk
              have HMK := hid hmk
              have HIK := hid (HID.out.new hbk)
              have hkw := kwire_any a2 m.pl B' HOKD.out (by rw [HLLD.out]; exact hnw12) HIK.out.pair.a.kat
              rw [← HWO.out] at hkw
              unfold WireV at hkw
              simp only [] at hkw
              rw [HNH.out] at hkw
              have g2 := blk_cell HIK.out.arr 2
              simp at g2
              have hltv := HIK.out.lt
              clear hbk hhk hmk HHJ HDJ HIJ HLO
              go_wp2_with fail
              refine hkw.mono ?_
              clear hkw g2 hltv
              rintro e wl ⟨A2, c2, rfl, hr2, hf2, hbl⟩
              have HBL := hid hbl
              have HR2 := hid hr2
              clear hbl hr2 hf2
              go_wp2_with fail
              obtain ⟨wm, hwm⟩ : ∃ wm, wm = wl.alloc (.cells #[.slice A2 nh c2, .int .i64 hl] 53) := ⟨_, rfl⟩
              rw [← hwm]
              obtain ⟨ub, hub⟩ : ∃ ub, ub = wl.heap.size := ⟨_, rfl⟩
              rw [← hub]
              have hbm : Below wk.heap.size wk wm := by rw [hwm]; exact HBL.out.alloc HBL.out.size _
              have hum : wm.heap[ub]? = some (.cells #[.slice A2 nh c2, .int .i64 hl] 53 (0, 0)) := by rw [hwm, hub]; exact heap_alloc_new wl _
              have hrm : Row wm 3 1 A2 nh c2 (ints hi) := by rw [hwm]; exact HR2.out.alloc _
              have HBM := hid hbm
              have HUM := hid hum
              have HRM := hid hrm
              have hes := error_same he wm (HG.out.new (HB2.out.trans (((HIK.out.new hbm)).pair.a.below.mono HB2.out.size)))
              clear hwm hub hbm hum hrm HBL HR2
              refine hes.mono ?_
              clear hes
              rintro e wn ⟨rfl, hbn⟩
              have HUN := hid ((hbn.block _ (blk_lt HUM.out)).trans HUM.out)
              have HRN := hid (HRM.out.new hbn)
              have HBN := hid (HBM.out.trans (hbn.mono HBM.out.size))
              have HHN := hid ((HBN.out.block _ (blk_lt HHK.out)).trans HHK.out)
              have HMN := hid (HMK.out.new HBN.out)
              have HIN := hid (HIK.out.new HBN.out)
              clear hbn HUM HRM HBM HHK HMK HDK
              have y0 := blk_cell HUN.out 0
              have y1 := blk_cell HUN.out 1
              have z0 := blk_cell HHN.out 0
              have z1 := blk_cell HHN.out 1
              simp at y0 y1 z0 z1
              have hltt := blk_lt HUN.out
              have hlts := blk_lt HHN.out
              have hfew : nh ≤ 1000 := by have := HMN.out.few; rw [← HNH.out]; exact this
              have hhs := held_same ⟨A2, c2, hi, hl⟩ ⟨A1, c1, hi, hl⟩ wn ⟨by simp only []; rw [HNH.out]; exact HRN.out.sl, by simp only []; rw [HNH.out]; exact HRN.out.le.1, by simp only []; rw [HNH.out]; exact hfew⟩ HMN.out
              rw [eqB_true (show Hm.val ⟨A2, c2, hi, hl⟩ = Hm.val ⟨A1, c1, hi, hl⟩ from rfl)] at hhs
              simp only [] at hhs
              rw [HNH.out] at hhs
              go_wp2_with fail
              refine hhs.mono ?_
              clear hhs y0 y1 z0 z1 hltt hlts
              rintro e wo ⟨rfl, hbo⟩
              have HIO := hid (HIN.out.new hbo)
              have hti : ∀ e, Calls Tryd.prog 37 #[.pointer (some ⟨kb, 0, none⟩)] (wo.drewN e) fun ev w' => ev = .returned (.int .i64 k'.time) ∧ ∃ m, w' = wo.drewN m := fun e =>
                (ktime_any ((HIO.out.new (show Below wo.heap.size wo (wo.drewN e) from ⟨rfl, rfl, rfl, Nat.le_refl _, fun _ _ => rfl⟩)).pair.a.kat)).mono fun ev w' h => ⟨h.1, e, h.2.symm⟩
              have HTIM := hid hti
              obtain ⟨_, _, _, _, _, k6, _, hmb⟩ := HIO.out.pair.b.kat.cells
              clear hbo hti HUN HRN HHN HMN HIN HBN HNH HWO
              go_wp2_with fail
              go_quiet ((go_at_call 37; exact HTIM.out _))
              go_wp2_with fail
              go_roundw
              case rel => exact ⟨i + 1, k', B', M', N', by omega, by omega, by go_num, ⟨(HIO.out.new (below_drawn (Below.refl _ _) _)).pair, HOKD.out, HBD.out⟩⟩
              case measure => simp [intOf]; omega
        · have hd60 : decide ((i : Int) < 60) = false := decide_eq_false (by omega)
          go_wp2_with fail
          go_ret
          exact ⟨rfl, HWR.out⟩
      · obtain rfl : nl = i := by omega
        go_wp2_with fail
        go_ret
        exact ⟨rfl, HWR.out⟩
  · have hnew := kern_new_bad w2 m (HF.out.new HB2.out) (HM.out.new HB2.out) he
    have hnr := HNR.out
    have hns := HNS.out
    have hnw := HNW.out
    rw [hnr, hns, hnw] at hnew
    have hneb : (planChk m.pl != 0) = true := by simpa using he
    have hv := errV_pos he
    generalize planChk m.pl = E at hnew hneb hv
    have HV := hid hv
    rw [hv] at hnew
    clear he hnr hns hnw hv
    go_wp2_with fail
    refine hnew.mono ?_
    clear hnew
    rintro e w3 ⟨rfl, hb3⟩
    have HB3 := hid (HB2.out.trans (hb3.mono HB2.out.size))
    clear hb3 x0 x1 x2 x3 hlt
    have hsame := error_same E w3 (HG.out.new HB3.out)
    rw [HV.out] at hsame
    go_wp2_with fail
    refine hsame.mono ?_
    clear hsame
    rintro e w4 ⟨rfl, hb4⟩
    go_wp2_with fail
    go_ret
    exact ⟨rfl, HB3.out.trans (hb4.mono HB3.out.size)⟩
end Go.Proofs.YtnighanlonkjbaaDoor
