/- The walk of framelaw2.AlonePlays: it returns true at every input. -/
import Derived.Test.YtongkiccglaniaaDoorAloneBad
import Derived.Test.YtongkiccglaniaaDoorAloneNew
import Derived.Test.YtongkiccglaniaaDoorRAlone
import Derived.Test.YtongkiccglaniaaDoorRPlanU
import Derived.Test.YtongkiccglaniaaDoorOpen2
import Derived.Test.YtongkiccglaniaaDoorSameU
import Derived.Test.YtongkiccglaniaaDoorDoorU
import Derived.StillTailTactics
import Derived.Deep.DeepCutAuto
import Derived.Deep.CutBlock
namespace Go.Proofs.YtongkiccglaniaaDoor
open Go.RowKit
set_option maxRecDepth 100000

/-- A block of the walk's own, that may be written. -/
theorem Stand.lab {w wr : World} {ts : List Tg} (h : Stand w wr ts) (cs : Array Value) (T : Nat) : Stand w (wr.alloc (.cells cs T)) (ts ++ [blkT wr.heap.size (.cells cs T (0, 0))]) := by
  refine h.add ((Below.refl _ _).alloc (Nat.le_refl _) _) (blk_lie (heap_alloc_new wr _)) (fun j hj => ?_) (fun j hj => .inl ?_)
  · have e : j = wr.heap.size := hj
    omega
  · have e : j = wr.heap.size := hj
    omega
theorem ANew.standing {w w' : World} {l : List Op} {r : Int} {ab c : Nat} {A : Option Addr} (h1 : AloneAt w' ab A c l r ⟨St.zero, 0⟩) (h2 : ∀ j, (j = ab ∨ (0 < l.length ∧ InA A j)) → w.heap.size ≤ j) (h3 : Below w.heap.size w w') : Stand w w' [aloneT ab A c l r ⟨St.zero, 0⟩] :=
  (Stand.nil w).add h3 h1.lie (fun j hj => h2 j (.inl hj)) (fun j hj => .inl (h2 j hj))
theorem what_same {o : Op} {s : St} {n : Nat} (ho : opOk o n = true) (is : Bool) : whatOf o.what s.failed (is || (o.what == 8)) = stepWhat o s is := by
  have h := opOk_iff.1 ho
  obtain ⟨what, a, b⟩ := o
  unfold whatOf stepWhat
  simp only [] at h ⊢
  obtain ⟨h1, h2, _⟩ := h
  by_cases hf : s.failed = true
  · rw [if_pos hf, if_pos hf]
  · rw [if_neg hf, if_neg hf]
    by_cases h8 : what = 8
    · subst h8; cases is <;> simp
    · by_cases h11 : what = 11
      · subst h11; simp
      · by_cases h9 : what = 9
        · subst h9; cases is <;> simp
        · simp [h8, h9, h11]
/-- Is what is handed in refused? -/
def refB (got : Int) (is : Bool) : Bool := is && !cellB got
/-- A step of a machine and of the reference's, right or not. -/
theorem astep_both {l : List Op} {r : Int} {a : Ast} {B : Int} (hok : AOk l a B) (hB : B < 4611686018427387904) (got : Int) (is : Bool) :
    ∃ (tk rm pc wh out er : Int) (a' : Ast), AOk l a' (B + 1) ∧ (∀ (w : World) (ab : Nat) (A : Option Addr) (c : Nat), AloneAt w ab A c l r a → Forms w →
      Calls Tryd.prog 19 #[.pointer (some ⟨ab, 0, none⟩), .int .i64 got, .bool is] w fun e w' => e = .returned (.tuple #[.agg #[.int .i64 tk, .int .i64 rm, .int .i64 pc, .int .i64 wh], .int .i64 out, errV er]) ∧ Went w w' (aloneT ab A c l r a) (aloneT ab A c l r a')) ∧
      (refB got is = true → tk = 0 ∧ rm = 0 ∧ pc = 0 ∧ wh = 0 ∧ out = 0 ∧ er = 1 ∧ a' = a) ∧
      (refB got is = false → er = 0 ∧ ∀ (w : World) (ab : Nat) (A : Option Addr) (c : Nat), RAloneAt w ab A c l r a →
        Calls Tryd.prog 24 #[.pointer (some ⟨ab, 0, none⟩), .int .i64 got, .bool is] w fun e w' => e = .returned (.tuple #[.agg #[.int .i64 tk, .int .i64 rm, .int .i64 pc, .int .i64 wh], .int .i64 out]) ∧ Went w w' (raloneT ab A c l r a) (raloneT ab A c l r a')) := by
  obtain ⟨o, ho, hop⟩ := hok.op
  by_cases hg : refB got is = true
  · have hg2 : is = true ∧ cellB got = false := by simpa [refB] using hg
    obtain ⟨rfl, hg'⟩ := hg2
    have hok' : AOk l a (B + 1) := ⟨hok.code, hok.st, hok.t0, by have := hok.tB; omega⟩
    refine ⟨0, 0, 0, 0, 0, 1, a, hok', fun w ab A c h hf => (astep_bad h hf hok got hg').mono ?_, fun _ => ⟨rfl, rfl, rfl, rfl, rfl, rfl, rfl⟩, fun h => by rw [hg] at h; cases h⟩
    rintro e w' ⟨rfl, hb⟩
    exact ⟨rfl, Went.new h.lie hb⟩
  · have hg0 : refB got is = false := by simpa using hg
    have hg' : is = true → cellB got = true := fun h => by subst h; simpa [refB] using hg0
    refine ⟨(aEv r a o is).tick, (aEv r a o is).room, (aEv r a o is).pc, (aEv r a o is).what, (stepDo l.length o a.st got is).2, 0, aGo l.length a o got is, hok.go ho hg', fun w ab A c h hf => (astep_ok h hf hok hB ho got is hg').mono ?_, fun h => absurd h hg, fun _ => ⟨rfl, fun w ab A c h => (ralone_step h hok hB ho got is).mono ?_⟩⟩
    · rintro e w' ⟨rfl, hw⟩
      exact ⟨by rw [errV_zero], hw⟩
    · rintro e w' ⟨rfl, hw⟩
      refine ⟨?_, hw⟩
      have : rEv r a o is = aEv r a o is := by unfold rEv aEv; rw [what_same hop]
      rw [this]

set_option maxHeartbeats 8000000 in
theorem alonePlays_walk {w : World} (hg : Handle w) (hf : Forms w) (m : PM) (hm : PlanAt w m) (r : Int) (LA : Option Addr) (lc : Nat) (ls : List Il) (hs : Sl w LA 1 ls.length (ls.flatMap Il.cells)) (hsw : SlW LA lc ls.length) (hat : ∀ y ∈ ls, y.At w) :
    Calls Tryd.prog 5 #[.agg #[.slice m.A m.ros.length m.c, .int .i64 m.ticks, .slice m.sA m.spans.length m.sc, .slice m.wA m.wires.length m.wc], .int .i64 r, .slice LA ls.length lc] w fun e w' => e = .returned (.bool true) ∧ Below w.heap.size w w' := by
  have HG := hid hg
  have HF := hid hf
  have HM := hid hm
  have HS := hid hs
  have HAT := hid hat
  have hcap := hsw.1
  have hcap2 := hsw.2.1
  unfold maxLen at hcap2
  obtain ⟨nl, hnl⟩ : ∃ nl, ls.length = nl := ⟨_, rfl⟩
  rw [hnl] at hcap ⊢
  have HNL := hid hnl
  obtain ⟨w1, hw1⟩ : ∃ w1, w1 = w.alloc (.cells #[.slice m.A m.ros.length m.c, .int .i64 m.ticks, .slice m.sA m.spans.length m.sc, .slice m.wA m.wires.length m.wc] 31) := ⟨_, rfl⟩
  have hb1 : Below w.heap.size w w1 := by rw [hw1]; exact (Below.refl _ _).alloc (Nat.le_refl _) _
  have hbox : w1.heap[w.heap.size]? = some (.cells #[.slice m.A m.ros.length m.c, .int .i64 m.ticks, .slice m.sA m.spans.length m.sc, .slice m.wA m.wires.length m.wc] 31 (0, 0)) := by rw [hw1]; exact heap_alloc_new w _
  have hrp := rplan_any w1 m (hm.new hb1)
  obtain ⟨nn, hnn⟩ : ∃ nn, m.ros.length = nn := ⟨_, rfl⟩
  obtain ⟨ns, hns⟩ : ∃ ns, m.spans.length = ns := ⟨_, rfl⟩
  obtain ⟨nw, hnw⟩ : ∃ nw, m.wires.length = nw := ⟨_, rfl⟩
  rw [hnn, hns, hnw] at hw1 hbox hrp ⊢
  have HNN := hid hnn
  have HNS := hid hns
  have HNW := hid hnw
  have HB1 := hid hb1
  have HXS : Hid (∀ w', Below w1.heap.size w1 w' → w'.cell? ⟨w.heap.size, 0, none⟩ = some (.slice m.A nn m.c) ∧ w'.cell? ⟨w.heap.size, 1, none⟩ = some (.int .i64 m.ticks) ∧ w'.cell? ⟨w.heap.size, 2, none⟩ = some (.slice m.sA ns m.sc) ∧ w'.cell? ⟨w.heap.size, 3, none⟩ = some (.slice m.wA nw m.wc) ∧ w.heap.size < w'.heap.size) := fun w' hb => by
    have h := (hb.block _ (blk_lt hbox)).trans hbox
    exact ⟨blk_cell h 0, blk_cell h 1, blk_cell h 2, blk_cell h 3, blk_lt h⟩
  unfold TellV at hrp
  have HRP := hid hrp
  clear hg hf hm hs hsw hat hnl hb1 hbox hnn hns hnw hrp
  obtain ⟨x0, x1, x2, x3, hlx⟩ := HXS.out _ (Below.refl _ _)
  go_enter Tryd.func5, Tryd.ntmps5
  go_upto_region 1 with fail
  rw [← hw1]
  clear hw1
  go_wp2_with fail
  refine HRP.out.mono ?_
  clear HRP x0 x1 x2 x3 hlx
  rintro e w2 ⟨rfl, hb2⟩
  have HXB := hid hb2
  have HB2 := hid (HB1.out.trans (hb2.mono HB1.out.size))
  clear hb2
  by_cases hok : planChk m.pl = 0 ∧ 0 ≤ r ∧ r < nn
  · obtain ⟨he, hr0, hr1⟩ := hok
    obtain ⟨R, rfl⟩ : ∃ R : Nat, r = R := ⟨r.toNat, by omega⟩
    have hRl : R < m.pl.code.length := by simp only [PM.pl, List.length_map]; rw [HNN.out]; omega
    obtain ⟨l, hl⟩ : ∃ l, m.pl.code[R]? = some l := ⟨_, List.getElem?_eq_getElem hRl⟩
    have hcode := (planChk_ok he).codes l (List.mem_of_getElem? hl)
    obtain ⟨ro, hro, hrol⟩ : ∃ ro, m.ros[R]? = some ro ∧ ro.ops = l := by
      simp only [PM.pl, List.getElem?_map, Option.map_eq_some_iff] at hl
      exact hl
    have hrn : R < nn := by omega
    have hN := aloneNew_good (HF.out.new HB2.out) (HM.out.new HB2.out) he hl
    rw [HNN.out, HNS.out, HNW.out] at hN
    unfold ANew at hN
    have HCODE := hid hcode
    rw [he]
    have hd1 : decide ((R : Int) < 0) = false := decide_eq_false (by omega)
    have hd2 : decide ((nn : Int) ≤ (R : Int)) = false := decide_eq_false (by omega)
    obtain ⟨x0, x1, x2, x3, hlx⟩ := HXS.out _ HXB.out
    clear he hr0 hr1 hRl hl hcode
    go_wp2_with fail
    refine hN.mono ?_
    clear hN x0 x1 x2 x3 hlx hd1 hd2
    rintro e w3 ⟨ab, A, c, rfl, hal, hfr, hb3⟩
    have HS3 := hid (ANew.standing hal hfr hb3)
    clear hal hfr hb3
    go_wp2_with fail
    have hsame := error_same 0 w3 (HG.out.new (HB2.out.trans (HS3.out.below.mono HB2.out.size)))
    rw [errV_zero] at hsame
    refine hsame.mono ?_
    clear hsame
    rintro e w4 ⟨rfl, hb4⟩
    have HS4 := hid (HS3.out.new hb4)
    clear hb4 HS3
    obtain ⟨x0, x1, x2, x3, hlx⟩ := HXS.out _ (HXB.out.trans (HS4.out.below.mono HXB.out.size))
    have hb04 := HB2.out.trans (HS4.out.below.mono HB2.out.size)
    obtain ⟨cb, coff, hcA, hcb, hcell⟩ := HM.out.rows.ro hb04 hro (List.getElem?_eq_some_iff.1 hro).1
    have hroat := HM.out.codes ro (List.mem_of_getElem? hro)
    have hcm := HM.out.rowsW
    rw [HNN.out] at hcm
    have hcm1 := hcm.1
    have hcm2 := hcm.2.1
    unfold maxLen at hcm2
    rw [hcA] at x0
    rw [hrol] at hcell
    have hR0 : (0 : Int) ≤ (R : Int) := by omega
    have hR1 : (R : Int) < (nn : Int) := by omega
    obtain ⟨D, hD⟩ : ∃ D, ro.A = D := ⟨_, rfl⟩
    obtain ⟨d, hd⟩ : ∃ d, ro.c = d := ⟨_, rfl⟩
    have hral : RAloneAt (w4.alloc (.cells #[.slice D l.length d, .int .i64 R, .int .i64 0, .int .i64 0, .int .i64 0, .int .i64 0, .int .i64 0, .int .i64 0, .int .i64 0, .bool false, .int .i64 0] 55)) w4.heap.size D d l R ⟨St.zero, 0⟩ := by
      have h1 := hroat.1
      have h2 := hroat.2.1
      rw [hrol, hD] at h1
      rw [hrol, hD, hd] at h2
      have h3 := h1.new hb04
      refine ⟨heap_alloc_new w4 _, h3.new ((Below.refl _ _).alloc (Nat.le_refl _) _), h2, fun h0 hj => ?_⟩
      have := h3.lt h0 _ hj
      omega
    have hold : ∀ j, 0 < l.length → InA D j → j < w2.heap.size := fun j h0 hj => by
      have h1 := hroat.1
      rw [hrol, hD] at h1
      exact Nat.lt_of_lt_of_le (h1.lt h0 j hj) HB2.out.size
    rw [hD, hd] at hcell
    have HS5 : Hid (Stand w2 (w4.alloc (.cells #[.slice D l.length d, .int .i64 R, .int .i64 0, .int .i64 0, .int .i64 0, .int .i64 0, .int .i64 0, .int .i64 0, .int .i64 0, .bool false, .int .i64 0] 55)) [aloneT ab A c l R ⟨St.zero, 0⟩, raloneT w4.heap.size D d l R ⟨St.zero, 0⟩]) := HS4.out.add ((Below.refl _ _).alloc (Nat.le_refl _) _) hral.lie (fun j hj => by have : j = w4.heap.size := hj; omega) (fun j hj => by
      rcases hj with hj | ⟨h0, hj⟩
      · exact .inl (by omega)
      · exact .inr (hold j h0 hj))
    obtain ⟨w5, hw5⟩ : ∃ w5, w5 = w4.alloc (.cells #[.slice D l.length d, .int .i64 R, .int .i64 0, .int .i64 0, .int .i64 0, .int .i64 0, .int .i64 0, .int .i64 0, .int .i64 0, .bool false, .int .i64 0] 55) := ⟨_, rfl⟩
    obtain ⟨bb, hbb⟩ : ∃ bb, bb = w4.heap.size := ⟨_, rfl⟩
    rw [← hw5, ← hbb] at HS5
    clear hral hold hroat hcm hro hrol hD hd hcA hb04 HS4
    go_upto_region 9 with fail
    rw [← hw5, ← hbb]
    clear hw5 hbb x0 x1 x2 x3 hlx hcell hcb hR0 hR1
    go_wp2_with fail
    go_loopw [12] (fun v12 wr => ∃ (i : Nat) (X : Ast), i ≤ nl ∧ i ≤ 80 ∧ v12 = .int .i64 i ∧ AOk l X i ∧ Stand w2 wr [aloneT ab A c l R X, raloneT bb D d l R X]) (fun v12 _ => nl - (intOf v12).toNat)
    case atStart => exact ⟨0, _, by omega, by omega, rfl, aNew_ok HCODE.out, HS5.out⟩
    case round =>
      obtain ⟨wo, rfl⟩ : ∃ wo : World, wo = wr := ⟨_, rfl⟩
      obtain ⟨i, X, hi, hi80, rfl, hok, hst⟩ := hrel
      have HSR := hid hst
      have HOK := hid hok
      have HBO := hid (HB2.out.trans (hst.below.mono HB2.out.size))
      clear hst hok HS5
      by_cases hin : i < nl ∧ i < 80
      · obtain ⟨hin, hi8⟩ := hin
        have hi8' : (i : Int) < 80 := by omega
        have hi0 : (0 : Int) ≤ (i : Int) := by omega
        have hii : (i : Int) < (nl : Int) := by omega
        have hil2 : i < ls.length := by rw [HNL.out]; exact hin
        have hget := List.getElem?_eq_getElem hil2
        have hyat := HAT.out _ (List.getElem_mem hil2)
        obtain ⟨lb, lo, rfl, hlb, hlx⟩ := HS.out.2 (by omega)
        have hcell := flatMap_get Il.cells 1 Il.len ls i 0 _ hget (by decide)
        rw [Nat.mul_one, Nat.add_zero] at hcell
        replace hcell := hlx i _ (hcell.trans rfl)
        generalize ls[i] = y at hyat hcell
        have hcw : ∀ w', Below w.heap.size w w' → w'.cell? ⟨lb, lo + i, none⟩ = some (.slice y.A y.l.length y.c) ∧ lb < w'.heap.size := fun w' hb => ⟨(hb.cell (p := ⟨lb, lo + i, none⟩) hlb).trans hcell, Nat.lt_of_lt_of_le hlb hb.size⟩
        obtain ⟨ny, hny⟩ : ∃ ny, y.l.length = ny := ⟨_, rfl⟩
        rw [hny] at hcw
        have HCW := hid hcw
        have HYAT := hid hyat
        have HNY := hid hny
        clear hget hyat hlx hcell hcw hny hil2
        go_upto_block 2 with fail
        have HS6 : Hid (Stand w2 (wo.alloc (.cells #[.int .i64 0, .int .i64 0] 56)) [aloneT ab A c l R X, raloneT bb D d l R X, blkT wo.heap.size (.cells #[.int .i64 0, .int .i64 0] 56 (0, 0))]) := HSR.out.lab #[.int .i64 0, .int .i64 0] 56
        obtain ⟨w6, hw6⟩ : ∃ w6, w6 = wo.alloc (.cells #[.int .i64 0, .int .i64 0] 56) := ⟨_, rfl⟩
        obtain ⟨vb, hvb⟩ : ∃ vb, vb = wo.heap.size := ⟨_, rfl⟩
        rw [← hw6, ← hvb] at HS6 ⊢
        clear hw6 hvb HSR
        go_cut [14] (fun v14 wx => (∃ j : Nat, v14 = .int .i64 j) ∧ ∃ a0 a1 : Int, Stand w2 wx [aloneT ab A c l R X, raloneT bb D d l R X, blkT vb (.cells #[.int .i64 a0, .int .i64 a1] 56 (0, 0))])
        case first =>
          as_aux_lemma =>
          go_wp2_with fail
          go_loopw [14] (fun v14 wr => ∃ (j : Nat) (a0 a1 : Int), j ≤ 2 ∧ j ≤ ny ∧ v14 = .int .i64 j ∧ Stand w2 wr [aloneT ab A c l R X, raloneT bb D d l R X, blkT vb (.cells #[.int .i64 a0, .int .i64 a1] 56 (0, 0))]) (fun v14 _ => 2 - (intOf v14).toNat)
          case atStart => exact ⟨0, 0, 0, by omega, by omega, rfl, HS6.out⟩
          case round =>
            obtain ⟨wt, rfl⟩ : ∃ wt : World, wt = wr := ⟨_, rfl⟩
            obtain ⟨j, a0, a1, hj2, hjn, rfl, hst⟩ := hrel
            have HST := hid hst
            have HOLD := hid (HB2.out.trans (hst.below.mono HB2.out.size))
            obtain ⟨y0, hltb⟩ := HCW.out wt HOLD.out
            clear hst
            by_cases hjy : j < ny
            · by_cases hj : j < 2
              · obtain ⟨yb, yo, hyA, hyb, hyx⟩ := HYAT.out.1.2 (by rw [HNY.out]; omega)
                have hycap := HYAT.out.2.1
                rw [HNY.out] at hycap
                have hyc1 := hycap.1
                have hyc2 := hycap.2.1
                unfold maxLen at hyc2
                have hjl : j < y.l.length := by rw [HNY.out]; exact hjy
                have hu : (y.l.flatMap fun a => [Value.int .i64 a])[j]? = some (.int .i64 y.l[j]) := by
                  have := flatMap_get (fun a : Int => [Value.int .i64 a]) 1 (fun _ => rfl) y.l j 0 _ (List.getElem?_eq_getElem hjl) (by decide)
                  rw [Nat.mul_one, Nat.add_zero] at this
                  exact this.trans rfl
                have z0 : wt.cell? ⟨yb, yo + j, none⟩ = some (.int .i64 y.l[j]) := (HOLD.out.cell (p := ⟨yb, yo + j, none⟩) hyb).trans (hyx j _ hu)
                rw [hyA] at y0
                generalize y.l[j] = u at z0
                have hltz := cell_lt z0
                have hvt : wt.heap[vb]? = some (.cells #[.int .i64 a0, .int .i64 a1] 56 (0, 0)) := (HST.out.get (i := 2) rfl).here
                have gf := fun n => blk_free hvt n
                have hltv := blk_lt hvt
                clear hu hyx hjl hyA hycap
                obtain ⟨wx, hwx⟩ : ∃ wx, wx = wt.setCell ⟨vb, j, none⟩ (.int .i64 u) := ⟨_, rfl⟩
                have hvx : ∃ b0 b1 : Int, wx.heap[vb]? = some (.cells #[.int .i64 b0, .int .i64 b1] 56 (0, 0)) := by
                  rw [hwx, hp_set, if_pos rfl, hvt]
                  rcases (show j = 0 ∨ j = 1 by omega) with rfl | rfl
                  · exact ⟨u, a1, rfl⟩
                  · exact ⟨a0, u, rfl⟩
                obtain ⟨b0, b1, hvx⟩ := hvx
                have HSX : Hid (Stand w2 wx [aloneT ab A c l R X, raloneT bb D d l R X, blkT vb (.cells #[.int .i64 b0, .int .i64 b1] 56 (0, 0))]) := HST.out.go 2 rfl (blk_went (HST.out.get (i := 2) rfl) (by rw [hwx]; exact (Keep.refl (fun j => j = vb) wt).setCell (.inl rfl) _) hvx)
                have gj : ∃ g, wt.cell? ⟨vb, j, none⟩ = some g := by
                  rcases (show j = 0 ∨ j = 1 by omega) with rfl | rfl
                  · exact ⟨_, blk_cell hvt 0⟩
                  · exact ⟨_, blk_cell hvt 1⟩
                obtain ⟨g, gj⟩ := gj
                have gfj := gf j
                clear hvx hvt gf
                go_wp2_with fail
                rw [← hwx]
                go_roundw
                case rel => exact ⟨j + 1, b0, b1, by omega, by omega, by go_num, HSX.out⟩
                case measure => simp [intOf]; omega
              · obtain rfl : j = 2 := by omega
                go_wp2_with fail
                go_meet
                exact ⟨⟨2, rfl⟩, a0, a1, HST.out⟩
            · have hd : decide ((j : Int) < (ny : Int)) = false := decide_eq_false (by omega)
              go_wp2_with fail
              go_meet
              exact ⟨⟨j, rfl⟩, a0, a1, HST.out⟩
        obtain ⟨⟨j14, rfl⟩, a0, a1, hst⟩ := hcut
        obtain ⟨wt, rfl⟩ : ∃ wt : World, wt = wc := ⟨_, rfl⟩
        have HST := hid hst
        clear hst HS6 HBO HCW HYAT HNY
        obtain ⟨is, his⟩ : ∃ is, decide (0 < a0) = is := ⟨_, rfl⟩
        obtain ⟨tk, rm, pc, wh, out, er, X', hok', hstep, href1, href2⟩ := astep_both (r := R) HOK.out (by omega) a1 is
        have HOK' := hid hok'
        have HSTEP := hid hstep
        have HREF1 := hid href1
        have HREF2 := hid href2
        have hvt : wt.heap[vb]? = some (.cells #[.int .i64 a0, .int .i64 a1] 56 (0, 0)) := (HST.out.get (i := 2) rfl).here
        have g0 := blk_cell hvt 0
        have hltv := blk_lt hvt
        simp at g0
        clear hok' hstep href1 href2 hvt
        go_upto_region 20 with fail
        clear g0 hltv his
        have HS7 : Hid (Stand w2 (wt.alloc (.cells #[.int .i64 0, .int .i64 0, .int .i64 0, .int .i64 0] 34)) [aloneT ab A c l R X, raloneT bb D d l R X, blkT vb (.cells #[.int .i64 a0, .int .i64 a1] 56 (0, 0)), blkT wt.heap.size (.cells #[.int .i64 0, .int .i64 0, .int .i64 0, .int .i64 0] 34 (0, 0))]) := HST.out.lab #[.int .i64 0, .int .i64 0, .int .i64 0, .int .i64 0] 34
        obtain ⟨w7, hw7⟩ : ∃ w7, w7 = wt.alloc (.cells #[.int .i64 0, .int .i64 0, .int .i64 0, .int .i64 0] 34) := ⟨_, rfl⟩
        obtain ⟨eb, heb⟩ : ∃ eb, eb = wt.heap.size := ⟨_, rfl⟩
        rw [← hw7, ← heb] at HS7 ⊢
        clear hw7 heb HST
        have HV1 : Hid (∀ w' T1 T2 T3 ts, Stand w2 w' (T1 :: T2 :: blkT vb (.cells #[.int .i64 a0, .int .i64 a1] 56 (0, 0)) :: T3 :: ts) → w'.cell? ⟨vb, 1, none⟩ = some (.int .i64 a1) ∧ vb < w'.heap.size) := fun w' T1 T2 T3 ts h => by
          have hvt : w'.heap[vb]? = some (.cells #[.int .i64 a0, .int .i64 a1] 56 (0, 0)) := (h.get (i := 2) rfl).here
          exact ⟨blk_cell hvt 1, blk_lt hvt⟩
        obtain ⟨g1, hltv⟩ := HV1.out _ _ _ _ _ HS7.out
        go_upto_region 21 with fail
        go_cut [105] (fun v wx => v = .bool (refB a1 is) ∧ wx = w7)
        case first =>
          as_aux_lemma =>
          cases is with
          | false =>
            go_wp2_with fail
            go_meet
            exact ⟨rfl, rfl⟩
          | true =>
            by_cases h1 : a1 < 0
            · have hi1 : refB a1 true = true := by unfold refB cellB; rw [decide_eq_false (by omega)]; rfl
              have hd1 : decide (a1 < 0) = true := decide_eq_true h1
              go_wp2_with fail
              go_meet
              exact ⟨by rw [hi1], rfl⟩
            · have hd1 : decide (a1 < 0) = false := decide_eq_false h1
              by_cases h2 : 999 < a1
              · have hi1 : refB a1 true = true := by unfold refB cellB; rw [decide_eq_false (by omega)]; rfl
                have hd2 : decide (999 < a1) = true := decide_eq_true h2
                go_wp2_with fail
                go_meet
                exact ⟨by rw [hi1], rfl⟩
              · have hi1 : refB a1 true = false := by unfold refB cellB; rw [decide_eq_true (by omega)]; rfl
                have hd2 : decide (999 < a1) = false := decide_eq_false h2
                go_wp2_with fail
                go_meet
                exact ⟨by rw [hi1], rfl⟩
        obtain ⟨rfl, rfl⟩ := hcut
        obtain ⟨w7, rfl⟩ : ∃ w' : World, w' = wc := ⟨_, rfl⟩
        clear g1 hltv
        go_upto_if 105 with fail
        go_cut [7, 17] (fun v7 v17 wx => v7 = .int .i64 er ∧ v17 = .int .i64 out ∧ Stand w2 wx [aloneT ab A c l R X, raloneT bb D d l R X', blkT vb (.cells #[.int .i64 a0, .int .i64 a1] 56 (0, 0)), blkT eb (.cells #[.int .i64 tk, .int .i64 rm, .int .i64 pc, .int .i64 wh] 34 (0, 0))])
        case first =>
          as_aux_lemma =>
          obtain ⟨g1, hltv⟩ := HV1.out _ _ _ _ _ HS7.out
          cases hrf : refB a1 is with
          | true =>
            obtain ⟨rfl, rfl, rfl, rfl, rfl, rfl, rfl⟩ := HREF1.out hrf
            clear hrf g1 hltv
            go_wp2_with fail
            go_meet
            exact ⟨rfl, rfl, HS7.out⟩
          | false =>
            obtain ⟨rfl, hstep⟩ := HREF2.out hrf
            have HSP := hid hstep
            clear hrf hstep
            go_wp2_with fail
            refine (HSP.out _ _ _ _ (HS7.out.get (i := 1) rfl).here).mono ?_
            rintro e w8 ⟨rfl, hw⟩
            have HS8 : Hid (Stand w2 w8 [aloneT ab A c l R X, raloneT bb D d l R X', blkT vb (.cells #[.int .i64 a0, .int .i64 a1] 56 (0, 0)), blkT eb (.cells #[.int .i64 0, .int .i64 0, .int .i64 0, .int .i64 0] 34 (0, 0))]) := HS7.out.go 1 rfl hw
            clear hw g1 hltv
            go_wp2_with (refine wpList_store_rowK rfl 34 _ _ rfl eb #[.int .i64 tk, .int .i64 rm, .int .i64 pc, .int .i64 wh] rfl rfl 34 _ (HS8.out.get (i := 3) rfl).here (by kernel_rfl) rfl (by simp [Value.oneCell']) ?_)
            intro wx hx hk _
            have HSX : Hid (Stand w2 wx [aloneT ab A c l R X, raloneT bb D d l R X', blkT vb (.cells #[.int .i64 a0, .int .i64 a1] 56 (0, 0)), blkT eb (.cells #[.int .i64 tk, .int .i64 rm, .int .i64 pc, .int .i64 wh] 34 (0, 0))]) := HS8.out.go 3 rfl (blk_went (HS8.out.get (i := 3) rfl) hk hx)
            clear hx hk
            go_wp2_with fail
            go_meet
            exact ⟨rfl, rfl, HSX.out⟩
        obtain ⟨rfl, rfl, hst⟩ := hcut
        obtain ⟨w9, rfl⟩ : ∃ w' : World, w' = wc := ⟨_, rfl⟩
        have HS9 := hid hst
        clear hst HS7 HREF1 HREF2
        obtain ⟨g1, hltv⟩ := HV1.out _ _ _ _ _ HS9.out
        go_wp2_with fail
        refine (HSTEP.out _ _ _ _ (HS9.out.get (i := 0) rfl).here (HF.out.new (HB2.out.trans (HS9.out.below.mono HB2.out.size)))).mono ?_
        rintro e w10 ⟨rfl, hw⟩
        have hs10 : Stand w2 w10 [aloneT ab A c l R X', raloneT bb D d l R X', blkT vb (.cells #[.int .i64 a0, .int .i64 a1] 56 (0, 0)), blkT eb (.cells #[.int .i64 tk, .int .i64 rm, .int .i64 pc, .int .i64 wh] 34 (0, 0))] := HS9.out.go 0 rfl hw
        have HS11 : Hid (Stand w2 (w10.alloc (.cells #[.int .i64 tk, .int .i64 rm, .int .i64 pc, .int .i64 wh] 34)) [aloneT ab A c l R X', raloneT bb D d l R X', blkT vb (.cells #[.int .i64 a0, .int .i64 a1] 56 (0, 0)), blkT eb (.cells #[.int .i64 tk, .int .i64 rm, .int .i64 pc, .int .i64 wh] 34 (0, 0)), conT w10.heap.size (.cells #[.int .i64 tk, .int .i64 rm, .int .i64 pc, .int .i64 wh] 34)]) := hs10.lay #[.int .i64 tk, .int .i64 rm, .int .i64 pc, .int .i64 wh] 34
        clear hw hs10 g1 hltv HS9 HSTEP HV1
        go_upto_region 25 with fail
        obtain ⟨fb, hfb⟩ : ∃ fb, fb = w10.heap.size := ⟨_, rfl⟩
        obtain ⟨w11, hw11⟩ : ∃ w11, w11 = w10.alloc (.cells #[.int .i64 tk, .int .i64 rm, .int .i64 pc, .int .i64 wh] 34) := ⟨_, rfl⟩
        rw [← hw11, ← hfb] at HS11 ⊢
        clear hw11 hfb
        have hes := error_same er w11 (HG.out.new (HB2.out.trans (HS11.out.below.mono HB2.out.size)))
        go_wp2_with fail
        refine hes.mono ?_
        clear hes
        rintro e w12 ⟨rfl, hb12⟩
        have HS12 := hid (HS11.out.new hb12)
        clear hb12 HS11
        have e1 : w12.heap[eb]? = some (.cells #[.int .i64 tk, .int .i64 rm, .int .i64 pc, .int .i64 wh] 34 (0, 0)) := (HS12.out.get (i := 3) rfl).here
        have e2 : w12.heap[fb]? = some (.cells #[.int .i64 tk, .int .i64 rm, .int .i64 pc, .int .i64 wh] 34 (0, 0)) := (HS12.out.get (i := 4) rfl).here
        have y0 := blk_cell e1 0
        have y1 := blk_cell e1 1
        have y2 := blk_cell e1 2
        have y3 := blk_cell e1 3
        have z0 := blk_cell e2 0
        have z1 := blk_cell e2 1
        have z2 := blk_cell e2 2
        have z3 := blk_cell e2 3
        have hle1 := blk_lt e1
        have hle2 := blk_lt e2
        simp at y0 y1 y2 y3 z0 z1 z2 z3
        have hne : ∀ w, (binOp .eql 34 (.agg #[.int .i64 tk, .int .i64 rm, .int .i64 pc, .int .i64 wh]) (.agg #[.int .i64 tk, .int .i64 rm, .int .i64 pc, .int .i64 wh])).run Tryd.prog w = .ok (.bool true) w := fun w => event_eql ⟨tk, rm, pc, wh⟩ w
        have hge := event_guard
        clear e1 e2
        go_upto_region 26 with fail
        clear y0 y1 y2 y3 z0 z1 z2 z3 hle1 hle2 hne hge
        have HSJ : Hid (Stand w2 w12 [aloneT ab A c l R X', raloneT bb D d l R X']) := hid (HS12.out.few (ts := [aloneT ab A c l R X', raloneT bb D d l R X']) (us := [_, _, _]))
        clear HS12
        have HSEE : Hid (∀ w', Below w12.heap.size w12 w' → (w'.cell? ⟨bb, 2, none⟩ = some (.int .i64 X'.st.pc) ∧ w'.cell? ⟨bb, 3, none⟩ = some (.int .i64 X'.st.c0) ∧ w'.cell? ⟨bb, 4, none⟩ = some (.int .i64 X'.st.c1) ∧ w'.cell? ⟨bb, 5, none⟩ = some (.int .i64 X'.st.c2) ∧ w'.cell? ⟨bb, 6, none⟩ = some (.int .i64 X'.st.c3) ∧ w'.cell? ⟨bb, 7, none⟩ = some (.int .i64 X'.st.c4) ∧ w'.cell? ⟨bb, 8, none⟩ = some (.int .i64 X'.st.c5) ∧ w'.cell? ⟨bb, 9, none⟩ = some (.bool X'.st.failed) ∧ w'.cell? ⟨bb, 10, none⟩ = some (.int .i64 X'.turns))) := fun w' hb => by
          obtain ⟨_, _, x2, x3, x4, x5, x6, x7, x8, x9, x10, _, _⟩ := RAloneAt.cells ((HSJ.out.new hb).get (i := 1) rfl).here
          exact ⟨x2, x3, x4, x5, x6, x7, x8, x9, x10⟩
        have HSA : Hid (∀ w', Below w12.heap.size w12 w' → Calls Tryd.prog 21 #[.pointer (some ⟨ab, 0, none⟩)] w' fun e w'' => e = .returned (.agg (stV X'.st)) ∧ Below w'.heap.size w' w'') := fun w' hb => astate_any ((HSJ.out.new hb).get (i := 0) rfl).here
        have HTA : Hid (∀ w', Below w12.heap.size w12 w' → Calls Tryd.prog 20 #[.pointer (some ⟨ab, 0, none⟩)] w' fun e w'' => e = .returned (.int .i64 X'.turns) ∧ w' = w'') := fun w' hb => aturns_any ((HSJ.out.new hb).get (i := 0) rfl).here
        have hgs := state_guard
        have HFIN : Hid (∀ w', Below w12.heap.size w12 w' → Stand w2 w' [aloneT ab A c l R X', raloneT bb D d l R X']) := fun w' hb => HSJ.out.new hb
        obtain ⟨⟨s0, s1, s2, s3, s4, s5, s6, sf⟩, tn⟩ := X'
        have hsn : ∀ w, (binOp .neq 40 (.agg #[.int .i64 s0, .int .i64 s1, .int .i64 s2, .int .i64 s3, .int .i64 s4, .int .i64 s5, .int .i64 s6, .bool sf]) (.agg #[.int .i64 s0, .int .i64 s1, .int .i64 s2, .int .i64 s3, .int .i64 s4, .int .i64 s5, .int .i64 s6, .bool sf])).run Tryd.prog w = .ok (.bool false) w := fun w => by
          have := state_neq ⟨s0, s1, s2, s3, s4, s5, s6, sf⟩ ⟨s0, s1, s2, s3, s4, s5, s6, sf⟩ w
          rw [stEq_refl] at this
          exact this
        unfold stV at HSA
        simp only [] at HSA HTA HSEE
        have HB : Hid (Below w12.heap.size w12 w12.drew) := (Below.refl _ _).drew
        clear HSJ
        go_region_held3 (fun w' => (w'.cell? ⟨bb, 2, none⟩ = some (.int .i64 s0) ∧ w'.cell? ⟨bb, 3, none⟩ = some (.int .i64 s1) ∧ w'.cell? ⟨bb, 4, none⟩ = some (.int .i64 s2) ∧ w'.cell? ⟨bb, 5, none⟩ = some (.int .i64 s3) ∧ w'.cell? ⟨bb, 6, none⟩ = some (.int .i64 s4) ∧ w'.cell? ⟨bb, 7, none⟩ = some (.int .i64 s5) ∧ w'.cell? ⟨bb, 8, none⟩ = some (.int .i64 s6) ∧ w'.cell? ⟨bb, 9, none⟩ = some (.bool sf) ∧ w'.cell? ⟨bb, 10, none⟩ = some (.int .i64 tn)))
          (exact HSEE.out _ HB.out)
          (first | (go_at_call 21; refine (HSA.out _ HB.out).mono ?_; rintro e w9 ⟨rfl, hb9⟩; replace HB := hid (HB.out.trans (hb9.mono HB.out.size)); clear hb9) | (go_at_call 20; refine (HTA.out _ HB.out).mono ?_; rintro e w9 ⟨rfl, rfl⟩))
        all_goals
          go_wp2_with fail
          go_roundw
          case rel => exact ⟨i + 1, _, by omega, by omega, by go_num, HOK'.out, HFIN.out _ HB.out⟩
          case measure => simp [intOf]; omega
      · have hex : i = nl ∨ ((i : Int) < (nl : Int) ∧ (80 : Int) ≤ (i : Int)) := by omega
        clear hin
        rcases hex with rfl | ⟨h1, h2⟩
        · go_wp2_with fail
          go_ret
          exact ⟨rfl, HBO.out⟩
        · have h4 : decide ((i : Int) < 80) = false := decide_eq_false (by omega)
          go_wp2_with fail
          go_ret
          exact ⟨rfl, HBO.out⟩
  · obtain ⟨E, hE, HBAD⟩ : ∃ E : Int, E ≠ 0 ∧ ((planChk m.pl = 0 ∧ E = 1 ∧ (r < 0 ∨ (0 ≤ r ∧ (nn : Int) ≤ r))) ∨ (planChk m.pl ≠ 0 ∧ E = planChk m.pl)) ∧ Hid (∀ w', Below w.heap.size w w' → Calls Tryd.prog 17 #[.agg #[.slice m.A nn m.c, .int .i64 m.ticks, .slice m.sA ns m.sc, .slice m.wA nw m.wc], .int .i64 r] w'
        fun e w'' => e = .returned (.tuple #[.pointer none, errV E]) ∧ Below w'.heap.size w' w'') := by
      have hnr := HNN.out
      have hns := HNS.out
      have hnw := HNW.out
      by_cases he : planChk m.pl = 0
      · refine ⟨1, by decide, .inl ⟨he, rfl, by omega⟩, fun w' hb => ?_⟩
        have h := aloneNew_range (HF.out.new hb) (HM.out.new hb) r he (by omega)
        rw [hnr, hns, hnw] at h
        exact h
      · refine ⟨_, he, .inr ⟨he, rfl⟩, fun w' hb => ?_⟩
        have h := aloneNew_bad (HF.out.new hb) (HM.out.new hb) r he
        rw [hnr, hns, hnw] at h
        exact h
    obtain ⟨hcase, HBAD⟩ := HBAD
    have HCS := hid hcase
    clear hok hcase
    obtain ⟨x0, x1, x2, x3, hlx⟩ := HXS.out _ HXB.out
    rcases HCS.out with ⟨he, rfl, h1 | ⟨h1, h2⟩⟩ | ⟨he, hE2⟩
    · rw [he]
      have hd1 : decide (r < 0) = true := decide_eq_true h1
      clear he HCS hE
      go_wp2_with fail
      refine (HBAD.out _ HB2.out).mono ?_
      rintro e w3 ⟨rfl, hb3⟩
      have HB3 := hid (HB2.out.trans (hb3.mono HB2.out.size))
      clear hb3 x0 x1 x2 x3 hlx
      go_wp2_with fail
      refine (error_same 1 w3 (HG.out.new HB3.out)).mono ?_
      rintro e w4 ⟨rfl, hb4⟩
      have HB4 := hid (HB3.out.trans (hb4.mono HB3.out.size))
      clear hb4
      go_wp2_with fail
      go_ret
      exact ⟨rfl, HB4.out⟩
    · rw [he]
      have h1' : ¬ r < 0 := by omega
      clear he HCS hE
      go_wp2_with fail
      refine (HBAD.out _ HB2.out).mono ?_
      rintro e w3 ⟨rfl, hb3⟩
      have HB3 := hid (HB2.out.trans (hb3.mono HB2.out.size))
      clear hb3 x0 x1 x2 x3 hlx
      go_wp2_with fail
      refine (error_same 1 w3 (HG.out.new HB3.out)).mono ?_
      rintro e w4 ⟨rfl, hb4⟩
      have HB4 := hid (HB3.out.trans (hb4.mono HB3.out.size))
      clear hb4
      go_wp2_with fail
      go_ret
      exact ⟨rfl, HB4.out⟩
    · rw [← hE2]
      have hd : (E == 0) = false := by simpa using hE
      have hd2 : (E != 0) = true := by simpa using hE
      clear he HCS hE2 hE
      go_wp2_with fail
      refine (HBAD.out _ HB2.out).mono ?_
      rintro e w3 ⟨rfl, hb3⟩
      have HB3 := hid (HB2.out.trans (hb3.mono HB2.out.size))
      clear hb3 x0 x1 x2 x3 hlx
      go_wp2_with fail
      refine (error_same E w3 (HG.out.new HB3.out)).mono ?_
      rintro e w4 ⟨rfl, hb4⟩
      have HB4 := hid (HB3.out.trans (hb4.mono HB3.out.size))
      clear hb4
      go_wp2_with fail
      go_ret
      exact ⟨rfl, HB4.out⟩
end Go.Proofs.YtongkiccglaniaaDoor
