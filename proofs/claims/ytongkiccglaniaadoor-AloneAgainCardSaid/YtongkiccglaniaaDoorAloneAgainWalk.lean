/- The walk of framelaw2.AloneAgain: it returns true at every input. -/
import Derived.Test.YtongkiccglaniaaDoorAloneBad
import Derived.Test.YtongkiccglaniaaDoorAloneNew
import Derived.Test.YtongkiccglaniaaDoorAloneCountsWalk
import Derived.Test.YtongkiccglaniaaDoorPurgeU
import Derived.Test.YtongkiccglaniaaDoorSameU
import Derived.Test.YtongkiccglaniaaDoorDoorU
import Derived.StillTailTactics
namespace Go.Proofs.YtongkiccglaniaaDoor
open Go.RowKit
set_option maxRecDepth 100000

/-- A step of a machine, right or not: what is told of it does not hang on where it lies. -/
theorem astep_any {l : List Op} {r : Int} {a : Ast} {B : Int} (hok : AOk l a B) (hB : B < 4611686018427387904) (got : Int) (is : Bool) :
    ∃ (tk rm pc wh out er : Int) (a' : Ast), AOk l a' (B + 1) ∧ (er = 0 ∨ er = 1) ∧ ∀ (w : World) (ab : Nat) (A : Option Addr) (c : Nat), AloneAt w ab A c l r a → Forms w →
      Calls Tryd.prog 19 #[.pointer (some ⟨ab, 0, none⟩), .int .i64 got, .bool is] w fun e w' => e = .returned (.tuple #[.agg #[.int .i64 tk, .int .i64 rm, .int .i64 pc, .int .i64 wh], .int .i64 out, errV er]) ∧ Went w w' (aloneT ab A c l r a) (aloneT ab A c l r a') := by
  obtain ⟨o, ho, _⟩ := hok.op
  by_cases hg : is = true ∧ cellB got = false
  · obtain ⟨rfl, hg⟩ := hg
    have hok' : AOk l a (B + 1) := ⟨hok.code, hok.st, hok.t0, by have := hok.tB; omega⟩
    refine ⟨0, 0, 0, 0, 0, 1, a, hok', .inr rfl, fun w ab A c h hf => (astep_bad h hf hok got hg).mono ?_⟩
    rintro e w' ⟨rfl, hb⟩
    exact ⟨rfl, Went.new h.lie hb⟩
  · have hg' : is = true → cellB got = true := fun h => by cases hc : cellB got with | true => rfl | false => exact absurd ⟨h, hc⟩ hg
    refine ⟨(aEv r a o is).tick, (aEv r a o is).room, (aEv r a o is).pc, (aEv r a o is).what, (stepDo l.length o a.st got is).2, 0, aGo l.length a o got is, hok.go ho hg', .inl rfl, fun w ab A c h hf => (astep_ok h hf hok hB ho got is hg').mono ?_⟩
    rintro e w' ⟨rfl, hw⟩
    exact ⟨by rw [errV_zero], hw⟩

/-- A room that takes, and one that rests. -/
def takePl : Pl := ⟨[[⟨9, 3, 0⟩], [⟨10, 0, 0⟩]], 1, [], [⟨1, 0, 1, 1⟩]⟩
def takePM (s : Nat) : PM := ⟨some ⟨s + 1 + 1, 0, none⟩, 2, [⟨some ⟨s, 0, none⟩, 1, [⟨9, 3, 0⟩]⟩, ⟨some ⟨s + 1, 0, none⟩, 1, [⟨10, 0, 0⟩]⟩], 1, none, 0, [], some ⟨s + 1 + 1 + 1, 0, none⟩, 1, [⟨1, 0, 1, 1⟩]⟩
theorem take_chk : planChk takePl = 0 := by decide
theorem take_pl (s : Nat) : (takePM s).pl = takePl := rfl
theorem take_plan {w : World} {s : Nat} (h0 : w.heap[s]? = some (.cells #[.int .i64 9, .int .i64 3, .int .i64 0] 45 (0, 0))) (h1 : w.heap[s + 1]? = some (.cells #[.int .i64 10, .int .i64 0, .int .i64 0] 45 (0, 0)))
    (h2 : w.heap[s + 1 + 1]? = some (.cells #[.slice (some ⟨s, 0, none⟩) 1 1, .slice (some ⟨s + 1, 0, none⟩) 1 1] 46 (0, 0))) (h3 : w.heap[s + 1 + 1 + 1]? = some (.cells #[.int .i64 1, .int .i64 0, .int .i64 1, .int .i64 1] 48 (0, 0))) : PlanAt w (takePM s) := by
  refine ⟨sl_blk h2 1 2 _ rfl rfl, lit_slW _ 2 (by omega), fun r hr => ?_, fits_lit (a := 1) (by decide), Sl.nil _ _ _, ⟨Nat.le_refl _, Nat.zero_le _, fun _ => ⟨rfl, rfl⟩⟩, fun y hy => by simp [takePM] at hy, sl_blk h3 4 1 _ rfl rfl, lit_slW _ 1 (by omega), fun y hy => ?_⟩
  · simp [takePM] at hr
    rcases hr with rfl | rfl
    · refine ⟨sl_blk h0 3 1 _ rfl rfl, lit_slW _ 1 (by omega), fun o ho => ?_⟩
      simp at ho; subst ho
      refine ⟨⟨?_, ?_⟩, ⟨?_, ?_⟩, ⟨?_, ?_⟩⟩ <;> decide
    · refine ⟨sl_blk h1 3 1 _ rfl rfl, lit_slW _ 1 (by omega), fun o ho => ?_⟩
      simp at ho; subst ho
      refine ⟨⟨?_, ?_⟩, ⟨?_, ?_⟩, ⟨?_, ?_⟩⟩ <;> decide
  · simp [takePM] at hy
    subst hy
    refine ⟨⟨?_, ?_⟩, ⟨?_, ?_⟩, ⟨?_, ?_⟩, ⟨?_, ?_⟩⟩ <;> decide
theorem take_new {w0 : World} (hf : Forms w0) (s : Nat) (hz : w0.heap.size = s) {w : World} (hw : w = (((w0.alloc (.cells #[.int .i64 9, .int .i64 3, .int .i64 0] 45)).alloc (.cells #[.int .i64 10, .int .i64 0, .int .i64 0] 45)).alloc (.cells #[.slice (some ⟨s, 0, none⟩) 1 1, .slice (some ⟨s + 1, 0, none⟩) 1 1] 46)).alloc (.cells #[.int .i64 1, .int .i64 0, .int .i64 1, .int .i64 1] 48)) :
    Calls Tryd.prog 17 #[.agg #[.slice (some ⟨s + 1 + 1, 0, none⟩) 2 2, .int .i64 1, .slice none 0 0, .slice (some ⟨s + 1 + 1 + 1, 0, none⟩) 1 1], .int .i64 0] w (ANew w [⟨9, 3, 0⟩] 0) ∧ Below w0.heap.size w0 w := by
  have hblk : w.heap[s]? = some (.cells #[.int .i64 9, .int .i64 3, .int .i64 0] 45 (0, 0)) ∧ w.heap[s + 1]? = some (.cells #[.int .i64 10, .int .i64 0, .int .i64 0] 45 (0, 0)) ∧ w.heap[s + 1 + 1]? = some (.cells #[.slice (some ⟨s, 0, none⟩) 1 1, .slice (some ⟨s + 1, 0, none⟩) 1 1] 46 (0, 0)) ∧ w.heap[s + 1 + 1 + 1]? = some (.cells #[.int .i64 1, .int .i64 0, .int .i64 1, .int .i64 1] 48 (0, 0)) := by
    rw [hw]
    simp only [hp_alloc, sz_alloc, hz]
    refine ⟨?_, ?_, ?_, ?_⟩
    all_goals (repeat (first | rw [if_pos True.intro] | rw [if_pos rfl] | rw [if_neg (by omega)]))
  have hb : Below w0.heap.size w0 w := by rw [hw]; exact ((((Below.refl _ _).alloc (Nat.le_refl _) _).alloc (by simp) _).alloc (by simp; omega) _).alloc (by simp; omega) _
  obtain ⟨k0, k1, k2, k3⟩ := hblk
  exact ⟨aloneNew_good (m := takePM s) (hf.new hb) (take_plan k0 k1 k2 k3) (by rw [take_pl]; exact take_chk) (r := 0) (l := [⟨9, 3, 0⟩]) rfl, hb⟩
theorem take_step {w0 wr : World} {ab c : Nat} {A : Option Addr} (h : Stand w0 wr [aloneT ab A c [⟨9, 3, 0⟩] 0 ⟨St.zero, 0⟩]) (hf : Forms wr) :
    Calls Tryd.prog 19 #[.pointer (some ⟨ab, 0, none⟩), .int .i64 9, .bool true] wr fun e w' => e = .returned (.tuple #[.agg #[.int .i64 0, .int .i64 0, .int .i64 0, .int .i64 2], .int .i64 (-1), .nilIface]) ∧ Stand w0 w' [aloneT ab A c [⟨9, 3, 0⟩] 0 ⟨⟨0, 0, 0, 0, 9, 0, 0, false⟩, 1⟩] := by
  refine (astep_ok (h.get (i := 0) rfl).here hf (aNew_ok (by decide)) (by omega) (o := ⟨9, 3, 0⟩) rfl 9 true (by decide)).mono ?_
  rintro e w' ⟨rfl, hw⟩
  exact ⟨rfl, h.go 0 rfl hw⟩

set_option maxHeartbeats 8000000 in
theorem aloneAgain_walk {w : World} (hg : Handle w) (hf : Forms w) (m : PM) (hm : PlanAt w m) (r : Int) (LA : Option Addr) (lc : Nat) (xs : List Int) (hs : Sl w LA 1 xs.length (ints xs)) (hsw : SlW LA lc xs.length) :
    Calls Tryd.prog 4 #[.agg #[.slice m.A m.ros.length m.c, .int .i64 m.ticks, .slice m.sA m.spans.length m.sc, .slice m.wA m.wires.length m.wc], .int .i64 r, .slice LA xs.length lc] w fun e w' => e = .returned (.bool true) ∧ Below w.heap.size w w' := by
  have HG := hid hg
  have HF := hid hf
  have HM := hid hm
  have HS := hid hs
  have hcap := hsw.1
  have hcap2 := hsw.2.1
  unfold maxLen at hcap2
  obtain ⟨nl, hnl⟩ : ∃ nl, xs.length = nl := ⟨_, rfl⟩
  rw [hnl] at hcap ⊢
  have HNL := hid hnl
  obtain ⟨w1, hw1⟩ : ∃ w1, w1 = w.alloc (.cells #[.slice m.A m.ros.length m.c, .int .i64 m.ticks, .slice m.sA m.spans.length m.sc, .slice m.wA m.wires.length m.wc] 31) := ⟨_, rfl⟩
  have hb1 : Below w.heap.size w w1 := by rw [hw1]; exact (Below.refl _ _).alloc (Nat.le_refl _) _
  have hbox : w1.heap[w.heap.size]? = some (.cells #[.slice m.A m.ros.length m.c, .int .i64 m.ticks, .slice m.sA m.spans.length m.sc, .slice m.wA m.wires.length m.wc] 31 (0, 0)) := by rw [hw1]; exact heap_alloc_new w _
  have hsz1 : w1.heap.size = w.heap.size + 1 := by rw [hw1]; simp
  obtain ⟨w2, hw2⟩ : ∃ w2, w2 = (((w1.alloc (.cells #[.int .i64 9, .int .i64 3, .int .i64 0] 45)).alloc (.cells #[.int .i64 10, .int .i64 0, .int .i64 0] 45)).alloc (.cells #[.slice (some ⟨w.heap.size + 1, 0, none⟩) 1 1, .slice (some ⟨w.heap.size + 1 + 1, 0, none⟩) 1 1] 46)).alloc (.cells #[.int .i64 1, .int .i64 0, .int .i64 1, .int .i64 1] 48) := ⟨_, rfl⟩
  obtain ⟨hnew, hb2⟩ := take_new (HF.out.new hb1) (w.heap.size + 1) hsz1 hw2
  unfold ANew at hnew
  obtain ⟨nn, hnn⟩ : ∃ nn, m.ros.length = nn := ⟨_, rfl⟩
  obtain ⟨ns, hns⟩ : ∃ ns, m.spans.length = ns := ⟨_, rfl⟩
  obtain ⟨nw, hnw⟩ : ∃ nw, m.wires.length = nw := ⟨_, rfl⟩
  rw [hnn, hns, hnw] at hw1 hbox ⊢
  have HNN := hid hnn
  have HNS := hid hns
  have HNW := hid hnw
  have HB2 := hid (hb1.trans (hb2.mono hb1.size))
  have HBX := hid ((hb2.block _ (blk_lt hbox)).trans hbox)
  have HNEW := hid hnew
  clear hg hf hm hs hsw hnl hb1 hbox hsz1 hb2 hnew hnn hns hnw
  go_enter Tryd.func4, Tryd.ntmps4
  go_wp2_with fail
  rw [← hw1, ← hw2]
  clear hw1 hw2
  refine HNEW.out.mono ?_
  rintro e w3 ⟨ob, OA, oc, rfl, hal, hfr, hb3⟩
  have HST := hid (ANew.stand hal hfr hb3)
  clear hal hfr hb3 HNEW
  go_wp2_with fail
  refine (take_step HST.out (HF.out.new (HB2.out.trans (HST.out.below.mono HB2.out.size)))).mono ?_
  rintro e w4 ⟨rfl, hst⟩
  have HST4 := hid (hst.lay #[.int .i64 0, .int .i64 0, .int .i64 0, .int .i64 2] 34)
  clear hst HST
  go_wp2_with fail
  refine (astate_any (HST4.out.get (i := 0) rfl).here).mono ?_
  rintro e w5 ⟨rfl, hb5⟩
  unfold stV
  simp only []
  have HST5 := hid ((HST4.out.new hb5).lay #[.int .i64 0, .int .i64 0, .int .i64 0, .int .i64 0, .int .i64 9, .int .i64 0, .int .i64 0, .bool false] 40)
  clear hb5 HST4
  go_upto_region 6 with fail
  have e1 : (w5.alloc (.cells #[.int .i64 0, .int .i64 0, .int .i64 0, .int .i64 0, .int .i64 9, .int .i64 0, .int .i64 0, .bool false] 40)).heap[w4.heap.size]? = some (.cells #[.int .i64 0, .int .i64 0, .int .i64 0, .int .i64 2] 34 (0, 0)) := (HST5.out.get (i := 1) rfl).here
  have e2 : (w5.alloc (.cells #[.int .i64 0, .int .i64 0, .int .i64 0, .int .i64 0, .int .i64 9, .int .i64 0, .int .i64 0, .bool false] 40)).heap[w5.heap.size]? = some (.cells #[.int .i64 0, .int .i64 0, .int .i64 0, .int .i64 0, .int .i64 9, .int .i64 0, .int .i64 0, .bool false] 40 (0, 0)) := (HST5.out.get (i := 2) rfl).here
  obtain ⟨w6, hw6⟩ : ∃ w6, w6 = w5.alloc (.cells #[.int .i64 0, .int .i64 0, .int .i64 0, .int .i64 0, .int .i64 9, .int .i64 0, .int .i64 0, .bool false] 40) := ⟨_, rfl⟩
  rw [← hw6] at HST5 e1 e2 ⊢
  clear hw6
  have htn := aturns_any (HST5.out.get (i := 0) rfl).here
  have HB6 := hid (HB2.out.trans (HST5.out.below.mono HB2.out.size))
  have hbx := (HST5.out.below.block _ (blk_lt HBX.out)).trans HBX.out
  have HX6 := hid hbx
  have x0 := blk_cell hbx 0
  have x1 := blk_cell hbx 1
  have x2 := blk_cell hbx 2
  have x3 := blk_cell hbx 3
  have hlx := blk_lt hbx
  have y3 := blk_cell e1 3
  have y4 := blk_cell e2 4
  have l1 := blk_lt e1
  have l2 := blk_lt e2
  simp at x0 x1 x2 x3 y3 y4
  clear e1 e2 hbx HST5 HB2 HBX
  go_wp2_with fail
  refine htn.mono ?_
  clear htn
  rintro e w7 ⟨rfl, rfl⟩
  clear y3 y4 l1 l2
  go_wp2_with fail
  by_cases hok : planChk m.pl = 0 ∧ 0 ≤ r ∧ r < nn
  · obtain ⟨he, hr0, hr1⟩ := hok
    obtain ⟨R, rfl⟩ : ∃ R : Nat, r = R := ⟨r.toNat, by omega⟩
    have hRl : R < m.pl.code.length := by simp only [PM.pl, List.length_map]; rw [HNN.out]; omega
    obtain ⟨l, hl⟩ : ∃ l, m.pl.code[R]? = some l := ⟨_, List.getElem?_eq_getElem hRl⟩
    have hcode := (planChk_ok he).codes l (List.mem_of_getElem? hl)
    have HN : Hid (∀ w', Below w.heap.size w w' → Calls Tryd.prog 17 #[.agg #[.slice m.A nn m.c, .int .i64 m.ticks, .slice m.sA ns m.sc, .slice m.wA nw m.wc], .int .i64 R] w' (ANew w' l R)) := fun w' hb => by
      have h := aloneNew_good (HF.out.new hb) (HM.out.new hb) he hl
      rw [HNN.out, HNS.out, HNW.out] at h
      exact h
    unfold ANew at HN
    have HCODE := hid hcode
    clear he hr0 hr1 hRl hl hcode
    refine (HN.out _ HB6.out).mono ?_
    rintro e w8 ⟨ab, A, c, rfl, hal, hfr, hb8⟩
    have HS8 := hid (ANew.stand hal hfr hb8)
    have hbx := (hb8.block _ hlx).trans HX6.out
    have HB8 := hid (HB6.out.trans (hb8.mono HB6.out.size))
    clear hal hfr hb8 x0 x1 x2 x3 hlx
    have x0 := blk_cell hbx 0
    have x1 := blk_cell hbx 1
    have x2 := blk_cell hbx 2
    have x3 := blk_cell hbx 3
    have hlx := blk_lt hbx
    simp at x0 x1 x2 x3
    clear hbx HX6
    go_wp2_with fail
    refine (HN.out _ HB8.out).mono ?_
    rintro e w9 ⟨bb, D, d, rfl, hal, hfr, hb9⟩
    have HS9 : Hid (Stand w6 w9 [aloneT ab A c l R ⟨St.zero, 0⟩, aloneT bb D d l R ⟨St.zero, 0⟩]) := HS8.out.add hb9 hal.lie (fun j hj => hfr j (.inl hj)) (fun j hj => .inl (hfr j hj))
    clear hal hfr hb9 x0 x1 x2 x3 hlx HS8 HB8 HN
    have HSL : Hid (∀ w', Below w6.heap.size w6 w' → ∀ i, i < nl → ∃ (b off : Nat) (x : Int), LA = some ⟨b, off, none⟩ ∧ xs[i]? = some x ∧ w'.cell? ⟨b, off + i, none⟩ = some (.int .i64 x) ∧ b < w'.heap.size) := fun w' hb i hi => by
      have hil : i < xs.length := by rw [HNL.out]; exact hi
      obtain ⟨b, off, hA, hlb, hx⟩ := HS.out.2 (by omega)
      have hbb := HB6.out.trans (hb.mono HB6.out.size)
      have hg := List.getElem?_eq_getElem hil
      exact ⟨b, off, _, hA, hg, (hbb.cell (p := ⟨b, off + i, none⟩) hlb).trans (hx i _ (by simp [ints, hg])), Nat.lt_of_lt_of_le hlb hbb.size⟩
    go_wp2_with fail
    go_loopw [16] (fun v16 wr => ∃ (i : Nat) (X : Ast), i ≤ nl ∧ i ≤ 80 ∧ v16 = .int .i64 i ∧ AOk l X i ∧ Stand w6 wr [aloneT ab A c l R X, aloneT bb D d l R X]) (fun v16 _ => nl - (intOf v16).toNat)
    case atStart => exact ⟨0, _, by omega, by omega, rfl, aNew_ok HCODE.out, HS9.out⟩
    case round =>
      obtain ⟨wo, rfl⟩ : ∃ wo : World, wo = wr := ⟨_, rfl⟩
      obtain ⟨i, X, hi, hi80, rfl, hok, hst⟩ := hrel
      have HSR := hid hst
      have HOK := hid hok
      clear hst hok
      by_cases hin : i < nl ∧ i < 80
      · obtain ⟨hin, hi8⟩ := hin
        have hi8' : (i : Int) < 80 := by omega
        obtain ⟨tk, rm, pc, wh, out, er, X', hok', her, hstep⟩ := astep_any (r := R) HOK.out (by omega) (xs.getD i 0) (decide (0 ≤ xs.getD i 0))
        obtain ⟨b, off, x, hA, hx, hcx, hlx⟩ := HSL.out wo HSR.out.below i hin
        have hgx : xs.getD i 0 = x := by rw [List.getD_eq_getElem?_getD, hx]; rfl
        rw [hgx] at hstep
        have HOK' := hid hok'
        have HSTEP := hid hstep
        have HCX : Hid (∀ w', Below w6.heap.size w6 w' → w'.cell? ⟨b, off + i, none⟩ = some (.int .i64 x) ∧ b < w'.heap.size) := fun w' hb => by
          obtain ⟨b', off', x', hA', hx', hc', hl'⟩ := HSL.out w' hb i hin
          rw [hA] at hA'
          cases hA'
          rw [hx] at hx'
          cases hx'
          exact ⟨hc', hl'⟩
        have hii : (i : Int) < (nl : Int) := by omega
        have hi0 : (0 : Int) ≤ (i : Int) := by omega
        subst hA
        clear hok' hstep hx hgx
        rcases her with rfl | rfl
        all_goals
          go_wp2_with fail
          refine (HSTEP.out _ _ _ _ (HSR.out.get (i := 0) rfl).here (HF.out.new (HB6.out.trans (HSR.out.below.mono HB6.out.size)))).mono ?_
          rintro e w10 ⟨rfl, hw⟩
          have HS10 : Hid (Stand w6 (w10.alloc (.cells #[.int .i64 tk, .int .i64 rm, .int .i64 pc, .int .i64 wh] 34)) [aloneT ab A c l R X', aloneT bb D d l R X, conT w10.heap.size (.cells #[.int .i64 tk, .int .i64 rm, .int .i64 pc, .int .i64 wh] 34)]) := (HSR.out.go 0 rfl hw).lay #[.int .i64 tk, .int .i64 rm, .int .i64 pc, .int .i64 wh] 34
          (first | rw [errV_zero] | rw [errV_pos (by decide)])
          clear hw hcx hlx
          go_upto_region 17 with fail
          obtain ⟨b18, hb18⟩ : ∃ b18, b18 = w10.heap.size := ⟨_, rfl⟩
          obtain ⟨w11, hw11⟩ : ∃ w11, w11 = w10.alloc (.cells #[.int .i64 tk, .int .i64 rm, .int .i64 pc, .int .i64 wh] 34) := ⟨_, rfl⟩
          rw [← hw11, ← hb18] at HS10 ⊢
          clear hw11 hb18
          go_wp2_with fail
          refine (astep_bad (HS10.out.get (i := 1) rfl).here (HF.out.new (HB6.out.trans (HS10.out.below.mono HB6.out.size))) HOK.out 1000 (by decide)).mono ?_
          rintro e w12 ⟨rfl, hb12⟩
          have HS12 : Hid (Stand w6 (w12.alloc (.cells #[.int .i64 0, .int .i64 0, .int .i64 0, .int .i64 0] 34)) [aloneT ab A c l R X', aloneT bb D d l R X, conT b18 (.cells #[.int .i64 tk, .int .i64 rm, .int .i64 pc, .int .i64 wh] 34), conT w12.heap.size (.cells #[.int .i64 0, .int .i64 0, .int .i64 0, .int .i64 0] 34)]) := (HS10.out.new hb12).lay #[.int .i64 0, .int .i64 0, .int .i64 0, .int .i64 0] 34
          rw [errV_pos (by decide)]
          clear hb12 HS10
          go_upto_region 18 with fail
          obtain ⟨b21, hb21⟩ : ∃ b21, b21 = w12.heap.size := ⟨_, rfl⟩
          obtain ⟨w13, hw13⟩ : ∃ w13, w13 = w12.alloc (.cells #[.int .i64 0, .int .i64 0, .int .i64 0, .int .i64 0] 34) := ⟨_, rfl⟩
          rw [← hw13, ← hb21] at HS12 ⊢
          clear hw13 hb21
          obtain ⟨hcx, hlx⟩ := HCX.out _ HS12.out.below
          go_wp2_with fail
          refine (HSTEP.out _ _ _ _ (HS12.out.get (i := 1) rfl).here (HF.out.new (HB6.out.trans (HS12.out.below.mono HB6.out.size)))).mono ?_
          rintro e w14 ⟨rfl, hw⟩
          have HS14 : Hid (Stand w6 (w14.alloc (.cells #[.int .i64 tk, .int .i64 rm, .int .i64 pc, .int .i64 wh] 34)) [aloneT ab A c l R X', aloneT bb D d l R X', conT b18 (.cells #[.int .i64 tk, .int .i64 rm, .int .i64 pc, .int .i64 wh] 34), conT b21 (.cells #[.int .i64 0, .int .i64 0, .int .i64 0, .int .i64 0] 34), conT w14.heap.size (.cells #[.int .i64 tk, .int .i64 rm, .int .i64 pc, .int .i64 wh] 34)]) := (HS12.out.go 1 rfl hw).lay #[.int .i64 tk, .int .i64 rm, .int .i64 pc, .int .i64 wh] 34
          (first | rw [errV_zero] | rw [errV_pos (by decide)])
          clear hw HS12 hcx hlx
          go_upto_region 19 with fail
          obtain ⟨b24, hb24⟩ : ∃ b24, b24 = w14.heap.size := ⟨_, rfl⟩
          obtain ⟨w15, hw15⟩ : ∃ w15, w15 = w14.alloc (.cells #[.int .i64 tk, .int .i64 rm, .int .i64 pc, .int .i64 wh] 34) := ⟨_, rfl⟩
          rw [← hw15, ← hb24] at HS14 ⊢
          clear hw15 hb24
          have e1 : w15.heap[b18]? = some (.cells #[.int .i64 tk, .int .i64 rm, .int .i64 pc, .int .i64 wh] 34 (0, 0)) := (HS14.out.get (i := 2) rfl).here
          have e2 : w15.heap[b24]? = some (.cells #[.int .i64 tk, .int .i64 rm, .int .i64 pc, .int .i64 wh] 34 (0, 0)) := (HS14.out.get (i := 4) rfl).here
          have HSEE : Hid (∀ w', Below w15.heap.size w15 w' → (w'.cell? ⟨b18, 0, none⟩ = some (.int .i64 tk) ∧ w'.cell? ⟨b18, 1, none⟩ = some (.int .i64 rm) ∧ w'.cell? ⟨b18, 2, none⟩ = some (.int .i64 pc) ∧ w'.cell? ⟨b18, 3, none⟩ = some (.int .i64 wh)) ∧ (w'.cell? ⟨b24, 0, none⟩ = some (.int .i64 tk) ∧ w'.cell? ⟨b24, 1, none⟩ = some (.int .i64 rm) ∧ w'.cell? ⟨b24, 2, none⟩ = some (.int .i64 pc) ∧ w'.cell? ⟨b24, 3, none⟩ = some (.int .i64 wh))) := fun w' hb => by
            have h1 := (hb.block _ (blk_lt e1)).trans e1
            have h2 := (hb.block _ (blk_lt e2)).trans e2
            exact ⟨⟨blk_cell h1 0, blk_cell h1 1, blk_cell h1 2, blk_cell h1 3⟩, blk_cell h2 0, blk_cell h2 1, blk_cell h2 2, blk_cell h2 3⟩
          have HERR : Hid (∀ w', Below w15.heap.size w15 w' → Calls Tryd.prog 22 #[.iface 125 (.int .i64 1), .int .i64 1] w' fun e w'' => e = .returned (.bool true) ∧ Below w'.heap.size w' w'') := fun w' hb => by
            have h := error_same 1 w' (HG.out.new (HB6.out.trans ((HS14.out.below.trans (hb.mono HS14.out.below.size)).mono HB6.out.size)))
            rw [errV_pos (by decide)] at h
            exact h
          have HSA : Hid (∀ w', Below w15.heap.size w15 w' → Calls Tryd.prog 21 #[.pointer (some ⟨ab, 0, none⟩)] w' fun e w'' => e = .returned (.agg (stV X'.st)) ∧ Below w'.heap.size w' w'') := fun w' hb => astate_any ((HS14.out.new hb).get (i := 0) rfl).here
          have HSB : Hid (∀ w', Below w15.heap.size w15 w' → Calls Tryd.prog 21 #[.pointer (some ⟨bb, 0, none⟩)] w' fun e w'' => e = .returned (.agg (stV X'.st)) ∧ Below w'.heap.size w' w'') := fun w' hb => astate_any ((HS14.out.new hb).get (i := 1) rfl).here
          have HTA : Hid (∀ w', Below w15.heap.size w15 w' → Calls Tryd.prog 20 #[.pointer (some ⟨ab, 0, none⟩)] w' fun e w'' => e = .returned (.int .i64 X'.turns) ∧ w' = w'') := fun w' hb => aturns_any ((HS14.out.new hb).get (i := 0) rfl).here
          have HTB : Hid (∀ w', Below w15.heap.size w15 w' → Calls Tryd.prog 20 #[.pointer (some ⟨bb, 0, none⟩)] w' fun e w'' => e = .returned (.int .i64 X'.turns) ∧ w' = w'') := fun w' hb => aturns_any ((HS14.out.new hb).get (i := 1) rfl).here
          have hne : ∀ w, (binOp .neq 34 (.agg #[.int .i64 tk, .int .i64 rm, .int .i64 pc, .int .i64 wh]) (.agg #[.int .i64 tk, .int .i64 rm, .int .i64 pc, .int .i64 wh])).run Tryd.prog w = .ok (.bool false) w := fun w => event_neq ⟨tk, rm, pc, wh⟩ w
          have hge := event_guard
          have hgs := state_guard
          have HS' : Hid (Stand w6 w15 [aloneT ab A c l R X', aloneT bb D d l R X']) := (HS14.out.few (ts := [aloneT ab A c l R X', aloneT bb D d l R X']) (us := [_, _, _]))
          obtain ⟨⟨s0, s1, s2, s3, s4, s5, s6, sf⟩, tn⟩ := X'
          have hsn : ∀ w, (binOp .neq 40 (.agg #[.int .i64 s0, .int .i64 s1, .int .i64 s2, .int .i64 s3, .int .i64 s4, .int .i64 s5, .int .i64 s6, .bool sf]) (.agg #[.int .i64 s0, .int .i64 s1, .int .i64 s2, .int .i64 s3, .int .i64 s4, .int .i64 s5, .int .i64 s6, .bool sf])).run Tryd.prog w = .ok (.bool false) w := fun w => by
            have := state_neq ⟨s0, s1, s2, s3, s4, s5, s6, sf⟩ ⟨s0, s1, s2, s3, s4, s5, s6, sf⟩ w
            rw [stEq_refl] at this
            exact this
          unfold stV at HSA HSB
          simp only [] at HSA HSB HTA HTB
          have HB : Hid (Below w15.heap.size w15 w15.drew) := (Below.refl _ _).drew
          clear e1 e2 HS14 HSTEP HSL
          go_region_held3 (fun w' => (w'.cell? ⟨b18, 0, none⟩ = some (.int .i64 tk) ∧ w'.cell? ⟨b18, 1, none⟩ = some (.int .i64 rm) ∧ w'.cell? ⟨b18, 2, none⟩ = some (.int .i64 pc) ∧ w'.cell? ⟨b18, 3, none⟩ = some (.int .i64 wh)) ∧ (w'.cell? ⟨b24, 0, none⟩ = some (.int .i64 tk) ∧ w'.cell? ⟨b24, 1, none⟩ = some (.int .i64 rm) ∧ w'.cell? ⟨b24, 2, none⟩ = some (.int .i64 pc) ∧ w'.cell? ⟨b24, 3, none⟩ = some (.int .i64 wh)))
            (exact HSEE.out _ HB.out)
            (first | (go_at_call 22; refine (HERR.out _ HB.out).mono ?_; rintro e w9 ⟨rfl, hb9⟩; replace HB := hid (HB.out.trans (hb9.mono HB.out.size)); clear hb9) | (go_at_call_of 21 (Value.pointer (some ⟨ab, 0, none⟩)); refine (HSA.out _ HB.out).mono ?_; rintro e w9 ⟨rfl, hb9⟩; replace HB := hid (HB.out.trans (hb9.mono HB.out.size)); clear hb9) | (go_at_call_of 21 (Value.pointer (some ⟨bb, 0, none⟩)); refine (HSB.out _ HB.out).mono ?_; rintro e w9 ⟨rfl, hb9⟩; replace HB := hid (HB.out.trans (hb9.mono HB.out.size)); clear hb9) | (go_at_call_of 20 (Value.pointer (some ⟨ab, 0, none⟩)); refine (HTA.out _ HB.out).mono ?_; rintro e w9 ⟨rfl, rfl⟩) | (go_at_call_of 20 (Value.pointer (some ⟨bb, 0, none⟩)); refine (HTB.out _ HB.out).mono ?_; rintro e w9 ⟨rfl, rfl⟩))
          go_wp2_with fail
          go_roundw
          case rel => exact ⟨i + 1, _, by omega, by omega, by go_num, HOK'.out, HS'.out.new HB.out⟩
          case measure => simp [intOf]; omega
      · have hex : i = nl ∨ ((i : Int) < (nl : Int) ∧ (80 : Int) ≤ (i : Int)) := by omega
        have HBE := hid (HB6.out.trans (HSR.out.below.mono HB6.out.size))
        clear hin
        rcases hex with rfl | ⟨h1, h2⟩
        · go_wp2_with fail
          go_ret
          exact ⟨rfl, HBE.out⟩
        · have h4 : decide ((i : Int) < 80) = false := decide_eq_false (by omega)
          go_wp2_with fail
          go_ret
          exact ⟨rfl, HBE.out⟩
  · obtain ⟨E, hE, HBAD⟩ : ∃ E : Int, E ≠ 0 ∧ Hid (∀ w', Below w.heap.size w w' → Calls Tryd.prog 17 #[.agg #[.slice m.A nn m.c, .int .i64 m.ticks, .slice m.sA ns m.sc, .slice m.wA nw m.wc], .int .i64 r] w'
        fun e w'' => e = .returned (.tuple #[.pointer none, .iface 125 (.int .i64 E)]) ∧ Below w'.heap.size w' w'') := by
      have hnr := HNN.out
      have hns := HNS.out
      have hnw := HNW.out
      by_cases he : planChk m.pl = 0
      · refine ⟨1, by decide, fun w' hb => ?_⟩
        have h := aloneNew_range (HF.out.new hb) (HM.out.new hb) r he (by omega)
        rw [hnr, hns, hnw, errV_pos (by decide)] at h
        exact h
      · refine ⟨_, he, fun w' hb => ?_⟩
        have h := aloneNew_bad (HF.out.new hb) (HM.out.new hb) r he
        rw [hnr, hns, hnw, errV_pos he] at h
        exact h
    clear hok
    refine (HBAD.out _ HB6.out).mono ?_
    rintro e w8 ⟨rfl, hb8⟩
    have hbx := (hb8.block _ hlx).trans HX6.out
    have HB8 := hid (HB6.out.trans (hb8.mono HB6.out.size))
    clear hb8 x0 x1 x2 x3 hlx
    have x0 := blk_cell hbx 0
    have x1 := blk_cell hbx 1
    have x2 := blk_cell hbx 2
    have x3 := blk_cell hbx 3
    have hlx := blk_lt hbx
    simp at x0 x1 x2 x3
    clear hbx HX6
    go_wp2_with fail
    refine (HBAD.out _ HB8.out).mono ?_
    rintro e w9 ⟨rfl, hb9⟩
    have HB9 := hid (HB8.out.trans (hb9.mono HB8.out.size))
    clear hb9 x0 x1 x2 x3 hlx
    go_wp2_with fail
    go_ret
    exact ⟨rfl, HB9.out⟩
end Go.Proofs.YtongkiccglaniaaDoor
