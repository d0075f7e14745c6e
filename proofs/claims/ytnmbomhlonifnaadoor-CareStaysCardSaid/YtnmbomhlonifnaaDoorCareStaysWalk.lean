/- The walk of framelaw2.CareStays: it returns true at every input. -/
import Derived.Test.YtnmbomhlonifnaaDoorCareNew
import Derived.Test.YtnmbomhlonifnaaDoorCareGet
import Derived.Test.YtnmbomhlonifnaaDoorPurgeU
import Derived.Test.YtnmbomhlonifnaaDoorSameU
import Derived.Test.YtnmbomhlonifnaaDoorRunU
namespace Go.Proofs.YtnmbomhlonifnaaDoor
open Go.RowKit
set_option maxRecDepth 100000

/-- A room that fails at once, helped once. -/
def failPl : Pl := ⟨[[⟨11, 0, 0⟩]], 1, [⟨0, 1, 0⟩], []⟩
theorem fail_chk : planChk failPl = 0 := by decide
theorem fail_careE : careE failPl [1] 1 = 0 := by decide
theorem fail_one : (careTick failPl [1] 1 (runC failPl [1] 1 0)).1.what = 4 := by decide
theorem fail_two : (careTick failPl [1] 1 (runC failPl [1] 1 1)).1.what = 4 := by decide
theorem fail_three : (careTick failPl [1] 1 (runC failPl [1] 1 2)).1.what = 5 := by decide
theorem fail_times : timesOf (runC failPl [1] 1 3) 0 = (1, 0) := by decide
theorem fail_plan {w : World} {s : Nat} (h1 : w.heap[s]? = some (.cells #[.int .i64 11, .int .i64 0, .int .i64 0] 23 (0, 0))) (h2 : w.heap[s + 1]? = some (.cells #[.slice (some ⟨s, 0, none⟩) 1 1] 24 (0, 0)))
    (h3 : w.heap[s + 1 + 1]? = some (.cells #[.int .i64 0, .int .i64 1, .int .i64 0] 27 (0, 0))) : PlanAt w (onePM s (s + 1) (s + 1 + 1) [⟨11, 0, 0⟩] 1 [⟨0, 1, 0⟩]) := by
  refine one_plan h1 h2 h3 (by decide) (by decide) (by decide) (fun o ho => ?_) (fun y hy => ?_)
  · simp at ho; subst ho
    refine ⟨⟨?_, ?_⟩, ⟨?_, ?_⟩, ⟨?_, ?_⟩⟩ <;> decide
  · simp at hy; subst hy
    refine ⟨⟨?_, ?_⟩, ⟨?_, ?_⟩, ⟨?_, ?_⟩⟩ <;> decide
/-- Of so many ticks: has none failed, all is as in the kernel without. -/
structure StaysOk (p : Pl) (what : List Int) (most : Int) (i : Nat) (f : Bool) : Prop where
  same : f = false → (runC p what most i).k = runK p i
  none : f = false → ∀ s ∈ (runK p i).rooms, s.failed = false
theorem stays_zero (p : Pl) (what : List Int) (most : Int) : StaysOk p what most 0 false := ⟨fun _ => rfl, fun _ s hs => by
  simp [runK, kNew] at hs
  obtain ⟨_, _, rfl⟩ := hs; rfl⟩
theorem stays_ev {p : Pl} {what : List Int} {most : Int} {i : Nat} (h : StaysOk p what most i false) : (careTick p what most (runC p what most i)).1 = (tick p (runK p i)).1 ∧ (runC p what most (i + 1)).k = (tick p (runK p i)).2 := by
  have h1 := h.same rfl
  have h2 := care_none (p := p) (what := what) (most := most) (c := runC p what most i) (by rw [h1]; exact h.none rfl)
  have h3 : careTick p what most (runC p what most i) = ((tick p (runK p i)).1, ⟨(tick p (runK p i)).2, (runC p what most i).times⟩) := by unfold careTick; rw [h2, h1]
  exact ⟨by rw [h3], by show (careTick p what most (runC p what most i)).2.k = _; rw [h3]⟩
theorem stays_next {p : Pl} (hp : PlOk p) {what : List Int} {most : Int} {i : Nat} {f : Bool} (h : StaysOk p what most i f) : StaysOk p what most (i + 1) (f || ((careTick p what most (runC p what most i)).1.what == 4)) := by
  cases f with
  | true => exact ⟨fun h => by simp at h, fun h => by simp at h⟩
  | false =>
    obtain ⟨e1, e2⟩ := stays_ev h
    refine ⟨fun _ => e2, fun hw => ?_⟩
    have hw' : (tick p (runK p i)).1.what ≠ 4 := by rw [e1] at hw; simpa using hw
    exact tick_nofail hp (runK_ok hp i) (h.none rfl) hw'
theorem state_of_get {k : Kst} {R : Nat} {s : St} (h : k.rooms[R]? = some s) : stateOf k (R : Int) = (s, 0) := by
  have hl := (List.getElem?_eq_some_iff.1 h).1
  unfold stateOf inB
  rw [if_pos (decide_eq_true (by omega)), Int.toNat_natCast, List.getD_eq_getElem?_getD, h]; rfl
theorem times_of_get {c : Cst} {R : Nat} {h : Int} (hh : c.times[R]? = some h) : timesOf c (R : Int) = (h, 0) := by
  have hl := (List.getElem?_eq_some_iff.1 hh).1
  unfold timesOf
  rw [if_pos (by omega), Int.toNat_natCast, List.getD_eq_getElem?_getD, hh]; rfl
/-- The first part of the law leaves what is older as it was. -/
theorem fail_new {w : World} (hf : Forms w) (s : Nat) (hz : w.heap.size = s) :
    Calls Tryd.prog 12 #[.agg #[.slice (some ⟨s + 1, 0, none⟩) 1 1, .int .i64 1, .slice (some ⟨s + 1 + 1, 0, none⟩) 1 1, .slice none 0 0], .slice (some ⟨s + 1 + 1 + 1, 0, none⟩) 1 1, .int .i64 1]
      ((((w.alloc (.cells #[.int .i64 11, .int .i64 0, .int .i64 0] 23)).alloc (.cells #[.slice (some ⟨s, 0, none⟩) 1 1] 24)).alloc (.cells #[.int .i64 0, .int .i64 1, .int .i64 0] 27)).alloc (.cells #[.int .i64 1] 3)) (CMade w failPl [1] 1) := by
  obtain ⟨w4, hw4⟩ : ∃ w4, w4 = ((((w.alloc (.cells #[.int .i64 11, .int .i64 0, .int .i64 0] 23)).alloc (.cells #[.slice (some ⟨s, 0, none⟩) 1 1] 24)).alloc (.cells #[.int .i64 0, .int .i64 1, .int .i64 0] 27)).alloc (.cells #[.int .i64 1] 3)) := ⟨_, rfl⟩
  have hblk : w4.heap[s]? = some (.cells #[.int .i64 11, .int .i64 0, .int .i64 0] 23 (0, 0)) ∧ w4.heap[s + 1]? = some (.cells #[.slice (some ⟨s, 0, none⟩) 1 1] 24 (0, 0)) ∧ w4.heap[s + 1 + 1]? = some (.cells #[.int .i64 0, .int .i64 1, .int .i64 0] 27 (0, 0)) ∧ w4.heap[s + 1 + 1 + 1]? = some (.cells #[.int .i64 1] 3 (0, 0)) := by
    rw [hw4]
    simp only [hp_alloc, sz_alloc, hz]
    refine ⟨?_, ?_, ?_, ?_⟩
    all_goals (repeat (first | rw [if_pos True.intro] | rw [if_pos rfl] | rw [if_neg (by omega)]))
  have hb : Below w.heap.size w w4 := by rw [hw4]; exact ((((Below.refl _ _).alloc (Nat.le_refl _) _).alloc (by simp) _).alloc (by simp; omega) _).alloc (by simp; omega) _
  obtain ⟨b0, b1, b2, b3⟩ := hblk
  rw [← hw4]
  refine (careNew_good (m := onePM s (s + 1) (s + 1 + 1) [⟨11, 0, 0⟩] 1 [⟨0, 1, 0⟩]) (what := [1]) (c := 1) (most := 1) (hf.new hb) (fail_plan b0 b1 b2) (sl_blk b3 1 1 _ rfl rfl) (lit_slW _ 1 (by decide)) fail_careE).mono ?_
  rintro e w' ⟨cb, C, he, hst, hF⟩
  exact ⟨cb, C, he, hst.base hb, fun j hj => Nat.le_trans hb.size (hF j hj)⟩
theorem fail_tick {w wr : World} {cb : Nat} {C : CM} {i : Nat} {ts : List Tg} (h : Stand w wr (careT cb failPl [1] 1 C (runC failPl [1] 1 i) :: ts)) (hi : i ≤ 3) :
    Calls Tryd.prog 13 #[.pointer (some ⟨cb, 0, none⟩)] wr fun e w' => ∃ (a b c : Int) (C' : CM), e = .returned (.agg #[.int .i64 a, .int .i64 b, .int .i64 c, .int .i64 (careTick failPl [1] 1 (runC failPl [1] 1 i)).1.what]) ∧ Stand w w' (careT cb failPl [1] 1 C' (runC failPl [1] 1 (i + 1)) :: ts) := by
  refine (ctick_any (planChk_ok fail_chk) (runC_ok (planChk_ok fail_chk) (by decide) i) (by omega) (by decide) (by decide) (h.get (i := 0) rfl).here).mono ?_
  rintro e w' ⟨C', rfl, hw⟩
  exact ⟨_, _, _, C', rfl, h.go 0 rfl hw⟩
/-- A new block that is only read. -/
theorem Stand.box {w wr : World} {ts : List Tg} (h : Stand w wr ts) (cs : Array Value) (T : Nat) : Stand w (wr.alloc (.cells cs T)) (ts ++ [conT wr.heap.size (.cells cs T)]) :=
  h.add ((Below.refl _ _).alloc (Nat.le_refl _) _) (con_lie (heap_alloc_new wr _)) (fun _ hj => hj.elim) fun j hj => .inl (by have : j = wr.heap.size := hj; omega)
set_option maxHeartbeats 8000000 in
theorem careStays_walk {w : World} (hf : Forms w) (m : PM) (hm : PlanAt w m) (A : Option Addr) (c : Nat) (what : List Int) (hs : Sl w A 1 what.length (ints what)) (hsw : SlW A c what.length) (most n r : Int) :
    Calls Tryd.prog 4 #[.agg #[.slice m.A m.ros.length m.c, .int .i64 m.ticks, .slice m.sA m.spans.length m.sc, .slice m.wA m.wires.length m.wc], .slice A what.length c, .int .i64 most, .int .i64 n, .int .i64 r] w fun e w' => e = .returned (.bool true) ∧ Below w.heap.size w w' := by
  have HF := hid hf
  have HM := hid hm
  have HS := hid hs
  have HSW := hid hsw
  obtain ⟨nl, hnl⟩ : ∃ nl, what.length = nl := ⟨_, rfl⟩
  have HNL := hid hnl
  obtain ⟨w1, hw1⟩ : ∃ w1, w1 = w.alloc (.cells #[.slice m.A m.ros.length m.c, .int .i64 m.ticks, .slice m.sA m.spans.length m.sc, .slice m.wA m.wires.length m.wc] 31) := ⟨_, rfl⟩
  have hb1 : Below w.heap.size w w1 := by rw [hw1]; exact (Below.refl _ _).alloc (Nat.le_refl _) _
  have hbox : w1.heap[w.heap.size]? = some (.cells #[.slice m.A m.ros.length m.c, .int .i64 m.ticks, .slice m.sA m.spans.length m.sc, .slice m.wA m.wires.length m.wc] 31 (0, 0)) := by rw [hw1]; exact heap_alloc_new w _
  have hsz1 : w1.heap.size = w.heap.size + 1 := by rw [hw1]; simp
  have hnew1 := fail_new (HF.out.new hb1) (w.heap.size + 1) hsz1
  unfold CMade at hnew1
  have HN1 := hid hnew1
  obtain ⟨nn, hnn⟩ : ∃ nn, m.ros.length = nn := ⟨_, rfl⟩
  obtain ⟨ns, hns⟩ : ∃ ns, m.spans.length = ns := ⟨_, rfl⟩
  obtain ⟨nw, hnw⟩ : ∃ nw, m.wires.length = nw := ⟨_, rfl⟩
  rw [hnn, hns, hnw] at hw1 hbox ⊢
  rw [hnl]
  have HNN := hid hnn
  have HNS := hid hns
  have HNW := hid hnw
  have HB1 := hid hb1
  have HBX := hid hbox
  clear hf hm hs hsw hnl hb1 hbox hnew1 hnn hns hnw
  go_enter Tryd.func4, Tryd.ntmps4
  go_wp2_with fail
  rw [← hw1]
  refine HN1.out.mono ?_
  rintro e w2 ⟨ob, CO, rfl, hst, _⟩
  have HST := hid hst
  clear hst HN1 hw1
  go_wp2_with fail
  refine (fail_tick (i := 0) HST.out (by omega)).mono ?_
  rw [fail_one]
  rintro e w3 ⟨a1, a2, a3, CO1, rfl, hst⟩
  have HST3 := hid (hst.box #[.int .i64 a1, .int .i64 a2, .int .i64 a3, .int .i64 4] 39)
  clear hst HST
  go_wp2_with fail
  refine (fail_tick (i := 1) HST3.out (by omega)).mono ?_
  rw [fail_two]
  rintro e w5 ⟨b1, b2, b3, CO2, rfl, hst⟩
  have HST5 := hid (hst.box #[.int .i64 b1, .int .i64 b2, .int .i64 b3, .int .i64 4] 39)
  clear hst HST3
  go_wp2_with fail
  refine (fail_tick (i := 2) HST5.out (by omega)).mono ?_
  rw [fail_three]
  rintro e w6 ⟨c1, c2, c3, CO3, rfl, hst⟩
  have HST6 := hid (hst.box #[.int .i64 c1, .int .i64 c2, .int .i64 c3, .int .i64 5] 39)
  clear hst HST5
  go_wp2_with fail
  have htm := ctimes_any (HST6.out.get (i := 0) rfl).here 0
  rw [fail_times] at htm
  simp only [errV_zero] at htm
  refine htm.mono ?_
  clear htm
  rintro e w7 ⟨rfl, rfl⟩
  have e1 : (w6.alloc (.cells #[.int .i64 c1, .int .i64 c2, .int .i64 c3, .int .i64 5] 39)).heap[w3.heap.size]? = some (.cells #[.int .i64 a1, .int .i64 a2, .int .i64 a3, .int .i64 4] 39 (0, 0)) := (HST6.out.get (i := 1) rfl).here
  have e2 : (w6.alloc (.cells #[.int .i64 c1, .int .i64 c2, .int .i64 c3, .int .i64 5] 39)).heap[w5.heap.size]? = some (.cells #[.int .i64 b1, .int .i64 b2, .int .i64 b3, .int .i64 4] 39 (0, 0)) := (HST6.out.get (i := 2) rfl).here
  have e3 : (w6.alloc (.cells #[.int .i64 c1, .int .i64 c2, .int .i64 c3, .int .i64 5] 39)).heap[w6.heap.size]? = some (.cells #[.int .i64 c1, .int .i64 c2, .int .i64 c3, .int .i64 5] 39 (0, 0)) := (HST6.out.get (i := 3) rfl).here
  obtain ⟨w7, hw7⟩ : ∃ w7, w7 = w6.alloc (.cells #[.int .i64 c1, .int .i64 c2, .int .i64 c3, .int .i64 5] 39) := ⟨_, rfl⟩
  rw [← hw7] at e1 e2 e3
  have HB7 : Hid (Below w.heap.size w w7) := by rw [hw7]; exact HB1.out.trans (HST6.out.below.mono HB1.out.size)
  have hbx : w7.heap[w.heap.size]? = some (.cells #[.slice m.A nn m.c, .int .i64 m.ticks, .slice m.sA ns m.sc, .slice m.wA nw m.wc] 31 (0, 0)) := by rw [hw7]; exact (HST6.out.below.block _ (blk_lt HBX.out)).trans HBX.out
  rw [← hw7]
  clear hw7 HST6
  have y1 := blk_cell e1 3
  have y2 := blk_cell e2 3
  have y3 := blk_cell e3 3
  have l1 := blk_lt e1
  have l2 := blk_lt e2
  have l3 := blk_lt e3
  have HX7 := hid hbx
  have x0 := blk_cell hbx 0
  have x1 := blk_cell hbx 1
  have x2 := blk_cell hbx 2
  have x3 := blk_cell hbx 3
  have hlx := blk_lt hbx
  simp at x0 x1 x2 x3 y1 y2 y3
  clear e1 e2 e3 hbx
  go_wp2_with fail
  have HW7 := hid (HF.out.new HB7.out)
  by_cases he : careE m.pl what most = 0
  · obtain ⟨he0, hwl, hbd, hm0, hm1⟩ := careE_zero he
    have hnew := careNew_good (A := A) (c := c) (HF.out.new HB7.out) (HM.out.new HB7.out) (HS.out.new HB7.out) HSW.out he
    unfold CMade at hnew
    rw [HNN.out, HNS.out, HNW.out, HNL.out] at hnew
    have HE0 := hid he0
    have HWL := hid hwl
    have HBD := hid hbd
    have HPO := hid (planChk_ok he0)
    have hlc : m.pl.code.length = nn := by rw [← HNN.out]; simp [PM.pl]
    have hln : nl = nn := by rw [← HNL.out, hwl, hlc]
    have HLC := hid hlc
    have hn5 : nn ≤ 5 := by have := HPO.out.most5; omega
    subst hln
    clear he he0 hwl hbd hlc
    refine hnew.mono ?_
    clear hnew
    rintro e w8 ⟨cb, C, rfl, hst, _⟩
    have HST8 := hid hst
    have hb8 := hst.below
    have hbx := (hb8.block _ hlx).trans HX7.out
    have HX8 := hid hbx
    have HB8 := hid (HB7.out.trans (hb8.mono HB7.out.size))
    clear hst x0 x1 x2 x3 hlx y1 y2 y3 l1 l2 l3 HX7 hb8
    have x0 := blk_cell hbx 0
    have x1 := blk_cell hbx 1
    have x2 := blk_cell hbx 2
    have x3 := blk_cell hbx 3
    have hlx := blk_lt hbx
    simp at x0 x1 x2 x3
    clear hbx
    have hk := new_run w8 m (HF.out.new HB8.out) (HM.out.new HB8.out) HE0.out
    unfold KNew at hk
    rw [HNN.out, HNS.out, HNW.out] at hk
    go_wp2_with fail
    refine hk.mono ?_
    clear hk
    rintro e w9 ⟨kb, M, rfl, hr9⟩
    have hst9 := HST8.out.add (t := kT 111 163 115 kb m.pl M (runK m.pl 0)) hr9.below (k_lie hr9.kat hr9.plan) (fun j hj => hr9.fresh j (.inl hj)) (fun j hj => .inl (hr9.fresh j hj))
    have HST9 := hid hst9
    have hbx := (hr9.below.block _ hlx).trans HX8.out
    have HX9 := hid hbx
    have HB9 := hid (HB8.out.trans (hr9.below.mono HB8.out.size))
    clear hr9 hst9 x0 x1 x2 x3 hlx HST8 HX8
    have x0 := blk_cell hbx 0
    have x1 := blk_cell hbx 1
    have x2 := blk_cell hbx 2
    have x3 := blk_cell hbx 3
    have hlx := blk_lt hbx
    simp at x0 x1 x2 x3
    clear hbx
    go_wp2_with fail
    by_cases hin : 0 ≤ r ∧ r < nl
    · obtain ⟨R, rfl⟩ : ∃ R : Nat, r = R := ⟨r.toNat, by omega⟩
      have hRn : R < nl := by omega
      have hpg := purge_good w9 m R (HF.out.new HB9.out) (HM.out.new HB9.out) HE0.out (by rw [HNN.out]; exact hRn)
      unfold Purged at hpg
      rw [HNN.out, HNS.out, HNW.out] at hpg
      clear hin
      refine hpg.mono ?_
      clear hpg
      rintro e w10 ⟨m', rfl, hm', hpl', _, hb10⟩
      have HST10 := hid ((HST9.out.new hb10).new ((Below.refl _ _).alloc (Nat.le_refl _) (.cells #[.slice m'.A m'.ros.length m'.c, .int .i64 m'.ticks, .slice m'.sA m'.spans.length m'.sc, .slice m'.wA m'.wires.length m'.wc] 31)))
      have hb10a : Below w9.heap.size w9 (w10.alloc (.cells #[.slice m'.A m'.ros.length m'.c, .int .i64 m'.ticks, .slice m'.sA m'.spans.length m'.sc, .slice m'.wA m'.wires.length m'.wc] 31)) := hb10.alloc hb10.size _
      have hbx := (hb10a.block _ hlx).trans HX9.out
      have HB10 := hid (HB9.out.trans (hb10a.mono HB9.out.size))
      have HM' := hid (hm'.new ((Below.refl _ _).alloc (Nat.le_refl _) (.cells #[.slice m'.A m'.ros.length m'.c, .int .i64 m'.ticks, .slice m'.sA m'.spans.length m'.sc, .slice m'.wA m'.wires.length m'.wc] 31)))
      have HPL' := hid hpl'
      have hqx := heap_alloc_new w10 (.cells #[.slice m'.A m'.ros.length m'.c, .int .i64 m'.ticks, .slice m'.sA m'.spans.length m'.sc, .slice m'.wA m'.wires.length m'.wc] 31)
      obtain ⟨nn', hnn'⟩ : ∃ nn', m'.ros.length = nn' := ⟨_, rfl⟩
      obtain ⟨ns', hns'⟩ : ∃ ns', m'.spans.length = ns' := ⟨_, rfl⟩
      obtain ⟨nw', hnw'⟩ : ∃ nw', m'.wires.length = nw' := ⟨_, rfl⟩
      have HNN' := hid hnn'
      have HNS' := hid hns'
      have HNW' := hid hnw'
      rw [hnn', hns', hnw'] at hqx HST10 HB10 HM' hbx ⊢
      obtain ⟨w11, hw11⟩ : ∃ w11, w11 = w10.alloc (.cells #[.slice m'.A nn' m'.c, .int .i64 m'.ticks, .slice m'.sA ns' m'.sc, .slice m'.wA nw' m'.wc] 31) := ⟨_, rfl⟩
      rw [← hw11] at hqx HST10 HB10 HM' hbx
      have he' : careE m'.pl what most = 0 := by
        rw [hpl']
        unfold careE
        rw [if_neg (fun e => e (purge_chk HE0.out R)), purge_len, if_neg (fun e => e HWL.out), if_neg (fun h => by rw [HBD.out] at h; simp at h; omega)]
      have hnew := careNew_good (A := A) (c := c) (HF.out.new HB10.out) HM'.out (HS.out.new HB10.out) HSW.out he'
      unfold CMade at hnew
      rw [HNN'.out, HNS'.out, HNW'.out, HNL.out, HPL'.out] at hnew
      have HNEW := hid hnew
      have HX11 := hid hbx
      clear hnew he' hb10 hb10a hm' hpl' HX9 HST9 x0 x1 x2 x3 hlx hnn' hns' hnw'
      have z0 := blk_cell hqx 0
      have z1 := blk_cell hqx 1
      have z2 := blk_cell hqx 2
      have z3 := blk_cell hqx 3
      have hlz := blk_lt hqx
      simp at z0 z1 z2 z3
      have x0 := blk_cell hbx 0
      have hlx := blk_lt hbx
      simp at x0
      clear hqx hbx
      go_wp2_with fail
      rw [← hw11]
      clear hw11
      refine HNEW.out.mono ?_
      rintro e w12 ⟨db, D, rfl, hst, hDF⟩
      have hst12 := HST10.out.add (t := careT db (purgePl m.pl R) what most D (careNew (purgePl m.pl R))) hst.below (hst.get (i := 0) rfl) (fun j hj => hst.fresh _ (List.mem_singleton.2 rfl) j hj) (fun j hj => .inl (hDF j hj))
      have HST12 : Hid (Stand w7 w12 [careT cb m.pl what most C (runC m.pl what most 0), kT 111 163 115 kb m.pl M (runK m.pl 0), careT db (purgePl m.pl R) what most D (runC (purgePl m.pl R) what most 0)]) := hst12
      have hbx := (hst.below.block _ hlx).trans HX11.out
      clear hst hst12 hDF HST10 HNEW HX11 x0 hlx z0 z1 z2 z3 hlz
      have x0 := blk_cell hbx 0
      have hlx := blk_lt hbx
      simp at x0
      clear hbx
      go_wp2_with fail
      go_loopw [25, 26] (fun v25 v26 wr => ∃ (i : Nat) (f : Bool) (C : CM) (M : KM) (D : CM), v25 = .bool f ∧ v26 = .int .i64 i ∧ i ≤ 120 ∧ StaysOk m.pl what most i f ∧
        Stand w7 wr [careT cb m.pl what most C (runC m.pl what most i), kT 111 163 115 kb m.pl M (runK m.pl i), careT db (purgePl m.pl R) what most D (runC (purgePl m.pl R) what most i)]) (fun _ v26 _ => 120 - (intOf v26).toNat)
      case atStart => exact ⟨0, false, C, M, D, rfl, rfl, by omega, stays_zero _ _ _, HST12.out⟩
      case round =>
        obtain ⟨wo, rfl⟩ : ∃ wo : World, wo = wr := ⟨_, rfl⟩
        obtain ⟨i, f, C, M, D, rfl, rfl, hi, hso, hst⟩ := hrel
        have HSO := hid hso
        have HST := hid hst
        have HPQ := hid (purge_ok HPO.out R)
        have HBO := hid (HB7.out.trans (hst.below.mono HB7.out.size))
        clear hso hst HST12 x0 hlx
        by_cases hin : (i : Int) < n
        · by_cases h120 : i < 120
          · have h120' : (i : Int) < 120 := by omega
            go_wp2_with fail
            refine (ctick_any HPO.out (runC_ok HPO.out hm0 i) (by omega) HWL.out hm1 (HST.out.get (i := 0) rfl).here).mono ?_
            rintro e w13 ⟨C', rfl, hw⟩
            have hst13 : Stand w7 w13 [careT cb m.pl what most C' (runC m.pl what most (i + 1)), kT 111 163 115 kb m.pl M (runK m.pl i), careT db (purgePl m.pl R) what most D (runC (purgePl m.pl R) what most i)] := HST.out.go 0 rfl hw
            obtain ⟨x, hx⟩ : ∃ x, x = (careTick m.pl what most (runC m.pl what most i)).1 := ⟨_, rfl⟩
            rw [← hx]
            have HX := hid hx
            obtain ⟨xt, xr, xp, xw⟩ := x
            simp only []
            have HST13 := hid (hst13.box #[.int .i64 xt, .int .i64 xr, .int .i64 xp, .int .i64 xw] 39)
            clear hw hst13 hx HST
            go_wp2_with fail
            have hkk := (HST13.out.get (i := 1) rfl).here
            refine (ktick_any _ kb M (runK m.pl i) m.pl i HPO.out hkk.2 (runK_ok HPO.out i) (by omega) hkk.1).mono ?_
            clear hkk
            rintro e w14 ⟨M', rfl, h1, h2, h3, h4⟩
            have hst14 : Stand w7 w14 [careT cb m.pl what most C' (runC m.pl what most (i + 1)), kT 111 163 115 kb m.pl M' (runK m.pl (i + 1)), careT db (purgePl m.pl R) what most D (runC (purgePl m.pl R) what most i), conT w13.heap.size (.cells #[.int .i64 xt, .int .i64 xr, .int .i64 xp, .int .i64 xw] 39 (0, 0))] :=
              HST13.out.go 1 rfl (k_went (HST13.out.get (i := 1) rfl) h1 h2 h3 h4)
            obtain ⟨y, hy⟩ : ∃ y, y = (tick m.pl (runK m.pl i)).1 := ⟨_, rfl⟩
            rw [← hy]
            have HY := hid hy
            obtain ⟨yt, yr, yp, yw⟩ := y
            simp only []
            have HST14 := hid (hst14.box #[.int .i64 yt, .int .i64 yr, .int .i64 yp, .int .i64 yw] 39)
            clear hst14 hy HST13 h1 h2 h3 h4
            go_wp2_with fail
            refine (ctick_any HPQ.out (runC_ok HPQ.out hm0 i) (by omega) (by rw [purge_len]; exact HWL.out) hm1 (HST14.out.get (i := 2) rfl).here).mono ?_
            rintro e w15 ⟨D', rfl, hw⟩
            have HST15 : Hid (Stand w7 w15 [careT cb m.pl what most C' (runC m.pl what most (i + 1)), kT 111 163 115 kb m.pl M' (runK m.pl (i + 1)), careT db (purgePl m.pl R) what most D' (runC (purgePl m.pl R) what most (i + 1)), conT w13.heap.size (.cells #[.int .i64 xt, .int .i64 xr, .int .i64 xp, .int .i64 xw] 39 (0, 0)), conT w14.heap.size (.cells #[.int .i64 yt, .int .i64 yr, .int .i64 yp, .int .i64 yw] 39 (0, 0))]) := HST14.out.go 2 rfl hw
            have ex : w15.heap[w13.heap.size]? = some (.cells #[.int .i64 xt, .int .i64 xr, .int .i64 xp, .int .i64 xw] 39 (0, 0)) := (HST15.out.get (i := 3) rfl).here
            have ey : w15.heap[w14.heap.size]? = some (.cells #[.int .i64 yt, .int .i64 yr, .int .i64 yp, .int .i64 yw] 39 (0, 0)) := (HST15.out.get (i := 4) rfl).here
            have xx0 := blk_cell ex 0
            have xx1 := blk_cell ex 1
            have xx2 := blk_cell ex 2
            have xx3 := blk_cell ex 3
            have hlx := blk_lt ex
            have yy0 := blk_cell ey 0
            have yy1 := blk_cell ey 1
            have yy2 := blk_cell ey 2
            have yy3 := blk_cell ey 3
            have hly := blk_lt ey
            simp at xx0 xx1 xx2 xx3 yy0 yy1 yy2 yy3
            clear hw HST14 ex ey
            have hkey : f = true ∨ (f = false ∧ (xw == 4) = true) ∨ (f = false ∧ (xw == 4) = false ∧ yt = xt ∧ yr = xr ∧ yp = xp ∧ yw = xw) := by
              cases f with
              | true => exact .inl rfl
              | false =>
                cases h4 : (xw == 4) with
                | true => exact .inr (.inl ⟨rfl, rfl⟩)
                | false =>
                  have h5 := (stays_ev HSO.out).1
                  rw [← HX.out, ← HY.out] at h5
                  injection h5 with q1 q2 q3 q4
                  exact .inr (.inr ⟨rfl, rfl, q1.symm, q2.symm, q3.symm, q4.symm⟩)
            have hsn := stays_next HPO.out HSO.out
            rw [← HX.out] at hsn
            have HSN := hid hsn
            have hok1 := runC_ok (what := what) HPO.out hm0 (i + 1)
            have hok2 := runC_ok (what := what) HPQ.out hm0 (i + 1)
            have hal := care_purge (what := what) HPO.out hm0 R (i + 1)
            obtain ⟨s, hs⟩ : ∃ s, (runC m.pl what most (i + 1)).k.rooms[R]? = some s := ⟨_, List.getElem?_eq_getElem (by rw [hok1.k.rooms, HLC.out]; exact hRn)⟩
            have hs2 : (runC (purgePl m.pl R) what most (i + 1)).k.rooms[R]? = some s := by rw [← hal.k.rooms R (ahd_self _ _)]; exact hs
            obtain ⟨h, hh⟩ : ∃ h, (runC m.pl what most (i + 1)).times[R]? = some h := ⟨_, List.getElem?_eq_getElem (by rw [hok1.many, HLC.out]; exact hRn)⟩
            have hh2 : (runC (purgePl m.pl R) what most (i + 1)).times[R]? = some h := by rw [← hal.times R (ahd_self _ _)]; exact hh
            have HC1 : Hid (∀ w', CareAt w' cb m.pl what most C' (runC m.pl what most (i + 1)) → Calls Tryd.prog 14 #[.pointer (some ⟨cb, 0, none⟩), .int .i64 R] w' (StateV w' (s, 0))) := fun w' hc => by
              have := cstate_any HPO.out hok1 hc R
              rw [state_of_get hs] at this; exact this
            have HC2 : Hid (∀ w', CareAt w' db (purgePl m.pl R) what most D' (runC (purgePl m.pl R) what most (i + 1)) → Calls Tryd.prog 14 #[.pointer (some ⟨db, 0, none⟩), .int .i64 R] w' (StateV w' (s, 0))) := fun w' hc => by
              have := cstate_any HPQ.out hok2 hc R
              rw [state_of_get hs2] at this; exact this
            have HT1 : Hid (∀ w', CareAt w' cb m.pl what most C' (runC m.pl what most (i + 1)) → Calls Tryd.prog 15 #[.pointer (some ⟨cb, 0, none⟩), .int .i64 R] w' fun e w'' => e = .returned (.tuple #[.int .i64 h, .nilIface]) ∧ w' = w'') := fun w' hc => by
              have := ctimes_any hc R
              rw [times_of_get hh] at this
              simp only [errV_zero] at this; exact this
            have HT2 : Hid (∀ w', CareAt w' db (purgePl m.pl R) what most D' (runC (purgePl m.pl R) what most (i + 1)) → Calls Tryd.prog 15 #[.pointer (some ⟨db, 0, none⟩), .int .i64 R] w' fun e w'' => e = .returned (.tuple #[.int .i64 h, .nilIface]) ∧ w' = w'') := fun w' hc => by
              have := ctimes_any hc R
              rw [times_of_get hh2] at this
              simp only [errV_zero] at this; exact this
            have HTJ : Hid (∀ w' (j : Nat), CareAt w' cb m.pl what most C' (runC m.pl what most (i + 1)) → j < nl → ∃ h : Int, 0 ≤ h ∧ h ≤ most ∧ (what.getD j 0 = 0 → h = 0) ∧ Calls Tryd.prog 15 #[.pointer (some ⟨cb, 0, none⟩), .int .i64 j] w' fun e w'' => e = .returned (.tuple #[.int .i64 h, .nilIface]) ∧ w' = w'') := fun w' j hc hj => by
              obtain ⟨h, hh⟩ : ∃ h, (runC m.pl what most (i + 1)).times[j]? = some h := ⟨_, List.getElem?_eq_getElem (by rw [hok1.many, HLC.out]; exact hj)⟩
              have hle := hok1.least j h hh
              have := ctimes_any hc j
              rw [times_of_get hh] at this
              simp only [errV_zero] at this
              exact ⟨h, hle.1, hle.2.1, hle.2.2, this⟩
            have HNQ : Hid (∀ w, (binOp .neq 43 (.agg #[.int .i64 s.pc, .int .i64 s.c0, .int .i64 s.c1, .int .i64 s.c2, .int .i64 s.c3, .int .i64 s.c4, .int .i64 s.c5, .bool s.failed]) (.agg #[.int .i64 s.pc, .int .i64 s.c0, .int .i64 s.c1, .int .i64 s.c2, .int .i64 s.c3, .int .i64 s.c4, .int .i64 s.c5, .bool s.failed])).run Tryd.prog w = .ok (.bool false) w) := fun w => by
              have := state_neq s s w
              rw [stEq_refl] at this; exact this
            clear hok1 hok2 hal hs hs2 hh hh2 hsn HX HY HSO
            obtain ⟨pc, s0, s1, s2, s3, s4, s5, sf⟩ := s
            unfold StateV stV at HC1 HC2
            simp only [errV_zero] at HC1 HC2 HNQ
            have hevq := event_neq ⟨xt, xr, xp, xw⟩
            have hevg := event_guard
            simp only [] at hevq
            rcases hkey with rfl | ⟨rfl, h4⟩ | ⟨rfl, h4, rfl, rfl, rfl, rfl⟩
            all_goals
              go_wp2_with fail
              refine (HC1.out _ (HST15.out.get (i := 0) rfl).here).mono ?_
              rintro e w16 ⟨rfl, hb16⟩
              have HST16 := hid ((HST15.out.new hb16).box #[.int .i64 pc, .int .i64 s0, .int .i64 s1, .int .i64 s2, .int .i64 s3, .int .i64 s4, .int .i64 s5, .bool sf] 43)
              clear hb16 xx0 xx1 xx2 xx3 hlx yy0 yy1 yy2 yy3 hly hevq hevg HST15
              go_wp2_with fail
              refine (HC2.out _ (HST16.out.get (i := 2) rfl).here).mono ?_
              rintro e w17 ⟨rfl, hb17⟩
              have HST17 := hid ((HST16.out.new hb17).box #[.int .i64 pc, .int .i64 s0, .int .i64 s1, .int .i64 s2, .int .i64 s3, .int .i64 s4, .int .i64 s5, .bool sf] 43)
              clear hb17 HST16
              go_wp2_with fail
              refine (HT1.out _ (HST17.out.get (i := 0) rfl).here).mono ?_
              rintro e w18 ⟨rfl, rfl⟩
              go_wp2_with fail
              refine (HT2.out _ (HST17.out.get (i := 2) rfl).here).mono ?_
              rintro e w18 ⟨rfl, rfl⟩
              have es : (w17.alloc (.cells #[.int .i64 pc, .int .i64 s0, .int .i64 s1, .int .i64 s2, .int .i64 s3, .int .i64 s4, .int .i64 s5, .bool sf] 43)).heap[w16.heap.size]? = some (.cells #[.int .i64 pc, .int .i64 s0, .int .i64 s1, .int .i64 s2, .int .i64 s3, .int .i64 s4, .int .i64 s5, .bool sf] 43 (0, 0)) := (HST17.out.get (i := 5) rfl).here
              have et := heap_alloc_new w17 (.cells #[.int .i64 pc, .int .i64 s0, .int .i64 s1, .int .i64 s2, .int .i64 s3, .int .i64 s4, .int .i64 s5, .bool sf] 43)
              obtain ⟨w18, hw18⟩ : ∃ w18, w18 = w17.alloc (.cells #[.int .i64 pc, .int .i64 s0, .int .i64 s1, .int .i64 s2, .int .i64 s3, .int .i64 s4, .int .i64 s5, .bool sf] 43) := ⟨_, rfl⟩
              rw [← hw18] at es et HST17
              rw [← hw18]
              have u0 := blk_cell es 0
              have u1 := blk_cell es 1
              have u2 := blk_cell es 2
              have u3 := blk_cell es 3
              have u4 := blk_cell es 4
              have u5 := blk_cell es 5
              have u6 := blk_cell es 6
              have u7 := blk_cell es 7
              have hlu := blk_lt es
              have v0 := blk_cell et 0
              have v1 := blk_cell et 1
              have v2 := blk_cell et 2
              have v3 := blk_cell et 3
              have v4 := blk_cell et 4
              have v5 := blk_cell et 5
              have v6 := blk_cell et 6
              have v7 := blk_cell et 7
              have hlv := blk_lt et
              simp at u0 u1 u2 u3 u4 u5 u6 u7 v0 v1 v2 v3 v4 v5 v6 v7
              have hnq := HNQ.out
              have hng := state_guard
              clear hw18 es et
              go_wp2_with fail
              clear u0 u1 u2 u3 u4 u5 u6 u7 hlu v0 v1 v2 v3 v4 v5 v6 v7 hlv hnq hng
              have HB18 := hid (HB7.out.trans (HST17.out.below.mono HB7.out.size))
              go_loopw [37] (fun v37 wr => ∃ j : Nat, j ≤ nl ∧ v37 = .int .i64 j ∧ wr = w18) (fun v37 _ => nl - (intOf v37).toNat)
              case atStart => exact ⟨0, by omega, rfl, rfl⟩
              case round =>
                obtain ⟨j, hjl, rfl, rfl⟩ := hrel
                by_cases hjn : j < nl
                · obtain ⟨h', hp0, hp1, hp2, hcall⟩ := HTJ.out _ j (HST17.out.get (i := 0) rfl).here hjn
                  obtain ⟨wb, wo', rfl, hwb, hwx⟩ := sl_int (HS.out.new HB18.out) (i := j) (by rw [HNL.out]; exact hjn) (by rw [HNL.out]; exact hjn)
                  have hgx : what.getD j 0 = what[j]'(by rw [HNL.out]; exact hjn) := by rw [List.getD_eq_getElem?_getD, List.getElem?_eq_getElem (by rw [HNL.out]; exact hjn)]; rfl
                  rw [hgx] at hp2
                  have hsl := HSW.out.1
                  have hsm := HSW.out.2.1
                  rw [HNL.out] at hsl
                  unfold maxLen at hsm
                  generalize what[j]'(by rw [HNL.out]; exact hjn) = x at hwx hp2
                  have HCALL := hid hcall
                  clear hcall hgx
                  by_cases hx0 : x = 0
                  · obtain rfl := hp2 hx0
                    subst hx0
                    go_wp2_with fail
                    refine HCALL.out.mono ?_
                    rintro e w19 ⟨rfl, rfl⟩
                    go_wp2_with fail
                    go_roundw
                    case rel => exact ⟨j + 1, by omega, by go_num, by first | rfl | trivial⟩
                    case measure => simp [intOf]; omega
                  · have e0 : (x == 0) = false := by simpa using hx0
                    clear hp2 hx0
                    go_wp2_with fail
                    refine HCALL.out.mono ?_
                    rintro e w19 ⟨rfl, rfl⟩
                    go_wp2_with fail
                    go_roundw
                    case rel => exact ⟨j + 1, by omega, by go_num, by first | rfl | trivial⟩
                    case measure => simp [intOf]; omega
                · obtain rfl : j = nl := by omega
                  go_wp2_with fail
                  go_roundw
                  case rel => exact ⟨i + 1, _, C', M', D', rfl, by go_num, by omega, by have := HSN.out; first | exact this | simpa [h4] using this, Stand.few (ts := [_, _, _]) HST17.out⟩
                  case measure => simp [intOf]; omega
          · have h120' : ¬ (i : Int) < 120 := by omega
            clear h120
            go_wp2_with fail
            go_ret
            exact ⟨rfl, HBO.out⟩
        · go_wp2_with fail
          go_ret
          exact ⟨rfl, HBO.out⟩
    · have hpg := purge_range w9 m r (HF.out.new HB9.out) (HM.out.new HB9.out) HE0.out (by rw [HNN.out]; omega)
      rw [HNN.out, HNS.out, HNW.out, errV_pos (by decide)] at hpg
      have hr2 : r < 0 ∨ (0 ≤ r ∧ (nl : Int) ≤ r) := by omega
      have HPG := hid hpg
      clear hpg hin
      rcases hr2 with hr2 | ⟨hr2, hr3⟩
      all_goals
        refine HPG.out.mono ?_
        rintro e w10 ⟨rfl, hb10⟩
        have hb10a := hb10.alloc hb10.size (.cells #[.slice none 0 0, .int .i64 0, .slice none 0 0, .slice none 0 0] 31)
        have hbx := (hb10a.block _ hlx).trans HX9.out
        have HB10 := hid (HB9.out.trans (hb10a.mono HB9.out.size))
        clear x0 x1 x2 x3 hlx hb10 hb10a
        have x0 := blk_cell hbx 0
        have hlx := blk_lt hbx
        simp at x0
        go_wp2_with fail
        go_ret
        exact ⟨rfl, HB10.out⟩
  · have hnew := careNew_bad (A := A) (c := c) (HF.out.new HB7.out) (HM.out.new HB7.out) (HS.out.new HB7.out) he
    unfold CNot at hnew
    rw [HNN.out, HNS.out, HNW.out, HNL.out, errV_pos he] at hnew
    refine hnew.mono ?_
    clear hnew
    rintro e w8 ⟨rfl, hb8⟩
    have HB8 := hid (HB7.out.trans (hb8.mono HB7.out.size))
    clear hb8 x0 x1 x2 x3 hlx y1 y2 y3 l1 l2 l3
    go_wp2_with fail
    go_ret
    exact ⟨rfl, HB8.out⟩
end Go.Proofs.YtnmbomhlonifnaaDoor
