/- The walk of framelaw2.TablesWhole: it returns true at every input. -/
import Derived.Test.YtongkiccglaniaaDoorTabNew
import Derived.Test.YtongkiccglaniaaDoorAloneMem
import Derived.Test.YtongkiccglaniaaDoorRunU
import Derived.Test.YtongkiccglaniaaDoorSameU
import Derived.IntWalk
import Derived.StillTailTactics
import Derived.Deep.DeepCutAuto
import Derived.Deep.CutBlock
namespace Go.Proofs.YtongkiccglaniaaDoor
open Go.RowKit
set_option maxRecDepth 100000

/-- A room that rests, and two lists. -/
def restPl : Pl := ⟨[[⟨10, 0, 0⟩]], 2, [], []⟩
def restLl : List (List Span) := [[], [⟨0, 2, 0⟩]]
def rT1 : Tst := (tTick restPl restLl (tNew restPl)).2
def rT2 : Tst := tAsk restLl rT1 1
def rT3 : Tst := (tTick restPl restLl rT2).2
def rT4 : Tst := (tTick restPl restLl rT3).2
theorem rest_chk : tabChk restPl restLl = 0 := by decide
theorem rest_right : TRight restPl restLl := tab_right (p := restPl) rest_chk rfl
theorem rest_ask : askErr restLl 1 = 0 := by decide
theorem rest_e1 : (tTick restPl restLl (tNew restPl)).1.room = -1 := by decide
theorem rest_e2 : (tTick restPl restLl rT2).1.room = -1 := by decide
theorem rest_e3 : (tTick restPl restLl rT3).1.room = 0 := by decide
theorem rest_now : tNow restPl rT4 = 1 := by decide
def restPM (s : Nat) : PM := ⟨some ⟨s + 1, 0, none⟩, 1, [⟨some ⟨s, 0, none⟩, 1, [⟨10, 0, 0⟩]⟩], 2, none, 0, [], none, 0, []⟩
def restLs (s : Nat) : List Tl := [⟨none, 0, []⟩, ⟨some ⟨s + 1 + 1, 0, none⟩, 1, [⟨0, 2, 0⟩]⟩]
theorem rest_new {w0 : World} (hf : Forms w0) (s : Nat) (hz : w0.heap.size = s) {w : World} (hw : w = (((w0.alloc (.cells #[.int .i64 10, .int .i64 0, .int .i64 0] 45)).alloc (.cells #[.slice (some ⟨s, 0, none⟩) 1 1] 46)).alloc (.cells #[.int .i64 0, .int .i64 2, .int .i64 0] 68)).alloc (.cells #[.slice none 0 0, .slice (some ⟨s + 1 + 1, 0, none⟩) 1 1] 28)) :
    Calls Tryd.prog 36 #[.agg #[.slice (some ⟨s + 1, 0, none⟩) 1 1, .int .i64 2, .slice none 0 0, .slice none 0 0], .slice (some ⟨s + 1 + 1 + 1, 0, none⟩) 2 2] w (fun e w' => ∃ tb kb T, e = .returned (.tuple #[.pointer (some ⟨tb, 0, none⟩), .nilIface]) ∧ Stand w w' [tabT tb kb restPl restLl T (tNew restPl)]) ∧ Below w0.heap.size w0 w := by
  have hblk : w.heap[s]? = some (.cells #[.int .i64 10, .int .i64 0, .int .i64 0] 45 (0, 0)) ∧ w.heap[s + 1]? = some (.cells #[.slice (some ⟨s, 0, none⟩) 1 1] 46 (0, 0)) ∧ w.heap[s + 1 + 1]? = some (.cells #[.int .i64 0, .int .i64 2, .int .i64 0] 68 (0, 0)) ∧ w.heap[s + 1 + 1 + 1]? = some (.cells #[.slice none 0 0, .slice (some ⟨s + 1 + 1, 0, none⟩) 1 1] 28 (0, 0)) := by
    rw [hw]
    simp only [hp_alloc, sz_alloc, hz]
    refine ⟨?_, ?_, ?_, ?_⟩
    all_goals (repeat (first | rw [if_pos True.intro] | rw [if_pos rfl] | rw [if_neg (by omega)]))
  have hb : Below w0.heap.size w0 w := by rw [hw]; exact ((((Below.refl _ _).alloc (Nat.le_refl _) _).alloc (by simp) _).alloc (by simp; omega) _).alloc (by simp; omega) _
  obtain ⟨k0, k1, k2, k3⟩ := hblk
  refine ⟨?_, hb⟩
  have hm : PlanAt w (restPM s) := by
    refine ⟨sl_blk k1 1 1 _ rfl rfl, lit_slW _ 1 (by omega), fun r hr => ?_, fits_lit (a := 2) (by decide), Sl.nil _ _ _, ⟨Nat.le_refl _, Nat.zero_le _, fun _ => ⟨rfl, rfl⟩⟩, fun y hy => by simp [restPM] at hy, Sl.nil _ _ _, ⟨Nat.le_refl _, Nat.zero_le _, fun _ => ⟨rfl, rfl⟩⟩, fun y hy => by simp [restPM] at hy⟩
    simp [restPM] at hr
    subst hr
    refine ⟨sl_blk k0 3 1 _ rfl rfl, lit_slW _ 1 (by omega), fun o ho => ?_⟩
    simp at ho; subst ho
    refine ⟨⟨?_, ?_⟩, ⟨?_, ?_⟩, ⟨?_, ?_⟩⟩ <;> decide
  have hat : ∀ y ∈ restLs s, y.At w := by
    intro y hy
    simp [restLs] at hy
    rcases hy with rfl | rfl
    · exact ⟨Sl.nil _ _ _, ⟨Nat.le_refl _, Nat.zero_le _, fun _ => ⟨rfl, rfl⟩⟩, fun y hy => by simp at hy⟩
    · refine ⟨sl_blk k2 3 1 _ rfl rfl, lit_slW _ 1 (by omega), fun y hy => ?_⟩
      simp at hy; subst hy
      refine ⟨⟨?_, ?_⟩, ⟨?_, ?_⟩, ⟨?_, ?_⟩⟩ <;> decide
  have h := tab_new (m := restPM s) (ls := restLs s) (c := 2) (A := some ⟨s + 1 + 1 + 1, 0, none⟩) (hf.new hb) hm (sl_blk k3 1 2 _ rfl rfl) (lit_slW _ 2 (by omega)) hat (fun y hy => by
    simp [restLs] at hy
    rcases hy with rfl | rfl <;> simp)
  refine h.mono ?_
  rintro e w' ⟨_, h2⟩
  obtain ⟨tb, kb, T, s0, hs0, he, hst⟩ := h2 rest_chk
  have : s0 = [] := by simpa [restLs] using hs0.symm
  subst this
  exact ⟨tb, kb, T, he, hst⟩
theorem tb_time {p : Pl} {k : Kst} {B : Int} {l : List Span} (hp : PlOk p) (hk : KOk p k B) (hsp : ∀ s ∈ l, 0 ≤ s.room ∧ s.room < p.code.length) : (tickBy p l k).1.tick = k.time ∧ (tickBy p l k).2.time = k.time + 1 := by
  rcases tick_meets hp hk hsp with h0 | ⟨r, ops, s, o, h0, hc, hs, ho⟩
  · rw [tick_none h0]; exact ⟨rfl, rfl⟩
  · rw [tick_room h0 hc hs ho]; exact ⟨rfl, rfl⟩
/-- What holds ahead of each step. -/
structure WholeOk (p : Pl) (ll : List (List Span)) (a : Bool) (now : Nat) (t : Tst) (kk : Kst) : Prop where
  same : a = false → t.now = 0 ∧ t.next = 0 ∧ kk = t.k
  kept : t.k.time % p.ticks ≠ 0 → now = t.now
  lt : now < ll.length
section
variable {p : Pl} {ll : List (List Span)} {a : Bool} {now : Nat} {t : Tst} {kk : Kst} {B : Int}
theorem WholeOk.ask (h : WholeOk p ll false now t kk) (i : Int) : WholeOk p ll (askErr ll i == 0) now (tAsk ll t i) kk := by
  unfold askErr tAsk
  by_cases hi : inB i ll.length = true
  · rw [if_pos hi, if_pos hi]
    exact ⟨fun h => by simp at h, h.kept, h.lt⟩
  · rw [if_neg hi, if_neg hi]
    exact ⟨fun _ => h.same rfl, h.kept, h.lt⟩
theorem WholeOk.isNow (h : WholeOk p ll a now t kk) (hm : t.k.time % p.ticks ≠ 0) : tNow p t = now := by
  unfold tNow
  rw [if_neg hm]
  exact (h.kept hm).symm
theorem WholeOk.ticks (h : WholeOk p ll a now t kk) (_hr : TRight p ll) (hk : TOk p ll t B) (h0 : ll[0]? = some p.spans) : WholeOk p ll a (tNow p t) (tTick p ll t).2 (tick p kk).2 ∧ (a = false → (tTick p ll t).1 = (tick p kk).1) := by
  have key : a = false → tNow p t = 0 ∧ t.next = 0 ∧ tickBy p (ll.getD (tNow p t) []) t.k = tick p kk := fun ha => by
    obtain ⟨h1, h2, h3⟩ := h.same ha
    have h4 : tNow p t = 0 := by unfold tNow; rw [h1, h2]; split <;> rfl
    refine ⟨h4, h2, ?_⟩
    rw [h4, List.getD_eq_getElem?_getD, h0, Option.getD_some, h3]; rfl
  refine ⟨⟨fun ha => ?_, fun _ => rfl, tNow_lt hk⟩, fun ha => ?_⟩
  · obtain ⟨h1, h2, h3⟩ := key ha
    exact ⟨h1, h2, by unfold tTick; rw [h3]⟩
  · obtain ⟨_, _, h3⟩ := key ha
    unfold tTick; rw [h3]
end

set_option maxHeartbeats 8000000 in
theorem tablesWhole_walk {w : World} (hf : Forms w) (m : PM) (hm : PlanAt w m) (A : Option Addr) (c : Nat) (ls : List Tl) (hs : Sl w A 1 ls.length (ls.flatMap Tl.cells)) (hsw : SlW A c ls.length) (hat : ∀ y ∈ ls, y.At w)
    (qA : Option Addr) (qc : Nat) (ss : List Int) (hq : Sl w qA 1 ss.length (ss.flatMap fun a => [.int .i64 a])) (hqw : SlW qA qc ss.length) (hqf : ∀ a ∈ ss, Fits a) (hz : ∀ y ∈ ls, y.l.length ≤ 5864062014634) :
    Calls Tryd.prog 10 #[.agg #[.slice m.A m.ros.length m.c, .int .i64 m.ticks, .slice m.sA m.spans.length m.sc, .slice m.wA m.wires.length m.wc], .slice A ls.length c, .slice qA ss.length qc] w fun e w' => e = .returned (.bool true) ∧ Below w.heap.size w w' := by
  have HF := hid hf
  have HM := hid hm
  have HS := hid hs
  have HAT := hid hat
  have HQ := hid hq
  have HQF := hid hqf
  have HTN : Hid (∀ w', Below w.heap.size w w' → Calls Tryd.prog 36 #[.agg #[.slice m.A m.ros.length m.c, .int .i64 m.ticks, .slice m.sA m.spans.length m.sc, .slice m.wA m.wires.length m.wc], .slice A ls.length c] w'
      fun e w'' => (tabChk m.pl (ls.map Tl.l) ≠ 0 → e = .returned (.tuple #[.pointer none, errV (tabChk m.pl (ls.map Tl.l))]) ∧ Below w'.heap.size w' w'') ∧ (tabChk m.pl (ls.map Tl.l) = 0 → TNewd w' m.pl (ls.map Tl.l) e w'')) :=
    fun w' hb => tab_new (hf.new hb) (hm.new hb) (hs.new hb) hsw (fun y hy => (hat y hy).new hb) hz
  obtain ⟨hsw1, hsw2, _⟩ := hsw
  obtain ⟨hqw1, hqw2, _⟩ := hqw
  unfold maxLen at hsw2 hqw2
  obtain ⟨E, hE⟩ : ∃ E, tabChk m.pl (ls.map Tl.l) = E := ⟨_, rfl⟩
  rw [hE] at HTN
  have HE := hid hE
  obtain ⟨w1, hw1⟩ : ∃ w1, w1 = w.alloc (.cells #[.slice m.A m.ros.length m.c, .int .i64 m.ticks, .slice m.sA m.spans.length m.sc, .slice m.wA m.wires.length m.wc] 31) := ⟨_, rfl⟩
  have hb1 : Below w.heap.size w w1 := by rw [hw1]; exact (Below.refl _ _).alloc (Nat.le_refl _) _
  have hsz1 : w1.heap.size = w.heap.size + 1 := by rw [hw1]; simp
  have hbox : w1.heap[w.heap.size]? = some (.cells #[.slice m.A m.ros.length m.c, .int .i64 m.ticks, .slice m.sA m.spans.length m.sc, .slice m.wA m.wires.length m.wc] 31 (0, 0)) := by rw [hw1]; exact heap_alloc_new w _
  obtain ⟨w2, hw2⟩ : ∃ w2, w2 = (((w1.alloc (.cells #[.int .i64 10, .int .i64 0, .int .i64 0] 45)).alloc (.cells #[.slice (some ⟨w.heap.size + 1, 0, none⟩) 1 1] 46)).alloc (.cells #[.int .i64 0, .int .i64 2, .int .i64 0] 68)).alloc (.cells #[.slice none 0 0, .slice (some ⟨w.heap.size + 1 + 1 + 1, 0, none⟩) 1 1] 28) := ⟨_, rfl⟩
  obtain ⟨hnew, hb12⟩ := rest_new (hf.new hb1) (w.heap.size + 1) hsz1 hw2
  obtain ⟨nn, hnn⟩ : ∃ nn, m.ros.length = nn := ⟨_, rfl⟩
  obtain ⟨ns, hns⟩ : ∃ ns, m.spans.length = ns := ⟨_, rfl⟩
  obtain ⟨nw, hnw⟩ : ∃ nw, m.wires.length = nw := ⟨_, rfl⟩
  obtain ⟨nl, hnl⟩ : ∃ nl, ls.length = nl := ⟨_, rfl⟩
  obtain ⟨nss, hnss⟩ : ∃ nss, ss.length = nss := ⟨_, rfl⟩
  rw [hnn, hns, hnw, hnl] at HTN
  rw [hnl] at hsw1
  rw [hnl] at HS
  rw [hnss] at hqw1
  rw [hnss] at HQ
  rw [hnn, hns, hnw] at hw1 hbox
  rw [hnn, hns, hnw, hnl, hnss]
  have HNN := hid hnn
  have HNS := hid hns
  have HNW := hid hnw
  have HNL := hid hnl
  have HNSS := hid hnss
  have HB1 := hid hb1
  have HB12 := hid hb12
  have HNEW := hid hnew
  have HXS : Hid (∀ w', Below w1.heap.size w1 w' → w'.cell? ⟨w.heap.size, 0, none⟩ = some (.slice m.A nn m.c) ∧ w'.cell? ⟨w.heap.size, 1, none⟩ = some (.int .i64 m.ticks) ∧ w'.cell? ⟨w.heap.size, 2, none⟩ = some (.slice m.sA ns m.sc) ∧ w'.cell? ⟨w.heap.size, 3, none⟩ = some (.slice m.wA nw m.wc) ∧ w.heap.size < w'.heap.size) := fun w' hb => by
    have h := (hb.block _ (blk_lt hbox)).trans hbox
    exact ⟨blk_cell h 0, blk_cell h 1, blk_cell h 2, blk_cell h 3, blk_lt h⟩
  clear hf hm hb1 hbox hs hat hq hqf hz hE hnn hns hnw hnl hnss hsz1 hb12 hnew
  go_enter Tryd.func10, Tryd.ntmps10
  go_wp2_with fail
  rw [← hw1, ← hw2]
  clear hw1 hw2
  refine HNEW.out.mono ?_
  rintro e w3 ⟨ob, ok, O1, rfl, hst⟩
  have HO := hid hst
  clear hst HNEW
  have k0 := tNew_ok rest_right
  have k1 : TOk restPl restLl rT1 (0 + 1) := tTick_ok rest_right k0
  have k2 : TOk restPl restLl rT2 (0 + 1) := tAsk_ok k1 1
  have k3 : TOk restPl restLl rT3 (0 + 1 + 1) := tTick_ok rest_right k2
  have k4 : TOk restPl restLl rT4 (0 + 1 + 1 + 1) := tTick_ok rest_right k3
  have hq1 := ttick_stand (i := 0) HO.out rfl rest_right k0 (by omega)
  rw [rest_e1] at hq1
  have K1 := hid k1
  have K2 := hid k2
  have K3 := hid k3
  have K4 := hid k4
  clear k0 k1 k2 k3 k4
  go_wp2_with fail
  refine hq1.mono ?_
  clear hq1
  generalize (tTick restPl restLl (tNew restPl)).1.tick = a1
  generalize (tTick restPl restLl (tNew restPl)).1.pc = a2
  generalize (tTick restPl restLl (tNew restPl)).1.what = a3
  rintro e w4 ⟨O2, rfl, hst⟩
  have HO2 : Hid (Stand w2 (w4.alloc (.cells #[.int .i64 a1, .int .i64 (-1), .int .i64 a2, .int .i64 a3] 34)) [tabT ob ok restPl restLl O2 rT1, conT w4.heap.size (.cells #[.int .i64 a1, .int .i64 (-1), .int .i64 a2, .int .i64 a3] 34)]) := Stand.lay (ts := [tabT ob ok restPl restLl O2 rT1]) hst #[.int .i64 a1, .int .i64 (-1), .int .i64 a2, .int .i64 a3] 34
  clear hst HO
  go_upto_region 6 with fail
  obtain ⟨b1, hb1⟩ : ∃ b1, b1 = w4.heap.size := ⟨_, rfl⟩
  obtain ⟨w5, hw5⟩ : ∃ w5, w5 = w4.alloc (.cells #[.int .i64 a1, .int .i64 (-1), .int .i64 a2, .int .i64 a3] 34) := ⟨_, rfl⟩
  rw [← hw5, ← hb1] at HO2 ⊢
  clear hw5 hb1
  have hq1 := task_stand (i := 0) HO2.out rfl (by decide) 1
  rw [rest_ask, errV_zero] at hq1
  go_wp2_with fail
  refine hq1.mono ?_
  clear hq1
  rintro e w6 ⟨rfl, hst⟩
  have HO3 : Hid (Stand w2 w6 [tabT ob ok restPl restLl O2 rT2, conT b1 (.cells #[.int .i64 a1, .int .i64 (-1), .int .i64 a2, .int .i64 a3] 34)]) := hst
  clear hst HO2
  have hq1 := ttick_stand (i := 0) HO3.out rfl rest_right K2.out (by omega)
  rw [rest_e2] at hq1
  go_wp2_with fail
  refine hq1.mono ?_
  clear hq1
  generalize (tTick restPl restLl rT2).1.tick = d1
  generalize (tTick restPl restLl rT2).1.pc = d2
  generalize (tTick restPl restLl rT2).1.what = d3
  rintro e w7 ⟨O3, rfl, hst⟩
  have HO4 : Hid (Stand w2 (w7.alloc (.cells #[.int .i64 d1, .int .i64 (-1), .int .i64 d2, .int .i64 d3] 34)) [tabT ob ok restPl restLl O3 rT3, conT b1 (.cells #[.int .i64 a1, .int .i64 (-1), .int .i64 a2, .int .i64 a3] 34), conT w7.heap.size (.cells #[.int .i64 d1, .int .i64 (-1), .int .i64 d2, .int .i64 d3] 34)]) := Stand.lay (ts := [tabT ob ok restPl restLl O3 rT3, conT b1 _]) hst #[.int .i64 d1, .int .i64 (-1), .int .i64 d2, .int .i64 d3] 34
  clear hst HO3
  go_upto_region 8 with fail
  obtain ⟨b2, hb2⟩ : ∃ b2, b2 = w7.heap.size := ⟨_, rfl⟩
  obtain ⟨w8, hw8⟩ : ∃ w8, w8 = w7.alloc (.cells #[.int .i64 d1, .int .i64 (-1), .int .i64 d2, .int .i64 d3] 34) := ⟨_, rfl⟩
  rw [← hw8, ← hb2] at HO4 ⊢
  clear hw8 hb2
  have hq1 := ttick_stand (i := 0) HO4.out rfl rest_right K3.out (by omega)
  rw [rest_e3] at hq1
  go_wp2_with fail
  refine hq1.mono ?_
  clear hq1
  generalize (tTick restPl restLl rT3).1.tick = f1
  generalize (tTick restPl restLl rT3).1.pc = f2
  generalize (tTick restPl restLl rT3).1.what = f3
  rintro e w9 ⟨O4, rfl, hst⟩
  have HO5 : Hid (Stand w2 (w9.alloc (.cells #[.int .i64 f1, .int .i64 0, .int .i64 f2, .int .i64 f3] 34)) [tabT ob ok restPl restLl O4 rT4, conT b1 (.cells #[.int .i64 a1, .int .i64 (-1), .int .i64 a2, .int .i64 a3] 34), conT b2 (.cells #[.int .i64 d1, .int .i64 (-1), .int .i64 d2, .int .i64 d3] 34), conT w9.heap.size (.cells #[.int .i64 f1, .int .i64 0, .int .i64 f2, .int .i64 f3] 34)]) := Stand.lay (ts := [tabT ob ok restPl restLl O4 rT4, conT b1 _, conT b2 _]) hst #[.int .i64 f1, .int .i64 0, .int .i64 f2, .int .i64 f3] 34
  clear hst HO4
  go_upto_region 9 with fail
  obtain ⟨b3, hb3⟩ : ∃ b3, b3 = w9.heap.size := ⟨_, rfl⟩
  obtain ⟨w10, hw10⟩ : ∃ w10, w10 = w9.alloc (.cells #[.int .i64 f1, .int .i64 0, .int .i64 f2, .int .i64 f3] 34) := ⟨_, rfl⟩
  rw [← hw10, ← hb3] at HO5 ⊢
  clear hw10 hb3
  have e1 : w10.heap[b1]? = some (.cells #[.int .i64 a1, .int .i64 (-1), .int .i64 a2, .int .i64 a3] 34 (0, 0)) := (HO5.out.get (i := 1) rfl).here
  have e2 : w10.heap[b2]? = some (.cells #[.int .i64 d1, .int .i64 (-1), .int .i64 d2, .int .i64 d3] 34 (0, 0)) := (HO5.out.get (i := 2) rfl).here
  have e3 : w10.heap[b3]? = some (.cells #[.int .i64 f1, .int .i64 0, .int .i64 f2, .int .i64 f3] 34 (0, 0)) := (HO5.out.get (i := 3) rfl).here
  have y1 := blk_cell e1 1
  have y2 := blk_cell e2 1
  have y3 := blk_cell e3 1
  have l1 := blk_lt e1
  have l2 := blk_lt e2
  have l3 := blk_lt e3
  simp at y1 y2 y3
  have hnow := tnow_any (HO5.out.get (i := 0) rfl).here rest_right K4.out (by omega)
  rw [rest_now] at hnow
  clear e1 e2 e3
  go_wp2_with fail
  refine hnow.mono ?_
  clear hnow
  rintro e w11 ⟨rfl, hb11⟩
  have HXB : Hid (Below w1.heap.size w1 w11) := HB12.out.trans ((HO5.out.below.trans (hb11.mono HO5.out.below.size)).mono HB12.out.size)
  have HB11 := hid (HB1.out.trans (HXB.out.mono HB1.out.size))
  clear hb11 y1 y2 y3 l1 l2 l3 HO5 K1 K2 K3 K4
  obtain ⟨x0, x1, x2, x3, hlx⟩ := HXS.out _ HXB.out
  go_wp2_with fail
  refine (HTN.out _ HB11.out).mono ?_
  clear x0 x1 x2 x3 hlx HTN
  rintro e wa ⟨hbad, hgood⟩
  by_cases hE0 : E = 0
  · obtain ⟨tb, tk, T3, s0, hs0, rfl, hst⟩ := hgood hE0
    have HSA := hid hst
    have HTR : Hid (TRight (m.pl.by s0) (ls.map Tl.l)) := tab_right (HE.out.trans hE0) hs0
    have HWA := hid (HB11.out.trans (hst.below.mono HB11.out.size))
    have HXA := hid (HXB.out.trans (hst.below.mono HXB.out.size))
    have HLL : Hid ((ls.map Tl.l).length = nl) := by show (ls.map Tl.l).length = nl; rw [List.length_map, HNL.out]
    have hl0 : 0 < nl := by rw [← HLL.out]; exact HTR.out.some
    have hl4 : nl ≤ 4 := by rw [← HLL.out]; exact HTR.out.most
    have htick := frameChk_ticks HTR.out.plan.frame
    have htk0 : 1 ≤ m.ticks := htick.1
    have htk1 : m.ticks ≤ 40 := htick.2.1
    have hi2 : 0 < ls.length := by rw [HNL.out]; exact hl0
    have hget := List.getElem?_eq_getElem hi2
    have hym := List.getElem_mem hi2
    obtain ⟨lb, lo, rfl, hlb, hlx2⟩ := HS.out.2 hl0
    have hcell := flatMap_get Tl.cells 1 Tl.len ls 0 0 _ hget (by decide)
    rw [Nat.mul_one, Nat.add_zero] at hcell
    replace hcell := hlx2 0 _ (hcell.trans rfl)
    rw [Nat.add_zero] at hcell
    generalize ls[0] = y at hget hym hcell
    have hys : y.l = s0 := by
      rw [List.getElem?_map, hget] at hs0
      simpa using hs0
    subst hys
    have HYAT := hid (HAT.out y hym)
    have HS0 := hid hs0
    have hcy : ∀ w', Below w.heap.size w w' → w'.cell? ⟨lb, lo, none⟩ = some (.slice y.A y.l.length y.c) ∧ lb < w'.heap.size := fun w' hb => ⟨(hb.cell (p := ⟨lb, lo, none⟩) hlb).trans hcell, Nat.lt_of_lt_of_le hlb hb.size⟩
    have HCY := hid hcy
    clear hst hbad hgood hs0 htick hget hym hcell hlx2 hi2 hcy
    subst hE0
    obtain ⟨x0, x1, x2, x3, hlx⟩ := HXS.out _ HXA.out
    have hdt : decide (m.ticks < 1) = false := decide_eq_false (by omega)
    have hdl : ((nl : Int) == 0) = false := beq_false_of_ne (by omega)
    obtain ⟨wq, hwq⟩ : ∃ wq, wq = wa.alloc (.cells #[.slice m.A nn m.c, .int .i64 m.ticks, .slice m.sA ns m.sc, .slice m.wA nw m.wc] 31) := ⟨_, rfl⟩
    obtain ⟨qb, hqb⟩ : ∃ qb, qb = wa.heap.size := ⟨_, rfl⟩
    have hq4 : wq.heap[qb]? = some (.cells #[.slice m.A nn m.c, .int .i64 m.ticks, .slice m.sA ns m.sc, .slice m.wA nw m.wc] 31 (0, 0)) := by rw [hwq, hqb]; exact heap_alloc_new wa _
    have hbq : Below wa.heap.size wa wq := by rw [hwq]; exact (Below.refl _ _).alloc (Nat.le_refl _) _
    obtain ⟨w5, hw5⟩ : ∃ w5, w5 = wq.setCell ⟨qb, 2, none⟩ (.slice y.A y.l.length y.c) := ⟨_, rfl⟩
    have hq5 : w5.heap[qb]? = some (.cells #[.slice m.A nn m.c, .int .i64 m.ticks, .slice y.A y.l.length y.c, .slice m.wA nw m.wc] 31 (0, 0)) := by rw [hw5]; exact (blk_set hq4 2 _).trans rfl
    have hb5 : Below wa.heap.size wa w5 := by rw [hw5]; exact hbq.setCell (by show wa.heap.size ≤ qb; omega) _
    have HB5 := hid hb5
    have HQ5 := hid hq5
    have HBQ := hid hbq
    have z2 := blk_cell hq4 2
    have zf := blk_free hq4 2
    have hlz := blk_lt hq4
    simp at z2
    clear hq4 hq5 hb5 hbq
    go_upto_region 15 with fail
    rw [← hwq, ← hqb]
    clear hwq hqb x0 x1 x2 x3 hlx
    obtain ⟨x0, x1, x2, x3, hlx⟩ := HXS.out _ (HXA.out.trans (HBQ.out.mono HXA.out.size))
    obtain ⟨hy1, hy2⟩ := HCY.out _ (HWA.out.trans (HBQ.out.mono HWA.out.size))
    go_upto_region 18 with fail
    rw [← hw5]
    clear hw5 z2 zf hlz hy1 hy2 x0 x1 x2 x3 hlx hdt hdl
    have z0 := blk_cell HQ5.out 0
    have z1 := blk_cell HQ5.out 1
    have z2 := blk_cell HQ5.out 2
    have z3 := blk_cell HQ5.out 3
    have hlz := blk_lt HQ5.out
    simp at z0 z1 z2 z3
    have HW5 := hid (HWA.out.trans (HB5.out.mono HWA.out.size))
    have hk := new_run w5 (m.by y.A y.c y.l) (HF.out.new HW5.out) ((HM.out.new HW5.out).by (HYAT.out.new HW5.out).1 (HYAT.out.new HW5.out).2.1 (HYAT.out.new HW5.out).2.2) (planChk_of HTR.out.plan)
    unfold KNew at hk
    have e1 : (m.by y.A y.c y.l).ros.length = nn := HNN.out
    have e2 : (m.by y.A y.c y.l).wires.length = nw := HNW.out
    have e3 : (m.by y.A y.c y.l).spans.length = y.l.length := rfl
    rw [e1, e2, e3] at hk
    clear e1 e2 e3
    have HSB := hid (HSA.out.new HB5.out)
    go_wp2_with fail
    refine hk.mono ?_
    clear hk z0 z1 z2 z3 hlz
    rintro e w6 ⟨kb, M6, rfl, hr6⟩
    have HS6 : Hid (Stand w11 w6 [tabT tb tk (m.pl.by y.l) (ls.map Tl.l) T3 ⟨kNew (m.pl.by y.l), 0, 0⟩, kT 152 201 145 kb (m.pl.by y.l) M6 (kNew (m.pl.by y.l))]) := HSB.out.add hr6.below (k_lie hr6.kat hr6.plan) (fun j hj => hr6.fresh j (.inl hj)) (fun j hj => .inl (hr6.fresh j hj))
    clear hr6 HSA HSB
    have hto := tNew_ok HTR.out
    have hnow := tnow_any (HS6.out.get (i := 0) rfl).here HTR.out hto (by omega)
    have hn0 : tNow (m.pl.by y.l) ⟨kNew (m.pl.by y.l), 0, 0⟩ = 0 := by unfold tNow; split <;> rfl
    rw [hn0] at hnow
    have HTO0 := hid hto
    clear hto hn0
    go_wp2_with fail
    refine hnow.mono ?_
    clear hnow
    rintro e w7 ⟨rfl, hb7⟩
    have HS7 := hid (HS6.out.new hb7)
    clear hb7 HS6
    obtain ⟨s0, hs0e⟩ : ∃ s0, y.l = s0 := ⟨_, rfl⟩
    rw [hs0e] at HS7 HTO0 HTR HS0
    clear hs0e HYAT HCY
    go_wp2_with fail
    go_loopw [18, 19, 20, 21] (fun v18 v19 v20 v21 wr => ∃ (i now : Nat) (a : Bool) (T : TM) (M : KM) (t : Tst) (kk : Kst) (B : Int), i ≤ 120 ∧ i ≤ nss ∧ v18 = .bool a ∧ v19 = .int .i64 now ∧ v20 = .int .i64 t.k.time ∧ v21 = .int .i64 i ∧ TOk (m.pl.by s0) (ls.map Tl.l) t B ∧ KOk (m.pl.by s0) kk B ∧ B ≤ i ∧ WholeOk (m.pl.by s0) (ls.map Tl.l) a now t kk ∧ Stand w11 wr [tabT tb tk (m.pl.by s0) (ls.map Tl.l) T t, kT 152 201 145 kb (m.pl.by s0) M kk]) (fun _ _ _ v21 _ => 120 - (intOf v21).toNat)
    case atStart => exact ⟨0, 0, false, T3, M6, ⟨kNew (m.pl.by s0), 0, 0⟩, kNew (m.pl.by s0), 0, by omega, by omega, rfl, rfl, rfl, rfl, HTO0.out, HTO0.out.k, by omega, ⟨fun _ => ⟨rfl, rfl, rfl⟩, fun _ => rfl, by rw [HLL.out]; exact hl0⟩, HS7.out⟩
    case round =>
      obtain ⟨wo, rfl⟩ : ∃ wo : World, wo = wr := ⟨_, rfl⟩
      obtain ⟨i, now, a, T, M, t, kk, B, hi, hiq, rfl, rfl, rfl, rfl, hto, hkk, hB, hwo, hst⟩ := hrel
      have HSR := hid hst
      have HTO := hid hto
      have HKK := hid hkk
      have HWO := hid hwo
      have HBI := hid hB
      have HBO := hid (HB11.out.trans (hst.below.mono HB11.out.size))
      clear hst hto hkk hwo HS7 HTO0
      by_cases hin : i < nss ∧ i < 120
      · obtain ⟨hin, h120⟩ := hin
        have HIN := hid hin
        have h120' : (i : Int) < 120 := by omega
        have hi2 : i < ss.length := by rw [HNSS.out]; exact hin
        have hget := List.getElem?_eq_getElem hi2
        obtain ⟨ib, io, rfl, hib, hix⟩ := HQ.out.2 (by omega)
        have hcell := flatMap_get (fun a : Int => [Value.int .i64 a]) 1 (fun _ => rfl) ss i 0 _ hget (by decide)
        rw [Nat.mul_one, Nat.add_zero] at hcell
        replace hcell := hix i _ (hcell.trans rfl)
        have hvf := HQF.out _ (List.getElem_mem hi2)
        unfold Fits at hvf
        generalize ss[i] = v at hcell hvf
        have HSV : Hid (∀ w', Below w11.heap.size w11 w' → w'.cell? ⟨ib, io + i, none⟩ = some (.int .i64 v) ∧ ib < w'.heap.size) := fun w' hb => by
          have hb' := HB11.out.trans (hb.mono HB11.out.size)
          exact ⟨(hb'.cell (p := ⟨ib, io + i, none⟩) hib).trans hcell, by have := hb'.size; omega⟩
        clear hget hix hcell hi2
        obtain ⟨g0, g1⟩ := HSV.out _ HSR.out.below
        by_cases hv0 : 0 < v
        · have hwv : IntKind.i64.wrap (v - 1) = v - 1 := IntWalk.i64_in _ (by omega)
          obtain ⟨tm, htm⟩ : ∃ tm, t.k.time = tm := ⟨_, rfl⟩
          have HTM := hid htm
          rw [htm]
          go_upto_region 28 with fail
          go_cut [18] (fun v18 wx => ∃ (a' : Bool) (T' : TM) (t' : Tst), v18 = .bool a' ∧ t'.k = t.k ∧ TOk (m.pl.by s0) (ls.map Tl.l) t' B ∧ WholeOk (m.pl.by s0) (ls.map Tl.l) a' now t' kk ∧ Stand w11 wx [tabT tb tk (m.pl.by s0) (ls.map Tl.l) T' t', kT 152 201 145 kb (m.pl.by s0) M kk])
          case first =>
            as_aux_lemma =>
            cases a with
            | true =>
              clear g0 g1
              go_wp2_with fail
              go_meet
              exact ⟨true, T, t, rfl, rfl, HTO.out, HWO.out, HSR.out⟩
            | false =>
              have hask := task_stand (i := 0) HSR.out rfl HTR.out.most (v - 1)
              have hwo2 := HWO.out.ask (v - 1)
              have hto2 := tAsk_ok HTO.out (v - 1)
              have hkt : (tAsk (ls.map Tl.l) t (v - 1)).k = t.k := by unfold tAsk; split <;> rfl
              have HKT := hid hkt
              have HWO2 := hid hwo2
              have HTO2 := hid hto2
              generalize tAsk (ls.map Tl.l) t (v - 1) = t' at hask HKT HWO2 HTO2
              have hee : askErr (ls.map Tl.l) (v - 1) = 0 ∨ askErr (ls.map Tl.l) (v - 1) = 1 := by unfold askErr; split <;> simp
              clear hkt hwo2 hto2
              generalize askErr (ls.map Tl.l) (v - 1) = ee at hask HWO2 hee
              rcases hee with rfl | rfl
              · rw [errV_zero] at hask
                go_wp2_with fail
                refine hask.mono ?_
                clear hask g0 g1
                rintro e wx ⟨rfl, hst⟩
                have HSX : Hid (Stand w11 wx [tabT tb tk (m.pl.by s0) (ls.map Tl.l) T t', kT 152 201 145 kb (m.pl.by s0) M kk]) := hst
                clear hst
                go_wp2_with fail
                go_meet
                exact ⟨true, T, t', rfl, HKT.out, HTO2.out, HWO2.out, HSX.out⟩
              · rw [errV_pos (by decide)] at hask
                go_wp2_with fail
                refine hask.mono ?_
                clear hask g0 g1
                rintro e wx ⟨rfl, hst⟩
                have HSX : Hid (Stand w11 wx [tabT tb tk (m.pl.by s0) (ls.map Tl.l) T t', kT 152 201 145 kb (m.pl.by s0) M kk]) := hst
                clear hst
                go_wp2_with fail
                go_meet
                exact ⟨false, T, t', rfl, HKT.out, HTO2.out, HWO2.out, HSX.out⟩
          obtain ⟨a', T', t', rfl, hkt, hto2, hwo2, hst⟩ := hcut
          obtain ⟨wd, rfl⟩ : ∃ w' : World, w' = wc := ⟨_, rfl⟩
          have HSD := hid hst
          have HTO2 := hid hto2
          have HWO2 := hid hwo2
          have e1 : tm = t'.k.time := by rw [← HTM.out, hkt]
          rw [e1]
          clear hst hto2 hwo2 hkt g0 g1 hwv e1 HTM HSR HTO HWO
          go_upto_region 29 with fail
          obtain ⟨x0, x1, x2, x3, hlx⟩ := HXS.out _ (HXB.out.trans (HSD.out.below.mono HXB.out.size))
          have ht0 := HTO2.out.k.time0
          have htB := HTO2.out.k.timeB
          have hq1 : Int.tmod t'.k.time m.ticks = t'.k.time % m.ticks := Int.tmod_eq_emod_of_nonneg ht0
          have hq2 : 0 ≤ t'.k.time % m.ticks := Int.emod_nonneg _ (by omega)
          have hq3 : t'.k.time % m.ticks < m.ticks := Int.emod_lt_of_pos _ (by omega)
          have htk0' : ¬ m.ticks = 0 := by omega
          by_cases hM0 : t'.k.time % m.ticks = 0
          · have hd : (t'.k.time % m.ticks != 0) = false := by simpa using hM0
            generalize t'.k.time % m.ticks = MM at hq1 hq2 hq3 hd hM0
            have hwr : IntKind.i64.wrap MM = MM := IntWalk.i64_in _ (by omega)
            generalize hte : t'.k.time = tm at hq1 ht0 htB ⊢
            have HTE := hid hte
            clear ht0 htB hq2 hq3 hte
            go_wp2_with fail
            clear x0 x1 x2 x3 hlx hq1 hd hM0 hwr htk0'
            go_roundw
            case rel => exact ⟨i + 1, now, a', T', M, t', kk, B, by omega, by have := HIN.out; omega, rfl, rfl, congrArg (Value.int .i64) HTE.out.symm, by go_num, HTO2.out, HKK.out, by have := HBI.out; omega, HWO2.out, HSD.out⟩
            case measure => simp [intOf]; omega
          · have hnow := tnow_any (HSD.out.get (i := 0) rfl).here HTR.out HTO2.out (by omega)
            rw [HWO2.out.isNow hM0] at hnow
            have hd : (t'.k.time % m.ticks != 0) = true := by simpa using hM0
            generalize t'.k.time % m.ticks = MM at hq1 hq2 hq3 hd hM0
            have hwr : IntKind.i64.wrap MM = MM := IntWalk.i64_in _ (by omega)
            generalize hte : t'.k.time = tm at hq1 ht0 htB ⊢
            have HTE := hid hte
            clear ht0 htB hq2 hq3 hte
            go_wp2_with fail
            refine hnow.mono ?_
            clear hnow x0 x1 x2 x3 hlx hq1 hd hM0 hwr htk0'
            rintro e wn ⟨rfl, hbn⟩
            have HNX := hid (HSD.out.new hbn)
            clear hbn
            go_wp2_with fail
            go_roundw
            case rel => exact ⟨i + 1, now, a', T', M, t', kk, B, by omega, by have := HIN.out; omega, rfl, rfl, congrArg (Value.int .i64) HTE.out.symm, by go_num, HTO2.out, HKK.out, by have := HBI.out; omega, HWO2.out, HNX.out⟩
            case measure => simp [intOf]; omega
        · have hv1 : v ≤ 0 := by omega
          clear hv0
          have hnow := tnow_any (HSR.out.get (i := 0) rfl).here HTR.out HTO.out (by omega)
          have htk := ttick_stand (i := 0) HSR.out rfl HTR.out HTO.out (by omega)
          have hto2 := tTick_ok HTR.out HTO.out
          obtain ⟨hwo2, hev⟩ := HWO.out.ticks HTR.out HTO.out HS0.out
          have hnl2 := tNow_lt HTO.out
          have hmem : ∃ q, q ∈ ls.map Tl.l ∧ (ls.map Tl.l).getD (tNow (m.pl.by s0) t) [] = q := ⟨_, List.getElem_mem hnl2, by rw [List.getD_eq_getElem?_getD, List.getElem?_eq_getElem hnl2]; rfl⟩
          obtain ⟨q, hqm, hqe⟩ := hmem
          have htime := tb_time HTR.out.plan HTO.out.k (tab_spans HTR.out hqm)
          rw [← hqe] at htime
          have ht1 : (tTick (m.pl.by s0) (ls.map Tl.l) t).1.tick = t.k.time := htime.1
          have ht2 : (tTick (m.pl.by s0) (ls.map Tl.l) t).2.k.time = t.k.time + 1 := htime.2
          have hkt : Hid (∀ w', KAt 152 201 145 w' kb M kk → M.P.pl = m.pl.by s0 → Calls Tryd.prog 29 #[.pointer (some ⟨kb, 0, none⟩)] w' (KTicked 152 201 145 w' kb M (tick (m.pl.by s0) kk))) := fun w' h1 h2 => ktick_any w' kb M kk (m.pl.by s0) B HTR.out.plan h2 HKK.out (by omega) h1
          have hkk2 := tick_ok HTR.out.plan HKK.out (spans_in HTR.out.plan)
          have HNOWLT : Hid (tNow (m.pl.by s0) t < nl) := by show tNow (m.pl.by s0) t < nl; rw [← HLL.out]; exact hnl2
          have hpre := fun (w' : World) (h : Stand w11 w' [tabT tb tk (m.pl.by s0) (ls.map Tl.l) T t, kT 152 201 145 kb (m.pl.by s0) M kk]) => ttick_stand (i := 0) h rfl HTR.out HTO.out (show B < 4611686018427387904 by omega)
          obtain ⟨now2, hnow2⟩ : ∃ now2, tNow (m.pl.by s0) t = now2 := ⟨_, rfl⟩
          rw [hnow2] at hnow hwo2 HNOWLT
          obtain ⟨⟨⟨e1, e2, e3, e4⟩, t2⟩, hX⟩ : ∃ X, X = tTick (m.pl.by s0) (ls.map Tl.l) t := ⟨_, rfl⟩
          rw [← hX] at hto2 hwo2 hev ht1 ht2 hpre
          obtain ⟨⟨⟨u1, u2, u3, u4⟩, kk2⟩, hY⟩ : ∃ Y, Y = tick (m.pl.by s0) kk := ⟨_, rfl⟩
          have hkk3 : KOk (m.pl.by s0) kk2 (B + 1) := by
            have h9 : KOk (m.pl.by s0) (tick (m.pl.by s0) kk).2 (B + 1) := hkk2
            rw [← hY] at h9
            exact h9
          rw [← hY] at hkt hwo2 hev
          unfold KTicked at hkt
          simp only [] at hpre hto2 hwo2 hev ht1 ht2 hkt
          have hti0 := HTO.out.k.time0
          have htiB := HTO.out.k.timeB
          rw [← ht1] at hti0 htiB ht2 ⊢
          have HEV := hid hev
          have HTO2 := hid hto2
          have HWO2 := hid hwo2
          have HKK2 := hid hkk3
          have HT2 := hid ht2
          have HTK := hid hpre
          have hw0 : IntKind.i64.wrap e1 = e1 := IntWalk.i64_in _ (by omega)
          have hw1 : IntKind.i64.wrap (e1 + 1) = e1 + 1 := IntWalk.i64_in _ (by omega)
          clear hnow2 hX hY hkk2 hkk3 hto2 hwo2 hev ht2 htime hqe hqm htk hpre hnl2 HWO ht1 hti0 htiB
          go_wp2_with fail
          refine hnow.mono ?_
          clear hnow g0 g1
          rintro e wa1 ⟨rfl, hba1⟩
          have HSN := hid (HSR.out.new hba1)
          clear hba1 HSR
          go_wp2_with fail
          refine (HTK.out _ HSN.out).mono ?_
          rintro e wb1 ⟨T', rfl, hst⟩
          have HSB1 : Hid (Stand w11 (wb1.alloc (.cells #[.int .i64 e1, .int .i64 e2, .int .i64 e3, .int .i64 e4] 34)) [tabT tb tk (m.pl.by s0) (ls.map Tl.l) T' t2, kT 152 201 145 kb (m.pl.by s0) M kk, conT wb1.heap.size (.cells #[.int .i64 e1, .int .i64 e2, .int .i64 e3, .int .i64 e4] 34)]) := Stand.lay (ts := [tabT tb tk (m.pl.by s0) (ls.map Tl.l) T' t2, kT 152 201 145 kb (m.pl.by s0) M kk]) hst #[.int .i64 e1, .int .i64 e2, .int .i64 e3, .int .i64 e4] 34
          clear hst HSN HTK
          go_upto_region 33 with fail
          obtain ⟨b22, hb22⟩ : ∃ b22, b22 = wb1.heap.size := ⟨_, rfl⟩
          obtain ⟨wb2, hwb2⟩ : ∃ wb2, wb2 = wb1.alloc (.cells #[.int .i64 e1, .int .i64 e2, .int .i64 e3, .int .i64 e4] 34) := ⟨_, rfl⟩
          rw [← hwb2, ← hb22] at HSB1 ⊢
          clear hwb2 hb22
          have hkh := (HSB1.out.get (i := 1) rfl).here
          go_wp2_with fail
          refine (hkt.out _ hkh.1 hkh.2).mono ?_
          clear hkh
          rintro e wc1 ⟨M', rfl, h1, h2, h3, h4⟩
          have hst : Stand w11 wc1 [tabT tb tk (m.pl.by s0) (ls.map Tl.l) T' t2, kT 152 201 145 kb (m.pl.by s0) M' kk2, conT b22 (.cells #[.int .i64 e1, .int .i64 e2, .int .i64 e3, .int .i64 e4] 34)] := HSB1.out.go 1 rfl (k_went (HSB1.out.get (i := 1) rfl) h1 h2 h3 h4)
          have HSC : Hid (Stand w11 (wc1.alloc (.cells #[.int .i64 u1, .int .i64 u2, .int .i64 u3, .int .i64 u4] 34)) [tabT tb tk (m.pl.by s0) (ls.map Tl.l) T' t2, kT 152 201 145 kb (m.pl.by s0) M' kk2, conT b22 (.cells #[.int .i64 e1, .int .i64 e2, .int .i64 e3, .int .i64 e4] 34), conT wc1.heap.size (.cells #[.int .i64 u1, .int .i64 u2, .int .i64 u3, .int .i64 u4] 34)]) := hst.lay #[.int .i64 u1, .int .i64 u2, .int .i64 u3, .int .i64 u4] 34
          clear h1 h2 h3 h4 hst HSB1 hkt
          go_upto_region 34 with fail
          obtain ⟨b23, hb23⟩ : ∃ b23, b23 = wc1.heap.size := ⟨_, rfl⟩
          obtain ⟨wd2, hwd2⟩ : ∃ wd2, wd2 = wc1.alloc (.cells #[.int .i64 u1, .int .i64 u2, .int .i64 u3, .int .i64 u4] 34) := ⟨_, rfl⟩
          rw [← hwd2, ← hb23] at HSC ⊢
          clear hwd2 hb23
          have ev1 : wd2.heap[b22]? = some (.cells #[.int .i64 e1, .int .i64 e2, .int .i64 e3, .int .i64 e4] 34 (0, 0)) := (HSC.out.get (i := 2) rfl).here
          have ev2 : wd2.heap[b23]? = some (.cells #[.int .i64 u1, .int .i64 u2, .int .i64 u3, .int .i64 u4] 34 (0, 0)) := (HSC.out.get (i := 3) rfl).here
          have HV1 := hid ev1
          have HV2 := hid ev2
          clear ev1 ev2
          go_upto_region 35 with fail
          go_cut [166] (fun v wx => v = .bool false ∧ wx = wd2)
          case first =>
            as_aux_lemma =>
            have y0 := blk_cell HV1.out 0
            have y1 := blk_cell HV1.out 1
            have y2 := blk_cell HV1.out 2
            have y3 := blk_cell HV1.out 3
            have z0 := blk_cell HV2.out 0
            have z1 := blk_cell HV2.out 1
            have z2 := blk_cell HV2.out 2
            have z3 := blk_cell HV2.out 3
            have l1 := blk_lt HV1.out
            have l2 := blk_lt HV2.out
            simp at y0 y1 y2 y3 z0 z1 z2 z3
            have hnl3 := HNOWLT.out
            have hda : decide ((now2 : Int) < 0) = false := decide_eq_false (by omega)
            have hdb : decide (nl ≤ now2) = false := decide_eq_false (by omega)
            cases a with
            | true =>
              go_wp2_with fail
              go_meet
              exact ⟨by first | rfl | rw [hdb], rfl⟩
            | false =>
              have hev := HEV.out rfl
              simp only [Ev.mk.injEq] at hev
              obtain ⟨rfl, rfl, rfl, rfl⟩ := hev
              have hne : ∀ w, (binOp .neq 34 (.agg #[.int .i64 e1, .int .i64 e2, .int .i64 e3, .int .i64 e4]) (.agg #[.int .i64 e1, .int .i64 e2, .int .i64 e3, .int .i64 e4])).run Tryd.prog w = .ok (.bool false) w := fun w => event_neq ⟨e1, e2, e3, e4⟩ w
              have hge := event_guard
              go_wp2_with fail
              go_meet
              exact ⟨by first | rfl | rw [hdb], rfl⟩
          obtain ⟨rfl, rfl⟩ := hcut
          obtain ⟨wd2, rfl⟩ : ∃ w' : World, w' = wc := ⟨_, rfl⟩
          have HSF : Hid (Stand w11 wd2 [tabT tb tk (m.pl.by s0) (ls.map Tl.l) T' t2, kT 152 201 145 kb (m.pl.by s0) M' kk2]) := hid (HSC.out.few (ts := [tabT tb tk (m.pl.by s0) (ls.map Tl.l) T' t2, kT 152 201 145 kb (m.pl.by s0) M' kk2]) (us := [_, _]))
          clear HSC HV1 HV2 hw0 hw1
          rw [← HT2.out]
          go_upto_region 37 with fail
          obtain ⟨x0, x1, x2, x3, hlx⟩ := HXS.out _ (HXB.out.trans (HSF.out.below.mono HXB.out.size))
          have ht0 := HTO2.out.k.time0
          have htB := HTO2.out.k.timeB
          have hBI2 := HBI.out
          have hq1 : Int.tmod t2.k.time m.ticks = t2.k.time % m.ticks := Int.tmod_eq_emod_of_nonneg ht0
          have hq2 : 0 ≤ t2.k.time % m.ticks := Int.emod_nonneg _ (by omega)
          have hq3 : t2.k.time % m.ticks < m.ticks := Int.emod_lt_of_pos _ (by omega)
          have htk0' : ¬ m.ticks = 0 := by omega
          by_cases hM0 : t2.k.time % m.ticks = 0
          · have hd : (t2.k.time % m.ticks != 0) = false := by simpa using hM0
            generalize t2.k.time % m.ticks = MM at hq1 hq2 hq3 hd hM0
            have hwr : IntKind.i64.wrap MM = MM := IntWalk.i64_in _ (by omega)
            generalize hte : t2.k.time = tm at hq1 ht0 htB ⊢
            have HTE := hid hte
            clear ht0 htB hq2 hq3 hte hBI2
            go_wp2_with fail
            clear x0 x1 x2 x3 hlx hq1 hd hM0 hwr htk0'
            go_roundw
            case rel => exact ⟨i + 1, now2, a, T', M', t2, kk2, B + 1, by omega, by have := HIN.out; omega, rfl, rfl, congrArg (Value.int .i64) HTE.out.symm, by go_num, HTO2.out, HKK2.out, by have := HBI.out; omega, HWO2.out, HSF.out⟩
            case measure => simp [intOf]; omega
          · have hnow := tnow_any (HSF.out.get (i := 0) rfl).here HTR.out HTO2.out (by omega)
            rw [HWO2.out.isNow hM0] at hnow
            have hd : (t2.k.time % m.ticks != 0) = true := by simpa using hM0
            generalize t2.k.time % m.ticks = MM at hq1 hq2 hq3 hd hM0
            have hwr : IntKind.i64.wrap MM = MM := IntWalk.i64_in _ (by omega)
            generalize hte : t2.k.time = tm at hq1 ht0 htB ⊢
            have HTE := hid hte
            clear ht0 htB hq2 hq3 hte hBI2
            go_wp2_with fail
            refine hnow.mono ?_
            clear hnow x0 x1 x2 x3 hlx hq1 hd hM0 hwr htk0'
            rintro e wn ⟨rfl, hbn⟩
            have HNX := hid (HSF.out.new hbn)
            clear hbn
            go_wp2_with fail
            go_roundw
            case rel => exact ⟨i + 1, now2, a, T', M', t2, kk2, B + 1, by omega, by have := HIN.out; omega, rfl, rfl, congrArg (Value.int .i64) HTE.out.symm, by go_num, HTO2.out, HKK2.out, by have := HBI.out; omega, HWO2.out, HNX.out⟩
            case measure => simp [intOf]; omega
      · have hex : i = nss ∨ ((i : Int) < (nss : Int) ∧ i = 120) := by omega
        clear hin
        rcases hex with rfl | ⟨h1, rfl⟩
        all_goals
          go_wp2_with fail
          go_ret
          exact ⟨rfl, HBO.out⟩
  · obtain ⟨rfl, hba⟩ := hbad hE0
    have HBA := hid (HB11.out.trans (hba.mono HB11.out.size))
    rw [errV_pos hE0]
    clear hgood hbad hba hE0
    go_wp2_with fail
    go_ret
    exact ⟨rfl, HBA.out⟩
end Go.Proofs.YtongkiccglaniaaDoor
