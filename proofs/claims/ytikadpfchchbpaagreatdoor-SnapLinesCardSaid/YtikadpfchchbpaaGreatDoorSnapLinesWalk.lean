/- The walk of framelaw4.SnapLines: it returns true at every input. -/
import Derived.Test.YtikadpfchchbpaaGreatDoorSnapLoad
import Derived.Test.YtikadpfchchbpaaGreatDoorSnapSave
import Derived.Test.YtikadpfchchbpaaGreatDoorKernelCountsWalk
import Derived.Test.YtikadpfchchbpaaGreatDoorDoorU
import Derived.Test.YtikadpfchchbpaaGreatDoorCutW
import Derived.Deep.RegionHeld3
namespace Go.Proofs.YtikadpfchchbpaaGreatDoor
open Go.RowKit
set_option maxRecDepth 100000

theorem one_ok : planChk (countPl 1) = 0 := countPl_ok 1 (by decide) (by decide)
theorem sload_count {w : World} {B c1 c2 : Nat} {A1 A2 : Option Addr} {rows : List Ro} (hf : Forms w) (h : Counted w B 1 A1 c1 rows A2 c2) :
    Calls Tryz.prog 5 #[.agg #[.slice A1 1 c1, .int .i64 1, .slice A2 1 c2, .slice none 0 0], .string ⟨#[]⟩] w fun e w' => e = .returned (.tuple #[.pointer none, errV 2]) ∧ Below w.heap.size w w' := by
  have hm := h.many
  have hl : (countSpans 1).length = 1 := by simp [countSpans]
  have hpl := counted_pl h
  have hnew := sload_none w (countPM 1 A1 c1 rows A2 c2) hf (counted_plan h (by decide)) (by rw [hpl]; exact one_ok) (by simp only [countPM, hm]; decide) (by simp only [countPM]; decide)
  simp only [countPM, hm, hl] at hnew
  exact hnew
theorem snap_le {k : Kst} (h : SnapOk k) : (snapText k).length ≤ 2840 := by
  have h1 := lineT_le (w := [116, 105, 109, 101]) (l := [k.time]) (n := 1) (by decide) (Nat.le_refl 1) (fun x hx => by have := h.time; simp at hx; omega)
  have h2 := flat_le roomLine 181 k.rooms (fun s hs => lineT_le (n := 8) (by decide) (by simp [roomNums]) (h.rooms s hs))
  have h3 := flat_le wireLine 159 k.lines (fun x hx => lineT_le (n := 7) (by decide) (by have := (h.lines x hx).1; simp; omega) (h.lines x hx).2)
  have h4 := h.few
  have h5 : 181 * k.rooms.length ≤ 181 * 5 := Nat.mul_le_mul_left _ h4.1
  have h6 : 159 * k.lines.length ≤ 159 * 12 := Nat.mul_le_mul_left _ h4.2
  unfold snapText snapHead
  rw [List.length_append, List.length_append]; omega
theorem cut_snap {k : Kst} {T : ByteArray} (hT : T.data.toList = snapText k) (h : SnapOk k) (w : World) :
    Calls Tryz.prog 11 #[.string T, .int .u8 10] w fun e w' => ∃ A cap, e = .returned (.slice A (2 + k.rooms.length + k.lines.length) cap) ∧ Below w.heap.size w w' := by
  have hl := snap_le h
  have hc := cut_any T 10 w (by rw [Lib.size_eq, hT]; omega)
  have h10 : ((10 : UInt8).toNat : Int) = 10 := rfl
  rw [hT, cutA_len, snap_10, h10] at hc
  refine hc.mono ?_
  rintro e w' ⟨A, cap, h1, _, _, h2⟩
  refine ⟨A, cap, ?_, h2⟩
  rw [h1]
  congr 2; omega

theorem snapLines_ret {w w' : World} {a : Act} (h : a.tmps[4]? = some (.bool true)) (hd : a.defers = []) (hb : Below w.heap.size w w') : bodyPost Tryz.prog Tryz.f3 (fun e w' => e = .returned (.bool true) ∧ Below w.heap.size w w') .ret a w' :=
  bodyPost_ret (v := .bool true) (by simp [results, Tryz.results3, go_sem, h]) hd ⟨rfl, hb⟩

theorem cnt_eq {a b : Nat} (ha : a ≤ 5) (hb : b ≤ 12) : ((2 : Int) + ↑a + ↑b == IntKind.i64.wrap (IntKind.i64.wrap (2 + ↑a) + ↑b)) = true := by
  have h1 : IntKind.i64.wrap ((2 : Int) + ↑a) = 2 + ↑a := IntWalk.i64_in _ (by omega)
  have h2 : IntKind.i64.wrap ((2 : Int) + ↑a + ↑b) = 2 + ↑a + ↑b := IntWalk.i64_in _ (by omega)
  rw [h1, h2]; simp
def BadNew (v : Value) (w' : World) (e : Ending) (w'' : World) : Prop := e = .returned (.tuple #[.pointer none, v]) ∧ Below w'.heap.size w' w''
def Saved (k : Kst) (w' : World) (e : Ending) (w'' : World) : Prop := ∃ T : ByteArray, e = .returned (.tuple #[.string T, .nilIface]) ∧ T.data.toList = snapText k ∧ Below w'.heap.size w' w''
set_option maxHeartbeats 4000000 in
theorem snapLines_walk {w : World} (hg : Handle w) (hf : Forms w) (_ : Names w) (hp : Pows w) (hpl : 3 < w.heap.size) (m : PM) (hm : PlanAt w m) (n : Int) :
    Calls Tryz.prog 3 #[.agg #[.slice m.A m.ros.length m.c, .int .i64 m.ticks, .slice m.sA m.spans.length m.sc, .slice m.wA m.wires.length m.wc], .int .i64 n] w fun e w' => e = .returned (.bool true) ∧ Below w.heap.size w w' := by
  obtain ⟨w1, hw1⟩ : ∃ w1, w1 = w.alloc (.cells #[.slice m.A m.ros.length m.c, .int .i64 m.ticks, .slice m.sA m.spans.length m.sc, .slice m.wA m.wires.length m.wc] 26) := ⟨_, rfl⟩
  have hb1 : Below w.heap.size w w1 := by rw [hw1]; exact (Below.refl _ _).alloc (Nat.le_refl _) _
  have hbox : w1.heap[w.heap.size]? = some (.cells #[.slice m.A m.ros.length m.c, .int .i64 m.ticks, .slice m.sA m.spans.length m.sc, .slice m.wA m.wires.length m.wc] 26 (0, 0)) := by rw [hw1]; exact heap_alloc_new w _
  have HGOOD : Hid (planChk m.pl = 0 → ∀ w', Below w.heap.size w w' → Calls Tryz.prog 8 #[.agg #[.slice m.A m.ros.length m.c, .int .i64 m.ticks, .slice m.sA m.spans.length m.sc, .slice m.wA m.wires.length m.wc]] w' (KNew w' m.pl)) := fun he w' hb => new_run w' m (hf.new hb) (hm.new hb) he
  have HBAD : Hid (planChk m.pl ≠ 0 → ∀ w', Below w.heap.size w w' → Calls Tryz.prog 8 #[.agg #[.slice m.A m.ros.length m.c, .int .i64 m.ticks, .slice m.sA m.spans.length m.sc, .slice m.wA m.wires.length m.wc]] w' (BadNew (errV (planChk m.pl)) w')) := fun he w' hb => kern_new_bad w' m (hf.new hb) (hm.new hb) he
  have HSAVE : Hid (planChk m.pl = 0 → ∀ (w' : World) (kb : Nat) (M : KM) (i : Nat), i ≤ 50 → Below w.heap.size w w' → KAt 77 122 81 w' kb M (runK m.pl i) →
      Calls Tryz.prog 10 #[.pointer (some ⟨kb, 0, none⟩), .agg #[.slice m.A m.ros.length m.c, .int .i64 m.ticks, .slice m.sA m.spans.length m.sc, .slice m.wA m.wires.length m.wc]] w' (Saved (runK m.pl i) w')) := fun he w' kb M i hi hb hk => ssave_any (hf.new hb) (hp.new hpl hb) hk (runK_ok (planChk_ok he) i) (snap_ok (planChk_ok he) (runK_ok (planChk_ok he) i) (by omega)) (hm.new hb) rfl he
  have HLEN : Hid (planChk m.pl = 0 → ∀ i : Nat, (runK m.pl i).rooms.length = m.ros.length ∧ (runK m.pl i).lines.length = m.wires.length) := fun he i => ⟨by rw [(runK_ok (planChk_ok he) i).rooms]; simp [PM.pl], by rw [lines_len (runK_ok (planChk_ok he) i)]; rfl⟩
  obtain ⟨nn, hnn⟩ : ∃ nn, m.ros.length = nn := ⟨_, rfl⟩
  obtain ⟨ns, hns⟩ : ∃ ns, m.spans.length = ns := ⟨_, rfl⟩
  obtain ⟨nw, hnw⟩ : ∃ nw, m.wires.length = nw := ⟨_, rfl⟩
  rw [hnn, hns, hnw] at hw1 hbox HGOOD HBAD HSAVE ⊢
  rw [hnn, hnw] at HLEN
  have HBX : Hid (∀ w', Below w1.heap.size w1 w' → w'.cell? ⟨w.heap.size, 0, none⟩ = some (.slice m.A nn m.c) ∧ w'.cell? ⟨w.heap.size, 1, none⟩ = some (.int .i64 m.ticks) ∧ w'.cell? ⟨w.heap.size, 2, none⟩ = some (.slice m.sA ns m.sc) ∧ w'.cell? ⟨w.heap.size, 3, none⟩ = some (.slice m.wA nw m.wc) ∧ w.heap.size < w'.heap.size) := fun w' hb => by
    have h := (hb.block _ (blk_lt hbox)).trans hbox
    have x0 := blk_cell h 0
    have x1 := blk_cell h 1
    have x2 := blk_cell h 2
    have x3 := blk_cell h 3
    simp at x0 x1 x2 x3
    exact ⟨x0, x1, x2, x3, blk_lt h⟩
  have HB1 := hid hb1
  have HG := hid hg
  have HF := hid hf
  clear hg hf hp hpl hm hb1 hbox hnn hns hnw
  go_enter Tryz.func3, Tryz.ntmps3
  go_wp2_with (first
    | (go_at_call 6; refine (counting_any 1 (by decide) _).mono ?_; rw [← hw1]; rintro e w2 ⟨A1, c1, rows, A2, c2, rfl, hcnt, hb2⟩; have HLOAD := hid (sload_count (HF.out.new (HB1.out.trans (hb2.mono HB1.out.size))) hcnt); have HB2 := hid hb2; clear hcnt hb2 hw1)
    | (go_at_call 5; refine HLOAD.out.mono ?_; rintro e w3 ⟨rfl, hb3⟩; have HB3 := hid (HB2.out.trans (hb3.mono HB2.out.size)); clear hb3 HLOAD))
  refine (error_same 2 _ (HG.out.new (HB1.out.trans (HB3.out.mono HB1.out.size)))).mono ?_
  rintro e w4 ⟨rfl, hb4⟩
  have hb4' := HB3.out.trans (hb4.mono HB3.out.size)
  obtain ⟨x0, x1, x2, x3, hlx⟩ := HBX.out _ hb4'
  have HB4 := hid hb4'
  clear hb4 hb4' HB3
  go_wp2_with fail
  by_cases he : planChk m.pl = 0
  · refine (HGOOD.out he w4 (HB1.out.trans (HB4.out.mono HB1.out.size))).mono ?_
    rintro e w5 ⟨kb, M, rfl, hk⟩
    have HK := hid hk
    clear hk x0 x1 x2 x3 hlx
    go_wp2_with fail
    go_loopw [9] (fun v9 wr => ∃ (i : Nat) (M : KM), i ≤ 50 ∧ v9 = .int .i64 i ∧ KRun w4 wr kb m.pl M (runK m.pl i)) (fun v9 _ => 50 - (intOf v9).toNat)
    case atStart => exact ⟨0, M, by omega, rfl, HK.out⟩
    case round =>
      obtain ⟨wo, rfl⟩ : ∃ wo : World, wo = wr := ⟨_, rfl⟩
      obtain ⟨i, M, hi, rfl, hkr⟩ := hrel
      have HKR := hid hkr
      have HBR := hid (HB4.out.trans (hkr.below.mono HB4.out.size))
      clear hkr
      by_cases hin : (i : Int) < n ∧ i < 50
      · obtain ⟨hin, hi50⟩ := hin
        go_wp2_with (go_at_call 9; refine (tick_run HKR.out (planChk_ok he) (runK_ok (planChk_ok he) i) (by omega)).mono ?_; rintro e w7 ⟨M', rfl, hk7, _, _⟩; have HK7 := hid hk7; clear hk7)
        go_roundw
        case rel => exact ⟨i + 1, M', by omega, by go_num, HK7.out⟩
        case measure => simp [intOf]; omega
      · obtain ⟨x0, x1, x2, x3, hlx⟩ := HBX.out _ HBR.out
        obtain ⟨hl1, hl2⟩ := HLEN.out he i
        have HOK := hid (snap_ok (planChk_ok he) (runK_ok (planChk_ok he) i) (by omega))
        have HSV := hid (HSAVE.out he wo kb M i hi (HB1.out.trans (HBR.out.mono HB1.out.size)) HKR.out.kat)
        clear HKR
        rcases (show n ≤ (i : Int) ∨ ((i : Int) < n ∧ 50 ≤ i) by omega) with hd | ⟨hd, hd'⟩
        all_goals
          go_wp2_with (go_at_call 10; refine HSV.out.mono ?_; rintro e w8 ⟨T, rfl, hT, hb8⟩; have hcut := fun w' => cut_snap hT HOK.out w'; rw [hl1, hl2] at hcut; have HCUT := hid hcut; have HB8 := hid (HBR.out.trans (hb8.mono HBR.out.size)); clear hT hb8 HSV hcut)
          clear x0 x1 x2 x3 hlx
          obtain ⟨x0, x1, x2, x3, hlx⟩ := HBX.out _ HB8.out
          go_region_held3 (fun w' => w'.cell? ⟨w.heap.size, 0, none⟩ = some (.slice m.A nn m.c) ∧ w'.cell? ⟨w.heap.size, 3, none⟩ = some (.slice m.wA nw m.wc))
            (first | (with_reducible exact ⟨(HBX.out _ HB9.out).1, (HBX.out _ HB9.out).2.2.2.1⟩) | exact ⟨‹_›, ‹_›⟩)
            (first | (go_at_call 11; refine (HCUT.out _).mono ?_; rintro e w9 ⟨A9, c9, rfl, hb9⟩; have HB9 := hid (HB8.out.drew.trans (hb9.mono HB8.out.size)); clear hb9))
          all_goals
            go_wp2_with fail
            rw [cnt_eq (by rw [← hl1]; exact HOK.out.few.1) (by rw [← hl2]; exact HOK.out.few.2)]
            exact snapLines_ret rfl rfl (HB1.out.trans (HB9.out.mono HB1.out.size))
  · refine (HBAD.out he w4 (HB1.out.trans (HB4.out.mono HB1.out.size))).mono ?_
    rintro e w5 ⟨rfl, hb5⟩
    have HB5 := hid (HB4.out.trans (hb5.mono HB4.out.size))
    rw [errV_pos he]
    clear hb5 x0 x1 x2 x3 hlx
    go_wp2_with fail
    exact snapLines_ret rfl rfl (HB1.out.trans (HB5.out.mono HB1.out.size))
end Go.Proofs.YtikadpfchchbpaaGreatDoor
