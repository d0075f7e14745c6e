/- The walk of framelaw1.SightSame: it returns true at every input. -/
import Derived.Test.YtnighanlonkjbaaDoorSightOfW
import Derived.Test.YtnighanlonkjbaaDoorKernPair
import Derived.Test.YtnighanlonkjbaaDoorSameHelds
import Derived.Test.YtnighanlonkjbaaDoorRunU
import Derived.Test.YtnighanlonkjbaaDoorSameU
import Derived.Test.YtnighanlonkjbaaDoorSightW
import Derived.Deep.DeepCutAuto
import Derived.IntWalk
namespace Go.Proofs.YtnighanlonkjbaaDoor
open Go.RowKit
set_option maxRecDepth 100000

def restPl : Pl := ⟨[[⟨10, 0, 0⟩]], 1, [], []⟩
theorem rest_chk : planChk restPl = 0 := by decide
def setPl : Pl := ⟨[[⟨1, 1, 4⟩]], 1, [⟨0, 1, 0⟩], []⟩
theorem set_chk : planChk setPl = 0 := by decide
theorem rest_laid {w : World} (s : Nat) (hz : w.heap.size = s) : PlanAt ((w.alloc (.cells #[.int .i64 10, .int .i64 0, .int .i64 0] 27)).alloc (.cells #[.slice (some ⟨s, 0, none⟩) 1 1] 22)) (onePM0 s (s + 1) [⟨10, 0, 0⟩] 1) := by
  refine one_plan0 (t1 := 27) (t2 := 22) ?_ ?_ (by decide) (by decide) (by simp [Op.Ok, Fits])
  · simp only [hp_alloc, sz_alloc, hz]; repeat (first | rw [if_pos True.intro] | rw [if_pos rfl] | rw [if_neg (by omega)])
    rfl
  · simp only [hp_alloc, sz_alloc, hz]; repeat (first | rw [if_pos True.intro] | rw [if_pos rfl] | rw [if_neg (by omega)])
    rfl
theorem below2 {w : World} (o1 o2 : Obj) : Below w.heap.size w ((w.alloc o1).alloc o2) := ((Below.refl _ _).alloc (Nat.le_refl _) _).alloc (by simp) _
theorem rest_new {w : World} (hf : Forms w) (s : Nat) (hz : w.heap.size = s) :
    Calls Tryd.prog 33 #[.agg #[.slice (some ⟨s + 1, 0, none⟩) 1 1, .int .i64 1, .slice none 0 0, .slice none 0 0]] ((w.alloc (.cells #[.int .i64 10, .int .i64 0, .int .i64 0] 27)).alloc (.cells #[.slice (some ⟨s, 0, none⟩) 1 1] 22)) (KNew w restPl) := by
  have hb := below2 (w := w) (.cells #[.int .i64 10, .int .i64 0, .int .i64 0] 27) (.cells #[.slice (some ⟨s, 0, none⟩) 1 1] 22)
  refine (new_run _ (onePM0 s (s + 1) [⟨10, 0, 0⟩] 1) (hf.new hb) (rest_laid s hz) rest_chk).mono ?_
  rintro e w' ⟨kb, M, h4, h5⟩
  exact ⟨kb, M, h4, h5.base hb⟩
def SeeNone (w : World) (e : Ending) (w' : World) : Prop := ∃ A c, e = .returned (.tuple #[.agg #[.int .i64 0, .int .i64 0, .int .i64 0, .int .i64 0, .int .i64 0, .int .i64 0, .int .i64 0, .bool false], .slice A 0 c, .nilIface]) ∧ Below w.heap.size w w'
theorem rest_see {w0 w : World} {kb : Nat} {M : KM} (h : KRun w0 w kb restPl M (kNew restPl)) (hf : Forms w) (s : Nat) (hz : w.heap.size = s) :
    Calls Tryd.prog 46 #[.pointer (some ⟨kb, 0, none⟩), .agg #[.slice (some ⟨s + 1, 0, none⟩) 1 1, .int .i64 1, .slice none 0 0, .slice none 0 0], .int .i64 0] ((w.alloc (.cells #[.int .i64 10, .int .i64 0, .int .i64 0] 27)).alloc (.cells #[.slice (some ⟨s, 0, none⟩) 1 1] 22)) (SeeNone w) := by
  have hb := below2 (w := w) (.cells #[.int .i64 10, .int .i64 0, .int .i64 0] 27) (.cells #[.slice (some ⟨s, 0, none⟩) 1 1] 22)
  refine Calls.mono (sight_of (room := 0) (s := St.zero) (h.new hb) (onePM0 s (s + 1) [⟨10, 0, 0⟩] 1) (hf.new hb) (rest_laid s hz) rfl rest_chk (kNew_ok (planChk_ok rest_chk)) rfl) ?_
  rintro e w' ⟨A, c, hs, h1, h2, h3⟩
  have h4 : hs = [] := List.map_eq_nil_iff.1 h3
  subst h4
  exact ⟨A, c, h1, hb.trans (h2.grow.below.mono hb.size)⟩
def RunSet (w : World) (e : Ending) (w' : World) : Prop := ∃ b off c, e = .returned (.tuple #[.slice (some ⟨b, off, none⟩) 2 c, .nilIface]) ∧ w'.cell? ⟨b, off + 8 + 1 + 1, none⟩ = some (.int .i64 4) ∧ 2 ≤ c ∧ c ≤ maxLen ∧ Below w.heap.size w w'
theorem set_run {w : World} (hf : Forms w) (s : Nat) (hz : w.heap.size = s) :
    Calls Tryd.prog 45 #[.agg #[.slice (some ⟨s + 1, 0, none⟩) 1 1, .int .i64 1, .slice (some ⟨s + 1 + 1, 0, none⟩) 1 1, .slice none 0 0], .int .i64 1, .int .i64 0]
      (((w.alloc (.cells #[.int .i64 1, .int .i64 1, .int .i64 4] 27)).alloc (.cells #[.slice (some ⟨s, 0, none⟩) 1 1] 22)).alloc (.cells #[.int .i64 0, .int .i64 1, .int .i64 0] 83)) (RunSet w) := by
  obtain ⟨w3, hw3⟩ : ∃ w3, w3 = (((w.alloc (.cells #[.int .i64 1, .int .i64 1, .int .i64 4] 27)).alloc (.cells #[.slice (some ⟨s, 0, none⟩) 1 1] 22)).alloc (.cells #[.int .i64 0, .int .i64 1, .int .i64 0] 83)) := ⟨_, rfl⟩
  have hb : Below w.heap.size w w3 := by
    rw [hw3]; exact (((Below.refl _ _).alloc (Nat.le_refl _) _).alloc (by simp) _).alloc (by simp; omega) _
  have h1 : w3.heap[s]? = some (.cells #[.int .i64 1, .int .i64 1, .int .i64 4] 27 (0, 0)) := by
    rw [hw3]; simp only [hp_alloc, sz_alloc, hz]; repeat (first | rw [if_pos True.intro] | rw [if_pos rfl] | rw [if_neg (by omega)])
  have h2 : w3.heap[s + 1]? = some (.cells #[.slice (some ⟨s, 0, none⟩) 1 1] 22 (0, 0)) := by
    rw [hw3]; simp only [hp_alloc, sz_alloc, hz]; repeat (first | rw [if_pos True.intro] | rw [if_pos rfl] | rw [if_neg (by omega)])
  have h3 : w3.heap[s + 1 + 1]? = some (.cells #[.int .i64 0, .int .i64 1, .int .i64 0] 83 (0, 0)) := by
    rw [hw3]; simp only [hp_alloc, sz_alloc, hz]; repeat (first | rw [if_pos True.intro] | rw [if_pos rfl] | rw [if_neg (by omega)])
  have hp : PlanAt w3 (onePM s (s + 1) (s + 1 + 1) [⟨1, 1, 4⟩] 1 [⟨0, 1, 0⟩]) := one_plan h1 h2 h3 (by decide) (by decide) (by decide) (by simp [Op.Ok, Fits]) (by simp [Span.Ok, Fits])
  rw [← hw3]
  refine Calls.mono (sight_run w3 (onePM s (s + 1) (s + 1 + 1) [⟨1, 1, 4⟩] 1 [⟨0, 1, 0⟩]) 1 0 (hf.new hb) hp set_chk (by decide) (show 0 < 1 by decide)) ?_
  rintro e w' ⟨A, c, g1, g2, _, g4⟩
  have hg : (statesTo setPl 0 2)[1]? = some (stAtT setPl 0 1) := statesTo_get _ _ 2 1 (by decide)
  have hs : stAtT setPl 0 1 = ⟨0, 0, 4, 0, 0, 0, 0, false⟩ := by rfl
  rw [hs] at hg
  obtain ⟨b, off, cur, rfl, hh, hsz, hi, hnc, hcm, hx⟩ := g2.elem St.cells St.len (by decide) hg
  exact ⟨b, off, c, g1, (blk_cell hh _).trans (hx 2 _ rfl), hnc, hcm, hb.trans (g4.mono hb.size)⟩

theorem Helds.inn {w wr : World} {A : Option Addr} {n c : Nat} {hs : List Hm} (h : Helds w wr A n c hs) : HeldsIn wr A n c hs := ⟨h.grow.row, fun g hg => ⟨(h.each g hg).1, (h.each g hg).2.1⟩⟩
/-- What a room sees, its length by a name. -/
def SightN (w : World) (pc s0 s1 s2 s3 s4 s5 : Int) (f : Bool) (vals : List (List Int × Int)) (e : Ending) (w' : World) : Prop :=
  ∃ A c n hs, e = .returned (.tuple #[.agg #[.int .i64 pc, .int .i64 s0, .int .i64 s1, .int .i64 s2, .int .i64 s3, .int .i64 s4, .int .i64 s5, .bool f], .slice A n c, .nilIface]) ∧ n = hs.length ∧ Helds w w' A n c hs ∧ hs.map Hm.val = vals
theorem SightOf.n {w w' : World} {pc s0 s1 s2 s3 s4 s5 : Int} {f : Bool} {vals : List (List Int × Int)} {e : Ending} (h : SightOf w ⟨pc, s0, s1, s2, s3, s4, s5, f⟩ vals e w') : SightN w pc s0 s1 s2 s3 s4 s5 f vals e w' := by
  obtain ⟨A, c, hs, h1, h2, h3⟩ := h
  exact ⟨A, c, hs.length, hs, h1, rfl, h2, h3⟩
theorem seen_few {room : Int} {l : List Ln} : (seen room l).length ≤ l.length := by
  unfold seen; rw [List.length_map]; exact List.length_filter_le _ _
theorem putAt_heap {w : World} {b T : Nat} {v : Array Value} (h : w.heap[b]? = some (.cells v T (0, 0))) (hv : v.size = 8) (t : St) : (putAt w b 0 t).heap[b]? = some (.cells #[.int .i64 t.pc, .int .i64 t.c0, .int .i64 t.c1, .int .i64 t.c2, .int .i64 t.c3, .int .i64 t.c4, .int .i64 t.c5, .bool t.failed] T (0, 0)) := by
  obtain ⟨v⟩ := v
  match v, hv with
  | [a, b, c, d, e, f, g, i], _ =>
    unfold putAt
    simp [hp_set, h, setObj]
/-- The loop's relation: both are right, and at the beginning the room sees the same. -/
structure SsRel (p : Pl) (R i : Nat) (k m : Kst) : Prop where
  okk : KOk p k i
  okm : KOk p m i
  time : k.time = m.time
  first : i = 0 → k.rooms[R]? = m.rooms[R]? ∧ seen R k.lines = seen R m.lines
set_option maxHeartbeats 8000000 in
theorem sightSame_walk {w : World} (hf : Forms w) (m : PM) (hm : PlanAt w m) (r n cell v : Int) (_fr : Fits r) (_fn : Fits n) (_fc : Fits cell) (_fv : Fits v) :
    Calls Tryd.prog 12 #[.agg #[.slice m.A m.ros.length m.c, .int .i64 m.ticks, .slice m.sA m.spans.length m.sc, .slice m.wA m.wires.length m.wc], .int .i64 r, .int .i64 n, .int .i64 cell, .int .i64 v] w fun e w' => e = .returned (.bool true) ∧ Below w.heap.size w w' := by
  have HF := hid hf
  have HM := hid hm
  obtain ⟨nr, hnr⟩ : ∃ nr, m.ros.length = nr := ⟨_, rfl⟩
  obtain ⟨ns, hns⟩ : ∃ ns, m.spans.length = ns := ⟨_, rfl⟩
  obtain ⟨nw, hnw⟩ : ∃ nw, m.wires.length = nw := ⟨_, rfl⟩
  rw [hnr, hns, hnw]
  have HNR := hid hnr
  have HNS := hid hns
  have HNW := hid hnw
  obtain ⟨W1, hW1⟩ : ∃ W1, W1 = w.alloc (.cells #[.slice m.A nr m.c, .int .i64 m.ticks, .slice m.sA ns m.sc, .slice m.wA nw m.wc] 70) := ⟨_, rfl⟩
  have hz1 : W1.heap.size = w.heap.size + 1 := by rw [hW1]; simp
  have hb1 : Below w.heap.size w W1 := by rw [hW1]; exact (Below.refl _ _).alloc (Nat.le_refl _) _
  have hbox : W1.heap[w.heap.size]? = some (.cells #[.slice m.A nr m.c, .int .i64 m.ticks, .slice m.sA ns m.sc, .slice m.wA nw m.wc] 70 (0, 0)) := by rw [hW1]; exact heap_alloc_new w _
  have HZ1 := hid hz1
  have HB1 := hid hb1
  have HBOX := hid hbox
  clear hz1 hb1 hbox hf hm hnr hns hnw
  go_enter Tryd.func12, Tryd.ntmps12
  go_wp2_with fail
  rw [← hW1]
  clear hW1
  have hnew := rest_new (HF.out.new HB1.out) (w.heap.size + 1) HZ1.out
  refine hnew.mono ?_
  clear hnew
  rintro e w1 ⟨kb1, M1, rfl, hr1⟩
  have HR1 := hid hr1
  clear hr1
  go_wp2_with fail
  have hsee := rest_see HR1.out (HF.out.new (HB1.out.trans (HR1.out.below.mono HB1.out.size))) w1.heap.size rfl
  refine Calls.mono hsee ?_
  clear hsee
  rintro e w2 ⟨A2, c2, rfl, hb2⟩
  have HB2 := hid (HR1.out.below.trans (hb2.mono HR1.out.below.size))
  clear hb2 HR1
  go_wp2_with fail
  have hrun := set_run (w := w2.alloc (.cells #[.int .i64 0, .int .i64 0, .int .i64 0, .int .i64 0, .int .i64 0, .int .i64 0, .int .i64 0, .bool false] 25)) ((HF.out.new (HB1.out.trans (HB2.out.mono HB1.out.size))).new ((Below.refl _ _).alloc (Nat.le_refl _) _)) (w2.heap.size + 1) (by simp)
  refine Calls.mono hrun ?_
  clear hrun
  rintro e w3 ⟨b3, off3, c3, rfl, h14, hnc3, hcm3, hb3⟩
  have HB3 := hid (HB2.out.trans (((Below.refl _ _).alloc (Nat.le_refl _) _ |>.trans (hb3.mono (by simp))).mono HB2.out.size))
  have hlt14 := cell_lt h14
  unfold maxLen at hcm3
  clear hb3 HB2
  go_upto_region 8 with fail
  clear h14 hlt14 hnc3 hcm3
  have hbx := (HB3.out.block w.heap.size (by have := HZ1.out; omega)).trans HBOX.out
  have HW3 := hid (HB1.out.trans (HB3.out.mono (by have := HZ1.out; omega)))
  have HBX3 := hid hbx
  have x0 := blk_cell hbx 0
  have x1 := blk_cell hbx 1
  have x2 := blk_cell hbx 2
  have x3 := blk_cell hbx 3
  have hltx := blk_lt hbx
  simp at x0 x1 x2 x3
  clear hbx
  by_cases he : planChk m.pl = 0
  · have hnew := new_run w3 m (HF.out.new HW3.out) (HM.out.new HW3.out) he
    have hp := planChk_ok he
    have hnr := HNR.out
    have hns := HNS.out
    have hnw := HNW.out
    rw [hnr, hns, hnw] at hnew
    have HNEW := hid hnew
    have HE := hid he
    have HP := hid hp
    have hnr5 : nr ≤ 5 := by have h := hp.most5; simp only [PM.pl, List.length_map, hnr] at h; exact h
    have hnr1 : 1 ≤ nr := by have h := hp.some1; simp only [PM.pl, List.length_map, hnr] at h; exact h
    have hcl : m.pl.code.length = nr := by simp only [PM.pl, List.length_map, hnr]
    have HCL := hid hcl
    clear hnew hnr hns hnw hp he hcl
    go_wp2_with fail
    refine (HNEW.out).mono ?_
    rintro e w4 ⟨kb, M4, rfl, hr4⟩
    have HR4 := hid hr4
    have hbx := (hr4.below.block w.heap.size (blk_lt HBX3.out)).trans HBX3.out
    have HBX4 := hid hbx
    clear x0 x1 x2 x3 hltx HNEW
    have x0 := blk_cell hbx 0
    have x1 := blk_cell hbx 1
    have x2 := blk_cell hbx 2
    have x3 := blk_cell hbx 3
    have hltx := blk_lt hbx
    simp at x0 x1 x2 x3
    have HW4 := hid (HW3.out.trans (hr4.below.mono HW3.out.size))
    have hnew := new_run w4 m (HF.out.new HW4.out) (HM.out.new HW4.out) HE.out
    have hnr := HNR.out
    have hns := HNS.out
    have hnw := HNW.out
    rw [hnr, hns, hnw] at hnew
    have HNEW := hid hnew
    clear hnew hnr hns hnw hr4 hbx
    go_wp2_with fail
    refine (HNEW.out).mono ?_
    rintro e w5 ⟨mb, N5, rfl, hr5⟩
    have HPR := hid (KPair.mk' HR4.out.g hr5.g)
    have hbx := (hr5.below.block w.heap.size (blk_lt HBX4.out)).trans HBX4.out
    have HBX5 := hid hbx
    clear x0 x1 x2 x3 hltx HNEW
    have x0 := blk_cell hbx 0
    have hltx := blk_lt hbx
    simp at x0
    have HW5 := hid (HW4.out.trans (hr5.below.mono HW4.out.size))
    clear hr5 hbx HBX4 HW4
    by_cases hr0 : r < 0
    · go_wp2_with fail
      go_ret
      exact ⟨rfl, HW5.out⟩
    by_cases hr1 : (nr : Int) ≤ r
    · have hr0' : 0 ≤ r := by omega
      clear hr0
      go_wp2_with fail
      go_ret
      exact ⟨rfl, HW5.out⟩
    obtain ⟨R, rfl⟩ : ∃ R : Nat, r = R := ⟨r.toNat, by omega⟩
    have hRn : R < nr := by omega
    have d2 : decide (nr ≤ R) = false := decide_eq_false (by omega)
    have d3 : decide ((nr : Int) ≤ (R : Int)) = false := decide_eq_false (by omega)
    clear hr0 hr1
    go_upto_region 13 with fail
    obtain ⟨O, hO⟩ : ∃ O : Nat, ((R : Int) + 1) % (nr : Int) = O := ⟨(((R : Int) + 1) % (nr : Int)).toNat, by have := Int.emod_nonneg ((R : Int) + 1) (show (nr : Int) ≠ 0 by omega); omega⟩
    have hOn : O < nr := by have := Int.emod_lt_of_pos ((R : Int) + 1) (show (0 : Int) < nr by omega); omega
    rw [hO]
    clear hO x0 hltx
    by_cases hOR : O = R
    · subst hOR
      go_wp2_with fail
      go_ret
      exact ⟨rfl, HW5.out⟩
    have e1 : ((O : Int) == (R : Int)) = false := by simp; omega
    have e1' : (O == R) = false := by simpa using hOR
    have hk0 : KOk m.pl (kNew m.pl) 0 := kNew_ok HP.out
    have hkl : (kNew m.pl).rooms.length = nr := by rw [hk0.rooms, HCL.out]
    have HKL := hid hkl
    have HK0 := hid hk0
    by_cases hpk : pokeOk nr O cell v = true
    · have hpo := kpoke_ok (O : Int) cell v (by rw [hkl]; exact hnr5) HPR.out.b.kat (by rw [hkl]; exact hpk)
      have hok1 := poke_right hk0 (r := (O : Int)) (c := cell) (v := v) (by rw [hkl]; exact hpk)
      have hfar : (pokeK (kNew m.pl) O cell v).rooms[R]? = (kNew m.pl).rooms[R]? := poke_far (by omega)
      have hlin : (pokeK (kNew m.pl) O cell v).lines = (kNew m.pl).lines := rfl
      have htim : (pokeK (kNew m.pl) O cell v).time = (kNew m.pl).time := rfl
      obtain ⟨P0, hP0⟩ : ∃ P0, P0 = pokeK (kNew m.pl) O cell v := ⟨_, rfl⟩
      rw [← hP0] at hpo hok1 hfar hlin htim
      have HPO := hid hpo
      have HOK1 := hid hok1
      have HFAR := hid hfar
      have HLIN := hid hlin
      have HTIM := hid htim
      clear hpo hok1 hfar hlin htim hP0 hpk hk0 hkl hOR
      go_wp2_with fail
      refine Calls.mono HPO.out ?_
      rintro e w6 ⟨rfl, hka6, hk6, hs6⟩
      have HP6 := hid (HPR.out.goB (HPR.out.b.poked hka6 hk6) hk6 (fun j hj => .inl hj))
      clear hka6 hk6 hs6 HPO
      go_wp2_with fail
      clear e1 e1'
      go_loopw [23] (fun v23 wr => ∃ (i : Nat) (M : KM) (k : Kst) (N : KM) (m' : Kst), i ≤ 80 ∧ v23 = .int .i64 i ∧ KPair 137 125 48 137 125 48 w3 wr kb m.pl M k mb m.pl N m' ∧ SsRel m.pl R i k m') (fun v23 _ => 80 - (intOf v23).toNat)
      case atStart => exact ⟨0, M4, kNew m.pl, N5, P0, by omega, rfl, HP6.out, ⟨HK0.out, HOK1.out, HTIM.out.symm, fun _ => ⟨HFAR.out.symm, by rw [HLIN.out]⟩⟩⟩
      case round =>
        obtain ⟨i, M, k, N, m', hi, rfl, hpr, hrel'⟩ := hrel
        have HPP := hid hpr
        have HREL := hid hrel'
        clear hpr hrel' HP6 HPR HOK1 HFAR HLIN HTIM HK0 HKL
        have HWR := hid (HW3.out.trans (HPP.out.a.below.mono HW3.out.size))
        have HBXR := hid ((HPP.out.a.below.block w.heap.size (blk_lt HBX3.out)).trans HBX3.out)
        by_cases hin : (i : Int) < n
        · by_cases h80 : i < 80
          · have hkl : R < k.rooms.length := by rw [HREL.out.okk.rooms, HCL.out]; exact hRn
            have hml : R < m'.rooms.length := by rw [HREL.out.okm.rooms, HCL.out]; exact hRn
            obtain ⟨sk, hsk⟩ : ∃ sk, k.rooms[R]? = some sk := ⟨_, List.getElem?_eq_getElem hkl⟩
            obtain ⟨sm, hsm⟩ : ∃ sm, m'.rooms[R]? = some sm := ⟨_, List.getElem?_eq_getElem hml⟩
            have hofa : ∀ w', Below wr.heap.size wr w' → Calls Tryd.prog 46 #[.pointer (some ⟨kb, 0, none⟩), .agg #[.slice m.A nr m.c, .int .i64 m.ticks, .slice m.sA ns m.sc, .slice m.wA nw m.wc], .int .i64 R] w' (SightOf w' sk (seen R k.lines)) := fun w' hb => by
              have h := sight_of (HPP.out.a.new hb).run m (HF.out.new (HWR.out.trans (hb.mono HWR.out.size))) (HM.out.new (HWR.out.trans (hb.mono HWR.out.size))) rfl HE.out HREL.out.okk hsk
              rw [HNR.out, HNS.out, HNW.out] at h
              exact h
            have hofb : ∀ w', Below wr.heap.size wr w' → Calls Tryd.prog 46 #[.pointer (some ⟨mb, 0, none⟩), .agg #[.slice m.A nr m.c, .int .i64 m.ticks, .slice m.sA ns m.sc, .slice m.wA nw m.wc], .int .i64 R] w' (SightOf w' sm (seen R m'.lines)) := fun w' hb => by
              have h := sight_of (HPP.out.b.new hb).run m (HF.out.new (HWR.out.trans (hb.mono HWR.out.size))) (HM.out.new (HWR.out.trans (hb.mono HWR.out.size))) rfl HE.out HREL.out.okm hsm
              rw [HNR.out, HNS.out, HNW.out] at h
              exact h
            have hlk : (seen R k.lines).length ≤ 12 := by have h1 := seen_few (room := R) (l := k.lines); rw [lines_len HREL.out.okk] at h1; have := wires_few HP.out; omega
            have hlm : (seen R m'.lines).length ≤ 12 := by have h1 := seen_few (room := R) (l := m'.lines); rw [lines_len HREL.out.okm] at h1; have := wires_few HP.out; omega
            have hi0 : ¬ (sk = sm ∧ seen R k.lines = seen R m'.lines) → 0 < i := fun h => by
              rcases Nat.eq_zero_or_pos i with h0 | h0
              · exfalso
                have h1 := HREL.out.first h0
                rw [hsk, hsm] at h1
                exact h ⟨Option.some.inj h1.1, h1.2⟩
              · exact h0
            have HOA := hid hofa
            have HOB := hid hofb
            have HSK := hid hsk
            have HSM := hid hsm
            have HLK := hid hlk
            have HLM := hid hlm
            have HI0 := hid hi0
            have x0 := blk_cell HBXR.out 0
            have x1 := blk_cell HBXR.out 1
            have x2 := blk_cell HBXR.out 2
            have x3 := blk_cell HBXR.out 3
            have hltx := blk_lt HBXR.out
            simp at x0 x1 x2 x3
            clear hofa hofb hsk hsm hlk hlm hkl hml hi0
            have HSKM := hid (state_neq sk sm)
            obtain ⟨pk, k0, k1, k2, k3, k4, k5, fk⟩ := sk
            obtain ⟨pm, m0, m1, m2, m3, m4, m5, fm⟩ := sm
            go_wp2_with fail
            refine Calls.mono (HOA.out _ (Below.refl _ _)) ?_
            intro e w7 h7
            obtain ⟨A7, c7, n7, hs7, rfl, hn7, hh7, hv7⟩ := h7.n
            have HH7 := hid hh7
            have HV7 := hid hv7
            have HN7 := hid hn7
            have hbx := (hh7.grow.below.block w.heap.size hltx).trans HBXR.out
            have HB7 := hid hh7.grow.below
            clear h7 hh7 hv7 hn7 x0 x1 x2 x3 hltx
            have x0 := blk_cell hbx 0
            have x1 := blk_cell hbx 1
            have x2 := blk_cell hbx 2
            have x3 := blk_cell hbx 3
            have hltx := blk_lt hbx
            simp at x0 x1 x2 x3
            have HBX7 := hid hbx
            clear hbx
            go_wp2_with fail
            have hba : Below w7.heap.size w7 (w7.alloc (.cells #[.int .i64 pk, .int .i64 k0, .int .i64 k1, .int .i64 k2, .int .i64 k3, .int .i64 k4, .int .i64 k5, .bool fk] 25)) := (Below.refl _ _).alloc (Nat.le_refl _) _
            refine Calls.mono (HOB.out _ (HB7.out.trans (hba.mono HB7.out.size))) ?_
            intro e w8 h8
            obtain ⟨A8, c8, n8, hs8, rfl, hn8, hh8, hv8⟩ := h8.n
            have HH8 := hid hh8
            have HV8 := hid hv8
            have HN8 := hid hn8
            have hb78 : Below w7.heap.size w7 w8 := hba.trans (hh8.grow.below.mono hba.size)
            have hbx := (hb78.block w.heap.size hltx).trans HBX7.out
            have h24 := (hh8.grow.below.block w7.heap.size (by simp)).trans (heap_alloc_new w7 _)
            have a0 := blk_cell h24 0
            have a1 := blk_cell h24 1
            have a2 := blk_cell h24 2
            have a3 := blk_cell h24 3
            have a4 := blk_cell h24 4
            have a5 := blk_cell h24 5
            have a6 := blk_cell h24 6
            have a7 := blk_cell h24 7
            have hlta := blk_lt h24
            simp at a0 a1 a2 a3 a4 a5 a6 a7
            have HB8 := hid (HB7.out.trans (hb78.mono HB7.out.size))
            have HB78 := hid hb78
            have H24 := hid h24
            have HBX8 := hid hbx
            clear h8 hh8 hv8 hn8 x0 x1 x2 x3 hltx hb78 hbx h24 hba
            by_cases hss : (⟨pk, k0, k1, k2, k3, k4, k5, fk⟩ : St) = ⟨pm, m0, m1, m2, m3, m4, m5, fm⟩
            · cases hss
              have hneq : ∀ w, (binOp .neq 25 (.agg #[.int .i64 pk, .int .i64 k0, .int .i64 k1, .int .i64 k2, .int .i64 k3, .int .i64 k4, .int .i64 k5, .bool fk]) (.agg #[.int .i64 pk, .int .i64 k0, .int .i64 k1, .int .i64 k2, .int .i64 k3, .int .i64 k4, .int .i64 k5, .bool fk])).run Tryd.prog w = .ok (.bool false) w := fun w => by
                have := HSKM.out w
                rw [stEq_refl] at this; exact this
              have hgd := state_guard
              obtain ⟨w9, hw9⟩ : ∃ w9, w9 = w8.alloc (.cells #[.int .i64 pk, .int .i64 k0, .int .i64 k1, .int .i64 k2, .int .i64 k3, .int .i64 k4, .int .i64 k5, .bool fk] 25) := ⟨_, rfl⟩
              have hb89 : Below w8.heap.size w8 w9 := by rw [hw9]; exact (Below.refl _ _).alloc (Nat.le_refl _) _
              have hin7 := ((HH7.out.new HB78.out).new hb89).inn
              have hin8 := (HH8.out.new hb89).inn
              have hl7 : n7 ≤ 12 := by have := congrArg List.length HV7.out; rw [List.length_map] at this; have := HLK.out; have := HN7.out; omega
              have hl8 : n8 ≤ 12 := by have := congrArg List.length HV8.out; rw [List.length_map] at this; have := HLM.out; have := HN8.out; omega
              have hhs := helds_same A7 A8 n7 n8 c7 c8 hs7 hs8 w9 hin7 hin8 (by omega) (by omega)
              rw [HV7.out, HV8.out] at hhs
              by_cases hse : seen R k.lines = seen R m'.lines
              · rw [eqB_true hse] at hhs
                have HHS := hid hhs
                have HSE := hid hse
                have HB9 := hid (HB8.out.trans (hb89.mono HB8.out.size))
                have HB89 := hid hb89
                have h27 : w9.heap[w8.heap.size]? = some (.cells #[.int .i64 pk, .int .i64 k0, .int .i64 k1, .int .i64 k2, .int .i64 k3, .int .i64 k4, .int .i64 k5, .bool fk] 25 (0, 0)) := by rw [hw9]; exact heap_alloc_new _ _
                have H27 := hid h27
                clear hhs hse hin7 hin8 hl7 hl8 h27 hb89
                go_wp2_with fail
                rw [← hw9]
                clear hw9
                refine Calls.mono HHS.out ?_
                rintro e wa ⟨rfl, hba⟩
                have HBA := hid (HB9.out.trans (hba.mono HB9.out.size))
                have HPA := hid (HPP.out.new (HB9.out.trans (hba.mono HB9.out.size)))
                have H24a := hid (((HB89.out.trans (hba.mono HB89.out.size)).block _ hlta).trans H24.out)
                have H27a := hid ((hba.block _ (blk_lt H27.out)).trans H27.out)
                have HBXa := hid (((HB89.out.trans (hba.mono HB89.out.size)).block _ (blk_lt HBX8.out)).trans HBX8.out)
                clear hba a0 a1 a2 a3 a4 a5 a6 a7 hlta
                have hsee := tick_see HP.out HREL.out.okk HREL.out.okm HREL.out.time (HSK.out.trans HSM.out.symm) HSE.out
                have hka := tick_run HPA.out.a.run HP.out HREL.out.okk (by omega)
                have hok1 := tick_ok HP.out HREL.out.okk (spans_ok HP.out)
                have hok2 := tick_ok HP.out HREL.out.okm (spans_ok HP.out)
                have hkb := fun (w' : World) (N' : KM) (h : KRun w3 w' mb m.pl N' m') => tick_run h HP.out HREL.out.okm (by omega)
                unfold tick at hsee hka hkb
                generalize tickBy m.pl m.pl.spans k = qa at hsee hka hok1
                generalize tickBy m.pl m.pl.spans m' = qb at hsee hkb hok2
                obtain ⟨⟨ta, ra, ca, va⟩, ka⟩ := qa
                obtain ⟨⟨tb, rb, cb, vb⟩, kb'⟩ := qb
                simp only [] at hsee hok1 hok2
                obtain ⟨hs1, hs2, hs3⟩ := hsee
                subst hs1
                have HKA := hid hka
                have HKB := hid hkb
                have HS2 := hid hs2
                have HS3 := hid hs3
                have HO1 := hid hok1
                have HO2 := hid hok2
                clear hka hkb hs2 hs3 hok1 hok2
                go_wp2_with fail
                refine Calls.mono HKA.out ?_
                rintro e wb ⟨M1, rfl, hr1, hk1, hf1⟩
                have HP1 := hid (HPA.out.goA hr1.g hk1 hf1)
                have hf1' := hf1
                obtain ⟨wb', hwb'⟩ : ∃ wb', wb' = wb.alloc (.cells #[.int .i64 ta, .int .i64 ra, .int .i64 ca, .int .i64 va] 77) := ⟨_, rfl⟩
                have hbb : Below wb.heap.size wb wb' := by rw [hwb']; exact (Below.refl _ _).alloc (Nat.le_refl _) _
                have h30 : wb'.heap[wb.heap.size]? = some (.cells #[.int .i64 ta, .int .i64 ra, .int .i64 ca, .int .i64 va] 77 (0, 0)) := by rw [hwb']; exact heap_alloc_new _ _
                have HP1' := hid (HP1.out.new hbb)
                have HK1 := hid hk1
                have HBB := hid hbb
                have H30 := hid h30
                clear hr1 hk1 hf1 hbb h30
                go_wp2_with fail
                rw [← hwb']
                clear hwb'
                refine Calls.mono (HKB.out _ _ HP1'.out.b.run) ?_
                rintro e wc ⟨N1, rfl, hr2, hk2, hf2⟩
                have HP2 := hid (HP1'.out.goB hr2.g hk2 hf2)
                have hka : ∀ j, KF kb M j → j < wr.heap.size := fun j hj => HPP.out.a.kat.lt j (.inl hj)
                have hkb : ∀ j, KF mb N j → j < wr.heap.size := fun j hj => HPP.out.b.kat.lt j (.inl hj)
                have sa := HBA.out.size
                have s7 := HB7.out.size
                have s8 := HB8.out.size
                have s78 := HB78.out.size
                have hold : ∀ j, j < wa.heap.size → ¬ KF kb M j → ¬ KF mb N j → wc.heap[j]? = wa.heap[j]? := fun j hj h1 h2 => by
                  have q1 := HK1.out.size
                  have q2 := HBB.out.size
                  rw [hk2.block j (by omega) h2, HBB.out.block j (by omega), HK1.out.block j hj h1]
                have H24c := hid ((hold w7.heap.size (blk_lt H24a.out) (fun h => by have := hka _ h; omega) (fun h => by have := hkb _ h; omega)).trans H24a.out)
                have H27c := hid ((hold w8.heap.size (blk_lt H27a.out) (fun h => by have := hka _ h; omega) (fun h => by have := hkb _ h; omega)).trans H27a.out)
                have hwlt : w.heap.size < w3.heap.size := blk_lt HBX3.out
                have HBXc := hid ((hold w.heap.size (blk_lt HBXa.out) (fun h => by have := HPP.out.a.fresh _ (.inl h); omega) (fun h => by have := HPP.out.b.fresh _ (.inl h); omega)).trans HBXa.out)
                have h30c := (hk2.block wb.heap.size (blk_lt H30.out) (fun h => by have := hkb _ h; have := HK1.out.size; omega)).trans H30.out
                have H30c := hid h30c
                have z0 := blk_cell h30c 0
                have z1 := blk_cell h30c 1
                have z2 := blk_cell h30c 2
                have z3 := blk_cell h30c 3
                have hltz := blk_lt h30c
                simp at z0 z1 z2 z3
                have SA : Hid (∀ j, TF kb M1 j → j ≠ w7.heap.size ∧ j ≠ w8.heap.size) := fun j hj => by
                  rcases hf1' j hj with h5 | h5
                  · have := HPP.out.a.kat.lt j h5; omega
                  · have := blk_lt H27a.out; have := blk_lt H24a.out; omega
                have SB : Hid (∀ j, TF mb N1 j → j ≠ w7.heap.size ∧ j ≠ w8.heap.size) := fun j hj => by
                  rcases hf2 j hj with h5 | h5
                  · have := HPP.out.b.kat.lt j h5; omega
                  · have := blk_lt H27a.out; have := blk_lt H24a.out; have := HK1.out.size; have := HBB.out.size; omega
                have s37 : w3.heap.size ≤ wr.heap.size := HPP.out.a.below.size
                have HS378 : Hid (w3.heap.size ≤ w7.heap.size ∧ w3.heap.size ≤ w8.heap.size) := by show _ ∧ _; omega
                clear hr2 hk2 hf2 hka hkb sa s7 s8 s78 hold hwlt h30c s37
                by_cases hroom : ra = R
                · subst hroom
                  obtain ⟨hev, hst⟩ := HS3.out rfl
                  cases hev
                  have hen := event_neq ⟨ta, (R : Int), ca, va⟩
                  have heg := event_guard
                  simp only [] at hen
                  obtain ⟨wd, hwd⟩ : ∃ wd, wd = wc.alloc (.cells #[.int .i64 ta, .int .i64 R, .int .i64 ca, .int .i64 va] 77) := ⟨_, rfl⟩
                  have hbd : Below wc.heap.size wc wd := by rw [hwd]; exact (Below.refl _ _).alloc (Nat.le_refl _) _
                  have HPD := hid (HP2.out.new hbd)
                  have H24d := hid ((hbd.block _ (blk_lt H24c.out)).trans H24c.out)
                  have H27d := hid ((hbd.block _ (blk_lt H27c.out)).trans H27c.out)
                  have x0 := blk_cell HBXc.out 0
                  have x1 := blk_cell HBXc.out 1
                  have x2 := blk_cell HBXc.out 2
                  have x3 := blk_cell HBXc.out 3
                  have hltx := blk_lt HBXc.out
                  simp at x0 x1 x2 x3
                  have HBXd := hid ((hbd.block _ hltx).trans HBXc.out)
                  have hkl : R < ka.rooms.length := by rw [HO1.out.rooms, HCL.out]; exact hRn
                  obtain ⟨sn, hsn⟩ : ∃ sn, ka.rooms[R]? = some sn := ⟨_, List.getElem?_eq_getElem hkl⟩
                  have hsn2 : kb'.rooms[R]? = some sn := by rw [← hst]; exact hsn
                  have hoa := sight_of HPD.out.a.run m (HF.out.new (HW3.out.trans (HPD.out.a.below.mono HW3.out.size))) (HM.out.new (HW3.out.trans (HPD.out.a.below.mono HW3.out.size))) rfl HE.out HO1.out hsn
                  have hob := fun (w' : World) (N' : KM) (h : KRun w3 w' mb m.pl N' kb') => sight_of h m (HF.out.new (HW3.out.trans (h.below.mono HW3.out.size))) (HM.out.new (HW3.out.trans (h.below.mono HW3.out.size))) rfl HE.out HO2.out hsn2
                  rw [HNR.out, HNS.out, HNW.out] at hoa
                  simp only [HNR.out, HNS.out, HNW.out] at hob
                  have HOA2 := hid hoa
                  have HOB2 := hid hob
                  have hneq2 : ∀ w, (binOp .neq 25 (.agg #[.int .i64 sn.pc, .int .i64 sn.c0, .int .i64 sn.c1, .int .i64 sn.c2, .int .i64 sn.c3, .int .i64 sn.c4, .int .i64 sn.c5, .bool sn.failed]) (.agg #[.int .i64 sn.pc, .int .i64 sn.c0, .int .i64 sn.c1, .int .i64 sn.c2, .int .i64 sn.c3, .int .i64 sn.c4, .int .i64 sn.c5, .bool sn.failed])).run Tryd.prog w = .ok (.bool false) w := fun w => by
                    have := state_neq sn sn w
                    rw [stEq_refl] at this; exact this
                  clear hoa hob hsn hsn2 hst hkl hneq hbd
                  obtain ⟨pn, n0, n1, n2, n3, n4, n5, fn⟩ := sn
                  simp only [] at hneq2
                  go_wp2_with fail
                  rw [← hwd]
                  clear hwd hen heg z0 z1 z2 z3 hltz x0 x1 x2 x3 hltx
                  refine Calls.mono HOA2.out ?_
                  intro e we h9
                  obtain ⟨A9, c9, n9, hs9, rfl, _, hh9, _⟩ := h9.n
                  have hbe := hh9.grow.below
                  have h24 := (hbe.block _ (blk_lt H24d.out)).trans H24d.out
                  have h27 := (hbe.block _ (blk_lt H27d.out)).trans H27d.out
                  have hbx := (hbe.block _ (blk_lt HBXd.out)).trans HBXd.out
                  have HPE := hid (HPD.out.new hbe)
                  have a0 := blk_cell h24 0
                  have a1 := blk_cell h24 1
                  have a2 := blk_cell h24 2
                  have a3 := blk_cell h24 3
                  have a4 := blk_cell h24 4
                  have a5 := blk_cell h24 5
                  have a6 := blk_cell h24 6
                  have a7 := blk_cell h24 7
                  have af := fun j => blk_free h24 j
                  have hlta := blk_lt h24
                  have x0 := blk_cell hbx 0
                  have x1 := blk_cell hbx 1
                  have x2 := blk_cell hbx 2
                  have x3 := blk_cell hbx 3
                  have hltx := blk_lt hbx
                  simp at a0 a1 a2 a3 a4 a5 a6 a7 x0 x1 x2 x3
                  have hne : w.heap.size ≠ w7.heap.size := by have := HB7.out.size; have := HWR.out.size; have := blk_lt HBXR.out; omega
                  have H24e := hid h24
                  have H27e := hid h27
                  have HBXe := hid hbx
                  clear h9 hh9 hbe h24 h27 hbx
                  go_wp2_with fail
                  obtain ⟨wf, hwf⟩ : ∃ wf, wf = putAt we w7.heap.size 0 ⟨pn, n0, n1, n2, n3, n4, n5, fn⟩ := ⟨_, rfl⟩
                  have hkf : Keep (fun j => j = w7.heap.size) we wf := by rw [hwf]; exact putAt_keep _ _ _ _
                  have h24 : wf.heap[w7.heap.size]? = some (.cells #[.int .i64 pn, .int .i64 n0, .int .i64 n1, .int .i64 n2, .int .i64 n3, .int .i64 n4, .int .i64 n5, .bool fn] 25 (0, 0)) := by rw [hwf]; exact putAt_heap H24e.out rfl _
                  have hne2 : w8.heap.size ≠ w7.heap.size := by have := blk_lt H24.out; omega
                  have h27 := (hkf.block _ (blk_lt H27e.out) hne2).trans H27e.out
                  have HPF := hid (HPE.out.far hkf (fun j hj e => (SA.out j hj).1 e) (fun j hj e => (SB.out j hj).1 e) (fun _ e => by have := HS378.out.1; omega))
                  have H24f := hid h24
                  have H27f := hid h27
                  unfold putAt at hwf
                  simp only [Nat.zero_add] at hwf
                  rw [← hwf]
                  clear hwf hkf h24 h27 a0 a1 a2 a3 a4 a5 a6 a7 af hlta x0 x1 x2 x3 hltx hne
                  refine Calls.mono (HOB2.out wf N1 HPF.out.b.run) ?_
                  intro e wg h10
                  obtain ⟨A10, c10, n10, hs10, rfl, _, hh10, _⟩ := h10.n
                  have hbg := hh10.grow.below
                  have h24 := (hbg.block _ (blk_lt H24f.out)).trans H24f.out
                  have h27 := (hbg.block _ (blk_lt H27f.out)).trans H27f.out
                  have HPG := hid (HPF.out.new hbg)
                  have a0 := blk_cell h24 0
                  have a1 := blk_cell h24 1
                  have a2 := blk_cell h24 2
                  have a3 := blk_cell h24 3
                  have a4 := blk_cell h24 4
                  have a5 := blk_cell h24 5
                  have a6 := blk_cell h24 6
                  have a7 := blk_cell h24 7
                  have hlta := blk_lt h24
                  have b0 := blk_cell h27 0
                  have b1 := blk_cell h27 1
                  have b2 := blk_cell h27 2
                  have b3 := blk_cell h27 3
                  have b4 := blk_cell h27 4
                  have b5 := blk_cell h27 5
                  have b6 := blk_cell h27 6
                  have b7 := blk_cell h27 7
                  have bf := fun j => blk_free h27 j
                  have hltb := blk_lt h27
                  simp at a0 a1 a2 a3 a4 a5 a6 a7 b0 b1 b2 b3 b4 b5 b6 b7
                  have hne3 : w7.heap.size ≠ w8.heap.size := fun e => hne2 e.symm
                  have HLAST := hid (HPG.out.far (putAt_keep wg w8.heap.size 0 ⟨pn, n0, n1, n2, n3, n4, n5, fn⟩) (fun j hj e => (SA.out j hj).2 e) (fun j hj e => (SB.out j hj).2 e) (fun _ e => by have := HS378.out.2; omega))
                  clear h10 hh10 hbg h24 h27 hne2
                  go_wp2_with fail
                  go_roundw
                  case rel => exact ⟨i + 1, M1, ka, N1, kb', by omega, by go_num, (by have h := HLAST.out; unfold putAt at h; simpa only [Nat.zero_add] using h), ⟨HO1.out, HO2.out, HS2.out, fun h => by omega⟩⟩
                  case measure => simp [intOf]; omega
                · have e3 : (ra == (R : Int)) = false := by simpa using hroom
                  clear hroom
                  go_wp2_with fail
                  go_roundw
                  case rel => exact ⟨i + 1, M1, ka, N1, kb', by omega, by go_num, HP2.out.new ((Below.refl _ _).alloc (Nat.le_refl _) _), ⟨HO1.out, HO2.out, HS2.out, fun h => by omega⟩⟩
                  case measure => simp [intOf]; omega
              · rw [eqB_false hse] at hhs
                have HHS := hid hhs
                have hi1 : 0 < i := HI0.out fun h => hse h.2
                have HB9 := hid (HB8.out.trans (hb89.mono HB8.out.size))
                clear hhs hse hin7 hin8 hl7 hl8 hb89
                go_wp2_with fail
                rw [← hw9]
                clear hw9
                refine Calls.mono HHS.out ?_
                rintro e wa ⟨rfl, hba⟩
                go_wp2_with fail
                go_ret
                exact ⟨rfl, HWR.out.trans ((HB9.out.trans (hba.mono HB9.out.size)).mono HWR.out.size)⟩
            · have hneq : ∀ w, (binOp .neq 25 (.agg #[.int .i64 pk, .int .i64 k0, .int .i64 k1, .int .i64 k2, .int .i64 k3, .int .i64 k4, .int .i64 k5, .bool fk]) (.agg #[.int .i64 pm, .int .i64 m0, .int .i64 m1, .int .i64 m2, .int .i64 m3, .int .i64 m4, .int .i64 m5, .bool fm])).run Tryd.prog w = .ok (.bool true) w := fun w => by
                have := HSKM.out w
                rw [stEq_ne hss] at this; exact this
              have hgd := state_guard
              have hi1 : 0 < i := HI0.out fun h => hss h.1
              clear hss
              go_wp2_with fail
              go_ret
              exact ⟨rfl, HWR.out.trans ((HB8.out.alloc HB8.out.size _).mono HWR.out.size)⟩
          · have h60 : (80 : Int) ≤ (i : Int) := by omega
            have e60 : decide ((i : Int) < 80) = false := decide_eq_false (by omega)
            clear h80
            go_wp2_with fail
            go_ret
            exact ⟨rfl, HWR.out⟩
        · have h60 : n ≤ (i : Int) := by omega
          have e60 : decide ((i : Int) < n) = false := decide_eq_false (by omega)
          clear hin
          go_wp2_with fail
          go_ret
          exact ⟨rfl, HWR.out⟩
    · have hpo := kpoke_bad (O : Int) cell v (by rw [hkl]; exact hnr5) HPR.out.b.kat (by rw [hkl]; simpa using hpk)
      rw [errV_pos (by decide)] at hpo
      have HPO := hid hpo
      clear hpo hpk hk0 hkl hOR
      go_wp2_with fail
      refine Calls.mono HPO.out ?_
      rintro e w6 ⟨rfl, rfl⟩
      go_wp2_with fail
      go_ret
      exact ⟨rfl, HW5.out⟩
  · have hnew := kern_new_bad w3 m (HF.out.new HW3.out) (HM.out.new HW3.out) he
    have hnr := HNR.out
    have hns := HNS.out
    have hnw := HNW.out
    rw [hnr, hns, hnw, errV_pos he] at hnew
    have hn2 : ∀ w', Below w3.heap.size w3 w' → Calls Tryd.prog 33 #[.agg #[.slice m.A nr m.c, .int .i64 m.ticks, .slice m.sA ns m.sc, .slice m.wA nw m.wc]] w' fun e w'' => e = .returned (.tuple #[.pointer none, .iface 119 (.int .i64 (planChk m.pl))]) ∧ Below w'.heap.size w' w'' := fun w' hb => by
      have h := kern_new_bad w' m ((HF.out.new HW3.out).new hb) ((HM.out.new HW3.out).new hb) he
      rw [hnr, hns, hnw, errV_pos he] at h
      exact h
    have HNEW := hid hnew
    have HN2 := hid hn2
    clear hnew hn2 hnr hns hnw he
    go_wp2_with fail
    refine (HNEW.out).mono ?_
    rintro e w4 ⟨rfl, hb4⟩
    have hbx := (hb4.block w.heap.size hltx).trans HBX3.out
    have HB4 := hid hb4
    clear x0 x1 x2 x3 hltx hb4
    have x0 := blk_cell hbx 0
    have x1 := blk_cell hbx 1
    have x2 := blk_cell hbx 2
    have x3 := blk_cell hbx 3
    simp at x0 x1 x2 x3
    clear hbx
    go_wp2_with fail
    refine (HN2.out _ HB4.out).mono ?_
    rintro e w5 ⟨rfl, hb5⟩
    have HB5 := hid (HB4.out.trans (hb5.mono HB4.out.size))
    clear hb5 x0 x1 x2 x3
    go_wp2_with fail
    go_ret
    exact ⟨rfl, HW3.out.trans (HB5.out.mono HW3.out.size)⟩
end Go.Proofs.YtnighanlonkjbaaDoor
