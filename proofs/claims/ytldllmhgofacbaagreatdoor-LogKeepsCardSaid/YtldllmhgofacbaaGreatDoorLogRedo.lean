/- The walks of framelaw3.redo and framelaw3.alike: the reference's kernel of steps that were taken; is a log as a kernel? -/
import Derived.Test.YtldllmhgofacbaaGreatDoorRKernU
import Derived.Test.YtldllmhgofacbaaGreatDoorLogGU
import Derived.Test.YtldllmhgofacbaaGreatDoorOpen2
import Derived.Deep.DeepCutAuto
import Derived.Deep.CutBlock
namespace Go.Proofs.YtldllmhgofacbaaGreatDoor
open Go.RowKit
set_option maxRecDepth 100000

/-- The record of a step's numbers. -/
def recI (xs : List Int) : Lrec := if xs.length = 1 then .go (xs.getD 0 0).toNat else .poke (xs.getD 0 0).toNat (xs.getD 1 0).toNat (xs.getD 2 0).toNat
def StepOk (R : Nat) (xs : List Int) : Prop := if xs.length = 1 then 0 ≤ xs.getD 0 0 ∧ xs.getD 0 0 ≤ 100 else pokeOk R (xs.getD 0 0) (xs.getD 1 0) (xs.getD 2 0) = true
theorem recI_ok {R : Nat} {xs : List Int} (h : StepOk R xs) : (recI xs).ok R := by
  unfold StepOk at h
  unfold recI
  split
  · rename_i h1
    rw [if_pos h1] at h
    show (xs.getD 0 0).toNat ≤ 100
    omega
  · rename_i h1
    rw [if_neg h1] at h
    have h3 : 0 ≤ xs.getD 0 0 ∧ xs.getD 0 0 < R ∧ 0 ≤ xs.getD 1 0 ∧ xs.getD 1 0 < 6 ∧ 0 ≤ xs.getD 2 0 ∧ xs.getD 2 0 < 1000 := by unfold pokeOk at h; exact of_decide_eq_true h
    refine ⟨?_, ?_, ?_⟩ <;> omega
def Il.recd (y : Il) : Lrec := recI y.l
/-- The numbers that lie in the array when so many are copied. -/
def vAt (xs : List Int) (j i : Nat) : Int := if i < j then xs.getD i 0 else 0
def vObj (xs : List Int) (j : Nat) : Obj := .cells #[.int .i64 (vAt xs j 0), .int .i64 (vAt xs j 1), .int .i64 (vAt xs j 2)] 93 (0, 0)
theorem v_start (xs : List Int) : vObj xs 0 = .cells #[.int .i64 0, .int .i64 0, .int .i64 0] 93 (0, 0) := rfl
theorem v_end {xs : List Int} {j : Nat} (h : j = 3 ∨ (j ≤ 3 ∧ j = xs.length)) : vObj xs j = .cells #[.int .i64 (xs.getD 0 0), .int .i64 (xs.getD 1 0), .int .i64 (xs.getD 2 0)] 93 (0, 0) := by
  have H : ∀ i, i < 3 → vAt xs j i = xs.getD i 0 := fun i hi => by
    unfold vAt
    rcases h with rfl | ⟨h1, h2⟩
    · rw [if_pos hi]
    · by_cases hj : i < j
      · rw [if_pos hj]
      · rw [if_neg hj, List.getD_eq_getElem?_getD, List.getElem?_eq_none (by omega)]; rfl
  unfold vObj
  rw [H 0 (by decide), H 1 (by decide), H 2 (by decide)]
theorem v_next {xs : List Int} {j : Nat} (hj : j < 3) {wr : World} {vb : Nat} (h : wr.heap[vb]? = some (vObj xs j)) : (wr.setCell ⟨vb, j, none⟩ (.int .i64 (xs.getD j 0))).heap[vb]? = some (vObj xs (j + 1)) := by
  unfold vObj at h
  have h1 := blk_set h j (.int .i64 (xs.getD j 0))
  refine h1.trans ?_
  unfold vObj vAt
  rcases (show j = 0 ∨ j = 1 ∨ j = 2 by omega) with rfl | rfl | rfl <;> rfl

/-- The reference's kernel, and a step's own numbers beside it. -/
structure RIn (w wr : World) (kb vb : Nat) (p : Pl) (o : Obj) (k : Kst) (M : KM) : Prop where
  run : RRun w wr kb p M k
  arr : wr.heap[vb]? = some o
  na : ¬ TF kb M vb
section
variable {w wr w3 : World} {kb vb : Nat} {p : Pl} {o : Obj} {k k' : Kst} {M M' : KM}
theorem RIn.lt (h : RIn w wr kb vb p o k M) : vb < wr.heap.size := (Array.getElem?_eq_some_iff.1 h.arr).1
theorem RIn.go (h : RIn w wr kb vb p o k M) (h1 : RRun w w3 kb p M' k') (h3 : Keep (KF kb M) wr w3) (h4 : ∀ j, TF kb M' j → TF kb M j ∨ wr.heap.size ≤ j) : RIn w w3 kb vb p o k' M' :=
  ⟨h1, (h3.block _ h.lt fun hj => h.na (.inl hj)).trans h.arr, fun hj => (h4 _ hj).elim h.na fun h5 => by have := h.lt; omega⟩
theorem RIn.start {w6 wx : World} (h : RRun w wr kb p M k) (hv : vb = wr.heap.size) (hb : Below wr.heap.size wr w6) (hk : Keep (fun j => j = vb) w6 wx) (ha : wx.heap[vb]? = some o) : RIn w wx kb vb p o k M := by
  have h6 := h.new hb
  have hB := h.kat.lt
  have hbx : Below w.heap.size w wx := Keep.below (F := NoF) ((Keep.of_below NoF h6.below).then hk fun j hj hf => by have := h.below.size; omega) (Nat.le_refl _) (fun _ h => h.elim)
  exact ⟨⟨h6.kat.through hk fun j hj hf => by have := hB j hj; omega, h6.plan, h6.fresh, hbx⟩, ha, fun hj => by have := hB _ hj; omega⟩
end
theorem recs_next {D : List Il} {i : Nat} {y : Il} (h : D[i]? = some y) (p : Pl) : runRecs p ((D.take (i + 1)).map Il.recd) = doRec p (runRecs p ((D.take i).map Il.recd)) y.recd := by
  rw [List.take_add_one, h]
  simp only [Option.toList, List.map_append, List.map_cons, List.map_nil]
  exact runRecs_snoc _ _ _

set_option maxHeartbeats 8000000 in
theorem rredo_any (w : World) (m : PM) (hm : PlanAt w m) (he : planChk m.pl = 0) (A : Option Addr) (c : Nat) (D : List Il) (hs : Sl w A 1 D.length (D.flatMap Il.cells)) (hD : ∀ y ∈ D, y.At w ∧ StepOk m.pl.code.length y.l) (hn : D.length ≤ 1000) :
    Calls Tryz.prog 52 #[.agg #[.slice m.A m.ros.length m.c, .int .i64 m.ticks, .slice m.sA m.spans.length m.sc, .slice m.wA m.wires.length m.wc], .slice A D.length c] w fun e w' => ∃ kb M, e = .returned (.pointer (some ⟨kb, 0, none⟩)) ∧ RRun w w' kb m.pl M (runRecs m.pl (D.map Il.recd)) ∧ M.P = m := by
  obtain ⟨w1, hw1⟩ : ∃ w1, w1 = w.alloc (.cells #[.slice m.A m.ros.length m.c, .int .i64 m.ticks, .slice m.sA m.spans.length m.sc, .slice m.wA m.wires.length m.wc] 26) := ⟨_, rfl⟩
  have hb1 : Below w.heap.size w w1 := by rw [hw1]; exact (Below.refl _ _).alloc (Nat.le_refl _) _
  have hbox : w1.heap[w.heap.size]? = some (.cells #[.slice m.A m.ros.length m.c, .int .i64 m.ticks, .slice m.sA m.spans.length m.sc, .slice m.wA m.wires.length m.wc] 26 (0, 0)) := by rw [hw1]; exact heap_alloc_new w _
  have hrk := rnew_run w1 m (hm.new hb1) he
  unfold RNewd at hrk
  obtain ⟨nr, hnr⟩ : ∃ nr, m.ros.length = nr := ⟨_, rfl⟩
  obtain ⟨ns, hns⟩ : ∃ ns, m.spans.length = ns := ⟨_, rfl⟩
  obtain ⟨nw, hnw⟩ : ∃ nw, m.wires.length = nw := ⟨_, rfl⟩
  rw [hnr, hns, hnw] at hw1 hbox hrk ⊢
  obtain ⟨N, hN⟩ : ∃ N, D.length = N := ⟨_, rfl⟩
  rw [hN] at hs hn ⊢
  have HRK := hid hrk
  have HN := hid hN
  have HB1 := hid hb1
  have HS := hid hs
  have HD := hid hD
  have HP := hid (planChk_ok he)
  have hrm : m.pl.code.length ≤ 5 := (planChk_ok he).most5
  have HRM := hid hrm
  have x0 := blk_cell hbox 0
  have x1 := blk_cell hbox 1
  have x2 := blk_cell hbox 2
  have x3 := blk_cell hbox 3
  have hlt := blk_lt hbox
  simp at x0 x1 x2 x3
  clear hrk hN hb1 hs hD hm he hbox hnr hns hnw hrm
  go_enter Tryz.func52, Tryz.ntmps52
  go_upto_region 1 with fail
  rw [← hw1]
  clear hw1
  go_wp2_with (go_at_call 25; refine HRK.out.mono ?_; rintro e w2 ⟨kb, M, rfl, hr, hMP⟩; have HR := hid (hr.base HB1.out); have HMP := hid hMP; clear hr hMP HRK x0 x1 x2 x3 hlt)
  go_loopw [6] (fun v6 wr => ∃ (i : Nat) (M : KM), i ≤ N ∧ v6 = .int .i64 i ∧ RRun w wr kb m.pl M (runRecs m.pl ((D.take i).map Il.recd)) ∧ M.P = m) (fun v6 _ => N - (intOf v6).toNat)
  case atStart => exact ⟨0, M, by omega, rfl, HR.out, HMP.out⟩
  case round =>
    as_aux_lemma =>
    obtain ⟨wo, rfl⟩ : ∃ wo : World, wo = wr := ⟨_, rfl⟩
    obtain ⟨i, M, hiN, rfl, hk, hmp⟩ := hrel
    have HK := hid hk
    have HMQ := hid hmp
    clear hk HR HMP hmp
    by_cases hin : i < N
    · have hil2 : i < D.length := by rw [HN.out]; exact hin
      have hget := List.getElem?_eq_getElem hil2
      obtain ⟨hyat, hyok⟩ := HD.out _ (List.getElem_mem hil2)
      obtain ⟨lb, lo, rfl, hlb, hlx⟩ := HS.out.2 (by omega)
      have hcell := flatMap_get Il.cells 1 Il.len D i 0 _ hget (by decide)
      rw [Nat.mul_one, Nat.add_zero] at hcell
      replace hcell := hlx i _ (hcell.trans rfl)
      have hnx := recs_next hget m.pl
      have hall : KOk m.pl (runRecs m.pl ((D.take i).map Il.recd)) (100 * (((D.take i).map Il.recd).length : Int)) := runRecs_ok HP.out fun x hx => by
        obtain ⟨y, hy, rfl⟩ := List.mem_map.1 hx
        exact recI_ok (HD.out y (List.mem_of_mem_take hy)).2
      have hlen : ((D.take i).map Il.recd).length = i := by rw [List.length_map, List.length_take]; omega
      rw [hlen] at hall
      obtain ⟨k, hk⟩ : ∃ k, k = runRecs m.pl ((D.take i).map Il.recd) := ⟨_, rfl⟩
      rw [← hk] at HK hnx hall
      generalize D[i] = y at hyat hyok hcell hnx
      have hcw : ∀ w', Below w.heap.size w w' → w'.cell? ⟨lb, lo + i, none⟩ = some (.slice y.A y.l.length y.c) := fun w' hb => (hb.cell (p := ⟨lb, lo + i, none⟩) hlb).trans hcell
      obtain ⟨ny, hny⟩ : ∃ ny, y.l.length = ny := ⟨_, rfl⟩
      rw [hny] at hcw
      have HCW := hid hcw
      have HYAT := hid hyat
      have HYOK := hid hyok
      have HNY := hid hny
      have HNX := hid hnx
      have HALL := hid hall
      clear hget hyat hlx hcell hcw hny hil2 hyok hnx hall hlen hk
      go_upto_block 2 with fail
      obtain ⟨w6, hw6⟩ : ∃ w6, w6 = wo.alloc (.cells #[.int .i64 0, .int .i64 0, .int .i64 0] 93) := ⟨_, rfl⟩
      rw [← hw6]
      obtain ⟨vb, hvb⟩ : ∃ vb, vb = wo.heap.size := ⟨_, rfl⟩
      rw [← hvb]
      have hb6 : Below wo.heap.size wo w6 := by rw [hw6]; exact (Below.refl _ _).alloc (Nat.le_refl _) _
      have hv6 : w6.heap[vb]? = some (vObj y.l 0) := by rw [hw6, hvb]; exact heap_alloc_new wo _
      have HV6 := hid hv6
      have HW6 := hid (HK.out.below.trans (hb6.mono HK.out.below.size))
      have hvw : w.heap.size ≤ vb := by rw [hvb]; exact HK.out.below.size
      have HB6 := hid hb6
      have HVB := hid hvb
      clear hw6 hb6 hv6 hvb
      go_cut [8] (fun v8 wx => (∃ j : Nat, v8 = .int .i64 j) ∧ wx.heap[vb]? = some (.cells #[.int .i64 (y.l.getD 0 0), .int .i64 (y.l.getD 1 0), .int .i64 (y.l.getD 2 0)] 93 (0, 0)) ∧ Keep (fun j => j = vb) w6 wx)
      case first =>
        as_aux_lemma =>
        go_wp2_with fail
        go_loopw [8] (fun v8 wr => ∃ j : Nat, j ≤ 3 ∧ j ≤ ny ∧ v8 = .int .i64 j ∧ wr.heap[vb]? = some (vObj y.l j) ∧ Keep (fun j => j = vb) w6 wr) (fun v8 _ => 3 - (intOf v8).toNat)
        case atStart => exact ⟨0, by omega, by omega, rfl, HV6.out, Keep.refl _ _⟩
        case round =>
          obtain ⟨wt, rfl⟩ : ∃ wt : World, wt = wr := ⟨_, rfl⟩
          obtain ⟨j, hj3, hjn, rfl, hvt, hkt⟩ := hrel
          have HVT := hid hvt
          have HKT := hid hkt
          have HOLD : Hid (∀ b, b < w.heap.size → wt.heap[b]? = w.heap[b]?) := fun b hb => (hkt.block b (Nat.lt_of_lt_of_le hb HW6.out.size) (by omega)).trans (HW6.out.block b hb)
          have y0 : wt.cell? ⟨lb, lo + i, none⟩ = some (.slice y.A ny y.c) := (World.cell?_of_block (HOLD.out lb hlb)).trans (HCW.out w (Below.refl _ _))
          have hltb := cell_lt y0
          clear hvt hkt
          by_cases hjy : j < ny
          · by_cases hj : j < 3
            · obtain ⟨yb, yo, hyA, hyb, hyx⟩ := HYAT.out.1.2 (by rw [HNY.out]; omega)
              have hjl : j < y.l.length := by rw [HNY.out]; exact hjy
              have hu : (y.l.flatMap fun a => [Value.int .i64 a])[j]? = some (.int .i64 (y.l.getD j 0)) := by
                have := flatMap_get (fun a : Int => [Value.int .i64 a]) 1 (fun _ => rfl) y.l j 0 _ (List.getElem?_eq_getElem hjl) (by decide)
                rw [Nat.mul_one, Nat.add_zero] at this
                rw [List.getD_eq_getElem?_getD, List.getElem?_eq_getElem hjl]
                exact this.trans rfl
              have z0 : wt.cell? ⟨yb, yo + j, none⟩ = some (.int .i64 (y.l.getD j 0)) := (World.cell?_of_block (HOLD.out yb hyb)).trans (hyx j _ hu)
              rw [hyA] at y0
              have hltz := cell_lt z0
              have hyv : yb ≠ vb := by omega
              have hlv : lb ≠ vb := by omega
              have hvt := HVT.out
              unfold vObj at hvt
              have gf := blk_free hvt j
              have hltv := blk_lt hvt
              obtain ⟨wx, hwx⟩ : ∃ wx, wx = wt.setCell ⟨vb, j, none⟩ (.int .i64 (y.l.getD j 0)) := ⟨_, rfl⟩
              have hkx : Keep (fun j => j = vb) w6 wx := by rw [hwx]; exact HKT.out.setCell (.inl rfl) _
              have hvx : wx.heap[vb]? = some (vObj y.l (j + 1)) := by rw [hwx]; exact v_next hj HVT.out
              have HKX := hid hkx
              have HVX := hid hvx
              have gj : ∃ g, wt.cell? ⟨vb, j, none⟩ = some g := by
                rcases (show j = 0 ∨ j = 1 ∨ j = 2 by omega) with rfl | rfl | rfl
                · exact ⟨_, blk_cell hvt 0⟩
                · exact ⟨_, blk_cell hvt 1⟩
                · exact ⟨_, blk_cell hvt 2⟩
              obtain ⟨g, gj⟩ := gj
              obtain ⟨u, hu2⟩ : ∃ u, u = y.l.getD j 0 := ⟨_, rfl⟩
              rw [← hu2] at z0 hwx
              clear hkx hvx hvt hu hyx hjl hyA hu2
              go_wp2_with fail
              rw [← hwx]
              go_roundw
              case rel => exact ⟨j + 1, by omega, by omega, by go_num, HVX.out, HKX.out⟩
              case measure => simp [intOf]; omega
            · obtain rfl : j = 3 := by omega
              go_wp2_with fail
              go_meet
              exact ⟨⟨3, rfl⟩, HVT.out.trans (by rw [v_end (.inl rfl)]), HKT.out⟩
          · have hd : decide ((j : Int) < (ny : Int)) = false := decide_eq_false (by omega)
            go_wp2_with fail
            go_meet
            exact ⟨⟨j, rfl⟩, HVT.out.trans (by rw [v_end (.inr ⟨hj3, by rw [HNY.out]; omega⟩)]), HKT.out⟩
      case rest =>
        as_aux_lemma =>
        obtain ⟨⟨j8, rfl⟩, hva, hkv⟩ := hcut
        have HIN := hid (RIn.start HK.out HVB.out HB6.out hkv hva)
        obtain ⟨a0, ha0⟩ : ∃ a0, y.l.getD 0 0 = a0 := ⟨_, rfl⟩
        obtain ⟨a1, ha1⟩ : ∃ a1, y.l.getD 1 0 = a1 := ⟨_, rfl⟩
        obtain ⟨a2, ha2⟩ : ∃ a2, y.l.getD 2 0 = a2 := ⟨_, rfl⟩
        have hok := HYOK.out
        unfold StepOk at hok
        have hrec : y.recd = recI y.l := rfl
        unfold recI at hrec
        rw [ha0, ha1, ha2] at HIN hok hrec
        rw [HNY.out] at hok hrec
        clear hva hkv ha0 ha1 ha2
        have hvals : Hid (∀ wx : World, wx.heap[vb]? = some (.cells #[.int .i64 a0, .int .i64 a1, .int .i64 a2] 93 (0, 0)) → wx.cell? ⟨vb, 0, none⟩ = some (.int .i64 a0) ∧ wx.cell? ⟨vb, 1, none⟩ = some (.int .i64 a1) ∧ wx.cell? ⟨vb, 2, none⟩ = some (.int .i64 a2)) := hid fun wx h => ⟨blk_cell h 0, blk_cell h 1, blk_cell h 2⟩
        obtain ⟨g0, g1, g2⟩ := hvals.out _ HIN.out.arr
        have hltv := HIN.out.lt
        have y0 := HCW.out _ HIN.out.run.below
        have hltb := cell_lt y0
        by_cases h1 : ny = 1
        · rw [if_pos h1] at hok hrec
          obtain ⟨hok0, hok1⟩ := hok
          obtain ⟨X, rfl⟩ : ∃ X : Nat, a0 = X := ⟨a0.toNat, by omega⟩
          rw [Int.toNat_natCast] at hrec
          rw [hrec] at HNX
          have hX : X ≤ 100 := by omega
          have HHR := hid hrec
          subst h1
          clear hrec hok0 hok1
          go_wp2_with fail
          go_loopw [9] (fun v9 wr => ∃ (t : Nat) (M' : KM), t ≤ X ∧ v9 = .int .i64 t ∧ RIn w wr kb vb m.pl (.cells #[.int .i64 X, .int .i64 a1, .int .i64 a2] 93 (0, 0)) (goK m.pl k t) M' ∧ M'.P = m) (fun v9 _ => X - (intOf v9).toNat)
          case atStart => exact ⟨0, M, by omega, rfl, HIN.out, HMQ.out⟩
          case round =>
            obtain ⟨wt, rfl⟩ : ∃ wt : World, wt = wr := ⟨_, rfl⟩
            obtain ⟨t, M', htX, rfl, hin2, hmp⟩ := hrel
            have HI := hid hin2
            have HMI := hid hmp
            clear g0 g1 g2 hltv y0 hltb hin2 hmp
            have g0 := (hvals.out _ HI.out.arr).1
            have hltv := HI.out.lt
            by_cases htx : t < X
            · have htk := rtick_run HI.out.run HP.out (goK_ok HP.out HALL.out t) (by omega)
              have HTK := hid htk
              unfold RGo at HTK
              clear htk
              go_wp2_with fail
              refine HTK.out.mono ?_
              rintro e w5 ⟨M2, rfl, hk2, hkeep, hfr, hmp2⟩
              have HI2 := hid (HI.out.go hk2 hkeep hfr)
              have HM2 := hid (hmp2.trans HMI.out)
              clear hk2 hkeep hfr hmp2
              go_wp2_with fail
              go_roundw
              case rel => exact ⟨t + 1, M2, by omega, by go_num, HI2.out, HM2.out⟩
              case measure => simp [intOf]; omega
            · obtain rfl : t = X := by omega
              go_wp2_with fail
              go_roundw
              case rel => exact ⟨i + 1, M', by omega, by go_num, by rw [HNX.out]; exact HI.out.run, HMI.out⟩
              case measure => simp [intOf]; omega
        · rw [if_neg h1] at hok hrec
          have h3 : 0 ≤ a0 ∧ a0 < m.pl.code.length ∧ 0 ≤ a1 ∧ a1 < 6 ∧ 0 ≤ a2 ∧ a2 < 1000 := by unfold pokeOk at hok; exact of_decide_eq_true hok
          have hpk : pokeOk k.rooms.length a0 a1 a2 = true := by rw [HALL.out.rooms]; exact hok
          have hrp := rpoke_ok a0 a1 a2 (by rw [HALL.out.rooms]; exact HRM.out) HIN.out.run.kat hpk
          have hdo : doRec m.pl k y.recd = pokeK k a0 a1 a2 := by
            rw [hrec]
            show pokeK k _ _ _ = _
            rw [Int.toNat_of_nonneg h3.1, Int.toNat_of_nonneg h3.2.2.1, Int.toNat_of_nonneg h3.2.2.2.2.1]
          have HDO := hid (HNX.out.trans hdo)
          have HRP := hid hrp
          unfold RPoked at HRP
          have h1b : ((ny : Int) == 1) = false := by rw [beq_eq_false_iff_ne]; omega
          have h1c : ¬ (ny : Int) = 1 := by omega
          clear hok hrec h3 hpk hrp hdo h1
          go_wp2_with fail
          refine HRP.out.mono ?_
          rintro e w5 ⟨rfl, hk5, hkp5, _⟩
          have HI5 := hid (HIN.out.run.ticked hk5 ⟨rfl, rfl⟩ hkp5 fun _ hj => .inl hj)
          clear hk5 hkp5 g0 g1 g2 hltv y0 hltb
          go_wp2_with fail
          go_roundw
          case rel => exact ⟨i + 1, M, by omega, by go_num, by rw [HDO.out]; exact HI5.out, HMQ.out⟩
          case measure => simp [intOf]; omega
    · obtain rfl : i = N := by omega
      have htk : D.take i = D := by rw [← HN.out, List.take_length]
      rw [htk] at HK
      clear htk
      go_wp2_with fail
      go_ret
      exact ⟨kb, M, rfl, HK.out, HMQ.out⟩
end Go.Proofs.YtldllmhgofacbaaGreatDoor
