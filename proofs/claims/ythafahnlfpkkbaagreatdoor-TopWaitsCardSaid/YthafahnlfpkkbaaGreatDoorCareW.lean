/- Package care: the contracts of help and Tick, for every care that is right. -/
import Derived.Test.YthafahnlfpkkbaaGreatDoorCareMem
import Derived.Test.YthafahnlfpkkbaaGreatDoorKernPut
import Derived.IntWalk
import Derived.Deep.DeepCutAuto
import Derived.StillTailTactics
namespace Go.Proofs.YthafahnlfpkkbaaGreatDoor
open Go.RowKit
set_option maxRecDepth 100000

theorem belowN {B : Nat} {a w : World} (h : Below B a w) (n : Nat) : Below B a (w.drewN n) := ⟨h.os, h.tape, h.output, h.size, h.block⟩
theorem CareAt.allocd {w w' : World} {cb : Nat} {p : Pl} {what : List Int} {most : Int} {C : CM} {c : Cst} (h : CareAt w cb p what most C c) (hb : Below w.heap.size w w') : Went w w' (careT cb p what most C c) (careT cb p what most C c) := Went.new h.lie hb
/-- A number of a row of numbers is put. -/
theorem row_put {w : World} {A : Option Addr} {n c : Nat} {l : List Int} (h : Row w 3 1 A n c (ints l)) {r : Nat} {x : Int} (hr : l[r]? = some x) :
    ∃ b off, A = some ⟨b, off, none⟩ ∧ b < w.heap.size ∧ w.cell? ⟨b, off + r, none⟩ = some (.int .i64 x) ∧ w.frozen? ⟨b, off + r, none⟩ = false ∧ r < n ∧ n ≤ c ∧ c ≤ maxLen ∧
      ∀ v, Row (w.setCell ⟨b, off + r, none⟩ (.int .i64 v)) 3 1 A n c (ints (l.set r v)) ∧ Keep (InA A) w (w.setCell ⟨b, off + r, none⟩ (.int .i64 v)) := by
  have hf : ∀ m : List Int, ints m = m.flatMap fun a => [Value.int .i64 a] := fun m => by
    unfold ints
    induction m with
    | nil => rfl
    | cons a t ih => simp only [List.map_cons, List.flatMap_cons, ih, List.singleton_append]
  rw [hf] at h
  obtain ⟨b, off, cur, hA, hh, hsz, hi, hnc, hcm, hx⟩ := h.elem (fun a : Int => [Value.int .i64 a]) (fun _ => rfl) (by decide) hr
  have h0 := hx 0 _ rfl
  rw [Nat.mul_one, Nat.add_zero] at h0
  refine ⟨b, off, hA, blk_lt hh, (blk_cell hh _).trans h0, blk_free hh _, hi, hnc, hcm, fun v => ⟨?_, (Keep.refl _ _).setCell (.inl (by rw [hA]; rfl)) _⟩⟩
  obtain ⟨b', off', hA', _, _, _, _, _, _, h9⟩ := h.put1 (fun a : Int => [Value.int .i64 a]) (fun _ => rfl) hr v (.int .i64 v) rfl
  rw [hA] at hA'
  cases hA'
  rw [hf]
  exact h9
section
variable {w : World} {cb : Nat} {p : Pl} {what : List Int} {most : Int} {C : CM} {c : Cst} {B : Int}
def CHelped (w : World) (cb : Nat) (p : Pl) (what : List Int) (most : Int) (C : CM) (c c' : Cst) (e : Ending) (w' : World) : Prop := e = .returned .nilIface ∧ Went w w' (careT cb p what most C c) (careT cb p what most C c')
set_option maxHeartbeats 4000000 in
theorem help_any (hp : PlOk p) (hk : COk p what most c B) (hwl : what.length = p.code.length) (hmo : most ≤ 100) (h : CareAt w cb p what most C c) (r : Nat) (hr : r < p.code.length) :
    Calls Tryz.prog 95 #[.pointer (some ⟨cb, 0, none⟩), .int .i64 r] w (CHelped w cb p what most C c (helpC p what most c r)) := by
  have hn5 := hp.most5
  obtain ⟨s, hs⟩ : ∃ s, c.k.rooms[r]? = some s := ⟨_, List.getElem?_eq_getElem (by rw [hk.k.rooms]; exact hr)⟩
  obtain ⟨ops, hc⟩ : ∃ ops, p.code[r]? = some ops := ⟨_, List.getElem?_eq_getElem hr⟩
  obtain ⟨x, hx⟩ : ∃ x, what[r]? = some x := ⟨_, List.getElem?_eq_getElem (by omega)⟩
  obtain ⟨y, hy⟩ : ∃ y, c.times[r]? = some y := ⟨_, List.getElem?_eq_getElem (by rw [hk.many]; exact hr)⟩
  have hyl := hk.least r y hy
  have hxd : what.getD r 0 = x := by rw [List.getD_eq_getElem?_getD, hx]; rfl
  have hyd : c.times.getD r 0 = y := by rw [List.getD_eq_getElem?_getD, hy]; rfl
  have hhc : helpC p what most c r = if due what c.times most r s = true then ⟨⟨c.k.rooms.set r (helped ops.length x s), c.k.lines, c.k.time⟩, c.times.set r (y + 1)⟩ else c := by
    unfold helpC
    rw [hs, hc, hxd, hyd]
  have hdue : due what c.times most r s = (s.failed && (!decide (x = 0) && !decide (most ≤ y))) := by unfold due; rw [hxd, hyd]
  rw [hhc, hdue]
  have hst := kstate_any (r : Int) (by rw [hk.k.rooms]; exact hn5) h.kat
  have h2 : stateOf c.k (r : Int) = (s, 0) := by
    unfold stateOf inB
    rw [if_pos (decide_eq_true (by rw [hk.k.rooms]; omega)), Int.toNat_natCast, List.getD_eq_getElem?_getD, hs]; rfl
  rw [h2] at hst
  unfold StateV at hst
  rw [errV_zero] at hst
  have hok := stOk_iff.1 (hk.k.states r ops s hc hs)
  have hcode := codeChk_ok (hp.codes ops (List.mem_of_getElem? hc))
  have HST := hid hst
  have HC := hid h
  have HS := hid hs
  have HX := hid hx
  have HY := hid hy
  obtain ⟨n, hn⟩ : ∃ n, n = what.length := ⟨_, rfl⟩
  have hrn : r < n := by omega
  have hn5' : n ≤ 5 := by omega
  obtain ⟨wb, wo, hwA, hwb, hwx⟩ := sl_int h.rules (i := r) (by omega) (by omega)
  obtain ⟨tb, tf, htA, htb, htx, htf, _, htc, htm, htp⟩ := row_put h.times hy
  have hwx' : w.cell? ⟨wb, wo + r, none⟩ = some (.int .i64 x) := by
    have := List.getElem?_eq_getElem (show r < what.length by omega)
    rw [hx] at this
    rw [hwx, ← Option.some.inj this]
  have hwc : n ≤ C.wc := by have := h.cap.1; omega
  have hwm : C.wc ≤ 9223372036854775807 := by have := h.cap.2; unfold maxLen at this; exact this
  obtain ⟨x0, x1, x2, x3, x4, x5, x6, x7, hlt⟩ := h.cells
  rw [hwA, ← hn] at x5
  rw [htA, ← hn] at x7
  rw [← hn] at htc
  have HFACT : Hid (∀ w', Below w.heap.size w w' → w'.cell? ⟨cb, 0, none⟩ = some (.pointer (some ⟨C.kb, 0, none⟩)) ∧ w'.cell? ⟨cb, 5, none⟩ = some (.slice (some ⟨wb, wo, none⟩) n C.wc) ∧ w'.cell? ⟨cb, 6, none⟩ = some (.int .i64 most) ∧ w'.cell? ⟨cb, 7, none⟩ = some (.slice (some ⟨tb, tf, none⟩) n C.tc) ∧
      w'.cell? ⟨wb, wo + r, none⟩ = some (.int .i64 x) ∧ w'.cell? ⟨tb, tf + r, none⟩ = some (.int .i64 y) ∧ w'.frozen? ⟨tb, tf + r, none⟩ = false) := fun w' hb =>
    ⟨(hb.cell (p := ⟨cb, 0, none⟩) hlt).trans x0, (hb.cell (p := ⟨cb, 5, none⟩) hlt).trans x5, (hb.cell (p := ⟨cb, 6, none⟩) hlt).trans x6, (hb.cell (p := ⟨cb, 7, none⟩) hlt).trans x7, (hb.cell (p := ⟨wb, wo + r, none⟩) hwb).trans hwx', (hb.cell (p := ⟨tb, tf + r, none⟩) htb).trans htx, (hb.frozen (p := ⟨tb, tf + r, none⟩) htb).trans htf⟩
  have HN := hid hn
  have HTP := hid htp
  have HTA := hid htA
  have HWA := hid hwA
  obtain ⟨Q, hQ⟩ : ∃ Q, Q = CHelped w cb p what most C c (if (s.failed && (!decide (x = 0) && !decide (most ≤ y))) = true then ⟨⟨c.k.rooms.set r (helped ops.length x s), c.k.lines, c.k.time⟩, c.times.set r (y + 1)⟩ else c) := ⟨_, rfl⟩
  rw [← hQ]
  have HQ := hid hQ
  have hrn' : (r : Int) < (n : Int) := by omega
  unfold maxLen at htm
  clear h2 hdue hhc hxd hyd h hn hwl hst hQ hx hy hs hwx hwx' htx htf htp htA hwA x1 x2 x3 x4 x5 x6 x7
  obtain ⟨pc, c0, c1, c2, c3, c4, c5, f⟩ := s
  unfold stV at HST
  simp only [] at HST HQ
  go_enter Tryz.func95, Tryz.ntmps95
  go_wp2_with fail
  refine HST.out.mono ?_
  rintro e w1 ⟨rfl, hb1⟩
  obtain ⟨w2, hw2⟩ : ∃ w2, w2 = w1.alloc (.cells #[.int .i64 pc, .int .i64 c0, .int .i64 c1, .int .i64 c2, .int .i64 c3, .int .i64 c4, .int .i64 c5, .bool f] 95) := ⟨_, rfl⟩
  have hb2 : Below w.heap.size w w2 := by rw [hw2]; exact hb1.alloc hb1.size _
  have hs2 : w2.heap[w1.heap.size]? = some (.cells #[.int .i64 pc, .int .i64 c0, .int .i64 c1, .int .i64 c2, .int .i64 c3, .int .i64 c4, .int .i64 c5, .bool f] 95 (0, 0)) := by rw [hw2]; exact heap_alloc_new _ _
  have hsz : w2.heap.size = w1.heap.size + 1 := by rw [hw2]; simp
  have hsw : w.heap.size ≤ w1.heap.size := hb1.size
  have HB2 := hid hb2
  have HS2 := hid hs2
  obtain ⟨a0, a5, a6, a7, ax, ay, af⟩ := HFACT.out _ hb2
  have g0 := blk_cell hs2 0
  have g7 := blk_cell hs2 7
  have hls := blk_lt hs2
  have hlc := cell_lt a0
  have hlw := cell_lt ax
  have hlt2 := cell_lt ay
  simp at g0 g7
  clear hb1 hb2 hs2 HFACT
  go_upto_region 2 with fail
  rw [← hw2]
  clear hw2
  cases f with
  | false =>
    go_quiet (fail)
    go_wp2_with fail
    (first | go_ret | skip)
    rw [HQ.out]
    exact ⟨rfl, HC.out.allocd (belowN HB2.out _)⟩
  | true =>
    by_cases hx0 : x = 0
    · subst hx0
      go_quiet (fail)
      go_wp2_with fail
      (first | go_ret | skip)
      rw [HQ.out]
      exact ⟨rfl, HC.out.allocd (belowN HB2.out _)⟩
    have ex : (x == 0) = false := by simpa using hx0
    have ex2 : decide (x = 0) = false := decide_eq_false hx0
    by_cases hm : most ≤ y
    · have em : decide (most ≤ y) = true := decide_eq_true hm
      go_quiet (fail)
      go_wp2_with fail
      (first | go_ret | skip)
      rw [HQ.out, em, ex2]
      exact ⟨rfl, HC.out.allocd (belowN HB2.out _)⟩
    have em : decide (most ≤ y) = false := decide_eq_false hm
    go_quiet (fail)
    obtain ⟨wq, hwq⟩ : ∃ wq, wq = w2.drewN nq := ⟨_, rfl⟩
    rw [← hwq]
    have HBQ : Hid (Below w.heap.size w wq) := by rw [hwq]; exact belowN HB2.out _
    have HSQ : Hid (wq.heap[w1.heap.size]? = some (.cells #[.int .i64 pc, .int .i64 c0, .int .i64 c1, .int .i64 c2, .int .i64 c3, .int .i64 c4, .int .i64 c5, .bool true] 95 (0, 0))) := by rw [hwq]; exact HS2.out
    have hszq : wq.heap.size = w1.heap.size + 1 := by rw [hwq]; exact hsz
    replace a7 : wq.cell? ⟨cb, 7, none⟩ = some (.slice (some ⟨tb, tf, none⟩) n C.tc) := by rw [hwq]; exact a7
    replace ay : wq.cell? ⟨tb, tf + r, none⟩ = some (.int .i64 y) := by rw [hwq]; exact ay
    replace af : wq.frozen? ⟨tb, tf + r, none⟩ = false := by rw [hwq]; exact af
    replace hlc : cb < wq.heap.size := cell_lt a7
    replace hlt2 : tb < wq.heap.size := cell_lt ay
    clear hwq a0 a5 a6 ax g0 g7 hls hlw HB2 HS2
    have hW2 := HC.out.allocd HBQ.out
    have hC2 := hW2.lie.here
    obtain ⟨tb', tf', hA', _, _, _, _, _, _, hput⟩ := row_put hC2.times HY.out
    rw [HTA.out] at hA'
    cases hA'
    obtain ⟨hr3, hk3⟩ := hput (y + 1)
    have hW3 := hW2.trans (hC2.goT hk3 hr3)
    have hs3 := (hk3.block w1.heap.size (blk_lt HSQ.out) (fun hj => by
      rw [HTA.out] at hj
      have : tb = w1.heap.size := by simpa [InA] using hj
      omega)).trans HSQ.out
    obtain ⟨w3, hw3⟩ : ∃ w3, w3 = wq.setCell ⟨tb, tf + r, none⟩ (.int .i64 (y + 1)) := ⟨_, rfl⟩
    rw [← hw3] at hW3 hs3
    have hsz3 : w3.heap.size = wq.heap.size := by rw [hw3, sz_set]
    have HW3 := hid hW3
    have HS3 := hid hs3
    have hC3 := hW3.lie.here
    have hy1 : y + 1 ≤ 100 := by omega
    have hap : ∀ j, j = w1.heap.size → ¬ (careT cb p what most C ⟨c.k, c.times.set r (y + 1)⟩).F j := fun j e hj => by
      subst e
      rcases (hC2.goT hk3 hr3).inF _ hj with h5 | h5
      · have := HC.out.lie.lt _ h5; omega
      · omega
    have HAP := hid hap
    clear hW2 hC2 hput hr3 hk3 hW3 hs3 hap
    go_upto_region 5 with fail
    rw [← hw3]
    obtain ⟨b0, b1, _, _, _, b5, _, _, hl3⟩ := hC3.cells
    rw [HWA.out, ← HN.out] at b5
    obtain ⟨wb', wo', hA', hwb3, bx⟩ := sl_int hC3.rules (i := r) (by have := HN.out; omega) (by have := HN.out; omega)
    rw [HWA.out] at hA'
    cases hA'
    have bx2 : w3.cell? ⟨wb, wo + r, none⟩ = some (.int .i64 x) := by
      have := List.getElem?_eq_getElem (show r < what.length by have := HN.out; omega)
      rw [HX.out] at this
      rw [bx, ← Option.some.inj this]
    have hC3p := hC3.pl
    have hc' := hc
    rw [← hC3p] at hc'
    simp only [PM.pl, List.getElem?_map, Option.map_eq_some_iff] at hc'
    obtain ⟨ro, hro, hrops⟩ := hc'
    have hrr := (List.getElem?_eq_some_iff.1 hro).1
    obtain ⟨pb, po, hpA, hpb, hpc⟩ := hC3.plan.rows.ro (Below.refl _ _) hro hrr
    have hpbw : pb ≠ w1.heap.size := by
      have := HC.out.plan.rows.lt (by omega) pb (by rw [hpA]; rfl)
      omega
    have hcbw : cb ≠ w1.heap.size := by omega
    have hat := hC3.plan.codes ro (List.mem_of_getElem? hro)
    have hprW := hC3.plan.rowsW
    have hprl : C.P.ros.length ≤ 5 := by
      have : C.P.ros.length = p.code.length := by rw [← hC3p]; simp [PM.pl]
      omega
    obtain ⟨nr, hnr⟩ : ∃ nr, nr = C.P.ros.length := ⟨_, rfl⟩
    obtain ⟨no, hno⟩ : ∃ no, no = ops.length := ⟨_, rfl⟩
    rw [hpA, ← hnr] at b1
    rw [hrops, ← hno] at hpc
    rw [← hnr] at hrr hprl
    have hps1 := hprW.1
    have hps2 := hprW.2.1
    rw [← hnr] at hps1
    have hno1 : 1 ≤ no := by rw [hno]; exact hcode.1
    have hno2 : no ≤ 20 := by rw [hno]; exact hcode.2.1
    have hpc0 : 0 ≤ pc ∧ pc < no := by rw [hno]; exact hok.1
    have hoW := hat.2.1
    rw [hrops, ← hno] at hoW
    have hoc1 := hoW.1
    have hoc2 := hoW.2.1
    unfold maxLen at hps2 hoc2
    rw [← hno] at HQ
    have HHC := hid hc
    have HNO := hid hno
    have g0 := blk_cell HS3.out 0
    have g7 := blk_cell HS3.out 7
    have gz := fun j => blk_free HS3.out j
    have hls := blk_lt HS3.out
    simp at g0 g7
    have hrr' : (r : Int) < (nr : Int) := by omega
    clear hC3 hC3p hro hrops hat hprW hno hnr hw3 a7 ay af bx hoW hcode hc
    go_upto_if 64 with fail
    go_cut [] (fun wx => Went w wx (careT cb p what most C c) (careT cb p what most C ⟨c.k, c.times.set r (y + 1)⟩) ∧ wx.heap[w1.heap.size]? = some (.cells (stV (helped no x ⟨pc, c0, c1, c2, c3, c4, c5, true⟩)) 95 (0, 0)))
    case first =>
      by_cases h1 : x = 1
      · subst h1
        have hh : helped no 1 ⟨pc, c0, c1, c2, c3, c4, c5, true⟩ = St.zero := by unfold helped; rw [if_pos rfl]
        have HH := hid hh
        clear hh
        go_wp2_with fail
        refine (room_new w3).mono ?_
        rintro e w4 ⟨rfl, hb4⟩
        unfold stV St.zero
        have hs4 := (hb4.block _ hls).trans HS3.out
        have z0 := blk_cell hs4 0
        have z1 := blk_cell hs4 1
        have z2 := blk_cell hs4 2
        have z3 := blk_cell hs4 3
        have z4 := blk_cell hs4 4
        have z5 := blk_cell hs4 5
        have z6 := blk_cell hs4 6
        have z7 := blk_cell hs4 7
        have zz := fun j => blk_free hs4 j
        have hlz := blk_lt hs4
        simp at z0 z1 z2 z3 z4 z5 z6 z7
        have hput := put0_heap hs4 rfl St.zero
        have hk4 := putAt_keep w4 w1.heap.size 0 St.zero
        have hW4 := (HW3.out.trans (Went.new HW3.out.lie hb4)).side hk4 (fun j e => by subst e; exact hsw) HAP.out
        have HPUT := hid hput
        have HW4 := hid hW4
        clear hput hk4 hW4 hs4 hb4
        go_wp2_with fail
        go_meet
        refine ⟨?_, ?_⟩
        · have h := HW4.out
          unfold putAt St.zero at h
          simpa only [Nat.zero_add] using h
        · have h := HPUT.out
          unfold putAt St.zero at h
          rw [HH.out]
          simpa only [Nat.zero_add, stV, St.zero] using h
      · have e1 : (x == 1) = false := by simpa using h1
        have hh : helped no x ⟨pc, c0, c1, c2, c3, c4, c5, true⟩ = ⟨(pc + 1) % no, c0, c1, c2, c3, c4, c5, false⟩ := by unfold helped; rw [if_neg h1]
        have HH := hid hh
        clear hh
        go_upto_region 7 with fail
        go_region
        all_goals
          go_wp2_with fail
          go_meet
          refine ⟨HW3.out.side (G := fun j => j = w1.heap.size) ((((Keep.refl (fun j => j = w1.heap.size) w3).setCell (.inl rfl) _).setCell (.inl rfl) _).drew) (fun j e => by subst e; exact hsw) HAP.out, ?_⟩
          rw [HH.out]
          show ((w3.setCell ⟨w1.heap.size, 7, none⟩ (.bool false)).setCell ⟨w1.heap.size, 0, none⟩ (.int .i64 ((pc + 1) % no))).heap[w1.heap.size]? = _
          rw [hp_set, if_pos rfl, hp_set, if_pos rfl, HS3.out]
          rfl
    case rest =>
      obtain ⟨hW4, hS4⟩ := hcut
      have hC4 := hW4.lie.here
      obtain ⟨b0, _, _, _, _, _, _, _, hl4⟩ := hC4.cells
      obtain ⟨t, ht⟩ : ∃ t, t = helped no x ⟨pc, c0, c1, c2, c3, c4, c5, true⟩ := ⟨_, rfl⟩
      rw [← ht] at hS4
      have HT := hid ht
      have hpu : ∀ w', Below wc.heap.size wc w' → Calls Tryz.prog 86 #[.pointer (some ⟨C.kb, 0, none⟩), .int .i64 r, .agg #[.int .i64 t.pc, .int .i64 t.c0, .int .i64 t.c1, .int .i64 t.c2, .int .i64 t.c3, .int .i64 t.c4, .int .i64 t.c5, .bool t.failed]] w' (KPut 146 205 148 w' C.kb C.K ⟨c.k.rooms.set r t, c.k.lines, c.k.time⟩) := fun w' hb => kput_any r ⟨pc, c0, c1, c2, c3, c4, c5, true⟩ t (by show c.k.rooms.length ≤ 5; rw [hk.k.rooms]; exact hn5) (hC4.new hb).kat HS.out
      have HPU := hid hpu
      have HW4 := hid hW4
      have HC4 := hid hC4
      have q0 := blk_cell hS4 0
      have q1 := blk_cell hS4 1
      have q2 := blk_cell hS4 2
      have q3 := blk_cell hS4 3
      have q4 := blk_cell hS4 4
      have q5 := blk_cell hS4 5
      have q6 := blk_cell hS4 6
      have q7 := blk_cell hS4 7
      have hlq := blk_lt hS4
      unfold stV at q0 q1 q2 q3 q4 q5 q6 q7
      simp at q0 q1 q2 q3 q4 q5 q6 q7
      clear ht hpu hC4 hW4 hS4
      go_upto_region 8 with fail
      go_region_with (go_at_call 86; refine (HPU.out _ (Below.refl _ _).drew).mono ?_; rintro e w9 ⟨rfl, hk9, hkp9⟩; have HK9 := hid hk9; have HKP9 := hid hkp9; clear hk9 hkp9)
      all_goals
        go_wp2_with fail
        (first | go_ret | skip)
        rw [HQ.out, em, ex2, if_pos (show (true && (!false && !false)) = true from rfl)]
        refine ⟨rfl, HW4.out.trans ?_⟩
        have h := (HC4.out.new (Below.refl _ _).drew).goK HK9.out ⟨rfl, rfl⟩ HKP9.out fun _ hj => .inl hj
        rw [HT.out] at h
        exact ⟨h.lie, (Keep.of_below _ (Below.refl _ _).drew).then h.keep fun _ _ h => h, h.inF, h.inW⟩
def CTicked (w : World) (cb : Nat) (p : Pl) (what : List Int) (most : Int) (C : CM) (c : Cst) (q : Ev × Cst) (e : Ending) (w' : World) : Prop :=
  ∃ C', e = .returned (.agg #[.int .i64 q.1.tick, .int .i64 q.1.room, .int .i64 q.1.pc, .int .i64 q.1.what]) ∧ Went w w' (careT cb p what most C c) (careT cb p what most C' q.2)
set_option maxHeartbeats 4000000 in
theorem ctick_any (hp : PlOk p) (hk : COk p what most c B) (hB : B < 4611686018427387904) (hwl : what.length = p.code.length) (hmo : most ≤ 100) (h : CareAt w cb p what most C c) :
    Calls Tryz.prog 35 #[.pointer (some ⟨cb, 0, none⟩)] w (CTicked w cb p what most C c (careTick p what most c)) := by
  have HP := hid hp
  have HK := hid hk
  have HC := hid h
  have HTURN : Hid (∀ w', Below w.heap.size w w' → Calls Tryz.prog 94 #[.pointer (some ⟨C.kb, 0, none⟩), .slice C.P.sA C.P.spans.length C.P.sc] w' fun e w'' => e = .returned (.int .i64 (turnAt p.spans (c.k.time % p.ticks))) ∧ Below w'.heap.size w' w'') := fun w' hb => by
    have hps := (h.new hb).plan
    have := kturn_any p B C.P.sA C.P.sc C.P.spans hp (h.new hb).kpl hk.k hB (h.new hb).kat hps.spans hps.spansW
    rw [show C.P.spans = p.spans by rw [← h.pl]; rfl] at this ⊢
    exact this
  obtain ⟨x0, x1, x2, x3, x4, x5, x6, x7, hlt⟩ := h.cells
  have hsp := spans_ok hp
  obtain ⟨T, hT⟩ : ∃ T, T = turnAt p.spans (c.k.time % p.ticks) := ⟨_, rfl⟩
  rw [← hT] at HTURN
  have HT := hid hT
  have hroom : T = -1 ∨ ∃ r : Nat, T = r ∧ r < p.code.length := by
    rcases turnAt_room (l := p.spans) (m := c.k.time % p.ticks) with h0 | ⟨sp, hm, h0⟩
    · exact .inl (hT.trans h0)
    · have hr := hsp sp hm
      exact .inr ⟨sp.room.toNat, by rw [hT, h0]; omega, by omega⟩
  have HROOM := hid hroom
  have HK2 := hid (care_ok hp hk)
  have HWL := hid hwl
  have HBB := hid hB
  obtain ⟨ns, hns⟩ : ∃ ns, ns = C.P.spans.length := ⟨_, rfl⟩
  rw [← hns] at HTURN x3
  obtain ⟨wa, hwa⟩ : ∃ wa, wa = w.alloc (.cells #[.int .i64 0, .int .i64 0, .int .i64 0, .int .i64 0] 32) := ⟨_, rfl⟩
  have hba : Below w.heap.size w wa := by rw [hwa]; exact (Below.refl _ _).alloc (Nat.le_refl _) _
  have hblk : wa.heap[w.heap.size]? = some (.cells #[.int .i64 0, .int .i64 0, .int .i64 0, .int .i64 0] 32 (0, 0)) := by rw [hwa]; exact heap_alloc_new _ _
  have HS : Hid (∀ w', Below w.heap.size w w' → w'.cell? ⟨cb, 0, none⟩ = some (.pointer (some ⟨C.kb, 0, none⟩)) ∧ w'.cell? ⟨cb, 3, none⟩ = some (.slice C.P.sA ns C.P.sc)) := fun w' hb => ⟨(hb.cell (p := ⟨cb, 0, none⟩) hlt).trans x0, (hb.cell (p := ⟨cb, 3, none⟩) hlt).trans x3⟩
  obtain ⟨y0, y3⟩ := HS.out _ hba
  have HBA := hid hba
  have HBLK := hid hblk
  clear hp hk h hsp hT hroom x0 x1 x2 x3 x4 x5 x6 x7 hwl hns hB hba hblk
  go_enter Tryz.func35, Tryz.ntmps35
  go_upto_region 1 with fail
  rw [← hwa]
  clear hwa
  go_region_held3 (fun w' => w'.cell? ⟨cb, 0, none⟩ = some (.pointer (some ⟨C.kb, 0, none⟩)) ∧ w'.cell? ⟨cb, 3, none⟩ = some (.slice C.P.sA ns C.P.sc))
    (first | (with_reducible exact HS.out _ HB1.out) | exact ⟨‹_›, ‹_›⟩)
    (first | (go_at_call 94; refine (HTURN.out _ HBA.out.drew).mono ?_; rintro e w1 ⟨rfl, hb1⟩; have HB1 := hid (HBA.out.drew.trans (hb1.mono HBA.out.size)); have HX1 := hid ((hb1.block _ (blk_lt HBLK.out)).trans HBLK.out); clear hb1))
  rcases HROOM.out with hT1 | ⟨r, hTr, hr⟩
  · subst hT1
    have hcare : careC p what most c = c := by unfold careC; rw [if_pos (by rw [← HT.out]; omega)]
    have HW1 := hid (HC.out.allocd HB1.out)
    have HC1 := hid HW1.out.lie.here
    obtain ⟨y0, _, _, _, _, _, _, _, hl1⟩ := HC1.out.cells
    have hx0 := HX1.out
    have r0 := blk_cell hx0 0
    have r1 := blk_cell hx0 1
    have r2 := blk_cell hx0 2
    have r3 := blk_cell hx0 3
    have rf := fun j => blk_free hx0 j
    have hlr := blk_lt hx0
    simp at r0 r1 r2 r3
    have htk := ktick_any w1 C.kb C.K c.k p B HP.out HC1.out.kpl HK.out.k HBB.out HC1.out.kat
    have hq : careTick p what most c = ((tick p c.k).1, ⟨(tick p c.k).2, c.times⟩) := by unfold careTick; rw [hcare]
    obtain ⟨q, hqq⟩ : ∃ q, q = tick p c.k := ⟨_, rfl⟩
    rw [← hqq] at htk hq
    have HR := hid hq
    have HTK := hid htk
    clear htk hq hqq hcare hx0
    go_wp2_with fail
    refine HTK.out.mono ?_
    rintro e w2 ⟨M', rfl, h1, h2, h3, h4⟩
    have hw2 := HC1.out.goK h1 h2 h3 h4
    have hx2 := (h3.block _ hlr fun hj => by have := HC.out.kat.lt _ (.inl hj); omega).trans HX1.out
    have HW2 := hid (HW1.out.trans hw2)
    have hap : ∀ j, j = w.heap.size → ¬ (careT cb p what most (C.at M') ⟨q.2, c.times⟩).F j := fun j e hj => by
      subst e
      rcases (hw2).inF _ hj with h5 | h5
      · have := HC.out.lie.lt _ h5; omega
      · omega
    have HAP := hid hap
    clear h1 h2 h3 h4 hw2 hap r0 r1 r2 r3 rf hlr
    have r0 := blk_cell hx2 0
    have r1 := blk_cell hx2 1
    have r2 := blk_cell hx2 2
    have r3 := blk_cell hx2 3
    have rf := fun j => blk_free hx2 j
    have hlr := blk_lt hx2
    simp at r0 r1 r2 r3
    obtain ⟨⟨qt, qr, qp, qw⟩, qk⟩ := q
    simp only [] at HW2 HAP HR ⊢
    clear hx2
    go_wp2_with fail
    refine bodyPost_ret (v := .agg #[.int .i64 qt, .int .i64 qr, .int .i64 qp, .int .i64 qw]) (by simp [results, Tryz.results35, go_sem, r0, r1, r2, r3]) rfl ?_
    rw [HR.out]
    exact ⟨C.at M', rfl, HW2.out.side (G := fun j => j = w.heap.size) (((((Keep.refl (fun j => j = w.heap.size) _).setCell (.inl rfl) _).setCell (.inl rfl) _).setCell (.inl rfl) _).setCell (.inl rfl) _) (fun j e => by subst e; exact Nat.le_refl _) HAP.out⟩
  · subst hTr
    have hcare : careC p what most c = helpC p what most c r := by unfold careC; rw [if_neg (by rw [← HT.out]; omega), ← HT.out, Int.toNat_natCast]
    have HW1 := hid (HC.out.allocd HB1.out)
    have HC1 := hid HW1.out.lie.here
    have hhelp := help_any HP.out HK.out HWL.out hmo HC1.out r hr
    obtain ⟨c2, hc2⟩ : ∃ c2, c2 = helpC p what most c r := ⟨_, rfl⟩
    rw [← hc2] at hhelp hcare
    have HCARE := hid hcare
    have HHELP := hid hhelp
    have hk2 := HK2.out
    rw [hcare] at hk2
    have HKK := hid hk2
    clear hcare hhelp hk2 hc2 HK2 HK
    go_wp2_with fail
    refine HHELP.out.mono ?_
    rintro e w2 ⟨rfl, hw2⟩
    have hx2 := (hw2.keep.block _ (blk_lt HX1.out) fun hj => by
      have := HC.out.lie.lt _ (HC.out.lie.sub _ hj)
      omega).trans HX1.out
    have HW2 := hid (HW1.out.trans hw2)
    have HC2 := hid hw2.lie.here
    have hap : ∀ j, j = w.heap.size → ¬ (careT cb p what most C c2).F j := fun j e hj => by
      subst e
      rcases (hw2).inF _ hj with h5 | h5
      · have := HC.out.lie.lt _ h5; omega
      · have := blk_lt HX1.out; omega
    have HAP2 := hid hap
    clear hw2 hap
    obtain ⟨y0, _, _, _, _, _, _, _, hl1⟩ := HC2.out.cells
    have r0 := blk_cell hx2 0
    have r1 := blk_cell hx2 1
    have r2 := blk_cell hx2 2
    have r3 := blk_cell hx2 3
    have rf := fun j => blk_free hx2 j
    have hlr := blk_lt hx2
    simp at r0 r1 r2 r3
    have htk := ktick_any w2 C.kb C.K c2.k p B HP.out HC2.out.kpl HKK.out.k HBB.out HC2.out.kat
    have hq : careTick p what most c = ((tick p c2.k).1, ⟨(tick p c2.k).2, c2.times⟩) := by unfold careTick; rw [HCARE.out]
    obtain ⟨q, hqq⟩ : ∃ q, q = tick p c2.k := ⟨_, rfl⟩
    rw [← hqq] at htk hq
    have HR := hid hq
    have HTK := hid htk
    have HX2 := hid hx2
    clear htk hq hqq hx2
    go_wp2_with fail
    refine HTK.out.mono ?_
    rintro e w3 ⟨M', rfl, h1, h2, h3, h4⟩
    have hw3 := HC2.out.goK h1 h2 h3 h4
    have hx3 := (h3.block _ hlr fun hj => HAP2.out _ rfl (HC2.out.lie.sub _ ⟨_, List.mem_of_getElem? (i := 1) rfl, hj⟩)).trans HX2.out
    have HW3 := hid (HW2.out.trans hw3)
    have hap : ∀ j, j = w.heap.size → ¬ (careT cb p what most (C.at M') ⟨q.2, c2.times⟩).F j := fun j e hj => by
      subst e
      rcases (hw3).inF _ hj with h5 | h5
      · exact HAP2.out _ rfl h5
      · omega
    have HAP := hid hap
    clear h1 h2 h3 h4 hw3 hap r0 r1 r2 r3 rf hlr
    have r0 := blk_cell hx3 0
    have r1 := blk_cell hx3 1
    have r2 := blk_cell hx3 2
    have r3 := blk_cell hx3 3
    have rf := fun j => blk_free hx3 j
    have hlr := blk_lt hx3
    simp at r0 r1 r2 r3
    obtain ⟨⟨qt, qr, qp, qw⟩, qk⟩ := q
    simp only [] at HW3 HAP HR ⊢
    clear hx3
    go_wp2_with fail
    refine bodyPost_ret (v := .agg #[.int .i64 qt, .int .i64 qr, .int .i64 qp, .int .i64 qw]) (by simp [results, Tryz.results35, go_sem, r0, r1, r2, r3]) rfl ?_
    rw [HR.out]
    exact ⟨C.at M', rfl, HW3.out.side (G := fun j => j = w.heap.size) (((((Keep.refl (fun j => j = w.heap.size) _).setCell (.inl rfl) _).setCell (.inl rfl) _).setCell (.inl rfl) _).setCell (.inl rfl) _) (fun j e => by subst e; exact Nat.le_refl _) HAP.out⟩
end
end Go.Proofs.YthafahnlfpkkbaaGreatDoor
