/- Package frameref2: the contract of Care.Tick, for every care that is right. -/
import Derived.Test.YtongkiccglaniaaDoorRCareMem
import Derived.Test.YtongkiccglaniaaDoorCareNew
import Derived.Test.YtongkiccglaniaaDoorRFrame
import Derived.Laws.Tables
namespace Go.Proofs.YtongkiccglaniaaDoor
open Go.RowKit
set_option maxRecDepth 100000

def RCTicked (w : World) (cb : Nat) (p : Pl) (what : List Int) (most : Int) (C : RCM) (c : Cst) (q : Ev × Cst) (e : Ending) (w' : World) : Prop :=
  ∃ C', e = .returned (.agg #[.int .i64 q.1.tick, .int .i64 q.1.room, .int .i64 q.1.pc, .int .i64 q.1.what]) ∧ Went w w' (rcT cb p what most C c) (rcT cb p what most C' q.2)
theorem careC_miss {p : Pl} {what : List Int} {most : Int} {c : Cst} (h : turnAt p.spans (c.k.time % p.ticks) = -1) : careC p what most c = c := by unfold careC; rw [if_pos (by rw [h]; decide)]
theorem careC_hit {p : Pl} {what : List Int} {most : Int} {c : Cst} {r : Nat} {s : St} {ops : List Op} {x y : Int} (h : turnAt p.spans (c.k.time % p.ticks) = r) (hs : c.k.rooms[r]? = some s) (hc : p.code[r]? = some ops) (hx : what[r]? = some x) (hy : c.times[r]? = some y) :
    careC p what most c = if (s.failed && (!decide (x = 0) && !decide (most ≤ y))) = true then ⟨⟨c.k.rooms.set r (helped ops.length x s), c.k.lines, c.k.time⟩, c.times.set r (y + 1)⟩ else c := by
  have hxd : what.getD r 0 = x := by rw [List.getD_eq_getElem?_getD, hx]; rfl
  have hyd : c.times.getD r 0 = y := by rw [List.getD_eq_getElem?_getD, hy]; rfl
  unfold careC
  rw [h, if_neg (by omega), Int.toNat_natCast]
  unfold helpC due
  rw [hs, hc, hxd, hyd]
theorem zero_built (w : World) : (Instr.build 40 #[]).run Tryd.prog w = .ok (.agg #[.int .i64 0, .int .i64 0, .int .i64 0, .int .i64 0, .int .i64 0, .int .i64 0, .int .i64 0, .bool false]) w := run_build w _ _ _ (by kernel_rfl)
theorem rcT_F {cb : Nat} {p : Pl} {what : List Int} {most : Int} {C : RCM} {c c' : Cst} {j : Nat} (h : (rcT cb p what most C c).F j) : (rcT cb p what most C c').F j := by
  obtain ⟨t, ht, hj⟩ := h
  simp only [rcareL, List.mem_cons, List.not_mem_nil, or_false] at ht
  rcases ht with rfl | rfl | rfl | rfl
  · exact ⟨_, List.mem_of_getElem? (i := 0) rfl, hj⟩
  · exact ⟨_, List.mem_of_getElem? (i := 1) rfl, hj⟩
  · exact ⟨_, List.mem_of_getElem? (i := 2) rfl, hj⟩
  · exact ⟨_, List.mem_of_getElem? (i := 3) rfl, hj⟩
/-- Whose turn it is is to be helped. -/
def DueAt (p : Pl) (what : List Int) (most : Int) (c : Cst) (T : Int) : Prop := ∃ (r : Nat) (s : St) (ops : List Op) (x y : Int), T = r ∧ c.k.rooms[r]? = some s ∧ p.code[r]? = some ops ∧ what[r]? = some x ∧ c.times[r]? = some y ∧ s.failed = true ∧ x ≠ 0 ∧ y < most
theorem rule_ge {what : List Int} (h : what.any badRule = false) {r : Nat} {x : Int} (hx : what[r]? = some x) : 0 ≤ x ∧ x ≤ 2 := by
  have := List.any_eq_false.1 h x (List.mem_of_getElem? hx)
  unfold badRule at this
  simp at this
  omega
section
variable {w : World} {cb : Nat} {p : Pl} {what : List Int} {most : Int} {C : RCM} {c : Cst} {B : Int}
set_option maxHeartbeats 4000000 in
theorem rctick_any (hp : PlOk p) (hk : COk p what most c B) (hB : B < 4611686018427387904) (hwl : what.length = p.code.length) (hrule : what.any badRule = false) (hmo : most ≤ 100) (h : RCareAt w cb p what most C c) :
    Calls Tryd.prog 55 #[.pointer (some ⟨cb, 0, none⟩)] w (RCTicked w cb p what most C c (careTick p what most c)) := by
  have HP := hid hp
  have HK := hid hk
  have HC := hid h
  have ht := frameChk_ticks hp.frame
  have hti := hk.k.time0
  have htB := hk.k.timeB
  have htk : C.K.P.ticks = p.ticks := by rw [← h.kpl]; rfl
  have hsps : C.K.P.spans = p.spans := by rw [← h.kpl]; rfl
  have HWHO : Hid (∀ w', Below w.heap.size w w' → Calls Tryd.prog 81 #[.int .i64 p.ticks, .slice C.K.P.sA C.K.P.spans.length C.K.P.sc, .int .i64 c.k.time] w' fun e w'' => e = .returned (.int .i64 (turnAt p.spans (c.k.time % p.ticks))) ∧ Below w'.heap.size w' w'') := fun w' hb => by
    have hps := (h.new hb).kat.plan
    have := rwho_any p.ticks c.k.time C.K.P.sA C.K.P.spans.length C.K.P.sc C.K.P.spans w' rfl hps.spans hps.spansW ht.1 ht.2.1 hti (by omega)
    rw [hsps] at this ⊢
    exact this
  have y0 := blk_cell h.obj 0
  have hlt := blk_lt h.obj
  simp at y0
  obtain ⟨_, k1, k2, _, _, k6, _, hkb⟩ := h.kat.cells
  rw [htk] at k1
  have hsp := spans_ok hp
  obtain ⟨T, hT⟩ : ∃ T, T = turnAt p.spans (c.k.time % p.ticks) := ⟨_, rfl⟩
  rw [← hT] at HWHO
  have HT := hid hT
  have hroom : T = -1 ∨ ∃ r : Nat, T = r ∧ r < p.code.length := by
    rcases turnAt_room (l := p.spans) (m := c.k.time % p.ticks) with h0 | ⟨sp, hm, h0⟩
    · exact .inl (hT.trans h0)
    · have hr := hsp sp hm
      exact .inr ⟨sp.room.toNat, by rw [hT, h0]; omega, by omega⟩
  have HROOM := hid hroom
  have HWL := hid hwl
  have HRULE := hid hrule
  have HK2 := hid (care_ok hp hk)
  have HBB := hid hB
  obtain ⟨ns, hns⟩ : ∃ ns, ns = C.K.P.spans.length := ⟨_, rfl⟩
  obtain ⟨tm, htm⟩ : ∃ tm, tm = c.k.time := ⟨_, rfl⟩
  obtain ⟨tk, htk'⟩ : ∃ tk, tk = p.ticks := ⟨_, rfl⟩
  rw [← hns, ← htm, ← htk'] at HWHO
  rw [← hns] at k2
  rw [← htm] at k6
  rw [← htk'] at k1
  obtain ⟨wa, hwa⟩ : ∃ wa, wa = w.alloc (.cells #[.int .i64 0, .int .i64 0, .int .i64 0, .int .i64 0] 34) := ⟨_, rfl⟩
  have hba : Below w.heap.size w wa := by rw [hwa]; exact (Below.refl _ _).alloc (Nat.le_refl _) _
  have hblk : wa.heap[w.heap.size]? = some (.cells #[.int .i64 0, .int .i64 0, .int .i64 0, .int .i64 0] 34 (0, 0)) := by rw [hwa]; exact heap_alloc_new _ _
  have HS : Hid (∀ w', Below w.heap.size w w' → w'.cell? ⟨cb, 0, none⟩ = some (.pointer (some ⟨C.kb, 0, none⟩)) ∧ w'.cell? ⟨C.kb, 1, none⟩ = some (.int .i64 tk) ∧ w'.cell? ⟨C.kb, 2, none⟩ = some (.slice C.K.P.sA ns C.K.P.sc) ∧ w'.cell? ⟨C.kb, 6, none⟩ = some (.int .i64 tm)) := fun w' hb =>
    ⟨(hb.cell (p := ⟨cb, 0, none⟩) hlt).trans y0, (hb.cell (p := ⟨C.kb, 1, none⟩) hkb).trans k1, (hb.cell (p := ⟨C.kb, 2, none⟩) hkb).trans k2, (hb.cell (p := ⟨C.kb, 6, none⟩) hkb).trans k6⟩
  obtain ⟨z0, z1, z2, z6⟩ := HS.out _ hba
  have HBA := hid hba
  have HBLK := hid hblk
  clear hp hk h hsp hT hroom y0 k1 k2 k6 hwl hrule hns htm htk' hB hba hblk ht hti htB htk hsps
  go_enter Tryd.func55, Tryd.ntmps55
  go_upto_region 1 with fail
  rw [← hwa]
  clear hwa
  go_region_held3 (fun w' => w'.cell? ⟨cb, 0, none⟩ = some (.pointer (some ⟨C.kb, 0, none⟩)) ∧ w'.cell? ⟨C.kb, 1, none⟩ = some (.int .i64 tk) ∧ w'.cell? ⟨C.kb, 2, none⟩ = some (.slice C.K.P.sA ns C.K.P.sc) ∧ w'.cell? ⟨C.kb, 6, none⟩ = some (.int .i64 tm))
    (first | (with_reducible exact HS.out _ HB1.out) | (with_reducible exact HS.out _ HBA.out.drew) | exact ⟨‹_›, ‹_›, ‹_›, ‹_›⟩)
    (first | (go_at_call 81; refine (HWHO.out _ HBA.out.drew).mono ?_; rintro e w1 ⟨rfl, hb1⟩; have HB1 := hid (HBA.out.drew.trans (hb1.mono HBA.out.size)); have HX1 := hid ((hb1.block _ (blk_lt HBLK.out)).trans HBLK.out); clear hb1))
  obtain ⟨n, hn⟩ : ∃ n, n = what.length := ⟨_, rfl⟩
  have HN := hid hn
  have hn5 : n ≤ 5 := by have := HP.out.most5; have := HWL.out; omega
  have HC1 := hid (HC.out.new HB1.out)
  have ho := HC1.out.obj
  rw [← hn] at ho
  have HO := hid ho
  have o0 := blk_cell ho 0
  have o1 := blk_cell ho 1
  have o2 := blk_cell ho 2
  have o3 := blk_cell ho 3
  have hlo := blk_lt ho
  simp at o0 o1 o2 o3
  clear ho z0 z1 z2 z6 hn HWHO HS
  go_upto_region 2 with fail
  go_cut [67] from 29 to 67 (fun v67 wx => (∃ D : Bool, v67 = .bool D ∧ (D = true → DueAt p what most c T) ∧ (D = false → careC p what most c = c)) ∧ Below w1.heap.size w1 wx)
  case first =>
    as_aux_lemma =>
    rcases HROOM.out with hT1 | ⟨r, hTr, hr⟩
    · subst hT1
      have hmiss := hid (careC_miss (what := what) (most := most) (HT.out.symm))
      go_quiet (fail)
      go_wp2_with fail
      go_meet
      exact ⟨⟨false, rfl, fun h => (by cases h), fun _ => hmiss.out⟩, below_drewN (Below.refl _ _) _⟩
    · subst hTr
      obtain ⟨s, hs⟩ : ∃ s, c.k.rooms[r]? = some s := ⟨_, List.getElem?_eq_getElem (by rw [HK.out.k.rooms]; exact hr)⟩
      obtain ⟨ops, hc⟩ : ∃ ops, p.code[r]? = some ops := ⟨_, List.getElem?_eq_getElem hr⟩
      obtain ⟨x, hx⟩ : ∃ x, what[r]? = some x := ⟨_, List.getElem?_eq_getElem (by rw [HWL.out]; exact hr)⟩
      obtain ⟨y, hy⟩ : ∃ y, c.times[r]? = some y := ⟨_, List.getElem?_eq_getElem (by rw [HK.out.many]; exact hr)⟩
      have hhit := careC_hit HT.out.symm hs hc hx hy (most := most)
      have hxr := rule_ge HRULE.out hx
      obtain ⟨wb, wo, hwA, hwb, hwx⟩ := sl_int HC1.out.rules (i := r) (by rw [HWL.out]; exact hr) (by rw [HWL.out]; exact hr)
      have hwx2 : w1.cell? ⟨wb, wo + r, none⟩ = some (.int .i64 x) := by
        have := List.getElem?_eq_getElem (show r < what.length by rw [HWL.out]; exact hr)
        rw [hx] at this
        rw [hwx, ← Option.some.inj this]
      obtain ⟨tb, tf, htA, htb, htx, htf, _, htc, htm, _⟩ := row_put HC1.out.times hy
      obtain ⟨_, _, _, k4, _, _, _, hkb1⟩ := HC1.out.kat.cells
      obtain ⟨rb, roff, hrA, ⟨_, _, _, _, _, _, _, s7⟩, _, hrb, _, hrl, hrc, hrm⟩ := HC1.out.kat.room hs
      have hcp1 := HC1.out.cap.1
      have hcp2 := HC1.out.cap.2
      rw [← HN.out] at htc hcp1
      rw [hwA] at o1
      rw [htA] at o3
      rw [hrA] at k4
      obtain ⟨nr, hnr⟩ : ∃ nr, nr = c.k.rooms.length := ⟨_, rfl⟩
      rw [← hnr] at k4 hrl hrc
      have hrn : (r : Int) < (n : Int) := by have := HN.out; have := HWL.out; omega
      have hrr : (r : Int) < (nr : Int) := by omega
      have hrn' : r < n := by omega
      unfold maxLen at htm hcp2 hrm
      have HHIT := hid hhit
      have HSS := hid hs
      have HCC := hid hc
      have HXX := hid hx
      have HYY := hid hy
      obtain ⟨pc, c0, c1, c2, c3, c4, c5, f⟩ := s
      simp only [] at s7 HHIT
      clear hs hc hx hy hhit hwx hwA htA hrA hnr htf
      cases f with
      | false =>
        go_quiet (fail)
        go_wp2_with fail
        go_meet
        exact ⟨⟨false, rfl, fun h => (by cases h), fun _ => HHIT.out⟩, below_drewN (Below.refl _ _) _⟩
      | true =>
        by_cases hx0 : x = 0
        · subst hx0
          go_quiet (fail)
          go_wp2_with fail
          go_meet
          exact ⟨⟨false, rfl, fun h => (by cases h), fun _ => HHIT.out⟩, below_drewN (Below.refl _ _) _⟩
        · have dx : decide (0 < x) = true := decide_eq_true (by omega)
          have ex2 : decide (x = 0) = false := decide_eq_false hx0
          by_cases hm : y < most
          · have dm : decide (y < most) = true := decide_eq_true hm
            go_quiet (fail)
            go_wp2_with fail
            go_meet
            exact ⟨⟨true, rfl, fun _ => ⟨r, _, ops, x, y, rfl, HSS.out, HCC.out, HXX.out, HYY.out, rfl, hx0, hm⟩, fun h => (by cases h)⟩, below_drewN (Below.refl _ _) _⟩
          · have dm : decide (y < most) = false := decide_eq_false hm
            have hr2 := HHIT.out
            rw [ex2, decide_eq_true (show most ≤ y by omega)] at hr2
            have HR2 := hid hr2
            clear hr2
            go_quiet (fail)
            go_wp2_with fail
            go_meet
            exact ⟨⟨false, rfl, fun h => (by cases h), fun _ => HR2.out⟩, below_drewN (Below.refl _ _) _⟩
  case rest =>
    as_aux_lemma =>
    obtain ⟨⟨D, rfl, hd1, hd2⟩, hbc⟩ := hcut
    have HD1 := hid hd1
    have HD2 := hid hd2
    have HBC := hid (HB1.out.trans (hbc.mono HB1.out.size))
    have HCC := hid (HC1.out.new hbc)
    have HXC := hid ((hbc.block _ (blk_lt HX1.out)).trans HX1.out)
    clear hd1 hd2 hbc o0 o1 o2 o3 hlo
    go_upto_if 67 with fail
    go_cut [] (fun wx => Went w wx (rcT cb p what most C c) (rcT cb p what most C (careC p what most c)) ∧ wx.heap[w.heap.size]? = some (.cells #[.int .i64 0, .int .i64 0, .int .i64 0, .int .i64 0] 34 (0, 0)))
    case first =>
      as_aux_lemma =>
      cases D with
      | false =>
        go_wp2_with fail
        go_meet
        exact ⟨by rw [HD2.out (by first | rfl | exact True.intro)]; exact Went.new HC.out.lie HBC.out, HXC.out⟩
      | true =>
        obtain ⟨r, s, ops, x, y, rfl, hs, hc, hx, hy, hf, hx0, hm⟩ := HD1.out rfl
        have hhit := careC_hit HT.out.symm hs hc hx hy (most := most)
        rw [hf, decide_eq_false hx0, decide_eq_false (show ¬ most ≤ y by omega), if_pos (by decide)] at hhit
        have hr := (List.getElem?_eq_some_iff.1 hc).1
        have hxr := rule_ge HRULE.out hx
        have hyl := (HK.out.least r y hy).1
        have hok := (stOk_iff.1 (HK.out.k.states r ops s hc hs)).1
        have hcode := codeChk_ok (HP.out.codes ops (List.mem_of_getElem? hc))
        have ho := HCC.out.obj
        rw [← HN.out] at ho
        have o0 := blk_cell ho 0
        have o1 := blk_cell ho 1
        have o3 := blk_cell ho 3
        have hlo := blk_lt ho
        simp at o0 o1 o3
        obtain ⟨tb, tf, htA, htb, htx, htf, _, htc, htm, hput⟩ := row_put HCC.out.times hy
        obtain ⟨hr3, hk3⟩ := hput (y + 1)
        rw [htA] at o3
        rw [← HN.out] at htc
        have hW2 := (Went.new HC.out.lie HBC.out).trans (HCC.out.goT hk3 hr3)
        have hx2 := (hk3.block w.heap.size (blk_lt HXC.out) (fun hj => by
          have := HC.out.lie.lt w.heap.size ⟨_, List.mem_of_getElem? (i := 2) rfl, hj⟩
          omega)).trans HXC.out
        obtain ⟨w2, hw2⟩ : ∃ w2, w2 = wc.setCell ⟨tb, tf + r, none⟩ (.int .i64 (y + 1)) := ⟨_, rfl⟩
        rw [← hw2] at hW2 hx2
        have HW2 := hid hW2
        have HX2 := hid hx2
        have HC2 := hid hW2.lie.here
        have HHIT := hid hhit
        have HCO := hid hc
        have HSS := hid hs
        have HXX := hid hx
        have hrn : (r : Int) < (n : Int) := by have := HN.out; have := HWL.out; omega
        have hrn' : r < n := by omega
        have hy1 : y + 1 ≤ 100 := by omega
        unfold maxLen at htm
        clear hput hr3 hk3 hW2 hx2 hhit hs hc hx hy ho htA
        go_upto_region 4 with fail
        rw [← hw2]
        clear hw2 o0 o1 o3 htx htf htb hlo
        have ho := HC2.out.obj
        rw [← HN.out] at ho
        have o0 := blk_cell ho 0
        have o1 := blk_cell ho 1
        have hlo := blk_lt ho
        simp at o0 o1
        obtain ⟨wb, wo, hwA, hwb, hwx⟩ := sl_int HC2.out.rules (i := r) (by rw [HWL.out]; exact hr) (by rw [HWL.out]; exact hr)
        have hwx2 : w2.cell? ⟨wb, wo + r, none⟩ = some (.int .i64 x) := by
          have := List.getElem?_eq_getElem (show r < what.length by rw [HWL.out]; exact hr)
          rw [HXX.out] at this
          rw [hwx, ← Option.some.inj this]
        have hcp1 := HC2.out.cap.1
        have hcp2 := HC2.out.cap.2
        rw [← HN.out] at hcp1
        rw [hwA] at o1
        obtain ⟨k0, _, _, k4, _, _, _, hkb2⟩ := HC2.out.kat.cells
        have hss : ((⟨c.k, c.times.set r (y + 1)⟩ : Cst).k).rooms[r]? = some s := HSS.out
        obtain ⟨rb, roff, hrA, ⟨s0, s1, s2, s3, s4, s5, s6, s7⟩, hrf, hrb, hrkb, hrl, hrc, hrm⟩ := HC2.out.kat.room hss
        rw [hrA] at k4
        have hrl' : r < c.k.rooms.length := hrl
        have hrc' : c.k.rooms.length ≤ C.K.rc := hrc
        obtain ⟨nr, hnr⟩ : ∃ nr, nr = c.k.rooms.length := ⟨_, rfl⟩
        replace k4 : w2.cell? ⟨C.kb, 4, none⟩ = some (.slice (some ⟨rb, roff, none⟩) nr C.K.rc) := by rw [hnr]; exact k4
        rw [← hnr] at hrl' hrc'
        have hrr : (r : Int) < (nr : Int) := by omega
        unfold maxLen at hcp2 hrm
        have hinR : KF C.kb C.K rb := .inr (.inl (by rw [hrA]; rfl))
        have hne : w.heap.size ≠ rb := fun e => by have := HC.out.kat.lt rb (.inl hinR); omega
        have hncb : cb ≠ rb := fun e => HC2.out.all.apart 1 0 _ _ rfl rfl (by omega) rb hinR e.symm
        have hnkb : C.kb ≠ rb := fun e => hrkb e.symm
        obtain ⟨pc, c0, c1, c2, c3, c4, c5, f⟩ := s
        simp only [] at s0 s1 s2 s3 s4 s5 s6 s7 hok hf
        have f0 := hrf (roff + r * 8)
        have f1 := hrf (roff + r * 8 + 1)
        have f2 := hrf (roff + r * 8 + 2)
        have f3 := hrf (roff + r * 8 + 3)
        have f4 := hrf (roff + r * 8 + 4)
        have f5 := hrf (roff + r * 8 + 5)
        have f6 := hrf (roff + r * 8 + 6)
        have f7 := hrf (roff + r * 8 + 7)
        clear ho hwx hwA hrl hrc hrf
        by_cases h1 : x = 1
        · subst h1
          have hW3 := HW2.out.trans (HC2.out.goK (HC2.out.kat.putRoomAt hrA rfl hss St.zero) ⟨rfl, rfl⟩ ((putAt_keep w2 rb (roff + r * 8) St.zero).mono fun j _ e => by subst e; exact hinR) fun _ hj => .inl hj)
          have hx3 : (putAt w2 rb (roff + r * 8) St.zero).heap[w.heap.size]? = some (.cells #[.int .i64 0, .int .i64 0, .int .i64 0, .int .i64 0] 34 (0, 0)) := by rw [putAt_far _ _ _ _ _ hne]; exact HX2.out
          have hbd := zero_built
          obtain ⟨o, ho⟩ : ∃ o, roff + r * 8 = o := ⟨_, rfl⟩
          rw [ho] at s0 s1 s2 s3 s4 s5 s6 s7 f0 f1 f2 f3 f4 f5 f6 f7
          have HOO := hid ho
          clear hss hrA
          have HTH : Hid (w2.there rb o 8) := fun q hq => by
            have hqq : q = 0 ∨ q = 1 ∨ q = 2 ∨ q = 3 ∨ q = 4 ∨ q = 5 ∨ q = 6 ∨ q = 7 := by omega
            rcases hqq with rfl | rfl | rfl | rfl | rfl | rfl | rfl | rfl
            · exact ⟨by rw [Nat.add_zero, s0]; rfl, by rw [Nat.add_zero]; exact f0⟩
            · exact ⟨by rw [s1]; rfl, f1⟩
            · exact ⟨by rw [s2]; rfl, f2⟩
            · exact ⟨by rw [s3]; rfl, f3⟩
            · exact ⟨by rw [s4]; rfl, f4⟩
            · exact ⟨by rw [s5]; rfl, f5⟩
            · exact ⟨by rw [s6]; rfl, f6⟩
            · exact ⟨by rw [s7]; rfl, f7⟩
          rw [putAt_eq, ho] at hW3 hx3
          have HW3' := hid hW3
          have HX3' := hid hx3
          clear s0 s1 s2 s3 s4 s5 s6 s7 f0 f1 f2 f3 f4 f5 f6 f7 hW3 hx3
          go_upto_region 5 with fail
          go_wp2_with (refine wpList_store_mid rfl 40 _ _ rfl rb o #[.int .i64 0, .int .i64 0, .int .i64 0, .int .i64 0, .int .i64 0, .int .i64 0, .int .i64 0, .bool false] rfl rfl HTH.out (by kernel_rfl) (by simp [Value.oneCell']) ?_)
          go_wp2_with fail
          go_meet
          exact ⟨by rw [HHIT.out]; exact HW3'.out, HX3'.out⟩
        · have h2 : x = 2 := by omega
          subst h2
          obtain ⟨q, hq⟩ : ∃ q, ops[pc.toNat]? = some q := ⟨_, List.getElem?_eq_getElem (by omega)⟩
          obtain ⟨pk, rfl⟩ : ∃ pk : Nat, pc = pk := ⟨pc.toNat, by omega⟩
          rw [Int.toNat_natCast] at hq
          obtain ⟨ro, cb2, coff, ob, ooff, hro, hroo, hroA, hcA, hcc, hrn2, hpn, hcb2, hoc, hom⟩ := HC2.out.kat.codeRo (by rw [HC2.out.kpl]; exact HCO.out) hq
          rw [hcA] at k0
          obtain ⟨no, hno⟩ : ∃ no, no = ops.length := ⟨_, rfl⟩
          obtain ⟨nc, hnc⟩ : ∃ nc, nc = C.K.P.ros.length := ⟨_, rfl⟩
          rw [← hno] at hcc hoc hpn hok
          have hok2 : pk < no := by omega
          rw [← hnc] at k0 hrn2
          have hcm := HC2.out.kat.plan.rowsW
          rw [← hnc] at hcm
          have hcm1 := hcm.1
          have hcm2 := hcm.2.1
          unfold maxLen at hcm2 hom
          have hrnc : (r : Int) < (nc : Int) := by omega
          have hr0 : (0 : Int) ≤ (r : Int) := by omega
          have hno20 : no ≤ 20 := by have := hcode.2.1; omega
          obtain ⟨o, ho⟩ : ∃ o, roff + r * 8 = o := ⟨_, rfl⟩
          obtain ⟨nx, hnx⟩ : ∃ nx : Int, ((pk : Int) + 1) % no = nx := ⟨_, rfl⟩
          have hW3 : Went w ((w2.setCell ⟨rb, o, none⟩ (.int .i64 nx)).setCell ⟨rb, o + 7, none⟩ (.bool false)) (rcT cb p what most C c) (rcT cb p what most C (careC p what most c)) := by
            have h1 := HC2.out.kat.cellRoom hrA hss (q := 0) (o := o) (by decide) (by omega) (.int .i64 nx) (t := ⟨nx, c0, c1, c2, c3, c4, c5, f⟩) rfl
            have hs1 : (⟨c.k.rooms.set r ⟨nx, c0, c1, c2, c3, c4, c5, f⟩, c.k.lines, c.k.time⟩ : Kst).rooms[r]? = some ⟨nx, c0, c1, c2, c3, c4, c5, f⟩ := by
              show (c.k.rooms.set r _)[r]? = _
              rw [List.getElem?_set, if_pos rfl, if_pos (List.getElem?_eq_some_iff.1 HSS.out).1]
            have h2 := h1.cellRoom hrA hs1 (q := 7) (o := o + 7) (by decide) (by omega) (.bool false) (t := ⟨nx, c0, c1, c2, c3, c4, c5, false⟩) rfl
            have h3 := HW2.out.trans (HC2.out.goK h2 ⟨rfl, rfl⟩ (((Keep.refl (KF C.kb C.K) w2).setCell (.inl hinR) _).setCell (.inl hinR) _) fun _ hj => .inl hj)
            have e1 : careC p what most c = ⟨⟨(c.k.rooms.set r ⟨nx, c0, c1, c2, c3, c4, c5, f⟩).set r ⟨nx, c0, c1, c2, c3, c4, c5, false⟩, c.k.lines, c.k.time⟩, c.times.set r (y + 1)⟩ := by
              rw [HHIT.out, List.set_set]
              unfold helped
              rw [if_neg (by decide), ← hnx, hno]
            rw [e1]
            exact h3
          have hx3 : ((w2.setCell ⟨rb, o, none⟩ (.int .i64 nx)).setCell ⟨rb, o + 7, none⟩ (.bool false)).heap[w.heap.size]? = some (.cells #[.int .i64 0, .int .i64 0, .int .i64 0, .int .i64 0] 34 (0, 0)) := by
            rw [hp_set, if_neg hne, hp_set, if_neg hne]; exact HX2.out
          have HW3 := hid hW3
          have HX3 := hid hx3
          rw [ho] at s0 s7 f0 f7
          clear s1 s2 s3 s4 s5 s6 f1 f2 f3 f4 f5 f6 hW3 hx3 hss hrA hcA hcm hro hroo hroA hq HSS hno hnc
          by_cases hwrap : pk + 1 = no
          · have hx0' : nx = 0 := by rw [← hnx, ← hwrap, Int.natCast_add]; exact Int.emod_self
            subst hx0'
            have hd : ((pk : Int) + 1 == (no : Int)) = true := by simp; omega
            clear hnx
            go_wp2_with fail
            go_meet
            exact ⟨HW3.out, HX3.out⟩
          · have hx0' : nx = (pk : Int) + 1 := by rw [← hnx]; exact Int.emod_eq_of_lt (by omega) (by omega)
            subst hx0'
            have hd : ((pk : Int) + 1 == (no : Int)) = false := by simp; omega
            clear hnx
            go_wp2_with fail
            go_meet
            exact ⟨HW3.out, HX3.out⟩
    case rest =>
      obtain ⟨hW, hX⟩ := hcut
      obtain ⟨wd, rfl⟩ : ∃ w' : World, w' = wc := ⟨_, rfl⟩
      have HW2 := hid hW
      have HC2 := hid hW.lie.here
      have HX2 := hid hX
      have hap : ¬ (rcT cb p what most C (careC p what most c)).F w.heap.size := fun hj => Nat.lt_irrefl _ (HC.out.lie.lt w.heap.size (rcT_F hj))
      have HAP2 := hid hap
      have ho := HC2.out.obj
      have y0 := blk_cell ho 0
      have hl1 := blk_lt ho
      simp at y0
      have r0 := blk_cell hX 0
      have r1 := blk_cell hX 1
      have r2 := blk_cell hX 2
      have r3 := blk_cell hX 3
      have rf := fun j => blk_free hX j
      have hlr := blk_lt hX
      simp at r0 r1 r2 r3
      have htk := rtick_any wd C.kb C.K (careC p what most c).k p B HP.out HC2.out.kpl HK2.out.k HBB.out HC2.out.kat
      have hq : careTick p what most c = ((tick p (careC p what most c).k).1, ⟨(tick p (careC p what most c).k).2, (careC p what most c).times⟩) := rfl
      obtain ⟨q, hqq⟩ : ∃ q, q = tick p (careC p what most c).k := ⟨_, rfl⟩
      rw [← hqq] at htk hq
      have HR := hid hq
      have HTK := hid htk
      clear htk hq hqq hW hX hap ho
      go_wp2_with fail
      refine HTK.out.mono ?_
      rintro e w3 ⟨M', rfl, h1, h2, h3, h4⟩
      have hw3 := HC2.out.goK h1 h2 h3 h4
      have hx3 := (h3.block _ hlr fun hj => HAP2.out (HC2.out.lie.sub _ ⟨_, List.mem_of_getElem? (i := 1) rfl, hj⟩)).trans HX2.out
      have HW3 := hid (HW2.out.trans hw3)
      have hap : ∀ j, j = w.heap.size → ¬ (rcT cb p what most (C.at M') ⟨q.2, (careC p what most c).times⟩).F j := fun j e hj => by
        subst e
        rcases (hw3).inF _ hj with h5 | h5
        · exact HAP2.out h5
        · omega
      have HAP := hid hap
      clear h1 h2 h3 h4 hw3 hap r0 r1 r2 r3 rf hlr
      have r0 := blk_cell hx3 0
      have r1 := blk_cell hx3 1
      have r2 := blk_cell hx3 2
      have r3 := blk_cell hx3 3
      have rf := fun j => blk_free hx3 j
      have hlr := blk_lt hx3
      simp at r0 r1 r2 r3
      obtain ⟨⟨qt, qr, qp, qw⟩, qk⟩ := q
      simp only [] at HW3 HAP HR ⊢
      clear hx3 y0 hl1
      go_wp2_with fail
      refine bodyPost_ret (v := .agg #[.int .i64 qt, .int .i64 qr, .int .i64 qp, .int .i64 qw]) (by simp [results, Tryd.results55, go_sem, r0, r1, r2, r3]) rfl ?_
      rw [HR.out]
      exact ⟨C.at M', rfl, HW3.out.side (G := fun j => j = w.heap.size) (((((Keep.refl (fun j => j = w.heap.size) _).setCell (.inl rfl) _).setCell (.inl rfl) _).setCell (.inl rfl) _).setCell (.inl rfl) _) (fun j e => by subst e; exact Nat.le_refl _) HAP.out⟩
end
end Go.Proofs.YtongkiccglaniaaDoor
