/- The walk of framelaw1.RoomTells: it returns true at every input. -/
import Derived.Test.YtnighanlonkjbaaDoorRoomStaysWalk
import Derived.Test.YtnighanlonkjbaaDoorRCodeW
import Derived.Test.YtnighanlonkjbaaDoorRDoW
import Derived.Test.YtnighanlonkjbaaDoorTold
namespace Go.Proofs.YtnighanlonkjbaaDoor
open Go.RowKit
set_option maxRecDepth 100000

/-- What a step's fault is, case by case. -/
theorem stepOf_cases (l : List Op) (s : St) (got : Int) (is : Bool) :
    ((codeChk l).2 ≠ 0 ∧ roomChk l s = (codeChk l).2 ∧ stepOf l s got is = ((St.zero, 0), (codeChk l).2)) ∨
    ((codeChk l).2 = 0 ∧ stOk s l.length = false ∧ roomChk l s = 1 ∧ stepOf l s got is = ((St.zero, 0), 1)) ∨
    ((codeChk l).2 = 0 ∧ stOk s l.length = true ∧ roomChk l s = 0 ∧ is = true ∧ (got < 0 ∨ 1000 ≤ got) ∧ stepOf l s got is = ((St.zero, 0), 1)) ∨
    ((codeChk l).2 = 0 ∧ stOk s l.length = true ∧ roomChk l s = 0 ∧ (is = true → 0 ≤ got ∧ got < 1000) ∧ ∃ (k : Nat) (o : Op), s.pc = k ∧ k < l.length ∧ l.length ≤ 20 ∧ l[k]? = some o ∧ opOk o l.length = true ∧ stepOf l s got is = (stepDo l.length o s got is, 0)) := by
  by_cases h1 : (codeChk l).2 = 0
  · cases h2 : stOk s l.length with
    | false =>
      have hr : roomChk l s = 1 := by unfold roomChk; rw [if_neg (by simpa using h1), if_pos h2]
      exact .inr (.inl ⟨h1, rfl, hr, by unfold stepOf; rw [if_pos (by rw [hr]; decide), hr]⟩)
    | true =>
      have hr := roomChk_good h1 h2
      by_cases h3 : is = true ∧ cellB got = false
      · exact .inr (.inr (.inl ⟨h1, rfl, hr, h3.1, cellB_false.1 h3.2, by unfold stepOf; rw [if_neg (by simpa using hr), if_pos h3]⟩))
      · have hg : is = true → cellB got = true := fun h => by cases hc : cellB got with | true => rfl | false => exact absurd ⟨h, hc⟩ h3
        obtain ⟨hl1, hl20, hops⟩ := codeChk_ok h1
        have hpc := (stOk_iff.1 h2).1
        have hkl : s.pc.toNat < l.length := by omega
        have hk : s.pc = (s.pc.toNat : Int) := by omega
        exact .inr (.inr (.inr ⟨h1, rfl, hr, fun h => cellB_true.1 (hg h), s.pc.toNat, _, hk, hkl, hl20, List.getElem?_eq_getElem hkl, hops _ (List.getElem_mem hkl), stepOf_mk hk (List.getElem?_eq_getElem hkl) h1 h2 hg⟩))
  · have hr : roomChk l s = (codeChk l).2 := by unfold roomChk; rw [if_pos h1]
    exact .inl ⟨h1, hr, by unfold stepOf; rw [if_pos (by rw [hr]; exact h1), hr]⟩

set_option maxHeartbeats 4000000 in
theorem roomTells_walk {w : World} (hg : Handle w) (hf : Forms w) (A : Option Addr) (c : Nat) (l : List Op) (hs : Sl w A 3 l.length (l.flatMap Op.cells)) (hsw : SlW A c l.length) (_ok : ∀ y ∈ l, y.Ok) (s : St) (_fit : s.Fit) (got : Int) (is : Bool) :
    Calls Tryd.prog 5 #[.slice A l.length c, .agg #[.int .i64 s.pc, .int .i64 s.c0, .int .i64 s.c1, .int .i64 s.c2, .int .i64 s.c3, .int .i64 s.c4, .int .i64 s.c5, .bool s.failed], .int .i64 got, .bool is] w
      fun e w' => e = .returned (.bool true) ∧ Below w.heap.size w w' := by
  have HG := hid hg
  have HST : Hid (∀ w', Below w.heap.size w w' → Calls Tryd.prog 15 #[.slice A l.length c, .agg #[.int .i64 s.pc, .int .i64 s.c0, .int .i64 s.c1, .int .i64 s.c2, .int .i64 s.c3, .int .i64 s.c4, .int .i64 s.c5, .bool s.failed], .int .i64 got, .bool is] w' (StepV w' (stepOf l s got is))) :=
    fun w' hb => room_step A c l s got is w' (hf.new hb) (hs.new hb) hsw
  have HCK : Hid (∀ w', Below w.heap.size w w' → Calls Tryd.prog 16 #[.slice A l.length c, .agg #[.int .i64 s.pc, .int .i64 s.c0, .int .i64 s.c1, .int .i64 s.c2, .int .i64 s.c3, .int .i64 s.c4, .int .i64 s.c5, .bool s.failed]] w' fun e w'' => e = .returned (errV (roomChk l s)) ∧ Below w'.heap.size w' w'') :=
    fun w' hb => room_check A c l s w' (hf.new hb) (hs.new hb) hsw
  have HRC : Hid (∀ w', Below w.heap.size w w' → Calls Tryd.prog 18 #[.slice A l.length c] w' (TellNI w' (codeChk l))) := fun w' hb => rcode_any A c l w' (hs.new hb) hsw
  have HRS : Hid (∀ w', Calls Tryd.prog 19 #[.agg #[.int .i64 s.pc, .int .i64 s.c0, .int .i64 s.c1, .int .i64 s.c2, .int .i64 s.c3, .int .i64 s.c4, .int .i64 s.c5, .bool s.failed], .int .i64 l.length] w' (TellOk w' (stOk s l.length))) := fun w' => rstate_any s l.length w'
  have hcases := stepOf_cases l s got is
  have HRD : Hid (∀ (k : Nat) (o : Op), s.pc = k → k < l.length → l.length ≤ 20 → l[k]? = some o → opOk o l.length = true → stOk s l.length = true → ∀ w', Below w.heap.size w w' →
      Calls Tryd.prog 21 #[.slice A l.length c, .agg #[.int .i64 s.pc, .int .i64 s.c0, .int .i64 s.c1, .int .i64 s.c2, .int .i64 s.c3, .int .i64 s.c4, .int .i64 s.c5, .bool s.failed], .int .i64 got, .bool is] w' (RDoneV w' (stepDo l.length o s got is).1 (stepDo l.length o s got is).2 (stepWhat o s is))) := fun k o hk hkl hl20 hget hop hst w' hb => by
    obtain ⟨ob, off, rfl, hlb, g0, g1, g2⟩ := hs.op hb hkl hkl
    rw [show l[k] = o from Option.some.inj ((List.getElem?_eq_getElem hkl).symm.trans hget)] at g0 g1 g2
    exact rstep_any ob off l.length c k s o got is w' hk hst hop ⟨hkl, hl20, g0, g1, g2⟩
  have HN : Hid (∀ w, Calls Tryd.prog 17 #[] w fun e w' => e = .returned (.agg #[.int .i64 0, .int .i64 0, .int .i64 0, .int .i64 0, .int .i64 0, .int .i64 0, .int .i64 0, .bool false]) ∧ Below w.heap.size w w') := room_new
  have hqz : ∀ w, (binOp .eql 25 (.agg #[.int .i64 0, .int .i64 0, .int .i64 0, .int .i64 0, .int .i64 0, .int .i64 0, .int .i64 0, .bool false]) (.agg #[.int .i64 0, .int .i64 0, .int .i64 0, .int .i64 0, .int .i64 0, .int .i64 0, .int .i64 0, .bool false])).run Tryd.prog w = .ok (.bool true) w := fun w => (state_eql St.zero St.zero w).trans (by rw [stEq_refl])
  have HQZ := hid hqz
  have HQT : Hid (∀ (x : St) w, (binOp .eql 25 (.agg #[.int .i64 x.pc, .int .i64 x.c0, .int .i64 x.c1, .int .i64 x.c2, .int .i64 x.c3, .int .i64 x.c4, .int .i64 x.c5, .bool x.failed]) (.agg #[.int .i64 x.pc, .int .i64 x.c0, .int .i64 x.c1, .int .i64 x.c2, .int .i64 x.c3, .int .i64 x.c4, .int .i64 x.c5, .bool x.failed])).run Tryd.prog w = .ok (.bool true) w) := fun x w => by rw [state_eql, stEq_refl]
  have hgd := state_guard
  obtain ⟨n, hn⟩ : ∃ n, n = l.length := ⟨_, rfl⟩
  rw [← hn] at hsw HST HCK HRC HRS HRD hcases ⊢
  obtain ⟨hs1, hs2, hs3⟩ := hsw
  unfold maxLen at hs2
  obtain ⟨S, hS⟩ : ∃ S, S = s := ⟨_, rfl⟩
  obtain ⟨stp, hstp⟩ : ∃ q, q = stepOf l s got is := ⟨_, rfl⟩
  obtain ⟨⟨t, out⟩, E2⟩ := stp
  rw [← hstp] at HST hcases
  have HNN := hid hn
  obtain ⟨pc, c0, c1, c2, c3, c4, c5, f⟩ := s
  simp only [] at HST HCK HRS HRD ⊢
  have HSS := hid hS
  clear hs hf hS hn _fit _ok hstp hg hqz hs3
  go_enter Tryd.func5, Tryd.ntmps5
  go_upto_region 1 with fail
  obtain ⟨w0, hw0⟩ : ∃ w0, w0 = w.alloc (.cells #[.int .i64 pc, .int .i64 c0, .int .i64 c1, .int .i64 c2, .int .i64 c3, .int .i64 c4, .int .i64 c5, .bool f] 25) := ⟨_, rfl⟩
  have h0s : w0.heap[w.heap.size]? = some (.cells (stV S) 25 (0, 0)) := by rw [hw0, HSS.out]; exact heap_alloc_new w _
  have h0b : Below w.heap.size w w0 := by rw [hw0]; exact (Below.refl _ _).alloc (Nat.le_refl _) _
  rw [← hw0]
  have HLS : Hid (∀ w', w'.heap[w.heap.size]? = some (.cells (stV S) 25 (0, 0)) → StAt w' w.heap.size ⟨pc, c0, c1, c2, c3, c4, c5, f⟩) := fun w' h => by rw [← HSS.out]; exact stAt h
  have HLT : Hid (w.heap.size < w0.heap.size) := hid (blk_lt h0s)
  have H0S := hid h0s
  have HW0 := hid h0b
  have HB : Hid (Below w0.heap.size w0 w0) := hid (Below.refl _ _)
  obtain ⟨p0, p1, p2, p3, p4, p5, p6, p7⟩ := HLS.out _ h0s
  simp only [] at p0 p1 p2 p3 p4 p5 p6 p7
  clear hw0 h0s h0b
  rcases hcases with ⟨h1, h2, h3⟩ | ⟨h1, h2, h3, h4⟩ | ⟨h1, h2, h3, h4, h5, h6⟩ | ⟨h1, h2, h3, h4, k, o, hk, hkl, hl20, hget, hop, h6⟩
  · have hE1 : ((codeChk l).2 == 0) = false := by simpa using h1
    rw [h2] at HCK
    obtain ⟨hpair, hsnd⟩ := Prod.mk.inj h3
    obtain ⟨hfst, hout⟩ := Prod.mk.inj hpair
    subst hsnd hfst hout
    obtain ⟨cE, hcE⟩ : ∃ q, q = (codeChk l).2 := ⟨_, rfl⟩
    obtain ⟨cP, hcP⟩ : ∃ q, q = (codeChk l).1 := ⟨_, rfl⟩
    unfold TellNI at HRC
    rw [← hcE] at HCK HRC HST hE1
    rw [← hcP] at HRC
    clear hcE hcP h1 h2 h3
    go_upto_region 9 with (first
      | (go_at_call 18; refine (HRC.out _ (HW0.out.trans (HB.out.mono HW0.out.size))).mono ?_; rintro e w1 ⟨rfl, hb1⟩; replace HB := hid (HB.out.trans (hb1.mono HB.out.size)); clear p0 p1 p2 p3 p4 p5 p6 p7; obtain ⟨p0, p1, p2, p3, p4, p5, p6, p7⟩ := HLS.out _ ((HB.out.block _ HLT.out).trans H0S.out); simp only [] at p0 p1 p2 p3 p4 p5 p6 p7; clear hb1)
      | (go_at_call 19; refine (HRS.out _).mono ?_; rintro e w1 ⟨rfl, hb1⟩; replace HB := hid (HB.out.trans (hb1.mono HB.out.size)); clear p0 p1 p2 p3 p4 p5 p6 p7; obtain ⟨p0, p1, p2, p3, p4, p5, p6, p7⟩ := HLS.out _ ((HB.out.block _ HLT.out).trans H0S.out); simp only [] at p0 p1 p2 p3 p4 p5 p6 p7; clear hb1)
      | (go_at_call 16; refine (HCK.out _ (HW0.out.trans (HB.out.mono HW0.out.size))).mono ?_; rintro e w1 ⟨rfl, hb1⟩; replace HB := hid (HB.out.trans (hb1.mono HB.out.size)); clear p0 p1 p2 p3 p4 p5 p6 p7; obtain ⟨p0, p1, p2, p3, p4, p5, p6, p7⟩ := HLS.out _ ((HB.out.block _ HLT.out).trans H0S.out); simp only [] at p0 p1 p2 p3 p4 p5 p6 p7; clear hb1)
      | (go_at_call 20; refine (error_same cE _ (HG.out.new (HW0.out.trans (HB.out.mono HW0.out.size)))).mono ?_; rintro e w1 ⟨rfl, hb1⟩; replace HB := hid (HB.out.trans (hb1.mono HB.out.size)); clear p0 p1 p2 p3 p4 p5 p6 p7; obtain ⟨p0, p1, p2, p3, p4, p5, p6, p7⟩ := HLS.out _ ((HB.out.block _ HLT.out).trans H0S.out); simp only [] at p0 p1 p2 p3 p4 p5 p6 p7; clear hb1))
    go_upto_region 10 with fail
    obtain ⟨wl, hwl⟩ : ∃ wl, wl = w1 := ⟨_, rfl⟩
    have hz : (w1.alloc (.cells #[.int .i64 0, .int .i64 0, .int .i64 0, .int .i64 0, .int .i64 0, .int .i64 0, .int .i64 0, .bool false] 25)).heap[w1.heap.size]? = some (.cells (stV St.zero) 25 (0, 0)) := heap_alloc_new w1 _
    have hzb : Below w0.heap.size w0 (w1.alloc (.cells #[.int .i64 0, .int .i64 0, .int .i64 0, .int .i64 0, .int .i64 0, .int .i64 0, .int .i64 0, .bool false] 25)) := HB.out.alloc HB.out.size _
    obtain ⟨b13, hb13⟩ : ∃ b, b = w1.heap.size := ⟨_, rfl⟩
    have h13 : w0.heap.size ≤ b13 := by rw [hb13]; exact HB.out.size
    obtain ⟨w9, hw9⟩ : ∃ w9, w9 = w1.alloc (.cells #[.int .i64 0, .int .i64 0, .int .i64 0, .int .i64 0, .int .i64 0, .int .i64 0, .int .i64 0, .bool false] 25) := ⟨_, rfl⟩
    rw [← hw9, ← hb13] at hz
    rw [← hw9] at hzb
    rw [← hw9, ← hb13]
    replace HB := hid hzb
    have HZ := hid hz
    have H13 := hid h13
    clear hw9 hb13 hz hzb hwl p0 p1 p2 p3 p4 p5 p6 p7
    obtain ⟨p0, p1, p2, p3, p4, p5, p6, p7⟩ := HLS.out _ ((HB.out.block _ HLT.out).trans H0S.out)
    simp only [] at p0 p1 p2 p3 p4 p5 p6 p7
    obtain ⟨t, ht⟩ : ∃ t, t = St.zero := ⟨_, rfl⟩
    rw [← ht] at HST HZ
    clear ht
    clear HRC HRS HCK HRD
    go_upto_region 14 with (go_at_call 15; refine (HST.out _ (HW0.out.trans (HB.out.mono HW0.out.size))).mono ?_; rintro e w2 ⟨rfl, hb2⟩; unfold stV; have HB2 := hid hb2; clear hb2)
    have h15 : (w2.alloc (.cells #[.int .i64 t.pc, .int .i64 t.c0, .int .i64 t.c1, .int .i64 t.c2, .int .i64 t.c3, .int .i64 t.c4, .int .i64 t.c5, .bool t.failed] 25)).heap[w2.heap.size]? = some (.cells (stV t) 25 (0, 0)) := heap_alloc_new w2 _
    have h2z := (HB2.out.block _ (blk_lt HZ.out)).trans HZ.out
    have h13z : (w2.alloc (.cells #[.int .i64 t.pc, .int .i64 t.c0, .int .i64 t.c1, .int .i64 t.c2, .int .i64 t.c3, .int .i64 t.c4, .int .i64 t.c5, .bool t.failed] 25)).heap[b13]? = some (.cells (stV t) 25 (0, 0)) := (blk_alloc (blk_lt h2z) _).trans h2z
    have hbel : Below w.heap.size w (w2.alloc (.cells #[.int .i64 t.pc, .int .i64 t.c0, .int .i64 t.c1, .int .i64 t.c2, .int .i64 t.c3, .int .i64 t.c4, .int .i64 t.c5, .bool t.failed] 25)) := ((HW0.out.trans (HB.out.mono HW0.out.size)).trans (HB2.out.mono (HW0.out.trans (HB.out.mono HW0.out.size)).size)).alloc (by have := (HW0.out.trans (HB.out.mono HW0.out.size)).size; have := HB2.out.size; omega) _
    obtain ⟨w3, hw3⟩ : ∃ w3, w3 = (w2.alloc (.cells #[.int .i64 t.pc, .int .i64 t.c0, .int .i64 t.c1, .int .i64 t.c2, .int .i64 t.c3, .int .i64 t.c4, .int .i64 t.c5, .bool t.failed] 25)) := ⟨_, rfl⟩
    obtain ⟨b15, hb15⟩ : ∃ b, b = w2.heap.size := ⟨_, rfl⟩
    rw [← hw3, ← hb15] at h15
    rw [← hw3] at h13z hbel
    rw [← hw3, ← hb15]
    have H15 := hid h15
    have H13Z := hid h13z
    have HBEL := hid hbel
    clear hw3 hb15 h15 h2z h13z hbel p0 p1 p2 p3 p4 p5 p6 p7
    have hqt := HQT.out t
    have hqz := HQZ.out
    have HBB := hid (Below.refl w3.heap.size w3)
    go_wp2_with (first
      | (go_at_call 20; refine (error_same cE _ (HG.out.new HBEL.out)).mono ?_; rintro e w4 ⟨rfl, hb4⟩; have HB4 := hid hb4; obtain ⟨u0, u1, u2, u3, u4, u5, u6, u7⟩ := stAt ((hb4.block _ (blk_lt H15.out)).trans H15.out); obtain ⟨v0, v1, v2, v3, v4, v5, v6, v7⟩ := stAt ((hb4.block _ (blk_lt H13Z.out)).trans H13Z.out); clear hb4)
      | (go_at_call 17; refine (HN.out _).mono ?_; rintro e w5 ⟨rfl, hb5⟩; have HB5 := hid hb5; clear hb5))
    go_ret
    exact ⟨rfl, HBEL.out.trans ((HB4.out.trans (HB5.out.mono HB4.out.size)).mono HBEL.out.size)⟩
  · rw [h3] at HCK
    rw [h2] at HRS
    obtain ⟨hpair, hsnd⟩ := Prod.mk.inj h4
    obtain ⟨hfst, hout⟩ := Prod.mk.inj hpair
    subst hsnd hfst hout
    obtain ⟨cP, hcP⟩ : ∃ q, q = (codeChk l).1 := ⟨_, rfl⟩
    unfold TellNI at HRC
    rw [h1, ← hcP] at HRC
    clear hcP h1 h2 h3
    go_upto_region 9 with (first
      | (go_at_call 18; refine (HRC.out _ (HW0.out.trans (HB.out.mono HW0.out.size))).mono ?_; rintro e w1 ⟨rfl, hb1⟩; replace HB := hid (HB.out.trans (hb1.mono HB.out.size)); clear p0 p1 p2 p3 p4 p5 p6 p7; obtain ⟨p0, p1, p2, p3, p4, p5, p6, p7⟩ := HLS.out _ ((HB.out.block _ HLT.out).trans H0S.out); simp only [] at p0 p1 p2 p3 p4 p5 p6 p7; clear hb1)
      | (go_at_call 19; refine (HRS.out _).mono ?_; rintro e w1 ⟨rfl, hb1⟩; replace HB := hid (HB.out.trans (hb1.mono HB.out.size)); clear p0 p1 p2 p3 p4 p5 p6 p7; obtain ⟨p0, p1, p2, p3, p4, p5, p6, p7⟩ := HLS.out _ ((HB.out.block _ HLT.out).trans H0S.out); simp only [] at p0 p1 p2 p3 p4 p5 p6 p7; clear hb1)
      | (go_at_call 16; refine (HCK.out _ (HW0.out.trans (HB.out.mono HW0.out.size))).mono ?_; rintro e w1 ⟨rfl, hb1⟩; replace HB := hid (HB.out.trans (hb1.mono HB.out.size)); clear p0 p1 p2 p3 p4 p5 p6 p7; obtain ⟨p0, p1, p2, p3, p4, p5, p6, p7⟩ := HLS.out _ ((HB.out.block _ HLT.out).trans H0S.out); simp only [] at p0 p1 p2 p3 p4 p5 p6 p7; clear hb1)
      | (go_at_call 20; refine (error_same 1 _ (HG.out.new (HW0.out.trans (HB.out.mono HW0.out.size)))).mono ?_; rintro e w1 ⟨rfl, hb1⟩; replace HB := hid (HB.out.trans (hb1.mono HB.out.size)); clear p0 p1 p2 p3 p4 p5 p6 p7; obtain ⟨p0, p1, p2, p3, p4, p5, p6, p7⟩ := HLS.out _ ((HB.out.block _ HLT.out).trans H0S.out); simp only [] at p0 p1 p2 p3 p4 p5 p6 p7; clear hb1))
    go_upto_region 10 with fail
    obtain ⟨wl, hwl⟩ : ∃ wl, wl = w1 := ⟨_, rfl⟩
    have hz : (w1.alloc (.cells #[.int .i64 0, .int .i64 0, .int .i64 0, .int .i64 0, .int .i64 0, .int .i64 0, .int .i64 0, .bool false] 25)).heap[w1.heap.size]? = some (.cells (stV St.zero) 25 (0, 0)) := heap_alloc_new w1 _
    have hzb : Below w0.heap.size w0 (w1.alloc (.cells #[.int .i64 0, .int .i64 0, .int .i64 0, .int .i64 0, .int .i64 0, .int .i64 0, .int .i64 0, .bool false] 25)) := HB.out.alloc HB.out.size _
    obtain ⟨b13, hb13⟩ : ∃ b, b = w1.heap.size := ⟨_, rfl⟩
    have h13 : w0.heap.size ≤ b13 := by rw [hb13]; exact HB.out.size
    obtain ⟨w9, hw9⟩ : ∃ w9, w9 = w1.alloc (.cells #[.int .i64 0, .int .i64 0, .int .i64 0, .int .i64 0, .int .i64 0, .int .i64 0, .int .i64 0, .bool false] 25) := ⟨_, rfl⟩
    rw [← hw9, ← hb13] at hz
    rw [← hw9] at hzb
    rw [← hw9, ← hb13]
    replace HB := hid hzb
    have HZ := hid hz
    have H13 := hid h13
    clear hw9 hb13 hz hzb hwl p0 p1 p2 p3 p4 p5 p6 p7
    obtain ⟨p0, p1, p2, p3, p4, p5, p6, p7⟩ := HLS.out _ ((HB.out.block _ HLT.out).trans H0S.out)
    simp only [] at p0 p1 p2 p3 p4 p5 p6 p7
    obtain ⟨t, ht⟩ : ∃ t, t = St.zero := ⟨_, rfl⟩
    rw [← ht] at HST HZ
    clear ht
    clear HRC HRS HCK HRD
    go_upto_region 14 with (go_at_call 15; refine (HST.out _ (HW0.out.trans (HB.out.mono HW0.out.size))).mono ?_; rintro e w2 ⟨rfl, hb2⟩; unfold stV; have HB2 := hid hb2; clear hb2)
    have h15 : (w2.alloc (.cells #[.int .i64 t.pc, .int .i64 t.c0, .int .i64 t.c1, .int .i64 t.c2, .int .i64 t.c3, .int .i64 t.c4, .int .i64 t.c5, .bool t.failed] 25)).heap[w2.heap.size]? = some (.cells (stV t) 25 (0, 0)) := heap_alloc_new w2 _
    have h2z := (HB2.out.block _ (blk_lt HZ.out)).trans HZ.out
    have h13z : (w2.alloc (.cells #[.int .i64 t.pc, .int .i64 t.c0, .int .i64 t.c1, .int .i64 t.c2, .int .i64 t.c3, .int .i64 t.c4, .int .i64 t.c5, .bool t.failed] 25)).heap[b13]? = some (.cells (stV t) 25 (0, 0)) := (blk_alloc (blk_lt h2z) _).trans h2z
    have hbel : Below w.heap.size w (w2.alloc (.cells #[.int .i64 t.pc, .int .i64 t.c0, .int .i64 t.c1, .int .i64 t.c2, .int .i64 t.c3, .int .i64 t.c4, .int .i64 t.c5, .bool t.failed] 25)) := ((HW0.out.trans (HB.out.mono HW0.out.size)).trans (HB2.out.mono (HW0.out.trans (HB.out.mono HW0.out.size)).size)).alloc (by have := (HW0.out.trans (HB.out.mono HW0.out.size)).size; have := HB2.out.size; omega) _
    obtain ⟨w3, hw3⟩ : ∃ w3, w3 = (w2.alloc (.cells #[.int .i64 t.pc, .int .i64 t.c0, .int .i64 t.c1, .int .i64 t.c2, .int .i64 t.c3, .int .i64 t.c4, .int .i64 t.c5, .bool t.failed] 25)) := ⟨_, rfl⟩
    obtain ⟨b15, hb15⟩ : ∃ b, b = w2.heap.size := ⟨_, rfl⟩
    rw [← hw3, ← hb15] at h15
    rw [← hw3] at h13z hbel
    rw [← hw3, ← hb15]
    have H15 := hid h15
    have H13Z := hid h13z
    have HBEL := hid hbel
    clear hw3 hb15 h15 h2z h13z hbel p0 p1 p2 p3 p4 p5 p6 p7
    have hqt := HQT.out t
    have hqz := HQZ.out
    have HBB := hid (Below.refl w3.heap.size w3)
    go_wp2_with (first
      | (go_at_call 20; refine (error_same 1 _ (HG.out.new HBEL.out)).mono ?_; rintro e w4 ⟨rfl, hb4⟩; have HB4 := hid hb4; obtain ⟨u0, u1, u2, u3, u4, u5, u6, u7⟩ := stAt ((hb4.block _ (blk_lt H15.out)).trans H15.out); obtain ⟨v0, v1, v2, v3, v4, v5, v6, v7⟩ := stAt ((hb4.block _ (blk_lt H13Z.out)).trans H13Z.out); clear hb4)
      | (go_at_call 17; refine (HN.out _).mono ?_; rintro e w5 ⟨rfl, hb5⟩; have HB5 := hid hb5; clear hb5))
    go_ret
    exact ⟨rfl, HBEL.out.trans ((HB4.out.trans (HB5.out.mono HB4.out.size)).mono HBEL.out.size)⟩
  · rw [h3] at HCK
    rw [h2] at HRS
    obtain ⟨hpair, hsnd⟩ := Prod.mk.inj h6
    obtain ⟨hfst, hout⟩ := Prod.mk.inj hpair
    subst hsnd hfst hout
    subst h4
    obtain ⟨cP, hcP⟩ : ∃ q, q = (codeChk l).1 := ⟨_, rfl⟩
    unfold TellNI at HRC
    rw [h1, ← hcP] at HRC
    clear hcP h1 h2 h3
    rcases h5 with h5 | h5
    case' inr => have d0 : decide (got < 0) = false := decide_eq_false (by omega)
    case' inr => have d1 : 999 < got := by omega
    all_goals
      go_upto_region 9 with (first
        | (go_at_call 18; refine (HRC.out _ (HW0.out.trans (HB.out.mono HW0.out.size))).mono ?_; rintro e w1 ⟨rfl, hb1⟩; replace HB := hid (HB.out.trans (hb1.mono HB.out.size)); clear p0 p1 p2 p3 p4 p5 p6 p7; obtain ⟨p0, p1, p2, p3, p4, p5, p6, p7⟩ := HLS.out _ ((HB.out.block _ HLT.out).trans H0S.out); simp only [] at p0 p1 p2 p3 p4 p5 p6 p7; clear hb1)
        | (go_at_call 19; refine (HRS.out _).mono ?_; rintro e w1 ⟨rfl, hb1⟩; replace HB := hid (HB.out.trans (hb1.mono HB.out.size)); clear p0 p1 p2 p3 p4 p5 p6 p7; obtain ⟨p0, p1, p2, p3, p4, p5, p6, p7⟩ := HLS.out _ ((HB.out.block _ HLT.out).trans H0S.out); simp only [] at p0 p1 p2 p3 p4 p5 p6 p7; clear hb1)
        | (go_at_call 16; refine (HCK.out _ (HW0.out.trans (HB.out.mono HW0.out.size))).mono ?_; rintro e w1 ⟨rfl, hb1⟩; rw [errV_zero]; replace HB := hid (HB.out.trans (hb1.mono HB.out.size)); clear p0 p1 p2 p3 p4 p5 p6 p7; obtain ⟨p0, p1, p2, p3, p4, p5, p6, p7⟩ := HLS.out _ ((HB.out.block _ HLT.out).trans H0S.out); simp only [] at p0 p1 p2 p3 p4 p5 p6 p7; clear hb1)
        | (go_at_call 20; refine (error_same 0 _ (HG.out.new (HW0.out.trans (HB.out.mono HW0.out.size)))).mono ?_; rintro e w1 ⟨rfl, hb1⟩; replace HB := hid (HB.out.trans (hb1.mono HB.out.size)); clear p0 p1 p2 p3 p4 p5 p6 p7; obtain ⟨p0, p1, p2, p3, p4, p5, p6, p7⟩ := HLS.out _ ((HB.out.block _ HLT.out).trans H0S.out); simp only [] at p0 p1 p2 p3 p4 p5 p6 p7; clear hb1))
      go_upto_region 10 with fail
      obtain ⟨wl, hwl⟩ : ∃ wl, wl = w1 := ⟨_, rfl⟩
      have hz : (w1.alloc (.cells #[.int .i64 0, .int .i64 0, .int .i64 0, .int .i64 0, .int .i64 0, .int .i64 0, .int .i64 0, .bool false] 25)).heap[w1.heap.size]? = some (.cells (stV St.zero) 25 (0, 0)) := heap_alloc_new w1 _
      have hzb : Below w0.heap.size w0 (w1.alloc (.cells #[.int .i64 0, .int .i64 0, .int .i64 0, .int .i64 0, .int .i64 0, .int .i64 0, .int .i64 0, .bool false] 25)) := HB.out.alloc HB.out.size _
      obtain ⟨b13, hb13⟩ : ∃ b, b = w1.heap.size := ⟨_, rfl⟩
      have h13 : w0.heap.size ≤ b13 := by rw [hb13]; exact HB.out.size
      obtain ⟨w9, hw9⟩ : ∃ w9, w9 = w1.alloc (.cells #[.int .i64 0, .int .i64 0, .int .i64 0, .int .i64 0, .int .i64 0, .int .i64 0, .int .i64 0, .bool false] 25) := ⟨_, rfl⟩
      rw [← hw9, ← hb13] at hz
      rw [← hw9] at hzb
      rw [← hw9, ← hb13]
      replace HB := hid hzb
      have HZ := hid hz
      have H13 := hid h13
      clear hw9 hb13 hz hzb hwl p0 p1 p2 p3 p4 p5 p6 p7
      obtain ⟨p0, p1, p2, p3, p4, p5, p6, p7⟩ := HLS.out _ ((HB.out.block _ HLT.out).trans H0S.out)
      simp only [] at p0 p1 p2 p3 p4 p5 p6 p7
      obtain ⟨t, ht⟩ : ∃ t, t = St.zero := ⟨_, rfl⟩
      rw [← ht] at HST HZ
      clear ht
      clear HRC HRS HCK HRD
      go_upto_region 14 with (go_at_call 15; refine (HST.out _ (HW0.out.trans (HB.out.mono HW0.out.size))).mono ?_; rintro e w2 ⟨rfl, hb2⟩; unfold stV; have HB2 := hid hb2; clear hb2)
      have h15 : (w2.alloc (.cells #[.int .i64 t.pc, .int .i64 t.c0, .int .i64 t.c1, .int .i64 t.c2, .int .i64 t.c3, .int .i64 t.c4, .int .i64 t.c5, .bool t.failed] 25)).heap[w2.heap.size]? = some (.cells (stV t) 25 (0, 0)) := heap_alloc_new w2 _
      have h2z := (HB2.out.block _ (blk_lt HZ.out)).trans HZ.out
      have h13z : (w2.alloc (.cells #[.int .i64 t.pc, .int .i64 t.c0, .int .i64 t.c1, .int .i64 t.c2, .int .i64 t.c3, .int .i64 t.c4, .int .i64 t.c5, .bool t.failed] 25)).heap[b13]? = some (.cells (stV t) 25 (0, 0)) := (blk_alloc (blk_lt h2z) _).trans h2z
      have hbel : Below w.heap.size w (w2.alloc (.cells #[.int .i64 t.pc, .int .i64 t.c0, .int .i64 t.c1, .int .i64 t.c2, .int .i64 t.c3, .int .i64 t.c4, .int .i64 t.c5, .bool t.failed] 25)) := ((HW0.out.trans (HB.out.mono HW0.out.size)).trans (HB2.out.mono (HW0.out.trans (HB.out.mono HW0.out.size)).size)).alloc (by have := (HW0.out.trans (HB.out.mono HW0.out.size)).size; have := HB2.out.size; omega) _
      obtain ⟨w3, hw3⟩ : ∃ w3, w3 = (w2.alloc (.cells #[.int .i64 t.pc, .int .i64 t.c0, .int .i64 t.c1, .int .i64 t.c2, .int .i64 t.c3, .int .i64 t.c4, .int .i64 t.c5, .bool t.failed] 25)) := ⟨_, rfl⟩
      obtain ⟨b15, hb15⟩ : ∃ b, b = w2.heap.size := ⟨_, rfl⟩
      rw [← hw3, ← hb15] at h15
      rw [← hw3] at h13z hbel
      rw [← hw3, ← hb15]
      have H15 := hid h15
      have H13Z := hid h13z
      have HBEL := hid hbel
      clear hw3 hb15 h15 h2z h13z hbel p0 p1 p2 p3 p4 p5 p6 p7
      have hqt := HQT.out t
      have hqz := HQZ.out
      have HBB := hid (Below.refl w3.heap.size w3)
      go_wp2_with (first
        | (go_at_call 20; refine (error_same 1 _ (HG.out.new HBEL.out)).mono ?_; rintro e w4 ⟨rfl, hb4⟩; have HB4 := hid hb4; obtain ⟨u0, u1, u2, u3, u4, u5, u6, u7⟩ := stAt ((hb4.block _ (blk_lt H15.out)).trans H15.out); obtain ⟨v0, v1, v2, v3, v4, v5, v6, v7⟩ := stAt ((hb4.block _ (blk_lt H13Z.out)).trans H13Z.out); clear hb4)
        | (go_at_call 17; refine (HN.out _).mono ?_; rintro e w5 ⟨rfl, hb5⟩; have HB5 := hid hb5; clear hb5))
      go_ret
      exact ⟨rfl, HBEL.out.trans ((HB4.out.trans (HB5.out.mono HB4.out.size)).mono HBEL.out.size)⟩
  · rw [h3] at HCK
    rw [h2] at HRS
    have HR4 := hid (HRD.out k o hk hkl hl20 hget hop h2)
    obtain ⟨hpair, hsnd⟩ := Prod.mk.inj h6
    subst hsnd
    have h6' : stepDo (n : Int) o ⟨pc, c0, c1, c2, c3, c4, c5, f⟩ got is = (t, out) := hpair.symm
    rw [h6'] at HR4
    generalize stepWhat o ⟨pc, c0, c1, c2, c3, c4, c5, f⟩ is = wh at HR4
    obtain ⟨cP, hcP⟩ : ∃ q, q = (codeChk l).1 := ⟨_, rfl⟩
    unfold TellNI at HRC
    rw [h1, ← hcP] at HRC
    clear hcP h1 h2 h3 hpair h6 h6' hk hkl hl20 hget hop
    have hgc : is = false ∨ (is = true ∧ ¬ got < 0 ∧ ¬ 999 < got) := by
      cases is with
      | false => exact .inl rfl
      | true => exact .inr ⟨rfl, by have := h4 rfl; omega, by have := h4 rfl; omega⟩
    clear h4
    rcases hgc with rfl | ⟨rfl, g1, g2⟩
    all_goals
      go_upto_region 9 with (first
        | (go_at_call 18; refine (HRC.out _ (HW0.out.trans (HB.out.mono HW0.out.size))).mono ?_; rintro e w1 ⟨rfl, hb1⟩; replace HB := hid (HB.out.trans (hb1.mono HB.out.size)); clear p0 p1 p2 p3 p4 p5 p6 p7; obtain ⟨p0, p1, p2, p3, p4, p5, p6, p7⟩ := HLS.out _ ((HB.out.block _ HLT.out).trans H0S.out); simp only [] at p0 p1 p2 p3 p4 p5 p6 p7; clear hb1)
        | (go_at_call 19; refine (HRS.out _).mono ?_; rintro e w1 ⟨rfl, hb1⟩; replace HB := hid (HB.out.trans (hb1.mono HB.out.size)); clear p0 p1 p2 p3 p4 p5 p6 p7; obtain ⟨p0, p1, p2, p3, p4, p5, p6, p7⟩ := HLS.out _ ((HB.out.block _ HLT.out).trans H0S.out); simp only [] at p0 p1 p2 p3 p4 p5 p6 p7; clear hb1)
        | (go_at_call 16; refine (HCK.out _ (HW0.out.trans (HB.out.mono HW0.out.size))).mono ?_; rintro e w1 ⟨rfl, hb1⟩; rw [errV_zero]; replace HB := hid (HB.out.trans (hb1.mono HB.out.size)); clear p0 p1 p2 p3 p4 p5 p6 p7; obtain ⟨p0, p1, p2, p3, p4, p5, p6, p7⟩ := HLS.out _ ((HB.out.block _ HLT.out).trans H0S.out); simp only [] at p0 p1 p2 p3 p4 p5 p6 p7; clear hb1)
        | (go_at_call 20; refine (error_same 0 _ (HG.out.new (HW0.out.trans (HB.out.mono HW0.out.size)))).mono ?_; rintro e w1 ⟨rfl, hb1⟩; replace HB := hid (HB.out.trans (hb1.mono HB.out.size)); clear p0 p1 p2 p3 p4 p5 p6 p7; obtain ⟨p0, p1, p2, p3, p4, p5, p6, p7⟩ := HLS.out _ ((HB.out.block _ HLT.out).trans H0S.out); simp only [] at p0 p1 p2 p3 p4 p5 p6 p7; clear hb1))
      go_upto_region 10 with fail
      obtain ⟨wl, hwl⟩ : ∃ wl, wl = w1 := ⟨_, rfl⟩
      have hz : (w1.alloc (.cells #[.int .i64 0, .int .i64 0, .int .i64 0, .int .i64 0, .int .i64 0, .int .i64 0, .int .i64 0, .bool false] 25)).heap[w1.heap.size]? = some (.cells (stV St.zero) 25 (0, 0)) := heap_alloc_new w1 _
      have hzb : Below w0.heap.size w0 (w1.alloc (.cells #[.int .i64 0, .int .i64 0, .int .i64 0, .int .i64 0, .int .i64 0, .int .i64 0, .int .i64 0, .bool false] 25)) := HB.out.alloc HB.out.size _
      obtain ⟨b13, hb13⟩ : ∃ b, b = w1.heap.size := ⟨_, rfl⟩
      have h13 : w0.heap.size ≤ b13 := by rw [hb13]; exact HB.out.size
      obtain ⟨w9, hw9⟩ : ∃ w9, w9 = w1.alloc (.cells #[.int .i64 0, .int .i64 0, .int .i64 0, .int .i64 0, .int .i64 0, .int .i64 0, .int .i64 0, .bool false] 25) := ⟨_, rfl⟩
      rw [← hw9, ← hb13] at hz
      rw [← hw9] at hzb
      rw [← hw9, ← hb13]
      replace HB := hid hzb
      have HZ := hid hz
      have H13 := hid h13
      clear hw9 hb13 hz hzb hwl p0 p1 p2 p3 p4 p5 p6 p7
      obtain ⟨p0, p1, p2, p3, p4, p5, p6, p7⟩ := HLS.out _ ((HB.out.block _ HLT.out).trans H0S.out)
      simp only [] at p0 p1 p2 p3 p4 p5 p6 p7
      clear p0 p1 p2 p3 p4 p5 p6 p7
      obtain ⟨p0, p1, p2, p3, p4, p5, p6, p7⟩ := HLS.out _ ((HB.out.block _ HLT.out).trans H0S.out)
      simp only [] at p0 p1 p2 p3 p4 p5 p6 p7
      go_upto_region 12 with fail
      go_wp2_with fail
      refine (HR4.out _ (HW0.out.trans (HB.out.mono HW0.out.size))).mono ?_
      rintro e w6 ⟨rfl, hb6⟩
      unfold stV
      have h6z := (hb6.block _ (blk_lt HZ.out)).trans HZ.out
      have HB6 := hid hb6
      have H6Z := hid h6z
      obtain ⟨q0, q1, q2, q3, q4, q5, q6, q7⟩ := stAt h6z
      have qf := blk_free h6z
      clear p0 p1 p2 p3 p4 p5 p6 p7 hb6 h6z
      go_upto_region 13 with fail
      have hy : (put8 w6 b13 t).heap[b13]? = some (.cells (stV t) 25 (0, 0)) ∧ Below w0.heap.size w0 (put8 w6 b13 t) :=
        ⟨put8_heap H6Z.out, (put8_keep (F := fun i => w0.heap.size ≤ i) (Keep.of_below _ (HB.out.trans (HB6.out.mono HB.out.size))) (.inl H13.out) t).below (Nat.le_refl _) (fun _ h => h)⟩
      obtain ⟨wy, hwy⟩ : ∃ wy, wy = put8 w6 b13 t := ⟨_, rfl⟩
      rw [← hwy] at hy
      unfold put8 at hwy
      rw [← hwy]
      obtain ⟨y1, y2⟩ := hy
      replace HZ := hid y1
      replace HB := hid y2
      clear hwy y1 y2 q0 q1 q2 q3 q4 q5 q6 q7 qf H6Z HB6
      obtain ⟨p0, p1, p2, p3, p4, p5, p6, p7⟩ := HLS.out _ ((HB.out.block _ HLT.out).trans H0S.out)
      simp only [] at p0 p1 p2 p3 p4 p5 p6 p7
      clear HRC HRS HCK HRD
      go_upto_region 14 with (go_at_call 15; refine (HST.out _ (HW0.out.trans (HB.out.mono HW0.out.size))).mono ?_; rintro e w2 ⟨rfl, hb2⟩; rw [errV_zero]; unfold stV; have HB2 := hid hb2; clear hb2)
      have h15 : (w2.alloc (.cells #[.int .i64 t.pc, .int .i64 t.c0, .int .i64 t.c1, .int .i64 t.c2, .int .i64 t.c3, .int .i64 t.c4, .int .i64 t.c5, .bool t.failed] 25)).heap[w2.heap.size]? = some (.cells (stV t) 25 (0, 0)) := heap_alloc_new w2 _
      have h2z := (HB2.out.block _ (blk_lt HZ.out)).trans HZ.out
      have h13z : (w2.alloc (.cells #[.int .i64 t.pc, .int .i64 t.c0, .int .i64 t.c1, .int .i64 t.c2, .int .i64 t.c3, .int .i64 t.c4, .int .i64 t.c5, .bool t.failed] 25)).heap[b13]? = some (.cells (stV t) 25 (0, 0)) := (blk_alloc (blk_lt h2z) _).trans h2z
      have hbel : Below w.heap.size w (w2.alloc (.cells #[.int .i64 t.pc, .int .i64 t.c0, .int .i64 t.c1, .int .i64 t.c2, .int .i64 t.c3, .int .i64 t.c4, .int .i64 t.c5, .bool t.failed] 25)) := ((HW0.out.trans (HB.out.mono HW0.out.size)).trans (HB2.out.mono (HW0.out.trans (HB.out.mono HW0.out.size)).size)).alloc (by have := (HW0.out.trans (HB.out.mono HW0.out.size)).size; have := HB2.out.size; omega) _
      obtain ⟨w3, hw3⟩ : ∃ w3, w3 = (w2.alloc (.cells #[.int .i64 t.pc, .int .i64 t.c0, .int .i64 t.c1, .int .i64 t.c2, .int .i64 t.c3, .int .i64 t.c4, .int .i64 t.c5, .bool t.failed] 25)) := ⟨_, rfl⟩
      obtain ⟨b15, hb15⟩ : ∃ b, b = w2.heap.size := ⟨_, rfl⟩
      rw [← hw3, ← hb15] at h15
      rw [← hw3] at h13z hbel
      rw [← hw3, ← hb15]
      have H15 := hid h15
      have H13Z := hid h13z
      have HBEL := hid hbel
      clear hw3 hb15 h15 h2z h13z hbel p0 p1 p2 p3 p4 p5 p6 p7
      have hqt := HQT.out t
      have hqz := HQZ.out
      have HBB := hid (Below.refl w3.heap.size w3)
      go_wp2_with (first
        | (go_at_call 20; refine (error_same 0 _ (HG.out.new HBEL.out)).mono ?_; rintro e w4 ⟨rfl, hb4⟩; have HB4 := hid hb4; obtain ⟨u0, u1, u2, u3, u4, u5, u6, u7⟩ := stAt ((hb4.block _ (blk_lt H15.out)).trans H15.out); obtain ⟨v0, v1, v2, v3, v4, v5, v6, v7⟩ := stAt ((hb4.block _ (blk_lt H13Z.out)).trans H13Z.out); clear hb4)
        | (go_at_call 17; refine (HN.out _).mono ?_; rintro e w5 ⟨rfl, hb5⟩; have HB5 := hid hb5; clear hb5))
      go_ret
      exact ⟨rfl, HBEL.out.trans ((HB4.out.trans (HB5.out.mono HB4.out.size)).mono HBEL.out.size)⟩
end Go.Proofs.YtnighanlonkjbaaDoor
