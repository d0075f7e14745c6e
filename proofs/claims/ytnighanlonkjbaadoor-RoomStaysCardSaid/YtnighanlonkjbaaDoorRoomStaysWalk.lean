/- The walk of framelaw1.RoomStays: it returns true at every input. -/
import Derived.Test.YtnighanlonkjbaaDoorRoomCountsWalk
import Derived.Test.YtnighanlonkjbaaDoorOpen2
namespace Go.Proofs.YtnighanlonkjbaaDoor
open Go.RowKit
set_option maxRecDepth 100000

theorem sub_fact : stepOf [⟨4, 0, 1⟩] ⟨0, 3, 5, 0, 0, 0, 0, false⟩ 0 false = ((⟨0, 998, 5, 0, 0, 0, 0, false⟩, -1), 0) := by
  rw [step_of_one (by decide) (by decide) rfl rfl]; rfl
/-- What a step that was done says. -/
theorem stepOf_ok {l : List Op} {s x : St} {got out : Int} {is : Bool} (h : stepOf l s got is = ((x, out), 0)) :
    ∃ (k : Nat) (o : Op), s.pc = k ∧ k < l.length ∧ l.length ≤ 20 ∧ l[k]? = some o ∧ opOk o l.length = true ∧ (codeChk l).2 = 0 ∧ stOk s l.length = true ∧ (is = true → 0 ≤ got ∧ got < 1000) ∧ stepDo l.length o s got is = (x, out) := by
  unfold stepOf at h
  by_cases he : roomChk l s = 0
  · rw [if_neg (by simpa using he)] at h
    by_cases hg : is = true ∧ cellB got = false
    · rw [if_pos hg] at h; exact absurd (Prod.mk.inj h).2 (by simp)
    · rw [if_neg hg] at h
      have hchk : (codeChk l).2 = 0 ∧ stOk s l.length = true := by
        unfold roomChk at he
        by_cases h1 : (codeChk l).2 = 0
        · rw [if_neg (by simpa using h1)] at he
          refine ⟨h1, ?_⟩
          cases h2 : stOk s l.length with
          | true => rfl
          | false => rw [h2] at he; simp at he
        · rw [if_pos h1] at he; exact absurd he h1
      obtain ⟨hcode, hst⟩ := hchk
      obtain ⟨hl1, hl20, hops⟩ := codeChk_ok hcode
      have hpc := (stOk_iff.1 hst).1
      have hkl : s.pc.toNat < l.length := by omega
      rw [List.getElem?_eq_getElem hkl] at h
      refine ⟨s.pc.toNat, _, by omega, hkl, hl20, List.getElem?_eq_getElem hkl, hops _ (List.getElem_mem hkl), hcode, hst, fun hi => ?_, (Prod.mk.inj h).1⟩
      cases hc : cellB got with
      | true => exact cellB_true.1 hc
      | false => exact absurd ⟨hi, hc⟩ hg
  · rw [if_pos he] at h; exact absurd (Prod.mk.inj h).2 he
theorem stepOf_mk {l : List Op} {s : St} {got : Int} {is : Bool} {k : Nat} {o : Op} (hk : s.pc = k) (ho : l[k]? = some o) (hc : (codeChk l).2 = 0) (hs : stOk s l.length = true) (hg : is = true → cellB got = true) :
    stepOf l s got is = (stepDo l.length o s got is, 0) := by
  have hr : roomChk l s = 0 := by
    unfold roomChk
    rw [if_neg (by simpa using hc), if_neg (by rw [hs]; decide)]
  unfold stepOf
  rw [if_neg (by simpa using hr), if_neg (by rintro ⟨h1, h2⟩; rw [hg h1] at h2; cases h2), hk, Int.toNat_natCast, ho]
theorem roomChk_good {l : List Op} {s : St} (hc : (codeChk l).2 = 0) (hs : stOk s l.length = true) : roomChk l s = 0 := by
  unfold roomChk
  rw [if_neg (by simpa using hc), if_neg (by rw [hs]; decide)]

set_option maxHeartbeats 1000000 in
theorem roomStays_walk {w : World} (hf : Forms w) (A : Option Addr) (c : Nat) (l : List Op) (hs : Sl w A 3 l.length (l.flatMap Op.cells)) (hsw : SlW A c l.length) (_ok : ∀ y ∈ l, y.Ok) (s : St) (_fit : s.Fit) (got : Int) (is : Bool) (other : Int) :
    Calls Tryd.prog 3 #[.slice A l.length c, .agg #[.int .i64 s.pc, .int .i64 s.c0, .int .i64 s.c1, .int .i64 s.c2, .int .i64 s.c3, .int .i64 s.c4, .int .i64 s.c5, .bool s.failed], .int .i64 got, .bool is, .int .i64 other] w
      fun e w' => e = .returned (.bool true) ∧ Below w.heap.size w w' := by
  have HFACT : Hid (∀ w', Below w.heap.size w w' → ∀ A, Sl w' A 3 1 ([(⟨4, 0, 1⟩ : Op)].flatMap Op.cells) → SlW A 1 1 → Calls Tryd.prog 15 #[.slice A 1 1, .agg #[.int .i64 0, .int .i64 3, .int .i64 5, .int .i64 0, .int .i64 0, .int .i64 0, .int .i64 0, .bool false], .int .i64 0, .bool false] w' (StepV w' ((⟨0, 998, 5, 0, 0, 0, 0, false⟩, -1), 0))) :=
    fun w' hb A h1 h2 => by rw [← sub_fact]; exact room_step A 1 [⟨4, 0, 1⟩] ⟨0, 3, 5, 0, 0, 0, 0, false⟩ 0 false w' (hf.new hb) h1 h2
  have HSTEP : Hid (∀ w', Below w.heap.size w w' → ∀ g i, Calls Tryd.prog 15 #[.slice A l.length c, .agg #[.int .i64 s.pc, .int .i64 s.c0, .int .i64 s.c1, .int .i64 s.c2, .int .i64 s.c3, .int .i64 s.c4, .int .i64 s.c5, .bool s.failed], .int .i64 g, .bool i] w' (StepV w' (stepOf l s g i))) :=
    fun w' hb g i => room_step A c l s g i w' (hf.new hb) (hs.new hb) hsw
  have HCHK : Hid (∀ (x : St) w', Below w.heap.size w w' → Calls Tryd.prog 16 #[.slice A l.length c, .agg #[.int .i64 x.pc, .int .i64 x.c0, .int .i64 x.c1, .int .i64 x.c2, .int .i64 x.c3, .int .i64 x.c4, .int .i64 x.c5, .bool x.failed]] w' fun e w'' => e = .returned (errV (roomChk l x)) ∧ Below w'.heap.size w' w'') :=
    fun x w' hb => room_check A c l x w' (hf.new hb) (hs.new hb) hsw
  have HS := hid hs
  obtain ⟨n, hn⟩ : ∃ n, n = l.length := ⟨_, rfl⟩
  rw [← hn] at HSTEP HCHK hsw HS ⊢
  have HN := hid hn
  have HW := hid hsw
  obtain ⟨pc, c0, c1, c2, c3, c4, c5, f⟩ := s
  simp only [] at HSTEP ⊢
  obtain ⟨S, hS⟩ : ∃ S, S = (⟨pc, c0, c1, c2, c3, c4, c5, f⟩ : St) := ⟨_, rfl⟩
  rw [← hS] at HSTEP
  have HSS := hid hS
  clear hs hsw hf hS hn _fit _ok
  go_enter Tryd.func3, Tryd.ntmps3
  go_upto_region 2 with fail
  obtain ⟨w1, hw1⟩ : ∃ w1, w1 = ((w.alloc (.cells #[.int .i64 pc, .int .i64 c0, .int .i64 c1, .int .i64 c2, .int .i64 c3, .int .i64 c4, .int .i64 c5, .bool f] 25)).alloc (.cells #[.int .i64 4, .int .i64 0, .int .i64 1] 27)) := ⟨_, rfl⟩
  have h1s : w1.heap[w.heap.size]? = some (.cells (stV S) 25 (0, 0)) := by rw [hw1, hp_alloc, if_neg (by simp), hp_alloc, if_pos rfl, HSS.out]; rfl
  have h1o : Sl w1 (some ⟨w.heap.size + 1, 0, none⟩) 3 1 ([(⟨4, 0, 1⟩ : Op)].flatMap Op.cells) := by
    have : w1.heap[w.heap.size + 1]? = some (.cells #[.int .i64 4, .int .i64 0, .int .i64 1] 27 (0, 0)) := by rw [hw1, hp_alloc, if_pos (by simp)]
    exact ⟨rfl, fun _ => ⟨_, 0, rfl, blk_lt this, fun j u hu => by rw [Nat.zero_add, blk_cell this j]; simpa [Op.cells] using hu⟩⟩
  have h1w : SlW (some ⟨w.heap.size + 1, 0, none⟩) 1 1 := ⟨by omega, by simp [maxLen], by simp⟩
  have h1b : Below w.heap.size w w1 := by rw [hw1]; exact ((Below.refl _ _).alloc (by simp) _).alloc (by simp) _
  rw [← hw1]
  have H1S := hid h1s
  have H1O := hid h1o
  have H1W := hid h1w
  have H1B := hid h1b
  clear hw1 h1s h1o h1w h1b
  go_upto_region 5 with (go_at_call 15; refine (HFACT.out _ H1B.out _ H1O.out H1W.out).mono ?_; rintro e w2 ⟨rfl, hb2⟩; rw [errV_zero]; unfold stV; have HB2 := hid hb2; clear hb2)
  obtain ⟨w3, hw3⟩ : ∃ w3, w3 = (w2.alloc (.cells #[.int .i64 0, .int .i64 998, .int .i64 5, .int .i64 0, .int .i64 0, .int .i64 0, .int .i64 0, .bool false] 25)) := ⟨_, rfl⟩
  have h3b : Below w.heap.size w w3 := by rw [hw3]; exact (H1B.out.trans (HB2.out.mono H1B.out.size)).alloc (by have := H1B.out.size; have := HB2.out.size; omega) _
  have h3s : w3.heap[w.heap.size]? = some (.cells (stV S) 25 (0, 0)) := by rw [hw3]; exact (blk_alloc (by have := blk_lt H1S.out; have := HB2.out.size; omega) _).trans ((HB2.out.block _ (blk_lt H1S.out)).trans H1S.out)
  have hbl : w.heap.size < w3.heap.size := blk_lt h3s
  rw [← hw3]
  have H3S := hid h3s
  have H3B := hid h3b
  obtain ⟨p0, p1, p2, p3, p4, p5, p6, p7⟩ := stAt h3s
  clear hw3 h3s h3b HB2 H1S H1O H1W H1B HFACT hbl
  obtain ⟨⟨⟨x, out⟩, E⟩, hE⟩ : ∃ q, stepOf l S got is = q := ⟨_, rfl⟩
  have HE := hid hE
  rw [HSS.out] at p0 p1 p2 p3 p4 p5 p6 p7
  simp only [] at p0 p1 p2 p3 p4 p5 p6 p7
  by_cases he : E = 0
  · subst he
    obtain ⟨k, o, hk, hkl, hl20, hget, hop, hcode, hst, hgot, hdo⟩ := stepOf_ok hE
    have hn := HN.out
    rw [← hn] at hkl hl20
    have hn0 : (0 : Int) < l.length := by omega
    have hkind := step_kind hn0 hop hst hgot
    rw [hdo] at hkind
    obtain ⟨hxok, ho1, ho2⟩ := hkind.ok hn0 hst
    obtain ⟨hu1, hu2, hfail⟩ := hkind.stays
    simp only [] at hxok ho1 ho2 hu1 hu2 hfail
    have HCX := hid (HCHK.out x)
    rw [roomChk_good hcode hxok, errV_zero] at HCX
    have HAG : Hid (o.what ≠ 9 → ∀ g i, (i = true → cellB g = true) → stepOf l S g i = ((x, out), 0)) := fun h9 g i hg => by
      rw [stepOf_mk hk hget hcode hst hg, ← hdo, step_got h9]
    have hpk : pc = k := by rw [HSS.out] at hk; exact hk
    subst hpk
    have HGET := hid hget
    have HU1 := hid hu1
    have HU2 := hid hu2
    have HFAIL := hid hfail
    have HNS : Hid (∀ x w, (binOp .neq 25 (.agg #[.int .i64 x.pc, .int .i64 x.c0, .int .i64 x.c1, .int .i64 x.c2, .int .i64 x.c3, .int .i64 x.c4, .int .i64 x.c5, .bool x.failed]) (.agg #[.int .i64 k, .int .i64 c0, .int .i64 c1, .int .i64 c2, .int .i64 c3, .int .i64 c4, .int .i64 c5, .bool f])).run Tryd.prog w = .ok (.bool (!stEq x S)) w) := fun x w => by rw [HSS.out]; exact state_neq x ⟨k, c0, c1, c2, c3, c4, c5, f⟩ w
    have HQX : Hid (∀ w, (binOp .eql 25 (.agg #[.int .i64 x.pc, .int .i64 x.c0, .int .i64 x.c1, .int .i64 x.c2, .int .i64 x.c3, .int .i64 x.c4, .int .i64 x.c5, .bool x.failed]) (.agg #[.int .i64 x.pc, .int .i64 x.c0, .int .i64 x.c1, .int .i64 x.c2, .int .i64 x.c3, .int .i64 x.c4, .int .i64 x.c5, .bool x.failed])).run Tryd.prog w = .ok (.bool true) w) := fun w => by rw [state_eql, stEq_refl]
    have hgd := state_guard
    have d1 : decide (out < -1) = false := decide_eq_false (by omega)
    have d2 : decide (1000 ≤ out) = false := decide_eq_false (by omega)
    clear hE hk hget hop hcode hst hgot hdo hkind hxok hu1 hu2 hfail hn hn0
    go_upto_region 8 with (go_at_call 15; refine (HSTEP.out _ H3B.out got is).mono ?_; rw [HE.out]; rintro e w4 ⟨rfl, hb4⟩; rw [show errV ((x, out), (0 : Int)).2 = .nilIface from rfl]; unfold stV; have HB4 := hid hb4; clear hb4)
    have HNX := hid (HNS.out x)
    obtain ⟨X, hX⟩ : ∃ X, X = x := ⟨_, rfl⟩
    obtain ⟨xp, x0, x1, x2, x3, x4, x5, xf⟩ := x
    simp only [] at HQX HCX HNX ⊢
    have h4s := (HB4.out.block _ (blk_lt H3S.out)).trans H3S.out
    have h4lt := blk_lt h4s
    have H4B := hid (H3B.out.trans (HB4.out.mono H3B.out.size))
    obtain ⟨w5, hw5⟩ : ∃ w5, w5 = (w4.alloc (.cells #[.int .i64 xp, .int .i64 x0, .int .i64 x1, .int .i64 x2, .int .i64 x3, .int .i64 x4, .int .i64 x5, .bool xf] 25)) := ⟨_, rfl⟩
    have h5x : w5.heap[w4.heap.size]? = some (.cells (stV X) 25 (0, 0)) := by rw [hw5, hX]; exact heap_alloc_new w4 _
    have h5s : w5.heap[w.heap.size]? = some (.cells (stV S) 25 (0, 0)) := by rw [hw5]; exact (blk_alloc h4lt _).trans h4s
    have h5b : Below w.heap.size w w5 := by rw [hw5]; exact H4B.out.alloc H4B.out.size _
    rw [← hw5]
    obtain ⟨bx, hbx⟩ : ∃ bx, bx = w4.heap.size := ⟨_, rfl⟩
    rw [← hbx] at h5x ⊢
    have H5X := hid h5x
    have H5S := hid h5s
    have H5B := hid h5b
    have HX := hid hX
    clear p0 p1 p2 p3 p4 p5 p6 p7 hw5 h5x h5s h5b hbx h4s h4lt H4B HB4 H3S H3B hX
    obtain ⟨q0, q1, q2, q3, q4, q5, q6, q7⟩ := stAt H5X.out
    obtain ⟨p0, p1, p2, p3, p4, p5, p6, p7⟩ := stAt H5S.out
    rw [HX.out] at q0 q1 q2 q3 q4 q5 q6 q7
    rw [HSS.out] at p0 p1 p2 p3 p4 p5 p6 p7
    simp only [] at p0 p1 p2 p3 p4 p5 p6 p7 q0 q1 q2 q3 q4 q5 q6 q7
    have HNE : Hid (f = true → ∀ w, (binOp .neq 25 (.agg #[.int .i64 xp, .int .i64 x0, .int .i64 x1, .int .i64 x2, .int .i64 x3, .int .i64 x4, .int .i64 x5, .bool xf]) (.agg #[.int .i64 k, .int .i64 c0, .int .i64 c1, .int .i64 c2, .int .i64 c3, .int .i64 c4, .int .i64 c5, .bool f])).run Tryd.prog w = .ok (.bool false) w) := fun hf w => by
      have h1 := HFAIL.out (by rw [HSS.out]; exact hf)
      have h2 := HNX.out w
      rw [h1, stEq_refl] at h2
      exact h2
    have HLS : Hid (∀ w', w'.heap[w.heap.size]? = some (.cells (stV S) 25 (0, 0)) → StAt w' w.heap.size ⟨k, c0, c1, c2, c3, c4, c5, f⟩) := fun w' h => by rw [← HSS.out]; exact stAt h
    have HLX : Hid (∀ w', w'.heap[bx]? = some (.cells (stV X) 25 (0, 0)) → StAt w' bx ⟨xp, x0, x1, x2, x3, x4, x5, xf⟩) := fun w' h => by rw [← HX.out]; exact stAt h
    have fin : ∀ (fb : Bool), f = fb → True := fun _ _ => trivial
    clear fin
    have H6 : Hid (∀ w6, Below w5.heap.size w5 w6 → w6.heap[w.heap.size]? = some (.cells (stV S) 25 (0, 0)) ∧ w6.heap[bx]? = some (.cells (stV X) 25 (0, 0)) ∧ Below w.heap.size w w6) := fun w6 hb =>
      ⟨(hb.block _ (blk_lt H5S.out)).trans H5S.out, (hb.block _ (blk_lt H5X.out)).trans H5X.out, H5B.out.trans (hb.mono H5B.out.size)⟩
    have unl := unlike_le S X
    cases f
    case' true =>
      have HNT := hid (HNE.out rfl)
      clear HNE
      go_upto_region 10 with (go_at_call 16; refine (HCX.out _ H5B.out).mono ?_; rintro e w6 ⟨rfl, hb6⟩; obtain ⟨k1, k2, k3⟩ := H6.out _ hb6; obtain ⟨r0, r1, r2, r3, r4, r5, r6, r7⟩ := HLS.out _ k1; obtain ⟨s0, s1, s2, s3, s4, s5, s6, s7⟩ := HLX.out _ k2; have K1 := hid k1; have K2 := hid k2; have K3 := hid k3; have hne := HNT.out; clear hb6 k1 k2 k3; simp only [] at r0 r1 r2 r3 r4 r5 r6 r7 s0 s1 s2 s3 s4 s5 s6 s7)
      clear hne HNT
    case' false =>
      clear HNE
      go_upto_region 10 with (go_at_call 16; refine (HCX.out _ H5B.out).mono ?_; rintro e w6 ⟨rfl, hb6⟩; obtain ⟨k1, k2, k3⟩ := H6.out _ hb6; obtain ⟨r0, r1, r2, r3, r4, r5, r6, r7⟩ := HLS.out _ k1; obtain ⟨s0, s1, s2, s3, s4, s5, s6, s7⟩ := HLX.out _ k2; have K1 := hid k1; have K2 := hid k2; have K3 := hid k3; clear hb6 k1 k2 k3; simp only [] at r0 r1 r2 r3 r4 r5 r6 r7 s0 s1 s2 s3 s4 s5 s6 s7)
    all_goals
      clear p0 p1 p2 p3 p4 p5 p6 p7 q0 q1 q2 q3 q4 q5 q6 q7 r0 r1 r2 r3 r4 r5 r6 r7 s0 s1 s2 s3 s4 s5 s6 s7
      go_wp2_with fail
      go_loopw [18, 19] (fun v18 v19 wr => ∃ i d : Nat, i ≤ 6 ∧ v19 = .int .i64 i ∧ v18 = .int .i64 (unlike S X i) ∧ wr = w6.drewN d) (fun _ v19 _ => 6 - (intOf v19).toNat)
      case atStart => exact ⟨0, 0, by omega, rfl, rfl, rfl⟩
      case round =>
        obtain ⟨i, d, hi, rfl, rfl, rfl⟩ := hrel
        by_cases hi6 : i < 6
        · have cs := (blk_cell K1.out (1 + i)).trans (stV_get S hi6)
          have cx := (blk_cell K2.out (1 + i)).trans (stV_get X hi6)
          have hsu : unlike S X (i + 1) = unlike S X i + if X.get i = S.get i then 0 else 1 := rfl
          have hle := unl i
          by_cases hxs : X.get i = S.get i
          · rw [if_pos hxs] at hsu
            rw [hxs] at cx
            generalize S.get i = y at cs cx
            generalize unlike S X i = u at hsu hle ⊢
            have HSU := hid hsu
            clear hsu hxs unl
            go_wp2_with fail
            go_quiet (fail)
            go_wp2_with fail
            go_roundw
            case rel => exact ⟨i + 1, _, by omega, by go_num, by rw [HSU.out]; rfl, rfl⟩
            case measure => simp [intOf]; omega
          · rw [if_neg hxs] at hsu
            have hxb : (X.get i == S.get i) = false := by simpa using hxs
            generalize S.get i = y at cs hxb
            generalize X.get i = z at cx hxb
            generalize unlike S X i = u at hsu hle ⊢
            have HSU := hid hsu
            clear hsu hxs unl
            go_wp2_with fail
            go_quiet (fail)
            go_wp2_with fail
            go_roundw
            case rel => exact ⟨i + 1, _, by omega, by go_num, by rw [HSU.out]; go_num, rfl⟩
            case measure => simp [intOf]; omega
        · obtain rfl : i = 6 := by omega
          have hu1 := HU1.out
          have hu2 := HU2.out
          rw [← HX.out] at hu1 hu2
          generalize unlike S X 6 = u at hu1 hu2 ⊢
          clear unl hi6 hi
          obtain ⟨ob, off, rfl, hlb, g0, g1, g2⟩ := HS.out.op (below_drewN K3.out d) (show k < l.length by rw [← HN.out]; exact hkl) hkl
          rw [show l[k]'(by rw [← HN.out]; exact hkl) = o from Option.some.inj ((List.getElem?_eq_getElem _).symm.trans HGET.out)] at g0
          clear g1 g2
          obtain ⟨r0, r1, r2, r3, r4, r5, r6, r7⟩ := HLS.out _ K1.out
          simp only [] at r0 r1 r2 r3 r4 r5 r6 r7
          have tail : ((0 ≤ out ∧ u = 0) ∨ (out < 0 ∧ u ≤ 1)) := by omega
          clear hu1 hu2
          rcases tail with ⟨t1, rfl⟩ | ⟨t1, t2⟩
          all_goals
            by_cases h9 : o.what = 9
            · rw [h9] at g0
              clear HAG
              go_wp2_with fail
              go_ret
              exact ⟨rfl, below_drewN K3.out d⟩
            have h9b : (o.what == 9) = false := by simpa using h9
            generalize hwh : o.what = wh at g0 h9b
            have HWH := hid hwh
            clear hwh
            by_cases u0 : other < 0
            · have u1 : decide (0 ≤ other) = false := decide_eq_false (by omega)
              have hqx := HQX.out
              go_wp2_with (go_at_call 15; refine (HSTEP.out _ (below_drewN K3.out d) other false).mono ?_; rw [HAG.out h9 other false (fun h => by cases h)]; rintro e w7 ⟨rfl, hb7⟩; rw [show errV (((⟨xp, x0, x1, x2, x3, x4, x5, xf⟩, out), (0 : Int)) : (St × Int) × Int).2 = .nilIface from rfl]; unfold stV; have k2 := (hb7.block _ (blk_lt K2.out)).trans K2.out; have k2lt := blk_lt k2; obtain ⟨s0, s1, s2, s3, s4, s5, s6, s7⟩ := HLX.out _ k2; simp only [] at s0 s1 s2 s3 s4 s5 s6 s7; have HB7 := hid hb7; clear hb7 k2)
              go_ret
              exact ⟨rfl, ((below_drewN K3.out d).trans (HB7.out.mono K3.out.size)).alloc (by have := K3.out.size; have := HB7.out.size; simp at this; omega) _⟩
            by_cases u1 : 1000 ≤ other
            · have u2 : decide (other < 1000) = false := decide_eq_false (by omega)
              have u3 : 0 ≤ other := by omega
              have hqx := HQX.out
              go_wp2_with (go_at_call 15; refine (HSTEP.out _ (below_drewN K3.out d) other false).mono ?_; rw [HAG.out h9 other false (fun h => by cases h)]; rintro e w7 ⟨rfl, hb7⟩; rw [show errV (((⟨xp, x0, x1, x2, x3, x4, x5, xf⟩, out), (0 : Int)) : (St × Int) × Int).2 = .nilIface from rfl]; unfold stV; have k2 := (hb7.block _ (blk_lt K2.out)).trans K2.out; have k2lt := blk_lt k2; obtain ⟨s0, s1, s2, s3, s4, s5, s6, s7⟩ := HLX.out _ k2; simp only [] at s0 s1 s2 s3 s4 s5 s6 s7; have HB7 := hid hb7; clear hb7 k2)
              go_ret
              exact ⟨rfl, ((below_drewN K3.out d).trans (HB7.out.mono K3.out.size)).alloc (by have := K3.out.size; have := HB7.out.size; simp at this; omega) _⟩
            · have u3 : 0 ≤ other := by omega
              have u4 : other < 1000 := by omega
              have hqx := HQX.out
              go_wp2_with (go_at_call 15; refine (HSTEP.out _ (below_drewN K3.out d) other true).mono ?_; rw [HAG.out h9 other true (fun _ => cellB_true.2 ⟨by omega, by omega⟩)]; rintro e w7 ⟨rfl, hb7⟩; rw [show errV (((⟨xp, x0, x1, x2, x3, x4, x5, xf⟩, out), (0 : Int)) : (St × Int) × Int).2 = .nilIface from rfl]; unfold stV; have k2 := (hb7.block _ (blk_lt K2.out)).trans K2.out; have k2lt := blk_lt k2; obtain ⟨s0, s1, s2, s3, s4, s5, s6, s7⟩ := HLX.out _ k2; simp only [] at s0 s1 s2 s3 s4 s5 s6 s7; have HB7 := hid hb7; clear hb7 k2)
              go_ret
              exact ⟨rfl, ((below_drewN K3.out d).trans (HB7.out.mono K3.out.size)).alloc (by have := K3.out.size; have := HB7.out.size; simp at this; omega) _⟩
  · have hv := errV_pos he
    have HV := hid hv
    clear hE he hv
    go_wp2_with (go_at_call 15; refine (HSTEP.out _ H3B.out got is).mono ?_; rw [HE.out]; rintro e w4 ⟨rfl, hb4⟩; rw [show errV ((x, out), E).2 = _ from HV.out]; unfold stV; have HB4 := hid hb4; clear hb4)
    go_ret
    exact ⟨rfl, (H3B.out.trans (HB4.out.mono H3B.out.size)).alloc (by have := H3B.out.size; have := HB4.out.size; omega) _⟩
end Go.Proofs.YtnighanlonkjbaaDoor
