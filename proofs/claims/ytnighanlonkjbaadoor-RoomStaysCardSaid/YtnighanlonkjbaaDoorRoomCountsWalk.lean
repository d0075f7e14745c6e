/- The walk of framelaw4.RoomCounts: it returns true at every input. -/
import Derived.Test.YtnighanlonkjbaaDoorDoW2
import Derived.Test.YtnighanlonkjbaaDoorSameState
namespace Go.Proofs.YtnighanlonkjbaaDoor
open Go.RowKit
set_option maxRecDepth 100000

def cntSt (by_ : Int) (m : Int) : St := ⟨0, m, by_, 0, 0, 0, 0, false⟩
theorem addOp_chk : (codeChk [⟨3, 0, 1⟩]).2 = 0 := by decide
theorem sendOp_chk : (codeChk [⟨8, 0, 0⟩]).2 = 0 := by decide
theorem cntSt_ok {b m : Int} (hb : 0 ≤ b ∧ b < 1000) (hm : 0 ≤ m ∧ m < 1000) : stOk (cntSt b m) 1 = true :=
  stOk_iff.2 ⟨⟨Int.le_refl _, Int.one_pos⟩, fun a ha => by rcases six ha with rfl | rfl | rfl | rfl | rfl | rfl <;> simp [St.get, cntSt] <;> omega⟩
theorem step_of_one {o : Op} {s : St} {got : Int} {is : Bool} (h1 : (codeChk [o]).2 = 0) (h2 : stOk s 1 = true) (h3 : s.pc = 0) (h4 : is = false) : stepOf [o] s got is = (stepDo 1 o s got is, 0) := by
  have hr : roomChk [o] s = 0 := by
    unfold roomChk
    rw [if_neg (by simpa using h1), if_neg (by rw [show ((([o] : List Op).length : Nat) : Int) = 1 from rfl, h2]; decide)]
  unfold stepOf
  rw [if_neg (by simpa using hr), if_neg (by rw [h4]; simp), h3]
  rfl
theorem step_add {b m : Int} (hb : 0 ≤ b ∧ b < 1000) (hm : 0 ≤ m ∧ m < 1000) : stepOf [⟨3, 0, 1⟩] (cntSt b m) 0 false = ((cntSt b ((m + b) % 1000), -1), 0) :=
  (step_of_one addOp_chk (cntSt_ok hb hm) rfl rfl).trans rfl
theorem step_send {b m : Int} (hb : 0 ≤ b ∧ b < 1000) (hm : 0 ≤ m ∧ m < 1000) : stepOf [⟨8, 0, 0⟩] (cntSt b m) 0 false = ((cntSt b m, m), 0) :=
  (step_of_one sendOp_chk (cntSt_ok hb hm) rfl rfl).trans rfl

set_option maxHeartbeats 4000000 in
theorem roomCounts_walk {w : World} (hf : Forms w) (n b : Int) :
    Calls Tryd.prog 4 #[.int .i64 n, .int .i64 b] w fun e w' => e = .returned (.bool true) ∧ Below w.heap.size w w' := by
  have HF := hid hf
  have HN : Hid (∀ w, Calls Tryd.prog 17 #[] w fun e w' => e = .returned (.agg #[.int .i64 0, .int .i64 0, .int .i64 0, .int .i64 0, .int .i64 0, .int .i64 0, .int .i64 0, .bool false]) ∧ Below w.heap.size w w') := room_new
  have HQ : ∀ w, (binOp .eql 25 (.agg #[.int .i64 0, .int .i64 0, .int .i64 0, .int .i64 0, .int .i64 0, .int .i64 0, .int .i64 0, .bool false]) (.agg #[.int .i64 0, .int .i64 0, .int .i64 0, .int .i64 0, .int .i64 0, .int .i64 0, .int .i64 0, .bool false])).run Tryd.prog w = .ok (.bool true) w := fun w => (state_eql St.zero St.zero w).trans (by rw [stEq_refl])
  have hgd := state_guard
  clear hf
  by_cases h0 : n < 0
  · go_enter Tryd.func4, Tryd.ntmps4
    go_wp2_with (go_at_call 17; refine (HN.out _).mono ?_; rintro e w1 ⟨rfl, hb1⟩)
    go_ret
    exact ⟨rfl, hb1⟩
  by_cases h1 : 200 < n
  · go_enter Tryd.func4, Tryd.ntmps4
    go_wp2_with (go_at_call 17; refine (HN.out _).mono ?_; rintro e w1 ⟨rfl, hb1⟩)
    go_ret
    exact ⟨rfl, hb1⟩
  by_cases h2 : b < 0
  · go_enter Tryd.func4, Tryd.ntmps4
    go_wp2_with (go_at_call 17; refine (HN.out _).mono ?_; rintro e w1 ⟨rfl, hb1⟩)
    go_ret
    exact ⟨rfl, hb1⟩
  by_cases h3 : 999 < b
  · go_enter Tryd.func4, Tryd.ntmps4
    go_wp2_with (go_at_call 17; refine (HN.out _).mono ?_; rintro e w1 ⟨rfl, hb1⟩)
    go_ret
    exact ⟨rfl, hb1⟩
  go_enter Tryd.func4, Tryd.ntmps4
  go_upto_region 6 with (go_at_call 17; refine (HN.out _).mono ?_; rintro e w1 ⟨rfl, hb1⟩; have HB1 := hid hb1; clear hb1)
  have hsb : w.heap.size < w1.heap.size := by have := HB1.out.size; simp at this; omega
  have hob : w1.heap[w.heap.size]? = some (.cells #[.int .i64 3, .int .i64 0, .int .i64 1] 27 (0, 0)) := (HB1.out.block _ (by simp)).trans (heap_alloc_new w _)
  have hbw : Below w.heap.size w w1 := ((Below.refl _ _).alloc (Nat.le_refl _) _).trans (HB1.out.mono (by simp))
  obtain ⟨ob, hobn⟩ : ∃ ob, ob = w.heap.size := ⟨_, rfl⟩
  obtain ⟨sb, hsbn⟩ : ∃ sb, sb = w1.heap.size := ⟨_, rfl⟩
  obtain ⟨w2, hw2⟩ : ∃ w2, w2 = w1.alloc (Obj.cells #[Value.int IntKind.i64 0, Value.int IntKind.i64 0, Value.int IntKind.i64 b, Value.int IntKind.i64 0, Value.int IntKind.i64 0, Value.int IntKind.i64 0, Value.int IntKind.i64 0, Value.bool false] 25) := ⟨_, rfl⟩
  have h2s : w2.heap[sb]? = some (.cells (stV (cntSt b 0)) 25 (0, 0)) := by rw [hw2, hsbn]; exact heap_alloc_new w1 _
  have h2o : w2.heap[ob]? = some (.cells #[.int .i64 3, .int .i64 0, .int .i64 1] 27 (0, 0)) := by rw [hw2, hobn, hp_alloc, if_neg (by omega)]; exact hob
  have h2b : Below w.heap.size w w2 := by rw [hw2]; exact hbw.alloc hbw.size _
  rw [← hw2]
  rw [← hobn, ← hsbn]
  have hso : w.heap.size ≤ sb ∧ ob ≠ sb := by omega
  have H2S := hid h2s
  have H2O := hid h2o
  have H2B := hid h2b
  have HSO := hid hso
  have HOBN := hid hobn
  clear hw2 hbw hob hsb hsbn HB1 h2s h2o h2b hso hobn HN HQ
  obtain ⟨n, rfl⟩ : ∃ m : Nat, n = m := ⟨n.toNat, by omega⟩
  have hn : n ≤ 200 := by omega
  have hb0 : 0 ≤ b := by omega
  have hb9 : b < 1000 := by omega
  clear h0 h1 h2 h3
  go_wp2_with fail
  go_loopw [7] (fun v7 wr => ∃ k : Nat, k ≤ n ∧ v7 = .int .i64 k ∧ wr.heap[sb]? = some (.cells (stV (cntSt b ((k : Int) * b % 1000))) 25 (0, 0)) ∧ wr.heap[ob]? = some (.cells #[.int .i64 3, .int .i64 0, .int .i64 1] 27 (0, 0)) ∧ Below w.heap.size w wr) (fun v7 _ => n - (intOf v7).toNat)
  case atStart => exact ⟨0, by omega, rfl, by simpa using H2S.out, H2O.out, H2B.out⟩
  case round =>
    obtain ⟨k, hk, rfl, hs, ho, hbw⟩ := hrel
    have HS := hid hs
    have HO := hid ho
    have HB := hid hbw
    have hm0 : 0 ≤ (k : Int) * b % 1000 ∧ (k : Int) * b % 1000 < 1000 := by omega
    have hmn : ((k : Int) * b % 1000 + b) % 1000 = ((k + 1 : Nat) : Int) * b % 1000 := by rw [Int.natCast_add, Int.add_mul]; omega
    have hkb : n = k → (n : Int) * b % 1000 = (k : Int) * b % 1000 := fun e => by rw [e]
    generalize (k : Int) * b % 1000 = m at hs HS hm0 hmn hkb
    obtain ⟨m2, hm2⟩ : ∃ m2, m2 = ((k + 1 : Nat) : Int) * b % 1000 := ⟨_, rfl⟩
    rw [← hm2] at hmn
    have HM2 := hid hm2
    clear hm2
    have HM := hid hmn
    have HKB := hid hkb
    obtain ⟨p0, p1, p2, p3, p4, p5, p6, p7⟩ := stAt hs
    simp only [cntSt] at p0 p1 p2 p3 p4 p5 p6 p7
    have hfz := blk_free hs
    clear hs ho hbw hmn hkb
    have HSTEP : Hid (∀ (o : Op) (c : Nat) (A : Option Addr) w', Below w.heap.size w w' → Sl w' A 3 1 ([o].flatMap Op.cells) → SlW A c 1 → Calls Tryd.prog 15 #[.slice A 1 c, .agg #[.int .i64 0, .int .i64 m, .int .i64 b, .int .i64 0, .int .i64 0, .int .i64 0, .int .i64 0, .bool false], .int .i64 0, .bool false] w' (StepV w' (stepOf [o] (cntSt b m) 0 false))) :=
      fun o c A w' hb hs hw => room_step A c [o] (cntSt b m) 0 false w' (HF.out.new hb) hs hw
    by_cases hkn : k < n
    · go_upto_region 10 with (go_at_call 15; refine (HSTEP.out ⟨3, 0, 1⟩ 1 _ _ HB.out ⟨rfl, fun _ => ⟨ob, 0, rfl, blk_lt HO.out, fun j u hu => by rw [Nat.zero_add, blk_cell HO.out j]; simpa [Op.cells] using hu⟩⟩ ⟨by omega, by simp [maxLen], by simp⟩).mono ?_; rw [step_add ⟨hb0, hb9⟩ hm0, HM.out]; rintro e w3 ⟨rfl, hb3⟩; rw [errV_zero]; unfold stV cntSt; have HB3 := hid hb3; clear hb3)
      clear p0 p1 p2 p3 p4 p5 p6 p7 hfz
      have h3s := (HB3.out.block _ (blk_lt HS.out)).trans HS.out
      have hlt := blk_lt h3s
      have H3S := hid h3s
      obtain ⟨p0, p1, p2, p3, p4, p5, p6, p7⟩ := stAt h3s
      simp only [cntSt] at p0 p1 p2 p3 p4 p5 p6 p7
      have hfz := blk_free h3s
      clear h3s
      go_upto_region 8 with fail
      have hy : (put8 w3 sb (cntSt b m2)).heap[sb]? = some (.cells (stV (cntSt b m2)) 25 (0, 0)) ∧
          (put8 w3 sb (cntSt b m2)).heap[ob]? = some (.cells #[.int .i64 3, .int .i64 0, .int .i64 1] 27 (0, 0)) ∧ Below w.heap.size w (put8 w3 sb (cntSt b m2)) := by
        have hso := HSO.out
        refine ⟨put8_heap H3S.out, ?_, ?_⟩
        · have e := (put8_keep (F := fun i => i = sb) (Keep.refl _ w3) (.inl rfl) (cntSt b m2)).block ob (by have := blk_lt HO.out; have := HB3.out.size; omega) hso.2
          exact e.trans ((HB3.out.block _ (blk_lt HO.out)).trans HO.out)
        · have e := (put8_keep (F := fun i => i = sb) (Keep.of_below _ (HB.out.trans (HB3.out.mono HB.out.size))) (.inl rfl) (cntSt b m2))
          exact e.below (Nat.le_refl _) (fun i hi => by omega)
      obtain ⟨wy, hwy⟩ : ∃ wy, wy = put8 w3 sb (cntSt b m2) := ⟨_, rfl⟩
      rw [← hwy] at hy
      unfold put8 cntSt at hwy
      simp only [] at hwy
      rw [← hwy]
      obtain ⟨y1, y2, y3⟩ := hy
      have Y1 := hid y1
      have Y2 := hid y2
      have Y3 := hid y3
      clear hwy p0 p1 p2 p3 p4 p5 p6 p7 hfz y1 y2 y3
      go_wp2_with fail
      go_roundw
      case rel => exact ⟨k + 1, by omega, by go_num, (blk_alloc (blk_lt Y1.out) _).trans (by rw [← HM2.out]; exact Y1.out), (blk_alloc (blk_lt Y2.out) _).trans Y2.out, Y3.out.alloc Y3.out.size _⟩
      case measure => simp [intOf]; omega
    · obtain rfl : k = n := by omega
      have hkb := HKB.out rfl
      have hmul : 0 ≤ (k : Int) * b ∧ (k : Int) * b ≤ 200 * 1000 := ⟨Int.mul_nonneg (by omega) hb0, Int.mul_le_mul (by omega) (by omega) hb0 (by omega)⟩
      obtain ⟨x, hx⟩ : ∃ x, x = (k : Int) * b := ⟨_, rfl⟩
      rw [← hx] at hkb hmul
      have HX := hid hx
      have e1 : IntKind.i64.wrap ((k : Int) * b) = x := by rw [← hx]; exact IntWalk.i64_in _ (by omega)
      have e2 : x.tmod 1000 = m := by rw [← hkb]; exact Int.tmod_eq_emod_of_nonneg hmul.1
      clear hkb hx hmul
      have hsl : Sl (wr.alloc (.cells #[.int .i64 8, .int .i64 0, .int .i64 0] 27)) (some ⟨wr.heap.size, 0, none⟩) 3 1 ([(⟨8, 0, 0⟩ : Op)].flatMap Op.cells) :=
        ⟨rfl, fun _ => ⟨wr.heap.size, 0, rfl, by simp, fun j u hu => by rw [Nat.zero_add, blk_cell (heap_alloc_new wr _) j]; simpa [Op.cells] using hu⟩⟩
      have hslw : SlW (some ⟨wr.heap.size, 0, none⟩) 1 1 := ⟨by omega, by simp [maxLen], by simp⟩
      have hsbl := blk_lt HS.out
      have HSL := hid hsl
      have HSLW := hid hslw
      clear hsl hslw
      go_wp2_with fail
      refine (HSTEP.out ⟨8, 0, 0⟩ 1 _ _ (HB.out.alloc HB.out.size _) HSL.out HSLW.out).mono ?_
      rw [step_send ⟨hb0, hb9⟩ hm0]
      rintro e w3 ⟨rfl, hb3⟩
      rw [errV_zero]
      unfold stV cntSt
      have HB3 := hid hb3
      clear hb3
      go_upto_region 14 with fail
      clear p0 p1 p2 p3 p4 p5 p6 p7 hfz
      have h3s := (HB3.out.block _ (by have := blk_lt HS.out; simp; omega)).trans ((blk_alloc (blk_lt HS.out) _).trans HS.out)
      have hlt := blk_lt h3s
      have p1 : w3.cell? ⟨sb, 1, none⟩ = some (.int .i64 m) := (stAt h3s).c0
      clear h3s
      go_wp2_with fail
      go_ret
      refine ⟨?_, ?_⟩
      · simp
      · exact ((HB.out.alloc HB.out.size _).trans (HB3.out.mono (by have := HB.out.size; simp; omega))).alloc (by have := HB.out.size; have := HB3.out.size; simp at this; omega) _
end Go.Proofs.YtnighanlonkjbaaDoor
