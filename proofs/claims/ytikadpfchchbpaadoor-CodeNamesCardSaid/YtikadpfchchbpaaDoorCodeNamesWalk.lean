/- The walk of framelaw4.CodeNames: it returns true at every input. -/
import Derived.Test.YtikadpfchchbpaaDoorPrintW
import Derived.Test.YtikadpfchchbpaaDoorOpen2
namespace Go.Proofs.YtikadpfchchbpaaDoor
open Go.RowKit
set_option maxRecDepth 100000

/-- A slice of one op, as it is handed over. -/
theorem one_op {w : World} {b : Nat} {o : Op} (h : w.heap[b]? = some (.cells #[.int .i64 o.what, .int .i64 o.a, .int .i64 o.b] 23 (0, 0))) : Sl w (some ⟨b, 0, none⟩) 3 1 ([o].flatMap Op.cells) := by
  refine ⟨rfl, fun _ => ⟨b, 0, rfl, blk_lt h, fun j u hu => ?_⟩⟩
  rw [Nat.zero_add, blk_cell h]
  simpa [Op.cells] using hu
theorem one_slW (b : Nat) : SlW (some ⟨b, 0, none⟩) 1 1 := ⟨Nat.le_refl _, by decide, fun h => by cases h⟩
theorem jump_text : codeText [⟨7, 0, 0⟩] = [106, 117, 109, 112, 32, 48, 10] := by
  have h0 : Lib.itoa 0 = [48] := by unfold Lib.itoa; rw [if_neg (by decide)]; exact Lib.decDigits_one (by decide)
  have e : fieldsOf ⟨7, 0, 0⟩ = [0] := by decide
  simp only [codeText, List.flatMap_cons, List.flatMap_nil, opText, opLine, e, numT, h0]
  rfl

theorem cut_10 (s : ByteArray) (w : World) (hs : s.size ≤ 1099511627776) :
    Calls Tryd.prog 5 #[.string s, .int .u8 10] w fun e w' => ∃ A cap, e = .returned (.slice A (cutA 10 [] s.data.toList).length cap) ∧
      Row w' 9 1 A (cutA 10 [] s.data.toList).length cap ((cutA 10 [] s.data.toList).map txt) ∧ (∀ i, InA A i → w.heap.size ≤ i) ∧ Below w.heap.size w w' := cut_any s 10 w hs
theorem cut_32 (s : ByteArray) (w : World) (hs : s.size ≤ 1099511627776) :
    Calls Tryd.prog 5 #[.string s, .int .u8 32] w fun e w' => ∃ A cap, e = .returned (.slice A (cutA 32 [] s.data.toList).length cap) ∧
      Row w' 9 1 A (cutA 32 [] s.data.toList).length cap ((cutA 32 [] s.data.toList).map txt) ∧ (∀ i, InA A i → w.heap.size ≤ i) ∧ Below w.heap.size w w' := cut_any s 32 w hs
theorem line_len {o : Op} (h : opOk o 1 = true) : (opLine o).length ≤ 48 := by
  have := opText_len h (by omega)
  unfold opText at this
  simp at this; omega

theorem names_ret {w w' : World} {a : Act} (h : a.tmps[2]? = some (.bool true)) (hd : a.defers = []) (hb : Below w.heap.size w w') : bodyPost Tryd.prog Tryd.f3 (fun e w' => e = .returned (.bool true) ∧ Below w.heap.size w w') .ret a w' :=
  bodyPost_ret (v := .bool true) (by simp [results, Tryd.results3, go_sem, h]) hd ⟨rfl, hb⟩

set_option maxHeartbeats 4000000 in
theorem codeNames_walk {w : World} (hf : Forms w) (hn : Names w) (hp : Pows w) (hpl : 1 < w.heap.size) (o : Op) (_ : o.Ok) :
    Calls Tryd.prog 3 #[.agg #[.int .i64 o.what, .int .i64 o.a, .int .i64 o.b]] w fun e w' => e = .returned (.bool true) ∧ Below w.heap.size w w' := by
  obtain ⟨i, a, b⟩ := o
  simp only []
  have HPR : Hid (∀ (w' : World) (A0 : Option Addr) (c : Nat) (l : List Op), Below w.heap.size w w' → Sl w' A0 3 l.length (l.flatMap Op.cells) → SlW A0 c l.length → Calls Tryd.prog 4 #[.slice A0 l.length c] w' (Printed w' l)) := fun w' A0 c l hb hs hsw => print_any A0 c l w' (hf.new hb) (hn.new hf hb) (hp.new hpl hb) (Nat.lt_of_lt_of_le hpl hb.size) hs hsw
  clear hf hn hp hpl
  go_enter Tryd.func3, Tryd.ntmps3
  go_wp2_with fail
  obtain ⟨w1, hw1⟩ : ∃ w1, w1 = (w.alloc (.cells #[.int .i64 i, .int .i64 a, .int .i64 b] 23)).alloc (.cells #[.int .i64 7, .int .i64 0, .int .i64 0] 23) := ⟨_, rfl⟩
  have hb1 : Below w.heap.size w w1 := by rw [hw1]; exact ((Below.refl _ _).alloc (Nat.le_refl _) _).alloc (by simp) _
  have h7 : w1.heap[w.heap.size + 1]? = some (.cells #[.int .i64 7, .int .i64 0, .int .i64 0] 23 (0, 0)) := by
    have h := heap_alloc_new (w.alloc (.cells #[.int .i64 i, .int .i64 a, .int .i64 b] 23)) (.cells #[.int .i64 7, .int .i64 0, .int .i64 0] 23)
    rw [sz_alloc, ← hw1] at h; exact h
  have hbx : w1.heap[w.heap.size]? = some (.cells #[.int .i64 i, .int .i64 a, .int .i64 b] 23 (0, 0)) := by
    rw [hw1, blk_alloc (by simp)]; exact heap_alloc_new w _
  rw [← hw1]
  have HB1 := hid hb1
  have HBX := hid hbx
  clear hw1 hb1 hbx
  refine (HPR.out w1 (some ⟨w.heap.size + 1, 0, none⟩) 1 [⟨7, 0, 0⟩] HB1.out (one_op h7) (one_slW _)).mono ?_
  clear h7
  rintro e w2 hpr
  unfold Printed at hpr
  rw [show (codeChk [⟨7, 0, 0⟩]).2 = 0 by decide, if_pos rfl, jump_text, errV_zero] at hpr
  obtain ⟨he, hb2⟩ := hpr
  have he' : e = .returned (.tuple #[.string ⟨#[106, 117, 109, 112, 32, 48, 10]⟩, .nilIface]) := he
  clear he
  subst he'
  have hx2 := (hb2.block _ (blk_lt HBX.out)).trans HBX.out
  have HB2 := hid (HB1.out.trans (hb2.mono HB1.out.size))
  have HX2 := hid hx2
  have x0 := blk_cell hx2 0
  have x1 := blk_cell hx2 1
  have x2 := blk_cell hx2 2
  have hxl := blk_lt hx2
  simp at x0 x1 x2
  clear hb2 hx2
  go_wp2_with fail
  obtain ⟨w3, hw3⟩ : ∃ w3, w3 = w2.alloc (.cells #[.int .i64 i, .int .i64 a, .int .i64 b] 23) := ⟨_, rfl⟩
  have ho3 : w3.heap[w2.heap.size]? = some (.cells #[.int .i64 i, .int .i64 a, .int .i64 b] 23 (0, 0)) := by rw [hw3]; exact heap_alloc_new w2 _
  have hb3 : Below w2.heap.size w2 w3 := by rw [hw3]; exact (Below.refl _ _).alloc (Nat.le_refl _) _
  rw [← hw3]
  have HB3 := hid (HB2.out.trans (hb3.mono HB2.out.size))
  have HX3 := hid ((hb3.block _ (blk_lt HX2.out)).trans HX2.out)
  clear hw3 hb3 x0 x1 x2 hxl HX2 HBX
  refine (HPR.out w3 (some ⟨w2.heap.size, 0, none⟩) 1 [⟨i, a, b⟩] HB3.out (one_op ho3) (one_slW _)).mono ?_
  clear ho3
  rintro e w4 hpr
  unfold Printed at hpr
  obtain ⟨he, hb4⟩ := hpr
  have HB4 := hid (HB3.out.trans (hb4.mono HB3.out.size))
  have hx4 := (hb4.block _ (blk_lt HX3.out)).trans HX3.out
  have HX4 := hid hx4
  clear hb4 hx4 HX3 HPR
  by_cases hc : (codeChk [⟨i, a, b⟩]).2 = 0
  · rw [if_pos hc, hc, errV_zero] at he
    obtain ⟨_, _, hall⟩ := codeChk_ok hc
    have hok : opOk ⟨i, a, b⟩ 1 = true := hall _ (List.mem_singleton.2 rfl)
    have hrng := of_decide_eq_true hok
    simp only [] at hrng
    have hlen := line_len hok
    have htext : codeText [⟨i, a, b⟩] = opLine ⟨i, a, b⟩ ++ [10] := by simp [codeText, opText]
    rw [htext] at he
    obtain ⟨S1, hS1⟩ : ∃ S1 : ByteArray, S1 = ⟨(opLine ⟨i, a, b⟩ ++ [10]).toArray⟩ := ⟨_, rfl⟩
    have he' : e = .returned (.tuple #[.string S1, .nilIface]) := by rw [hS1]; exact he
    clear he
    subst he'
    have hcut := cut_10 S1 w4 (by rw [Lib.size_eq, hS1]; simp; omega)
    have hd : cutA 10 [] S1.data.toList = [opLine ⟨i, a, b⟩, []] := by rw [hS1]; exact cutA_line 10 _ (line_no10 _)
    rw [hd] at hcut
    obtain ⟨S2, hS2⟩ : ∃ S2 : ByteArray, S2 = ⟨(opLine ⟨i, a, b⟩).toArray⟩ := ⟨_, rfl⟩
    have hfew := fields_len ⟨i, a, b⟩ hrng.1 hrng.2.1
    have h32 : (cutA 32 [] S2.data.toList).length = (fieldsOf ⟨i, a, b⟩).length + 1 := by rw [hS2]; exact line_32 _
    have HC2 : Hid (∀ w', Calls Tryd.prog 5 #[.string S2, .int .u8 32] w' fun e w'' => ∃ A cap, e = .returned (.slice A (if i = 7 then 2 else if i = 10 ∨ i = 11 then 1 else 3) cap) ∧ Below w'.heap.size w' w'') := fun w' =>
      (cut_32 S2 w' (by rw [Lib.size_eq, hS2]; simp; omega)).mono fun e w'' ⟨A, cap, h1, _, _, h4⟩ => ⟨A, cap, by rw [h1, h32, hfew], h4⟩
    have HROW : Hid (∀ (w' : World) (A : Option Addr) (cap : Nat), Row w' 9 1 A 2 cap ([opLine ⟨i, a, b⟩, []].map txt) → ∃ b1 off, A = some ⟨b1, off, none⟩ ∧ b1 < w'.heap.size ∧ w'.cell? ⟨b1, off, none⟩ = some (.string S2) ∧ w'.cell? ⟨b1, off + 1, none⟩ = some (.string ⟨#[]⟩)) := fun w' A cap h => by
      obtain ⟨b1, off, rfl, hl, hx⟩ := h.sl.2 (by omega)
      exact ⟨b1, off, rfl, hl, by rw [hS2]; exact hx 0 _ rfl, hx 1 _ rfl⟩
    have HCUT := hid hcut
    clear hc hall hok hlen htext hS1 hd hS2 hfew h32 hcut hrng
    go_wp2_with fail
    refine HCUT.out.mono ?_
    rintro e w5 ⟨A1, cap1, rfl, hr1, _, hb5⟩
    obtain ⟨b1, off1, rfl, hl1, y0, y1⟩ := HROW.out _ _ _ hr1
    have HB5 := hid (HB4.out.trans (hb5.mono HB4.out.size))
    have HX5 := hid ((hb5.block _ (blk_lt HX4.out)).trans HX4.out)
    have HY1 := hid y1
    clear hr1 hb5 HCUT y1 HX4
    go_wp2_with fail
    refine (HC2.out _).mono ?_
    rintro e w6 ⟨A2, cap2, rfl, hb6⟩
    have HB6 := hid (HB5.out.trans (hb6.mono HB5.out.size))
    have hx6 := (hb6.block _ (blk_lt HX5.out)).trans HX5.out
    have x0 := blk_cell hx6 0
    have hxl := blk_lt hx6
    simp at x0
    have y1 := (hb6.cell (p := ⟨b1, off1 + 1, none⟩) hl1).trans HY1.out
    have hl6 := Nat.lt_of_lt_of_le hl1 hb6.size
    clear hb6 hx6 y0 hl1 HC2 HROW HX5
    by_cases e7 : i = 7
    · subst e7
      go_wp2_with fail
      exact names_ret rfl rfl HB6.out
    · rw [if_neg e7]
      have d7 : (i == 7) = false := by simpa using e7
      by_cases e10 : i = 10
      · subst e10
        go_wp2_with fail
        exact names_ret rfl rfl HB6.out
      · have d10 : (i == 10) = false := by simpa using e10
        by_cases e11 : i = 11
        · subst e11
          go_wp2_with fail
          exact names_ret rfl rfl HB6.out
        · rw [if_neg (by omega)]
          have d11 : (i == 11) = false := by simpa using e11
          clear e7 e10 e11
          go_wp2_with fail
          exact names_ret rfl rfl HB6.out
  · rw [if_neg hc, errV_pos hc] at he
    subst he
    clear hc
    go_wp2_with fail
    exact names_ret rfl rfl HB4.out
end Go.Proofs.YtikadpfchchbpaaDoor
