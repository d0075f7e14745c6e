/- Several parts: each begins with what it says. -/
import Derived.Test.YtldllmhgofacbaaGreatDoorDeskUL
import Derived.Test.YtldllmhgofacbaaGreatDoorFormU
import Derived.Deep.DeepCutAuto
import Derived.Test.YtldllmhgofacbaaGreatDoorPTextUL
import Derived.Test.YtldllmhgofacbaaGreatDoorPlanUL
import Derived.Test.YtldllmhgofacbaaGreatDoorBuildUL
import Derived.Test.YtldllmhgofacbaaGreatDoorPMiscUL
import Derived.Test.YtldllmhgofacbaaGreatDoorFrameU
import Derived.Test.YtldllmhgofacbaaGreatDoorRunUL
import Derived.Test.YtldllmhgofacbaaGreatDoorOwnUL
import Derived.Test.YtldllmhgofacbaaGreatDoorKLawUL
import Derived.Test.YtldllmhgofacbaaGreatDoorKernNewL
import Derived.Deep.CutBlock
/- Package snap: the contract of line, for every word and numbers. Conditions: the library's table of powers, which the row lists. -/
namespace Go.Proofs.YtldllmhgofacbaaGreatDoor
open Go.RowKit
set_option maxRecDepth 100000

/-- A line of a word and numbers. -/
def lineT (w : List UInt8) (l : List Int) : List UInt8 := w ++ l.flatMap numT ++ [10]
theorem lineT_10 {w : List UInt8} (h : (10 : UInt8) ∉ w) (l : List Int) : (lineT w l).count 10 = 1 := by
  unfold lineT
  rw [List.count_append, List.count_append, List.count_eq_zero.2 h, List.count_eq_zero.2 (nums_no10 l)]
  rfl
theorem numT_le {n : Int} (h0 : 0 ≤ n) (h1 : n ≤ 200000000) : (numT n).length ≤ 22 := by
  have := Lib.itoa_length_le n (by omega) (by omega)
  unfold numT; simp; omega
theorem nums_le : ∀ (l : List Int), (∀ n ∈ l, 0 ≤ n ∧ n ≤ 200000000) → (l.flatMap numT).length ≤ 22 * l.length
  | [], _ => by simp
  | n :: l, h => by
    have h1 := numT_le (h n (by simp)).1 (h n (by simp)).2
    have h2 := nums_le l (fun m hm => h m (by simp [hm]))
    rw [List.flatMap_cons, List.length_append, List.length_cons]; omega
theorem take_nums {l : List Int} {j : Nat} {n : Int} (h : l[j]? = some n) : (l.take (j + 1)).flatMap numT = (l.take j).flatMap numT ++ numT n := by
  obtain ⟨h1, h2⟩ := List.getElem?_eq_some_iff.1 h
  rw [List.take_succ_eq_append_getElem h1, List.flatMap_append, h2]; simp

end Go.Proofs.YtldllmhgofacbaaGreatDoor

/- Package plan: the contracts of line and Print, for every plan. Conditions: the table of forms with its names, the library's table of powers, which the row lists. -/
namespace Go.Proofs.YtldllmhgofacbaaGreatDoor
open Go.RowKit
set_option maxRecDepth 100000

set_option maxHeartbeats 2000000 in
theorem pline_any (w : World) (word : ByteArray) (A : Option Addr) (c : Nat) (l : List Int) (hp : Pows w) (hs : Sl w A 1 l.length (ints l)) (hfit : ∀ n ∈ l, 0 ≤ n ∧ n ≤ 200000000) (hw : word.size ≤ 100) (hl : l.length ≤ 20) :
    Calls Tryz.prog 72 #[.string word, .slice A l.length c] w fun e w' => ∃ T : ByteArray, e = .returned (.string T) ∧ T.data.toList = lineT word.data.toList l ∧ Below w.heap.size w w' := by
  have HS := hid hs
  have HP := hid hp
  have HPL := hid (pows_lt hp)
  have HFIT := hid hfit
  have HLEN := hid (nums_le l hfit)
  obtain ⟨n, hn⟩ : ∃ n, n = l.length := ⟨_, rfl⟩
  rw [← hn] at hl HS HLEN ⊢
  have HN := hid hn
  obtain ⟨W0, hW0⟩ : ∃ W0, W0 = word.data.toList := ⟨_, rfl⟩
  have hwl : W0.length ≤ 100 := by rw [hW0, ← Lib.size_eq]; exact hw
  rw [← hW0]
  have HW0 := hid hW0
  clear hs hp hfit hn hW0 hw
  go_enter Tryz.func72, Tryz.ntmps72
  go_wp2_with fail
  go_loopw [0, 9] (fun v0 v9 wr => ∃ (j : Nat) (S : ByteArray), j ≤ n ∧ v0 = .string S ∧ v9 = .int .i64 j ∧ S.data.toList = W0 ++ (l.take j).flatMap numT ∧ Below w.heap.size w wr) (fun _ v9 _ => n - (intOf v9).toNat)
  case atStart => exact ⟨0, word, by omega, rfl, rfl, by rw [← HW0.out]; simp, Below.refl _ _⟩
  case round =>
    obtain ⟨j, S, hj, rfl, rfl, hSd, hb⟩ := hrel
    have hSl : S.size ≤ 100 + 22 * j := by
      rw [Lib.size_eq, hSd, List.length_append]
      have h1 := nums_le (l.take j) (fun x hx => HFIT.out x (List.mem_of_mem_take hx))
      rw [List.length_take] at h1
      have := Nat.min_le_left j l.length
      omega
    have HB := hid hb
    have HSD := hid hSd
    clear hb hSd
    by_cases hjn : j < n
    · have hjl : j < l.length := by rw [← HN.out]; exact hjn
      obtain ⟨b, off, rfl, hlb, hx⟩ := HS.out.2 (by omega)
      have hget := List.getElem?_eq_getElem hjl
      have hk : wr.cell? ⟨b, off + j, none⟩ = some (.int .i64 l[j]) := (HB.out.cell (p := ⟨b, off + j, none⟩) hlb).trans (hx j _ (by unfold ints; rw [List.getElem?_map, hget]; rfl))
      have hfx := HFIT.out l[j] (List.getElem_mem hjl)
      generalize l[j] = x at hget hk hfx
      have HNX := hid (take_nums hget)
      obtain ⟨S2, hS2⟩ : ∃ S2 : ByteArray, S2 = ⟨(Lib.itoa x).toArray⟩ := ⟨_, rfl⟩
      have HIT : Hid (Calls Tryz.prog 99 #[.int .i64 x] wr fun e w'' => e = .returned (.string S2) ∧ Below wr.heap.size wr w'') := by
        rw [hS2]; exact itoaS_any x (by omega) (by omega) wr (HP.out.new HPL.out HB.out)
      have hS2l : S2.size ≤ 21 := by rw [hS2, Lib.size_eq]; exact Lib.itoa_length_le x (by omega) (by omega)
      have HS2 := hid hS2
      clear hget hx hfx hS2
      go_wp2_with (go_at_call 99; refine HIT.out.mono ?_; rintro e w5 ⟨rfl, hb5⟩; have HB5 := hid hb5; clear hb5 HIT)
      go_roundw
      case rel =>
        refine ⟨j + 1, _, by omega, rfl, by go_num, ?_, HB.out.trans (HB5.out.mono HB.out.size)⟩
        rw [ByteArray.data_append, ByteArray.data_append, Array.toList_append, Array.toList_append, HSD.out, HNX.out, HS2.out, List.append_assoc]
        rfl
      case measure => simp [intOf]; omega
    · obtain rfl : j = n := by omega
      have htk : l.take j = l := by rw [HN.out, List.take_length]
      rw [htk] at HSD
      clear htk
      go_wp2_with fail
      go_ret
      refine ⟨_, rfl, ?_, HB.out⟩
      rw [ByteArray.data_append, Array.toList_append, HSD.out]
      rfl

theorem lineT_p (l : PLine) : lineT l.word l.nums = plineText l := rfl
theorem wfpl_ok {p : Pl} (h : PlOk p) : WfPl p := by
  have h10 : (10 : Int) ^ 4 = 10000 := by decide
  obtain ⟨t1, t2, _⟩ := frameChk_ticks h.frame
  intro l hl
  unfold linesP at hl
  rcases List.mem_cons.1 hl with rfl | hl
  · exact ⟨fun n hn => by simp [PLine.nums] at hn; omega, trivial⟩
  rcases List.mem_append.1 hl with hl | hl
  · obtain ⟨s, hs, rfl⟩ := List.mem_map.1 hl
    obtain ⟨i, hi⟩ := List.mem_iff_getElem?.1 hs
    have hsp := spanOk (frOk_of h.frame i s hi).1
    exact ⟨fun n hn => by simp [PLine.nums] at hn; rcases hn with rfl | rfl | rfl <;> omega, trivial⟩
  rcases List.mem_append.1 hl with hl | hl
  · obtain ⟨x, hx, rfl⟩ := List.mem_map.1 hl
    have h0 := (flowChk_ok h.flow).2.1 x hx
    have hw := h.wires x hx
    have hk := wire_kind h0
    have hr := (flowChk_ok h.flow).2.2 x hx
    have h5 := h.most5
    exact ⟨fun n hn => by simp [PLine.nums] at hn; rcases hn with rfl | rfl | rfl | rfl <;> omega, trivial⟩
  · unfold codeLines at hl
    obtain ⟨c, hc, hl⟩ := List.mem_flatMap.1 hl
    rcases List.mem_cons.1 hl with rfl | hl
    · exact ⟨fun n hn => by simp [PLine.nums] at hn, trivial⟩
    · obtain ⟨o, ho, rfl⟩ := List.mem_map.1 hl
      have hw := wf_ok (h.codes c hc) o ho
      exact ⟨(op_wf hw).2.2, hw⟩
theorem plineText_le {l : PLine} (h : l.Wf) : (plineText l).length ≤ 120 := by
  have h10 : (10 : Int) ^ 4 = 10000 := by decide
  have h1 : (l.nums.flatMap numT).length ≤ 22 * l.nums.length := nums_le _ fun n hn => by
    have := h.1 n hn
    omega
  have h2 : l.nums.length ≤ 4 := by
    cases l with
    | op o => have := fields_few o; simp only [PLine.nums]; omega
    | _ => simp [PLine.nums]
  have h3 : l.word.length ≤ 5 := by
    cases l with
    | op o => have := name_len o.what.toNat; simp only [PLine.word]; omega
    | _ => simp [PLine.word]
  unfold plineText PLine.txt
  simp only [List.length_append, List.length_singleton]; omega
/-- The text of some lines. -/
def plinesT (l : List PLine) : List UInt8 := l.flatMap plineText
theorem plinesT_app (a b : List PLine) : plinesT (a ++ b) = plinesT a ++ plinesT b := by unfold plinesT; rw [List.flatMap_append]
theorem plinesT_one (l : PLine) : plinesT [l] = plineText l := by unfold plinesT; simp
theorem code_lines (c : List Op) : plinesT (c.map PLine.op) = codeText c := by
  unfold plinesT codeText
  rw [List.flatMap_map]; rfl
theorem spans_next {l : List Span} {i : Nat} {s : Span} (h : l[i]? = some s) : plinesT ((l.take (i + 1)).map PLine.span) = plinesT ((l.take i).map PLine.span) ++ plineText (.span s) := by
  obtain ⟨h1, h2⟩ := List.getElem?_eq_some_iff.1 h
  rw [List.take_succ_eq_append_getElem h1, List.map_append, plinesT_app, h2, List.map_singleton, plinesT_one]
theorem wires_next {l : List Wire} {i : Nat} {x : Wire} (h : l[i]? = some x) : plinesT ((l.take (i + 1)).map PLine.wire) = plinesT ((l.take i).map PLine.wire) ++ plineText (.wire x) := by
  obtain ⟨h1, h2⟩ := List.getElem?_eq_some_iff.1 h
  rw [List.take_succ_eq_append_getElem h1, List.map_append, plinesT_app, h2, List.map_singleton, plinesT_one]
theorem codes_next {l : List (List Op)} {i : Nat} {c : List Op} (h : l[i]? = some c) : plinesT (codeLines (l.take (i + 1))) = plinesT (codeLines (l.take i)) ++ (plineText .room ++ codeText c) := by
  obtain ⟨h1, h2⟩ := List.getElem?_eq_some_iff.1 h
  rw [List.take_succ_eq_append_getElem h1, codeLines_snoc, plinesT_app, h2, ← code_lines]
  unfold plinesT
  rw [List.flatMap_cons]
/-- What Print tells. -/
def PPrinted (w : World) (p : Pl) (e : Ending) (w' : World) : Prop := e = .returned (.tuple #[txt (if planChk p = 0 then planText p else []), errV (planChk p)]) ∧ Below w.heap.size w w'
theorem txt_eq {T : ByteArray} {l : List UInt8} (h : T.data.toList = l) : Value.string T = txt l := by subst h; rfl

set_option maxHeartbeats 8000000 in
theorem pprint_any (m : PM) (w : World) (hf : Forms w) (hn : Names w) (hp : Pows w) (hm : PlanAt w m) :
    Calls Tryz.prog 16 #[.agg #[.slice m.A m.ros.length m.c, .int .i64 m.ticks, .slice m.sA m.spans.length m.sc, .slice m.wA m.wires.length m.wc]] w (PPrinted w m.pl) := by
  obtain ⟨w1, hw1⟩ : ∃ w1, w1 = w.alloc (.cells #[.slice m.A m.ros.length m.c, .int .i64 m.ticks, .slice m.sA m.spans.length m.sc, .slice m.wA m.wires.length m.wc] 26) := ⟨_, rfl⟩
  have hb1 : Below w.heap.size w w1 := by rw [hw1]; exact (Below.refl _ _).alloc (Nat.le_refl _) _
  have hbox : w1.heap[w.heap.size]? = some (.cells #[.slice m.A m.ros.length m.c, .int .i64 m.ticks, .slice m.sA m.spans.length m.sc, .slice m.wA m.wires.length m.wc] 26 (0, 0)) := by rw [hw1]; exact heap_alloc_new w _
  have hck := plan_check m w1 (hf.new hb1) (hm.new hb1)
  have HSM : Hid (planChk m.pl = 0 → PMSmall m) := hid planSmall
  have HOK : Hid (planChk m.pl = 0 → PlOk m.pl) := hid planChk_ok
  have HCODE : Hid (∀ w' r, Below w1.heap.size w1 w' → r ∈ m.ros → (codeChk r.ops).2 = 0 → Calls Tryz.prog 33 #[.slice r.A r.ops.length r.c] w' fun e w'' => e = .returned (.tuple #[txt (codeText r.ops), .nilIface]) ∧ Below w'.heap.size w' w'') := hid fun w' r hb hr hc => by
    have hbw := hb1.trans (hb.mono hb1.size)
    have hra := (hm.new hbw).codes r hr
    have h := print_any r.A r.c r.ops w' (hf.new hbw) (hn.new hf hbw) (hp.new (pows_lt hp) hbw) (pows_lt (hp.new (pows_lt hp) hbw)) hra.1 hra.2.1
    unfold Printed at h
    rw [if_pos hc, hc, errV_zero] at h
    exact h
  have HLINE : Hid (∀ (w' : World) (A : Option Addr) (c n : Nat) (word : ByteArray) (L : PLine), Below w1.heap.size w1 w' → L.Wf → word.data.toList = L.word → L.nums.length = n → Sl w' A 1 n (ints L.nums) → Calls Tryz.prog 72 #[.string word, .slice A n c] w' fun e w'' => ∃ T : ByteArray, e = .returned (.string T) ∧ T.data.toList = plineText L ∧ Below w'.heap.size w' w'') := hid fun w' A c n word L hb hL hw hln hs => by
    have hbw := hb1.trans (hb.mono hb1.size)
    have h10 : (10 : Int) ^ 4 = 10000 := by decide
    subst hln
    have hl4 : L.nums.length ≤ 4 := by
      cases L with
      | op o => have := fields_few o; simp only [PLine.nums]; omega
      | _ => simp [PLine.nums]
    have hw5 : L.word.length ≤ 5 := by
      cases L with
      | op o => have := name_len o.what.toNat; simp only [PLine.word]; omega
      | _ => simp [PLine.word]
    have h := pline_any w' word A c L.nums (hp.new (pows_lt hp) hbw) hs (fun n hn => by have := hL.1 n hn; omega) (by rw [Lib.size_eq, hw]; omega) (by omega)
    rw [hw] at h
    exact h
  have HSP := hid (fun (w' : World) (hb : Below w1.heap.size w1 w') => (hm.new (hb1.trans (hb.mono hb1.size))).spans)
  have HWI := hid (fun (w' : World) (hb : Below w1.heap.size w1 w') => (hm.new (hb1.trans (hb.mono hb1.size))).wires)
  have HRO := hid (fun (w' : World) (hb : Below w1.heap.size w1 w') => (hm.new (hb1.trans (hb.mono hb1.size))).rows)
  have HB1 := hid hb1
  have HBX : Hid (∀ w', Below w1.heap.size w1 w' → w'.heap[w.heap.size]? = some (.cells #[.slice m.A m.ros.length m.c, .int .i64 m.ticks, .slice m.sA m.spans.length m.sc, .slice m.wA m.wires.length m.wc] 26 (0, 0))) := hid fun w' hb => (hb.block _ (blk_lt hbox)).trans hbox
  unfold PPrinted
  obtain ⟨E, hE⟩ : ∃ E, E = planChk m.pl := ⟨_, rfl⟩
  rw [← hE] at hck HSM HOK ⊢
  have HCK := hid hck
  have HTXT : Hid (planText m.pl = plineText (.frame m.ticks) ++ (plinesT (m.spans.map PLine.span) ++ (plinesT (m.wires.map PLine.wire) ++ plinesT (codeLines (m.ros.map Ro.ops))))) := hid (by
    show plinesT (linesP m.pl) = _
    unfold linesP
    rw [← List.singleton_append, plinesT_app, plinesT_app, plinesT_app, plinesT_one]; rfl)
  have x0 := blk_cell hbox 0
  have x1 := blk_cell hbox 1
  have x2 := blk_cell hbox 2
  have x3 := blk_cell hbox 3
  have hlx := blk_lt hbox
  simp at x0 x1 x2 x3
  obtain ⟨nr, hnr⟩ : ∃ nr, m.ros.length = nr := ⟨_, rfl⟩
  obtain ⟨ns, hns⟩ : ∃ ns, m.spans.length = ns := ⟨_, rfl⟩
  obtain ⟨nw, hnw⟩ : ∃ nw, m.wires.length = nw := ⟨_, rfl⟩
  rw [hnr] at x0 hw1 HCK HBX HRO ⊢
  rw [hns] at x2 hw1 HCK HBX HSP ⊢
  rw [hnw] at x3 hw1 HCK HBX HWI ⊢
  have HNR := hid hnr
  have HNS := hid hns
  have HNW := hid hnw
  clear hf hn hp hm hb1 hbox hck hE hnr hns hnw
  by_cases he : E = 0
  · subst he
    have hok := HOK.out rfl
    have hsm := HSM.out rfl
    have hr5 : nr ≤ 5 := by rw [← HNR.out]; exact hsm.ros
    have hs12 : ns ≤ 12 := by rw [← HNS.out]; exact hsm.spans
    have hw12 : nw ≤ 12 := by rw [← HNW.out]; exact hsm.wires
    have hwf := wfpl_ok hok
    have HWF0 : Hid ((PLine.frame m.ticks).Wf) := hid (hwf _ (by unfold linesP; simp [PM.pl]))
    have HWFS : Hid (∀ s ∈ m.spans, (PLine.span s).Wf) := hid fun s hs => hwf _ (by unfold linesP; simp only [List.mem_cons, List.mem_append]; exact .inr (.inl (List.mem_map_of_mem hs)))
    have HWFW : Hid (∀ x ∈ m.wires, (PLine.wire x).Wf) := hid fun x hx => hwf _ (by unfold linesP; simp only [List.mem_cons, List.mem_append]; exact .inr (.inr (.inl (List.mem_map_of_mem hx))))
    have HWFC : Hid (∀ r ∈ m.ros, (codeChk r.ops).2 = 0) := hid fun r hr => hok.codes r.ops (by simp only [PM.pl]; exact List.mem_map_of_mem hr)
    have HWFR : Hid (PLine.room.Wf) := hid ⟨fun n hn => by simp [PLine.nums] at hn, trivial⟩
    rw [errV_zero] at HCK ⊢
    rw [if_pos rfl]
    clear hok hsm hwf HOK HSM
    go_enter Tryz.func16, Tryz.ntmps16
    go_upto_region 4 with (go_at_call 14; rw [← hw1]; refine HCK.out.mono ?_; rintro e w2 ⟨rfl, hb2⟩; have HB := hid hb2; clear hb2 x0 x1 x2 x3 hlx hw1 HCK)
    have hbx := HBX.out w2 HB.out
    have x1 := blk_cell hbx 1
    have hlx := blk_lt hbx
    simp at x1
    clear hbx
    go_upto_region 5 with (go_at_call 72; refine (HLINE.out _ _ 1 1 _ (.frame m.ticks) (HB.out.alloc HB.out.size _) HWF0.out rfl rfl (one_sl w2 _ _)).mono ?_; rintro e w3 ⟨T0, rfl, hT0, hb3⟩; replace HB := hid ((HB.out.alloc HB.out.size _).trans (hb3.mono (by have := HB.out.size; simp; omega))); have HT0 := hid hT0; clear hb3 hT0 x1 hlx)
    have hT0s : T0.size ≤ 120 := by rw [Lib.size_eq, HT0.out]; exact plineText_le HWF0.out
    obtain ⟨F0, hF0⟩ : ∃ F0, F0 = plineText (.frame m.ticks) := ⟨_, rfl⟩
    rw [← hF0] at HT0 HTXT
    have hbx := HBX.out w3 HB.out
    have x2 := blk_cell hbx 2
    have hlx := blk_lt hbx
    simp at x2
    clear hbx hF0
    go_upto_block 0 with fail
    go_cut [5, 26] (fun v5 _ wx => ∃ S : ByteArray, v5 = .string S ∧ S.data.toList = F0 ++ plinesT (m.spans.map PLine.span) ∧ S.size ≤ 120 + 120 * ns ∧ Below w1.heap.size w1 wx)
    case first =>
      as_aux_lemma =>
      go_wp2_with fail
      go_loopw [5, 26] (fun v5 v26 wr => ∃ (i : Nat) (S : ByteArray), i ≤ ns ∧ v5 = .string S ∧ v26 = .int .i64 i ∧ S.data.toList = F0 ++ plinesT ((m.spans.take i).map PLine.span) ∧ S.size ≤ 120 + 120 * i ∧ Below w1.heap.size w1 wr) (fun _ v26 _ => ns - (intOf v26).toNat)
      case atStart => exact ⟨0, T0, by omega, rfl, rfl, by rw [HT0.out]; simp [plinesT], by omega, HB.out⟩
      case round =>
        obtain ⟨i, S, hi, rfl, rfl, hsd, hsz, hb⟩ := hrel
        have HSD := hid hsd
        have HBR := hid hb
        clear hsd hb x2 hlx
        by_cases hin : i < ns
        · have hil : i < m.spans.length := by rw [HNS.out]; exact hin
          obtain ⟨b, off, hA, hlb, g0, g1, g2⟩ := (HSP.out wr HBR.out).span (Below.refl _ _) hil hin
          have hget := List.getElem?_eq_getElem hil
          have hmem := List.getElem_mem hil
          generalize m.spans[i] = x at g0 g1 g2 hget hmem
          have HNX := hid (spans_next hget)
          have HWX := hid (HWFS.out x hmem)
          have HLE := hid (plineText_le HWX.out)
          obtain ⟨y0, y1, y2⟩ := x
          simp only [] at g0 g1 g2
          rw [hA]
          clear hget hmem
          go_upto_region 8 with fail
          obtain ⟨wq, hwq⟩ : ∃ wq, wq = wr.alloc (.cells #[.int .i64 y0, .int .i64 y1, .int .i64 y2] 115) := ⟨_, rfl⟩
          have hbq : Below w1.heap.size w1 wq := by rw [hwq]; exact HBR.out.alloc HBR.out.size _
          have hblk : wq.heap[wr.heap.size]? = some (.cells #[.int .i64 y0, .int .i64 y1, .int .i64 y2] 115 (0, 0)) := by rw [hwq]; exact heap_alloc_new wr _
          rw [← hwq]
          have q0 := blk_cell hblk 0
          have q1 := blk_cell hblk 1
          have q2 := blk_cell hblk 2
          have hlq := blk_lt hblk
          simp at q0 q1 q2
          have HBQ := hid hbq
          clear hwq hbq hblk g0 g1 g2 hA
          go_wp2_with (go_at_call 72; refine (HLINE.out _ _ 3 3 _ (.span ⟨y0, y1, y2⟩) (HBQ.out.alloc HBQ.out.size _) HWX.out rfl rfl (sl_blk (heap_alloc_new wq _) 1 3 _ rfl rfl)).mono ?_; rintro e w5 ⟨TL, rfl, hTL, hb5⟩; have HB5 := hid ((HBQ.out.alloc HBQ.out.size _).trans (hb5.mono (by have := HBQ.out.size; simp; omega))); have HTL := hid hTL; have hTLs : TL.size ≤ 120 := (by rw [Lib.size_eq, hTL]; exact HLE.out); clear hb5 hTL q0 q1 q2 hlq)
          go_roundw
          case rel =>
            refine ⟨i + 1, _, by omega, rfl, by go_num, ?_, by rw [ByteArray.size_append]; omega, HB5.out⟩
            rw [ByteArray.data_append, Array.toList_append, HSD.out, HTL.out, HNX.out, List.append_assoc]
          case measure => simp [intOf]; omega
        · obtain rfl : i = ns := by omega
          go_wp2_with fail
          go_meet
          refine ⟨S, rfl, ?_, hsz, HBR.out⟩
          rw [HSD.out, ← HNS.out, List.take_length]
    case rest =>
      as_aux_lemma =>
      obtain ⟨S1, rfl, hs1, hz1, hbc⟩ := hcut
      obtain ⟨wa, rfl⟩ : ∃ wa : World, wa = wc := ⟨_, rfl⟩
      have HS1 := hid hs1
      replace HB := hid hbc
      have hbx := HBX.out wa HB.out
      have x3 := blk_cell hbx 3
      have hlx3 := blk_lt hbx
      simp at x3
      clear hs1 hbc hbx x2 hlx HT0
      obtain ⟨G, hG⟩ : ∃ G, G = F0 ++ plinesT (m.spans.map PLine.span) := ⟨_, rfl⟩
      rw [← hG] at HS1
      have HG := hid hG
      clear hG
      go_upto_block 2 with fail
      go_cut [5, 44] (fun v5 _ wx => ∃ S : ByteArray, v5 = .string S ∧ S.data.toList = G ++ plinesT (m.wires.map PLine.wire) ∧ S.size ≤ 2000 + 120 * nw ∧ Below w1.heap.size w1 wx)
      case first =>
        as_aux_lemma =>
        go_wp2_with fail
        go_loopw [5, 44] (fun v5 v44 wr => ∃ (i : Nat) (S : ByteArray), i ≤ nw ∧ v5 = .string S ∧ v44 = .int .i64 i ∧ S.data.toList = G ++ plinesT ((m.wires.take i).map PLine.wire) ∧ S.size ≤ 2000 + 120 * i ∧ Below w1.heap.size w1 wr) (fun _ v44 _ => nw - (intOf v44).toNat)
        case atStart => exact ⟨0, S1, by omega, rfl, rfl, by rw [HS1.out]; simp [plinesT], by omega, HB.out⟩
        case round =>
          obtain ⟨i, S, hi, rfl, rfl, hsd, hsz, hb⟩ := hrel
          have HSD := hid hsd
          have HBR := hid hb
          clear hsd hb x3 hlx3
          by_cases hin : i < nw
          · have hil : i < m.wires.length := by rw [HNW.out]; exact hin
            obtain ⟨b, off, hA, hlb, g0, g1, g2, g3⟩ := (HWI.out wr HBR.out).wire (Below.refl _ _) hil hin
            have hget := List.getElem?_eq_getElem hil
            have hmem := List.getElem_mem hil
            generalize m.wires[i] = x at g0 g1 g2 g3 hget hmem
            have HNX := hid (wires_next hget)
            have HWX := hid (HWFW.out x hmem)
            have HLE := hid (plineText_le HWX.out)
            obtain ⟨y0, y1, y2, y3⟩ := x
            simp only [] at g0 g1 g2 g3
            rw [hA]
            clear hget hmem
            go_upto_region 13 with fail
            obtain ⟨wq, hwq⟩ : ∃ wq, wq = wr.alloc (.cells #[.int .i64 y0, .int .i64 y1, .int .i64 y2, .int .i64 y3] 117) := ⟨_, rfl⟩
            have hbq : Below w1.heap.size w1 wq := by rw [hwq]; exact HBR.out.alloc HBR.out.size _
            have hblk : wq.heap[wr.heap.size]? = some (.cells #[.int .i64 y0, .int .i64 y1, .int .i64 y2, .int .i64 y3] 117 (0, 0)) := by rw [hwq]; exact heap_alloc_new wr _
            rw [← hwq]
            have q0 := blk_cell hblk 0
            have q1 := blk_cell hblk 1
            have q2 := blk_cell hblk 2
            have q3 := blk_cell hblk 3
            have hlq := blk_lt hblk
            simp at q0 q1 q2 q3
            have HBQ := hid hbq
            clear hwq hbq hblk g0 g1 g2 g3 hA
            go_wp2_with (go_at_call 72; refine (HLINE.out _ _ 4 4 _ (.wire ⟨y0, y1, y2, y3⟩) (HBQ.out.alloc HBQ.out.size _) HWX.out rfl rfl (sl_blk (heap_alloc_new wq _) 1 4 _ rfl rfl)).mono ?_; rintro e w5 ⟨TL, rfl, hTL, hb5⟩; have HB5 := hid ((HBQ.out.alloc HBQ.out.size _).trans (hb5.mono (by have := HBQ.out.size; simp; omega))); have HTL := hid hTL; have hTLs : TL.size ≤ 120 := (by rw [Lib.size_eq, hTL]; exact HLE.out); clear hb5 hTL q0 q1 q2 q3 hlq)
            go_roundw
            case rel =>
              refine ⟨i + 1, _, by omega, rfl, by go_num, ?_, by rw [ByteArray.size_append]; omega, HB5.out⟩
              rw [ByteArray.data_append, Array.toList_append, HSD.out, HTL.out, HNX.out, List.append_assoc]
            case measure => simp [intOf]; omega
          · obtain rfl : i = nw := by omega
            go_wp2_with fail
            go_meet
            refine ⟨S, rfl, ?_, hsz, HBR.out⟩
            rw [HSD.out, ← HNW.out, List.take_length]
      case rest =>
        as_aux_lemma =>
        obtain ⟨S2, rfl, hs2, hz2, hbc⟩ := hcut
        obtain ⟨wb, rfl⟩ : ∃ wb : World, wb = wc := ⟨_, rfl⟩
        have HS2 := hid hs2
        replace HB := hid hbc
        have hbx := HBX.out wb HB.out
        have x0 := blk_cell hbx 0
        have hlx0 := blk_lt hbx
        simp at x0
        clear hs2 hbc hbx x3 hlx3 HS1
        obtain ⟨H2, hH2⟩ : ∃ H2, H2 = G ++ plinesT (m.wires.map PLine.wire) := ⟨_, rfl⟩
        rw [← hH2] at HS2
        have HH2 := hid hH2
        clear hH2
        go_wp2_with fail
        go_loopw [5, 64] (fun v5 v64 wr => ∃ (i : Nat) (S : ByteArray), i ≤ nr ∧ v5 = .string S ∧ v64 = .int .i64 i ∧ S.data.toList = H2 ++ plinesT (codeLines ((m.ros.map Ro.ops).take i)) ∧ S.size ≤ 4000 + 1200 * i ∧ Below w1.heap.size w1 wr) (fun _ v64 _ => nr - (intOf v64).toNat)
        case atStart => exact ⟨0, S2, by omega, rfl, rfl, by rw [HS2.out]; simp [plinesT, codeLines], by omega, HB.out⟩
        case round =>
          obtain ⟨i, S, hi, rfl, rfl, hsd, hsz, hb⟩ := hrel
          have HSD := hid hsd
          have HBR := hid hb
          clear hsd hb x0 hlx0
          by_cases hin : i < nr
          · have hil : i < m.ros.length := by rw [HNR.out]; exact hin
            have hget := List.getElem?_eq_getElem hil
            have hmem := List.getElem_mem hil
            generalize m.ros[i] = r at hget hmem
            obtain ⟨b, off, hA, hlb, g0⟩ := (HRO.out wr HBR.out).ro (Below.refl _ _) hget hin
            have hnx := codes_next (l := m.ros.map Ro.ops) (i := i) (c := r.ops) (by rw [List.getElem?_map, hget]; rfl)
            have hck := HWFC.out r hmem
            have hcl : (codeText r.ops).length ≤ 980 := by
              have h1 := codeText_len r.ops r.ops.length (codeChk_ok hck).2.2 (by have := (codeChk_ok hck).2.1; omega)
              have := (codeChk_ok hck).2.1
              omega
            have HNX := hid hnx
            have HCD := hid (fun w' hb => HCODE.out w' r hb hmem hck)
            obtain ⟨nop, hnop⟩ : ∃ nop, nop = r.ops.length := ⟨_, rfl⟩
            rw [← hnop] at g0 HCD
            obtain ⟨CT, hCT⟩ : ∃ CT : ByteArray, CT = ⟨(codeText r.ops).toArray⟩ := ⟨_, rfl⟩
            have hCTs : CT.size ≤ 980 := by rw [hCT, Lib.size_eq]; exact hcl
            have HCT := hid (show CT.data.toList = codeText r.ops by rw [hCT])
            have HCD2 : Hid (∀ w', Below w1.heap.size w1 w' → Calls Tryz.prog 33 #[.slice r.A nop r.c] w' fun e w'' => e = .returned (.tuple #[.string CT, .nilIface]) ∧ Below w'.heap.size w' w'') := hid fun w' hb => by rw [hCT]; exact HCD.out w' hb
            have hRs : (plineText .room).length ≤ 120 := plineText_le HWFR.out
            have HRS := hid hRs
            rw [hA]
            clear hget hmem hnx hck hcl HCD hnop hCT hRs
            go_upto_region 21 with (go_at_call 33; refine (HCD2.out _ HBR.out).mono ?_; rintro e w4 ⟨rfl, hb4⟩; have HB4 := hid (HBR.out.trans (hb4.mono HBR.out.size)); clear hb4 HCD2 g0)
            go_wp2_with (go_at_call 72; refine (HLINE.out _ none 0 0 _ .room HB4.out HWFR.out rfl rfl (Sl.nil _ _ _)).mono ?_; rintro e w5 ⟨TL, rfl, hTL, hb5⟩; have HB5 := hid (HB4.out.trans (hb5.mono HB4.out.size)); have HTL := hid hTL; have hTLs : TL.size ≤ 120 := (by rw [Lib.size_eq, hTL]; exact HRS.out); clear hb5 hTL)
            go_roundw
            case rel =>
              refine ⟨i + 1, _, by omega, rfl, by go_num, ?_, by rw [ByteArray.size_append, ByteArray.size_append]; omega, HB5.out⟩
              rw [ByteArray.data_append, ByteArray.data_append, Array.toList_append, Array.toList_append, HSD.out, HTL.out, HCT.out, HNX.out, List.append_assoc]
            case measure => simp [intOf]; omega
          · obtain rfl : i = nr := by omega
            have HFIN : Hid (S.data.toList = planText m.pl) := hid (by
              rw [HSD.out, List.take_of_length_le (by rw [List.length_map, HNR.out]; exact Nat.le_refl _), HTXT.out, HH2.out, HG.out]; simp)
            go_wp2_with fail
            go_ret2
            exact ⟨by show Ending.returned (.tuple #[.string S, .nilIface]) = .returned (.tuple #[txt (planText m.pl), .nilIface]); rw [txt_eq HFIN.out], HB1.out.trans (HBR.out.mono HB1.out.size)⟩
  · have HEV := hid (errV_pos he)
    rw [if_neg he]
    rw [errV_pos he] at HCK ⊢
    clear he HSM HOK
    go_enter Tryz.func16, Tryz.ntmps16
    go_wp2_with (go_at_call 14; rw [← hw1]; refine HCK.out.mono ?_; rintro e w2 ⟨rfl, hb2⟩; have HB := hid hb2; clear hb2 x0 x1 x2 x3 hlx hw1 HCK)
    go_ret2
    exact ⟨rfl, HB1.out.trans (HB.out.mono HB1.out.size)⟩
end Go.Proofs.YtldllmhgofacbaaGreatDoor
