/- Several parts: each begins with what it says. -/
import Derived.Test.YtldllmhgofacbaaGreatDoorDeskUL
import Derived.Deep.DeepCutAuto
import Derived.Test.YtldllmhgofacbaaGreatDoorPTextUL
import Derived.Test.YtldllmhgofacbaaGreatDoorPlanU
import Derived.Test.YtldllmhgofacbaaGreatDoorBuildUL
import Derived.Test.YtldllmhgofacbaaGreatDoorPMiscUL
import Derived.Test.YtldllmhgofacbaaGreatDoorFrameU
import Derived.Test.YtldllmhgofacbaaGreatDoorRunUL
import Derived.Test.YtldllmhgofacbaaGreatDoorOwnU
import Derived.Test.YtldllmhgofacbaaGreatDoorKLawU
import Derived.Test.YtldllmhgofacbaaGreatDoorKernNew
import Derived.Deep.CutBlock
/- Package snap: the contract of line, for every word and numbers. Conditions: the library's table of powers, which the row lists. -/
namespace Go.Proofs.YtldllmhgofacbaaGreatDoor
open Go.RowKit
set_option maxRecDepth 100000

/-- A line of a word and numbers. -/
def lineT (w : List UInt8) (l : List Int) : List UInt8 := w ++ l.flatMap numT ++ [10]
theorem lineT_10 {w : List UInt8} (h : (10 : UInt8) ∉ w) (l : List Int) : (lineT w l).count 10 = 1 := by
  unfold lineT
  rw [List.count_append, List.count_append, List.count_eq_zero.2 h, List.count_eq_zero.2 (nums_no10 l)]
  rfl
theorem numT_le {n : Int} (h0 : 0 ≤ n) (h1 : n ≤ 200000000) : (numT n).length ≤ 22 := by
  have := Lib.itoa_length_le n (by omega) (by omega)
  unfold numT; simp; omega
theorem nums_le : ∀ (l : List Int), (∀ n ∈ l, 0 ≤ n ∧ n ≤ 200000000) → (l.flatMap numT).length ≤ 22 * l.length
  | [], _ => by simp
  | n :: l, h => by
    have h1 := numT_le (h n (by simp)).1 (h n (by simp)).2
    have h2 := nums_le l (fun m hm => h m (by simp [hm]))
    rw [List.flatMap_cons, List.length_append, List.length_cons]; omega
theorem take_nums {l : List Int} {j : Nat} {n : Int} (h : l[j]? = some n) : (l.take (j + 1)).flatMap numT = (l.take j).flatMap numT ++ numT n := by
  obtain ⟨h1, h2⟩ := List.getElem?_eq_some_iff.1 h
  rw [List.take_succ_eq_append_getElem h1, List.flatMap_append, h2]; simp

set_option maxHeartbeats 2000000 in
theorem sline_any (w : World) (word : ByteArray) (A : Option Addr) (c : Nat) (l : List Int) (hp : Pows w) (hs : Sl w A 1 l.length (ints l)) (hfit : ∀ n ∈ l, 0 ≤ n ∧ n ≤ 200000000) (hw : word.size ≤ 100) (hl : l.length ≤ 20) :
    Calls Tryz.prog 83 #[.string word, .slice A l.length c] w fun e w' => ∃ T : ByteArray, e = .returned (.string T) ∧ T.data.toList = lineT word.data.toList l ∧ Below w.heap.size w w' := by
  have HS := hid hs
  have HP := hid hp
  have HPL := hid (pows_lt hp)
  have HFIT := hid hfit
  have HLEN := hid (nums_le l hfit)
  obtain ⟨n, hn⟩ : ∃ n, n = l.length := ⟨_, rfl⟩
  rw [← hn] at hl HS HLEN ⊢
  have HN := hid hn
  obtain ⟨W0, hW0⟩ : ∃ W0, W0 = word.data.toList := ⟨_, rfl⟩
  have hwl : W0.length ≤ 100 := by rw [hW0, ← Lib.size_eq]; exact hw
  rw [← hW0]
  have HW0 := hid hW0
  clear hs hp hfit hn hW0 hw
  go_enter Tryz.func83, Tryz.ntmps83
  go_wp2_with fail
  go_loopw [0, 9] (fun v0 v9 wr => ∃ (j : Nat) (S : ByteArray), j ≤ n ∧ v0 = .string S ∧ v9 = .int .i64 j ∧ S.data.toList = W0 ++ (l.take j).flatMap numT ∧ Below w.heap.size w wr) (fun _ v9 _ => n - (intOf v9).toNat)
  case atStart => exact ⟨0, word, by omega, rfl, rfl, by rw [← HW0.out]; simp, Below.refl _ _⟩
  case round =>
    obtain ⟨j, S, hj, rfl, rfl, hSd, hb⟩ := hrel
    have hSl : S.size ≤ 100 + 22 * j := by
      rw [Lib.size_eq, hSd, List.length_append]
      have h1 := nums_le (l.take j) (fun x hx => HFIT.out x (List.mem_of_mem_take hx))
      rw [List.length_take] at h1
      have := Nat.min_le_left j l.length
      omega
    have HB := hid hb
    have HSD := hid hSd
    clear hb hSd
    by_cases hjn : j < n
    · have hjl : j < l.length := by rw [← HN.out]; exact hjn
      obtain ⟨b, off, rfl, hlb, hx⟩ := HS.out.2 (by omega)
      have hget := List.getElem?_eq_getElem hjl
      have hk : wr.cell? ⟨b, off + j, none⟩ = some (.int .i64 l[j]) := (HB.out.cell (p := ⟨b, off + j, none⟩) hlb).trans (hx j _ (by unfold ints; rw [List.getElem?_map, hget]; rfl))
      have hfx := HFIT.out l[j] (List.getElem_mem hjl)
      generalize l[j] = x at hget hk hfx
      have HNX := hid (take_nums hget)
      obtain ⟨S2, hS2⟩ : ∃ S2 : ByteArray, S2 = ⟨(Lib.itoa x).toArray⟩ := ⟨_, rfl⟩
      have HIT : Hid (Calls Tryz.prog 99 #[.int .i64 x] wr fun e w'' => e = .returned (.string S2) ∧ Below wr.heap.size wr w'') := by
        rw [hS2]; exact itoaS_any x (by omega) (by omega) wr (HP.out.new HPL.out HB.out)
      have hS2l : S2.size ≤ 21 := by rw [hS2, Lib.size_eq]; exact Lib.itoa_length_le x (by omega) (by omega)
      have HS2 := hid hS2
      clear hget hx hfx hS2
      go_wp2_with (go_at_call 99; refine HIT.out.mono ?_; rintro e w5 ⟨rfl, hb5⟩; have HB5 := hid hb5; clear hb5 HIT)
      go_roundw
      case rel =>
        refine ⟨j + 1, _, by omega, rfl, by go_num, ?_, HB.out.trans (HB5.out.mono HB.out.size)⟩
        rw [ByteArray.data_append, ByteArray.data_append, Array.toList_append, Array.toList_append, HSD.out, HNX.out, HS2.out, List.append_assoc]
        rfl
      case measure => simp [intOf]; omega
    · obtain rfl : j = n := by omega
      have htk : l.take j = l := by rw [HN.out, List.take_length]
      rw [htk] at HSD
      clear htk
      go_wp2_with fail
      go_ret
      refine ⟨_, rfl, ?_, HB.out⟩
      rw [ByteArray.data_append, Array.toList_append, HSD.out]
      rfl
end Go.Proofs.YtldllmhgofacbaaGreatDoor

/- Package plan: the contracts of line and Print, for every plan. Conditions: the table of forms with its names, the library's table of powers, which the row lists. -/
namespace Go.Proofs.YtldllmhgofacbaaGreatDoor
open Go.RowKit
set_option maxRecDepth 100000

theorem lineT_p (l : PLine) : lineT l.word l.nums = plineText l := rfl
theorem wfpl_ok {p : Pl} (h : PlOk p) : WfPl p := by
  have h10 : (10 : Int) ^ 4 = 10000 := by decide
  obtain ⟨t1, t2, _⟩ := frameChk_ticks h.frame
  intro l hl
  unfold linesP at hl
  rcases List.mem_cons.1 hl with rfl | hl
  · exact ⟨fun n hn => by simp [PLine.nums] at hn; omega, trivial⟩
  rcases List.mem_append.1 hl with hl | hl
  · obtain ⟨s, hs, rfl⟩ := List.mem_map.1 hl
    obtain ⟨i, hi⟩ := List.mem_iff_getElem?.1 hs
    have hsp := spanOk (frOk_of h.frame i s hi).1
    exact ⟨fun n hn => by simp [PLine.nums] at hn; rcases hn with rfl | rfl | rfl <;> omega, trivial⟩
  rcases List.mem_append.1 hl with hl | hl
  · obtain ⟨x, hx, rfl⟩ := List.mem_map.1 hl
    have h0 := (flowChk_ok h.flow).2.1 x hx
    have hw := h.wires x hx
    have hk := wire_kind h0
    have hr := (flowChk_ok h.flow).2.2 x hx
    have h5 := h.most5
    exact ⟨fun n hn => by simp [PLine.nums] at hn; rcases hn with rfl | rfl | rfl | rfl <;> omega, trivial⟩
  · unfold codeLines at hl
    obtain ⟨c, hc, hl⟩ := List.mem_flatMap.1 hl
    rcases List.mem_cons.1 hl with rfl | hl
    · exact ⟨fun n hn => by simp [PLine.nums] at hn, trivial⟩
    · obtain ⟨o, ho, rfl⟩ := List.mem_map.1 hl
      have hw := wf_ok (h.codes c hc) o ho
      exact ⟨(op_wf hw).2.2, hw⟩
theorem plineText_le {l : PLine} (h : l.Wf) : (plineText l).length ≤ 120 := by
  have h10 : (10 : Int) ^ 4 = 10000 := by decide
  have h1 : (l.nums.flatMap numT).length ≤ 22 * l.nums.length := nums_le _ fun n hn => by
    have := h.1 n hn
    omega
  have h2 : l.nums.length ≤ 4 := by
    cases l with
    | op o => have := fields_few o; simp only [PLine.nums]; omega
    | _ => simp [PLine.nums]
  have h3 : l.word.length ≤ 5 := by
    cases l with
    | op o => have := name_len o.what.toNat; simp only [PLine.word]; omega
    | _ => simp [PLine.word]
  unfold plineText PLine.txt
  simp only [List.length_append, List.length_singleton]; omega
/-- The text of some lines. -/
def plinesT (l : List PLine) : List UInt8 := l.flatMap plineText
theorem plinesT_app (a b : List PLine) : plinesT (a ++ b) = plinesT a ++ plinesT b := by unfold plinesT; rw [List.flatMap_append]
theorem plinesT_one (l : PLine) : plinesT [l] = plineText l := by unfold plinesT; simp
theorem code_lines (c : List Op) : plinesT (c.map PLine.op) = codeText c := by
  unfold plinesT codeText
  rw [List.flatMap_map]; rfl
theorem spans_next {l : List Span} {i : Nat} {s : Span} (h : l[i]? = some s) : plinesT ((l.take (i + 1)).map PLine.span) = plinesT ((l.take i).map PLine.span) ++ plineText (.span s) := by
  obtain ⟨h1, h2⟩ := List.getElem?_eq_some_iff.1 h
  rw [List.take_succ_eq_append_getElem h1, List.map_append, plinesT_app, h2, List.map_singleton, plinesT_one]
theorem wires_next {l : List Wire} {i : Nat} {x : Wire} (h : l[i]? = some x) : plinesT ((l.take (i + 1)).map PLine.wire) = plinesT ((l.take i).map PLine.wire) ++ plineText (.wire x) := by
  obtain ⟨h1, h2⟩ := List.getElem?_eq_some_iff.1 h
  rw [List.take_succ_eq_append_getElem h1, List.map_append, plinesT_app, h2, List.map_singleton, plinesT_one]
theorem codes_next {l : List (List Op)} {i : Nat} {c : List Op} (h : l[i]? = some c) : plinesT (codeLines (l.take (i + 1))) = plinesT (codeLines (l.take i)) ++ (plineText .room ++ codeText c) := by
  obtain ⟨h1, h2⟩ := List.getElem?_eq_some_iff.1 h
  rw [List.take_succ_eq_append_getElem h1, codeLines_snoc, plinesT_app, h2, ← code_lines]
  unfold plinesT
  rw [List.flatMap_cons]
/-- What Print tells. -/
def PPrinted (w : World) (p : Pl) (e : Ending) (w' : World) : Prop := e = .returned (.tuple #[txt (if planChk p = 0 then planText p else []), errV (planChk p)]) ∧ Below w.heap.size w w'
theorem txt_eq {T : ByteArray} {l : List UInt8} (h : T.data.toList = l) : Value.string T = txt l := by subst h; rfl

end Go.Proofs.YtldllmhgofacbaaGreatDoor
