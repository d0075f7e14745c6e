/- strings.Lines' iterator, for every text: all its lines come, in their order, or a first part of them where a round has said 'no more'. Conditions: no text is longer than an int tells. -/
import Derived.Test.YteneedblgaialaaDoorRangeCell
import Derived.Test.YteneedblgaialaaDoorLinesLaw
import Derived.Test.YteneedblgaialaaDoorShelf
import Derived.RangeFuncBox
import Derived.Shelf.Abstract
import Derived.Shelf.RegionOpen
import Derived.WalkKit
import Derived.OwnWalkIn
import Derived.TacticsInMore
import Derived.LoopNIn
import Derived.LoopIn
import Derived.BigRegionIn
namespace Go.Proofs.YteneedblgaialaaDoor
open Go.RowKit Go.Shelf
set_option maxRecDepth 100000
attribute [local go_sem] Oper.semAt_some

theorem lines_made (s : ByteArray) (w : World) :
    Calls Tryd.prog 20 #[.string s] w fun e w' => e = .returned (.func (.func 35) #[] #[.pointer (some ⟨w.heap.size, 0, none⟩)]) ∧ w' = w.alloc (.cells #[.string s] 9) := by
  go_enter Tryd.func20, Tryd.ntmps20
  go_wp2
  go_ret
  exact ⟨rfl, rfl⟩

/-- The lines of a text, as texts. -/
def linesB (s : ByteArray) : List ByteArray := (linesOf s.data.toList).map fun l => ⟨l.toArray⟩
theorem linesB_none {s : ByteArray} (h : s.size = 0) : linesB s = [] := by
  have h1 : s.data.toList = [] := by rw [Lib.size_eq] at h; exact List.eq_nil_of_length_eq_zero h
  unfold linesB linesOf; rw [h1]; rfl
theorem linesB_hit {s : ByteArray} {k : Nat} (h : Lib.indexByte s.data.toList 10 = k) : linesB s = s.extract 0 (k + 1) :: linesB (s.extract (k + 1) s.size) ∧ k < s.size := by
  obtain ⟨h1, h2⟩ := linesOf_hit _ k h
  have h3 : k < s.size := by rw [Lib.size_eq]; exact h2
  refine ⟨?_, h3⟩
  unfold linesB
  rw [h1, List.map_cons, Lib.extract_eq, Lib.extract_eq]
  simp only [List.drop_zero, Nat.sub_zero]
  congr 2
  rw [List.take_of_length_le (by rw [List.length_drop, ← Lib.size_eq]; omega)]
theorem linesB_miss {s : ByteArray} (h : Lib.indexByte s.data.toList 10 = -1) (h0 : s.size ≠ 0) : linesB s = [s] := by
  have h1 : s.data.toList ≠ [] := fun e => h0 (by rw [Lib.size_eq, e]; rfl)
  unfold linesB
  rw [linesOf_miss _ h h1]
  rfl
/-- How much of the text is left, read off the world. -/
def leftAt (t : Nat) (w : World) : Nat :=
  match w.cell? ⟨t, 0, none⟩ with
  | some (.string s) => s.size
  | _ => 0
theorem leftAt_eq {t T : Nat} {w : World} {s : ByteArray} (h : Boxed w t T (.string s)) : leftAt t w = s.size := by
  unfold leftAt; rw [h.cell]

set_option maxHeartbeats 4000000 in
theorem lines_gives (n t T : Nat) (s : ByteArray) (hs : s.size ≤ 1099511627776) (w : World) (ht : Boxed w t T (.string s)) :
    GivesAll Fence.wide n Tryd.prog 35 #[.pointer (some ⟨t, 0, none⟩)] (fun x => #[.string x]) t (linesB s) w := by
  intro l J Jx W hW hJ hJx hJs hJxs hY h0
  have hb : Boxed W t T (.string s) := (hW.block _ ht.lt).trans ht
  have HB0 := hid hb
  refine callsIn_of_wp Tryd.func35 rfl trivial ?_ rfl
  simp only [Tryd.ntmps35, List.size_toArray, List.length_cons, List.length_nil, Nat.reduceAdd, Nat.reduceSub, Array.replicate_succ, Array.replicate_zero, List.push_toArray, List.append_toArray, List.nil_append, List.cons_append]
  clear hb ht
  gi_wp2
  gi_loopw [3] (fun _ wr => ∃ (pre : List ByteArray) (S : ByteArray), linesB s = pre ++ linesB S ∧ S.size ≤ 1099511627776 ∧ Boxed wr t T (.string S) ∧ J pre wr) (fun _ wr => leftAt t wr)
  case atStart => exact ⟨[], s, rfl, hs, HB0.out, h0⟩
  case round =>
    obtain ⟨pre, S, hpre, hS, hbx, hjp⟩ := hrel
    have HBX := hid hbx
    have HPRE := hid hpre
    have HM := hid (leftAt_eq hbx)
    have c1 := hbx.cell
    have f1 := hbx.frozen
    have hbx1 : ∀ x : ByteArray, Boxed (wr.setCell ⟨t, 0, none⟩ (.string x)) t T (.string x) := fun x => hbx.set _
    clear hbx hpre
    by_cases hz : S.size = 0
    · have hz' : decide ((0 : Int) < ↑S.size) = false := decide_eq_false (by omega)
      gi_wp2
      go_end0
      refine ⟨⟨_, rfl⟩, .inl ?_⟩
      have := HPRE.out
      rw [linesB_none hz, List.append_nil] at this
      rw [this]; exact hjp
    · have hz' : decide ((0 : Int) < ↑S.size) = true := decide_eq_true (by omega)
      have hge := Lib.indexByte_ge S.data.toList 10
      by_cases hm : Lib.indexByte S.data.toList 10 = -1
      · have HMISS := hid (linesB_miss hm hz)
        have hpre1 : pre ++ [S] <+: linesB s := by rw [HPRE.out, HMISS.out]; exact List.prefix_refl _
        have HP1 := hid hpre1
        have HBE := hid (hbx1 ⟨#[]⟩)
        obtain ⟨fn, tmps, assign, body, hy, hR⟩ := hY pre S _ (hJs pre wr (.string ⟨#[]⟩) hjp) hpre1
        clear hpre1 hbx1
        gi_wp2_with (refine ⟨trivial, (fun h => by cases h), ?_⟩; gi_at_call 36; refine (callsIn_wide.2 (Tryd.strings_IndexByte S 10 _)).mono ?_; rintro e w' ⟨rfl, rfl⟩)
        gi_wp2
        refine ⟨(fun h => by cases h), hR.mono ?_⟩
        rintro e W3 (⟨rfl, hJ3, hk3⟩ | ⟨rfl, hJx3⟩)
        · have hb3 : Boxed W3 t T (.string ⟨#[]⟩) := hk3.trans HBE.out
          have HB3 := hid hb3
          clear hb3 hk3
          gi_wp2
          go_roundw
          case rel => exact ⟨pre ++ [S], ⟨#[]⟩, by rw [HPRE.out, HMISS.out, linesB_none (s := ⟨#[]⟩) rfl, List.append_nil], by decide, HB3.out, hJ3⟩
          case measure => rw [leftAt_eq HB3.out, HM.out]; show 0 < S.size; omega
        · gi_wp2
          refine bodyPost_ret (results_none rfl _ _ _) rfl ?_
          exact ⟨⟨_, rfl⟩, .inr ⟨_, HP1.out, hJx3⟩⟩
      · obtain ⟨k, hk⟩ : ∃ k : Nat, Lib.indexByte S.data.toList 10 = k := ⟨(Lib.indexByte S.data.toList 10).toNat, by omega⟩
        obtain ⟨hhit, hkl⟩ := linesB_hit hk
        have HBE := hid hbx1
        clear hbx1
        have HHIT := hid hhit
        clear hhit
        gi_wp2_with (refine ⟨trivial, (fun h => by cases h), ?_⟩; gi_at_call 36; refine (callsIn_wide.2 (Tryd.strings_IndexByte S 10 _)).mono ?_; rintro e w' ⟨rfl, rfl⟩)
        have hk1 : k + 1 ≤ S.size := hkl
        gi_region
        obtain ⟨W1, hW1⟩ : ∃ W1, (w'.setCell ⟨t, 0, none⟩ (.string (S.extract (k + 1) S.size))).drew = W1 := ⟨_, rfl⟩
        have hj1 : J pre W1 := by rw [← hW1]; exact hJ pre _ _ none (hJs pre w' (.string (S.extract (k + 1) S.size)) hjp) ⟨rfl, rfl, rfl, Nat.le_refl _, fun _ _ _ => rfl⟩ (fun r e => by cases e)
        have hb1 : Boxed W1 t T (.string (S.extract (k + 1) S.size)) := by rw [← hW1]; exact HBE.out _
        have hpre1 : pre ++ [S.extract 0 (k + 1)] <+: linesB s := by
          rw [HPRE.out, HHIT.out]
          exact ⟨linesB (S.extract (k + 1) S.size), by simp⟩
        have HP1 := hid hpre1
        have HB1 := hid hb1
        obtain ⟨fn, tmps, assign, body, hy, hR⟩ := hY pre (S.extract 0 (k + 1)) W1 hj1 hpre1
        rw [hW1]
        clear hW1 hj1 hb1 hpre1 c1 f1
        gi_wp2
        refine ⟨(fun h => by cases h), hR.mono ?_⟩
        rintro e W3 (⟨rfl, hJ3, hk3⟩ | ⟨rfl, hJx3⟩)
        · have hb3 : Boxed W3 t T (.string (S.extract (k + 1) S.size)) := hk3.trans HB1.out
          have HB3 := hid hb3
          have hsz : (S.extract (k + 1) S.size).size = S.size - (k + 1) := by simp
          clear hb3 hk3
          gi_wp2
          go_roundw
          case rel => exact ⟨pre ++ [S.extract 0 (k + 1)], S.extract (k + 1) S.size, by rw [HPRE.out, HHIT.out]; simp, by omega, HB3.out, hJ3⟩
          case measure => rw [leftAt_eq HB3.out, HM.out, hsz]; omega
        · gi_wp2
          refine bodyPost_ret (results_none rfl _ _ _) rfl ?_
          exact ⟨⟨_, rfl⟩, .inr ⟨_, HP1.out, hJx3⟩⟩
end Go.Proofs.YteneedblgaialaaDoor
