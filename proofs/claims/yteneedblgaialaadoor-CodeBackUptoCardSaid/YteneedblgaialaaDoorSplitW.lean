/- strings.Split at a blank, strings.CutSuffix at a line's end, in the words of 'cutA'. Conditions: 'Desk'; no text is longer than 2^30 bytes. -/
import Derived.Test.YteneedblgaialaaDoorTextW
import Derived.Test.YteneedblgaialaaDoorLinesLaw
import Derived.Lib.IndexBytes
import Derived.Lib.CountLaws
namespace Go.Proofs.YteneedblgaialaaDoor
open Go.RowKit
set_option maxRecDepth 100000

theorem cutA_hit {l : List UInt8} {c : UInt8} {k : Nat} (h : Lib.indexByte l c = k) : cutA c [] l = l.take k :: cutA c [] (l.drop (k + 1)) := by
  obtain ⟨h1, h2, _⟩ := index_hit l c k h
  conv => lhs; rw [h1]
  rw [cutA_pass c _ [] _ h2, List.nil_append, cutA, if_pos rfl]
theorem cutA_miss {l : List UInt8} {c : UInt8} (h : Lib.indexByte l c = -1) : cutA c [] l = [l] := by
  have := cutA_pass c l [] [] (index_miss l c h)
  rw [List.append_nil, List.nil_append] at this
  rw [this]; rfl
theorem split_cut (c : UInt8) : ∀ (N : Nat) (s : ByteArray), s.size ≤ N → (Lib.splitB ⟨#[c]⟩ 0 (Lib.countB s ⟨#[c]⟩) s).map (fun s => s.data.toList) = cutA c [] s.data.toList := by
  intro N
  induction N with
  | zero =>
    intro s hs
    have hi : Lib.indexB s ⟨#[c]⟩ = Lib.indexByte s.data.toList c := Lib.index_one _ _
    have he : s.data.toList = [] := List.eq_nil_of_length_eq_zero (by rw [← Lib.size_eq]; omega)
    have hm : Lib.indexB s ⟨#[c]⟩ = -1 := by rw [hi, he]; rfl
    rw [Lib.splitB_miss _ _ _ _ hm, cutA_miss (by rw [← hi]; exact hm)]; rfl
  | succ N ih =>
    intro s hs
    have hi : Lib.indexB s ⟨#[c]⟩ = Lib.indexByte s.data.toList c := Lib.index_one _ _
    have hge := Lib.indexByte_ge s.data.toList c
    by_cases hm : Lib.indexB s ⟨#[c]⟩ = -1
    · rw [Lib.splitB_miss _ _ _ _ hm, cutA_miss (by rw [← hi]; exact hm)]; rfl
    · obtain ⟨k, hk⟩ : ∃ k : Nat, Lib.indexByte s.data.toList c = k := ⟨(Lib.indexByte s.data.toList c).toNat, by omega⟩
      have hk2 : Lib.indexB s ⟨#[c]⟩ = k := hi.trans hk
      have hkl := (index_hit _ _ _ hk).2.2
      rw [← Lib.size_eq] at hkl
      have h1 : (⟨#[c]⟩ : ByteArray).size = 1 := rfl
      rw [Lib.countB_hit s ⟨#[c]⟩ k (Nat.le_refl 1) hk2, Nat.add_comm, Lib.splitB_hit _ _ _ _ _ hk2, List.map_cons, h1, ih _ (by simp; omega), cutA_hit hk, Lib.extract_eq, Lib.extract_eq]
      congr 2
      rw [List.take_of_length_le (by rw [List.length_drop, ← Lib.size_eq]; omega)]
theorem cutA_le (c : UInt8) : ∀ (l acc : List UInt8), ∀ t ∈ cutA c acc l, t.length ≤ acc.length + l.length
  | [], acc, t, h => by
    simp [cutA] at h; subst h; simp
  | x :: l, acc, t, h => by
    unfold cutA at h
    split at h
    · rcases List.mem_cons.1 h with rfl | h
      · simp
      · have := cutA_le c l [] t h
        simp at this ⊢; omega
    · have := cutA_le c l _ t h
      simp at this ⊢; omega

/-- What Split at a blank hands back. -/
def SplitGot (s : ByteArray) (w : World) (e : Ending) (w' : World) : Prop :=
  ∃ (ws : List ByteArray) (n : Nat), ws.length = n ∧ ws.map (fun s => s.data.toList) = cutA 32 [] s.data.toList ∧ (∀ x ∈ ws, x.size ≤ s.size) ∧ n ≤ s.size + 1 ∧ e = .returned (.slice (some ⟨w.heap.size, 0, none⟩) n n) ∧ w' = w.alloc (.cells (ws.map Value.string).toArray 9)
theorem split_any (s : ByteArray) (hs : s.size ≤ 1073741824) (w : World) (h : Desk w) : Calls Tryd.prog 38 #[.string s, .string ⟨#[32]⟩] w (SplitGot s w) := by
  obtain ⟨m, hm⟩ := h.len
  have hc := split_cut 32 s.size s (Nat.le_refl _)
  have hl : (Lib.splitB ⟨#[32]⟩ 0 (Lib.countB s ⟨#[32]⟩) s).length = (cutA 32 [] s.data.toList).length := by rw [← hc, List.length_map]
  rw [cutA_len] at hl
  have hall := Lib.splitB_all ⟨#[32]⟩ (by decide) 0 _ s rfl
  refine (Tryd.strings_Split s ⟨#[32]⟩ m w (by omega) hm (by decide)).mono ?_
  rintro e w' ⟨rfl, rfl⟩
  refine ⟨_, _, hall, hc, fun x hx => ?_, ?_, rfl, rfl⟩
  · have := cutA_le 32 s.data.toList [] x.data.toList (by rw [← hc]; exact List.mem_map_of_mem (f := fun s : ByteArray => s.data.toList) hx)
    rw [Lib.size_eq, Lib.size_eq]; simpa using this
  · have h2 := List.count_le_length (a := (32 : UInt8)) (l := s.data.toList)
    rw [← Lib.size_eq] at h2
    omega
/-- The row that Split makes. -/
theorem split_sl {w : World} {ws : List ByteArray} {n : Nat} (hn : ws.length = n) : Sl (w.alloc (.cells (ws.map Value.string).toArray 9)) (some ⟨w.heap.size, 0, none⟩) 1 n (ws.map Value.string) := by
  refine ⟨by rw [List.length_map, hn]; omega, fun _ => ⟨w.heap.size, 0, rfl, by simp, fun j u hu => ?_⟩⟩
  rw [Nat.zero_add, blk_cell (heap_alloc_new w _)]
  simpa using hu

/-- A line's end is cut off. -/
theorem cut_line (t : List UInt8) : Lib.trimSuffix (t ++ [10]) [10] = t ∧ Lib.hasSuffix (t ++ [10]) [10] = true := by
  have h : Lib.hasSuffix (t ++ [10]) [10] = true := by
    unfold Lib.hasSuffix
    rw [List.isSuffixOf_iff_suffix]
    exact List.suffix_append _ _
  refine ⟨?_, h⟩
  unfold Lib.trimSuffix
  rw [if_pos h]; simp
theorem cut_last (t : List UInt8) (h : (10 : UInt8) ∉ t) : Lib.trimSuffix t [10] = t ∧ Lib.hasSuffix t [10] = false := by
  have h2 : Lib.hasSuffix t [10] = false := by
    unfold Lib.hasSuffix
    rw [Bool.eq_false_iff]
    intro e
    rw [List.isSuffixOf_iff_suffix] at e
    exact h (e.subset (by simp))
  refine ⟨?_, h2⟩
  unfold Lib.trimSuffix
  rw [h2]; simp
end Go.Proofs.YteneedblgaialaaDoor
