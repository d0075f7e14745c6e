/- A kernel as it is made: rooms at their beginning, then line by line. -/
import Derived.Test.YtnighanlonkjbaaDoorKern
namespace Go.Proofs.YtnighanlonkjbaaDoor
open Go.RowKit
set_option maxRecDepth 100000

theorem kAt_start {TK TL TP : Nat} {w : World} {kb rb n : Nat} {P : PM}
    (hblk : w.heap[kb]? = some (.cells #[.slice P.A P.ros.length P.c, .int .i64 P.ticks, .slice P.sA P.spans.length P.sc, .slice P.wA P.wires.length P.wc, .slice (some ⟨rb, 0, none⟩) n n, .slice none 0 0, .int .i64 0] TK (0, 0)))
    (hp : PlanAt w P) (hr : Row w 25 8 (some ⟨rb, 0, none⟩) n n ((List.replicate n St.zero).flatMap St.cells)) (h1 : rb ≠ kb) (h2 : ∀ j, planF P j → j ≠ kb ∧ j ≠ rb) :
    KAt TK TL TP w kb ⟨P, some ⟨rb, 0, none⟩, n, none, 0, []⟩ ⟨List.replicate n St.zero, [], 0⟩ :=
  { blk := by simpa using hblk
    plan := hp
    rooms := by simpa using hr
    ptrs := Row.nil _ _ _
    many := rfl
    lines := fun i x a hx _ => by simp at hx
    own := by
      refine ⟨fun j => if j = kb then 0 else if j = rb then 1 else 3, by simp, fun j hj => ?_, fun j hj => by simp [InA] at hj, fun j hj => ?_, fun i a ha => by simp at ha⟩
      · simp [InA] at hj
        subst hj
        dsimp only
        rw [if_neg h1, if_pos rfl]
      · have := h2 j hj
        dsimp only
        rw [if_neg this.1, if_neg this.2] }

section
variable {TK TL TP kb : Nat} {w w1 w2 : World} {M : KM} {k : Kst}
/-- One line more. -/
theorem KAt.addLine (h : KAt TK TL TP w kb M k) (_hne : TL ≠ TP) {lb : Nat} {x : Wire} (hl : LnAt TL w1 lb none ⟨x, [], 0⟩) (hlb : w.heap.size ≤ lb) (hb : Below w.heap.size w w1)
    {o : Obj} {lA : Option Addr} {lc : Nat} (hrow : Row w2 TP 1 lA (k.lines.length + 1) lc (M.ls.map ptrV ++ [.pointer (some ⟨lb, 0, none⟩)])) (hk : Keep (InA M.lA) (w1.alloc o) w2) (hn : ∀ j, InA lA j → InA M.lA j ∨ (w1.alloc o).heap.size ≤ j) :
    KAt TK TL TP (w2.setCell ⟨kb, 5, none⟩ (.slice lA (k.lines.length + 1) lc)) kb ⟨M.P, M.rA, M.rc, lA, lc, M.ls ++ [⟨lb, none⟩]⟩ ⟨k.rooms, k.lines ++ [⟨x, [], 0⟩], k.time⟩ := by
  obtain ⟨own, o0, o1, o2, o3, o4⟩ := h.own
  have hlt := h.lt
  have hs1 := hb.size
  have hlbl : lb < w1.heap.size := hl.lt lb (.inl rfl)
  have hsa : (w1.alloc o).heap.size = w1.heap.size + 1 := sz_alloc _ _
  have hs2 := hk.size
  have old : ∀ j, j < w.heap.size → own j ≠ 2 → w2.heap[j]? = w.heap[j]? := fun j hj ho => by
    rw [hk.block j (by omega) (fun hj' => ho (o2 j hj')), blk_alloc (by omega), hb.block j hj]
  have far : ∀ j, j ≠ kb → (w2.setCell ⟨kb, 5, none⟩ (.slice lA (k.lines.length + 1) lc)).heap[j]? = w2.heap[j]? := fun j hj => blk_far (p := ⟨kb, 5, none⟩) hj _
  have hkb := blk_lt h.blk
  have both : ∀ j, j < w.heap.size → own j ≠ 2 → own j ≠ 0 → (w2.setCell ⟨kb, 5, none⟩ (.slice lA (k.lines.length + 1) lc)).heap[j]? = w.heap[j]? := fun j hj ho h0 =>
    (far j (by rintro rfl; exact h0 o0)).trans (old j hj ho)
  have hnotA : ¬ InA lA kb := fun hj => by
    rcases hn kb hj with h1 | h1
    · have := o2 kb h1; rw [o0] at this; cases this
    · omega
  have hnl : ¬ InA M.lA lb := fun hj => by have := hlt lb (.inr (.inl hj)); omega
  exact { blk := by
            rw [hp_set, if_pos rfl, old kb hkb (by rw [o0]; decide), h.blk]
            simp [setObj]
          plan := h.plan.keep (by rw [sz_set]; omega) fun j hj hp => both j hj (by rw [o3 j hp]; decide) (by rw [o3 j hp]; decide)
          rooms := h.rooms.keep fun j hj hl => both j hl (by rw [o1 j hj]; decide) (by rw [o1 j hj]; decide)
          ptrs := by
            have : Row w2 TP 1 lA (k.lines ++ [(⟨x, [], 0⟩ : Ln)]).length lc ((M.ls ++ [(⟨lb, none⟩ : LM)]).map ptrV) := by
              rw [List.length_append, List.map_append]; exact hrow
            exact this.setCell (p := ⟨kb, 5, none⟩) hnotA _
          many := by simp [h.many]
          lines := fun i y a hy ha => by
            by_cases hi : i < k.lines.length
            · rw [List.getElem?_append_left hi] at hy
              rw [List.getElem?_append_left (by rw [h.many]; exact hi)] at ha
              refine (h.lines i y a hy ha).keep fun j hj hl => both j hl ?_ ?_ <;> rw [o4 i a ha j hj] <;> omega
            · rw [List.getElem?_append_right (by omega)] at hy
              rw [List.getElem?_append_right (by rw [h.many]; omega), h.many] at ha
              have hz : i - k.lines.length = 0 := by
                have := (List.getElem?_eq_some_iff.1 hy).1
                simp at this; omega
              rw [hz] at hy ha
              simp at hy ha
              subst hy ha
              refine (hl.keep (w' := w2) fun j hj hl' => ?_).keep fun j hj _ => far j ?_
              · rcases hj with rfl | hj
                · rw [hk.block j (by omega) hnl, blk_alloc hl']
                · simp [InA] at hj
              · rcases hj with rfl | hj
                · omega
                · simp [InA] at hj
          own := by
            refine ⟨fun j => if j < w.heap.size then own j else if j = lb then 4 + M.ls.length else 2, ?_, fun j hj => ?_, fun j hj => ?_, fun j hj => ?_, fun i a ha j hj => ?_⟩
            · dsimp only; rw [if_pos hkb]; exact o0
            · dsimp only; rw [if_pos (hlt j (.inl (.inr (.inl hj))))]; exact o1 j hj
            · rcases hn j hj with h1 | h1
              · dsimp only; rw [if_pos (hlt j (.inr (.inl h1)))]; exact o2 j h1
              · dsimp only; rw [if_neg (by omega), if_neg (by omega)]
            · dsimp only; rw [if_pos (hlt j (.inr (.inr hj)))]; exact o3 j hj
            · by_cases hi : i < M.ls.length
              · rw [List.getElem?_append_left hi] at ha
                dsimp only
                rw [if_pos (hlt j (.inl (.inr (.inr ⟨a, List.mem_of_getElem? ha, hj⟩))))]
                exact o4 i a ha j hj
              · rw [List.getElem?_append_right (by omega)] at ha
                have hz : i - M.ls.length = 0 := by
                  have := (List.getElem?_eq_some_iff.1 ha).1
                  simp at this; omega
                rw [hz] at ha
                simp at ha
                subst ha
                rcases hj with rfl | hj
                · dsimp only; rw [if_neg (by omega), if_pos rfl]; omega
                · simp [InA] at hj }
theorem TF_add {lA : Option Addr} {lc lb S : Nat} (hn : ∀ j, InA lA j → InA M.lA j ∨ S ≤ j) (hlb : S ≤ lb) : ∀ j, TF kb ⟨M.P, M.rA, M.rc, lA, lc, M.ls ++ [⟨lb, none⟩]⟩ j → TF kb M j ∨ S ≤ j := by
  rintro j ((rfl | hj | ⟨a, ha, hj⟩) | hj | hj)
  · exact .inl (.inl (.inl rfl))
  · exact .inl (.inl (.inr (.inl hj)))
  · rcases List.mem_append.1 ha with ha | ha
    · exact .inl (.inl (.inr (.inr ⟨a, ha, hj⟩)))
    · simp at ha
      subst ha
      rcases hj with rfl | hj
      · exact .inr hlb
      · simp [InA] at hj
  · rcases hn j hj with h1 | h1
    · exact .inl (.inr (.inl h1))
    · exact .inr h1
  · exact .inl (.inr (.inr hj))
end
end Go.Proofs.YtnighanlonkjbaaDoor
