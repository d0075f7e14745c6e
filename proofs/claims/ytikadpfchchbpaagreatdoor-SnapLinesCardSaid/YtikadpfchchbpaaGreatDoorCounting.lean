/- The contract of framelaw4.counting: the plan of so many rooms that count. -/
import Derived.Test.YtikadpfchchbpaaGreatDoorBaseU
import Derived.Test.YtikadpfchchbpaaGreatDoorRows
namespace Go.Proofs.YtikadpfchchbpaaGreatDoor
open Go.RowKit
set_option maxRecDepth 100000

theorem Tryz.infoSpan : (Tryz.prog.info? 71).map (fun i => (i.zero, i.size, i.bytes)) = some (some (.agg #[.int .i64 0, .int .i64 0, .int .i64 0]), 3, 24) := by kernel_rfl
theorem Tryz.infoOps : (Tryz.prog.info? 63).map (fun i => (i.zero, i.size, i.bytes)) = some (some (.slice none 0 0), 1, 24) := by kernel_rfl

theorem spans_one (l : List Span) : ∀ u ∈ l.flatMap Span.cells, u.oneCell' = true := by
  intro u hu; simp [Span.cells] at hu; obtain ⟨a, _, h | h | h⟩ := hu <;> subst h <;> rfl
theorem ros_one (l : List Ro) : ∀ u ∈ l.flatMap Ro.cells, u.oneCell' = true := by
  intro u hu; simp [Ro.cells] at hu; obtain ⟨a, _, h⟩ := hu; subst h; rfl

/-- The plan that was made: its code's rows, and its spans. -/
structure Counted (w : World) (B : Nat) (n : Nat) (A1 : Option Addr) (c1 : Nat) (rows : List Ro) (A2 : Option Addr) (c2 : Nat) : Prop where
  code : Row w 63 1 A1 n c1 (rows.flatMap Ro.cells)
  each : ∀ r ∈ rows, r.ops = countOps ∧ Row w 69 3 r.A 2 r.c (r.ops.flatMap Op.cells) ∧ ∀ k, InA r.A k → B ≤ k
  many : rows.length = n
  spans : Row w 71 3 A2 n c2 ((countSpans n).flatMap Span.cells)
  new1 : ∀ k, InA A1 k → B ≤ k
  new2 : ∀ k, InA A2 k → B ≤ k

def IsCounting (w : World) (n : Nat) (e : Ending) (w' : World) : Prop :=
  ∃ A1 c1 rows A2 c2, e = .returned (.agg #[.slice A1 n c1, .int .i64 n, .slice A2 n c2, .slice none 0 0]) ∧ Counted w' w.heap.size n A1 c1 rows A2 c2 ∧ Below w.heap.size w w'

theorem Counted.keep {w w' : World} {B n c1 c2 : Nat} {A1 A2 : Option Addr} {rows : List Ro} (h : Counted w B n A1 c1 rows A2 c2)
    (hk : ∀ (k t : Nat) (cs : Array Value), w.heap[k]? = some (Obj.cells cs t (0, 0)) → (t = 63 ∨ t = 69 ∨ t = 71) → w'.heap[k]? = w.heap[k]?) : Counted w' B n A1 c1 rows A2 c2 := by
  have row : ∀ {e sz A m c xs}, Row w e sz A m c xs → (e = 63 ∨ e = 69 ∨ e = 71) → Row w' e sz A m c xs := by
    intro e sz A m c xs hr he
    refine ⟨hr.1, ?_⟩
    rcases hr.2 with h0 | ⟨b, off, cur, rfl, hh, h1⟩
    · exact .inl h0
    · exact .inr ⟨b, off, cur, rfl, (hk b e cur hh he).trans hh, h1⟩
  exact ⟨row h.code (.inl rfl), fun r hr => ⟨(h.each r hr).1, row (h.each r hr).2.1 (.inr (.inl rfl)), (h.each r hr).2.2⟩, h.many, row h.spans (.inr (.inr rfl)), h.new1, h.new2⟩

theorem cnt_sp {w w' : World} {B n c1 c2 : Nat} {A1 A2 : Option Addr} {rows : List Ro} (h : Counted w B n A1 c1 rows A2 c2) {o1 o2 : Obj} (hk : Keep (InA A1) ((w.alloc o1).alloc o2) w') : Row w' 71 3 A2 n c2 ((countSpans n).flatMap Span.cells) := by
  refine ((h.spans.alloc o1).alloc o2).keep fun b hb hl => hk.block b hl ?_
  intro hi
  rcases h.code.2 with ⟨rfl, _⟩ | ⟨b', off, cur, rfl, hh, _⟩
  · simp [InA] at hi
  · simp [InA] at hi
    subst hi
    exact h.spans.apart hh (by decide) hb

set_option maxHeartbeats 4000000 in
set_option maxRecDepth 100000 in
theorem counting_any (n : Nat) (hn : n ≤ 5) (w : World) : Calls Tryz.prog 6 #[.int .i64 n] w (IsCounting w n) := by
  obtain ⟨i1, hi1, y10, y11, y12⟩ := info_parts Tryz.infoOps
  obtain ⟨i2, hi2, y20, y21, y22⟩ := info_parts Tryz.infoSpan
  go_enter Tryz.func6, Tryz.ntmps6
  go_wp2_with fail
  go_loopw [4] (fun v4 wr => ∃ (k : Nat) (A1 : Option Addr) (c1 : Nat) (rows : List Ro) (A2 : Option Addr) (c2 : Nat), k ≤ n ∧ v4 = .int .i64 k ∧
      wr.heap[w.heap.size]? = some (.cells #[.slice none 0 0, .int .i64 0, .slice none 0 0, .slice none 0 0] 26 (0, 0)) ∧
      wr.heap[w.heap.size + 1]? = some (.cells #[.slice A1 k c1, .int .i64 n, .slice A2 k c2, .slice none 0 0] 26 (0, 0)) ∧
      Counted wr w.heap.size k A1 c1 rows A2 c2 ∧ Below w.heap.size w wr) (fun v4 _ => n - (intOf v4).toNat)
  case atStart =>
    refine ⟨0, none, 0, [], none, 0, by omega, rfl, ?_, ?_, ⟨Row.nil _ _ _, fun r hr => by simp at hr, rfl, Row.nil _ _ _, fun k hk => by simp [InA] at hk, fun k hk => by simp [InA] at hk⟩, ((Below.refl _ _).alloc (Nat.le_refl _) _).alloc (by simp) _⟩
    · rw [hp_alloc, if_neg (by simp), hp_alloc, if_pos rfl]
    · rw [hp_alloc, if_pos (by simp)]
  case round =>
    obtain ⟨k, A1, c1, rows, A2, c2, hk, rfl, hb0, hb1, hc, hb⟩ := hrel
    have p10 := blk_cell hb1 0
    have p12 := blk_cell hb1 2
    have f10 := blk_free hb1 0
    have f12 := blk_free hb1 2
    have hsz := blk_lt hb1
    simp at p10 p12
    have HB0 := hid hb0
    have HB1 := hid hb1
    have HC := hid hc
    have HB := hid hb
    clear hb0 hb1 hc hb
    by_cases hlt : k < n
    · have hap1 : ¬ InA A1 (w.heap.size + 1) := HC.out.code.apart HB1.out (by decide)
      have hap2 : ¬ InA A2 (w.heap.size + 1) := HC.out.spans.apart HB1.out (by decide)
      have HAP1 := hid hap1
      have HAP2 := hid hap2
      clear hap1 hap2
      go_wp2_with (first
        | (at_builtin; refine wpList_append_row _ rfl (.tmp 13) (.tmp 17) 22 rfl 63 i1 (.slice none 0 0) 1 24 Tryz.underlying22 hi1 y10 y11 y12 rfl (by decide) A1 k c1 (rows.flatMap Ro.cells) rfl ((HC.out.code.alloc _).alloc _)
            (some ⟨wr.heap.size + 1, 0, none⟩) 1 1 (Ro.cells ⟨some ⟨wr.heap.size, 0, none⟩, 2, countOps⟩) rfl (by refine ⟨rfl, fun _ => ⟨wr.heap.size + 1, 0, rfl, by simp, fun j u hu => ?_⟩⟩; match j, hu with | 0, hu => (simp [Ro.cells] at hu; subst hu; rw [Nat.zero_add]; exact (blk_cell (by rw [hp_alloc, if_pos (by simp)]) 0).trans rfl)) (by intro u hu; simp [Ro.cells] at hu; subst hu; rfl) (by unfold maxLen; omega) (by omega) ?_
           intro A1' c1' w1 hr1 hk1 hi1'
           have e1 : w1.heap[w.heap.size + 1]? = wr.heap[w.heap.size + 1]? := (hk1.block _ (by simp; omega) HAP1.out).trans (by rw [hp_alloc, if_neg (by simp; omega), hp_alloc, if_neg (by omega)])
           have E1 := hid e1
           have p10 := blk_cell (e1.trans HB1.out) 0
           have p12 := blk_cell (e1.trans HB1.out) 2
           have f10 := blk_free (e1.trans HB1.out) 0
           have f12 := blk_free (e1.trans HB1.out) 2
           have hs1 : w.heap.size + 1 < w1.heap.size := by have := hk1.size; simp at this; omega
           have HR1 := hid hr1
           have HK1 := hid hk1
           have HI1 := hid hi1'
           simp at p10 p12
           clear hr1 hk1 hi1' e1)
        | (at_builtin; refine wpList_append_row _ rfl (.tmp 21) (.tmp 27) 23 rfl 71 i2 (.agg #[.int .i64 0, .int .i64 0, .int .i64 0]) 3 24 Tryz.underlying23 hi2 y20 y21 y22 rfl (by decide) A2 k c2 ((countSpans k).flatMap Span.cells) rfl
            (((cnt_sp HC.out HK1.out).setCell HAP2.out _).alloc _)
            (some ⟨w1.heap.size, 0, none⟩) 1 1 (Span.cells ⟨k, k + 1, k⟩) rfl (by refine ⟨rfl, fun _ => ⟨w1.heap.size, 0, rfl, by simp, fun j u hu => ?_⟩⟩; rw [Nat.zero_add]; rw [blk_cell (by rw [hp_alloc, sz_set, if_pos rfl]) j]; simpa [Span.cells] using hu) (by intro u hu; simp [Span.cells] at hu; rcases hu with rfl | rfl | rfl <;> rfl) (by unfold maxLen; omega) (by omega) ?_
           intro A2' c2' w2 hr2 hk2 hi2'
           have HR2 := hid hr2
           have HK2 := hid hk2
           have HI2 := hid hi2'
           have e2 : w2.heap[w.heap.size + 1]? = (w1.setCell ⟨w.heap.size + 1, 0, none⟩ (.slice A1' (k + 1) c1')).heap[w.heap.size + 1]? := (hk2.block _ (by simp; omega) HAP2.out).trans (by rw [hp_alloc, sz_set, if_neg (by omega)])
           have hb2 : w2.heap[w.heap.size + 1]? = some (.cells #[.slice A1' (k + 1) c1', .int .i64 n, .slice A2 k c2, .slice none 0 0] 26 (0, 0)) := by rw [e2, hp_set, if_pos rfl, E1.out, HB1.out]; rfl
           have p12 := blk_cell hb2 2
           have f12 := blk_free hb2 2
           have hs2 : w.heap.size + 1 < w2.heap.size := by have := hk2.size; simp at this; omega
           simp at p12
           have HB2 := hid hb2
           clear hr2 hk2 hi2' e2 hb2))
      go_roundw
      case measure => simp [intOf]; omega
      case rel =>
        have hc := HC.out
        have hb := HB.out
        have hr1 := HR1.out
        have hr2 := HR2.out
        have hk1 := HK1.out
        have hk2 := HK2.out
        have hK : Keep (fun i => InA A1 i ∨ InA A2 i ∨ i = w.heap.size + 1) wr (w2.setCell ⟨w.heap.size + 1, 2, none⟩ (.slice A2' (k + 1) c2')) :=
          (((((((Keep.refl _ wr).alloc _).alloc _).then hk1 (fun i _ h => .inl h)).setCell (.inl (.inr (.inr rfl))) _).alloc _).then hk2 (fun i _ h => .inr (.inl h))).setCell (.inl (.inr (.inr rfl))) _
        have n1 : ¬ InA A1' (w.heap.size + 1) := fun h => by
          rcases HI1.out _ h with h | h
          · exact HAP1.out h
          · simp at h; omega
        have n2 : ¬ InA A2' (w.heap.size + 1) := fun h => by
          rcases HI2.out _ h with h | h
          · exact HAP2.out h
          · simp at h; omega
        have hs0 := hb.size
        have hlt1 : ∀ i, InA A1 i → i < wr.heap.size := hc.code.lt
        have hlt2 : ∀ i, InA A2 i → i < wr.heap.size := hc.spans.lt
        have r2 := cnt_sp hc hk1
        have g1 := hr1.apart2 r2 (by decide)
        refine ⟨k + 1, A1', c1', rows ++ [⟨some ⟨wr.heap.size, 0, none⟩, 2, countOps⟩], A2', c2', by omega, by go_num, ?_, ?_, ⟨?_, ?_, by simp [hc.many], ?_, ?_, ?_⟩, ?_⟩
        · rw [hK.block _ (by omega) ?_]
          · exact HB0.out
          · rintro (h | h | h)
            · exact hc.code.apart HB0.out (by decide) h
            · exact hc.spans.apart HB0.out (by decide) h
            · omega
        · rw [hp_set, if_pos rfl, HB2.out]; rfl
        · rw [List.flatMap_append, List.flatMap_cons, List.flatMap_nil, List.append_nil]
          exact (((hr1.setCell (p := ⟨w.heap.size + 1, 0, none⟩) n1 _).alloc _).through hk2 g1).setCell (p := ⟨w.heap.size + 1, 2, none⟩) n1 _
        · intro r hr
          rcases List.mem_append.1 hr with hr | hr
          · obtain ⟨a1, a2, a3⟩ := hc.each r hr
            refine ⟨a1, a2.through hK ?_, a3⟩
            rintro i hi (h | h | h)
            · exact a2.apart2 hc.code (by decide) i hi h
            · exact a2.apart2 hc.spans (by decide) i hi h
            · subst h; exact a2.apart HB1.out (by decide) hi
          · simp at hr
            subst hr
            have hnew : ((wr.alloc (Obj.cells #[.int .i64 1, .int .i64 1, .int .i64 1, .int .i64 3, .int .i64 0, .int .i64 1] 69)).alloc (Obj.cells #[.slice (some ⟨wr.heap.size, 0, none⟩) 2 2] 63)).heap[wr.heap.size]? = some (Obj.cells #[.int .i64 1, .int .i64 1, .int .i64 1, .int .i64 3, .int .i64 0, .int .i64 1] 69) := by
              rw [hp_alloc, if_neg (by simp), hp_alloc, if_pos rfl]
            have hend : (w2.setCell ⟨w.heap.size + 1, 2, none⟩ (.slice A2' (k + 1) c2')).heap[wr.heap.size]? = some (Obj.cells #[.int .i64 1, .int .i64 1, .int .i64 1, .int .i64 3, .int .i64 0, .int .i64 1] 69) := by
              rw [hp_set, if_neg (by omega), hk2.block _ (by have := hk1.size; simp at this ⊢; omega) (fun h => by have := hlt2 _ h; omega), hp_alloc, if_neg (by have := hk1.size; rw [sz_set]; simp at this; omega), hp_set, if_neg (by omega),
                hk1.block _ (by simp; omega) (fun h => by have := hlt1 _ h; omega), hnew]
            refine ⟨rfl, ⟨rfl, .inr ⟨wr.heap.size, 0, _, rfl, hend, Nat.le_refl _, by simp [maxLen], by show 0 + 2 * 3 ≤ _; simp, fun j u hu => ?_⟩⟩, fun i hi => by simp [InA] at hi; omega⟩
            simpa [countOps, Op.cells] using hu
        · have e : (countSpans (k + 1)).flatMap Span.cells = (countSpans k).flatMap Span.cells ++ Span.cells ⟨k, k + 1, k⟩ := by
            simp [countSpans, List.range_succ]
          rw [e]
          exact hr2.setCell (p := ⟨w.heap.size + 1, 2, none⟩) n2 _
        · intro i hi
          rcases HI1.out i hi with h | h
          · exact hc.new1 i h
          · simp at h; omega
        · intro i hi
          rcases HI2.out i hi with h | h
          · exact hc.new2 i h
          · have := hk1.size; simp at this h; omega
        · refine hb.trans (hK.below hs0 ?_)
          rintro i (h | h | h)
          · exact hc.new1 i h
          · exact hc.new2 i h
          · omega
    · obtain rfl : k = n := by omega
      have p11 := blk_cell HB1.out 1
      have p13 := blk_cell HB1.out 3
      have q0 := blk_cell HB0.out 0
      have q1 := blk_cell HB0.out 1
      have q2 := blk_cell HB0.out 2
      have q3 := blk_cell HB0.out 3
      have z0 := blk_free HB0.out 0
      have z1 := blk_free HB0.out 1
      have z2 := blk_free HB0.out 2
      have z3 := blk_free HB0.out 3
      simp at p11 p13 q0 q1 q2 q3
      go_wp2_with fail
      refine bodyPost_ret (v := .agg #[.slice A1 k c1, .int .i64 k, .slice A2 k c2, .slice none 0 0]) (by simp [results, Tryz.results6, go_sem, q0, q1, q2, q3]) rfl ?_
      have hb := HB.out
      refine ⟨A1, c1, rows, A2, c2, rfl, HC.out.keep fun i t cs hi ht => ?_, (((hb.setCell (by simp) _).setCell (by simp) _).setCell (by simp) _).setCell (by simp) _⟩
      have hne : i ≠ w.heap.size := by
        rintro rfl
        rw [HB0.out] at hi
        injection hi with hi
        injection hi with _ h2
        rcases ht with ht | ht | ht <;> · rw [ht] at h2; revert h2; decide
      rw [hp_set, if_neg hne, hp_set, if_neg hne, hp_set, if_neg hne, hp_set, if_neg hne]
end Go.Proofs.YtikadpfchchbpaaGreatDoor
