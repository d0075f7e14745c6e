/- Package frameref2: the contract of Sees, for every kernel of the reference. -/
import Derived.Test.YtnmbomhlonifnaaDoorRKern
import Derived.Test.YtnmbomhlonifnaaDoorSeeLaw
import Derived.Test.YtnmbomhlonifnaaDoorRunU
import Derived.Deep.DeepCutAuto
namespace Go.Proofs.YtnmbomhlonifnaaDoor
open Go.RowKit
set_option maxRecDepth 100000
attribute [local go_sem ↓] Go.wp_at_zero Go.wp_at_succ

theorem Tryd.infoHeld3 : (Tryd.prog.info? 130).map (fun i => (i.zero, i.size, i.bytes)) = some (some (.agg #[.slice none 0 0, .int .i64 0]), 2, 32) := by kernel_rfl
theorem sl_held1 {w3 : World} {A : Option Addr} {n c : Nat} {l : Int} : Sl (w3.alloc (.cells #[.slice A n c, .int .i64 l] 130)) (some ⟨w3.heap.size, 0, none⟩) 2 1 [.slice A n c, .int .i64 l] := by
  have h := heap_alloc_new w3 (.cells #[.slice A n c, .int .i64 l] 130)
  refine ⟨rfl, fun _ => ⟨_, 0, rfl, blk_lt h, fun j u hu => ?_⟩⟩
  rw [Nat.zero_add, blk_cell h]
  simpa using hu
/-- What a room sees, as it lies in the kernel's own lines. -/
def RSeen (w : World) (vals : List (List Int × Int)) (e : Ending) (w' : World) : Prop :=
  ∃ A n c hs, e = .returned (.slice A n c) ∧ HeldsIn w' A n c hs ∧ hs.map Hm.val = vals ∧ Below w.heap.size w w'
structure SeesAt (w wr : World) (r : Int) (l : List Ln) (i : Nat) (A : Option Addr) (n c : Nat) (hs : List Hm) : Prop where
  grow : Grow w wr 130 2 A n c (hs.flatMap Hm.cells)
  each : ∀ h ∈ hs, Row w 3 1 h.A h.items.length h.c (ints h.items) ∧ h.items.length ≤ 6
  val : hs.map Hm.val = seen r (l.take i)
section
variable {w wr w3 w4 : World} {r : Int} {l : List Ln} {i n c c' : Nat} {A A' : Option Addr} {hs : List Hm} {x : Ln}
theorem SeesAt.skip (h : SeesAt w wr r l i A n c hs) (hx : l[i]? = some x) (ht : touches r x = false) : SeesAt w wr r l (i + 1) A n c hs := by
  obtain ⟨hi, rfl⟩ := List.getElem?_eq_some_iff.1 hx
  refine ⟨h.grow, h.each, ?_⟩
  rw [h.val, List.take_succ_eq_append_getElem hi, seen_snoc, ht]; simp
theorem SeesAt.more (h : SeesAt w wr r l i A n c hs) (hx : l[i]? = some x) (ht : touches r x = true) {g : Hm} (hg : g.val = (x.items, x.lost)) (h1 : Row w 3 1 g.A g.items.length g.c (ints g.items)) (h6 : g.items.length ≤ 6) {o : Obj}
    (hr : Row w4 130 2 A' (n + 1) c' (hs.flatMap Hm.cells ++ g.cells)) (hk : Keep (InA A) (wr.alloc o) w4) (hn : ∀ j, InA A' j → InA A j ∨ (wr.alloc o).heap.size ≤ j) : SeesAt w w4 r l (i + 1) A' (n + 1) c' (hs ++ [g]) := by
  obtain ⟨hi, rfl⟩ := List.getElem?_eq_some_iff.1 hx
  refine ⟨?_, fun q hq => ?_, ?_⟩
  · have := h.grow.more ((Below.refl _ _).alloc (Nat.le_refl _) o) hr hk hn
    simpa using this
  · rcases List.mem_append.1 hq with hq | hq
    · exact h.each q hq
    · simp at hq; subst hq; exact ⟨h1, h6⟩
  · rw [List.map_append, h.val, List.take_succ_eq_append_getElem hi, seen_snoc, ht, if_pos rfl]; simp [hg]
end
set_option maxHeartbeats 4000000 in
theorem rsees_any (w : World) (kb : Nat) (M : KM) (k : Kst) (p : Pl) (B : Int) (r : Int) (hk : KOk p k B) (hn : k.lines.length ≤ 12)
    (hka : KAt 67 132 128 w kb M k) :
    Calls Tryd.prog 41 #[.pointer (some ⟨kb, 0, none⟩), .int .i64 r] w (RSeen w (seen r k.lines)) := by
  obtain ⟨_, _, _, _, k5, _, _, hkb⟩ := hka.cells
  have hple := hka.ptrs.le
  have HL : Hid (∀ (i : Nat) (x : Ln), k.lines[i]? = some x → ∃ (a : LM) (b off cap : Nat), M.lA = some ⟨b, off, none⟩ ∧ b < w.heap.size ∧ w.cell? ⟨b, off + i, none⟩ = some (.pointer (some ⟨a.b, 0, none⟩)) ∧ a.b < w.heap.size ∧ (w.cell? ⟨a.b, 0, none⟩ = some (.int .i64 x.w.fr) ∧ w.cell? ⟨a.b, 1, none⟩ = some (.int .i64 x.w.to) ∧ w.cell? ⟨a.b, 4, none⟩ = some (.slice a.A x.items.length cap) ∧ w.cell? ⟨a.b, 5, none⟩ = some (.int .i64 x.lost)) ∧ Row w 3 1 a.A x.items.length cap (ints x.items) ∧ x.items.length ≤ 6) := fun i x hx => by
    obtain ⟨a, b, off, _, hA, hp, ⟨cap, hl, hr⟩, _, hb⟩ := hka.line hx
    exact ⟨a, b, off, cap, hA, hb, hp, blk_lt hl, ⟨blk_cell hl 0, blk_cell hl 1, blk_cell hl 4, blk_cell hl 5⟩, hr, (hk.lns x (List.mem_of_getElem? hx)).six⟩
  have K5 := hid k5
  obtain ⟨nl, hnl⟩ : ∃ nl, k.lines.length = nl := ⟨_, rfl⟩
  rw [hnl] at K5 hple hn
  have HNL := hid hnl
  obtain ⟨hp1, hp2⟩ := hple
  unfold maxLen at hp2
  obtain ⟨i0, hi, hz0, hz1, hz2⟩ := info_parts Tryd.infoHeld3
  clear hka hk k5 hnl
  go_enter Tryd.func41, Tryd.ntmps41
  go_wp2_with fail
  go_loopw [6, 5] (fun v6 v5 wr => ∃ (i : Nat) (A : Option Addr) (n c : Nat) (hs : List Hm), i ≤ nl ∧ n ≤ i ∧ v6 = .int .i64 i ∧ v5 = .slice A n c ∧ SeesAt w wr r k.lines i A n c hs) (fun v6 _ _ => nl - (intOf v6).toNat)
  case atStart => exact ⟨0, none, 0, 0, [], by omega, by omega, rfl, rfl, ⟨Grow.nil (Below.refl _ _), fun h hh => by simp at hh, rfl⟩⟩
  case round =>
    obtain ⟨wt, rfl⟩ : ∃ wt : World, wt = wr := ⟨_, rfl⟩
    obtain ⟨i, A, n, c, hs, hil, hni, rfl, rfl, hat⟩ := hrel
    have HAT := hid hat
    have k5 := (hat.grow.below.cell (p := ⟨kb, 5, none⟩) hkb).trans K5.out
    have hlt5 := cell_lt k5
    clear hat
    by_cases hin : i < nl
    · have hx := List.getElem?_eq_getElem (l := k.lines) (i := i) (by rw [HNL.out]; exact hin)
      generalize k.lines[i]'(by rw [HNL.out]; exact hin) = x at hx
      obtain ⟨a, b, off, cap, hA, hb, hp, hab, ⟨x0, x1, x4, x5⟩, hr, h6⟩ := HL.out i x hx
      have kc : ∀ j, wt.cell? ⟨a.b, j, none⟩ = w.cell? ⟨a.b, j, none⟩ := fun j => HAT.out.grow.below.cell (p := ⟨a.b, j, none⟩) hab
      have lp := (HAT.out.grow.below.cell (p := ⟨b, off + i, none⟩) hb).trans hp
      have y0 := (kc 0).trans x0
      have y1 := (kc 1).trans x1
      have y4 := (kc 4).trans x4
      have y5 := (kc 5).trans x5
      have hlb := cell_lt lp
      have hla := cell_lt y0
      rw [hA] at k5
      have HX := hid hx
      have HR := hid hr
      have H6 := hid h6
      have HTC : Hid (touches r x = decide (x.w.fr = r ∨ x.w.to = r)) := rfl
      obtain ⟨q, hq⟩ : ∃ q, q = x.items.length := ⟨_, rfl⟩
      rw [← hq] at y4
      have HQ := hid hq
      clear hx hr h6 kc hA x0 x1 x4 x5 hq hb hp hab
      by_cases ht : x.w.fr = r ∨ x.w.to = r
      · have htt : touches r x = true := by rw [HTC.out]; exact decide_eq_true ht
        have HT := hid htt
        go_upto_region 5 with fail
        go_cut [43] (fun v43 wx => v43 = .bool true ∧ wx = wt)
        case first =>
          by_cases e0 : x.w.fr = r
          · have e1 : (x.w.fr == r) = true := by simpa using e0
            clear ht htt
            go_wp2_with fail
            go_meet
            exact ⟨rfl, rfl⟩
          · have e1 : (x.w.fr == r) = false := by simpa using e0
            have e2 : (x.w.to == r) = true := by simpa using ht.resolve_left e0
            clear ht htt
            go_wp2_with fail
            go_meet
            exact ⟨rfl, rfl⟩
        obtain ⟨rfl, rfl⟩ := hcut
        obtain ⟨wt, rfl⟩ : ∃ wt : World, wt = wc := ⟨_, rfl⟩
        clear ht htt y0 y1
        go_wp2_with (at_builtin; refine wpList_append_row _ rfl _ _ 94 rfl 130 i0 _ 2 32 Tryd.underlying94 hi hz0 hz1 hz2 rfl (by decide) A n c (hs.flatMap Hm.cells) rfl ?c0 (some ⟨wt.heap.size, 0, none⟩) 1 1 [.slice a.A q cap, .int .i64 x.lost] rfl ?c1 ?c2 ?c3 ?c4 ?_)
        case c0 => exact HAT.out.grow.row.alloc _
        case c1 => exact sl_held1
        case c2 => exact fun u hu => by simp at hu; rcases hu with rfl | rfl <;> rfl
        case c3 => unfold maxLen; omega
        case c4 => omega
        intro A' cap' w4 hrow4 hkeep4 hin4
        have hg4 : SeesAt w w4 r k.lines (i + 1) A' (n + 1) cap' (hs ++ [⟨a.A, cap, x.items, x.lost⟩]) := by
          rw [HQ.out] at hrow4 hkeep4
          exact HAT.out.more HX.out HT.out rfl HR.out H6.out hrow4 hkeep4 (fun j hj => (hin4 j hj).imp_right fun h => by rw [sz_alloc]; exact h)
        have HG := hid hg4
        clear hrow4 hkeep4 hin4 hg4 y4 y5 lp k5
        go_wp2_with fail
        go_roundw
        case rel => exact ⟨i + 1, A', n + 1, cap', _, by omega, by omega, by go_num, rfl, HG.out⟩
        case measure => simp [intOf]; omega
      · have htt : touches r x = false := by rw [HTC.out]; exact decide_eq_false ht
        have HT := hid htt
        have e1 : (x.w.fr == r) = false := by simpa using fun h => ht (.inl h)
        have e2 : (x.w.to == r) = false := by simpa using fun h => ht (.inr h)
        clear ht htt
        go_wp2_with fail
        go_roundw
        case rel => exact ⟨i + 1, A, n, c, hs, by omega, by omega, by go_num, rfl, HAT.out.skip HX.out HT.out⟩
        case measure => simp [intOf]; omega
    · obtain rfl : nl = i := by omega
      have hv : seen r (k.lines.take nl) = seen r k.lines := by rw [List.take_of_length_le (by rw [HNL.out]; exact Nat.le_refl _)]
      have HV := hid hv
      clear hv
      go_wp2_with fail
      go_ret
      exact ⟨A, n, c, hs, rfl, ⟨HAT.out.grow.row, fun h hh => ⟨(HAT.out.each h hh).1.new HAT.out.grow.below, (HAT.out.each h hh).2⟩⟩, HAT.out.val.trans HV.out, HAT.out.grow.below⟩
end Go.Proofs.YtnmbomhlonifnaaDoor
