/- Package sway: the contract of All; rows of flags in new memory. -/
import Derived.Test.YtnmbomhlonifnaaDoorSwayW
import Derived.Test.YtnmbomhlonifnaaDoorRunU
namespace Go.Proofs.YtnmbomhlonifnaaDoor
open Go.RowKit
set_option maxRecDepth 100000

theorem Tryd.infoBool : (Tryd.prog.info? 4).map (fun i => (i.zero, i.size, i.bytes)) = some (some (.bool false), 1, 1) := by kernel_rfl
theorem Tryd.infoBools : (Tryd.prog.info? 72).map (fun i => (i.zero, i.size, i.bytes)) = some (some (.slice none 0 0), 1, 24) := by kernel_rfl
def flagVs (l : List Bool) : List Value := l.map .bool
theorem flagVs_len (l : List Bool) : (flagVs l).length = l.length := by simp [flagVs]
/-- A row of flags, as it lies. -/
structure Bm where
  A : Option Addr
  c : Nat
  l : List Bool
def Bm.cells (h : Bm) : List Value := [.slice h.A h.l.length h.c]
structure FlagsAt (w wr : World) (A : Option Addr) (n c : Nat) (hs : List Bm) : Prop where
  grow : Grow w wr 72 1 A n c (hs.flatMap Bm.cells)
  each : ∀ h ∈ hs, Row wr 4 1 h.A h.l.length h.c (flagVs h.l) ∧ h.l.length ≤ 5 ∧ ∀ j, InA h.A j → w.heap.size ≤ j
section
variable {w wr w2 w3 w4 : World} {n c c' : Nat} {A A' : Option Addr} {hs : List Bm} {h1 : Bm}
theorem FlagsAt.nil (h : Below w.heap.size w wr) : FlagsAt w wr none 0 0 [] := ⟨Grow.nil h, fun h hh => by simp at hh⟩
theorem FlagsAt.base {w0 : World} (h : FlagsAt w wr A n c hs) (hb : Below w0.heap.size w0 w) : FlagsAt w0 wr A n c hs :=
  ⟨⟨h.grow.row, fun j hj => Nat.le_trans hb.size (h.grow.fresh j hj), hb.trans (h.grow.below.mono hb.size)⟩, fun g hg => ⟨(h.each g hg).1, (h.each g hg).2.1, fun j hj => Nat.le_trans hb.size ((h.each g hg).2.2 j hj)⟩⟩
theorem FlagsAt.new (h : FlagsAt w wr A n c hs) (hb : Below wr.heap.size wr w3) : FlagsAt w w3 A n c hs := ⟨h.grow.new hb, fun g hg => ⟨(h.each g hg).1.new hb, (h.each g hg).2⟩⟩
theorem FlagsAt.more (h : FlagsAt w wr A n c hs) (h2 : Below wr.heap.size wr w2) (hx : Row w2 4 1 h1.A h1.l.length h1.c (flagVs h1.l)) (h6 : h1.l.length ≤ 5) (hf : ∀ j, InA h1.A j → wr.heap.size ≤ j) (h3 : Below w2.heap.size w2 w3)
    (hr : Row w4 72 1 A' (n + 1) c' (hs.flatMap Bm.cells ++ h1.cells)) (hk : Keep (InA A) w3 w4) (hn : ∀ j, InA A' j → InA A j ∨ w3.heap.size ≤ j) : FlagsAt w w4 A' (n + 1) c' (hs ++ [h1]) := by
  have s1 := h.grow.below.size
  have s2 := h2.size
  have s3 := h3.size
  have h23 : Below wr.heap.size wr w3 := h2.trans (h3.mono s2)
  have hrow3 : Row w3 72 1 A n c (hs.flatMap Bm.cells) := h.grow.row.new h23
  have keep : ∀ g : Bm, Row w3 4 1 g.A g.l.length g.c (flagVs g.l) → Row w4 4 1 g.A g.l.length g.c (flagVs g.l) := fun g hg => hg.through hk (hg.apart2 hrow3 (by decide))
  refine ⟨?_, fun g hg => ?_⟩
  · have := h.grow.more h23 hr hk hn
    simpa using this
  · rcases List.mem_append.1 hg with hg | hg
    · obtain ⟨a, b, c⟩ := h.each g hg
      exact ⟨keep g (a.new h23), b, c⟩
    · simp at hg; subst hg
      exact ⟨keep g (hx.new h3), h6, fun j hj => by have := hf j hj; omega⟩
/-- One of the rows, and a flag of it. -/
theorem FlagsAt.get (h : FlagsAt w wr A n c hs) {i : Nat} {g : Bm} (hg : hs[i]? = some g) :
    ∃ b off, A = some ⟨b, off, none⟩ ∧ b < wr.heap.size ∧ n ≤ c ∧ c ≤ maxLen ∧ i < n ∧ wr.cell? ⟨b, off + i, none⟩ = some (.slice g.A g.l.length g.c) := by
  obtain ⟨b, off, cur, hA, hh, hsz, hi, hnc, hcm, hx⟩ := h.grow.row.elem Bm.cells (fun _ => rfl) (by decide) hg
  have h0 := hx 0 _ rfl
  rw [Nat.mul_one, Nat.add_zero] at h0
  exact ⟨b, off, hA, blk_lt hh, hnc, hcm, hi, (blk_cell hh _).trans h0⟩
theorem FlagsAt.flag (h : FlagsAt w wr A n c hs) {i j : Nat} {g : Bm} {f : Bool} (hg : hs[i]? = some g) (hf : g.l[j]? = some f) :
    ∃ b off, g.A = some ⟨b, off, none⟩ ∧ b < wr.heap.size ∧ j < g.l.length ∧ g.l.length ≤ g.c ∧ g.c ≤ maxLen ∧ wr.cell? ⟨b, off + j, none⟩ = some (.bool f) := by
  have hr := (h.each g (List.mem_of_getElem? hg)).1
  have hl := (List.getElem?_eq_some_iff.1 hf).1
  obtain ⟨b, off, hA, hb, hx⟩ := hr.sl.2 (by omega)
  exact ⟨b, off, hA, hb, hl, hr.le.1, hr.le.2, hx j _ (by simp [flagVs, List.getElem?_map, hf])⟩
end
noncomputable def allRow (p : Pl) (c v : Int) (ticks a n : Nat) : List Bool := (List.range n).map fun b => decide (0 ≤ sinceOf p a c v b ticks)
noncomputable def allRows (p : Pl) (c v : Int) (ticks n : Nat) : List (List Bool) := (List.range n).map fun a => allRow p c v ticks a p.code.length
theorem allRow_succ (p : Pl) (c v : Int) (ticks a n : Nat) : allRow p c v ticks a (n + 1) = allRow p c v ticks a n ++ [decide (0 ≤ sinceOf p a c v n ticks)] := by simp [allRow, List.range_succ]
theorem allRows_succ (p : Pl) (c v : Int) (ticks n : Nat) : allRows p c v ticks (n + 1) = allRows p c v ticks n ++ [allRow p c v ticks n p.code.length] := by simp [allRows, List.range_succ]
theorem allRow_len (p : Pl) (c v : Int) (ticks a n : Nat) : (allRow p c v ticks a n).length = n := by simp [allRow]
/-- What All answers. -/
def AllV (w : World) (p : Pl) (c v ticks : Int) (e : Ending) (w' : World) : Prop :=
  (swayE p 0 c v 0 ticks ≠ 0 ∧ e = .returned (.tuple #[.slice none 0 0, errV (swayE p 0 c v 0 ticks)]) ∧ Below w.heap.size w w') ∨
  (swayE p 0 c v 0 ticks = 0 ∧ ∃ A n k hs, e = .returned (.tuple #[.slice A n k, .nilIface]) ∧ n = p.code.length ∧ FlagsAt w w' A n k hs ∧ hs.map Bm.l = allRows p c v ticks.toNat p.code.length)
/-- Midway in a row. -/
structure AllRow (wo wr : World) (p : Pl) (c v : Int) (ticks a b : Nat) (A : Option Addr) (k : Nat) : Prop where
  grow : Grow wo wr 4 1 A b k (flagVs (allRow p c v ticks a b))
set_option maxHeartbeats 4000000 in
theorem swayAll_any (w : World) (m : PM) (c v ticks : Int) (hf : Forms w) (hm : PlanAt w m) :
    Calls Tryd.prog 25 #[.agg #[.slice m.A m.ros.length m.c, .int .i64 m.ticks, .slice m.sA m.spans.length m.sc, .slice m.wA m.wires.length m.wc], .int .i64 c, .int .i64 v, .int .i64 ticks] w (AllV w m.pl c v ticks) := by
  obtain ⟨Q, hQ⟩ : ∃ Q, Q = AllV w m.pl c v ticks := ⟨_, rfl⟩
  rw [← hQ]
  have HQ := hid hQ
  clear hQ
  have HSI : Hid (∀ w' a b, Below w.heap.size w w' → Calls Tryd.prog 27 #[.agg #[.slice m.A m.ros.length m.c, .int .i64 m.ticks, .slice m.sA m.spans.length m.sc, .slice m.wA m.wires.length m.wc], .int .i64 a, .int .i64 c, .int .i64 v, .int .i64 b, .int .i64 ticks] w' (SinceV w' (swayV m.pl a c v b ticks) (swayE m.pl a c v b ticks))) := fun w' a b hb => swaySince_any w' m a c v b ticks (hf.new hb) (hm.new hb)
  have hlen : m.pl.code.length = m.ros.length := by simp [PM.pl]
  generalize m.pl = p at HQ HSI hlen
  obtain ⟨nn, hnn⟩ : ∃ nn, nn = m.ros.length := ⟨_, rfl⟩
  obtain ⟨ns, hns⟩ : ∃ ns, ns = m.spans.length := ⟨_, rfl⟩
  obtain ⟨nw, hnw⟩ : ∃ nw, nw = m.wires.length := ⟨_, rfl⟩
  rw [← hnn] at hlen
  rw [← hnn, ← hns, ← hnw] at HSI ⊢
  obtain ⟨w1, hw1⟩ : ∃ w1, w1 = w.alloc (.cells #[.slice m.A nn m.c, .int .i64 m.ticks, .slice m.sA ns m.sc, .slice m.wA nw m.wc] 31) := ⟨_, rfl⟩
  have hb1 : Below w.heap.size w w1 := by rw [hw1]; exact (Below.refl _ _).alloc (Nat.le_refl _) _
  have hbox : w1.heap[w.heap.size]? = some (.cells #[.slice m.A nn m.c, .int .i64 m.ticks, .slice m.sA ns m.sc, .slice m.wA nw m.wc] 31 (0, 0)) := by rw [hw1]; exact heap_alloc_new w _
  have HB1 := hid hb1
  have HBX := hid hbox
  have HLEN := hid hlen
  have x0 := blk_cell hbox 0
  have x1 := blk_cell hbox 1
  have x2 := blk_cell hbox 2
  have x3 := blk_cell hbox 3
  have hlt := blk_lt hbox
  simp at x0 x1 x2 x3
  clear hb1 hbox hm hf hnn hns hnw hlen
  go_enter Tryd.func25, Tryd.ntmps25
  go_wp2_with fail
  rw [← hw1]
  by_cases he : swayE p 0 c v 0 ticks = 0
  · have hs0 := HSI.out w1 0 0 HB1.out
    unfold SinceV at hs0
    rw [he, errV_zero] at hs0
    have HE := hid he
    clear he
    refine hs0.mono ?_
    clear hs0
    rintro e w2 ⟨rfl, hb2⟩
    have hbx := (hb2.block _ hlt).trans HBX.out
    have HB2 := hid (HB1.out.trans (hb2.mono HB1.out.size))
    have HBX2 := hid hbx
    clear hb2 x0 x1 x2 x3 hlt hw1
    have x0 := blk_cell hbx 0
    have x1 := blk_cell hbx 1
    have x2 := blk_cell hbx 2
    have x3 := blk_cell hbx 3
    have hlt := blk_lt hbx
    simp at x0 x1 x2 x3
    clear hbx
    obtain ⟨hE1, hE2, hE3, hE4, hE5, hE6⟩ := swayE_zero HE.out
    obtain ⟨T, rfl⟩ : ∃ T : Nat, ticks = T := ⟨ticks.toNat, by omega⟩
    have hn5 : nn ≤ 5 := by have := (planChk_ok hE1).most5; rw [HLEN.out] at this; exact this
    have HALL : Hid (∀ a b : Nat, a < nn → b < nn → swayE p a c v b T = 0) := fun a b ha hb => by
      refine swayE_of hE1 ?_ ⟨by omega, by rw [HLEN.out]; omega, hE5, hE6⟩
      have h2 : 0 ≤ (0 : Int) ∧ (0 : Int) < p.code.length ∧ 0 ≤ c ∧ c < 6 ∧ 0 ≤ v ∧ v < 1000 := by simpa [pokeOk] using hE2
      unfold pokeOk
      exact decide_eq_true ⟨by omega, by rw [HLEN.out]; omega, h2.2.2⟩
    have HSN : Hid (∀ (w' : World) (a b : Nat), Below w.heap.size w w' → a < nn → b < nn → Calls Tryd.prog 27 #[.agg #[.slice m.A nn m.c, .int .i64 m.ticks, .slice m.sA ns m.sc, .slice m.wA nw m.wc], .int .i64 a, .int .i64 c, .int .i64 v, .int .i64 b, .int .i64 T] w' fun e w'' => e = .returned (.tuple #[.int .i64 (sinceOf p a c v b T), .nilIface]) ∧ Below w'.heap.size w' w'') := fun w' a b hb ha hb' => by
      have h := HSI.out w' a b hb
      unfold SinceV at h
      rw [HALL.out a b ha hb', errV_zero, swayV_nat (HALL.out a b ha hb')] at h
      exact h
    clear hE1 hE2 hE3 hE4 hE5 hE6 HSI
    obtain ⟨ib, hib, hzb0, hzb1, hzb2⟩ := info_parts Tryd.infoBool
    obtain ⟨is, his, hzs0, hzs1, hzs2⟩ := info_parts Tryd.infoBools
    go_wp2_with fail
    go_loopw [32, 12] (fun v32 v12 wr => ∃ (a : Nat) (A : Option Addr) (k : Nat) (hs : List Bm), a ≤ nn ∧ v32 = .int .i64 a ∧ v12 = .slice A a k ∧ FlagsAt w2 wr A a k hs ∧ hs.map Bm.l = allRows p c v T a) (fun v32 _ _ => nn - (intOf v32).toNat)
    case atStart => exact ⟨0, none, 0, [], by omega, rfl, rfl, FlagsAt.nil (Below.refl _ _), rfl⟩
    case round =>
      obtain ⟨wo, rfl⟩ : ∃ wo : World, wo = wr := ⟨_, rfl⟩
      obtain ⟨a, A, k, hs, hal, rfl, rfl, hfl, hmap⟩ := hrel
      have HFL := hid hfl
      have HMAP := hid hmap
      have hbx := (hfl.grow.below.block _ (blk_lt HBX2.out)).trans HBX2.out
      have HBXO := hid hbx
      clear hfl hmap x0 x1 x2 x3 hlt
      have x0 := blk_cell hbx 0
      have x1 := blk_cell hbx 1
      have x2 := blk_cell hbx 2
      have x3 := blk_cell hbx 3
      have hlt := blk_lt hbx
      simp at x0 x1 x2 x3
      clear hbx
      by_cases han : a < nn
      · go_wp2_with fail
        go_loopw [38, 14] (fun v38 v14 wr => ∃ (b : Nat) (A' : Option Addr) (k' : Nat), b ≤ nn ∧ v38 = .int .i64 b ∧ v14 = .slice A' b k' ∧ AllRow wo wr p c v T a b A' k') (fun v38 _ _ => nn - (intOf v38).toNat)
        case atStart => exact ⟨0, none, 0, by omega, rfl, rfl, ⟨Grow.nil (Below.refl _ _)⟩⟩
        case round =>
          obtain ⟨wi, rfl⟩ : ∃ wi : World, wi = wr := ⟨_, rfl⟩
          obtain ⟨b, A', k', hbl, rfl, rfl, hrw⟩ := hrel
          have HRW := hid hrw
          have hbx := (hrw.grow.below.block _ hlt).trans HBXO.out
          clear hrw x0 x1 x2 x3 hlt
          have HBWI := hid (HB2.out.trans ((HFL.out.grow.below.trans (HRW.out.grow.below.mono HFL.out.grow.below.size)).mono HB2.out.size))
          have x0 := blk_cell hbx 0
          have x1 := blk_cell hbx 1
          have x2 := blk_cell hbx 2
          have x3 := blk_cell hbx 3
          have hlt := blk_lt hbx
          simp at x0 x1 x2 x3
          clear hbx
          by_cases hbn : b < nn
          · go_wp2_with fail
            refine (HSN.out wi a b HBWI.out han hbn).mono ?_
            rintro e w5 ⟨rfl, hb5⟩
            have HB5 := hid hb5
            clear hb5 x0 x1 x2 x3 hlt
            go_wp2_with (at_builtin; refine wpList_append_row _ rfl _ _ 72 rfl 4 ib _ 1 1 Tryd.underlying72 hib hzb0 hzb1 hzb2 rfl (by decide) A' b k' (flagVs (allRow p c v T a b)) rfl ?c0 (some ⟨w5.heap.size, 0, none⟩) 1 1 (flagVs [decide (0 ≤ sinceOf p a c v b T)]) rfl ?c1 ?c2 ?c3 ?c4 ?_)
            case c0 => exact HRW.out.grow.row.new (HB5.out.alloc HB5.out.size _)
            case c1 => exact sl_blk (heap_alloc_new w5 _) 1 1 _ rfl rfl
            case c2 => exact fun u hu => by simp [flagVs] at hu; subst hu; rfl
            case c3 => unfold maxLen; omega
            case c4 => omega
            intro A2 k2 w6 hr6 hk6 hn6
            have HG := hid (HRW.out.grow.more (HB5.out.alloc HB5.out.size _) hr6 hk6 fun j hj => (hn6 j hj).imp_right fun h => by simp at h ⊢; omega)
            clear hr6 hk6 hn6
            go_wp2_with fail
            go_roundw
            case rel =>
              refine ⟨b + 1, A2, k2, by omega, by go_num, rfl, ⟨?_⟩⟩
              rw [allRow_succ]
              have := HG.out
              simpa [flagVs] using this
            case measure => simp [intOf]; omega
          · obtain rfl : b = nn := by omega
            go_wp2_with (at_builtin; refine wpList_append_row _ rfl _ _ 68 rfl 72 is _ 1 24 Tryd.underlying68 his hzs0 hzs1 hzs2 rfl (by decide) A a k (hs.flatMap Bm.cells) rfl ?c0 (some ⟨wi.heap.size, 0, none⟩) 1 1 [.slice A' b k'] rfl ?c1 ?c2 ?c3 ?c4 ?_)
            case c0 => exact HFL.out.grow.row.new (HRW.out.grow.below.alloc HRW.out.grow.below.size _)
            case c1 => exact sl_blk (heap_alloc_new wi _) 1 1 _ rfl rfl
            case c2 => exact fun u hu => by simp at hu; subst hu; rfl
            case c3 => unfold maxLen; omega
            case c4 => omega
            intro A2 k2 w6 hr6 hk6 hn6
            have hlr : (allRow p c v T a b).length = b := allRow_len _ _ _ _ _ _
            have hmore := HFL.out.more (h1 := ⟨A', k', allRow p c v T a b⟩) HRW.out.grow.below (by simp only [hlr]; exact HRW.out.grow.row) (by simp only [hlr]; exact hn5) HRW.out.grow.fresh ((Below.refl _ _).alloc (Nat.le_refl _) _) (by simp only [Bm.cells, hlr]; exact hr6) hk6 fun j hj => by have := hn6 j hj; simpa using this
            have HMO := hid hmore
            clear hmore hr6 hk6 hn6 x0 x1 x2 x3 hlt
            go_wp2_with fail
            go_roundw
            case rel => exact ⟨a + 1, A2, k2, hs ++ [⟨A', k', allRow p c v T a b⟩], by omega, by go_num, rfl, HMO.out, by rw [List.map_append, HMAP.out, allRows_succ, HLEN.out]; rfl⟩
            case measure => simp [intOf]; omega
      · obtain rfl : a = nn := by omega
        go_wp2_with fail
        (first | go_ret2 | skip)
        rw [HQ.out]
        exact .inr ⟨HE.out, A, a, k, hs, rfl, HLEN.out.symm, HFL.out.base HB2.out, by rw [HMAP.out, HLEN.out, Int.toNat_natCast]⟩
  · have hs0 := HSI.out w1 0 0 HB1.out
    unfold SinceV at hs0
    have HE := hid he
    rw [errV_pos he] at hs0
    clear he
    refine hs0.mono ?_
    rintro e w2 ⟨rfl, hb2⟩
    have HB2 := hid hb2
    clear hb2 x0 x1 x2 x3 hlt hw1
    go_wp2_with fail
    (first | go_ret2 | skip)
    rw [HQ.out]
    exact .inl ⟨HE.out, by rw [errV_pos HE.out]; rfl, HB1.out.trans (HB2.out.mono HB1.out.size)⟩
end Go.Proofs.YtnmbomhlonifnaaDoor
