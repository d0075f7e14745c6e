/- Package frameref2: the contract of Purge, for plans that are right. -/
import Derived.Test.YtongkiccglaniaaDoorKLawU
import Derived.Test.YtongkiccglaniaaDoorRWays
import Derived.Test.YtongkiccglaniaaDoorWaysU
import Derived.Test.YtongkiccglaniaaDoorPlanMem
import Derived.Test.YtongkiccglaniaaDoorPlanU
import Derived.Test.YtongkiccglaniaaDoorOwnU
import Derived.Test.YtongkiccglaniaaDoorRunU
import Derived.Test.YtongkiccglaniaaDoorCounting
import Derived.Test.YtongkiccglaniaaDoorRDoW
namespace Go.Proofs.YtongkiccglaniaaDoor
open Go.RowKit
set_option maxRecDepth 100000

/-- Midway: of k rooms it is decided. -/
structure RgMid (w wr : World) (m : PM) (room b5 b6 : Nat) (A : Option Addr) (c : Nat) (rs : List Ro) (k : Nat) : Prop where
  box : wr.heap[w.heap.size]? = some (.cells #[.slice m.A m.ros.length m.c, .int .i64 m.ticks, .slice m.sA m.spans.length m.sc, .slice m.wA m.wires.length m.wc] 31 (0, 0))
  out : wr.heap[w.heap.size + 1]? = some (.cells #[.slice none 0 0, .int .i64 0, .slice none 0 0, .slice none 0 0] 31 (0, 0))
  wy : wr.heap[b5]? = some (.cells (waysV m.wires) 161 (0, 0))
  q : wr.heap[b6]? = some (.cells #[.slice A k c, .int .i64 m.ticks, .slice m.sA m.spans.length m.sc, .slice m.wA m.wires.length m.wc] 31 (0, 0))
  row : Row wr 46 1 A k c (rs.flatMap Ro.cells)
  len : rs.length = k
  ops : ∀ (i : Nat) (r : Ro), rs[i]? = some r → ∃ r0, m.ros[i]? = some r0 ∧ r.ops = purgeRow m.wires room i r0.ops
  codes : ∀ r ∈ rs, r.At wr
  apart : ∀ r ∈ rs, ∀ j, 0 < r.ops.length → InA r.A j → j < w.heap.size ∨ (w.heap.size + 1 < j ∧ j ≠ b6 ∧ ¬ InA A j)
  nA : ∀ j, InA A j → w.heap.size + 1 < j
  src : ∀ r ∈ rs, ∀ j, 0 < r.ops.length → InA r.A j → j < w.heap.size → planF m j
  n6 : w.heap.size + 1 < b6
  below : Below w.heap.size w wr
section
variable {w wr wx w1 : World} {m : PM} {room b5 b6 c c' k : Nat} {A A' : Option Addr} {rs : List Ro} {x : Ro}
theorem RgMid.add (h : RgMid w wr m room b5 b6 A c rs k) (hb : Below wr.heap.size wr wx) (hx : x.At wx) (hxa : ∀ j, 0 < x.ops.length → InA x.A j → j < w.heap.size ∨ wr.heap.size ≤ j) (hxs : ∀ j, 0 < x.ops.length → InA x.A j → j < w.heap.size → planF m j)
    (hr1 : Row w1 46 1 A' (k + 1) c' (rs.flatMap Ro.cells ++ x.cells)) (hk1 : Keep (InA A) wx w1) (hi1 : ∀ j, InA A' j → InA A j ∨ wx.heap.size ≤ j)
    (hx0 : ∃ r0, m.ros[k]? = some r0 ∧ x.ops = purgeRow m.wires room k r0.ops) : RgMid w (w1.setCell ⟨b6, 0, none⟩ (.slice A' (k + 1) c')) m room b5 b6 A' c' (rs ++ [x]) (k + 1) := by
  have l6 := blk_lt h.q
  have s1 := hb.size
  have s2 := hk1.size
  have a0 := h.row.apart h.box (by decide)
  have a1 := h.row.apart h.out (by decide)
  have a5 := h.row.apart h.wy (by decide)
  have a6 := h.row.apart h.q (by decide)
  have n6 := h.n6
  have hlA := h.row.lt
  have hK : Keep (fun j => InA A j ∨ j = b6) wr (w1.setCell ⟨b6, 0, none⟩ (.slice A' (k + 1) c')) :=
    ((Keep.of_below (fun j => InA A j ∨ j = b6) hb).then hk1 fun j _ hA => .inl hA).setCell (.inl (.inr rfl)) _
  have nA' : ∀ b, b < wr.heap.size → ¬ InA A b → ¬ InA A' b := fun b hl hn hA => by
    rcases hi1 b hA with h1 | h1
    · exact hn h1
    · omega
  have far : ∀ b o, wr.heap[b]? = some o → ¬ InA A b → b ≠ b6 → (w1.setCell ⟨b6, 0, none⟩ (.slice A' (k + 1) c')).heap[b]? = some o := fun b o hb1 hn1 hn2 =>
    (hK.block b (blk_lt hb1) (by rintro (h1 | h1); exact hn1 h1; exact hn2 h1)).trans hb1
  obtain ⟨r0, hr0, hrx⟩ := hx0
  have l5 : b5 ≠ b6 := fun e => by
    have h5 := h.wy
    rw [e, h.q] at h5
    injection h5 with h5
    injection h5 with _ h6
    revert h6
    decide
  refine ⟨far _ _ h.box a0 (by omega), far _ _ h.out a1 (by omega), far _ _ h.wy a5 l5, ?_, ?_, by simp [h.len], fun i r hi => ?_, fun r hr => ?_, fun r hr j h0 hj => ?_, fun j hj => ?_, fun r hr j h0 hj hl => ?_, n6, h.below.trans (hK.below h.below.size fun j hj => ?_)⟩
  · have e1 := ((hk1.block b6 (by omega) a6).trans (hb.block b6 l6)).trans h.q
    rw [blk_set e1]; rfl
  · rw [List.flatMap_append, List.flatMap_cons, List.flatMap_nil, List.append_nil]
    exact hr1.setCell (p := ⟨b6, 0, none⟩) (nA' _ l6 a6) _
  · by_cases e : i < rs.length
    · rw [List.getElem?_append_left e] at hi; exact h.ops i r hi
    · rw [List.getElem?_append_right (by omega)] at hi
      have hz : i - rs.length = 0 := by have := (List.getElem?_eq_some_iff.1 hi).1; simp at this; omega
      rw [hz] at hi
      simp at hi
      subst hi
      obtain rfl : i = k := by have := h.len; omega
      exact ⟨r0, hr0, hrx⟩
  · rcases List.mem_append.1 hr with hr | hr
    · refine ⟨(h.codes r hr).1.keep0 hK.size fun b h0 hj _ => hK.block b ((h.codes r hr).1.lt h0 b hj) ?_, (h.codes r hr).2⟩
      rintro (h1 | h1)
      · rcases h.apart r hr b h0 hj with h2 | ⟨_, _, h2⟩
        · have := h.nA b h1; omega
        · exact h2 h1
      · rcases h.apart r hr b h0 hj with h2 | ⟨_, h2, _⟩
        · omega
        · exact h2 h1
    · simp at hr
      subst hr
      have hkx : Keep (fun j => InA A j ∨ j = b6) wx (w1.setCell ⟨b6, 0, none⟩ (.slice A' (k + 1) c')) := (hk1.mono fun j _ hA => .inl hA).setCell (.inl (.inr rfl)) _
      refine ⟨hx.1.keep0 hkx.size fun b h0 hj hl => hkx.block b hl ?_, hx.2⟩
      rintro (h1 | h1)
      · rcases hxa b h0 hj with h2 | h2
        · have := h.nA b h1; omega
        · have := hlA b h1; omega
      · rcases hxa b h0 hj with h2 | h2 <;> omega
  · rcases List.mem_append.1 hr with hr | hr
    · refine (h.apart r hr j h0 hj).imp_right fun ⟨h1, h2, h3⟩ => ⟨h1, h2, nA' j ((h.codes r hr).1.lt h0 j hj) h3⟩
    · simp at hr
      subst hr
      refine (hxa j h0 hj).imp_right fun h1 => ⟨by omega, by omega, fun hA => ?_⟩
      rcases hi1 j hA with h2 | h2
      · have := hlA j h2; omega
      · have := hx.1.lt h0 j hj; omega
  · rcases hi1 j hj with h1 | h1
    · exact h.nA j h1
    · omega
  · rcases List.mem_append.1 hr with hr | hr
    · exact h.src r hr j h0 hj hl
    · simp at hr
      subst hr
      exact hxs j h0 hj hl
  · rcases hj with h1 | h1
    · have := h.nA j h1; omega
    · omega
/-- The plan that was made. -/
theorem RgMid.done {wz : World} (h : RgMid w wr m room b5 b6 A c rs m.ros.length) (hm : PlanAt w m) (hb : Keep (fun j => j = w.heap.size + 1) wr wz) :
    PlanAt wz ⟨A, c, rs, m.ticks, m.sA, m.sc, m.spans, m.wA, m.wc, m.wires⟩ ∧ (⟨A, c, rs, m.ticks, m.sA, m.sc, m.spans, m.wA, m.wc, m.wires⟩ : PM).pl = purgePl m.pl room ∧ (∀ j, planF ⟨A, c, rs, m.ticks, m.sA, m.sc, m.spans, m.wA, m.wc, m.wires⟩ j → j < w.heap.size → planF m j) ∧ Below w.heap.size w wz := by
  have hbz : Below w.heap.size w wz := h.below.trans (hb.below h.below.size fun j hj => by omega)
  have hmz := hm.new hbz
  have hrw := h.row.through hb fun j hj e => by subst e; exact h.row.apart h.out (by decide) hj
  refine ⟨⟨by rw [h.len]; exact hrw.sl, by rw [h.len]; exact hrw.slW, fun r hr => ⟨(h.codes r hr).1.keep0 hb.size fun b h0 hj _ => hb.block b ((h.codes r hr).1.lt h0 b hj) fun e => ?_, (h.codes r hr).2⟩, hm.fits, hmz.spans, hmz.spansW, hmz.spansOk, hmz.wires, hmz.wiresW, hmz.wiresOk⟩, ?_, ?_, hbz⟩
  · rcases h.apart r hr b h0 hj with h2 | ⟨h2, _⟩ <;> omega
  · unfold purgePl PM.pl
    simp only [Pl.mk.injEq, and_true]
    refine List.ext_getElem? fun i => ?_
    rw [List.getElem?_map, List.getElem?_mapIdx, List.getElem?_map]
    cases hi : rs[i]? with
    | none =>
      have h1 := List.getElem?_eq_none_iff.1 hi
      rw [h.len] at h1
      rw [List.getElem?_eq_none h1]; rfl
    | some r =>
      obtain ⟨r0, h0, h1⟩ := h.ops i r hi
      rw [h0]
      simp [h1]
  · rintro j (⟨h0, hj⟩ | ⟨r, hr, h0, hj⟩ | ⟨h0, hj⟩ | ⟨h0, hj⟩) hl
    · have := h.nA j hj; omega
    · exact h.src r hr j h0 hj hl
    · exact .inr (.inr (.inl ⟨h0, hj⟩))
    · exact .inr (.inr (.inr ⟨h0, hj⟩))
end
def RPurged (w : World) (m : PM) (room : Nat) (e : Ending) (w' : World) : Prop :=
  ∃ m' : PM, e = .returned (.agg #[.slice m'.A m'.ros.length m'.c, .int .i64 m'.ticks, .slice m'.sA m'.spans.length m'.sc, .slice m'.wA m'.wires.length m'.wc]) ∧ PlanAt w' m' ∧ m'.pl = purgePl m.pl room ∧ (∀ j, planF m' j → j < w.heap.size → planF m j) ∧ Below w.heap.size w w'

set_option maxHeartbeats 4000000 in
theorem rpurge_any (w : World) (m : PM) (room : Nat) (hm : PlanAt w m) (he : planChk m.pl = 0) (hr : room < m.ros.length) :
    Calls Tryd.prog 45 #[.agg #[.slice m.A m.ros.length m.c, .int .i64 m.ticks, .slice m.sA m.spans.length m.sc, .slice m.wA m.wires.length m.wc], .int .i64 room] w (RPurged w m room) := by
  obtain ⟨i1, hi1, y10, y11, y12⟩ := info_parts Tryd.infoOps
  have hp := planChk_ok he
  have hn5 : m.ros.length ≤ 5 := by have := hp.most5; simpa [PM.pl] using this
  have hflow := flowChk_ok hp.flow
  have HM := hid hm
  have HWY : Hid (∀ w', Below w.heap.size w w' → Calls Tryd.prog 94 #[.slice m.wA m.wires.length m.wc] w' (IsWays w' m.wires)) := fun w' hb => rways_any m.wA m.wc m.wires w' (hm.wires.new hb) hflow.1 hflow.2.2
  unfold IsWays at HWY
  obtain ⟨n, hn⟩ : ∃ n, m.ros.length = n := ⟨_, rfl⟩
  obtain ⟨ns, hns⟩ : ∃ ns, m.spans.length = ns := ⟨_, rfl⟩
  obtain ⟨nw, hnw⟩ : ∃ nw, m.wires.length = nw := ⟨_, rfl⟩
  have HN := hid hn
  have HNS := hid hns
  have HNW := hid hnw
  obtain ⟨w1, hw1⟩ : ∃ w1, w1 = (w.alloc (.cells #[.slice m.A n m.c, .int .i64 m.ticks, .slice m.sA ns m.sc, .slice m.wA nw m.wc] 31)).alloc (.cells #[.slice none 0 0, .int .i64 0, .slice none 0 0, .slice none 0 0] 31) := ⟨_, rfl⟩
  have hb1 : Below w.heap.size w w1 := by rw [hw1]; exact ((Below.refl _ _).alloc (Nat.le_refl _) _).alloc (by simp) _
  have hbox : w1.heap[w.heap.size]? = some (.cells #[.slice m.A n m.c, .int .i64 m.ticks, .slice m.sA ns m.sc, .slice m.wA nw m.wc] 31 (0, 0)) := by
    rw [hw1]; simp only [hp_alloc, sz_alloc]; repeat (first | rw [if_pos True.intro] | rw [if_pos rfl] | rw [if_neg (by omega)])
  have hout : w1.heap[w.heap.size + 1]? = some (.cells #[.slice none 0 0, .int .i64 0, .slice none 0 0, .slice none 0 0] 31 (0, 0)) := by
    rw [hw1]; simp only [hp_alloc, sz_alloc]; repeat (first | rw [if_pos True.intro] | rw [if_pos rfl] | rw [if_neg (by omega)])
  have HB1 := hid hb1
  have HBOX := hid hbox
  have HOUT := hid hout
  rw [hn, hns, hnw]
  rw [hnw] at HWY
  rw [hn] at hn5 hr
  have hcm := hm.rowsW
  rw [hn] at hcm
  have hcm1 := hcm.1
  have hcm2 := hcm.2.1
  unfold maxLen at hcm2
  have hr5 : room < 5 := by omega
  clear hp hflow hm he hn hns hnw hb1 hbox hout hcm
  have x0 := blk_cell HBOX.out 0
  have x1 := blk_cell HBOX.out 1
  have x2 := blk_cell HBOX.out 2
  have x3 := blk_cell HBOX.out 3
  have hlx := blk_lt HBOX.out
  simp at x0 x1 x2 x3
  have hi75 : (Tryd.prog.info? 161).map (·.size) = some (waysV m.wires).size := by rw [waysV, bitsA_size]; kernel_rfl
  have hone : (waysV m.wires).all (·.oneCell') = true := bitsA_one _
  have HONE := hid hone
  have HI75 := hid hi75
  clear hi75 hone
  go_enter Tryd.func45, Tryd.ntmps45
  go_upto_region 1 with fail
  rw [← hw1]
  clear hw1
  go_wp2_with fail
  refine (HWY.out _ HB1.out).mono ?_
  clear HWY x0 x1 x2 x3 hlx
  rintro e w2 ⟨rfl, hb2⟩
  have HB2 := hid hb2
  clear hb2
  go_wp2_with (refine wpList_store_rowK rfl 161 _ _ rfl w2.heap.size (waysV m.wires) rfl rfl _ _ (heap_alloc_new w2 _) HI75.out (by rw [waysV, bitsA_size]; rfl) HONE.out ?_
               intro w3 hr3 hk3 hz3
               obtain ⟨b5, hb5⟩ : ∃ b5, b5 = w2.heap.size := ⟨_, rfl⟩
               rw [← hb5] at hr3 hk3 ⊢
               have HR3 := hid hr3
               have HB3 : Hid (Below w1.heap.size w1 w3) := HB2.out.trans ((show Below w2.heap.size w2 w3 from Keep.below (F := NoF) ((Keep.of_below NoF ((Below.refl _ _).alloc (Nat.le_refl _) _)).then hk3 fun j hj e => by rw [e, hb5] at hj; omega) (Nat.le_refl _) (fun _ h => h.elim)).mono HB2.out.size)
               have hx3 := (HB3.out.block _ (blk_lt HBOX.out)).trans HBOX.out
               have x0 := blk_cell hx3 0
               have x1 := blk_cell hx3 1
               have x2 := blk_cell hx3 2
               have x3 := blk_cell hx3 3
               have hlx := blk_lt hx3
               simp at x0 x1 x2 x3
               clear hr3 hk3 hz3 hb5 hx3)
  obtain ⟨b6, hb6⟩ : ∃ b6, b6 = w3.heap.size := ⟨_, rfl⟩
  obtain ⟨w5, hw5⟩ : ∃ w5, w5 = w3.alloc (.cells #[.slice none 0 0, .int .i64 m.ticks, .slice m.sA ns m.sc, .slice m.wA nw m.wc] 31) := ⟨_, rfl⟩
  have hq5 : w5.heap[b6]? = some (.cells #[.slice none 0 0, .int .i64 m.ticks, .slice m.sA ns m.sc, .slice m.wA nw m.wc] 31 (0, 0)) := by rw [hw5, hb6]; exact heap_alloc_new w3 _
  have hb5 : Below w3.heap.size w3 w5 := by rw [hw5]; exact (Below.refl _ _).alloc (Nat.le_refl _) _
  have hs31 := HB3.out.size
  have hsw1 := blk_lt HOUT.out
  have HMID0 : Hid (RgMid w w5 m room b5 b6 none 0 [] 0) := by
    have h05 := HB3.out.trans (hb5.mono HB3.out.size)
    refine ⟨?_, (h05.block _ (blk_lt HOUT.out)).trans HOUT.out, (hb5.block _ (blk_lt HR3.out)).trans HR3.out, ?_, Row.nil _ _ _, rfl, fun i r hi => by simp at hi, fun r hr => by simp at hr, fun r hr => by simp at hr, fun j hj => by simp [InA] at hj, fun r hr => by simp at hr, by omega, HB1.out.trans (h05.mono HB1.out.size)⟩
    · rw [HN.out, HNS.out, HNW.out]; exact (h05.block _ (blk_lt HBOX.out)).trans HBOX.out
    · rw [HNS.out, HNW.out]; exact hq5
  clear hq5 hb5 hs31 hsw1
  go_upto_region 4 with fail
  rw [← hw5, ← hb6]
  clear hw5 hb6 x0 x1 x2 x3 hlx
  go_wp2_with fail
  go_loopw [7] (fun v7 wr => ∃ (k : Nat) (A : Option Addr) (c : Nat) (rs : List Ro), k ≤ n ∧ v7 = .int .i64 k ∧ RgMid w wr m room b5 b6 A c rs k) (fun v7 _ => n - (intOf v7).toNat)
  case atStart => exact ⟨0, none, 0, [], by omega, rfl, HMID0.out⟩
  case round =>
    obtain ⟨wo, rfl⟩ : ∃ wo : World, wo = wr := ⟨_, rfl⟩
    obtain ⟨k, A, c, rs, hk, rfl, hmid⟩ := hrel
    have HMID := hid hmid
    have hbx := hmid.box
    rw [HN.out, HNS.out, HNW.out] at hbx
    have hq := hmid.q
    rw [HNS.out, HNW.out] at hq
    have HAP : Hid (¬ InA A b6) := hmid.row.apart hmid.q (by decide)
    have HQ := hid hq
    have x0 := blk_cell hbx 0
    have hlx := blk_lt hbx
    simp at x0
    clear hmid HMID0
    by_cases hkn : k < n
    · have hkl : k < m.ros.length := by rw [HN.out]; exact hkn
      obtain ⟨ro, hro⟩ : ∃ ro, m.ros[k]? = some ro := ⟨_, List.getElem?_eq_getElem hkl⟩
      obtain ⟨cb, coff, hcA, hcb, hcell⟩ := HM.out.rows.ro HMID.out.below hro hkl
      have hroat := HM.out.codes ro (List.mem_of_getElem? hro)
      rw [hcA] at x0
      have hy := (blk_cell HMID.out.wy (k * 5 + room)).trans (waysV_get m.wires (by omega) hr5)
      have hly := blk_lt HMID.out.wy
      have p0 := blk_cell hq 0
      have pf := blk_free hq 0
      simp at p0
      have hk0 : (0 : Int) ≤ (k : Int) := by omega
      have hkn' : (k : Int) < (n : Int) := by omega
      have hlq := blk_lt hq
      clear hbx hq hkl
      obtain ⟨Bz, hBz⟩ : ∃ Bz, reachB m.wires k room = Bz := ⟨_, rfl⟩
      rw [hBz] at hy
      cases Bz with
      | true =>
        obtain ⟨X, hX⟩ : ∃ X : Ro, X = ro := ⟨_, rfl⟩
        have HWX : Hid (Below wo.heap.size wo (wo.alloc (.cells #[.slice X.A X.ops.length X.c] 46))) := (Below.refl _ _).alloc (Nat.le_refl _) _
        have HXB : Hid ((wo.alloc (.cells #[.slice X.A X.ops.length X.c] 46)).heap[wo.heap.size]? = some (.cells #[.slice X.A X.ops.length X.c] 46 (0, 0))) := heap_alloc_new wo _
        have HXAT : Hid (X.At (wo.alloc (.cells #[.slice X.A X.ops.length X.c] 46))) := by rw [hX]; exact hroat.new (HMID.out.below.trans (((Below.refl wo.heap.size wo).alloc (Nat.le_refl _) _).mono HMID.out.below.size))
        have HXF : Hid (∀ j, 0 < X.ops.length → InA X.A j → j < w.heap.size ∨ wo.heap.size ≤ j) := fun j h0 hj => .inl (by rw [hX] at h0 hj; exact hroat.1.lt h0 j hj)
        have HXS : Hid (∀ j, 0 < X.ops.length → InA X.A j → j < w.heap.size → planF m j) := fun j h0 hj _ => by rw [hX] at h0 hj; exact .inr (.inl ⟨ro, List.mem_of_getElem? hro, h0, hj⟩)
        have HX0 : Hid (∃ r0, m.ros[k]? = some r0 ∧ X.ops = purgeRow m.wires room k r0.ops) := ⟨ro, hro, by rw [hX, purgeRow, if_pos hBz]⟩
        rw [← hX] at hcell
        clear hX hro hroat hBz hcA
        go_upto_region 10 with fail
        clear x0 hlx hy hly hcell hcb
        go_wp2_with (first
        | (at_builtin; refine wpList_append_row _ rfl (.tmp 35) (.tmp 37) 27 rfl 46 i1 (.slice none 0 0) 1 24 Tryd.underlying27 hi1 y10 y11 y12 rfl (by decide) A k c (rs.flatMap Ro.cells) rfl (HMID.out.row.new HWX.out)
            (some ⟨wo.heap.size, 0, none⟩) 1 1 (Ro.cells X) rfl (by refine ⟨rfl, fun _ => ⟨wo.heap.size, 0, rfl, blk_lt HXB.out, fun j u hu => ?_⟩⟩; match j, hu with | 0, hu => (simp [Ro.cells] at hu; subst hu; rw [Nat.zero_add]; exact (blk_cell HXB.out 0).trans rfl)) (by intro u hu; simp [Ro.cells] at hu; subst hu; rfl) (by unfold maxLen; omega) (by omega) ?_
           intro A' c' w1' hr1 hk1 hi1'
           have e1 : w1'.heap[b6]? = some (.cells #[.slice A k c, .int .i64 m.ticks, .slice m.sA ns m.sc, .slice m.wA nw m.wc] 31 (0, 0)) := (hk1.block _ (Nat.lt_of_lt_of_le (blk_lt HQ.out) HWX.out.size) HAP.out).trans ((HWX.out.block _ (blk_lt HQ.out)).trans HQ.out)
           have p0' := blk_cell e1 0
           have pf' := blk_free e1 0
           have pl' := blk_lt e1
           simp at p0'
           have HDONE := hid (HMID.out.add HWX.out HXAT.out HXF.out HXS.out hr1 hk1 hi1' HX0.out)
           clear hr1 hk1 hi1' e1 p0 pf))
        go_roundw
        case rel => exact ⟨k + 1, A', c', _, by omega, by go_num, HDONE.out⟩
        case measure => simp [intOf]; omega
      | false =>
        have HWX : Hid (Below wo.heap.size wo ((wo.alloc (.cells #[.int .i64 10, .int .i64 0, .int .i64 0] 45)).alloc (.cells #[.slice (some ⟨wo.heap.size, 0, none⟩) 1 1] 46))) := ((Below.refl _ _).alloc (Nat.le_refl _) _).alloc (by simp) _
        have HXB : Hid (((wo.alloc (.cells #[.int .i64 10, .int .i64 0, .int .i64 0] 45)).alloc (.cells #[.slice (some ⟨wo.heap.size, 0, none⟩) 1 1] 46)).heap[wo.heap.size + 1]? = some (.cells #[.slice (some ⟨wo.heap.size, 0, none⟩) 1 1] 46 (0, 0))) := hid (by rw [hp_alloc, if_pos (by simp)])
        have hxo : ((wo.alloc (.cells #[.int .i64 10, .int .i64 0, .int .i64 0] 45)).alloc (.cells #[.slice (some ⟨wo.heap.size, 0, none⟩) 1 1] 46)).heap[wo.heap.size]? = some (.cells #[.int .i64 10, .int .i64 0, .int .i64 0] 45 (0, 0)) := by
          rw [blk_alloc (by simp)]; exact heap_alloc_new wo _
        have HXAT : Hid ((⟨some ⟨wo.heap.size, 0, none⟩, 1, restOps⟩ : Ro).At ((wo.alloc (.cells #[.int .i64 10, .int .i64 0, .int .i64 0] 45)).alloc (.cells #[.slice (some ⟨wo.heap.size, 0, none⟩) 1 1] 46))) := by
          refine ⟨sl_blk hxo 3 1 _ rfl rfl, lit_slW _ 1 (by omega), fun o ho => ?_⟩
          simp [restOps] at ho; subst ho
          refine ⟨⟨?_, ?_⟩, ⟨?_, ?_⟩, ⟨?_, ?_⟩⟩ <;> decide
        have HXF : Hid (∀ j, 0 < (⟨some ⟨wo.heap.size, 0, none⟩, 1, restOps⟩ : Ro).ops.length → InA (⟨some ⟨wo.heap.size, 0, none⟩, 1, restOps⟩ : Ro).A j → j < w.heap.size ∨ wo.heap.size ≤ j) := fun j h0 hj => .inr (by simp [InA] at hj; omega)
        have HXS : Hid (∀ j, 0 < (⟨some ⟨wo.heap.size, 0, none⟩, 1, restOps⟩ : Ro).ops.length → InA (⟨some ⟨wo.heap.size, 0, none⟩, 1, restOps⟩ : Ro).A j → j < w.heap.size → planF m j) := fun j h0 hj hl => by have := HMID.out.below.size; simp [InA] at hj; omega
        have HX0 : Hid (∃ r0, m.ros[k]? = some r0 ∧ (⟨some ⟨wo.heap.size, 0, none⟩, 1, restOps⟩ : Ro).ops = purgeRow m.wires room k r0.ops) := ⟨ro, hro, by rw [purgeRow, if_neg (by rw [hBz]; decide)]⟩
        clear hro hroat hBz hcA hxo
        go_upto_region 10 with fail
        clear x0 hlx hy hly hcell hcb
        go_wp2_with (first
        | (at_builtin; refine wpList_append_row _ rfl (.tmp 35) (.tmp 37) 27 rfl 46 i1 (.slice none 0 0) 1 24 Tryd.underlying27 hi1 y10 y11 y12 rfl (by decide) A k c (rs.flatMap Ro.cells) rfl (HMID.out.row.new HWX.out)
            (some ⟨wo.heap.size + 1, 0, none⟩) 1 1 (Ro.cells ⟨some ⟨wo.heap.size, 0, none⟩, 1, restOps⟩) rfl (by refine ⟨rfl, fun _ => ⟨wo.heap.size + 1, 0, rfl, blk_lt HXB.out, fun j u hu => ?_⟩⟩; match j, hu with | 0, hu => (simp [Ro.cells] at hu; subst hu; rw [Nat.zero_add]; exact (blk_cell HXB.out 0).trans rfl)) (by intro u hu; simp [Ro.cells] at hu; subst hu; rfl) (by unfold maxLen; omega) (by omega) ?_
           intro A' c' w1' hr1 hk1 hi1'
           have e1 : w1'.heap[b6]? = some (.cells #[.slice A k c, .int .i64 m.ticks, .slice m.sA ns m.sc, .slice m.wA nw m.wc] 31 (0, 0)) := (hk1.block _ (Nat.lt_of_lt_of_le (blk_lt HQ.out) HWX.out.size) HAP.out).trans ((HWX.out.block _ (blk_lt HQ.out)).trans HQ.out)
           have p0' := blk_cell e1 0
           have pf' := blk_free e1 0
           have pl' := blk_lt e1
           simp at p0'
           have HDONE := hid (HMID.out.add HWX.out HXAT.out HXF.out HXS.out hr1 hk1 hi1' HX0.out)
           clear hr1 hk1 hi1' e1 p0 pf))
        go_roundw
        case rel => exact ⟨k + 1, A', c', _, by omega, by go_num, HDONE.out⟩
        case measure => simp [intOf]; omega
    · obtain rfl : k = n := by omega
      have hres := HMID.out.out
      have q0 := blk_cell hq 0
      have q1 := blk_cell hq 1
      have q2 := blk_cell hq 2
      have q3 := blk_cell hq 3
      have r0 := blk_cell hres 0
      have r1 := blk_cell hres 1
      have r2 := blk_cell hres 2
      have r3 := blk_cell hres 3
      have rf := fun j => blk_free hres j
      have hlq := blk_lt hq
      have hlr := blk_lt hres
      simp at q0 q1 q2 q3 r0 r1 r2 r3
      have HMF : Hid (RgMid w wo m room b5 b6 A c rs m.ros.length) := by rw [HN.out]; exact HMID.out
      have HRES := hid hres
      clear hbx hq hres
      go_wp2_with fail
      obtain ⟨wz, hwz⟩ : ∃ wz, wz = put4 wo (w.heap.size + 1) (.slice A k c) (.int .i64 m.ticks) (.slice m.sA ns m.sc) (.slice m.wA nw m.wc) := ⟨_, rfl⟩
      have hkz : Keep (fun j => j = w.heap.size + 1) wo wz := by rw [hwz]; exact put4_keep _ _ _ _ _ _
      have hz : wz.heap[w.heap.size + 1]? = some (.cells #[.slice A k c, .int .i64 m.ticks, .slice m.sA ns m.sc, .slice m.wA nw m.wc] 31 (0, 0)) := by
        rw [hwz]; unfold put4; simp [hp_set, HRES.out, setObj]
      unfold put4 at hwz
      rw [← hwz]
      have z0 := blk_cell hz 0
      have z1 := blk_cell hz 1
      have z2 := blk_cell hz 2
      have z3 := blk_cell hz 3
      simp at z0 z1 z2 z3
      refine bodyPost_ret (v := .agg #[.slice A k c, .int .i64 m.ticks, .slice m.sA ns m.sc, .slice m.wA nw m.wc]) (by simp [results, Tryd.results45, go_sem, z0, z1, z2, z3]) rfl ?_
      obtain ⟨d1, d2, d3, d4⟩ := HMF.out.done HM.out hkz
      refine ⟨_, ?_, d1, d2, d3, d4⟩
      rw [← HN.out, ← HNS.out, ← HNW.out]
      simp only [HMF.out.len]
end Go.Proofs.YtongkiccglaniaaDoor
