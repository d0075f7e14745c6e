/- Packages slices and trace: the contracts of DeleteFunc and Of on events, with what is left. Conditions: none. -/
import Derived.Test.YthafahnlfpkkbaaGreatDoorTraceU
import Derived.Test.YthafahnlfpkkbaaGreatDoorEvU
namespace Go.Proofs.YthafahnlfpkkbaaGreatDoor
open Go.RowKit
set_option maxRecDepth 100000

theorem flat_take2 {α : Type} (f : α → List Value) (k : Nat) (hf : ∀ x, (f x).length = k) : ∀ (l : List α) (n : Nat), (l.flatMap f).take (n * k) = (l.take n).flatMap f
  | [], n => by simp
  | x :: l, 0 => by simp
  | x :: l, n + 1 => by
    rw [List.flatMap_cons, List.take_succ_cons, List.flatMap_cons, Nat.succ_mul, Nat.add_comm, List.take_append, hf, List.take_of_length_le (by rw [hf]; omega), Nat.add_sub_cancel_left, flat_take2 f k hf l n]
/-- Those of a room. -/
def keptR (R : Int) (l : List Ev) : List Ev := l.filter fun x => !otherRoom R x
theorem kept_all {R : Int} {l : List Ev} (h : ∀ x ∈ l, otherRoom R x = false) : keptR R l = l := by
  unfold keptR
  exact List.filter_eq_self.2 fun x hx => by rw [h x hx]; rfl
theorem kept_take {R : Int} {l : List Ev} {j : Nat} {x : Ev} (hx : l[j]? = some x) : keptR R (l.take (j + 1)) = keptR R (l.take j) ++ if otherRoom R x = false then [x] else [] := by
  unfold keptR
  rw [List.take_add_one, hx, Option.toList_some, List.filter_append]
  cases h : otherRoom R x <;> simp [h]
/-- Midway: what is not yet read lies as it did. -/
structure DelMidF (w wr : World) (b off n : Nat) (xs : List Value) (j : Nat) (fs : List Value) : Prop where
  front : ∀ q v, fs[q]? = some v → wr.cell? ⟨b, off + q, none⟩ = some v
  rest : ∀ q v, j * 4 ≤ q → xs[q]? = some v → wr.cell? ⟨b, off + q, none⟩ = some v
  there : wr.there b off (n * 4)
  keep : Keep (fun k => k = b) w wr
section
variable {w wr w' : World} {b off n j : Nat} {xs fs : List Value}
theorem DelMidF.new (h : DelMidF w wr b off n xs j fs) (hb : Below wr.heap.size wr w') (hlt : b < wr.heap.size) : DelMidF w w' b off n xs j fs :=
  ⟨fun q v hv => (hb.cell (p := ⟨b, off + q, none⟩) hlt).trans (h.front q v hv), fun q v hq hv => (hb.cell (p := ⟨b, off + q, none⟩) hlt).trans (h.rest q v hq hv), fun q hq => ⟨by rw [hb.cell (p := ⟨b, off + q, none⟩) hlt]; exact (h.there q hq).1, by
    have h1 := (h.there q hq).2
    rw [← h1]
    unfold World.frozen?
    rw [hb.block b hlt]⟩, h.keep.then (Keep.of_below NoF hb) fun _ _ hf => hf.elim⟩
theorem DelMidF.on (h : DelMidF w wr b off n xs j fs) {j' : Nat} (hj : j ≤ j') : DelMidF w wr b off n xs j' fs := ⟨h.front, fun q v hq hv => h.rest q v (by omega) hv, h.there, h.keep⟩
theorem DelMidF.put (h : DelMidF w wr b off n xs j fs) {i : Nat} (hi : i < j) (hjn : j ≤ n) (hfs : fs.length = i * 4) (vs : List Value) (hl : vs.length = 4) : DelMidF w (wr.setCells b (off + i * 4) vs) b off n xs j (fs ++ vs) :=
  ⟨fun q v hv => by
    by_cases hq : q < i * 4
    · rw [List.getElem?_append_left (by omega)] at hv
      rw [World.cell?_setCells_out b vs _ wr ⟨b, off + q, none⟩ fun _ _ => .inl (by simp only []; omega)]
      exact h.front q v hv
    · rw [List.getElem?_append_right (by omega), hfs] at hv
      obtain ⟨u, rfl⟩ : ∃ u, q = i * 4 + u := ⟨q - i * 4, by omega⟩
      rw [show i * 4 + u - i * 4 = u by omega] at hv
      have hu := (List.getElem?_eq_some_iff.1 hv).1
      have := World.cell?_setCells_in b vs (off + i * 4) wr (fun k hk => by
        have h1 := (h.there (i * 4 + k) (by omega)).1
        rwa [← Nat.add_assoc] at h1) u hu
      rw [← Nat.add_assoc, this]
      exact (List.getElem?_eq_getElem hu).symm.trans hv, fun q v hq hv => by
    rw [World.cell?_setCells_out b vs _ wr ⟨b, off + q, none⟩ fun _ _ => .inr (by simp only []; omega)]
    exact h.rest q v hq hv, World.there_setCells h.there _ _ _, Keep.setCells (F := fun k => k = b) rfl _ _ _ h.keep⟩
end
def DelVF (w : World) (A : Option Addr) (n : Nat) (R : Int) (l : List Ev) (e : Ending) (w' : World) : Prop := ∃ A' k c', e = .returned (.slice A' k c') ∧ Sl w' A' 4 k ((keptR R l).flatMap Ev.cells) ∧ Keep (InA A) w w' ∧ k ≤ n ∧ k ≤ c'
set_option maxHeartbeats 4000000 in
theorem deleteF_ev (A : Option Addr) (n c : Nat) (l : List Ev) (R : Int) (rb : Nat) (w : World) (hl : l.length = n) (hs : Row w 32 4 A n c (l.flatMap Ev.cells)) (hn : n ≤ 2000) (h : w.cell? ⟨rb, 0, none⟩ = some (.int .i64 R)) (hap : ¬ InA A rb) :
    Calls Tryz.prog 64 #[.slice A n c, .func (.func 66) #[] #[.pointer (some ⟨rb, 0, none⟩)]] w (DelVF w A n R l) := by
  have hix := index_ev A n c l R rb w hl hs.sl hs.le.1 (by omega) h
  unfold IndexEv at hix
  obtain ⟨Q, hQ⟩ : ∃ Q, Q = DelVF w A n R l := ⟨_, rfl⟩
  rw [← hQ]
  have HQ := hid hQ
  have HS := hid hs
  have HL := hid hl
  have hrl := cell_lt h
  have hcm := hs.le.2
  unfold maxLen at hcm
  have hnc := hs.le.1
  have HRB := hid h
  clear hQ hs hl h
  go_enter Tryz.func64, Tryz.ntmps64
  go_wp2_with fail
  refine hix.mono ?_
  clear hix
  rintro e w1 ⟨r, rfl, hb1, hr⟩
  have HB1 := hid hb1
  clear hb1
  rcases hr with ⟨rfl, hall⟩ | ⟨i0, rfl, hi0, hno, hyes⟩
  · have HALL := hid hall
    clear hall
    go_wp2_with fail
    (first | go_ret | skip)
    rw [HQ.out]
    exact ⟨A, n, c, rfl, by rw [kept_all HALL.out]; exact HS.out.sl.new HB1.out, Keep.of_below _ HB1.out, Nat.le_refl _, hnc⟩
  · obtain ⟨x0, hx0⟩ : ∃ x, l[i0]? = some x := ⟨_, List.getElem?_eq_getElem hi0⟩
    have hx0r := hyes x0 hx0
    have hlt0 : left R (l.take (i0 + 1)) = i0 := by
      rw [left_take hx0, hx0r, if_neg (by decide), Nat.add_zero, left_all fun x hx => ?_, List.length_take]
      · omega
      · obtain ⟨j, hj⟩ := List.mem_iff_getElem?.1 hx
        have hjl := (List.getElem?_eq_some_iff.1 hj).1
        rw [List.length_take] at hjl
        rw [List.getElem?_take_of_lt (by omega)] at hj
        exact hno j x (by omega) hj
    rw [HL.out] at hi0
    rcases HS.out.2 with ⟨_, h0, _⟩ | ⟨b, off, cur, rfl, hh, h1, h2, h3, h4⟩
    · omega
    have hb1 := (HB1.out.block _ (blk_lt hh)).trans hh
    have hrb : rb ≠ b := fun e => hap (by subst e; rfl)
    have HM0 : Hid (DelMidF w w1 b off n (l.flatMap Ev.cells) (i0 + 1) ((l.take i0).flatMap Ev.cells)) := by
      refine ⟨fun q v hv => (blk_cell hb1 _).trans (h4 q v (by
        rw [← flat_take2 Ev.cells 4 Ev.len] at hv
        rw [List.getElem?_take] at hv
        split at hv
        · exact hv
        · cases hv)), fun q v _ hv => (blk_cell hb1 _).trans (h4 q v hv), fun q hq => ⟨?_, blk_free hb1 _⟩, Keep.of_below _ HB1.out⟩
      rw [blk_cell hb1, Array.getElem?_eq_getElem (by omega)]; rfl
    have HLT0 := hid hlt0
    have hk0 : keptR R (l.take (i0 + 1)) = l.take i0 := by
      rw [kept_take hx0, hx0r, if_neg (by decide), List.append_nil]
      exact kept_all fun x hx => by
        obtain ⟨j, hj⟩ := List.mem_iff_getElem?.1 hx
        have hjl := (List.getElem?_eq_some_iff.1 hj).1
        rw [List.length_take] at hjl
        rw [List.getElem?_take_of_lt (by omega)] at hj
        exact hno j x (by omega) hj
    rw [← hk0] at HM0
    have HBL := hid (blk_lt hh)
    have HRX : Hid (∀ w', Keep (fun k => k = b) w w' → w'.cell? ⟨rb, 0, none⟩ = some (.int .i64 R)) := fun w' hk => (hk.cell hrl hrb).trans HRB.out
    have hneg : ((i0 : Int) == -1) = false := beq_false_of_ne (by omega)
    clear hk0 hno hyes hx0 hx0r hh h3 h4 hb1 HB1 hlt0 h1 h2 hap hrl
    go_wp2_with fail
    go_loopw [5, 6] (fun v5 v6 wr => ∃ (i j : Nat), i < j ∧ j ≤ n ∧ v5 = .int .i64 i ∧ v6 = .int .i64 j ∧ i = left R (l.take j) ∧ DelMidF w wr b off n (l.flatMap Ev.cells) j ((keptR R (l.take j)).flatMap Ev.cells)) (fun _ v6 _ => n - (intOf v6).toNat)
    case atStart => exact ⟨i0, i0 + 1, by omega, by omega, rfl, rfl, HLT0.out.symm, HM0.out⟩
    case round =>
      obtain ⟨wo, rfl⟩ : ∃ wo : World, wo = wr := ⟨_, rfl⟩
      obtain ⟨i, j, hij, hjn, rfl, rfl, hle, hm⟩ := hrel
      have HLE := hid hle
      have HMD := hid hm
      have hbl : b < wo.heap.size := Nat.lt_of_lt_of_le HBL.out hm.keep.size
      clear hle hm HM0
      by_cases hlt : j < n
      · have hjl : j < l.length := by rw [HL.out]; exact hlt
        obtain ⟨x, hx⟩ : ∃ x, l[j]? = some x := ⟨_, List.getElem?_eq_getElem hjl⟩
        have hg := fun q hq => flatMap_get Ev.cells 4 (fun _ => rfl) l j q x hx hq
        have g0 := HMD.out.rest (j * 4 + 0) _ (by omega) ((hg 0 (by decide)).trans rfl)
        have g1 := HMD.out.rest (j * 4 + 1) _ (by omega) ((hg 1 (by decide)).trans rfl)
        have g2 := HMD.out.rest (j * 4 + 2) _ (by omega) ((hg 2 (by decide)).trans rfl)
        have g3 := HMD.out.rest (j * 4 + 3) _ (by omega) ((hg 3 (by decide)).trans rfl)
        simp only [Nat.add_zero, ← Nat.add_assoc] at g0 g1 g2 g3
        have HLN := hid (left_take (R := R) hx)
        have HKT := hid (kept_take (R := R) hx)
        have hjn' : (j : Int) < (n : Int) := by omega
        have hj0 : (0 : Int) ≤ (j : Int) := by omega
        obtain ⟨wx, hwx⟩ : ∃ wx, wx = wo.alloc (.cells #[.int .i64 x.tick, .int .i64 x.room, .int .i64 x.pc, .int .i64 x.what] 32) := ⟨_, rfl⟩
        obtain ⟨xb, hxb⟩ : ∃ xb, xb = wo.heap.size := ⟨_, rfl⟩
        have HBX : Hid (Below wo.heap.size wo wx) := by rw [hwx]; exact (Below.refl _ _).alloc (Nat.le_refl _) _
        have hxx : wx.heap[xb]? = some (.cells #[.int .i64 x.tick, .int .i64 x.room, .int .i64 x.pc, .int .i64 x.what] 32 (0, 0)) := by rw [hwx, hxb]; exact heap_alloc_new wo _
        have HMX := hid (HMD.out.new HBX.out hbl)
        have hcl := of1_any x R rb wx (HRX.out _ HMX.out.keep)
        have HXX := hid hxx
        have HBLX : Hid (b < wx.heap.size) := Nat.lt_of_lt_of_le hbl HBX.out.size
        clear hg hx hjl hxx
        obtain ⟨z, hz⟩ : ∃ z, otherRoom R x = z := ⟨_, rfl⟩
        rw [hz] at hcl HLN HKT
        obtain ⟨xt, xr, xp, xw⟩ := x
        simp only [] at g0 g1 g2 g3 hcl hwx HXX
        clear hz
        go_upto_region 8 with fail
        rw [← hwx, ← hxb]
        clear hwx hxb g0 g1 g2 g3
        have y0 := blk_cell HXX.out 0
        have y1 := blk_cell HXX.out 1
        have y2 := blk_cell HXX.out 2
        have y3 := blk_cell HXX.out 3
        have hly := blk_lt HXX.out
        simp at y0 y1 y2 y3
        go_wp2_with fail
        refine hcl.mono ?_
        clear hcl
        rintro e w3 ⟨rfl, hb3⟩
        have HM3 := hid (HMX.out.new hb3 HBLX.out)
        have hx3 := (hb3.block _ (blk_lt HXX.out)).trans HXX.out
        have HBL3 : Hid (b < w3.heap.size) := Nat.lt_of_lt_of_le HBLX.out hb3.size
        clear hb3 y0 y1 y2 y3 hly
        cases z with
        | true =>
          clear hx3
          go_wp2_with fail
          go_roundw
          case rel => exact ⟨i, j + 1, by omega, by omega, rfl, by go_num, by rw [HLN.out, if_neg (by decide), Nat.add_zero]; exact HLE.out, by rw [HKT.out, if_neg (by decide), List.append_nil]; exact HM3.out.on (by omega)⟩
          case measure => simp [intOf]; omega
        | false =>
          have y0 := blk_cell hx3 0
          have y1 := blk_cell hx3 1
          have y2 := blk_cell hx3 2
          have y3 := blk_cell hx3 3
          have hly := blk_lt hx3
          simp at y0 y1 y2 y3
          have hin : (i : Int) < (n : Int) := by omega
          have hi0' : (0 : Int) ≤ (i : Int) := by omega
          have HTH : Hid (w3.there b (off + i * 4) 4) := fun q hq => by
            have := HM3.out.there (i * 4 + q) (by omega)
            rw [← Nat.add_assoc] at this
            exact this
          have hb3 := HBL3.out
          clear hx3
          obtain ⟨v0, q0⟩ := Option.isSome_iff_exists.1 (HTH.out 0 (by decide)).1
          obtain ⟨v1, q1⟩ := Option.isSome_iff_exists.1 (HTH.out 1 (by decide)).1
          obtain ⟨v2, q2⟩ := Option.isSome_iff_exists.1 (HTH.out 2 (by decide)).1
          obtain ⟨v3, q3⟩ := Option.isSome_iff_exists.1 (HTH.out 3 (by decide)).1
          have f0 := (HTH.out 0 (by decide)).2
          have f1 := (HTH.out 1 (by decide)).2
          have f2 := (HTH.out 2 (by decide)).2
          have f3 := (HTH.out 3 (by decide)).2
          rw [Nat.add_zero] at q0 f0
          have hm4 : DelMidF w ((((w3.setCell ⟨b, off + i * 4, none⟩ (.int .i64 xt)).setCell ⟨b, off + i * 4 + 1, none⟩ (.int .i64 xr)).setCell ⟨b, off + i * 4 + 2, none⟩ (.int .i64 xp)).setCell ⟨b, off + i * 4 + 3, none⟩ (.int .i64 xw)) b off n (l.flatMap Ev.cells) j ((keptR R (l.take j)).flatMap Ev.cells ++ [.int .i64 xt, .int .i64 xr, .int .i64 xp, .int .i64 xw]) := HM3.out.put hij (by omega) (by rw [flatMap_len Ev.cells 4 Ev.len, HLE.out]; rfl) [.int .i64 xt, .int .i64 xr, .int .i64 xp, .int .i64 xw] rfl
          obtain ⟨w4, hw4⟩ : ∃ w4, w4 = (((w3.setCell ⟨b, off + i * 4, none⟩ (.int .i64 xt)).setCell ⟨b, off + i * 4 + 1, none⟩ (.int .i64 xr)).setCell ⟨b, off + i * 4 + 2, none⟩ (.int .i64 xp)).setCell ⟨b, off + i * 4 + 3, none⟩ (.int .i64 xw) := ⟨_, rfl⟩
          rw [← hw4] at hm4
          have HM4 := hid hm4
          clear hm4
          go_upto_region 10 with fail
          rw [← hw4]
          clear hw4 q0 q1 q2 q3 f0 f1 f2 f3 y0 y1 y2 y3 hly hb3
          go_wp2_with fail
          go_roundw
          case rel => exact ⟨i + 1, j + 1, by omega, by omega, by go_num, by go_num, by have h5 := HLN.out; have h6 := HLE.out; simp at h5; omega, by rw [HKT.out, if_pos (by trivial), List.flatMap_append]; exact HM4.out.on (by omega)⟩
          case measure => simp [intOf]; omega
      · obtain rfl : j = n := by omega
        have hln : i = left R l := by rw [HLE.out, List.take_of_length_le (by rw [HL.out]; exact Nat.le_refl _)]
        have hclr := run_clear_many (P := Tryz.prog) wo 27 32 0 (.agg #[.int .i64 0, .int .i64 0, .int .i64 0, .int .i64 0]) 4 Tryz.underlying27 (fun w => by kernel_rfl) rfl b (off + i * 4) (j - i) (c - i) (by omega) (by
          intro v hv
          simp [Builtin.zeroCells] at hv
          obtain ⟨q, _, rfl⟩ := hv
          have hq : q % 4 = 0 ∨ q % 4 = 1 ∨ q % 4 = 2 ∨ q % 4 = 3 := by omega
          rcases hq with hq | hq | hq | hq <;> rw [Value.cells] <;> simp [hq] <;> rfl) (fun q hq => by
          have := HMD.out.there (i * 4 + q) (by omega)
          rw [← Nat.add_assoc] at this
          exact this)
        obtain ⟨vs, hclr⟩ := hclr
        have hfin : Sl (wo.setCells b (off + i * 4) vs) (some ⟨b, off, none⟩) 4 i ((keptR R l).flatMap Ev.cells) := by
          have hkl : (keptR R l).length = i := hln.symm
          have hfr := HMD.out.front
          rw [List.take_of_length_le (by rw [HL.out]; exact Nat.le_refl _)] at hfr
          refine ⟨by rw [flatMap_len Ev.cells 4 Ev.len, hkl], fun _ => ⟨b, off, rfl, by rw [(setCells_rest b vs _ wo).2.2.2]; exact hbl, fun q v hv => ?_⟩⟩
          have hq := (List.getElem?_eq_some_iff.1 hv).1
          rw [flatMap_len Ev.cells 4 Ev.len, hkl] at hq
          rw [World.cell?_setCells_out b vs _ wo ⟨b, off + q, none⟩ fun _ _ => .inl (by simp only []; omega)]
          exact hfr q v hv
        have HFN := hid hfin
        have HK : Hid (Keep (fun k => k = b) w (wo.setCells b (off + i * 4) vs)) := Keep.setCells (F := fun k => k = b) rfl _ _ _ HMD.out.keep
        have h1 : i ≤ j := by omega
        have h2 : j ≤ c := hnc
        clear hln hlt hjn hfin
        go_wp2_with fail
        (first | go_ret | skip)
        rw [HQ.out]
        exact ⟨some ⟨b, off, none⟩, i, c, rfl, HFN.out, HK.out.mono fun k _ e => by subst e; rfl, h1, by omega⟩

set_option maxHeartbeats 2000000 in
/-- Of, of events that are right. -/
theorem ofF_good (A : Option Addr) (n c : Nat) (l : List Ev) (R : Int) (w : World) (hl : l.length = n) (hs : Sl w A 4 n (l.flatMap Ev.cells)) (hsw : SlW A c n) (hn : n ≤ 2000) (hev : evsChk l = 0) (hR : wIn R (-1) 4 = true) :
    Calls Tryz.prog 22 #[.slice A n c, .int .i64 R] w fun e w' => ∃ A' k c', e = .returned (.tuple #[.slice A' k c', .nilIface]) ∧ Sl w' A' 4 k ((keptR R l).flatMap Ev.cells) ∧ k ≤ n ∧ k ≤ c' ∧ Below w.heap.size w w' := by
  have HC : Hid (∀ w' : World, Below w.heap.size w w' → Calls Tryz.prog 59 #[.slice A n c] w' fun e w'' => e = .returned .nilIface ∧ Below w'.heap.size w' w'') := fun w' hb => (traceCheck_any A n c l w' hl (hs.new hb) hsw.1 hsw.2.1).mono fun e w'' h => by
    rw [hev, errV_zero] at h
    exact h
  have HW : Hid (∀ w' : World, Calls Tryz.prog 63 #[.int .i64 R, .int .i64 (-1), .int .i64 4] w' fun e w'' => e = .returned (.bool true) ∧ w'' = w') := fun w' => (within_any R (-1) 4 w').mono fun e w'' h => by
    rw [hR] at h
    exact h
  have HCL : Hid (∀ w' : World, Below w.heap.size w w' → Calls Tryz.prog 65 #[.slice A n c] w' (Cloned w' 32 4 n (l.flatMap Ev.cells))) := fun w' hb => clone_Event w' A n c _ (fun u hu => by
    obtain ⟨x, _, hx⟩ := List.mem_flatMap.1 hu
    exact ev_one x u hx) (by omega) (fun hA => by have := hsw.2.2 hA; omega) (hs.new hb)
  unfold Cloned at HCL
  have HL := hid hl
  clear hs hsw hev hR hl
  go_enter Tryz.func22, Tryz.ntmps22
  go_wp2_with fail
  refine (HC.out _ ((Below.refl _ _).alloc (Nat.le_refl _) _)).mono ?_
  rintro e w1 ⟨rfl, hb1⟩
  have hx := (hb1.block _ (by simp)).trans (heap_alloc_new w _)
  have x0 := blk_cell hx 0
  have hlx := blk_lt hx
  simp at x0
  have HX := hid hx
  have HB1 := hid (((Below.refl w.heap.size w).alloc (Nat.le_refl _) _).trans (hb1.mono (by simp)))
  clear hb1 hx
  go_wp2_with fail
  refine (HW.out _).mono ?_
  rintro e w2 ⟨rfl, rfl⟩
  clear x0
  go_wp2_with fail
  refine (HCL.out _ HB1.out).mono ?_
  rintro e w3 ⟨A3, c3, rfl, hr3, hf3, hb3⟩
  have hx3 := (hb3.block _ hlx).trans HX.out
  have hc3 : w3.cell? ⟨w.heap.size, 0, none⟩ = some (.int .i64 R) := (blk_cell hx3 0).trans rfl
  have hdel := deleteF_ev A3 n c3 l R w.heap.size w3 HL.out hr3 hn hc3 (fun hj => by have := hf3 _ hj; omega)
  have HB3 := hid (HB1.out.trans (hb3.mono HB1.out.size))
  have HF3 := hid (fun j (hj : InA A3 j) => Nat.le_trans HB1.out.size (hf3 j hj))
  unfold DelVF at hdel
  clear hx3 hc3 hr3 hf3 hb3
  go_wp2_with fail
  refine hdel.mono ?_
  rintro e w4 ⟨A4, k, c4, rfl, hk, hkp, hkn, hkc⟩
  have HB4 : Hid (Below w.heap.size w w4) := HB3.out.trans (hkp.below HB3.out.size HF3.out)
  have HK := hid hk
  clear hkp hk hdel
  go_wp2_with fail
  go_ret2
  exact ⟨A4, k, c4, rfl, HK.out, hkn, hkc, HB4.out⟩
end Go.Proofs.YthafahnlfpkkbaaGreatDoor
