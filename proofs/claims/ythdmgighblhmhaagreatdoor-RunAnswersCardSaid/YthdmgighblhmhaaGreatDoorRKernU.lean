/- Several parts: each begins with what it says. -/
import Derived.Test.YthdmgighblhmhaaGreatDoorKernNew
import Derived.Deep.RegionLaw
import Derived.Test.YthdmgighblhmhaaGreatDoorRTickU
import Derived.Test.YthdmgighblhmhaaGreatDoorRunU
/- The reference (package frameref1): the contract of NewKernel, for every plan that is right. -/
namespace Go.Proofs.YthdmgighblhmhaaGreatDoor
open Go.RowKit
set_option maxRecDepth 100000
attribute [local go_sem ↓] Go.wp_at_zero Go.wp_at_succ

section
variable {P : Program} (w : World)
/-- append onto a row, at a step of a region that draws. -/
theorem step_append_row {ops : Array Oper} {o : Oper} {a : Act} {K : Act → World → Prop} {Q : Exit → Act → World → Prop} {E : Prop} (hgd : o.guard = none) (s x : Operand) (t : TypeId)
    (hop : o.op = Op.call { callee := Callee.builtin Builtin.append, args := #[s, x], argTypes := #[t, t] })
    (e : TypeId) (i : TypeInfo) (z : Value) (size bytes : Nat) (ht : P.underlying t = some (.slice e)) (hi : P.info? e = some i) (hz : i.zero = some z)
    (hsize : i.size = size) (hby : i.bytes = bytes) (hzs : z.cells.size = size) (hsz : 0 < size)
    (A : Option Addr) (n cap : Nat) (xs : List Value) (hs : a.eval s = .slice A n cap) (hrow : Row w e size A n cap xs)
    (A2 : Option Addr) (m c : Nat) (news : List Value) (hx : a.eval x = .slice A2 m c) (hnews : Sl w A2 size m news) (h1 : ∀ u ∈ news, u.oneCell' = true)
    (h63 : n + m ≤ maxLen) (hbytes : (n + m) * bytes ≤ 140737488355328)
    (h : ∀ A' cap' w', Row w' e size A' (n + m) cap' (xs ++ news) → Keep (InA A) w w' → (∀ k, InA A' k → InA A k ∨ w.heap.size ≤ k) → K (a.put o.dst (.slice A' (n + m) cap')) w') :
    if Region.wanted o (yielded ops a.tmps) = true then Oper.wp P o a w K Q else E := by
  have hw : Region.wanted o (yielded ops a.tmps) = true := by simp [Region.wanted, hgd]
  rw [if_pos hw]
  obtain ⟨A', cap', w', hrun, r1, r2, r3⟩ := run_append_row (P := P) w t o.type e i z size bytes ht hi hz hsize hby hzs hsz A n cap xs hrow A2 m c news hnews h1 h63 hbytes
  unfold Oper.wp
  simp [execOp, hop, resolve, invoke, builtin, hs, hx, hrun, Result.andThen]
  exact h A' cap' w' r1 r2 r3
end

theorem Tryz.infoRLn : (Tryz.prog.info? 60).map (fun i => (i.zero, i.size, i.bytes)) = some (some (.pointer none), 1, 8) := by kernel_rfl
/-- A kernel of the reference is made: it keeps the plan itself. -/
def RMade (w : World) (m : PM) (e : Ending) (w' : World) : Prop :=
  ∃ kb M, e = .returned (.pointer (some ⟨kb, 0, none⟩)) ∧ KAt 59 67 60 w' kb M (kNew m.pl) ∧ M.P = m ∧ (∀ j, KF kb M j ∨ InA M.lA j → w.heap.size ≤ j) ∧ Below w.heap.size w w'
theorem rAt_start {w w1 : World} {m : PM} {n : Nat} (hn5 : n ≤ 5) (hp : PlanAt w m) (hb : Below w.heap.size w w1) :
    KAt 59 67 60 ((w1.alloc (.cells ((List.replicate n St.zero).flatMap St.cells).toArray 81)).alloc (.cells #[.slice m.A m.ros.length m.c, .int .i64 m.ticks, .slice m.sA m.spans.length m.sc, .slice m.wA m.wires.length m.wc, .slice (some ⟨w1.heap.size, 0, none⟩) n n, .slice none 0 0, .int .i64 0] 59)) (w1.heap.size + 1) ⟨m, some ⟨w1.heap.size, 0, none⟩, n, none, 0, []⟩ ⟨List.replicate n St.zero, [], 0⟩ := by
  have hlt := hp.lt
  have hs := hb.size
  refine kAt_start ?_ ?_ ?_ (by omega) fun j hj => ?_
  · rw [hp_alloc, if_pos (by simp)]
  · exact hp.new ((hb.alloc hs _).alloc (by simp; omega) _)
  · refine rooms_row ?_ hn5
    rw [hp_alloc, if_neg (by simp), hp_alloc, if_pos rfl]
  · have := hlt j hj; omega

/-- A line is added: what the loop's round leaves. -/
theorem radd_line {w wr wc w4 : World} {kb k n nw : Nat} {m : PM} {M : KM} {x : Wire} {lA' : Option Addr} {lc' : Nat}
    (hka : KAt 59 67 60 wr kb M ⟨List.replicate n St.zero, (m.wires.take k).map fun x => ⟨x, [], 0⟩, 0⟩) (hlen : ((m.wires.take k).map fun x => (⟨x, [], 0⟩ : Ln)).length = k) (hget : m.wires[k]? = some x) (hkn : k < nw) (hMP : M.P = m)
    (htf : ∀ j, KF kb M j ∨ InA M.lA j → w.heap.size < j) (hbq : Below w.heap.size w wr) (hpq : wr.heap[w.heap.size]? = wc.heap[w.heap.size]?) (hplt : w.heap.size < wr.heap.size)
    (hr4 : Row w4 60 1 lA' (k + 1) lc' (M.ls.map ptrV ++ [.pointer (some ⟨wr.heap.size, 0, none⟩)]))
    (hk4 : Keep (InA M.lA) ((wr.alloc (.cells #[.int .i64 x.fr, .int .i64 x.to, .int .i64 x.kind, .int .i64 x.deep, .slice none 0 0, .int .i64 0] 67)).alloc (.cells #[.pointer (some ⟨wr.heap.size, 0, none⟩)] 60)).drew w4) (hn4' : ∀ j, InA lA' j → InA M.lA j ∨ ((wr.alloc (.cells #[.int .i64 x.fr, .int .i64 x.to, .int .i64 x.kind, .int .i64 x.deep, .slice none 0 0, .int .i64 0] 67)).alloc (.cells #[.pointer (some ⟨wr.heap.size, 0, none⟩)] 60)).drew.heap.size ≤ j) :
    ∃ (k' : Nat) (M' : KM), k' ≤ nw ∧ Value.int .i64 ((k : Int) + 1) = .int .i64 k' ∧ KAt 59 67 60 (w4.setCell ⟨kb, 5, none⟩ (.slice lA' (k + 1) lc')) kb M' ⟨List.replicate n St.zero, (m.wires.take k').map fun x => ⟨x, [], 0⟩, 0⟩ ∧ M'.P = m ∧ (∀ j, KF kb M' j ∨ InA M'.lA j → w.heap.size < j) ∧ Below w.heap.size w (w4.setCell ⟨kb, 5, none⟩ (.slice lA' (k + 1) lc')) ∧ (w4.setCell ⟨kb, 5, none⟩ (.slice lA' (k + 1) lc')).heap[w.heap.size]? = wc.heap[w.heap.size]? ∧ nw - k' < nw - k := by
  have hn4 : ∀ j, InA lA' j → InA M.lA j ∨ wr.heap.size + 1 + 1 ≤ j := fun j hj => (hn4' j hj).imp_right fun h => by
    have h2 : ((wr.alloc (.cells #[.int .i64 x.fr, .int .i64 x.to, .int .i64 x.kind, .int .i64 x.deep, .slice none 0 0, .int .i64 0] 67)).alloc (.cells #[.pointer (some ⟨wr.heap.size, 0, none⟩)] 60)).drew.heap.size = wr.heap.size + 1 + 1 := (sz_alloc _ _).trans (by rw [sz_alloc])
    omega
  have hb3 : Below wr.heap.size wr (wr.alloc (.cells #[.int .i64 x.fr, .int .i64 x.to, .int .i64 x.kind, .int .i64 x.deep, .slice none 0 0, .int .i64 0] 67)) := (Below.refl _ _).alloc (Nat.le_refl _) _
  have hl : LnAt 67 (wr.alloc (.cells #[.int .i64 x.fr, .int .i64 x.to, .int .i64 x.kind, .int .i64 x.deep, .slice none 0 0, .int .i64 0] 67)) wr.heap.size none ⟨x, [], 0⟩ := ⟨0, heap_alloc_new wr _, Row.nil _ _ _⟩
  have hk5 : Keep (InA M.lA) ((wr.alloc (.cells #[.int .i64 x.fr, .int .i64 x.to, .int .i64 x.kind, .int .i64 x.deep, .slice none 0 0, .int .i64 0] 67)).alloc (.cells #[.pointer (some ⟨wr.heap.size, 0, none⟩)] 60)) w4 := ⟨hk4.os, hk4.tape, hk4.output, hk4.size, hk4.block⟩
  have hadd := KAt.addLine hka (by decide) (lb := wr.heap.size) (x := x) hl (Nat.le_refl _) hb3 (by rw [hlen]; exact hr4) hk5 (fun j hj => (hn4 j hj).imp_right (fun h => by rw [sz_alloc, sz_alloc]; exact h))
  simp only [hlen] at hadd
  have htake : (m.wires.take (k + 1)).map (fun x => (⟨x, [], 0⟩ : Ln)) = (m.wires.take k).map (fun x => (⟨x, [], 0⟩ : Ln)) ++ [⟨x, [], 0⟩] := by
    rw [List.take_add_one, hget, List.map_append]; rfl
  have hkb := htf kb (.inl (.inl rfl))
  refine ⟨k + 1, ⟨M.P, M.rA, M.rc, lA', lc', M.ls ++ [⟨wr.heap.size, none⟩]⟩, by omega, by go_num, by rw [htake]; exact hadd, hMP, ?_, ?_, ?_, by omega⟩
  · rintro j (hj | hj)
    · rcases hj with rfl | hj | ⟨a, ha, hj⟩
      · exact hkb
      · exact htf j (.inl (.inr (.inl hj)))
      · rcases List.mem_append.1 ha with ha | ha
        · exact htf j (.inl (.inr (.inr ⟨a, ha, hj⟩)))
        · simp at ha
          subst ha
          rcases hj with rfl | hj
          · exact hplt
          · simp [InA] at hj
    · rcases hn4 j hj with h | h
      · exact htf j (.inr h)
      · omega
  · have h4 : Keep (fun j => InA M.lA j ∨ j = kb) wr (w4.setCell ⟨kb, 5, none⟩ (.slice lA' (k + 1) lc')) :=
      (((Keep.of_below _ hb3).alloc _).then hk5 (fun _ _ h => .inl h)).setCell (.inl (.inr rfl)) _
    refine Keep.below (F := NoF) (Keep.then (Keep.of_below NoF hbq) h4 fun j hj h => ?_) (Nat.le_refl _) (fun j h => h.elim)
    rcases h with h | rfl
    · have := htf j (.inr h); omega
    · omega
  · rw [blk_far (p := ⟨kb, 5, none⟩) (show w.heap.size ≠ kb by omega), hk5.block _ (by simp; omega) (fun h => by have := htf _ (.inr h); omega), blk_alloc (by simp; omega), blk_alloc hplt]
    exact hpq

set_option maxHeartbeats 4000000 in
theorem rnew_anyW (w : World) (m : PM) (hm : PlanAt w m) (hn5 : m.ros.length ≤ 5) (hw12 : m.wires.length ≤ 12) :
    Calls Tryz.prog 8 #[.agg #[.slice m.A m.ros.length m.c, .int .i64 m.ticks, .slice m.sA m.spans.length m.sc, .slice m.wA m.wires.length m.wc]] w (RMade w m) := by
  have h5 := hn5
  have HM := hid hm
  have HST : Hid (∀ w1 n, n = m.ros.length → Below w.heap.size w w1 → KAt 59 67 60 ((w1.alloc (.cells ((List.replicate n St.zero).flatMap St.cells).toArray 81)).alloc (.cells #[.slice m.A m.ros.length m.c, .int .i64 m.ticks, .slice m.sA m.spans.length m.sc, .slice m.wA m.wires.length m.wc, .slice (some ⟨w1.heap.size, 0, none⟩) n n, .slice none 0 0, .int .i64 0] 59)) (w1.heap.size + 1) ⟨m, some ⟨w1.heap.size, 0, none⟩, n, none, 0, []⟩ ⟨List.replicate n St.zero, [], 0⟩) :=
    fun w1 n h1 h2 => rAt_start (by rw [h1]; exact h5) hm h2
  obtain ⟨n, hn⟩ : ∃ n, n = m.ros.length := ⟨_, rfl⟩
  obtain ⟨ns, hns⟩ : ∃ ns, ns = m.spans.length := ⟨_, rfl⟩
  obtain ⟨nw, hnw⟩ : ∃ nw, nw = m.wires.length := ⟨_, rfl⟩
  obtain ⟨A0, hA0⟩ : ∃ a, a = m.A := ⟨_, rfl⟩
  obtain ⟨c0, hc0⟩ : ∃ a, a = m.c := ⟨_, rfl⟩
  obtain ⟨tk, htk⟩ : ∃ a, a = m.ticks := ⟨_, rfl⟩
  obtain ⟨sA0, hsA0⟩ : ∃ a, a = m.sA := ⟨_, rfl⟩
  obtain ⟨sc0, hsc0⟩ : ∃ a, a = m.sc := ⟨_, rfl⟩
  obtain ⟨wA0, hwA0⟩ : ∃ a, a = m.wA := ⟨_, rfl⟩
  obtain ⟨wc0, hwc0⟩ : ∃ a, a = m.wc := ⟨_, rfl⟩
  have HN := hid hn
  have HNW := hid hnw
  have HWS := hid hm.wires
  rw [← hwA0, ← hnw] at HWS
  rw [← hn] at hn5
  rw [← hnw] at hw12
  rw [← hn, ← hns, ← hnw, ← hA0, ← hc0, ← htk, ← hsA0, ← hsc0, ← hwA0, ← hwc0]
  have HS2 := hid (HST.out w.drew n)
  rw [← hn, ← hns, ← hnw, ← hA0, ← hc0, ← htk, ← hsA0, ← hsc0, ← hwA0, ← hwc0] at HST
  have hmk := fun w => run_makeRooms hn5 w
  obtain ⟨il0, hil, hz0, hz1, hz2⟩ := info_parts Tryz.infoRLn
  clear hm h5 HS2 hn hns hnw hA0 hc0 htk hsA0 hsc0 hwA0 hwc0
  go_enter Tryz.func8, Tryz.ntmps8
  go_wp2_with fail
  obtain ⟨w1, hw1⟩ : ∃ w1, w1 = w.alloc (.cells #[.slice A0 n c0, .int .i64 tk, .slice sA0 ns sc0, .slice wA0 nw wc0] 31) := ⟨_, rfl⟩
  rw [← hw1]
  have hpb : w1.heap[w.heap.size]? = some (.cells #[.slice A0 n c0, .int .i64 tk, .slice sA0 ns sc0, .slice wA0 nw wc0] 31 (0, 0)) := by rw [hw1]; exact heap_alloc_new w _
  have hb1 : Below w.heap.size w w1 := by rw [hw1]; exact (Below.refl _ _).alloc (Nat.le_refl _) _
  clear hw1
  have hplt := blk_lt hpb
  have p0 := blk_cell hpb 0
  have p1 := blk_cell hpb 1
  have p2 := blk_cell hpb 2
  have p3 := blk_cell hpb 3
  simp at p0 p1 p2 p3
  have HPB := hid hpb
  have HB1 := hid hb1
  clear hpb hb1
  go_region
  have hka0 := (HST.out w1 n rfl HB1.out).new (Below.refl _ _).drew
  obtain ⟨wc, hwc⟩ : ∃ wc, wc = ((w1.alloc (.cells ((List.replicate n St.zero).flatMap St.cells).toArray 81)).alloc (.cells #[.slice A0 n c0, .int .i64 tk, .slice sA0 ns sc0, .slice wA0 nw wc0, .slice (some ⟨w1.heap.size, 0, none⟩) n n, .slice none 0 0, .int .i64 0] 59)).drew := ⟨_, rfl⟩
  have hbc : Below w1.heap.size w1 wc := by rw [hwc]; exact (((Below.refl _ _).alloc (Nat.le_refl _) _).alloc (by simp) _).drew
  rw [← hwc] at hka0
  have HKA0 := hid hka0
  have HBC := hid (HB1.out.trans (hbc.mono HB1.out.size))
  have HPC := hid ((hbc.block _ hplt).trans HPB.out)
  have HSZ := hid (show wc.heap.size = w1.heap.size + 1 + 1 by rw [hwc]; exact (sz_alloc _ _).trans (by rw [sz_alloc]))
  obtain ⟨kb, hkb⟩ : ∃ kb, kb = w1.heap.size + 1 := ⟨_, rfl⟩
  obtain ⟨rb, hrb⟩ : ∃ rb, rb = w1.heap.size := ⟨_, rfl⟩
  have hkbw : w.heap.size < kb := by omega
  have hrbw : w.heap.size < rb := by omega
  rw [← hkb, ← hrb] at HKA0
  rw [← hwc]
  simp only [← hkb]
  have HKR := hid (show rb ≠ kb by omega)
  have hkc : kb < wc.heap.size := by have := HSZ.out; omega
  have hrc : rb < wc.heap.size := by have := HSZ.out; omega
  clear hka0 hbc HB1 HPB HST hmk p0 p1 p2 p3 hwc hkb hrb HSZ hplt
  have pw := blk_cell HPC.out 3
  simp at pw
  go_wp2_with fail
  clear pw
  go_loopw [4] (fun v4 wq => ∃ (k : Nat) (M : KM), k ≤ nw ∧ v4 = .int .i64 k ∧ KAt 59 67 60 wq kb M ⟨List.replicate n St.zero, (m.wires.take k).map fun x => ⟨x, [], 0⟩, 0⟩ ∧ M.P = m ∧ (∀ j, KF kb M j ∨ InA M.lA j → w.heap.size < j) ∧ Below w.heap.size w wq ∧ wq.heap[w.heap.size]? = wc.heap[w.heap.size]?) (fun v4 _ => nw - (intOf v4).toNat)
  case atStart =>
    refine ⟨0, _, by omega, rfl, by simpa using HKA0.out, rfl, ?_, HBC.out, rfl⟩
    rintro j ((rfl | hj | ⟨a, ha, _⟩) | hj)
    · exact hkbw
    · simp [InA] at hj; subst hj; exact hrbw
    · simp at ha
    · simp [InA] at hj
  case round =>
    obtain ⟨k, M, hk, rfl, hka, hMP, htf, hbq, hpq⟩ := hrel
    have HKA := hid hka
    have HMP := hid hMP
    have HTQ := hid htf
    have HBQ := hid hbq
    have HPQ := hid hpq
    have HPW := hid (hpq.trans HPC.out)
    have hplt := blk_lt HPW.out
    have p3 := blk_cell HPW.out 3
    simp at p3
    clear hka hMP htf hbq hpq
    by_cases hkn : k < nw
    · have hkm : k < m.wires.length := by rw [← HNW.out]; exact hkn
      have hlen : ((m.wires.take k).map fun x => (⟨x, [], 0⟩ : Ln)).length = k := by simp; omega
      obtain ⟨wb, woff, hwA, hwb, g0, g1, g2, g3⟩ := HWS.out.wire HBQ.out hkm hkn
      subst hwA
      have hget := List.getElem?_eq_getElem hkm
      generalize m.wires[k] = x at g0 g1 g2 g3 hget
      have HGET := hid hget
      have HLN := hid hlen
      have hb5 := HKA.out.blk
      simp only [hlen] at hb5
      have HB5 := hid hb5
      have hkblt := blk_lt hb5
      have hwblt := cell_lt g0
      have c5 := blk_cell hb5 5
      have c5f := blk_free hb5 5
      simp at c5
      have HROW : Hid (∀ w', Below wr.heap.size wr w' → Row w' 60 1 M.lA k M.lc (M.ls.map ptrV)) := fun w' hb => by
        have := (HKA.out.new hb).ptrs
        simp only [hlen] at this
        exact this
      have hnk : Hid (¬ InA M.lA kb) := fun hj => by
        obtain ⟨own, o0, _, o2, _⟩ := HKA.out.own
        have := o2 kb hj
        rw [o0] at this; cases this
      have HC0 : Hid (Row ((wr.alloc (.cells #[.int .i64 x.fr, .int .i64 x.to, .int .i64 x.kind, .int .i64 x.deep, .slice none 0 0, .int .i64 0] 67)).alloc (.cells #[.pointer (some ⟨wr.heap.size, 0, none⟩)] 60)).drew 60 1 M.lA k M.lc (M.ls.map ptrV)) := HROW.out _ (((Below.refl _ _).alloc (Nat.le_refl _) _).alloc (by simp) _).drew
      have HC1 : Hid (Sl ((wr.alloc (.cells #[.int .i64 x.fr, .int .i64 x.to, .int .i64 x.kind, .int .i64 x.deep, .slice none 0 0, .int .i64 0] 67)).alloc (.cells #[.pointer (some ⟨wr.heap.size, 0, none⟩)] 60)).drew (some ⟨wr.heap.size + 1, 0, none⟩) 1 1 [.pointer (some ⟨wr.heap.size, 0, none⟩)]) :=
        ⟨rfl, fun _ => ⟨wr.heap.size + 1, 0, rfl, by simp, fun j u hu => by
          match j, hu with
          | 0, hu =>
            simp at hu; subst hu
            have := heap_alloc_new (wr.alloc (.cells #[.int .i64 x.fr, .int .i64 x.to, .int .i64 x.kind, .int .i64 x.deep, .slice none 0 0, .int .i64 0] 67)) (.cells #[.pointer (some ⟨wr.heap.size, 0, none⟩)] 60)
            rw [sz_alloc] at this
            exact blk_cell this 0⟩⟩
      have HC2 : Hid (∀ (w4 : World), Keep (InA M.lA) ((wr.alloc (.cells #[.int .i64 x.fr, .int .i64 x.to, .int .i64 x.kind, .int .i64 x.deep, .slice none 0 0, .int .i64 0] 67)).alloc (.cells #[.pointer (some ⟨wr.heap.size, 0, none⟩)] 60)).drew w4 → w4.heap[kb]? = wr.heap[kb]?) := fun w4 h =>
        (h.block kb (by show kb < ((wr.alloc _).alloc _).heap.size; simp; omega) hnk.out).trans ((blk_alloc (by simp; omega) _).trans (blk_alloc hkblt _))
      go_wp2_with fail
      go_region_law (refine step_append_row _ rfl _ _ 57 rfl 60 il0 (.pointer none) 1 8 Tryz.underlying57 hil hz0 hz1 hz2 rfl (by decide) M.lA k M.lc (M.ls.map ptrV) rfl HC0.out (some ⟨wr.heap.size + 1, 0, none⟩) 1 1 [.pointer (some ⟨wr.heap.size, 0, none⟩)] rfl HC1.out (by intro u hu; simp at hu; subst hu; rfl) (by unfold maxLen; omega) (by omega) ?_; intro lA' lc' w4 hrow4 hkeep4 hin4; have hb4 := (HC2.out w4 hkeep4).trans HB5.out; have d5 := blk_cell hb4 5; have d5f := blk_free hb4 5; simp at d5; have HR4 := hid hrow4; have HK4 := hid hkeep4; have HI4 := hid hin4; clear hrow4 hkeep4 hin4 hb4)
      all_goals
        go_wp2_with fail
        go_roundw
        case rel =>
          obtain ⟨k', M', h1, h2, h3, h4, h5, h6, h7, _⟩ := radd_line HKA.out HLN.out HGET.out hkn HMP.out HTQ.out HBQ.out HPQ.out hplt HR4.out HK4.out HI4.out
          exact ⟨k', M', h1, h2, h3, h4, h5, h6, h7⟩
        case measure => simp [intOf]; omega
    · obtain rfl : k = nw := by omega
      go_wp2_with fail
      refine bodyPost_ret (v := .pointer (some ⟨kb, 0, none⟩)) (by simp [results, Tryz.results8, go_sem]) rfl ⟨kb, M, rfl, ?_, HMP.out, fun j hj => Nat.le_of_lt (HTQ.out j hj), HBQ.out⟩
      have := HKA.out
      rw [HNW.out, List.take_length] at this
      have hk2 : kNew m.pl = ⟨List.replicate n St.zero, m.wires.map fun x => ⟨x, [], 0⟩, 0⟩ := by
        rw [HN.out]
        simp [kNew, PM.pl]
        exact List.eq_replicate_iff.2 ⟨by simp, fun b hb => by simp at hb; exact hb.2.symm⟩
      rw [hk2]; exact this
theorem rnew_any (w : World) (m : PM) (hm : PlanAt w m) (he : planChk m.pl = 0) :
    Calls Tryz.prog 8 #[.agg #[.slice m.A m.ros.length m.c, .int .i64 m.ticks, .slice m.sA m.spans.length m.sc, .slice m.wA m.wires.length m.wc]] w (RMade w m) :=
  rnew_anyW w m hm (planSmall he).ros (planSmall he).wires
end Go.Proofs.YthdmgighblhmhaaGreatDoor

/- Package frameref1, frameref2: the reference's Tick, NewKernel and Poke, for every kernel that is right. -/
namespace Go.Proofs.YthdmgighblhmhaaGreatDoor
open Go.RowKit
set_option maxRecDepth 100000
attribute [local go_sem ↓] Go.wp_at_zero Go.wp_at_succ

theorem rtick_any (w : World) (kb : Nat) (M : KM) (k : Kst) (p : Pl) (B : Int) (hp : PlOk p) (hM : M.P.pl = p) (hk : KOk p k B) (hB : B < 4611686018427387904)
    (hka : KAt 59 67 60 w kb M k) :
    Calls Tryz.prog 21 #[.pointer (some ⟨kb, 0, none⟩)] w (KTicked 59 67 60 w kb M (tick p k)) := by
  have HTB : Hid (∀ w', Below w.heap.size w w' → Calls Tryz.prog 37 #[.pointer (some ⟨kb, 0, none⟩), .slice M.P.sA M.P.spans.length M.P.sc] w' (KTicked 59 67 60 w' kb M (tick p k))) := fun w' hb => by
    have h1 := hka.new hb
    have he : M.P.spans = p.spans := by rw [← hM]; rfl
    have h2 := rtickBy_any w' kb M k p B M.P.sA M.P.sc M.P.spans hp hM hk hB h1 h1.plan.spans h1.plan.spansW (by rw [he]; exact spans_in hp)
    rw [he] at h2 ⊢
    exact h2
  have k2 := hka.cells.2.2.1
  have hkb := hka.cells.2.2.2.2.2.2.2
  have HLT := hid hka.lt
  generalize M.P.spans.length = n at HTB k2
  obtain ⟨⟨ev, k'⟩, hq⟩ : ∃ q, q = tick p k := ⟨_, rfl⟩
  rw [← hq] at HTB ⊢
  obtain ⟨a, b, c, d⟩ := ev
  clear hka hk hp hM hB hq
  go_enter Tryz.func21, Tryz.ntmps21
  go_wp2_with fail
  refine (HTB.out _ ((Below.refl _ _).alloc (Nat.le_refl _) _)).mono ?_
  rintro e w2 ⟨M', rfl, h1, h2, h3, h4⟩
  have hres : w2.heap[w.heap.size]? = some (.cells (evV 0 0 0 0) 76 (0, 0)) := (h3.block _ (by simp) fun hj => by have := HLT.out _ (.inl hj); omega).trans (heap_alloc_new w _)
  have hm : TkMid 59 67 60 w w2 kb M M' k' (w.heap.size + 1) a b c d → True := fun _ => trivial
  have hap : ∀ j, TF kb M' j → j ≠ w.heap.size := by
    rintro j (hj | hj | hj)
    · rcases h4 j hj with h5 | h5
      · have := HLT.out j (.inl h5); omega
      · simp at h5; omega
    · rw [h2.2] at hj; have := HLT.out j (.inr (.inl hj)); omega
    · rw [h2.1] at hj; have := HLT.out j (.inr (.inr hj)); omega
  have hret : KTicked 59 67 60 w kb M (⟨a, b, c, d⟩, k') (.returned (.agg #[.int .i64 a, .int .i64 b, .int .i64 c, .int .i64 d])) (put4 w2 w.heap.size (.int .i64 a) (.int .i64 b) (.int .i64 c) (.int .i64 d)) :=
    ⟨M', rfl, h1.through (put4_keep _ _ _ _ _ _) fun j hj e => hap j hj e, h2, ((Keep.refl _ _).alloc _ |>.then h3 (fun _ _ h => h)).then (put4_keep _ _ _ _ _ _) fun j hj e => by omega, fun j hj => (h4 j hj).imp_right fun h => by simp at h; omega⟩
  have hblk := put4_heap hres (.int .i64 a) (.int .i64 b) (.int .i64 c) (.int .i64 d)
  have HRT := hid hret
  have HBK := hid hblk
  have y0 := blk_cell hres 0
  have y1 := blk_cell hres 1
  have y2 := blk_cell hres 2
  have y3 := blk_cell hres 3
  have yf := fun j => blk_free hres j
  simp [evV] at y0 y1 y2 y3
  clear hres hret hblk h1 h2 h3 h4 hap hm k2
  go_wp2_with fail
  obtain ⟨wz, hwz⟩ : ∃ wz, wz = put4 w2 w.heap.size (.int .i64 a) (.int .i64 b) (.int .i64 c) (.int .i64 d) := ⟨_, rfl⟩
  have hret := HRT.out
  have hblk := HBK.out
  rw [← hwz] at hret
  unfold put4 at hwz
  rw [← hwz] at hblk ⊢
  have z0 := blk_cell hblk 0
  have z1 := blk_cell hblk 1
  have z2 := blk_cell hblk 2
  have z3 := blk_cell hblk 3
  simp at z0 z1 z2 z3
  exact bodyPost_ret (v := .agg #[.int .i64 a, .int .i64 b, .int .i64 c, .int .i64 d]) (by simp [results, Tryz.results21, go_sem, z0, z1, z2, z3]) rfl hret

/-- A kernel of the reference that runs: its plan may lie in older memory. -/
structure RRun (w wr : World) (kb : Nat) (p : Pl) (M : KM) (k : Kst) : Prop where
  kat : KAt 59 67 60 wr kb M k
  plan : M.P.pl = p
  fresh : ∀ j, KF kb M j ∨ InA M.lA j → w.heap.size ≤ j
  below : Below w.heap.size w wr
/-- What a tick leaves. -/
def RGo (w wr : World) (kb : Nat) (p : Pl) (M : KM) (q : Ev × Kst) (e : Ending) (w3 : World) : Prop :=
  ∃ M', e = .returned (.agg #[.int .i64 q.1.tick, .int .i64 q.1.room, .int .i64 q.1.pc, .int .i64 q.1.what]) ∧ RRun w w3 kb p M' q.2 ∧ Keep (KF kb M) wr w3 ∧ (∀ j, TF kb M' j → TF kb M j ∨ wr.heap.size ≤ j) ∧ M'.P = M.P
section
variable {w wr w3 : World} {kb : Nat} {p : Pl} {M M' : KM} {k k' : Kst}
theorem RRun.new (h : RRun w wr kb p M k) (hb : Below wr.heap.size wr w3) : RRun w w3 kb p M k := ⟨h.kat.new hb, h.plan, h.fresh, h.below.trans (hb.mono h.below.size)⟩
theorem RRun.ticked (h : RRun w wr kb p M k) (h1 : KAt 59 67 60 w3 kb M' k') (h2 : M'.P = M.P ∧ M'.lA = M.lA) (h3 : Keep (KF kb M) wr w3) (h4 : ∀ j, KF kb M' j → KF kb M j ∨ wr.heap.size ≤ j) : RRun w w3 kb p M' k' := by
  have s1 := h.below.size
  refine ⟨h1, by rw [h2.1]; exact h.plan, fun j hj => ?_, Keep.below (F := NoF) ((Keep.of_below NoF h.below).then h3 fun j hj hk => by have := h.fresh j (.inl hk); omega) (Nat.le_refl _) (fun j h => h.elim)⟩
  rcases hj with hj | hj
  · rcases h4 j hj with h5 | h5
    · exact h.fresh j (.inl h5)
    · omega
  · rw [h2.2] at hj; exact h.fresh j (.inr hj)
theorem RRun.base {w0 : World} (h : RRun w wr kb p M k) (hb : Below w0.heap.size w0 w) : RRun w0 wr kb p M k :=
  ⟨h.kat, h.plan, fun j hj => Nat.le_trans hb.size (h.fresh j hj), hb.trans (h.below.mono hb.size)⟩
theorem rtick_run (h : RRun w wr kb p M k) {B : Int} (hp : PlOk p) (hk : KOk p k B) (hB : B < 4611686018427387904) : Calls Tryz.prog 21 #[.pointer (some ⟨kb, 0, none⟩)] wr (RGo w wr kb p M (tick p k)) :=
  (rtick_any wr kb M k p B hp h.plan hk hB h.kat).mono fun _ _ ⟨M', h1, h2, h3, h4, h5⟩ => ⟨M', h1, h.ticked h2 h3 h4 h5, h4, by
    rintro j (hj | hj | hj)
    · exact (h5 j hj).imp_left .inl
    · rw [h3.2] at hj; exact .inl (.inr (.inl hj))
    · rw [h3.1] at hj; exact .inl (.inr (.inr hj)), h3.1⟩
/-- A new one. -/
def RNewd (w : World) (m : PM) (e : Ending) (w' : World) : Prop := ∃ kb M, e = .returned (.pointer (some ⟨kb, 0, none⟩)) ∧ RRun w w' kb m.pl M (kNew m.pl) ∧ M.P = m
theorem rnew_run (w : World) (m : PM) (hm : PlanAt w m) (he : planChk m.pl = 0) :
    Calls Tryz.prog 8 #[.agg #[.slice m.A m.ros.length m.c, .int .i64 m.ticks, .slice m.sA m.spans.length m.sc, .slice m.wA m.wires.length m.wc]] w (RNewd w m) :=
  (rnew_any w m hm he).mono fun _ _ ⟨kb, M, h1, h2, h3, h4, h5⟩ => ⟨kb, M, h1, ⟨h2, by rw [h3], h4, h5⟩, h3⟩
end
/-- The program's kernel and the reference's, apart. -/
structure RPair (w wr : World) (kb : Nat) (p : Pl) (M : KM) (k : Kst) (mb : Nat) (N : KM) (m : Kst) : Prop where
  a : KRun w wr kb p M k
  b : RRun w wr mb p N m
  old : ∀ j, planF N.P j → j < w.heap.size
  apart : ∀ j, TF kb M j → ¬ TF mb N j
section
variable {w wr w3 : World} {kb mb : Nat} {p : Pl} {M M' N N' : KM} {k k' m m' : Kst}
theorem RPair.new (h : RPair w wr kb p M k mb N m) (hb : Below wr.heap.size wr w3) : RPair w w3 kb p M k mb N m := ⟨h.a.new hb, h.b.new hb, h.old, h.apart⟩
theorem RPair.goA (h : RPair w wr kb p M k mb N m) (h1 : KRun w w3 kb p M' k') (h3 : Keep (KF kb M) wr w3) (h4 : ∀ j, TF kb M' j → TF kb M j ∨ wr.heap.size ≤ j) : RPair w w3 kb p M' k' mb N m := by
  have hlt := h.b.kat.lt
  refine ⟨h1, ⟨h.b.kat.through h3 fun j hj hf => h.apart j (.inl hf) hj, h.b.plan, h.b.fresh, h1.below⟩, h.old, fun j hj hn => ?_⟩
  rcases h4 j hj with h5 | h5
  · exact h.apart j h5 hn
  · have := hlt j hn; omega
theorem RPair.goB (h : RPair w wr kb p M k mb N m) (h1 : RRun w w3 mb p N' m') (h3 : Keep (KF mb N) wr w3) (h4 : ∀ j, TF mb N' j → TF mb N j ∨ wr.heap.size ≤ j) (h5 : N'.P = N.P) : RPair w w3 kb p M k mb N' m' := by
  have hlt := h.a.kat.lt
  refine ⟨⟨h.a.kat.through h3 fun j hj hf => h.apart j hj (.inl hf), h.a.plan, h.a.fresh, h1.below⟩, h1, by rw [h5]; exact h.old, fun j hj hn => ?_⟩
  rcases h4 j hn with h6 | h6
  · exact h.apart j hj h6
  · have := hlt j hj; omega
/-- The reference's is made beside the program's. -/
theorem RPair.mk' {m0 : PM} (h : KRun w wr kb p M k) (hb : RRun wr w3 mb p N m) (hP : N.P = m0) (hold : PlanAt w m0) : RPair w w3 kb p M k mb N m := by
  have hlt := h.kat.lt
  have holt := hold.lt
  refine ⟨h.new hb.below, hb.base h.below, by rw [hP]; exact holt, fun j h1 h2 => ?_⟩
  have h3 := hlt j h1
  rcases h2 with h2 | h2 | h2
  · have := hb.fresh j (.inl h2); omega
  · have := hb.fresh j (.inr h2); omega
  · rw [hP] at h2; have := holt j h2; have := h.fresh j h1; omega
theorem RPair.pokedA (h : RPair w wr kb p M k mb N m) (h1 : KAt 88 120 90 w3 kb M k') (h3 : Keep (KF kb M) wr w3) : RPair w w3 kb p M k' mb N m :=
  h.goA (h.a.ticked h1 ⟨rfl, rfl⟩ h3 fun _ hj => .inl hj) h3 fun _ hj => .inl hj
theorem RPair.pokedB (h : RPair w wr kb p M k mb N m) (h1 : KAt 59 67 60 w3 mb N m') (h3 : Keep (KF mb N) wr w3) : RPair w w3 kb p M k mb N m' :=
  h.goB (h.b.ticked h1 ⟨rfl, rfl⟩ h3 fun _ hj => .inl hj) h3 (fun _ hj => .inl hj) rfl
end
section
variable {kb : Nat} {w : World} {M : KM} {k : Kst}
def RPoked (w : World) (kb : Nat) (M : KM) (k' : Kst) (e : Ending) (w' : World) : Prop := e = .returned (.int .i64 0) ∧ KAt 59 67 60 w' kb M k' ∧ Keep (KF kb M) w w' ∧ w'.heap.size = w.heap.size
theorem rpoke_bad (r c v : Int) (_hn : k.rooms.length ≤ 5) (hka : KAt 59 67 60 w kb M k) (hb : pokeOk k.rooms.length r c v = false) :
    Calls Tryz.prog 24 #[.pointer (some ⟨kb, 0, none⟩), .int .i64 r, .int .i64 c, .int .i64 v] w fun e w' => e = .returned (.int .i64 1) ∧ w = w' := by
  obtain ⟨k0, k1, k2, k4, k5, k6, kf, hkb⟩ := hka.cells
  have hbad : ¬ (0 ≤ r ∧ r < k.rooms.length ∧ 0 ≤ c ∧ c < 6 ∧ 0 ≤ v ∧ v < 1000) := by simpa [pokeOk] using hb
  generalize k.rooms.length = n at _hn k4 hbad
  have hcv : r < 0 ∨ (n : Int) ≤ r ∧ 0 ≤ r ∨ c < 0 ∧ 0 ≤ r ∧ r < n ∨ 6 ≤ c ∧ 0 ≤ c ∧ 0 ≤ r ∧ r < n ∨ v < 0 ∧ 0 ≤ c ∧ c < 6 ∧ 0 ≤ r ∧ r < n ∨ 1000 ≤ v ∧ 0 ≤ v ∧ 0 ≤ c ∧ c < 6 ∧ 0 ≤ r ∧ r < n := by omega
  clear hb hbad k0 k1 k2 k5 k6 kf hka
  rcases hcv with h | ⟨h, h0⟩ | ⟨h, h0, h1⟩ | ⟨h, h0, h1, h2⟩ | ⟨h, h0, h1, h2, h3⟩ | ⟨h, h0, h1, h2, h3, h4⟩
  all_goals
    go_enter Tryz.func24, Tryz.ntmps24
    go_wp2_with fail
    go_ret
    exact ⟨rfl, rfl⟩
theorem rpoke_ok (r c v : Int) (_hn : k.rooms.length ≤ 5) (hka : KAt 59 67 60 w kb M k) (hb : pokeOk k.rooms.length r c v = true) :
    Calls Tryz.prog 24 #[.pointer (some ⟨kb, 0, none⟩), .int .i64 r, .int .i64 c, .int .i64 v] w (RPoked w kb M (pokeK k r c v)) := by
  obtain ⟨k0, k1, k2, k4, k5, k6, kf, hkb⟩ := hka.cells
  have hok : 0 ≤ r ∧ r < k.rooms.length ∧ 0 ≤ c ∧ c < 6 ∧ 0 ≤ v ∧ v < 1000 := by simpa [pokeOk] using hb
  obtain ⟨h0, h1, h2, h3, h4, h5⟩ := hok
  obtain ⟨R, rfl⟩ : ∃ R : Nat, r = R := ⟨r.toNat, by omega⟩
  obtain ⟨C, rfl⟩ : ∃ C : Nat, c = C := ⟨c.toNat, by omega⟩
  have hg : k.rooms[R]? = some (k.rooms.getD R St.zero) := by
    rw [List.getD_eq_getElem?_getD, List.getElem?_eq_getElem (by omega)]; rfl
  have hC : C < 6 := by omega
  unfold pokeK
  rw [Int.toNat_natCast, Int.toNat_natCast]
  generalize k.rooms.getD R St.zero = s at hg ⊢
  obtain ⟨rb, roff, hrA, hst, hrf, hrb, hrkb, hrl, hrc, hrm⟩ := hka.room hg
  have hput := hka.pokeRoom hrA hg hC v
  have hkeep : Keep (KF kb M) w (w.setCell ⟨rb, roff + R * 8 + 1 + C, none⟩ (.int .i64 v)) := (Keep.refl _ _).setCell (.inl (.inr (.inl (by rw [hrA]; rfl)))) _
  have HPUT := hid hput
  have HKEEP := hid hkeep
  have hold : ∃ u, w.cell? ⟨rb, roff + R * 8 + 1 + C, none⟩ = some u := by
    obtain ⟨s0, s1, s2, s3, s4, s5, s6, s7⟩ := hst
    rcases six hC with rfl | rfl | rfl | rfl | rfl | rfl
    · exact ⟨_, s1⟩
    · exact ⟨_, s2⟩
    · exact ⟨_, s3⟩
    · exact ⟨_, s4⟩
    · exact ⟨_, s5⟩
    · exact ⟨_, s6⟩
  obtain ⟨u, hu⟩ := hold
  have hfz := hrf (roff + R * 8 + 1 + C)
  rw [hrA] at k4
  generalize k.rooms.length = n at k4 _hn hrl hrc h1
  unfold maxLen at hrm
  clear hput hkeep hst hrf hg hb k0 k1 k2 k5 k6 kf hka hrA
  go_enter Tryz.func24, Tryz.ntmps24
  go_wp2_with fail
  go_ret
  exact ⟨rfl, HPUT.out, HKEEP.out, sz_set _ _ _⟩
end
end Go.Proofs.YthdmgighblhmhaaGreatDoor
