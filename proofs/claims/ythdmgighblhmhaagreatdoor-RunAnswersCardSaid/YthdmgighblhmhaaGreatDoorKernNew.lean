/- Package kernel: the contract of New, for every plan. -/
import Derived.Test.YthdmgighblhmhaaGreatDoorKernU
import Derived.Test.YthdmgighblhmhaaGreatDoorOwnU
import Derived.Laws.MakeOwn
namespace Go.Proofs.YthdmgighblhmhaaGreatDoor
open Go.RowKit
set_option maxRecDepth 100000
attribute [local go_sem ↓] Go.wp_at_zero Go.wp_at_succ

theorem planSmall {m : PM} (h : planChk m.pl = 0) : PMSmall m := by
  have h := planChk_ok h
  refine ⟨by have := h.most5; simpa [PM.pl] using this, fun r hr => ?_, ?_, ?_⟩
  · have := h.codes r.ops (by simp only [PM.pl]; exact List.mem_map_of_mem hr)
    exact (codeChk_ok this).2.1
  · exact (frameChk_ticks h.frame).2.2
  · exact (flowChk_ok h.flow).1

theorem kern_new_bad (w : World) (m : PM) (hf : Forms w) (hm : PlanAt w m) (he : planChk m.pl ≠ 0) :
    Calls Tryz.prog 12 #[.agg #[.slice m.A m.ros.length m.c, .int .i64 m.ticks, .slice m.sA m.spans.length m.sc, .slice m.wA m.wires.length m.wc]] w
      fun e w' => e = .returned (.tuple #[.pointer none, errV (planChk m.pl)]) ∧ Below w.heap.size w w' := by
  have HCK : Hid (∀ w', Below w.heap.size w w' → Calls Tryz.prog 25 #[.agg #[.slice m.A m.ros.length m.c, .int .i64 m.ticks, .slice m.sA m.spans.length m.sc, .slice m.wA m.wires.length m.wc]] w' fun e w'' => e = .returned (errV (planChk m.pl)) ∧ Below w'.heap.size w' w'') :=
    fun w' hb => plan_check m w' (hf.new hb) (hm.new hb)
  generalize planChk m.pl = E at he HCK ⊢
  have hv := errV_pos he
  rw [hv] at HCK ⊢
  generalize m.ros.length = n at HCK ⊢
  generalize m.spans.length = ns at HCK ⊢
  generalize m.wires.length = nw at HCK ⊢
  obtain ⟨A0, c0, _, tk, sA0, sc0, _, wA0, wc0, _⟩ := m
  simp only [] at HCK ⊢
  clear hv hm hf
  go_enter Tryz.func12, Tryz.ntmps12
  go_wp2_with (go_at_call 25; refine (HCK.out _ ((Below.refl _ _).alloc (Nat.le_refl _) _)).mono ?_; rintro e w1 ⟨rfl, hb1⟩)
  go_ret2
  exact ⟨rfl, ((Below.refl _ _).alloc (Nat.le_refl _) _).trans (hb1.mono (by simp))⟩

def KMade (w : World) (m : PM) (e : Ending) (w' : World) : Prop :=
  ∃ kb M, e = .returned (.tuple #[.pointer (some ⟨kb, 0, none⟩), .nilIface]) ∧ KAt 88 120 90 w' kb M (kNew m.pl) ∧ M.P.pl = m.pl ∧ (∀ j, TF kb M j → w.heap.size ≤ j) ∧ Below w.heap.size w w'
theorem Tryz.infoSt : (Tryz.prog.info? 81).map (fun i => (i.zero, i.size, i.bytes)) = some (some (.agg #[.int .i64 0, .int .i64 0, .int .i64 0, .int .i64 0, .int .i64 0, .int .i64 0, .int .i64 0, .bool false]), 8, 64) := by kernel_rfl
theorem Tryz.infoPLn : (Tryz.prog.info? 90).map (fun i => (i.zero, i.size, i.bytes)) = some (some (.pointer none), 1, 8) := by kernel_rfl
theorem made_states {n : Nat} (h : n ≤ 5) : madeCells (Value.agg #[.int .i64 0, .int .i64 0, .int .i64 0, .int .i64 0, .int .i64 0, .int .i64 0, .int .i64 0, .bool false]).cells (n * 8) = ((List.replicate n St.zero).flatMap St.cells).toArray := by
  rcases (show n = 0 ∨ n = 1 ∨ n = 2 ∨ n = 3 ∨ n = 4 ∨ n = 5 by omega) with rfl | rfl | rfl | rfl | rfl | rfl <;> kernel_rfl
theorem run_makeRooms {n : Nat} (h : n ≤ 5) (w : World) : (Instr.makeSlice 56 (.int .i64 n) (.int .i64 n)).run Tryz.prog w = .ok (.slice (some ⟨w.heap.size, 0, none⟩) n n) (w.alloc (.cells ((List.replicate n St.zero).flatMap St.cells).toArray 81)) := by
  obtain ⟨i0, hi, hz0, hz1, hz2⟩ := info_parts Tryz.infoSt
  have := run_make (P := Tryz.prog) w 56 81 i0 _ Tryz.underlying56 hi hz0 .i64 .i64 n n (by omega) (by omega) (by rw [hz2]; omega) (by omega)
  rw [this, hz1, Int.toNat_natCast, made_states h]
theorem rooms_row {w : World} {rb n : Nat} (h : w.heap[rb]? = some (.cells ((List.replicate n St.zero).flatMap St.cells).toArray 81 (0, 0))) (hn : n ≤ 5) : Row w 81 8 (some ⟨rb, 0, none⟩) n n ((List.replicate n St.zero).flatMap St.cells) := by
  have hl : ((List.replicate n St.zero).flatMap St.cells).length = n * 8 := by rw [flatMap_len St.cells 8 St.len, List.length_replicate]
  refine ⟨hl, .inr ⟨rb, 0, _, rfl, h, Nat.le_refl _, by unfold maxLen; omega, by simp only [List.size_toArray]; omega, fun j u hu => ?_⟩⟩
  rw [Nat.zero_add]; simpa using hu
/-- The world in which the kernel's block is made. -/
def KStart (w : World) (m : PM) (v5 : Value) (wx : World) : Prop :=
  ∃ kb rb P, v5 = .pointer (some ⟨kb, 0, none⟩) ∧ KAt 88 120 90 wx kb ⟨P, some ⟨rb, 0, none⟩, m.ros.length, none, 0, []⟩ ⟨List.replicate m.ros.length St.zero, [], 0⟩ ∧ P.pl = m.pl ∧ (∀ j, TF kb ⟨P, some ⟨rb, 0, none⟩, m.ros.length, none, 0, []⟩ j → w.heap.size < j) ∧ Below w.heap.size w wx ∧
    wx.heap[w.heap.size]? = some (.cells #[.slice m.A m.ros.length m.c, .int .i64 m.ticks, .slice m.sA m.spans.length m.sc, .slice m.wA m.wires.length m.wc] 31 (0, 0))

theorem kStart_mk {w wx : World} {m P : PM} {kb rb n : Nat} (hn : n = m.ros.length) (hn5 : n ≤ 5) (hpl : P.pl = m.pl)
    (hblk : wx.heap[kb]? = some (.cells #[.slice P.A P.ros.length P.c, .int .i64 P.ticks, .slice P.sA P.spans.length P.sc, .slice P.wA P.wires.length P.wc, .slice (some ⟨rb, 0, none⟩) n n, .slice none 0 0, .int .i64 0] 88 (0, 0)))
    (hrb : wx.heap[rb]? = some (.cells ((List.replicate n St.zero).flatMap St.cells).toArray 81 (0, 0))) (hp : PlanAt wx P) (h1 : rb ≠ kb) (h2 : ∀ j, planF P j → j ≠ kb ∧ j ≠ rb ∧ w.heap.size < j) (h3 : w.heap.size < kb) (h4 : w.heap.size < rb)
    (hb : Below w.heap.size w wx) (hpb : wx.heap[w.heap.size]? = some (.cells #[.slice m.A m.ros.length m.c, .int .i64 m.ticks, .slice m.sA m.spans.length m.sc, .slice m.wA m.wires.length m.wc] 31 (0, 0))) :
    KStart w m (.pointer (some ⟨kb, 0, none⟩)) wx := by
  subst hn
  refine ⟨kb, rb, P, rfl, kAt_start hblk hp (rooms_row hrb hn5) h1 fun j hj => ⟨(h2 j hj).1, (h2 j hj).2.1⟩, hpl, ?_, hb, hpb⟩
  rintro j ((rfl | hj | ⟨a, ha, _⟩) | hj | hj)
  · exact h3
  · simp [InA] at hj; subst hj; exact h4
  · simp at ha
  · simp [InA] at hj
  · exact (h2 j hj).2.2

theorem kStart_a {w w1 w2 : World} {m P : PM} {n : Nat} (hn : n = m.ros.length) (hn5 : n ≤ 5) (hpl : P.pl = m.pl) (hb1 : Below w.heap.size w w1)
    (hpa : w1.heap[w.heap.size]? = some (.cells #[.slice m.A m.ros.length m.c, .int .i64 m.ticks, .slice m.sA m.spans.length m.sc, .slice m.wA m.wires.length m.wc] 31 (0, 0)))
    (hp : PlanAt w2 P) (hf : ∀ j, planF P j → w1.heap.size ≤ j) (hb2 : Below w1.heap.size w1.drew w2) :
    KStart w m (.pointer (some ⟨w2.heap.size + 1, 0, none⟩)) ((w2.alloc (.cells ((List.replicate n St.zero).flatMap St.cells).toArray 81)).alloc (.cells #[.slice P.A P.ros.length P.c, .int .i64 P.ticks, .slice P.sA P.spans.length P.sc, .slice P.wA P.wires.length P.wc, .slice (some ⟨w2.heap.size, 0, none⟩) n n, .slice none 0 0, .int .i64 0] 88)) := by
  have hlt := hp.lt
  have h1 := blk_lt hpa
  have h2 : w1.heap.size ≤ w2.heap.size := hb2.size
  have hb12 : Below w.heap.size w w2 := hb1.drew.trans (hb2.mono (Nat.le_of_lt h1))
  refine kStart_mk (rb := w2.heap.size) hn hn5 hpl ?_ ?_ ?_ (by omega) (fun j hj => ?_) (by omega) (by omega) ?_ ?_
  · rw [hp_alloc, if_pos (by simp)]
  · rw [hp_alloc, if_neg (by simp), hp_alloc, if_pos rfl]
  · exact hp.new (((Below.refl _ _).alloc (Nat.le_refl _) _).alloc (by simp) _)
  · have := hlt j hj; have := hf j hj; omega
  · exact (hb12.alloc hb12.size _).alloc (by rw [sz_alloc]; omega) _
  · rw [hp_alloc, if_neg (by simp; omega), hp_alloc, if_neg (by omega)]
    exact (hb2.block _ h1).trans hpa
theorem kStart_b {w w1 w2 : World} {m P : PM} {n : Nat} (hn : n = m.ros.length) (hn5 : n ≤ 5) (hpl : P.pl = m.pl) (hb1 : Below w.heap.size w w1)
    (hpa : w1.heap[w.heap.size]? = some (.cells #[.slice m.A m.ros.length m.c, .int .i64 m.ticks, .slice m.sA m.spans.length m.sc, .slice m.wA m.wires.length m.wc] 31 (0, 0)))
    (hp : PlanAt w2 P) (hf : ∀ j, planF P j → w1.heap.size + 1 ≤ j) (hb2 : Below (w1.heap.size + 1) (w1.alloc (.cells ((List.replicate n St.zero).flatMap St.cells).toArray 81)).drew w2) :
    KStart w m (.pointer (some ⟨w2.heap.size, 0, none⟩)) (w2.alloc (.cells #[.slice P.A P.ros.length P.c, .int .i64 P.ticks, .slice P.sA P.spans.length P.sc, .slice P.wA P.wires.length P.wc, .slice (some ⟨w1.heap.size, 0, none⟩) n n, .slice none 0 0, .int .i64 0] 88)) := by
  have hlt := hp.lt
  have h1 := blk_lt hpa
  have hs : (w1.alloc (.cells ((List.replicate n St.zero).flatMap St.cells).toArray 81)).drew.heap.size = w1.heap.size + 1 := sz_alloc _ _
  have h2 : w1.heap.size + 1 ≤ w2.heap.size := by have := hb2.size; omega
  have hb12 : Below w.heap.size w w2 := (hb1.alloc hb1.size _).drew.trans (hb2.mono (by omega))
  refine kStart_mk (rb := w1.heap.size) hn hn5 hpl (heap_alloc_new _ _) ?_ ?_ (by omega) (fun j hj => ?_) (by omega) (by omega) ?_ ?_
  · rw [hp_alloc, if_neg (by omega), hb2.block _ (by omega)]
    exact heap_alloc_new w1 _
  · exact hp.new ((Below.refl _ _).alloc (Nat.le_refl _) _)
  · have := hlt j hj; have := hf j hj; omega
  · exact hb12.alloc hb12.size _
  · rw [hp_alloc, if_neg (by omega), hb2.block _ (by omega)]
    exact (blk_alloc h1 _).trans hpa

theorem set_rep (n i : Nat) (z : St) : (List.replicate n z).set i z = List.replicate n z := by
  apply List.ext_getElem?
  intro j
  rw [List.getElem?_set, List.length_replicate, List.getElem?_replicate]
  by_cases h : i = j
  · subst h; rw [if_pos rfl]
  · rw [if_neg h]
theorem room_round {TK TL TP : Nat} {w wr w2 wc : World} {kb rb i n : Nat} {P : PM} (hk : KAt TK TL TP wr kb ⟨P, some ⟨rb, 0, none⟩, n, none, 0, []⟩ ⟨List.replicate n St.zero, [], 0⟩) (hb : Below w.heap.size w wr) (hp : wr.heap[w.heap.size]? = wc.heap[w.heap.size]?)
    (hpl : w.heap.size < wr.heap.size) (hrb : w.heap.size < rb) (hi : i < n) (hb2 : Below wr.heap.size wr w2) :
    KAt TK TL TP (putAt w2 rb (i * 8) St.zero) kb ⟨P, some ⟨rb, 0, none⟩, n, none, 0, []⟩ ⟨List.replicate n St.zero, [], 0⟩ ∧ Below w.heap.size w (putAt w2 rb (i * 8) St.zero) ∧ (putAt w2 rb (i * 8) St.zero).heap[w.heap.size]? = wc.heap[w.heap.size]? := by
  have h1 := (hk.new hb2).putRoomAt (rb := rb) (roff := 0) (r := i) (o := i * 8) rfl (by omega) (s := St.zero) (by show (List.replicate n St.zero)[i]? = _; rw [List.getElem?_replicate, if_pos hi]) St.zero
  rw [set_rep] at h1
  have hb3 : Below w.heap.size w w2 := hb.trans (hb2.mono hb.size)
  refine ⟨h1, ?_, ?_⟩
  · exact Keep.below ((Keep.of_below NoF hb3).then (G := fun k => k = rb) (putAt_keep _ _ _ _) (fun j hj h => by omega)) (Nat.le_refl _) (fun j h => h.elim)
  · rw [putAt_far _ _ _ _ _ (by omega), hb2.block _ hpl]; exact hp

set_option maxHeartbeats 4000000 in
theorem kern_new_ok (w : World) (m : PM) (hf : Forms w) (hm : PlanAt w m) (he : planChk m.pl = 0) :
    Calls Tryz.prog 12 #[.agg #[.slice m.A m.ros.length m.c, .int .i64 m.ticks, .slice m.sA m.spans.length m.sc, .slice m.wA m.wires.length m.wc]] w (KMade w m) := by
  have hsm := planSmall he
  have HCK : Hid (∀ w', Below w.heap.size w w' → Calls Tryz.prog 25 #[.agg #[.slice m.A m.ros.length m.c, .int .i64 m.ticks, .slice m.sA m.spans.length m.sc, .slice m.wA m.wires.length m.wc]] w' fun e w'' => e = .returned .nilIface ∧ Below w'.heap.size w' w'') :=
    fun w' hb => (plan_check m w' (hf.new hb) (hm.new hb)).mono fun e w'' h => by rw [he, errV_zero] at h; exact h
  have HOWN : Hid (∀ w', Below w.heap.size w w' → Calls Tryz.prog 26 #[.agg #[.slice m.A m.ros.length m.c, .int .i64 m.ticks, .slice m.sA m.spans.length m.sc, .slice m.wA m.wires.length m.wc]] w' (Owned w' m)) :=
    fun w' hb => own_any w' m (hm.new hb) hsm
  have HM := hid hm
  have HE := hid he
  have HSM := hid hsm
  have hn5 := hsm.ros
  obtain ⟨n, hn⟩ : ∃ n, n = m.ros.length := ⟨_, rfl⟩
  obtain ⟨ns, hns⟩ : ∃ ns, ns = m.spans.length := ⟨_, rfl⟩
  obtain ⟨nw, hnw⟩ : ∃ nw, nw = m.wires.length := ⟨_, rfl⟩
  obtain ⟨A0, hA0⟩ : ∃ a, a = m.A := ⟨_, rfl⟩
  obtain ⟨c0, hc0⟩ : ∃ a, a = m.c := ⟨_, rfl⟩
  obtain ⟨tk, htk⟩ : ∃ a, a = m.ticks := ⟨_, rfl⟩
  obtain ⟨sA0, hsA0⟩ : ∃ a, a = m.sA := ⟨_, rfl⟩
  obtain ⟨sc0, hsc0⟩ : ∃ a, a = m.sc := ⟨_, rfl⟩
  obtain ⟨wA0, hwA0⟩ : ∃ a, a = m.wA := ⟨_, rfl⟩
  obtain ⟨wc0, hwc0⟩ : ∃ a, a = m.wc := ⟨_, rfl⟩
  have HEQ : Hid (n = m.ros.length ∧ ns = m.spans.length ∧ nw = m.wires.length ∧ A0 = m.A ∧ c0 = m.c ∧ tk = m.ticks ∧ sA0 = m.sA ∧ sc0 = m.sc ∧ wA0 = m.wA ∧ wc0 = m.wc) := ⟨hn, hns, hnw, hA0, hc0, htk, hsA0, hsc0, hwA0, hwc0⟩
  have HPV : Hid ((.agg #[.slice m.A m.ros.length m.c, .int .i64 m.ticks, .slice m.sA m.spans.length m.sc, .slice m.wA m.wires.length m.wc] : Value) = .agg #[.slice A0 n c0, .int .i64 tk, .slice sA0 ns sc0, .slice wA0 nw wc0]) := by
    show (_ : Value) = _
    rw [hn, hns, hnw, hA0, hc0, htk, hsA0, hsc0, hwA0, hwc0]
  rw [HPV.out] at HCK HOWN ⊢
  rw [← hn] at hn5
  clear hm he hsm hf hn hns hnw hA0 hc0 htk hsA0 hsc0 hwA0 hwc0
  go_enter Tryz.func12, Tryz.ntmps12
  go_upto_region 4 with (go_at_call 25; refine (HCK.out _ ((Below.refl _ _).alloc (Nat.le_refl _) _)).mono ?_; rintro e w1 ⟨rfl, hb1⟩; have HB1 := hid hb1; clear hb1)
  have HPA := hid ((HB1.out.block _ (by simp)).trans (heap_alloc_new w _))
  have HB1W : Hid (Below w.heap.size w w1) := ((Below.refl _ _).alloc (Nat.le_refl _) _).trans (HB1.out.mono (by simp))
  have HPM : Hid (w1.heap[w.heap.size]? = some (.cells #[.slice m.A m.ros.length m.c, .int .i64 m.ticks, .slice m.sA m.spans.length m.sc, .slice m.wA m.wires.length m.wc] 31 (0, 0))) := by
    obtain ⟨e1, e2, e3, e4, e5, e6, e7, e8, e9, e10⟩ := HEQ.out
    have := HPA.out
    subst e1 e2 e3 e4 e5 e6 e7 e8 e9 e10
    exact this
  have p0 := blk_cell HPA.out 0
  have p1 := blk_cell HPA.out 1
  have p2 := blk_cell HPA.out 2
  have p3 := blk_cell HPA.out 3
  simp at p0 p1 p2 p3
  have hplt : w.heap.size < w1.heap.size := blk_lt HPA.out
  have hmk := fun w => run_makeRooms hn5 w
  clear HB1
  go_cut [5] (fun v5 wx => KStart w m v5 wx)
  case first =>
    go_region_held3 (fun w' => w'.cell? ⟨w.heap.size, 0, none⟩ = some (.slice A0 n c0) ∧ w'.cell? ⟨w.heap.size, 1, none⟩ = some (.int .i64 tk) ∧ w'.cell? ⟨w.heap.size, 2, none⟩ = some (.slice sA0 ns sc0) ∧ w'.cell? ⟨w.heap.size, 3, none⟩ = some (.slice wA0 nw wc0))
      (first | go_keep | exact ⟨‹_›, ‹_›, ‹_›, ‹_›⟩)
      (first | (go_at_call 26; refine (HOWN.out _ (by first | exact HB1W.out.drew | exact (HB1W.out.alloc HB1W.out.size _).drew)).mono ?_; rintro e w2 ⟨P, rfl, hpt, hpl, hrow, hfr, hb2⟩; have HPT := hid hpt; have HPL := hid hpl; have HFR := hid hfr; have HB2 := hid hb2; have k0 : w2.cell? ⟨w.heap.size, 0, none⟩ = some (.slice A0 n c0) := (hb2.cell (p := ⟨w.heap.size, 0, none⟩) (by simp; omega)).trans (by first | assumption | simp [*]); have k1 : w2.cell? ⟨w.heap.size, 1, none⟩ = some (.int .i64 tk) := (hb2.cell (p := ⟨w.heap.size, 1, none⟩) (by simp; omega)).trans (by first | assumption | simp [*]); have k2 : w2.cell? ⟨w.heap.size, 2, none⟩ = some (.slice sA0 ns sc0) := (hb2.cell (p := ⟨w.heap.size, 2, none⟩) (by simp; omega)).trans (by first | assumption | simp [*]); have k3 : w2.cell? ⟨w.heap.size, 3, none⟩ = some (.slice wA0 nw wc0) := (hb2.cell (p := ⟨w.heap.size, 3, none⟩) (by simp; omega)).trans (by first | assumption | simp [*]); clear hpt hpl hrow hfr hb2))
    all_goals
      go_wp2_with fail
      go_meet
      first
        | exact kStart_a HEQ.out.1 hn5 HPL.out HB1W.out HPM.out HPT.out HFR.out HB2.out
        | (refine kStart_b HEQ.out.1 hn5 HPL.out HB1W.out HPM.out HPT.out ?_ ?_
           · have := HFR.out; simpa using this
           · have := HB2.out; simpa using this)
  case rest =>
    obtain ⟨kb, rb, P, rfl, hk, hpl, htf, hbw, hpb⟩ := hcut
    rw [← HEQ.out.1] at hk htf
    have HPL := hid hpl
    have HBW := hid hbw
    have HTF := hid htf
    have hkbw : w.heap.size < kb := htf kb (.inl (.inl rfl))
    have hrbw : w.heap.size < rb := htf rb (.inl (.inr (.inl rfl)))
    have hne : kb ≠ rb := by
      obtain ⟨own, o0, o1, _⟩ := hk.own
      rintro rfl
      have := o1 kb rfl
      rw [o0] at this; cases this
    have hk4 := blk_cell hk.blk 4
    simp at hk4
    replace hpb : wc.heap[w.heap.size]? = some (.cells #[.slice A0 n c0, .int .i64 tk, .slice sA0 ns sc0, .slice wA0 nw wc0] 31 (0, 0)) := by
      obtain ⟨e1, e2, e3, e4, e5, e6, e7, e8, e9, e10⟩ := HEQ.out
      rw [e1, e2, e3, e4, e5, e6, e7, e8, e9, e10]; exact hpb
    have HK := hid hk
    have HPB := hid hpb
    clear p0 p1 p2 p3 hpl htf hbw hpb hk hplt HPA HPM
    go_wp2_with fail
    go_loopw [29, 6] (fun v29 v6 wr => ∃ i : Nat, i ≤ n ∧ v29 = .int .i64 i ∧ KAt 88 120 90 wr kb ⟨P, some ⟨rb, 0, none⟩, n, none, 0, []⟩ ⟨List.replicate n St.zero, [], 0⟩ ∧ Below w.heap.size w wr ∧ wr.heap[w.heap.size]? = wc.heap[w.heap.size]?) (fun v29 _ _ => n - (intOf v29).toNat)
    case atStart => exact ⟨0, by omega, rfl, HK.out, HBW.out, rfl⟩
    case round =>
      obtain ⟨i, hi, rfl, hk, hb, hpb⟩ := hrel
      have HKR := hid hk
      have HBR := hid hb
      have HPR := hid hpb
      have k4 := blk_cell hk.blk 4
      simp at k4
      clear hk hb hpb
      by_cases hin : i < n
      · obtain ⟨b', off', cur, hA', hh, hsz, _, _, _, hx⟩ := HKR.out.rooms.elem St.cells St.len (by decide) (i := i) (x := St.zero) (by rw [List.getElem?_replicate, if_pos hin])
        cases hA'
        have HH := hid hh
        have HC : Hid (∀ j u, St.zero.cells[j]? = some u → wr.cell? ⟨rb, i * 8 + j, none⟩ = some u) := fun j u hu => by
          have := hx j u hu
          rw [Nat.zero_add] at this
          exact (blk_cell hh _).trans this
        have HF : Hid (∀ o, wr.frozen? ⟨rb, o, none⟩ = false) := fun o => blk_free hh o
        clear hh hx hsz
        go_wp2_with fail
        have HRR : Hid (∀ w2, Below wr.heap.size wr w2 → KAt 88 120 90 (putAt w2 rb (i * 8) St.zero) kb ⟨P, some ⟨rb, 0, none⟩, n, none, 0, []⟩ ⟨List.replicate n St.zero, [], 0⟩ ∧ Below w.heap.size w (putAt w2 rb (i * 8) St.zero) ∧ (putAt w2 rb (i * 8) St.zero).heap[w.heap.size]? = wc.heap[w.heap.size]?) :=
          fun w2 hb2 => room_round HKR.out HBR.out HPR.out (blk_lt (HPR.out.trans HPB.out)) hrbw hin hb2
        clear HTF HBW HK HSM HM HE HCK HOWN HPV HB1W HPL HEQ HBR hmk
        go_region_with (first | (go_at_call 27; refine (room_new _).mono ?_; rintro e w2 ⟨rfl, hb2⟩; unfold stV; have HB2 := hid hb2; have q4 : w2.cell? ⟨kb, 4, none⟩ = some (.slice (some ⟨rb, 0, none⟩) n n) := (hb2.cell (p := ⟨kb, 4, none⟩) (by have := blk_lt HKR.out.blk; simpa using this)).trans k4; have c0 : w2.cell? ⟨rb, i * 8, none⟩ = some (.int .i64 0) := (hb2.cell (p := ⟨rb, i * 8, none⟩) (by have := blk_lt HH.out; simpa using this)).trans (HC.out 0 _ rfl); have f0 : w2.frozen? ⟨rb, i * 8, none⟩ = false := (hb2.frozen (p := ⟨rb, i * 8, none⟩) (by have := blk_lt HH.out; simpa using this)).trans (HF.out _); have c1 : w2.cell? ⟨rb, i * 8 + 1, none⟩ = some (.int .i64 0) := (hb2.cell (p := ⟨rb, i * 8 + 1, none⟩) (by have := blk_lt HH.out; simpa using this)).trans (HC.out 1 _ rfl); have f1 : w2.frozen? ⟨rb, i * 8 + 1, none⟩ = false := (hb2.frozen (p := ⟨rb, i * 8 + 1, none⟩) (by have := blk_lt HH.out; simpa using this)).trans (HF.out _); have c2 : w2.cell? ⟨rb, i * 8 + 2, none⟩ = some (.int .i64 0) := (hb2.cell (p := ⟨rb, i * 8 + 2, none⟩) (by have := blk_lt HH.out; simpa using this)).trans (HC.out 2 _ rfl); have f2 : w2.frozen? ⟨rb, i * 8 + 2, none⟩ = false := (hb2.frozen (p := ⟨rb, i * 8 + 2, none⟩) (by have := blk_lt HH.out; simpa using this)).trans (HF.out _); have c3 : w2.cell? ⟨rb, i * 8 + 3, none⟩ = some (.int .i64 0) := (hb2.cell (p := ⟨rb, i * 8 + 3, none⟩) (by have := blk_lt HH.out; simpa using this)).trans (HC.out 3 _ rfl); have f3 : w2.frozen? ⟨rb, i * 8 + 3, none⟩ = false := (hb2.frozen (p := ⟨rb, i * 8 + 3, none⟩) (by have := blk_lt HH.out; simpa using this)).trans (HF.out _); have c4 : w2.cell? ⟨rb, i * 8 + 4, none⟩ = some (.int .i64 0) := (hb2.cell (p := ⟨rb, i * 8 + 4, none⟩) (by have := blk_lt HH.out; simpa using this)).trans (HC.out 4 _ rfl); have f4 : w2.frozen? ⟨rb, i * 8 + 4, none⟩ = false := (hb2.frozen (p := ⟨rb, i * 8 + 4, none⟩) (by have := blk_lt HH.out; simpa using this)).trans (HF.out _); have c5 : w2.cell? ⟨rb, i * 8 + 5, none⟩ = some (.int .i64 0) := (hb2.cell (p := ⟨rb, i * 8 + 5, none⟩) (by have := blk_lt HH.out; simpa using this)).trans (HC.out 5 _ rfl); have f5 : w2.frozen? ⟨rb, i * 8 + 5, none⟩ = false := (hb2.frozen (p := ⟨rb, i * 8 + 5, none⟩) (by have := blk_lt HH.out; simpa using this)).trans (HF.out _); have c6 : w2.cell? ⟨rb, i * 8 + 6, none⟩ = some (.int .i64 0) := (hb2.cell (p := ⟨rb, i * 8 + 6, none⟩) (by have := blk_lt HH.out; simpa using this)).trans (HC.out 6 _ rfl); have f6 : w2.frozen? ⟨rb, i * 8 + 6, none⟩ = false := (hb2.frozen (p := ⟨rb, i * 8 + 6, none⟩) (by have := blk_lt HH.out; simpa using this)).trans (HF.out _); have c7 : w2.cell? ⟨rb, i * 8 + 7, none⟩ = some (.bool false) := (hb2.cell (p := ⟨rb, i * 8 + 7, none⟩) (by have := blk_lt HH.out; simpa using this)).trans (HC.out 7 _ rfl); have f7 : w2.frozen? ⟨rb, i * 8 + 7, none⟩ = false := (hb2.frozen (p := ⟨rb, i * 8 + 7, none⟩) (by have := blk_lt HH.out; simpa using this)).trans (HF.out _); clear hb2))
        all_goals
          go_wp2_with fail
          go_roundw
          case rel => exact ⟨i + 1, by omega, by go_num, HRR.out w2 ⟨HB2.out.os, HB2.out.tape, HB2.out.output, HB2.out.size, HB2.out.block⟩⟩
          case measure => simp [intOf]; omega
      · obtain rfl : i = n := by omega
        have pw := blk_cell (HPR.out.trans HPB.out) 3
        simp at pw
        have HWS := hid HM.out.wires
        have HWK : Hid (∀ x ∈ m.wires, wireChk x = 0) := (flowChk_ok (planChk_ok HE.out).flow).2.1
        have hw12 := HSM.out.wires
        rw [← HEQ.out.2.2.1] at hw12
        rw [← HEQ.out.2.2.2.2.2.2.2.2.1, ← HEQ.out.2.2.1] at HWS
        have HNW := hid HEQ.out.2.2.1
        obtain ⟨il0, hil, hz0, hz1, hz2⟩ := info_parts Tryz.infoPLn
        clear HCK HOWN HPV HB1W hmk HBW HK
        go_wp2_with fail
        clear pw
        go_loopw [43] (fun v43 wq => ∃ (k : Nat) (M : KM), k ≤ nw ∧ v43 = .int .i64 k ∧ KAt 88 120 90 wq kb M ⟨List.replicate i St.zero, (m.wires.take k).map fun x => ⟨x, [], 0⟩, 0⟩ ∧ M.P = P ∧ (∀ j, TF kb M j → w.heap.size < j) ∧ Below w.heap.size w wq ∧ wq.heap[w.heap.size]? = wc.heap[w.heap.size]?) (fun v43 _ => nw - (intOf v43).toNat)
        case atStart => exact ⟨0, _, by omega, rfl, by simpa using HKR.out, rfl, HTF.out, HBR.out, HPR.out⟩
        case round =>
          obtain ⟨k, M, hk, rfl, hka, hMP, htf, hbq, hpq⟩ := hrel
          have HKA := hid hka
          have HMP := hid hMP
          have HTQ := hid htf
          have HBQ := hid hbq
          have HPQ := hid hpq
          clear hka hMP htf hbq hpq
          by_cases hkn : k < nw
          · have hkm : k < m.wires.length := by rw [← HNW.out]; exact hkn
            have hlen : ((m.wires.take k).map fun x => (⟨x, [], 0⟩ : Ln)).length = k := by simp; omega
            obtain ⟨wb, woff, hwA, hwb, g0, g1, g2, g3⟩ := HWS.out.wire HBQ.out hkm hkn
            subst hwA
            have hget := List.getElem?_eq_getElem hkm
            have hchk := HWK.out _ (List.getElem_mem hkm)
            generalize m.wires[k] = x at g0 g1 g2 g3 hget hchk
            have HGET := hid hget
            have HNEW : Hid (∀ w', Calls Tryz.prog 28 #[.agg #[.int .i64 x.fr, .int .i64 x.to, .int .i64 x.kind, .int .i64 x.deep]] w' (Made w' x)) := fun w' => new_ok x w' hchk
            have HLN := hid hlen
            have hb5 := HKA.out.blk
            simp only [hlen] at hb5
            have HB5 := hid hb5
            have hkblt := blk_lt hb5
            have hwblt := cell_lt g0
            clear hget hchk hlen hb5
            go_wp2_with (first
              | (go_at_call 28; refine (HNEW.out _).mono ?_; rintro e w3 ⟨lb, rfl, hlb, hla, hb3⟩; have HLB := hid hlb; have HLA := hid hla; have HB3 := hid (((Below.refl _ _).alloc (Nat.le_refl _) _).trans (hb3.mono (by simp))); have h3b := (HB3.out.block _ hkblt).trans HB5.out; have c5 := blk_cell h3b 5; simp at c5; have hk3 := blk_lt h3b; have H3B := hid h3b; clear hlb hla hb3 h3b g0 g1 g2 g3)
              | (at_builtin; refine wpList_append_row _ rfl _ _ 86 rfl 90 il0 (.pointer none) 1 8 Tryz.underlying86 hil hz0 hz1 hz2 rfl (by decide) M.lA k M.lc (M.ls.map ptrV) rfl ?c0 (some ⟨w3.heap.size, 0, none⟩) 1 1 [.pointer (some ⟨lb, 0, none⟩)] rfl ?c1 ?c2 ?c3 ?c4 ?_))
            case c0 =>
              have := (HKA.out.new HB3.out).ptrs.alloc (.cells #[.pointer (some ⟨lb, 0, none⟩)] 90)
              simp only [HLN.out] at this
              exact this
            case c1 =>
              exact ⟨rfl, fun _ => ⟨w3.heap.size, 0, rfl, by simp, fun j u hu => by
                match j, hu with
                | 0, hu => simp at hu; subst hu; exact blk_cell (heap_alloc_new w3 _) 0⟩⟩
            case c2 => intro u hu; simp at hu; subst hu; rfl
            case c3 => unfold maxLen; omega
            case c4 => omega
            intro lA' lc' w4 hrow4 hkeep4 hin4
            have HR4 := hid hrow4
            have HK4 := hid hkeep4
            have HI4 := hid hin4
            have hnk : ¬ InA M.lA kb := fun hj => by
              obtain ⟨own, o0, _, o2, _⟩ := HKA.out.own
              have := o2 kb hj
              rw [o0] at this; cases this
            have h4b := (hkeep4.block kb (by simp; omega) hnk).trans ((blk_alloc hk3 _).trans H3B.out)
            have d5 := blk_cell h4b 5
            have d5f := blk_free h4b 5
            simp at d5
            clear hrow4 hkeep4 hin4 h4b c5
            go_wp2_with fail
            go_roundw
            case rel =>
              have hn4 := HI4.out
              have hlen := HLN.out
              have hadd := KAt.addLine HKA.out (by decide) (lb := lb) (x := x) HLA.out (by have := HLB.out; simp at this; omega) HB3.out (by rw [hlen]; exact HR4.out) HK4.out (fun j hj => (hn4 j hj).imp_right (fun h => by rw [sz_alloc]; exact h))
              simp only [hlen] at hadd
              have htake : (m.wires.take (k + 1)).map (fun x => (⟨x, [], 0⟩ : Ln)) = (m.wires.take k).map (fun x => (⟨x, [], 0⟩ : Ln)) ++ [⟨x, [], 0⟩] := by
                rw [List.take_add_one, HGET.out, List.map_append]; rfl
              have hs3 := HB3.out.size
              have hpl : w.heap.size < wr.heap.size := blk_lt (HPQ.out.trans HPB.out)
              refine ⟨k + 1, ⟨M.P, M.rA, M.rc, lA', lc', M.ls ++ [⟨lb, none⟩]⟩, by omega, by go_num, by rw [htake]; exact hadd, HMP.out, ?_, ?_, ?_⟩
              · intro j hj
                rcases TF_add (M := M) (S := wr.heap.size) (fun j hj => (hn4 j hj).imp_right (fun h => by omega)) (by have := HLB.out; simp at this; omega) j hj with h | h
                · exact HTQ.out j h
                · omega
              · have h4 : Keep (fun j => InA M.lA j ∨ j = kb) wr (w4.setCell ⟨kb, 5, none⟩ (.slice lA' (k + 1) lc')) :=
                  (((Keep.of_below _ HB3.out).alloc _).then HK4.out (fun _ _ h => .inl h)).setCell (.inl (.inr rfl)) _
                refine Keep.below (F := NoF) (Keep.then (Keep.of_below NoF HBQ.out) h4 fun j hj h => ?_) (Nat.le_refl _) (fun j h => h.elim)
                rcases h with h | rfl
                · have := HTQ.out j (.inr (.inl h)); omega
                · omega
              · rw [blk_far (p := ⟨kb, 5, none⟩) (show w.heap.size ≠ kb by omega), HK4.out.block _ (by simp; omega) (fun h => by have := HTQ.out _ (.inr (.inl h)); omega), blk_alloc (by omega), HB3.out.block _ hpl]
                exact HPQ.out
            case measure => simp [intOf]; omega
          · obtain rfl : k = nw := by omega
            go_wp2_with fail
            go_ret2
            refine ⟨kb, M, rfl, ?_, by rw [HMP.out]; exact HPL.out, fun j hj => Nat.le_of_lt (HTQ.out j hj), HBQ.out⟩
            have := HKA.out
            rw [HNW.out, List.take_length] at this
            have hk2 : kNew m.pl = ⟨List.replicate i St.zero, m.wires.map fun x => ⟨x, [], 0⟩, 0⟩ := by
              rw [HEQ.out.1]
              simp [kNew, PM.pl]
              exact List.eq_replicate_iff.2 ⟨by simp, fun b hb => by simp at hb; exact hb.2.symm⟩
            rw [hk2]; exact this
end Go.Proofs.YthdmgighblhmhaaGreatDoor
