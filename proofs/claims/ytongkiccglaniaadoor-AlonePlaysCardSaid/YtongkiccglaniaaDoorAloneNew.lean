/- Package alone: the contract of New. -/
import Derived.Test.YtongkiccglaniaaDoorAloneMem
import Derived.Test.YtongkiccglaniaaDoorOwnU
import Derived.Test.YtongkiccglaniaaDoorKernNew
import Derived.Deep.DeepCutAuto
namespace Go.Proofs.YtongkiccglaniaaDoor
open Go.RowKit
set_option maxRecDepth 100000
attribute [local go_sem ↓] Go.wp_at_zero Go.wp_at_succ

/-- What a plan's own copy has at room r. -/
def OwnRow (w : World) (l : List Op) (r : Nat) (e : Ending) (w' : World) : Prop :=
  ∃ b off n c tk sA ns sc wA nw wc A' c', e = .returned (.agg #[.slice (some ⟨b, off, none⟩) n c, .int .i64 tk, .slice sA ns sc, .slice wA nw wc]) ∧ w'.cell? ⟨b, off + r, none⟩ = some (.slice A' l.length c') ∧ b < w'.heap.size ∧ r < n ∧ n ≤ c ∧ c ≤ maxLen ∧
    Sl w' A' 3 l.length (l.flatMap Op.cells) ∧ SlW A' c' l.length ∧ (0 < l.length → ∀ j, InA A' j → w.heap.size ≤ j) ∧ Below w.heap.size w w'
theorem own_row (w : World) (m : PM) (hm : PlanAt w m) (hs : PMSmall m) {r : Nat} {l : List Op} (hl : m.pl.code[r]? = some l) :
    Calls Tryd.prog 61 #[.agg #[.slice m.A m.ros.length m.c, .int .i64 m.ticks, .slice m.sA m.spans.length m.sc, .slice m.wA m.wires.length m.wc]] w (OwnRow w l r) := by
  refine (own_any w m hm hs).mono ?_
  rintro e w' ⟨P, he, hpt, hpl, hrow, hfr, hb⟩
  rw [← hpl] at hl
  simp only [PM.pl, List.getElem?_map, Option.map_eq_some_iff] at hl
  obtain ⟨ro, hro, rfl⟩ := hl
  have hr := (List.getElem?_eq_some_iff.1 hro).1
  obtain ⟨b, off, hA, hbl, hcell⟩ := hpt.rows.ro (Below.refl _ _) hro hr
  have hat := hpt.codes ro (List.mem_of_getElem? hro)
  rw [hA] at he
  exact ⟨b, off, _, _, _, _, _, _, _, _, _, ro.A, ro.c, he, hcell, hbl, hr, hpt.rowsW.1, hpt.rowsW.2.1, hat.1, hat.2.1, fun h0 j hj => hfr j (.inr (.inl ⟨ro, List.mem_of_getElem? hro, h0, hj⟩)), hb⟩
def ANew (w : World) (l : List Op) (r : Int) (e : Ending) (w' : World) : Prop :=
  ∃ ab A c, e = .returned (.tuple #[.pointer (some ⟨ab, 0, none⟩), .nilIface]) ∧ AloneAt w' ab A c l r ⟨St.zero, 0⟩ ∧ (∀ j, (j = ab ∨ (0 < l.length ∧ InA A j)) → w.heap.size ≤ j) ∧ Below w.heap.size w w'
theorem aNew_made {w w2 w3 : World} {l : List Op} {n : Nat} {r : Int} {A : Option Addr} {c : Nat} (hn : n = l.length) (hs : Sl w2 A 3 n (l.flatMap Op.cells)) (hw : SlW A c n) (hf : 0 < n → ∀ j, InA A j → w.heap.size ≤ j) (hb : Below w.heap.size w w2) (hb3 : Below w2.heap.size w2 w3) :
    ANew w l r (.returned (.tuple #[.pointer (some ⟨w3.heap.size, 0, none⟩), .nilIface])) (w3.alloc (.cells #[.slice A n c, .int .i64 r, .int .i64 0, .int .i64 0, .int .i64 0, .int .i64 0, .int .i64 0, .int .i64 0, .int .i64 0, .bool false, .int .i64 0] 128)) := by
  subst hn
  have hb4 : Below w2.heap.size w2 (w3.alloc (.cells #[.slice A l.length c, .int .i64 r, .int .i64 0, .int .i64 0, .int .i64 0, .int .i64 0, .int .i64 0, .int .i64 0, .int .i64 0, .bool false, .int .i64 0] 128)) := hb3.alloc hb3.size _
  refine ⟨_, A, c, rfl, ⟨heap_alloc_new w3 _, hs.new hb4, hw, fun h0 hj => ?_⟩, ?_, hb.trans (hb4.mono hb.size)⟩
  · have := hs.lt h0 _ hj
    have := hb3.size
    omega
  · rintro j (rfl | ⟨h0, hj⟩)
    · have := hb.size; have := hb3.size; omega
    · exact hf h0 j hj
section
variable {w : World} {m : PM}
theorem aloneNew_bad (hf : Forms w) (hm : PlanAt w m) (r : Int) (he : planChk m.pl ≠ 0) :
    Calls Tryd.prog 17 #[.agg #[.slice m.A m.ros.length m.c, .int .i64 m.ticks, .slice m.sA m.spans.length m.sc, .slice m.wA m.wires.length m.wc], .int .i64 r] w
      fun e w' => e = .returned (.tuple #[.pointer none, errV (planChk m.pl)]) ∧ Below w.heap.size w w' := by
  have HCK : Hid (∀ w', Below w.heap.size w w' → Calls Tryd.prog 44 #[.agg #[.slice m.A m.ros.length m.c, .int .i64 m.ticks, .slice m.sA m.spans.length m.sc, .slice m.wA m.wires.length m.wc]] w' fun e w'' => e = .returned (errV (planChk m.pl)) ∧ Below w'.heap.size w' w'') :=
    fun w' hb => plan_check m w' (hf.new hb) (hm.new hb)
  generalize planChk m.pl = E at he HCK ⊢
  have hv := errV_pos he
  rw [hv] at HCK ⊢
  generalize m.ros.length = n at HCK ⊢
  generalize m.spans.length = ns at HCK ⊢
  generalize m.wires.length = nw at HCK ⊢
  obtain ⟨A0, c0, _, tk, sA0, sc0, _, wA0, wc0, _⟩ := m
  simp only [] at HCK ⊢
  clear hv hm hf
  go_enter Tryd.func17, Tryd.ntmps17
  go_wp2_with (go_at_call 44; refine (HCK.out _ ((Below.refl _ _).alloc (Nat.le_refl _) _)).mono ?_; rintro e w1 ⟨rfl, hb1⟩)
  go_ret2
  exact ⟨rfl, ((Below.refl _ _).alloc (Nat.le_refl _) _).trans (hb1.mono (by simp))⟩
theorem aloneNew_range (hf : Forms w) (hm : PlanAt w m) (r : Int) (he : planChk m.pl = 0) (hr : r < 0 ∨ m.ros.length ≤ r) :
    Calls Tryd.prog 17 #[.agg #[.slice m.A m.ros.length m.c, .int .i64 m.ticks, .slice m.sA m.spans.length m.sc, .slice m.wA m.wires.length m.wc], .int .i64 r] w
      fun e w' => e = .returned (.tuple #[.pointer none, errV 1]) ∧ Below w.heap.size w w' := by
  have HCK : Hid (∀ w', Below w.heap.size w w' → Calls Tryd.prog 44 #[.agg #[.slice m.A m.ros.length m.c, .int .i64 m.ticks, .slice m.sA m.spans.length m.sc, .slice m.wA m.wires.length m.wc]] w' fun e w'' => e = .returned .nilIface ∧ Below w'.heap.size w' w'') :=
    fun w' hb => (plan_check m w' (hf.new hb) (hm.new hb)).mono fun e w'' h => by rw [he, errV_zero] at h; exact h
  rw [errV_pos (by decide)]
  generalize m.ros.length = n at HCK hr ⊢
  generalize m.spans.length = ns at HCK ⊢
  generalize m.wires.length = nw at HCK ⊢
  obtain ⟨A0, c0, _, tk, sA0, sc0, _, wA0, wc0, _⟩ := m
  simp only [] at HCK ⊢
  have hr' : r < 0 ∨ (0 ≤ r ∧ (n : Int) ≤ r) := by omega
  clear he hm hf hr
  rcases hr' with hr | ⟨hr, hr1⟩
  all_goals
    go_enter Tryd.func17, Tryd.ntmps17
    go_wp2_with fail
    refine (HCK.out _ ((Below.refl _ _).alloc (Nat.le_refl _) _)).mono ?_
    rintro e w1 ⟨rfl, hb1⟩
    have p0 := (hb1.cell (p := ⟨w.heap.size, 0, none⟩) (by simp)).trans (blk_cell (heap_alloc_new w _) 0)
    simp at p0
    have hltp := cell_lt p0
    go_wp2_with fail
    go_ret2
    exact ⟨rfl, ((Below.refl _ _).alloc (Nat.le_refl _) _).trans (hb1.mono (by simp))⟩
set_option maxHeartbeats 2000000 in
theorem aloneNew_good (hf : Forms w) (hm : PlanAt w m) (he : planChk m.pl = 0) {r : Nat} {l : List Op} (hl : m.pl.code[r]? = some l) :
    Calls Tryd.prog 17 #[.agg #[.slice m.A m.ros.length m.c, .int .i64 m.ticks, .slice m.sA m.spans.length m.sc, .slice m.wA m.wires.length m.wc], .int .i64 r] w (ANew w l r) := by
  have HCK : Hid (∀ w', Below w.heap.size w w' → Calls Tryd.prog 44 #[.agg #[.slice m.A m.ros.length m.c, .int .i64 m.ticks, .slice m.sA m.spans.length m.sc, .slice m.wA m.wires.length m.wc]] w' fun e w'' => e = .returned .nilIface ∧ Below w'.heap.size w' w'') :=
    fun w' hb => (plan_check m w' (hf.new hb) (hm.new hb)).mono fun e w'' h => by rw [he, errV_zero] at h; exact h
  have HOWN : Hid (∀ w', Below w.heap.size w w' → Calls Tryd.prog 61 #[.agg #[.slice m.A m.ros.length m.c, .int .i64 m.ticks, .slice m.sA m.spans.length m.sc, .slice m.wA m.wires.length m.wc]] w' (OwnRow w' l r)) :=
    fun w' hb => own_row w' m (hm.new hb) (planSmall he) hl
  have hrn : r < m.ros.length := by have := (List.getElem?_eq_some_iff.1 hl).1; simpa [PM.pl] using this
  generalize m.ros.length = n at HCK HOWN hrn ⊢
  generalize m.spans.length = ns at HCK HOWN ⊢
  generalize m.wires.length = nw at HCK HOWN ⊢
  obtain ⟨A0, c0, _, tk, sA0, sc0, _, wA0, wc0, _⟩ := m
  unfold OwnRow at HOWN
  obtain ⟨nl, hnl⟩ : ∃ nl, nl = l.length := ⟨_, rfl⟩
  rw [← hnl] at HOWN
  have HNL := hid hnl
  simp only [] at HCK HOWN ⊢
  have d1 : decide ((r : Int) < 0) = false := decide_eq_false (by omega)
  have d2 : decide (n ≤ r) = false := decide_eq_false (by omega)
  have d3 : decide ((n : Int) ≤ (r : Int)) = false := decide_eq_false (by omega)
  have hfd : ∀ (A : Option Addr) (n c : Nat) (t : Int) (B C : Option Addr) (x y z u : Nat) w, (Instr.field 31 (.agg #[.slice A n c, .int .i64 t, .slice B x y, .slice C z u]) 0).run Tryd.prog w = .ok (.slice A n c) w := fun A n c t B C x y z u w => by kernel_rfl
  clear he hm hf hl hnl
  go_enter Tryd.func17, Tryd.ntmps17
  go_wp2_with fail
  refine (HCK.out _ ((Below.refl _ _).alloc (Nat.le_refl _) _)).mono ?_
  rintro e w1 ⟨rfl, hb1⟩
  have hbox := (hb1.block w.heap.size (by simp)).trans (heap_alloc_new w _)
  have HB1 := hid (((Below.refl w.heap.size w).alloc (Nat.le_refl _) _).trans (hb1.mono (by simp)))
  have x0 := blk_cell hbox 0
  have x1 := blk_cell hbox 1
  have x2 := blk_cell hbox 2
  have x3 := blk_cell hbox 3
  have hlt := blk_lt hbox
  simp at x0 x1 x2 x3
  clear hb1
  have HBX := hid hbox
  clear hbox
  go_upto_region 6 with fail
  go_region_with (first
    | (go_at_call 61; refine (HOWN.out _ (by first | exact HB1.out.drew | exact HB1.out.trans ((Below.refl _ _).drew.trans HR.out |>.mono HB1.out.size))).mono ?_; rintro e w2 ⟨b, off, n2, c2, tk2, sA2, ns2, sc2, wA2, nw2, wc2, A', c', rfl, k0, hlb, hrn2, hnc, hcm, hsl, hslw, hfr, hb2⟩; have HSL := hid hsl; have HSLW := hid hslw; have HFR := hid hfr; have HB2 := hid hb2; unfold maxLen at hcm; have hr0 : (0 : Int) ≤ (r : Int) := (by omega); have hrn3 : (r : Int) < (n2 : Int) := (by omega); clear hsl hslw hfr hb2)
    | (go_at_call 62; refine (room_new _).mono ?_; rintro e w3 ⟨rfl, hb3⟩; unfold stV; have HR := hid hb3; have k3 := (hb3.cell (p := ⟨b, off + r, none⟩) hlb).trans k0; have hlb3 := Nat.lt_of_lt_of_le hlb hb3.size; clear hb3))
  all_goals
    go_wp2_with fail
    go_ret2
    have h2 := HB2.out.size
    exact aNew_made HNL.out HSL.out HSLW.out (fun h0 j hj => Nat.le_trans HB1.out.size (HFR.out h0 j hj)) (HB1.out.drew.trans (HB2.out.mono HB1.out.size)) HR.out
end
end Go.Proofs.YtongkiccglaniaaDoor
