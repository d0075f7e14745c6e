/- Package care: the contract of New, for any plan and any rules. -/
import Derived.Test.YthafahnlfpkkbaaGreatDoorCareW
import Derived.Test.YthafahnlfpkkbaaGreatDoorLineU
import Derived.Test.YthafahnlfpkkbaaGreatDoorRunU
namespace Go.Proofs.YthafahnlfpkkbaaGreatDoor
open Go.RowKit
set_option maxRecDepth 100000

def badRule (n : Int) : Bool := decide (n < 0) || decide (2 < n)
theorem rule_any (n : Int) (w : World) : Calls Tryz.prog 89 #[.int .i64 n] w fun e w' => e = .returned (.bool (badRule n)) ∧ w' = w := by
  unfold badRule
  go_enter Tryz.func89, Tryz.ntmps89
  go_wp2
  all_goals
    go_ret
    exact ⟨rfl, rfl⟩
theorem index_rules (A : Option Addr) (n c : Nat) (l : List Int) (w : World) (hs : Sl w A 1 n (ints l)) (hn : n ≤ 100000) :
    Calls Tryz.prog 135 #[.slice A n c, .func (.func 89) #[] #[]] w fun e w' => ∃ r : Int, e = .returned (.int .i64 r) ∧ decide (0 ≤ r) = l.any badRule ∧ w' = w := by
  have hl : l.length = n := by have := hs.1; rw [ints_len] at this; omega
  have HS := hid hs
  have HL := hid hl
  clear hs hl
  go_enter Tryz.func135, Tryz.ntmps135
  go_wp2_with fail
  go_loop [5, 8] (fun v5 v8 => ∃ k : Nat, k ≤ n ∧ v8 = .int .i64 k ∧ (∀ j x, j < k → l[j]? = some x → badRule x = false)) (fun _ v8 => n - (intOf v8).toNat)
  case atStart => exact ⟨0, by omega, rfl, fun j s hj => absurd hj (by omega)⟩
  case round =>
    obtain ⟨k, hk, rfl, hno⟩ := hrel
    have HNO := hid hno
    clear hno
    by_cases hkl : k < n
    · obtain ⟨b, off, rfl, _, g0⟩ := sl_int HS.out (by rw [HL.out]; exact hkl) hkl
      have hget := List.getElem?_eq_getElem (show k < l.length by rw [HL.out]; exact hkl)
      generalize l[k]'(by rw [HL.out]; exact hkl) = x at g0 hget
      have HG := hid hget
      clear hget
      have HCL := fun w => rule_any x w
      cases hb : badRule x with
      | true =>
        rw [hb] at HCL
        have HC := hid HCL
        have HBX := hid hb
        clear HCL hb
        go_wp2_with (go_at_call 89; refine (HC.out _).mono ?_; rintro e w1 ⟨rfl, rfl⟩)
        go_ret
        exact ⟨_, rfl, by rw [List.any_eq_true.2 ⟨x, List.mem_of_getElem? HG.out, HBX.out⟩]; simp, rfl⟩
      | false =>
        rw [hb] at HCL
        have HC := hid HCL
        have HBX := hid hb
        clear HCL hb
        go_wp2_with (go_at_call 89; refine (HC.out _).mono ?_; rintro e w1 ⟨rfl, rfl⟩)
        go_round
        case rel =>
          refine ⟨k + 1, by omega, by go_num, fun j y hj hy => ?_⟩
          by_cases e : j = k
          · subst e; rw [HG.out] at hy; cases hy; exact HBX.out
          · exact HNO.out j y (by omega) hy
        case measure => simp [intOf]; omega
    · obtain rfl : k = n := by omega
      go_wp2_with fail
      go_ret
      refine ⟨-1, rfl, ?_, rfl⟩
      rw [show l.any badRule = false from List.any_eq_false.2 (fun x hx => by
        obtain ⟨j, hj⟩ := List.mem_iff_getElem?.1 hx
        rw [HNO.out j x (by have := (List.getElem?_eq_some_iff.1 hj).1; rw [HL.out] at this; exact this) hj]; decide)]
      rfl
theorem contains_rules (A : Option Addr) (n c : Nat) (l : List Int) (w : World) (hs : Sl w A 1 n (ints l)) (hn : n ≤ 100000) :
    Calls Tryz.prog 88 #[.slice A n c, .func (.func 89) #[] #[]] w fun e w' => e = .returned (.bool (l.any badRule)) ∧ w' = w := by
  obtain ⟨q, hq⟩ : ∃ q, q = l.any badRule := ⟨_, rfl⟩
  rw [← hq]
  have HQ := hid hq
  have HS := hid hs
  clear hq hs
  go_enter Tryz.func88, Tryz.ntmps88
  go_wp2_with (go_at_call 135; refine (index_rules A n c l _ HS.out hn).mono ?_; rintro e w1 ⟨r, rfl, hr, rfl⟩; have HR := hid hr; clear hr)
  go_ret
  refine ⟨?_, rfl⟩
  rw [HQ.out, ← HR.out]
  rfl

/-- Which error: 0, none. -/
def careE (p : Pl) (what : List Int) (most : Int) : Int := if planChk p ≠ 0 then planChk p else if what.length ≠ p.code.length then 3 else if what.any badRule = true ∨ most < 0 ∨ 100 < most then 1 else 0
theorem careE_zero {p : Pl} {what : List Int} {most : Int} (h : careE p what most = 0) : planChk p = 0 ∧ what.length = p.code.length ∧ what.any badRule = false ∧ 0 ≤ most ∧ most ≤ 100 := by
  unfold careE at h
  by_cases h1 : planChk p = 0
  · rw [if_neg (fun e => e h1)] at h
    by_cases h2 : what.length = p.code.length
    · rw [if_neg (fun e => e h2)] at h
      by_cases h3 : what.any badRule = true ∨ most < 0 ∨ 100 < most
      · rw [if_pos h3] at h; cases h
      · refine ⟨h1, h2, ?_, by omega, by omega⟩
        cases hb : what.any badRule with
        | true => exact absurd (.inl hb) h3
        | false => rfl
    · rw [if_pos h2] at h; cases h
  · rw [if_pos h1] at h; exact absurd h h1
/-- What is made: all of it in new memory. -/
def CMade (w : World) (p : Pl) (what : List Int) (most : Int) (e : Ending) (w' : World) : Prop :=
  ∃ cb C, e = .returned (.tuple #[.pointer (some ⟨cb, 0, none⟩), .nilIface]) ∧ Stand w w' [careT cb p what most C (careNew p)] ∧ ∀ j, (careT cb p what most C (careNew p)).F j → w.heap.size ≤ j
def CNot (w : World) (err : Int) (e : Ending) (w' : World) : Prop := e = .returned (.tuple #[.pointer none, errV err]) ∧ Below w.heap.size w w'
section
variable {w : World} {m : PM} {A : Option Addr} {c : Nat} {what : List Int} {most : Int}
set_option maxHeartbeats 4000000 in
theorem careNew_bad (hf : Forms w) (hm : PlanAt w m) (hs : Sl w A 1 what.length (ints what)) (he : careE m.pl what most ≠ 0) :
    Calls Tryz.prog 33 #[.agg #[.slice m.A m.ros.length m.c, .int .i64 m.ticks, .slice m.sA m.spans.length m.sc, .slice m.wA m.wires.length m.wc], .slice A what.length c, .int .i64 most] w (CNot w (careE m.pl what most)) := by
  unfold CNot
  have HBAD : Hid (planChk m.pl ≠ 0 → ∀ w', Below w.heap.size w w' → Calls Tryz.prog 25 #[.agg #[.slice m.A m.ros.length m.c, .int .i64 m.ticks, .slice m.sA m.spans.length m.sc, .slice m.wA m.wires.length m.wc]] w' fun e w'' => e = .returned (.tuple #[.pointer none, errV (planChk m.pl)]) ∧ Below w'.heap.size w' w'') := fun he w' hb => kern_new_bad w' m (hf.new hb) (hm.new hb) he
  have HNEW : Hid (planChk m.pl = 0 → ∀ w', Below w.heap.size w w' → Calls Tryz.prog 25 #[.agg #[.slice m.A m.ros.length m.c, .int .i64 m.ticks, .slice m.sA m.spans.length m.sc, .slice m.wA m.wires.length m.wc]] w' (KNew w' m.pl)) := fun he w' hb => new_run w' m (hf.new hb) (hm.new hb) he
  unfold KNew at HNEW
  have HCR : Hid (what.length ≤ 5 → ∀ w', Below w.heap.size w w' → Calls Tryz.prog 88 #[.slice A what.length c, .func (.func 89) #[] #[]] w' fun e w'' => e = .returned (.bool (what.any badRule)) ∧ w'' = w') := fun h5 w' hb => contains_rules A what.length c what w' (hs.new hb) (by omega)
  have hlen : m.pl.code.length = m.ros.length := by simp [PM.pl]
  have H5 : Hid (planChk m.pl = 0 → m.ros.length ≤ 5) := fun h => by have := (planChk_ok h).most5; omega
  unfold careE at he ⊢
  rw [hlen] at he ⊢
  generalize m.pl = p at HBAD HNEW H5 he ⊢
  obtain ⟨nn, hnn⟩ : ∃ nn, nn = m.ros.length := ⟨_, rfl⟩
  obtain ⟨ns, hns⟩ : ∃ ns, ns = m.spans.length := ⟨_, rfl⟩
  obtain ⟨nw, hnw⟩ : ∃ nw, nw = m.wires.length := ⟨_, rfl⟩
  obtain ⟨nl, hnl⟩ : ∃ nl, nl = what.length := ⟨_, rfl⟩
  rw [← hnn, ← hns, ← hnw] at HBAD HNEW
  rw [← hnn] at he H5
  rw [← hnl] at HCR he
  rw [← hnn, ← hns, ← hnw, ← hnl]
  generalize what.any badRule = bad at HCR he ⊢
  obtain ⟨w1, hw1⟩ : ∃ w1, w1 = w.alloc (.cells #[.slice m.A nn m.c, .int .i64 m.ticks, .slice m.sA ns m.sc, .slice m.wA nw m.wc] 26) := ⟨_, rfl⟩
  have hb1 : Below w.heap.size w w1 := by rw [hw1]; exact (Below.refl _ _).alloc (Nat.le_refl _) _
  have hbox : w1.heap[w.heap.size]? = some (.cells #[.slice m.A nn m.c, .int .i64 m.ticks, .slice m.sA ns m.sc, .slice m.wA nw m.wc] 26 (0, 0)) := by rw [hw1]; exact heap_alloc_new w _
  have HB1 := hid hb1
  have HBX := hid hbox
  have x0 := blk_cell hbox 0
  have x1 := blk_cell hbox 1
  have x2 := blk_cell hbox 2
  have x3 := blk_cell hbox 3
  have hlt := blk_lt hbox
  simp at x0 x1 x2 x3
  clear hb1 hbox hm hf hs hnn hns hnw hnl hlen
  by_cases hp : planChk p = 0
  · rw [if_neg (fun e => e hp)] at he ⊢
    have HN := hid (HNEW.out hp)
    have h5 := H5.out hp
    clear HBAD HNEW hp H5
    by_cases hl : nl = nn
    · subst hl
      rw [if_neg (fun e => e rfl)] at he ⊢
      have HCR := hid (HCR.out h5)
      have hbb : bad = true ∨ most < 0 ∨ 100 < most := Classical.byContradiction fun h => by rw [if_neg h] at he; exact he rfl
      rw [if_pos hbb, errV_pos (by decide)]
      have hbb2 : bad = true ∨ (bad = false ∧ most < 0) ∨ (bad = false ∧ 0 ≤ most ∧ 100 < most) := by
        cases bad
        · simp at hbb ⊢; omega
        · exact .inl rfl
      clear he hbb
      rcases hbb2 with rfl | ⟨rfl, h1⟩ | ⟨rfl, h1, h2⟩
      all_goals
        go_enter Tryz.func33, Tryz.ntmps33
        go_wp2_with fail
        rw [← hw1]
        refine (HN.out _ HB1.out).mono ?_
        rintro e w2 ⟨kb, M, rfl, hr2⟩
        have hbx := (hr2.below.block _ hlt).trans HBX.out
        have HB2 := hid (HB1.out.trans (hr2.below.mono HB1.out.size))
        clear hr2 x0 x1 x2 x3 hlt hw1
        have x0 := blk_cell hbx 0
        have hlt := blk_lt hbx
        simp at x0
        clear hbx
        go_wp2_with fail
        refine (HCR.out _ HB2.out).mono ?_
        rintro e w3 ⟨rfl, rfl⟩
        go_wp2_with fail
        go_ret2
        exact ⟨rfl, HB2.out⟩
    · rw [if_pos hl, errV_pos (by decide)]
      clear he
      have hnl' : ¬ (nl : Int) = (nn : Int) := by omega
      have hnl2 : ((nl : Int) == (nn : Int)) = false := by simpa using hnl'
      have hnl3 : ((nl : Int) != (nn : Int)) = true := by simpa using hnl'
      go_enter Tryz.func33, Tryz.ntmps33
      go_wp2_with fail
      rw [← hw1]
      refine (HN.out _ HB1.out).mono ?_
      rintro e w2 ⟨kb, M, rfl, hr2⟩
      have hbx := (hr2.below.block _ hlt).trans HBX.out
      have HB2 := hid (HB1.out.trans (hr2.below.mono HB1.out.size))
      clear hr2 x0 x1 x2 x3 hlt hw1
      have x0 := blk_cell hbx 0
      have hlt := blk_lt hbx
      simp at x0
      clear hbx
      go_wp2_with fail
      go_ret2
      exact ⟨rfl, HB2.out⟩
  · rw [if_pos hp]
    have HB := hid (HBAD.out hp)
    have HPQ := hid hp
    generalize planChk p = q at HB HPQ hp ⊢
    rw [errV_pos HPQ.out] at HB ⊢
    clear HBAD HNEW he hp H5
    go_enter Tryz.func33, Tryz.ntmps33
    go_wp2_with fail
    rw [← hw1]
    refine (HB.out _ HB1.out).mono ?_
    rintro e w2 ⟨rfl, hb2⟩
    have HB2 := hid (HB1.out.trans (hb2.mono HB1.out.size))
    clear hb2 x0 x1 x2 x3 hlt hw1
    go_wp2_with fail
    go_ret2
    exact ⟨rfl, HB2.out⟩
theorem made_ints {n : Nat} (h : n ≤ 5) : madeCells (Value.int .i64 0).cells (n * 1) = (ints (List.replicate n 0)).toArray := by
  rcases (show n = 0 ∨ n = 1 ∨ n = 2 ∨ n = 3 ∨ n = 4 ∨ n = 5 by omega) with rfl | rfl | rfl | rfl | rfl | rfl <;> kernel_rfl
theorem run_makeTimes {n : Nat} (h : n ≤ 5) (w : World) : (Instr.makeSlice 41 (.int .i64 n) (.int .i64 n)).run Tryz.prog w = .ok (.slice (some ⟨w.heap.size, 0, none⟩) n n) (w.alloc (.cells (ints (List.replicate n 0)).toArray 3)) := by
  obtain ⟨i0, hi, hz0, hz1, hz2⟩ := info_parts Tryz.infoInt
  have := run_make (P := Tryz.prog) w 41 3 i0 _ Tryz.underlying41 hi hz0 .i64 .i64 n n (by omega) (by omega) (by rw [hz2]; omega) (by omega)
  rw [this, hz1, Int.toNat_natCast, made_ints h]
theorem times_row {w : World} {tb n : Nat} (h : w.heap[tb]? = some (.cells (ints (List.replicate n 0)).toArray 3 (0, 0))) (hn : n ≤ 5) : Row w 3 1 (some ⟨tb, 0, none⟩) n n (ints (List.replicate n 0)) := by
  have hl : (ints (List.replicate n 0)).length = n := by rw [ints_len, List.length_replicate]
  refine ⟨by omega, .inr ⟨tb, 0, _, rfl, h, Nat.le_refl _, by unfold maxLen; omega, by simp only [List.size_toArray]; omega, fun j u hu => ?_⟩⟩
  rw [Nat.zero_add]; simpa using hu
/-- What is made stands in new memory. -/
theorem care_stand {w2 wz : World} {kb cb tb : Nat} {M : KM} {P : PM} {A2 : Option Addr} {c2 : Nat} {p : Pl} (hr : KRun w w2 kb p M (kNew p)) (hb : Below w2.heap.size w2 wz) (hn : what.length = p.code.length) (h5 : what.length ≤ 5)
    (hblk : wz.heap[cb]? = some (careObj ⟨kb, M, P, A2, c2, some ⟨tb, 0, none⟩, what.length⟩ what.length most)) (htb : wz.heap[tb]? = some (.cells (ints (List.replicate what.length 0)).toArray 3 (0, 0)))
    (hp : PlanAt wz P) (hpl : P.pl = p) (hrow : Row wz 3 1 A2 what.length c2 (ints what)) (l1 : w2.heap.size ≤ cb) (l2 : w2.heap.size ≤ tb) (l3 : tb ≠ cb) (l4 : ∀ j, InA A2 j → w2.heap.size ≤ j ∧ j ≠ tb) (l5 : ∀ j, planF P j → w2.heap.size ≤ j ∧ j ≠ tb) :
    Stand w wz [careT cb p what most ⟨kb, M, P, A2, c2, some ⟨tb, 0, none⟩, what.length⟩ (careNew p)] ∧ ∀ j, (careT cb p what most ⟨kb, M, P, A2, c2, some ⟨tb, 0, none⟩, what.length⟩ (careNew p)).F j → w.heap.size ≤ j := by
  have hkl := hr.kat.lt
  have hsz := hr.below.size
  have e0 : (careNew p).times = List.replicate what.length 0 := by rw [hn]; rfl
  have b0 := Beside.nil wz
  have b1 := b0.add (con_lie hblk) (fun u hu => by simp at hu) (fun u hu => by simp at hu)
  have b2 := b1.add (k_lie (hr.kat.new hb) hr.plan) (fun u hu j h1 h2 => by simp at hu; subst hu; exact h1) (fun u hu j h1 h2 => by
    simp at hu; subst hu
    have : j = cb := h2
    have := hkl j (.inl h1)
    omega)
  have b3 := b2.add (row_lie (times_row htb h5)) (fun u hu j h1 h2 => by
    have hj : tb = j := by simpa [rowT, InA] using h2
    simp at hu
    rcases hu with rfl | rfl
    · exact h1
    · have := hkl j (.inl h1); omega) (fun u hu j h1 h2 => by
    have hj : tb = j := by simpa [rowT, InA] using h1
    simp at hu
    rcases hu with rfl | rfl
    · have : j = cb := h2
      omega
    · have := hkl j h2; omega)
  have b4 := b3.add (sl_lie hrow.sl) (fun u hu j h1 h2 => by
    have h3 := l4 j h2.2
    simp at hu
    rcases hu with rfl | rfl | rfl
    · exact h1
    · have := hkl j (.inl h1); omega
    · have hj : tb = j := by simpa [rowT, InA] using h1
      omega) (fun u hu j h1 h2 => h1.elim)
  have b5 := b4.add (plan_lie hp) (fun u hu j h1 h2 => by
    have h3 := l5 j h2
    simp at hu
    rcases hu with rfl | rfl | rfl | rfl
    · exact h1
    · have := hkl j (.inl h1); omega
    · have hj : tb = j := by simpa [rowT, InA] using h1
      omega
    · exact h1.elim) (fun u hu j h1 h2 => h1.elim)
  have hall : CareAt wz cb p what most ⟨kb, M, P, A2, c2, some ⟨tb, 0, none⟩, what.length⟩ (careNew p) := ⟨by unfold careL ckT; rw [e0]; exact b5, hpl, hrow.le⟩
  have hF : ∀ j, (careT cb p what most ⟨kb, M, P, A2, c2, some ⟨tb, 0, none⟩, what.length⟩ (careNew p)).F j → w.heap.size ≤ j := by
    rintro j ⟨t, ht, hj⟩
    simp [careL] at ht
    rcases ht with rfl | rfl | rfl | rfl | rfl
    · have : j = cb := hj
      omega
    · exact hr.fresh j hj
    · have hj : tb = j := by simpa [rowT, InA] using hj
      omega
    · have := (l4 j hj.2).1; omega
    · have := (l5 j hj).1; omega
  have hs := (Stand.nil w).add (hr.below.trans (hb.mono hsz)) hall.lie (fun j hj => hF j (hall.lie.sub j hj)) (fun j hj => .inl (hF j hj))
  exact ⟨hs, hF⟩
/-- .. in each order of making. -/
theorem care_made {w2 wy wz : World} {kb tb nl ns nw : Nat} {M : KM} {P : PM} {A2 : Option Addr} {c2 : Nat} {p : Pl} (hr : KRun w w2 kb p M (kNew p)) (hb : Below w2.heap.size w2 wy) (hn : what.length = p.code.length) (h5 : what.length ≤ 5) (hnl : nl = what.length)
    (htb : wy.heap[tb]? = some (.cells (ints (List.replicate nl 0)).toArray 3 (0, 0))) (hp : PlanAt wy P) (hpl : P.pl = p) (hns : P.spans.length = ns) (hnw : P.wires.length = nw) (hrow : Row wy 3 1 A2 nl c2 (ints what)) (l2 : w2.heap.size ≤ tb) (l4 : ∀ j, InA A2 j → w2.heap.size ≤ j ∧ j ≠ tb) (l5 : ∀ j, planF P j → w2.heap.size ≤ j ∧ j ≠ tb)
    (hz : wz = wy.alloc (.cells #[.pointer (some ⟨kb, 0, none⟩), .slice P.A P.ros.length P.c, .int .i64 P.ticks, .slice P.sA ns P.sc, .slice P.wA nw P.wc, .slice A2 nl c2, .int .i64 most, .slice (some ⟨tb, 0, none⟩) nl nl] 168)) {cb : Nat} (hcb : cb = wy.heap.size) :
    CMade w p what most (.returned (.tuple #[.pointer (some ⟨cb, 0, none⟩), .nilIface])) wz := by
  subst hz hnl hns hnw hcb
  have hlt := blk_lt htb
  have hba : Below wy.heap.size wy (wy.alloc (.cells #[.pointer (some ⟨kb, 0, none⟩), .slice P.A P.ros.length P.c, .int .i64 P.ticks, .slice P.sA P.spans.length P.sc, .slice P.wA P.wires.length P.wc, .slice A2 what.length c2, .int .i64 most, .slice (some ⟨tb, 0, none⟩) what.length what.length] 168)) := (Below.refl _ _).alloc (Nat.le_refl _) _
  exact ⟨wy.heap.size, _, rfl, care_stand hr (hb.trans (hba.mono hb.size)) hn h5 (heap_alloc_new wy _) ((hba.block _ hlt).trans htb) (hp.new hba) hpl (hrow.new hba) hb.size l2 (by omega) l4 l5⟩
set_option maxHeartbeats 4000000 in
theorem careNew_good (hf : Forms w) (hm : PlanAt w m) (hs : Sl w A 1 what.length (ints what)) (hsw : SlW A c what.length) (he : careE m.pl what most = 0) :
    Calls Tryz.prog 33 #[.agg #[.slice m.A m.ros.length m.c, .int .i64 m.ticks, .slice m.sA m.spans.length m.sc, .slice m.wA m.wires.length m.wc], .slice A what.length c, .int .i64 most] w (CMade w m.pl what most) := by
  obtain ⟨he0, hl, hbad, hm0, hm1⟩ := careE_zero he
  have hlen : m.pl.code.length = m.ros.length := by simp [PM.pl]
  have h5 : what.length ≤ 5 := by have := (planChk_ok he0).most5; omega
  have HNEW : Hid (∀ w', Below w.heap.size w w' → Calls Tryz.prog 25 #[.agg #[.slice m.A m.ros.length m.c, .int .i64 m.ticks, .slice m.sA m.spans.length m.sc, .slice m.wA m.wires.length m.wc]] w' (KNew w' m.pl)) := fun w' hb => new_run w' m (hf.new hb) (hm.new hb) he0
  unfold KNew at HNEW
  have HCR : Hid (∀ w', Below w.heap.size w w' → Calls Tryz.prog 88 #[.slice A what.length c, .func (.func 89) #[] #[]] w' fun e w'' => e = .returned (.bool false) ∧ w'' = w') := fun w' hb => by
    have := contains_rules A what.length c what w' (hs.new hb) (by omega)
    rw [hbad] at this; exact this
  have HOWN : Hid (∀ w', Below w.heap.size w w' → Calls Tryz.prog 73 #[.agg #[.slice m.A m.ros.length m.c, .int .i64 m.ticks, .slice m.sA m.spans.length m.sc, .slice m.wA m.wires.length m.wc]] w' (Owned w' m)) := fun w' hb => own_any w' m (hm.new hb) (planSmall he0)
  have HCL : Hid (∀ w', Below w.heap.size w w' → Calls Tryz.prog 90 #[.slice A what.length c] w' (Cloned w' 3 1 what.length (ints what))) := fun w' hb => clone_ints w' A what.length c what (by omega) (fun h => (hsw.2.2 h).1) (hs.new hb)
  have HLP : Hid (what.length = m.pl.code.length) := hl
  have H5 := hid h5
  obtain ⟨p, hp⟩ : ∃ p, p = m.pl := ⟨_, rfl⟩
  rw [← hp] at HNEW HLP
  have HPP := hid hp
  obtain ⟨nn, hnn⟩ : ∃ nn, nn = m.ros.length := ⟨_, rfl⟩
  obtain ⟨ns, hns⟩ : ∃ ns, ns = m.spans.length := ⟨_, rfl⟩
  obtain ⟨nw, hnw⟩ : ∃ nw, nw = m.wires.length := ⟨_, rfl⟩
  obtain ⟨nl, hnl⟩ : ∃ nl, nl = what.length := ⟨_, rfl⟩
  have hnln : nl = nn := by omega
  rw [← hnn, ← hns, ← hnw] at HNEW HOWN
  rw [← hnl] at HCR HCL h5
  rw [← hnn, ← hns, ← hnw, ← hnl, ← hp]
  have HNL := hid hnl
  obtain ⟨w1, hw1⟩ : ∃ w1, w1 = w.alloc (.cells #[.slice m.A nn m.c, .int .i64 m.ticks, .slice m.sA ns m.sc, .slice m.wA nw m.wc] 26) := ⟨_, rfl⟩
  have hb1 : Below w.heap.size w w1 := by rw [hw1]; exact (Below.refl _ _).alloc (Nat.le_refl _) _
  have hbox : w1.heap[w.heap.size]? = some (.cells #[.slice m.A nn m.c, .int .i64 m.ticks, .slice m.sA ns m.sc, .slice m.wA nw m.wc] 26 (0, 0)) := by rw [hw1]; exact heap_alloc_new w _
  have HB1 := hid hb1
  have HBX := hid hbox
  have x0 := blk_cell hbox 0
  have x1 := blk_cell hbox 1
  have x2 := blk_cell hbox 2
  have x3 := blk_cell hbox 3
  have hlt := blk_lt hbox
  simp at x0 x1 x2 x3
  subst hnln
  have hmk := fun w => run_makeTimes h5 w
  clear hb1 hbox hm hf hs hsw hnn hns hnw hlen he he0 hl hbad hp hnl
  go_enter Tryz.func33, Tryz.ntmps33
  go_wp2_with fail
  rw [← hw1]
  refine (HNEW.out _ HB1.out).mono ?_
  rintro e w2 ⟨kb, M, rfl, hr2⟩
  have hbx := (hr2.below.block _ hlt).trans HBX.out
  have HB2 := hid (HB1.out.trans (hr2.below.mono HB1.out.size))
  have HR2 := hid hr2
  clear hr2 x0 x1 x2 x3 hlt hw1
  have x0 := blk_cell hbx 0
  have x1 := blk_cell hbx 1
  have x2 := blk_cell hbx 2
  have x3 := blk_cell hbx 3
  have hlt := blk_lt hbx
  simp at x0 x1 x2 x3
  clear hbx
  go_wp2_with fail
  refine (HCR.out _ HB2.out).mono ?_
  rintro e w3 ⟨rfl, rfl⟩
  go_upto_region 8 with fail
  go_region_with (first
    | (go_at_call 73; refine (HOWN.out _ (by first | exact HB2.out.drew | exact (HB2.out.alloc HB2.out.size _).drew)).mono ?_; rintro e w4 ⟨P, rfl, hpt, hpl, hrow, hfr, hb4⟩; have HPT := hid hpt; have HPL := hid hpl; have HFR := hid hfr; have HB4 := hid hb4; (have HW4 : Hid (Below w.heap.size w w4) := (by first | exact HB2.out.drew.trans (hb4.mono HB2.out.size) | exact (HB2.out.alloc HB2.out.size _).drew.trans (hb4.mono (Nat.le_trans HB2.out.size (by simp [World.drew]))))); clear hpt hpl hrow hfr hb4 x0 x1 x2 x3)
    | (go_at_call 90; refine (HCL.out _ (by first | exact HW4.out | exact HW4.out.alloc HW4.out.size _)).mono ?_; rintro e w5 ⟨A5, c5, rfl, hr5, hn5, hb5⟩; have HR5 := hid hr5; have HN5 := hid hn5; have HB5 := hid hb5; clear hr5 hn5 hb5))
  all_goals
    go_wp2_with fail
    go_ret2
    have hfr := HFR.out
    have hpt := HPT.out.lt
    have hs4 := HB4.out.size
    have hs5 := HB5.out.size
    have hs2 := HR2.out.below.size
    first
      | (refine care_made (tb := w4.heap.size) (wy := w5) (P := P) (HR2.out.base HB1.out) ?_ HLP.out H5.out HNL.out ((HB5.out.block _ (by simp)).trans (heap_alloc_new _ _)) ((HPT.out.new ((Below.refl _ _).alloc (Nat.le_refl _) _)).new HB5.out) (HPL.out.trans HPP.out.symm) rfl rfl HR5.out ?_ ?_ ?_ rfl rfl
         · exact (((Below.refl _ _).drew.trans HB4.out).alloc hs4 _).trans (HB5.out.mono (by rw [sz_alloc]; exact Nat.le_succ_of_le hs4))
         · exact hs4
         · exact fun j hj => by have h1 := HN5.out j hj; rw [sz_alloc] at h1; have h3 : w3.heap.size ≤ w4.heap.size := hs4; omega
         · exact fun j hj => by have h1 := hfr j hj; have h2 := hpt j hj; have h3 : w3.heap.size ≤ j := h1; omega)
      | (refine care_made (tb := w3.heap.size) (wy := w5) (P := P) (HR2.out.base HB1.out) ?_ HLP.out H5.out HNL.out ((HB5.out.block _ (Nat.lt_of_lt_of_le (by rw [show ∀ o, (w3.alloc o).drew.heap.size = w3.heap.size + 1 from fun o => sz_alloc w3 o]; exact Nat.lt_succ_self _) hs4)).trans ((HB4.out.block _ (by rw [show ∀ o, (w3.alloc o).drew.heap.size = w3.heap.size + 1 from fun o => sz_alloc w3 o]; exact Nat.lt_succ_self _)).trans (heap_alloc_new w3 _))) (HPT.out.new HB5.out) (HPL.out.trans HPP.out.symm) rfl rfl HR5.out ?_ ?_ ?_ rfl rfl
         · exact (((Below.refl _ _).alloc (Nat.le_refl _) _).drew.trans (HB4.out.mono (by rw [show ∀ o, (w3.alloc o).drew.heap.size = w3.heap.size + 1 from fun o => sz_alloc w3 o]; exact Nat.le_succ _))).trans (HB5.out.mono (by have h3 := hs4; rw [show ∀ o, (w3.alloc o).drew.heap.size = w3.heap.size + 1 from fun o => sz_alloc w3 o] at h3; omega))
         · exact Nat.le_refl _
         · exact fun j hj => by have h1 := HN5.out j hj; have h3 := hs4; rw [show ∀ o, (w3.alloc o).drew.heap.size = w3.heap.size + 1 from fun o => sz_alloc w3 o] at h3; omega
         · exact fun j hj => by have h1 := hfr j hj; rw [show ∀ o, (w3.alloc o).drew.heap.size = w3.heap.size + 1 from fun o => sz_alloc w3 o] at h1; omega)
      | (refine care_made (tb := w5.heap.size) (wy := w5.alloc (.cells (ints (List.replicate nl 0)).toArray 3)) (P := P) (HR2.out.base HB1.out) ?_ HLP.out H5.out HNL.out (heap_alloc_new _ _) ((HPT.out.new HB5.out).new ((Below.refl _ _).alloc (Nat.le_refl _) _)) (HPL.out.trans HPP.out.symm) rfl rfl (HR5.out.new ((Below.refl _ _).alloc (Nat.le_refl _) _)) ?_ ?_ ?_ rfl (sz_alloc _ _).symm
         · exact ((Below.refl _ _).drew.trans (HB4.out.trans (HB5.out.mono hs4))).alloc (Nat.le_trans hs4 hs5) _
         · exact Nat.le_trans hs4 hs5
         · exact fun j hj => by have h1 := HN5.out j hj; have h2 := HR5.out.lt j hj; have h3 : w3.heap.size ≤ w4.heap.size := hs4; omega
         · exact fun j hj => by have h1 := hfr j hj; have h2 := hpt j hj; have h3 : w3.heap.size ≤ j := h1; omega)
end
end Go.Proofs.YthafahnlfpkkbaaGreatDoor
