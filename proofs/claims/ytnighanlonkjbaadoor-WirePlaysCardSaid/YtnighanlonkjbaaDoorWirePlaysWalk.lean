/- The walk of framelaw1.WirePlays: it returns true at every input. -/
import Derived.Test.YtnighanlonkjbaaDoorLine2
import Derived.Test.YtnighanlonkjbaaDoorOpen
import Derived.Test.YtnighanlonkjbaaDoorRLine
import Derived.Test.YtnighanlonkjbaaDoorRWire
import Derived.Test.YtnighanlonkjbaaDoorTold
import Derived.Test.YtnighanlonkjbaaDoorSameAny
import Derived.Test.YtnighanlonkjbaaDoorKernLaw
import Derived.Deep.DeepCutAuto
import Derived.Deep.DrawnRows
import Derived.IntWalk
namespace Go.Proofs.YtnighanlonkjbaaDoor
open Go.RowKit
set_option maxRecDepth 100000

/-- The program's line and the reference's, that hold the same. -/
structure WpAt (w wr : World) (b b2 : Nat) (A1 A2 : Option Addr) (x : Wire) (items : List Int) (lost : Int) (i : Nat) : Prop where
  l1 : LineAt wr b A1 x items lost
  l2 : RLineAt wr b2 A2 x items lost
  f1 : ∀ k, LF b A1 k → w.heap.size ≤ k
  f2 : ∀ k, LF b2 A2 k → w.heap.size ≤ k
  ap : ∀ k, LF b A1 k → ¬ LF b2 A2 k
  ok : LnOk ⟨x, items, lost⟩ i
  bw : Below w.heap.size w wr
section
variable {w wr wa wb : World} {b b2 : Nat} {A1 A2 A1' A2' : Option Addr} {x : Wire} {items items' : List Int} {lost lost' : Int} {i i' : Nat}
theorem WpAt.mid (h : WpAt w wr b b2 A1 A2 x items lost i) (k2 : Keep (LF b2 A2) wr wa) : LineAt wa b A1 x items lost := h.l1.keep fun k hk hl => k2.block k hl (h.ap k hk)
theorem WpAt.step (h : WpAt w wr b b2 A1 A2 x items lost i) (g2 : RLineAt wa b2 A2' x items' lost') (k2 : Keep (LF b2 A2) wr wa) (n2 : ∀ k, InA A2' k → InA A2 k ∨ wr.heap.size ≤ k)
    (g1 : LineAt wb b A1' x items' lost') (k1 : Keep (LF b A1) wa wb) (n1 : ∀ k, InA A1' k → InA A1 k ∨ wa.heap.size ≤ k) (ok' : LnOk ⟨x, items', lost'⟩ i') : WpAt w wb b b2 A1' A2' x items' lost' i' := by
  have s1 := h.bw.size
  have s2 := k2.size
  have lt1 := h.l1.lt
  have lt2 := g2.lt
  have F2 : ∀ k, LF b2 A2' k → LF b2 A2 k ∨ wr.heap.size ≤ k := by
    rintro k (rfl | hk)
    · exact .inl (.inl rfl)
    · exact (n2 k hk).imp_left .inr
  have F1 : ∀ k, LF b A1' k → LF b A1 k ∨ wa.heap.size ≤ k := by
    rintro k (rfl | hk)
    · exact .inl (.inl rfl)
    · exact (n1 k hk).imp_left .inr
  have far : ∀ k, LF b2 A2' k → ¬ LF b A1 k := fun k hk hk1 => by
    rcases F2 k hk with h3 | h3
    · exact h.ap k hk1 h3
    · have := lt1 k hk1; omega
  refine ⟨g1, g2.keep fun k hk hl => k1.block k hl (far k hk), fun k hk => ?_, fun k hk => ?_, fun k hk hk2 => ?_, ok', ?_⟩
  · rcases F1 k hk with h3 | h3
    · exact h.f1 k h3
    · omega
  · rcases F2 k hk with h3 | h3
    · exact h.f2 k h3
    · omega
  · rcases F1 k hk with h3 | h3
    · exact far k hk2 h3
    · have := lt2 k hk2; omega
  · exact ((((Keep.of_below NoF h.bw).then k2 (fun j hj h4 => by have := h.f2 j h4; omega)).then k1 (fun j hj h4 => by have := h.f1 j h4; omega))).below (Nat.le_refl _) (fun j h => h.elim)
theorem WpAt.new (h : WpAt w wr b b2 A1 A2 x items lost i) (hb : Below wr.heap.size wr wa) : WpAt w wa b b2 A1 A2 x items lost i :=
  ⟨h.l1.new hb, h.l2.new hb, h.f1, h.f2, h.ap, h.ok, h.bw.trans (hb.mono h.bw.size)⟩
theorem WpAt.more (h : WpAt w wr b b2 A1 A2 x items lost i) (hi : i ≤ i') : WpAt w wr b b2 A1 A2 x items lost i' := ⟨h.l1, h.l2, h.f1, h.f2, h.ap, h.ok.mono (by omega), h.bw⟩
end

def RTookV (w : World) (b : Nat) (A : Option Addr) (x : Wire) (rest : List Int) (lost v : Int) (ok : Bool) (e : Ending) (w' : World) : Prop :=
  ∃ A', e = .returned (.tuple #[.int .i64 v, .bool ok]) ∧ RLineAt w' b A' x rest lost ∧ Keep (LF b A) w w' ∧ (∀ k, InA A' k → InA A k)
def TookE (w : World) (b : Nat) (A : Option Addr) (x : Wire) (rest : List Int) (lost v : Int) (ev : Value) (e : Ending) (w' : World) : Prop :=
  ∃ A', e = .returned (.tuple #[.int .i64 v, ev]) ∧ LineAt w' b A' x rest lost ∧ Keep (LF b A) w w' ∧ (∀ k, InA A' k → InA A k)

/-- What is read of a line, its length by a name. -/
def HeldN (w : World) (n : Nat) (items : List Int) (lost : Int) (e : Ending) (w' : World) : Prop :=
  ∃ A cap, e = .returned (.agg #[.slice A n cap, .int .i64 lost]) ∧ Row w' 3 1 A n cap (ints items) ∧ (∀ k, InA A k → w.heap.size ≤ k) ∧ Below w.heap.size w w'

set_option maxHeartbeats 1000000 in
theorem wirePlays_bad {w : World} (hg : Handle w) (x : Wire) (hc : wireChk x ≠ 0) (A0 : Option Addr) (c0 : Nat) (l : List Int) :
    Calls Tryd.prog 6 #[.agg #[.int .i64 x.fr, .int .i64 x.to, .int .i64 x.kind, .int .i64 x.deep], .slice A0 l.length c0] w fun e w' => e = .returned (.bool true) ∧ Below w.heap.size w w' := by
  have HG := hid hg
  have HER : Hid (∀ (e : Int) (w' : World), Below w.heap.size w w' → Calls Tryd.prog 20 #[errV e, .int .i64 e] w' fun ev w'' => ev = .returned (.bool true) ∧ Below w'.heap.size w' w'') := fun e w' hb => error_same e w' (HG.out.new hb)
  clear hg
  have HRW : Hid (∀ w', Calls Tryd.prog 22 #[.agg #[.int .i64 x.fr, .int .i64 x.to, .int .i64 x.kind, .int .i64 x.deep]] w' fun e w'' => e = .returned (.int .i64 (wireChk x)) ∧ Below w'.heap.size w' w'') := fun w' => rwire_any x.fr x.to x.kind x.deep w'
  have HCW : Hid (∀ w', Calls Tryd.prog 23 #[.agg #[.int .i64 x.fr, .int .i64 x.to, .int .i64 x.kind, .int .i64 x.deep]] w' fun e w'' => e = .returned (errV (wireChk x)) ∧ Below w'.heap.size w' w'') := fun w' => wire_check x.fr x.to x.kind x.deep w'
  have HNEW := hid (fun w' => new_bad x w' hc)
  have HERB := hid (HER.out (wireChk x))
  rw [errV_pos hc] at HCW HNEW HERB
  have hz : (wireChk x == 0) = false := by simpa using hc
  have hz2 : (wireChk x != 0) = true := by simpa using hc
  generalize wireChk x = E at HRW HCW HNEW HERB hz hz2
  obtain ⟨xf, xt, xk, xd⟩ := x
  simp only [] at HRW HCW HNEW
  clear hc
  go_enter Tryd.func6, Tryd.ntmps6
  have HB0 := hid ((Below.refl w.heap.size w).alloc (Nat.le_refl _) (.cells #[.int .i64 xf, .int .i64 xt, .int .i64 xk, .int .i64 xd] 44))
  go_wp2_with (first
  | (go_at_call 22; refine (HRW.out _).mono ?_; rintro e w1 ⟨rfl, hb1⟩; have HB1 := hid (HB0.out.trans (hb1.mono HB0.out.size)); have hbox := (hb1.block w.heap.size (by simp)).trans (heap_alloc_new w _); have x0 := blk_cell hbox 0; have x1 := blk_cell hbox 1; have x2 := blk_cell hbox 2; have x3 := blk_cell hbox 3; simp at x0 x1 x2 x3; have HX := hid hbox; clear hb1 hbox)
  | (go_at_call 23; refine (HCW.out _).mono ?_; rintro e w2 ⟨rfl, hb2⟩; have HB2 := hid (HB1.out.trans (hb2.mono HB1.out.size)); have hbox := (hb2.block w.heap.size (blk_lt HX.out)).trans HX.out; clear x0 x1 x2 x3; have x0 := blk_cell hbox 0; have x1 := blk_cell hbox 1; have x2 := blk_cell hbox 2; have x3 := blk_cell hbox 3; simp at x0 x1 x2 x3; replace HX := hid hbox; clear hb2 hbox)
  | (go_at_call 24; refine (HNEW.out _).mono ?_; rintro e w4 ⟨rfl, hb4⟩; replace HB2 := hid (HB2.out.trans (hb4.mono HB2.out.size)); have hbox := (hb4.block w.heap.size (blk_lt HX.out)).trans HX.out; clear x0 x1 x2 x3; have x0 := blk_cell hbox 0; have x1 := blk_cell hbox 1; have x2 := blk_cell hbox 2; have x3 := blk_cell hbox 3; simp at x0 x1 x2 x3; replace HX := hid hbox; clear hb4 hbox)
  | (go_at_call 20; refine (HERB.out _ HB2.out).mono ?_; rintro e w3 ⟨rfl, hb3⟩; replace HB2 := hid (HB2.out.trans (hb3.mono HB2.out.size)); have hbox := (hb3.block w.heap.size (blk_lt HX.out)).trans HX.out; clear x0 x1 x2 x3; have x0 := blk_cell hbox 0; have x1 := blk_cell hbox 1; have x2 := blk_cell hbox 2; have x3 := blk_cell hbox 3; simp at x0 x1 x2 x3; replace HX := hid hbox; clear hb3 hbox))
  go_ret
  exact ⟨rfl, HB2.out⟩

set_option maxHeartbeats 8000000 in
theorem wirePlays_walk {w : World} (hg : Handle w) (x : Wire) (_hx : x.Ok) (A0 : Option Addr) (c0 : Nat) (l : List Int) (hs : Sl w A0 1 l.length (l.flatMap fun a => [.int .i64 a])) (hsw : SlW A0 c0 l.length) (_ok : ∀ y ∈ l, Fits y) :
    Calls Tryd.prog 6 #[.agg #[.int .i64 x.fr, .int .i64 x.to, .int .i64 x.kind, .int .i64 x.deep], .slice A0 l.length c0] w fun e w' => e = .returned (.bool true) ∧ Below w.heap.size w w' := by
  obtain ⟨hs1, hs2, hs3⟩ := hsw
  unfold maxLen at hs2
  have HS := hid hs
  have HG := hid hg
  have HER : Hid (∀ (e : Int) (w' : World), Below w.heap.size w w' → Calls Tryd.prog 20 #[errV e, .int .i64 e] w' fun ev w'' => ev = .returned (.bool true) ∧ Below w'.heap.size w' w'') := fun e w' hb => error_same e w' (HG.out.new hb)
  clear hs hs3 hg
  by_cases hc : wireChk x = 0
  · have HRW : Hid (∀ w', Calls Tryd.prog 22 #[.agg #[.int .i64 x.fr, .int .i64 x.to, .int .i64 x.kind, .int .i64 x.deep]] w' fun e w'' => e = .returned (.int .i64 0) ∧ Below w'.heap.size w' w'') := fun w' => by
      have h := rwire_any x.fr x.to x.kind x.deep w'
      rw [show (⟨x.fr, x.to, x.kind, x.deep⟩ : Wire) = x from rfl, hc] at h
      exact h
    have HCW : Hid (∀ w', Calls Tryd.prog 23 #[.agg #[.int .i64 x.fr, .int .i64 x.to, .int .i64 x.kind, .int .i64 x.deep]] w' fun e w'' => e = .returned .nilIface ∧ Below w'.heap.size w' w'') := fun w' => by
      have h := wire_check x.fr x.to x.kind x.deep w'
      rw [show (⟨x.fr, x.to, x.kind, x.deep⟩ : Wire) = x from rfl, hc, errV_zero] at h
      exact h
    have HER0 : Hid (∀ (w' : World), Below w.heap.size w w' → Calls Tryd.prog 20 #[.nilIface, .int .i64 0] w' fun ev w'' => ev = .returned (.bool true) ∧ Below w'.heap.size w' w'') := fun w' hb => by
      have h := HER.out 0 w' hb
      rw [errV_zero] at h; exact h
    have HNEW := hid (fun w' => new_ok x w' hc)
    have hk := wire_kind hc
    have HC := hid hc
    have HK := hid hk
    obtain ⟨xf, xt, xk, xd⟩ := x
    simp only [] at HRW HCW
    clear hc hk
    go_enter Tryd.func6, Tryd.ntmps6
    have HB0 := hid ((Below.refl w.heap.size w).alloc (Nat.le_refl _) (.cells #[.int .i64 xf, .int .i64 xt, .int .i64 xk, .int .i64 xd] 44))
    go_upto_region 7 with (first
      | (go_at_call 22; refine (HRW.out _).mono ?_; rintro e w1 ⟨rfl, hb1⟩; have HB1 := hid (HB0.out.trans (hb1.mono HB0.out.size)); have hbox := (hb1.block w.heap.size (by simp)).trans (heap_alloc_new w _); have x0 := blk_cell hbox 0; have x1 := blk_cell hbox 1; have x2 := blk_cell hbox 2; have x3 := blk_cell hbox 3; simp at x0 x1 x2 x3; have HX := hid hbox; clear hb1 hbox)
      | (go_at_call 23; refine (HCW.out _).mono ?_; rintro e w2 ⟨rfl, hb2⟩; have HB2 := hid (HB1.out.trans (hb2.mono HB1.out.size)); have hbox := (hb2.block w.heap.size (blk_lt HX.out)).trans HX.out; clear x0 x1 x2 x3; have x0 := blk_cell hbox 0; have x1 := blk_cell hbox 1; have x2 := blk_cell hbox 2; have x3 := blk_cell hbox 3; simp at x0 x1 x2 x3; replace HX := hid hbox; clear hb2 hbox)
      | (go_at_call 24; refine (HNEW.out _).mono ?_; rintro e w4 ⟨b, rfl, hfr, hl, hb4⟩; have HL := hid hl; have HFR := hid (Nat.le_trans HB2.out.size hfr); replace HB2 := hid (HB2.out.trans (hb4.mono HB2.out.size)); have hbox := (hb4.block w.heap.size (blk_lt HX.out)).trans HX.out; clear x0 x1 x2 x3; have x0 := blk_cell hbox 0; have x1 := blk_cell hbox 1; have x2 := blk_cell hbox 2; have x3 := blk_cell hbox 3; simp at x0 x1 x2 x3; replace HX := hid hbox; clear hb4 hbox hl hfr)
      | (go_at_call 20; refine (HER0.out _ HB2.out).mono ?_; rintro e w3 ⟨rfl, hb3⟩; replace HB2 := hid (HB2.out.trans (hb3.mono HB2.out.size)); have hbox := (hb3.block w.heap.size (blk_lt HX.out)).trans HX.out; clear x0 x1 x2 x3; have x0 := blk_cell hbox 0; have x1 := blk_cell hbox 1; have x2 := blk_cell hbox 2; have x3 := blk_cell hbox 3; simp at x0 x1 x2 x3; replace HX := hid hbox; (try (replace HL := hid (HL.out.new hb3))); clear hb3 hbox))
    go_wp2_with fail
    obtain ⟨w5, hw5⟩ : ∃ w5, w5 = w3.alloc (.cells #[.int .i64 xf, .int .i64 xt, .int .i64 xk, .int .i64 xd, .slice none 0 0, .int .i64 0] 55) := ⟨_, rfl⟩
    obtain ⟨b2, hb2⟩ : ∃ b2, b2 = w3.heap.size := ⟨_, rfl⟩
    rw [← hw5, ← hb2]
    have HST : Hid (WpAt w w5 b b2 none none ⟨xf, xt, xk, xd⟩ [] 0 0) := by
      have hs3 := HB2.out.size
      have hlt := HL.out.lt
      refine ⟨?_, ?_, ?_, ?_, ?_, ⟨HC.out, ?_, ?_, ?_, ?_⟩, ?_⟩
      · rw [hw5]; exact HL.out.new ((Below.refl _ _).alloc (Nat.le_refl _) _)
      · rw [hw5, hb2]; exact ⟨0, heap_alloc_new _ _, Row.nil _ _ _⟩
      · rintro k (rfl | h)
        · exact HFR.out
        · simp [InA] at h
      · rintro k (rfl | h)
        · omega
        · simp [InA] at h
      · rintro k h1 (rfl | h)
        · have := hlt _ h1; omega
        · simp [InA] at h
      · have := HK.out; simp only [List.length_nil]; omega
      · intro n hn; simp at hn
      · exact Int.le_refl _
      · exact Int.le_refl _
      · rw [hw5]; exact HB2.out.alloc hs3 _
    clear hw5 hb2 x0 x1 x2 x3 HNEW HRW HCW HL HFR HX HB2 HB1 HB0
    go_loopw [11] (fun v11 wr => ∃ (i : Nat) (A1 A2 : Option Addr) (items : List Int) (lost : Int), i ≤ l.length ∧ i ≤ 60 ∧ v11 = .int .i64 i ∧ WpAt w wr b b2 A1 A2 ⟨xf, xt, xk, xd⟩ items lost i) (fun v11 _ => 60 - (intOf v11).toNat)
    case atStart => exact ⟨0, none, none, [], 0, by omega, by omega, rfl, HST.out⟩
    case round =>
      obtain ⟨i, A1, A2, items, lost, hil, hi6, rfl, hw⟩ := hrel
      have HW := hid hw
      clear hw
      by_cases h1 : i < l.length
      · by_cases h2 : i < 60
        · obtain ⟨ab, ao, rfl, hab, hcell⟩ := HS.out.2 (by omega)
          have c0' := (HW.out.bw.cell (p := ⟨ab, ao + i, none⟩) hab).trans (hcell i (.int .i64 l[i]) (by rw [ints_flat]; simp [h1]))
          generalize l[i] = st at c0'
          clear hcell
          go_upto_if 67 with (fail)
          go_cut [9] (fun v9 wx => v9 = .bool true ∧ ∃ (A1 A2 : Option Addr) (items : List Int) (lost : Int), WpAt w wx b b2 A1 A2 ⟨xf, xt, xk, xd⟩ items lost (i + 1))
          case first =>
            have hk1 : xk = 1 ∨ xk = 2 := by have := HK.out; omega
            by_cases hst : st = -1
            · subst hst
              have hrt := rtake_any b2 wr A2 ⟨xf, xt, xk, xd⟩ items lost HW.out.ok.six hk1 HW.out.l2
              have ht : ∀ wa, Keep (LF b2 A2) wr wa → Calls Tryd.prog 26 #[.pointer (some ⟨b, 0, none⟩)] wa (Took wa b A1 ⟨xf, xt, xk, xd⟩ items lost) := fun wa hk => take_any b wa A1 ⟨xf, xt, xk, xd⟩ items lost HW.out.ok.six hk1 (HW.out.mid hk)
              have hok := HW.out.ok.take.mono (show (i : Int) ≤ ((i + 1 : Nat) : Int) by omega)
              obtain ⟨v, bo, E, ev, HRT, HT, HEE, hev⟩ : ∃ (v : Int) (bo : Bool) (E : Int) (ev : Value), Hid (Calls Tryd.prog 25 #[.pointer (some ⟨b2, 0, none⟩)] wr (RTookV wr b2 A2 ⟨xf, xt, xk, xd⟩ (lineTake ⟨xf, xt, xk, xd⟩ items) lost v bo)) ∧
                  Hid (∀ wa, Keep (LF b2 A2) wr wa → Calls Tryd.prog 26 #[.pointer (some ⟨b, 0, none⟩)] wa (TookE wa b A1 ⟨xf, xt, xk, xd⟩ (lineTake ⟨xf, xt, xk, xd⟩ items) lost v ev)) ∧
                  Hid (∀ (w' : World), Below w.heap.size w w' → Calls Tryd.prog 20 #[ev, .int .i64 E] w' fun ev w'' => ev = .returned (.bool true) ∧ Below w'.heap.size w' w'') ∧ (bo = true ∧ E = 0 ∨ bo = false ∧ E = 5) := by
                cases items with
                | nil => exact ⟨0, false, 5, errV 5, hrt, ht, HER.out 5, .inr ⟨rfl, rfl⟩⟩
                | cons a r => exact ⟨a, true, 0, errV 0, hrt, ht, HER.out 0, .inl ⟨rfl, rfl⟩⟩
              have HOK := hid hok
              generalize lineTake ⟨xf, xt, xk, xd⟩ items = its at HRT HT HOK
              clear hk1 hrt ht hok
              rcases hev with ⟨rfl, rfl⟩ | ⟨rfl, rfl⟩
              all_goals
                go_wp2_with (first
                  | (go_at_call 25; refine (HRT.out).mono ?_; rintro e wa ⟨A2', rfl, g2, k2, n2⟩; have HG2 := hid g2; have HK2 := hid k2; have HN2 := hid n2; clear g2 k2 n2)
                  | (go_at_call 26; refine (HT.out _ HK2.out).mono ?_; rintro e wb ⟨A1', rfl, g1, k1, n1⟩; have HW2 := hid (HW.out.step HG2.out HK2.out (fun k hk => .inl (HN2.out k hk)) g1 k1 (fun k hk => .inl (n1 k hk)) HOK.out); clear g1 k1 n1)
                  | (go_at_call 20; refine (HEE.out _ HW2.out.bw).mono ?_; rintro e w6 ⟨rfl, hb6⟩; have HW3 := hid (HW2.out.new hb6); clear hb6))
                go_meet
                exact ⟨rfl, _, _, _, _, HW3.out⟩
            · have e1 : (st == -1) = false := by simpa using hst
              clear hst
              by_cases hbad : st < 0 ∨ 1000 ≤ st
              · have HSB := hid (fun w' => send_bad b st w' hbad)
                have HEE := hid (HER.out 1)
                have HW2 := hid (HW.out.more (i' := i + 1) (by omega))
                rw [errV_pos (by decide)] at HSB HEE
                rcases hbad with hbad | hbad
                · clear hk1
                  go_wp2_with (first
                    | (go_at_call 28; refine (HSB.out _).mono ?_; rintro e wb ⟨rfl, rfl⟩)
                    | (go_at_call 20; refine (HEE.out _ HW2.out.bw).mono ?_; rintro e w6 ⟨rfl, hb6⟩; have HW3 := hid (HW2.out.new hb6); clear hb6))
                  go_meet
                  exact ⟨rfl, _, _, _, _, HW3.out⟩
                · have hst0 : 0 ≤ st := by omega
                  clear hk1
                  go_wp2_with (first
                    | (go_at_call 28; refine (HSB.out _).mono ?_; rintro e wb ⟨rfl, rfl⟩)
                    | (go_at_call 20; refine (HEE.out _ HW2.out.bw).mono ?_; rintro e w6 ⟨rfl, hb6⟩; have HW3 := hid (HW2.out.new hb6); clear hb6))
                  go_meet
                  exact ⟨rfl, _, _, _, _, HW3.out⟩
              · have hst0 : 0 ≤ st := by omega
                have hst1 : st < 1000 := by omega
                have HEE := hid (HER.out 0)
                rw [errV_zero] at HEE
                have hl : lost ≤ (i : Int) := HW.out.ok.lostB
                have HRS := hid (rsend_any b2 st wr A2 ⟨xf, xt, xk, xd⟩ items lost hk1 HW.out.ok.six HW.out.ok.most HW.out.ok.lost0 (by omega) HW.out.l2)
                have HSD : Hid (∀ wa, Keep (LF b2 A2) wr wa → Calls Tryd.prog 28 #[.pointer (some ⟨b, 0, none⟩), .int .i64 st] wa (Sent wa b A1 ⟨xf, xt, xk, xd⟩ (lineSend ⟨xf, xt, xk, xd⟩ items lost st))) := fun wa hk => send_any b st wa A1 ⟨xf, xt, xk, xd⟩ items lost hst0 hst1 hk1 HW.out.ok.six HW.out.ok.lost0 (by omega) (HW.out.mid hk)
                have HOK : Hid (LnOk ⟨⟨xf, xt, xk, xd⟩, (lineSend ⟨xf, xt, xk, xd⟩ items lost st).2.1, (lineSend ⟨xf, xt, xk, xd⟩ items lost st).2.2⟩ ((i + 1 : Nat) : Int)) := HW.out.ok.send ⟨hst0, hst1⟩
                generalize lineSend ⟨xf, xt, xk, xd⟩ items lost st = q at HRS HSD HOK
                obtain ⟨bo, its, lo⟩ := q
                clear hk1 hbad hl
                go_wp2_with (first
                  | (go_at_call 27; refine (HRS.out).mono ?_; rintro e wa ⟨A2', rfl, g2, k2, n2⟩; have HG2 := hid g2; have HK2 := hid k2; have HN2 := hid n2; clear g2 k2 n2; have c0' : wa.cell? ⟨ab, ao + i, none⟩ = some (.int .i64 st) := (HK2.out.cell (Nat.lt_of_lt_of_le hab HW.out.bw.size) (fun h => by have := HW.out.f2 _ h; omega)).trans c0')
                  | (go_at_call 28; refine (HSD.out _ HK2.out).mono ?_; rintro e wb ⟨A1', rfl, g1, k1, n1⟩; have HW2 := hid (HW.out.step HG2.out HK2.out HN2.out g1 k1 n1 HOK.out); clear g1 k1 n1)
                  | (go_at_call 20; refine (HEE.out _ HW2.out.bw).mono ?_; rintro e w6 ⟨rfl, hb6⟩; have HW3 := hid (HW2.out.new hb6); clear hb6))
                go_meet
                exact ⟨by simp, _, _, _, _, HW3.out⟩
          case rest =>
            obtain ⟨rfl, A1', A2', items', lost', hw'⟩ := hcut
            have hc2 := hw'.l2
            obtain ⟨cap2, hblk2, hrow2⟩ := hc2
            have c4 : wc.cell? ⟨b2, 4, none⟩ = some (.slice A2' items'.length cap2) := blk_cell hblk2 4
            have c5 : wc.cell? ⟨b2, 5, none⟩ = some (.int .i64 lost') := blk_cell hblk2 5
            have hb2 := blk_lt hblk2
            have HPK := hid (peek_any b wc A1' ⟨xf, xt, xk, xd⟩ items' lost' hw'.ok.six hw'.l1)
            have HHD := hid (held_any b wc.drew A1' ⟨xf, xt, xk, xd⟩ items' lost' hw'.ok.six (hw'.l1.keep fun k _ _ => rfl))
            have HFS : Hid (∀ (w' w'' : World) (A : Option Addr) (cap : Nat), Below wc.heap.size wc w' → Row w' 3 1 A items'.length cap (ints items') → Below w'.heap.size w' w'' →
                Calls Tryd.prog 30 #[.agg #[.slice A items'.length cap, .int .i64 lost'], .agg #[.slice A2' items'.length cap2, .int .i64 lost']] w'' (fun e w3 => e = .returned (.bool true) ∧ Below w''.heap.size w'' w3)) := fun w' w'' A cap hb1 hr hb2 => by
              have h6 : items'.length ≤ 6 := hw'.ok.six
              have h := held_same ⟨A, cap, items', lost'⟩ ⟨A2', cap2, items', lost'⟩ w'' ⟨(hr.new hb2).sl, hr.le.1, by show items'.length ≤ 1000; omega⟩ ⟨((hrow2.new hb1).new hb2).sl, hrow2.le.1, by show items'.length ≤ 1000; omega⟩
              rw [show eqB (Hm.val ⟨A, cap, items', lost'⟩) (Hm.val ⟨A2', cap2, items', lost'⟩) = true from eqB_true rfl] at h
              exact h
            have hsl2 := hrow2.sl.2
            have hcap2 := hrow2.le
            unfold maxLen at hcap2
            have HBW := hid hw'.bw
            have HWN := hid (fun (w'' : World) (hb : Below wc.heap.size wc w'') => hw'.new hb)
            have HS4 : Hid (∀ w', Below wc.heap.size wc w' → w'.cell? ⟨b2, 4, none⟩ = some (.slice A2' items'.length cap2) ∧ w'.cell? ⟨b2, 5, none⟩ = some (.int .i64 lost')) := fun w' hb => ⟨(hb.cell (p := ⟨b2, 4, none⟩) hb2).trans c4, (hb.cell (p := ⟨b2, 5, none⟩) hb2).trans c5⟩
            have HI0 : Hid (0 < items'.length → ∃ b off, A2' = some ⟨b, off, none⟩ ∧ b < wc.heap.size ∧ ∀ (j : Nat) u, (ints items')[j]? = some u → wc.cell? ⟨b, off + j, none⟩ = some u) := hsl2
            obtain ⟨n, hn⟩ : ∃ n, n = items'.length := ⟨_, rfl⟩
            have hhd := HHD.out
            unfold HeldAs at hhd
            have hfs := HFS.out
            have hs4 := HS4.out
            have hpk := HPK.out
            rw [← hn] at hhd hfs hs4 c4 hcap2
            have HHN : Hid (Calls Tryd.prog 31 #[.pointer (some ⟨b, 0, none⟩)] wc.drew (HeldN wc.drew n items' lost')) := hhd
            have HFN := hid hfs
            have HS5 := hid hs4
            have HN := hid hn
            clear hhd hfs hs4 HHD HFS HS4 hw' HW hblk2 hrow2 hsl2 hn
            by_cases hn0 : n = 0
            · have hnil : items' = [] := List.eq_nil_of_length_eq_zero (by rw [← HN.out]; exact hn0)
              rw [hnil] at hpk
              have HPN : Hid (Calls Tryd.prog 29 #[.pointer (some ⟨b, 0, none⟩)] wc fun e w' => e = .returned (.tuple #[.int .i64 0, .bool false]) ∧ wc = w') := hpk
              subst hn0
              clear hnil hpk HPK
              go_wp2_with (go_at_call 29; refine (HPN.out).mono ?_; rintro e wp ⟨rfl, rfl⟩)
              go_region_held3 (fun w' => w'.cell? ⟨b2, 4, none⟩ = some (.slice A2' 0 cap2) ∧ w'.cell? ⟨b2, 5, none⟩ = some (.int .i64 lost'))
                (first | (with_reducible exact HS5.out _ HB7.out) | (with_reducible exact HS5.out _ HB6.out) | (with_reducible exact HS5.out _ (Below.drew (Below.refl _ _))))
                (first | (go_at_call 31; refine (HHN.out).mono ?_; rintro e w6 ⟨A6, cap6, rfl, hr6, hn6, hb6⟩; have HB6 := hid ((Below.refl wc.heap.size wc).drew.trans hb6); have HR6 := hid hr6; clear hr6 hn6 hb6) | (go_at_call 30; refine (HFN.out _ _ _ _ HB6.out HR6.out (Below.refl _ _)).mono ?_; rintro e w7 ⟨rfl, hb7⟩; have HB7 := hid (HB6.out.trans (hb7.mono HB6.out.size)); clear hb7))
              go_wp2_with fail
              go_roundw
              case rel => exact ⟨i + 1, _, _, _, _, by omega, by omega, by go_num, HWN.out _ HB7.out⟩
              case measure => simp [intOf]; omega
            · have hn1 : 0 < n := by omega
              obtain ⟨b', off', rfl, _, hcell2⟩ := HI0.out (by rw [← HN.out]; exact hn1)
              obtain ⟨a, ca, hpa⟩ : ∃ a, wc.cell? ⟨b', off', none⟩ = some (.int .i64 a) ∧ Calls Tryd.prog 29 #[.pointer (some ⟨b, 0, none⟩)] wc fun e w' => e = .returned (.tuple #[.int .i64 a, .bool true]) ∧ wc = w' := by
                have hit : items' ≠ [] := fun e => hn0 (by rw [HN.out, e]; rfl)
                revert hcell2 hpk
                cases items' with
                | nil => exact absurd rfl hit
                | cons a r => exact fun hpk hcell2 => ⟨a, hcell2 0 _ rfl, hpk⟩
              have HPN := hid hpa
              clear hpk HPK hpa hcell2 hn0
              go_wp2_with (go_at_call 29; refine (HPN.out).mono ?_; rintro e wp ⟨rfl, rfl⟩)
              go_region_held3 (fun w' => w'.cell? ⟨b2, 4, none⟩ = some (.slice (some ⟨b', off', none⟩) n cap2) ∧ w'.cell? ⟨b2, 5, none⟩ = some (.int .i64 lost'))
                (first | (with_reducible exact HS5.out _ HB7.out) | (with_reducible exact HS5.out _ HB6.out) | (with_reducible exact HS5.out _ (Below.drew (Below.refl _ _))))
                (first | (go_at_call 31; refine (HHN.out).mono ?_; rintro e w6 ⟨A6, cap6, rfl, hr6, hn6, hb6⟩; have HB6 := hid ((Below.refl wc.heap.size wc).drew.trans hb6); have HR6 := hid hr6; clear hr6 hn6 hb6) | (go_at_call 30; refine (HFN.out _ _ _ _ HB6.out HR6.out (Below.refl _ _)).mono ?_; rintro e w7 ⟨rfl, hb7⟩; have HB7 := hid (HB6.out.trans (hb7.mono HB6.out.size)); clear hb7))
              go_wp2_with fail
              go_roundw
              case rel => exact ⟨i + 1, _, _, _, _, by omega, by omega, by go_num, HWN.out _ HB7.out⟩
              case measure => simp [intOf]; omega
        · have h60 : (60 : Int) ≤ (i : Int) := by omega
          have e60 : decide ((i : Int) < 60) = false := decide_eq_false (by omega)
          clear h2
          go_wp2_with fail
          go_ret
          exact ⟨rfl, HW.out.bw⟩
      · obtain rfl : i = l.length := by omega
        go_wp2_with fail
        go_ret
        exact ⟨rfl, HW.out.bw⟩
  · exact wirePlays_bad HG.out x hc A0 c0 l
end Go.Proofs.YtnighanlonkjbaaDoor
