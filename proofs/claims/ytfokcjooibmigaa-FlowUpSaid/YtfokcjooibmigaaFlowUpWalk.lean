/- The walk of framelaw1.FlowUp: it returns true at every input. -/
import Derived.Test.YtfokcjooibmigaaLevels
namespace Go.Proofs.Ytfokcjooibmigaa
open Go.RowKit

theorem Try.infoWire : (Try.prog.info? 32).map (fun i => (i.zero, i.size, i.bytes)) = some (some (.agg #[.int .i64 0, .int .i64 0, .int .i64 0, .int .i64 0]), 4, 32) := by kernel_rfl
theorem wires_one (l : List Wire) : ∀ u ∈ l.flatMap Wire.cells, u.oneCell' = true := by
  intro u hu; simp [Wire.cells] at hu; obtain ⟨a, _, h | h | h | h⟩ := hu <;> subst h <;> rfl

theorem reach_n (a b : Int) (A : Option Addr) (n c : Nat) (l : List Wire) (w : World) (hn : l.length = n) (hs : Sl w A 4 n (l.flatMap Wire.cells)) (hsw : SlW A c n) :
    Calls Try.prog 17 #[.slice A n c, .int .i64 a, .int .i64 b] w (TellB w (reachOf l a b)) := by
  subst hn; exact reach_any a b A c l w hs hsw

def oneWire : List Wire := [⟨0, 1, 1, 1⟩]
theorem one_ok : (flowChk oneWire).2 = 0 := by decide
theorem one_there : reachOf oneWire 0 1 = (true, 0) := by
  have h : reachB oneWire 0 1 = true := reachB_iff.2 (Reach.refl.step ⟨_, List.mem_singleton.2 rfl, rfl, rfl⟩)
  simp [reachOf, one_ok, roomB, h]
theorem one_back : reachOf oneWire 1 0 = (false, 0) := by
  have h : reachB oneWire 1 0 = false := by
    cases hb : reachB oneWire 1 0 with
    | false => rfl
    | true =>
      exfalso
      have : ∀ v, Reach oneWire 1 v → v = 1 := by
        intro v hv
        induction hv with
        | refl => rfl
        | step _ e ih =>
          obtain ⟨x, hx, h1, h2⟩ := e
          simp [oneWire] at hx
          subst hx
          simp at h1 h2
          omega
      have := this 0 (reachB_iff.1 hb)
      omega
  simp [reachOf, one_ok, roomB, h]

theorem Reach.mono {l m : List Wire} (h : ∀ x ∈ l, x ∈ m) {a b : Nat} (r : Reach l a b) : Reach m a b := by
  induction r with
  | refl => exact .refl
  | step _ e ih => obtain ⟨x, hx, h1, h2⟩ := e; exact ih.step ⟨x, h x hx, h1, h2⟩
theorem Reach.up {l : List Wire} {lv : List Int} (h : l.any (leadsDown lv) = false) {a b : Nat} (r : Reach l a b) : lv.getD a 0 ≤ lv.getD b 0 := by
  induction r with
  | refl => exact Int.le_refl _
  | step _ e ih =>
    obtain ⟨x, hx, h1, h2⟩ := e
    have := List.any_eq_false.1 h x hx
    simp [leadsDown, h1, h2] at this
    simp at ih ⊢
    omega
theorem more_reach {l : List Wire} {x : Wire} {a b : Int} (h : (reachOf (l ++ [x]) a b).2 = 0) (ha : roomB a = true) (hb : roomB b = true) (hr : reachB l a.toNat b.toNat = true) : (reachOf (l ++ [x]) a b).1 = true := by
  unfold reachOf at h ⊢
  split
  · rename_i h1; rw [if_pos h1] at h; exact absurd h h1
  · rw [if_neg (by simp [ha, hb])]
    exact reachB_iff.2 ((reachB_iff.1 hr).mono (fun y hy => List.mem_append_left _ hy))

theorem reachOf_ok {l : List Wire} {a b : Int} (h : (reachOf l a b).2 = 0) : (flowChk l).2 = 0 ∧ roomB a = true ∧ roomB b = true := by
  unfold reachOf at h
  split at h
  · rename_i h1; exact absurd h h1
  · rename_i h1
    split at h
    · simp at h
    · rename_i h2
      have h3 := fun e => h2 (.inl e)
      have h4 := fun e => h2 (.inr e)
      exact ⟨by simpa using h1, by simpa using h3, by simpa using h4⟩
theorem reachOf_good {l : List Wire} {a b : Int} (h : (flowChk l).2 = 0) (ha : roomB a = true) (hb : roomB b = true) : reachOf l a b = (reachB l a.toNat b.toNat, 0) := by
  unfold reachOf
  rw [if_neg (by simp [h]), if_neg (by simp [ha, hb])]

theorem levelsOf_ok {l : List Wire} {lv : List Int} (h : levelsOf l lv = 0) : lv.length = 5 ∧ l.any (leadsDown lv) = false := by
  unfold levelsOf at h
  split at h
  · rename_i h1; exact absurd h h1
  · split at h
    · simp at h
    · rename_i h2
      split at h
      · simp at h
      · rename_i h3
        exact ⟨by simpa using h2, by simpa using h3⟩

set_option maxHeartbeats 16000000 in
set_option maxRecDepth 100000 in
theorem flowUp_walk (A : Option Addr) (c : Nat) (l : List Wire) (a b d : Int) (A2 : Option Addr) (c2 : Nat) (lv : List Int) (x : Wire) (w : World)
    (hs : Sl w A 4 l.length (l.flatMap Wire.cells)) (hsw : SlW A c l.length) (hs2 : Sl w A2 1 lv.length (lv.flatMap fun a => [.int .i64 a])) (hsw2 : SlW A2 c2 lv.length) :
    Calls Try.prog 6 #[.slice A l.length c, .int .i64 a, .int .i64 b, .int .i64 d, .slice A2 lv.length c2, .agg #[.int .i64 x.fr, .int .i64 x.to, .int .i64 x.kind, .int .i64 x.deep]] w
      fun e w' => e = .returned (.bool true) ∧ Below w.heap.size w w' := by
  have HS := hid hs
  have HW := hid hsw
  have HS2 := hid hs2
  have HW2 := hid hsw2
  obtain ⟨m, hm⟩ : ∃ m, lv.length = m := ⟨_, rfl⟩
  rw [hm]
  have HM := hid hm
  clear hs hsw hs2 hsw2 hm
  obtain ⟨i0, hi0, hz0, hz1, hz2⟩ := info_parts Try.infoWire
  go_enter Try.func6, Try.ntmps6
  go_wp2_with fail
  obtain ⟨w0, hw0⟩ : ∃ w0, w0 = (w.alloc (Obj.cells #[.int .i64 x.fr, .int .i64 x.to, .int .i64 x.kind, .int .i64 x.deep] 32)).alloc (Obj.cells #[.int .i64 0, .int .i64 1, .int .i64 1, .int .i64 1] 32) := ⟨_, rfl⟩
  rw [← hw0]
  have hbel0 : Below w.heap.size w w0 := by rw [hw0]; exact ((Below.refl _ _).alloc (Nat.le_refl _) _).alloc (by simp) _
  have hbox : w0.heap[w.heap.size]? = some (.cells #[.int .i64 x.fr, .int .i64 x.to, .int .i64 x.kind, .int .i64 x.deep] 32 (0, 0)) := by rw [hw0, hp_alloc, if_neg (by simp), hp_alloc, if_pos rfl]
  have hone : w0.heap[w.heap.size + 1]? = some (.cells #[.int .i64 0, .int .i64 1, .int .i64 1, .int .i64 1] 32 (0, 0)) := by rw [hw0, hp_alloc, if_pos (by simp)]
  have hso : Sl w0 (some ⟨w.heap.size + 1, 0, none⟩) 4 1 (oneWire.flatMap Wire.cells) := ⟨rfl, fun _ => ⟨_, 0, rfl, blk_lt hone, fun j u hu => by rw [Nat.zero_add, blk_cell hone j]; simpa [oneWire, Wire.cells] using hu⟩⟩
  have HB0 := hid hbel0
  have HBOX := hid hbox
  have HSO := hid hso
  clear hw0 hbel0 hbox hone hso
  refine (reach_n 0 1 _ 1 1 oneWire w0 rfl HSO.out ⟨by omega, by simp [maxLen], by simp⟩).mono ?_
  rw [one_there]
  rintro e w1 ⟨rfl, hb1⟩
  rw [errV_zero]
  have HB1 := hid hb1
  clear hb1
  go_wp2_with fail
  refine (reach_n 1 0 _ 1 1 oneWire w1 rfl (HSO.out.new HB1.out) ⟨by omega, by simp [maxLen], by simp⟩).mono ?_
  rw [one_back]
  rintro e w2 ⟨rfl, hb2⟩
  rw [errV_zero]
  have HB2 := hid (HB1.out.trans (hb2.mono HB1.out.size))
  clear hb2 HB1 HSO
  go_wp2_with fail
  by_cases h1 : (reachOf l a b).2 = 0
  · by_cases h2 : (reachOf l b d).2 = 0
    · obtain ⟨hfl, ha, hb⟩ := reachOf_ok h1
      obtain ⟨_, _, hd⟩ := reachOf_ok h2
      obtain ⟨xb, hxb⟩ : ∃ r, r = reachB l a.toNat b.toNat := ⟨_, rfl⟩
      obtain ⟨yb, hyb⟩ : ∃ r, r = reachB l b.toNat d.toNat := ⟨_, rfl⟩
      obtain ⟨zb, hzb⟩ : ∃ r, r = reachB l a.toNat d.toNat := ⟨_, rfl⟩
      have HX : Hid (reachOf l a b = (xb, 0)) := by rw [hxb]; exact reachOf_good hfl ha hb
      have HY : Hid (reachOf l b d = (yb, 0)) := by rw [hyb]; exact reachOf_good hfl hb hd
      have HZ : Hid (reachOf l a d = (zb, 0)) := by rw [hzb]; exact reachOf_good hfl ha hd
      have HSELF : Hid (reachOf l a a = (true, 0)) := by rw [show true = reachB l a.toNat a.toNat from (reachB_iff.2 .refl).symm]; exact reachOf_good hfl ha ha
      have hxyz : xb = true → yb = true → zb = true := by
        rw [hxb, hyb, hzb]
        exact fun p q => reachB_iff.2 ((reachB_iff.1 p).trans (reachB_iff.1 q))
      have HXB := hid hxb
      have HFL := hid hfl
      have HA := hid ha
      have HBB := hid hb
      have HXYZ := hid hxyz
      clear h1 h2 hxb hyb hzb hfl hxyz
      refine (reach_any a b A c l w2 ((HS.out.new HB0.out).new HB2.out) HW.out).mono ?_
      rw [HX.out]
      rintro e w3 ⟨rfl, hb3⟩
      rw [errV_zero]
      have HB3 := hid (HB2.out.trans (hb3.mono HB2.out.size))
      clear hb3 HB2
      go_wp2_with fail
      refine (reach_any b d A c l w3 ((HS.out.new HB0.out).new HB3.out) HW.out).mono ?_
      rw [HY.out]
      rintro e w4 ⟨rfl, hb4⟩
      rw [errV_zero]
      have HB4 := hid (HB3.out.trans (hb4.mono HB3.out.size))
      clear hb4 HB3
      go_wp2_with fail
      refine (reach_any a d A c l w4 ((HS.out.new HB0.out).new HB4.out) HW.out).mono ?_
      rw [HZ.out]
      rintro e w5 ⟨rfl, hb5⟩
      rw [errV_zero]
      have HB5 := hid (HB4.out.trans (hb5.mono HB4.out.size))
      clear hb5 HB4
      go_wp2_with fail
      refine (reach_any a a A c l w5 ((HS.out.new HB0.out).new HB5.out) HW.out).mono ?_
      rw [HSELF.out]
      rintro e w6 ⟨rfl, hb6⟩
      rw [errV_zero]
      have HB6 := hid (HB5.out.trans (hb6.mono HB5.out.size))
      clear hb6 HB5
      obtain ⟨i, rfl⟩ : ∃ n : Nat, a = n := ⟨a.toNat, by have := roomB_true.1 HA.out; omega⟩
      obtain ⟨j, rfl⟩ : ∃ n : Nat, b = n := ⟨b.toNat, by have := roomB_true.1 HBB.out; omega⟩
      have i5 : i < 5 := by have := roomB_true.1 HA.out; omega
      have j5 : j < 5 := by have := roomB_true.1 HBB.out; omega
      have HL12 := hid (flowChk_ok HFL.out).1
      have z1 : decide ((i : Int) < 0) = false := by simp
      have z2 : decide ((4 : Int) < (i : Int)) = false := by simp; omega
      have z3 : decide ((j : Int) < 0) = false := by simp
      have z4 : decide ((4 : Int) < (j : Int)) = false := by simp; omega
      cases xb with
      | false =>
        go_wp2_with fail
        refine (levels_any A A2 c c2 m l lv w6 ((HS.out.new HB0.out).new HB6.out) HW.out HM.out (by have h := (HS2.out.new HB0.out).new HB6.out; rwa [HM.out] at h) (by have h := HW2.out; rwa [HM.out] at h)).mono ?_
        by_cases h0 : levelsOf l lv = 0
        · obtain ⟨hm5, hno⟩ := levelsOf_ok h0
          have HNO := hid hno
          have hm5 : m = 5 := by rw [← HM.out]; exact hm5
          subst hm5
          rw [h0, errV_zero]
          clear h0 hno
          rintro e w7 ⟨rfl, hb7⟩
          have HBV := hid (HB6.out.trans (hb7.mono HB6.out.size))
          clear hb7
          go_wp2_with fail
          go_quiet (fail)
          have HBV' := HBV
          have HBV : Hid (Below w0.heap.size w0 (w7.drewN nq)) := ⟨HBV'.out.os, HBV'.out.tape, HBV'.out.output, HBV'.out.size, HBV'.out.block⟩
          go_wp2_with (first
            | (at_builtin
               refine wpList_append_row _ rfl (.tmp 145) (.tmp 146) 44 rfl 32 i0 (.agg #[.int .i64 0, .int .i64 0, .int .i64 0, .int .i64 0]) 4 32 Try.underlying44 hi0 hz0 hz1 hz2 rfl (by decide) none 0 0 [] rfl (Row.nil _ _ _)
                 A l.length c (l.flatMap Wire.cells) rfl (by exact (HS.out.new HB0.out).new HBV.out) (wires_one l) (by have := HL12.out; unfold maxLen; omega) (by have := HL12.out; omega) ?_
               intro A3 c3 w8 hr8 hk8 hi8
               have hr8' : Row w8 32 4 A3 l.length c3 (l.flatMap Wire.cells) := by simpa using hr8
               have hb8 := hk8.below (Nat.le_refl _) (fun i h => by simp [InA] at h)
               have HB8 := hid (HBV.out.trans (hb8.mono HBV.out.size))
               have hk8n : Hid (∀ k, InA A3 k → w0.heap.size ≤ k) := fun k h => by
                 rcases hi8 k h with h | h
                 · simp [InA] at h
                 · have := HBV.out.size; omega
               have g0 := (HB8.out.cell (p := ⟨w.heap.size, 0, none⟩) (blk_lt HBOX.out)).trans (blk_cell HBOX.out 0)
               have g1 := (HB8.out.cell (p := ⟨w.heap.size, 1, none⟩) (blk_lt HBOX.out)).trans (blk_cell HBOX.out 1)
               have g2 := (HB8.out.cell (p := ⟨w.heap.size, 2, none⟩) (blk_lt HBOX.out)).trans (blk_cell HBOX.out 2)
               have g3 := (HB8.out.cell (p := ⟨w.heap.size, 3, none⟩) (blk_lt HBOX.out)).trans (blk_cell HBOX.out 3)
               simp at g0 g1 g2 g3
               have HR8 := hid hr8'
               clear hr8 hr8' hk8 hi8 hb8)
            | (at_builtin
               refine wpList_append_row _ rfl (.tmp 148) (.tmp 150) 44 rfl 32 i0 (.agg #[.int .i64 0, .int .i64 0, .int .i64 0, .int .i64 0]) 4 32 Try.underlying44 hi0 hz0 hz1 hz2 rfl (by decide) A3 l.length c3 (l.flatMap Wire.cells) rfl (by exact HR8.out.alloc _)
                 (some ⟨w8.heap.size, 0, none⟩) 1 1 x.cells rfl (by exact ⟨rfl, fun _ => ⟨w8.heap.size, 0, rfl, by simp, fun j u hu => by rw [Nat.zero_add, blk_cell (heap_alloc_new w8 _) j]; simpa [Wire.cells] using hu⟩⟩) (by intro u hu; simp [Wire.cells] at hu; rcases hu with rfl | rfl | rfl | rfl <;> rfl) (by have := HL12.out; unfold maxLen; omega) (by have := HL12.out; omega) ?_
               intro A4 c4 w9 hr9 hk9 hi9
               have hb9 : Below w0.heap.size w0 w9 := (HB8.out.alloc HB8.out.size _).trans (hk9.below (by have := HB8.out.size; simp; omega) (fun i h => hk8n.out i h))
               have HB9 := hid hb9
               have HR9 := hid hr9
               clear hr9 hk9 hi9 hb9))
          refine (reach_n i j A4 (l.length + 1) c4 (l ++ [x]) w9 (by simp) (by have := HR9.out.sl; simpa using this) ⟨HR9.out.le.1, HR9.out.le.2, fun h => by rcases HR9.out.2 with ⟨_, h1, _⟩ | ⟨_, _, _, h', _⟩; omega; rw [h'] at h; cases h⟩).mono ?_
          by_cases h9 : (reachOf (l ++ [x]) i j).2 = 0
          · have H9 := hid h9
            clear h9
            rintro e w10 ⟨rfl, hb10⟩
            rw [H9.out, errV_zero]
            generalize (reachOf (l ++ [x]) i j).1 = q1
            go_wp2_with fail
            go_ret
            exact ⟨rfl, HB0.out.trans ((HB9.out.trans (hb10.mono HB9.out.size)).mono HB0.out.size)⟩
          · have H9 := hid (errV_pos h9)
            clear h9
            rintro e w10 ⟨rfl, hb10⟩
            rw [H9.out]
            generalize (reachOf (l ++ [x]) i j).1 = q1
            go_wp2_with fail
            go_ret
            exact ⟨rfl, HB0.out.trans ((HB9.out.trans (hb10.mono HB9.out.size)).mono HB0.out.size)⟩
        · have H0 := hid (errV_pos h0)
          clear h0
          rintro e w7 ⟨rfl, hb7⟩
          rw [H0.out]
          have HBV := hid (HB6.out.trans (hb7.mono HB6.out.size))
          clear hb7
          go_wp2_with (first
            | (at_builtin
               refine wpList_append_row _ rfl (.tmp 145) (.tmp 146) 44 rfl 32 i0 (.agg #[.int .i64 0, .int .i64 0, .int .i64 0, .int .i64 0]) 4 32 Try.underlying44 hi0 hz0 hz1 hz2 rfl (by decide) none 0 0 [] rfl (Row.nil _ _ _)
                 A l.length c (l.flatMap Wire.cells) rfl (by exact (HS.out.new HB0.out).new HBV.out) (wires_one l) (by have := HL12.out; unfold maxLen; omega) (by have := HL12.out; omega) ?_
               intro A3 c3 w8 hr8 hk8 hi8
               have hr8' : Row w8 32 4 A3 l.length c3 (l.flatMap Wire.cells) := by simpa using hr8
               have hb8 := hk8.below (Nat.le_refl _) (fun i h => by simp [InA] at h)
               have HB8 := hid (HBV.out.trans (hb8.mono HBV.out.size))
               have hk8n : Hid (∀ k, InA A3 k → w0.heap.size ≤ k) := fun k h => by
                 rcases hi8 k h with h | h
                 · simp [InA] at h
                 · have := HBV.out.size; omega
               have g0 := (HB8.out.cell (p := ⟨w.heap.size, 0, none⟩) (blk_lt HBOX.out)).trans (blk_cell HBOX.out 0)
               have g1 := (HB8.out.cell (p := ⟨w.heap.size, 1, none⟩) (blk_lt HBOX.out)).trans (blk_cell HBOX.out 1)
               have g2 := (HB8.out.cell (p := ⟨w.heap.size, 2, none⟩) (blk_lt HBOX.out)).trans (blk_cell HBOX.out 2)
               have g3 := (HB8.out.cell (p := ⟨w.heap.size, 3, none⟩) (blk_lt HBOX.out)).trans (blk_cell HBOX.out 3)
               simp at g0 g1 g2 g3
               have HR8 := hid hr8'
               clear hr8 hr8' hk8 hi8 hb8)
            | (at_builtin
               refine wpList_append_row _ rfl (.tmp 148) (.tmp 150) 44 rfl 32 i0 (.agg #[.int .i64 0, .int .i64 0, .int .i64 0, .int .i64 0]) 4 32 Try.underlying44 hi0 hz0 hz1 hz2 rfl (by decide) A3 l.length c3 (l.flatMap Wire.cells) rfl (by exact HR8.out.alloc _)
                 (some ⟨w8.heap.size, 0, none⟩) 1 1 x.cells rfl (by exact ⟨rfl, fun _ => ⟨w8.heap.size, 0, rfl, by simp, fun j u hu => by rw [Nat.zero_add, blk_cell (heap_alloc_new w8 _) j]; simpa [Wire.cells] using hu⟩⟩) (by intro u hu; simp [Wire.cells] at hu; rcases hu with rfl | rfl | rfl | rfl <;> rfl) (by have := HL12.out; unfold maxLen; omega) (by have := HL12.out; omega) ?_
               intro A4 c4 w9 hr9 hk9 hi9
               have hb9 : Below w0.heap.size w0 w9 := (HB8.out.alloc HB8.out.size _).trans (hk9.below (by have := HB8.out.size; simp; omega) (fun i h => hk8n.out i h))
               have HB9 := hid hb9
               have HR9 := hid hr9
               clear hr9 hk9 hi9 hb9))
          refine (reach_n i j A4 (l.length + 1) c4 (l ++ [x]) w9 (by simp) (by have := HR9.out.sl; simpa using this) ⟨HR9.out.le.1, HR9.out.le.2, fun h => by rcases HR9.out.2 with ⟨_, h1, _⟩ | ⟨_, _, _, h', _⟩; omega; rw [h'] at h; cases h⟩).mono ?_
          by_cases h9 : (reachOf (l ++ [x]) i j).2 = 0
          · have H9 := hid h9
            clear h9
            rintro e w10 ⟨rfl, hb10⟩
            rw [H9.out, errV_zero]
            generalize (reachOf (l ++ [x]) i j).1 = q1
            go_wp2_with fail
            go_ret
            exact ⟨rfl, HB0.out.trans ((HB9.out.trans (hb10.mono HB9.out.size)).mono HB0.out.size)⟩
          · have H9 := hid (errV_pos h9)
            clear h9
            rintro e w10 ⟨rfl, hb10⟩
            rw [H9.out]
            generalize (reachOf (l ++ [x]) i j).1 = q1
            go_wp2_with fail
            go_ret
            exact ⟨rfl, HB0.out.trans ((HB9.out.trans (hb10.mono HB9.out.size)).mono HB0.out.size)⟩
      | true =>
        cases yb with
        | false =>
          go_wp2_with fail
          refine (levels_any A A2 c c2 m l lv w6 ((HS.out.new HB0.out).new HB6.out) HW.out HM.out (by have h := (HS2.out.new HB0.out).new HB6.out; rwa [HM.out] at h) (by have h := HW2.out; rwa [HM.out] at h)).mono ?_
          by_cases h0 : levelsOf l lv = 0
          · obtain ⟨hm5, hno⟩ := levelsOf_ok h0
            have HNO := hid hno
            have hm5 : m = 5 := by rw [← HM.out]; exact hm5
            subst hm5
            rw [h0, errV_zero]
            clear h0 hno
            rintro e w7 ⟨rfl, hb7⟩
            have HBV := hid (HB6.out.trans (hb7.mono HB6.out.size))
            clear hb7
            obtain ⟨lb, lo, rfl, hlb, hcell⟩ := (HS2.out.new HB0.out).int HBV.out (by omega)
            have q1 := hcell i (by rw [HM.out]; omega)
            have q2 := hcell j (by rw [HM.out]; omega)
            have hup := (reachB_iff.1 HXB.out.symm).up HNO.out
            rw [Int.toNat_natCast, Int.toNat_natCast] at hup
            generalize lv.getD i 0 = vi at q1 hup
            generalize lv.getD j 0 = vj at q2 hup
            clear hcell
            go_wp2_with fail
            go_quiet (fail)
            have HBV' := HBV
            have HBV : Hid (Below w0.heap.size w0 (w7.drewN nq)) := ⟨HBV'.out.os, HBV'.out.tape, HBV'.out.output, HBV'.out.size, HBV'.out.block⟩
            go_wp2_with (first
              | (at_builtin
                 refine wpList_append_row _ rfl (.tmp 145) (.tmp 146) 44 rfl 32 i0 (.agg #[.int .i64 0, .int .i64 0, .int .i64 0, .int .i64 0]) 4 32 Try.underlying44 hi0 hz0 hz1 hz2 rfl (by decide) none 0 0 [] rfl (Row.nil _ _ _)
                   A l.length c (l.flatMap Wire.cells) rfl (by exact (HS.out.new HB0.out).new HBV.out) (wires_one l) (by have := HL12.out; unfold maxLen; omega) (by have := HL12.out; omega) ?_
                 intro A3 c3 w8 hr8 hk8 hi8
                 have hr8' : Row w8 32 4 A3 l.length c3 (l.flatMap Wire.cells) := by simpa using hr8
                 have hb8 := hk8.below (Nat.le_refl _) (fun i h => by simp [InA] at h)
                 have HB8 := hid (HBV.out.trans (hb8.mono HBV.out.size))
                 have hk8n : Hid (∀ k, InA A3 k → w0.heap.size ≤ k) := fun k h => by
                   rcases hi8 k h with h | h
                   · simp [InA] at h
                   · have := HBV.out.size; omega
                 have g0 := (HB8.out.cell (p := ⟨w.heap.size, 0, none⟩) (blk_lt HBOX.out)).trans (blk_cell HBOX.out 0)
                 have g1 := (HB8.out.cell (p := ⟨w.heap.size, 1, none⟩) (blk_lt HBOX.out)).trans (blk_cell HBOX.out 1)
                 have g2 := (HB8.out.cell (p := ⟨w.heap.size, 2, none⟩) (blk_lt HBOX.out)).trans (blk_cell HBOX.out 2)
                 have g3 := (HB8.out.cell (p := ⟨w.heap.size, 3, none⟩) (blk_lt HBOX.out)).trans (blk_cell HBOX.out 3)
                 simp at g0 g1 g2 g3
                 have HR8 := hid hr8'
                 clear hr8 hr8' hk8 hi8 hb8)
              | (at_builtin
                 refine wpList_append_row _ rfl (.tmp 148) (.tmp 150) 44 rfl 32 i0 (.agg #[.int .i64 0, .int .i64 0, .int .i64 0, .int .i64 0]) 4 32 Try.underlying44 hi0 hz0 hz1 hz2 rfl (by decide) A3 l.length c3 (l.flatMap Wire.cells) rfl (by exact HR8.out.alloc _)
                   (some ⟨w8.heap.size, 0, none⟩) 1 1 x.cells rfl (by exact ⟨rfl, fun _ => ⟨w8.heap.size, 0, rfl, by simp, fun j u hu => by rw [Nat.zero_add, blk_cell (heap_alloc_new w8 _) j]; simpa [Wire.cells] using hu⟩⟩) (by intro u hu; simp [Wire.cells] at hu; rcases hu with rfl | rfl | rfl | rfl <;> rfl) (by have := HL12.out; unfold maxLen; omega) (by have := HL12.out; omega) ?_
                 intro A4 c4 w9 hr9 hk9 hi9
                 have hb9 : Below w0.heap.size w0 w9 := (HB8.out.alloc HB8.out.size _).trans (hk9.below (by have := HB8.out.size; simp; omega) (fun i h => hk8n.out i h))
                 have HB9 := hid hb9
                 have HR9 := hid hr9
                 clear hr9 hk9 hi9 hb9))
            refine (reach_n i j A4 (l.length + 1) c4 (l ++ [x]) w9 (by simp) (by have := HR9.out.sl; simpa using this) ⟨HR9.out.le.1, HR9.out.le.2, fun h => by rcases HR9.out.2 with ⟨_, h1, _⟩ | ⟨_, _, _, h', _⟩; omega; rw [h'] at h; cases h⟩).mono ?_
            by_cases h9 : (reachOf (l ++ [x]) i j).2 = 0
            · have h91 := more_reach h9 HA.out HBB.out HXB.out.symm
              rw [show reachOf (l ++ [x]) i j = (true, 0) from Prod.ext h91 h9]
              clear h9 h91
              rintro e w10 ⟨rfl, hb10⟩
              rw [errV_zero]
              go_wp2_with fail
              go_ret
              exact ⟨rfl, HB0.out.trans ((HB9.out.trans (hb10.mono HB9.out.size)).mono HB0.out.size)⟩
            · have H9 := hid (errV_pos h9)
              clear h9
              rintro e w10 ⟨rfl, hb10⟩
              rw [H9.out]
              generalize (reachOf (l ++ [x]) i j).1 = q1
              go_wp2_with fail
              go_ret
              exact ⟨rfl, HB0.out.trans ((HB9.out.trans (hb10.mono HB9.out.size)).mono HB0.out.size)⟩
          · have H0 := hid (errV_pos h0)
            clear h0
            rintro e w7 ⟨rfl, hb7⟩
            rw [H0.out]
            have HBV := hid (HB6.out.trans (hb7.mono HB6.out.size))
            clear hb7
            go_wp2_with (first
              | (at_builtin
                 refine wpList_append_row _ rfl (.tmp 145) (.tmp 146) 44 rfl 32 i0 (.agg #[.int .i64 0, .int .i64 0, .int .i64 0, .int .i64 0]) 4 32 Try.underlying44 hi0 hz0 hz1 hz2 rfl (by decide) none 0 0 [] rfl (Row.nil _ _ _)
                   A l.length c (l.flatMap Wire.cells) rfl (by exact (HS.out.new HB0.out).new HBV.out) (wires_one l) (by have := HL12.out; unfold maxLen; omega) (by have := HL12.out; omega) ?_
                 intro A3 c3 w8 hr8 hk8 hi8
                 have hr8' : Row w8 32 4 A3 l.length c3 (l.flatMap Wire.cells) := by simpa using hr8
                 have hb8 := hk8.below (Nat.le_refl _) (fun i h => by simp [InA] at h)
                 have HB8 := hid (HBV.out.trans (hb8.mono HBV.out.size))
                 have hk8n : Hid (∀ k, InA A3 k → w0.heap.size ≤ k) := fun k h => by
                   rcases hi8 k h with h | h
                   · simp [InA] at h
                   · have := HBV.out.size; omega
                 have g0 := (HB8.out.cell (p := ⟨w.heap.size, 0, none⟩) (blk_lt HBOX.out)).trans (blk_cell HBOX.out 0)
                 have g1 := (HB8.out.cell (p := ⟨w.heap.size, 1, none⟩) (blk_lt HBOX.out)).trans (blk_cell HBOX.out 1)
                 have g2 := (HB8.out.cell (p := ⟨w.heap.size, 2, none⟩) (blk_lt HBOX.out)).trans (blk_cell HBOX.out 2)
                 have g3 := (HB8.out.cell (p := ⟨w.heap.size, 3, none⟩) (blk_lt HBOX.out)).trans (blk_cell HBOX.out 3)
                 simp at g0 g1 g2 g3
                 have HR8 := hid hr8'
                 clear hr8 hr8' hk8 hi8 hb8)
              | (at_builtin
                 refine wpList_append_row _ rfl (.tmp 148) (.tmp 150) 44 rfl 32 i0 (.agg #[.int .i64 0, .int .i64 0, .int .i64 0, .int .i64 0]) 4 32 Try.underlying44 hi0 hz0 hz1 hz2 rfl (by decide) A3 l.length c3 (l.flatMap Wire.cells) rfl (by exact HR8.out.alloc _)
                   (some ⟨w8.heap.size, 0, none⟩) 1 1 x.cells rfl (by exact ⟨rfl, fun _ => ⟨w8.heap.size, 0, rfl, by simp, fun j u hu => by rw [Nat.zero_add, blk_cell (heap_alloc_new w8 _) j]; simpa [Wire.cells] using hu⟩⟩) (by intro u hu; simp [Wire.cells] at hu; rcases hu with rfl | rfl | rfl | rfl <;> rfl) (by have := HL12.out; unfold maxLen; omega) (by have := HL12.out; omega) ?_
                 intro A4 c4 w9 hr9 hk9 hi9
                 have hb9 : Below w0.heap.size w0 w9 := (HB8.out.alloc HB8.out.size _).trans (hk9.below (by have := HB8.out.size; simp; omega) (fun i h => hk8n.out i h))
                 have HB9 := hid hb9
                 have HR9 := hid hr9
                 clear hr9 hk9 hi9 hb9))
            refine (reach_n i j A4 (l.length + 1) c4 (l ++ [x]) w9 (by simp) (by have := HR9.out.sl; simpa using this) ⟨HR9.out.le.1, HR9.out.le.2, fun h => by rcases HR9.out.2 with ⟨_, h1, _⟩ | ⟨_, _, _, h', _⟩; omega; rw [h'] at h; cases h⟩).mono ?_
            by_cases h9 : (reachOf (l ++ [x]) i j).2 = 0
            · have h91 := more_reach h9 HA.out HBB.out HXB.out.symm
              rw [show reachOf (l ++ [x]) i j = (true, 0) from Prod.ext h91 h9]
              clear h9 h91
              rintro e w10 ⟨rfl, hb10⟩
              rw [errV_zero]
              go_wp2_with fail
              go_ret
              exact ⟨rfl, HB0.out.trans ((HB9.out.trans (hb10.mono HB9.out.size)).mono HB0.out.size)⟩
            · have H9 := hid (errV_pos h9)
              clear h9
              rintro e w10 ⟨rfl, hb10⟩
              rw [H9.out]
              generalize (reachOf (l ++ [x]) i j).1 = q1
              go_wp2_with fail
              go_ret
              exact ⟨rfl, HB0.out.trans ((HB9.out.trans (hb10.mono HB9.out.size)).mono HB0.out.size)⟩
        | true =>
          obtain rfl : zb = true := HXYZ.out rfl rfl
          go_wp2_with fail
          refine (levels_any A A2 c c2 m l lv w6 ((HS.out.new HB0.out).new HB6.out) HW.out HM.out (by have h := (HS2.out.new HB0.out).new HB6.out; rwa [HM.out] at h) (by have h := HW2.out; rwa [HM.out] at h)).mono ?_
          by_cases h0 : levelsOf l lv = 0
          · obtain ⟨hm5, hno⟩ := levelsOf_ok h0
            have HNO := hid hno
            have hm5 : m = 5 := by rw [← HM.out]; exact hm5
            subst hm5
            rw [h0, errV_zero]
            clear h0 hno
            rintro e w7 ⟨rfl, hb7⟩
            have HBV := hid (HB6.out.trans (hb7.mono HB6.out.size))
            clear hb7
            obtain ⟨lb, lo, rfl, hlb, hcell⟩ := (HS2.out.new HB0.out).int HBV.out (by omega)
            have q1 := hcell i (by rw [HM.out]; omega)
            have q2 := hcell j (by rw [HM.out]; omega)
            have hup := (reachB_iff.1 HXB.out.symm).up HNO.out
            rw [Int.toNat_natCast, Int.toNat_natCast] at hup
            generalize lv.getD i 0 = vi at q1 hup
            generalize lv.getD j 0 = vj at q2 hup
            clear hcell
            go_wp2_with fail
            go_quiet (fail)
            have HBV' := HBV
            have HBV : Hid (Below w0.heap.size w0 (w7.drewN nq)) := ⟨HBV'.out.os, HBV'.out.tape, HBV'.out.output, HBV'.out.size, HBV'.out.block⟩
            go_wp2_with (first
              | (at_builtin
                 refine wpList_append_row _ rfl (.tmp 145) (.tmp 146) 44 rfl 32 i0 (.agg #[.int .i64 0, .int .i64 0, .int .i64 0, .int .i64 0]) 4 32 Try.underlying44 hi0 hz0 hz1 hz2 rfl (by decide) none 0 0 [] rfl (Row.nil _ _ _)
                   A l.length c (l.flatMap Wire.cells) rfl (by exact (HS.out.new HB0.out).new HBV.out) (wires_one l) (by have := HL12.out; unfold maxLen; omega) (by have := HL12.out; omega) ?_
                 intro A3 c3 w8 hr8 hk8 hi8
                 have hr8' : Row w8 32 4 A3 l.length c3 (l.flatMap Wire.cells) := by simpa using hr8
                 have hb8 := hk8.below (Nat.le_refl _) (fun i h => by simp [InA] at h)
                 have HB8 := hid (HBV.out.trans (hb8.mono HBV.out.size))
                 have hk8n : Hid (∀ k, InA A3 k → w0.heap.size ≤ k) := fun k h => by
                   rcases hi8 k h with h | h
                   · simp [InA] at h
                   · have := HBV.out.size; omega
                 have g0 := (HB8.out.cell (p := ⟨w.heap.size, 0, none⟩) (blk_lt HBOX.out)).trans (blk_cell HBOX.out 0)
                 have g1 := (HB8.out.cell (p := ⟨w.heap.size, 1, none⟩) (blk_lt HBOX.out)).trans (blk_cell HBOX.out 1)
                 have g2 := (HB8.out.cell (p := ⟨w.heap.size, 2, none⟩) (blk_lt HBOX.out)).trans (blk_cell HBOX.out 2)
                 have g3 := (HB8.out.cell (p := ⟨w.heap.size, 3, none⟩) (blk_lt HBOX.out)).trans (blk_cell HBOX.out 3)
                 simp at g0 g1 g2 g3
                 have HR8 := hid hr8'
                 clear hr8 hr8' hk8 hi8 hb8)
              | (at_builtin
                 refine wpList_append_row _ rfl (.tmp 148) (.tmp 150) 44 rfl 32 i0 (.agg #[.int .i64 0, .int .i64 0, .int .i64 0, .int .i64 0]) 4 32 Try.underlying44 hi0 hz0 hz1 hz2 rfl (by decide) A3 l.length c3 (l.flatMap Wire.cells) rfl (by exact HR8.out.alloc _)
                   (some ⟨w8.heap.size, 0, none⟩) 1 1 x.cells rfl (by exact ⟨rfl, fun _ => ⟨w8.heap.size, 0, rfl, by simp, fun j u hu => by rw [Nat.zero_add, blk_cell (heap_alloc_new w8 _) j]; simpa [Wire.cells] using hu⟩⟩) (by intro u hu; simp [Wire.cells] at hu; rcases hu with rfl | rfl | rfl | rfl <;> rfl) (by have := HL12.out; unfold maxLen; omega) (by have := HL12.out; omega) ?_
                 intro A4 c4 w9 hr9 hk9 hi9
                 have hb9 : Below w0.heap.size w0 w9 := (HB8.out.alloc HB8.out.size _).trans (hk9.below (by have := HB8.out.size; simp; omega) (fun i h => hk8n.out i h))
                 have HB9 := hid hb9
                 have HR9 := hid hr9
                 clear hr9 hk9 hi9 hb9))
            refine (reach_n i j A4 (l.length + 1) c4 (l ++ [x]) w9 (by simp) (by have := HR9.out.sl; simpa using this) ⟨HR9.out.le.1, HR9.out.le.2, fun h => by rcases HR9.out.2 with ⟨_, h1, _⟩ | ⟨_, _, _, h', _⟩; omega; rw [h'] at h; cases h⟩).mono ?_
            by_cases h9 : (reachOf (l ++ [x]) i j).2 = 0
            · have h91 := more_reach h9 HA.out HBB.out HXB.out.symm
              rw [show reachOf (l ++ [x]) i j = (true, 0) from Prod.ext h91 h9]
              clear h9 h91
              rintro e w10 ⟨rfl, hb10⟩
              rw [errV_zero]
              go_wp2_with fail
              go_ret
              exact ⟨rfl, HB0.out.trans ((HB9.out.trans (hb10.mono HB9.out.size)).mono HB0.out.size)⟩
            · have H9 := hid (errV_pos h9)
              clear h9
              rintro e w10 ⟨rfl, hb10⟩
              rw [H9.out]
              generalize (reachOf (l ++ [x]) i j).1 = q1
              go_wp2_with fail
              go_ret
              exact ⟨rfl, HB0.out.trans ((HB9.out.trans (hb10.mono HB9.out.size)).mono HB0.out.size)⟩
          · have H0 := hid (errV_pos h0)
            clear h0
            rintro e w7 ⟨rfl, hb7⟩
            rw [H0.out]
            have HBV := hid (HB6.out.trans (hb7.mono HB6.out.size))
            clear hb7
            go_wp2_with (first
              | (at_builtin
                 refine wpList_append_row _ rfl (.tmp 145) (.tmp 146) 44 rfl 32 i0 (.agg #[.int .i64 0, .int .i64 0, .int .i64 0, .int .i64 0]) 4 32 Try.underlying44 hi0 hz0 hz1 hz2 rfl (by decide) none 0 0 [] rfl (Row.nil _ _ _)
                   A l.length c (l.flatMap Wire.cells) rfl (by exact (HS.out.new HB0.out).new HBV.out) (wires_one l) (by have := HL12.out; unfold maxLen; omega) (by have := HL12.out; omega) ?_
                 intro A3 c3 w8 hr8 hk8 hi8
                 have hr8' : Row w8 32 4 A3 l.length c3 (l.flatMap Wire.cells) := by simpa using hr8
                 have hb8 := hk8.below (Nat.le_refl _) (fun i h => by simp [InA] at h)
                 have HB8 := hid (HBV.out.trans (hb8.mono HBV.out.size))
                 have hk8n : Hid (∀ k, InA A3 k → w0.heap.size ≤ k) := fun k h => by
                   rcases hi8 k h with h | h
                   · simp [InA] at h
                   · have := HBV.out.size; omega
                 have g0 := (HB8.out.cell (p := ⟨w.heap.size, 0, none⟩) (blk_lt HBOX.out)).trans (blk_cell HBOX.out 0)
                 have g1 := (HB8.out.cell (p := ⟨w.heap.size, 1, none⟩) (blk_lt HBOX.out)).trans (blk_cell HBOX.out 1)
                 have g2 := (HB8.out.cell (p := ⟨w.heap.size, 2, none⟩) (blk_lt HBOX.out)).trans (blk_cell HBOX.out 2)
                 have g3 := (HB8.out.cell (p := ⟨w.heap.size, 3, none⟩) (blk_lt HBOX.out)).trans (blk_cell HBOX.out 3)
                 simp at g0 g1 g2 g3
                 have HR8 := hid hr8'
                 clear hr8 hr8' hk8 hi8 hb8)
              | (at_builtin
                 refine wpList_append_row _ rfl (.tmp 148) (.tmp 150) 44 rfl 32 i0 (.agg #[.int .i64 0, .int .i64 0, .int .i64 0, .int .i64 0]) 4 32 Try.underlying44 hi0 hz0 hz1 hz2 rfl (by decide) A3 l.length c3 (l.flatMap Wire.cells) rfl (by exact HR8.out.alloc _)
                   (some ⟨w8.heap.size, 0, none⟩) 1 1 x.cells rfl (by exact ⟨rfl, fun _ => ⟨w8.heap.size, 0, rfl, by simp, fun j u hu => by rw [Nat.zero_add, blk_cell (heap_alloc_new w8 _) j]; simpa [Wire.cells] using hu⟩⟩) (by intro u hu; simp [Wire.cells] at hu; rcases hu with rfl | rfl | rfl | rfl <;> rfl) (by have := HL12.out; unfold maxLen; omega) (by have := HL12.out; omega) ?_
                 intro A4 c4 w9 hr9 hk9 hi9
                 have hb9 : Below w0.heap.size w0 w9 := (HB8.out.alloc HB8.out.size _).trans (hk9.below (by have := HB8.out.size; simp; omega) (fun i h => hk8n.out i h))
                 have HB9 := hid hb9
                 have HR9 := hid hr9
                 clear hr9 hk9 hi9 hb9))
            refine (reach_n i j A4 (l.length + 1) c4 (l ++ [x]) w9 (by simp) (by have := HR9.out.sl; simpa using this) ⟨HR9.out.le.1, HR9.out.le.2, fun h => by rcases HR9.out.2 with ⟨_, h1, _⟩ | ⟨_, _, _, h', _⟩; omega; rw [h'] at h; cases h⟩).mono ?_
            by_cases h9 : (reachOf (l ++ [x]) i j).2 = 0
            · have h91 := more_reach h9 HA.out HBB.out HXB.out.symm
              rw [show reachOf (l ++ [x]) i j = (true, 0) from Prod.ext h91 h9]
              clear h9 h91
              rintro e w10 ⟨rfl, hb10⟩
              rw [errV_zero]
              go_wp2_with fail
              go_ret
              exact ⟨rfl, HB0.out.trans ((HB9.out.trans (hb10.mono HB9.out.size)).mono HB0.out.size)⟩
            · have H9 := hid (errV_pos h9)
              clear h9
              rintro e w10 ⟨rfl, hb10⟩
              rw [H9.out]
              generalize (reachOf (l ++ [x]) i j).1 = q1
              go_wp2_with fail
              go_ret
              exact ⟨rfl, HB0.out.trans ((HB9.out.trans (hb10.mono HB9.out.size)).mono HB0.out.size)⟩

    · have HE := hid (errV_pos h2)
      have H1 := hid h1
      clear h1 h2
      refine (reach_any a b A c l w2 ((HS.out.new HB0.out).new HB2.out) HW.out).mono ?_
      rintro e w3 ⟨rfl, hb3⟩
      rw [H1.out, errV_zero]
      have HB3 := hid (HB2.out.trans (hb3.mono HB2.out.size))
      clear hb3 HB2
      go_wp2_with fail
      refine (reach_any b d A c l w3 ((HS.out.new HB0.out).new HB3.out) HW.out).mono ?_
      rintro e w4 ⟨rfl, hb4⟩
      rw [HE.out]
      have HB4 := hid (HB3.out.trans (hb4.mono HB3.out.size))
      clear hb4 HB3
      go_wp2_with fail
      refine (reach_any a d A c l w4 ((HS.out.new HB0.out).new HB4.out) HW.out).mono ?_
      obtain ⟨r3, hr3⟩ : ∃ r, r = reachOf l a d := ⟨_, rfl⟩
      rw [← hr3]
      clear hr3
      rintro e w5 ⟨rfl, hb5⟩
      have HB5 := hid (HB4.out.trans (hb5.mono HB4.out.size))
      clear hb5 HB4
      go_wp2_with fail
      refine (reach_any a a A c l w5 ((HS.out.new HB0.out).new HB5.out) HW.out).mono ?_
      obtain ⟨r4, hr4⟩ : ∃ r, r = reachOf l a a := ⟨_, rfl⟩
      rw [← hr4]
      clear hr4
      rintro e w6 ⟨rfl, hb6⟩
      have HB6 := hid (HB5.out.trans (hb6.mono HB5.out.size))
      clear hb6 HB5
      go_wp2_with fail
      go_ret
      exact ⟨rfl, HB0.out.trans (HB6.out.mono HB0.out.size)⟩
  · have HE := hid (errV_pos h1)
    clear h1
    refine (reach_any a b A c l w2 ((HS.out.new HB0.out).new HB2.out) HW.out).mono ?_
    rintro e w3 ⟨rfl, hb3⟩
    rw [HE.out]
    have HB3 := hid (HB2.out.trans (hb3.mono HB2.out.size))
    clear hb3 HB2
    go_wp2_with fail
    refine (reach_any b d A c l w3 ((HS.out.new HB0.out).new HB3.out) HW.out).mono ?_
    obtain ⟨r2, hr2⟩ : ∃ r, r = reachOf l b d := ⟨_, rfl⟩
    rw [← hr2]
    clear hr2
    rintro e w4 ⟨rfl, hb4⟩
    have HB4 := hid (HB3.out.trans (hb4.mono HB3.out.size))
    clear hb4 HB3
    go_wp2_with fail
    refine (reach_any a d A c l w4 ((HS.out.new HB0.out).new HB4.out) HW.out).mono ?_
    obtain ⟨r3, hr3⟩ : ∃ r, r = reachOf l a d := ⟨_, rfl⟩
    rw [← hr3]
    clear hr3
    rintro e w5 ⟨rfl, hb5⟩
    have HB5 := hid (HB4.out.trans (hb5.mono HB4.out.size))
    clear hb5 HB4
    go_wp2_with fail
    refine (reach_any a a A c l w5 ((HS.out.new HB0.out).new HB5.out) HW.out).mono ?_
    obtain ⟨r4, hr4⟩ : ∃ r, r = reachOf l a a := ⟨_, rfl⟩
    rw [← hr4]
    clear hr4
    rintro e w6 ⟨rfl, hb6⟩
    have HB6 := hid (HB5.out.trans (hb6.mono HB5.out.size))
    clear hb6 HB5
    go_wp2_with fail
    go_ret
    exact ⟨rfl, HB0.out.trans (HB6.out.mono HB0.out.size)⟩
end Go.Proofs.Ytfokcjooibmigaa
