/- The walk of framelaw1.FrameTells: it returns true at every input. -/
import Derived.Test.YtfokcjooibmigaaDoorFrameAgainWalk
import Derived.Test.YtfokcjooibmigaaDoorRFrame
import Derived.Test.YtfokcjooibmigaaDoorSameInts
namespace Go.Proofs.YtfokcjooibmigaaDoor
open Go.RowKit
set_option maxRecDepth 100000

theorem error_nil (w : World) (hg : Handle w) : Calls Tryd.prog 12 #[.nilIface, .int .i64 0] w fun ev w' => ev = .returned (.bool true) ∧ Below w.heap.size w w' := error_same 0 w hg
theorem shares_n (ticks : Int) (A : Option Addr) (n c : Nat) (l : List Span) (w : World) (hn : l.length = n) (hs : Sl w A 3 n (l.flatMap Span.cells)) (hsw : SlW A c n) :
    Calls Tryd.prog 33 #[.int .i64 ticks, .slice A n c] w (TellL w (sharesOf ticks l)) := by subst hn; exact shares_any ticks A c l w hs hsw
theorem turn_bd {T : Int} {l : List Span} (h : FrOk T l) (m : Int) : -1 ≤ turnAt l m ∧ turnAt l m < 5 := by
  unfold turnAt
  cases hf : l.find? (fun s => decide (s.fr ≤ m ∧ m < s.to)) with
  | none => simp
  | some s =>
    obtain ⟨k, hk⟩ := List.mem_iff_getElem?.1 (List.mem_of_find?_eq_some hf)
    have := spanOk (h k s hk).1
    simp only []; omega
/-- Hits of each room behind k ticks. -/
def cn (l : List Span) (T k : Nat) : Nat → Int := fun r => (cntH (hitB l T r) 0 k : Nat)
theorem cn_hit {l : List Span} {T k r0 : Nat} (h : turnAt l ((k : Int) % (T : Int)) = (r0 : Nat)) (i : Nat) : cn l T (k + 1) i = if i = r0 then cn l T k r0 + 1 else cn l T k i := by
  unfold cn
  rw [cntH_succ, Nat.zero_add]
  by_cases e : i = r0
  · subst e; rw [if_pos rfl]
    have : hitB l T i k = true := decide_eq_true h
    rw [this]; rfl
  · rw [if_neg e]
    have : hitB l T i k = false := decide_eq_false (by rw [h]; omega)
    rw [this]; rfl
theorem cn_miss {l : List Span} {T k : Nat} (h : turnAt l ((k : Int) % (T : Int)) < 0) (i : Nat) : cn l T (k + 1) i = cn l T k i := by
  unfold cn
  rw [cntH_succ, Nat.zero_add]
  have : hitB l T i k = false := decide_eq_false (by omega)
  rw [this]; rfl
theorem cn_bd (l : List Span) (T k r : Nat) : 0 ≤ cn l T k r ∧ cn l T k r ≤ k := by
  have := cntH_le (hitB l T r) 0 k
  unfold cn; omega
theorem gap_room {T : Int} {l : List Span} {r : Int} (he : (frameChk T l).2 = 0) (hr : r < 0 ∨ 4 < r) : gapOf T l r = (0, 1) := by
  unfold gapOf
  rw [if_neg (by simp [he]), if_pos (by rw [roomB_false]; omega)]

theorem gap_bad {T : Int} {l : List Span} {r gv G : Int} (h : gapOf T l r = (gv, G)) (hG : G ≠ 0) : gv = 0 := by
  unfold gapOf at h
  split at h
  · cases h; rfl
  · split at h
    · cases h; rfl
    · split at h
      · cases h; rfl
      · cases h; exact absurd rfl hG
theorem gap_good {T : Nat} {l : List Span} {r gv : Int} (hT : 0 < T) (h : gapOf T l r = (gv, 0)) : 0 < cntH (hitB l T r) 0 T ∧ IsGap (hitB l T r) gv := by
  unfold gapOf at h
  split at h
  · rename_i h1; exact absurd (Prod.mk.inj h).2 h1
  · split at h
    · cases h
    · split at h
      · cases h
      · rename_i h3
        rw [show (2 * (T : Int)).toNat = 2 * T by omega] at h h3
        have hc : 0 < cntH (hitB l T r) 0 T := Nat.pos_of_ne_zero fun h0 => h3 ((gap_none hT).2 h0)
        have := gap_is hT hc
        cases h
        exact ⟨hc, this⟩
theorem wide_miss {h : Nat → Bool} {i : Nat} {g : Int} (a : WideTo h i g) (hh : h i = false) : WideTo h (i + 1) g := by
  refine ⟨fun u v hu c => ?_, a.2⟩
  by_cases e : u = i
  · subst e; have := c.2.1; rw [hh] at this; cases this
  · exact a.1 u v (by omega) c
theorem wide_hit {h : Nat → Bool} {i v : Nat} {g : Int} (a : WideTo h i g) (c : Cons h i v) (g' : Int) (hg : g' = if g < (v : Int) - i then (v : Int) - i else g) : WideTo h (i + 1) g' := by
  subst hg
  refine ⟨fun u x hu d => ?_, ?_⟩
  · by_cases e : u = i
    · subst e
      have := c.uniq d
      subst this
      split <;> omega
    · have := a.1 u x (by omega) d
      split <;> omega
  · split
    · exact .inr ⟨i, v, c, rfl⟩
    · exact a.2

set_option maxHeartbeats 16000000 in
theorem frameTells_bad {w : World} (hg : Handle w) (ticks : Int) (A : Option Addr) (c : Nat) (l : List Span) (hs : Sl w A 3 l.length (l.flatMap Span.cells)) (hsw : SlW A c l.length) (t r : Int) (ht : t ≤ 9223372036854775807) (he : (frameChk ticks l).2 ≠ 0) :
    Calls Tryd.prog 5 #[.int .i64 ticks, .slice A l.length c, .int .i64 t, .int .i64 r] w fun e w' => e = .returned (.bool true) ∧ Below w.heap.size w w' := by
  have HG := hid hg
  have HFR := fun w hs => rframe_any ticks A c l w hs hsw
  have HFC := fun w hs => frame_check ticks A c l w hs hsw
  obtain ⟨n, hn⟩ : ∃ n, n = l.length := ⟨_, rfl⟩
  rw [← hn] at hs hsw HFR HFC ⊢
  have HN := hid hn.symm
  have HS := hid hs
  have HW := hid hsw
  have hw : whoOf ticks l t = (0, (frameChk ticks l).2) := by unfold whoOf; rw [if_pos he]
  have hsh : sharesOf ticks l = ([], (frameChk ticks l).2) := by unfold sharesOf; rw [if_pos he]
  have hgp : gapOf ticks l r = (0, (frameChk ticks l).2) := by unfold gapOf; rw [if_pos he]
  generalize frameChk ticks l = fc at he hw hsh hgp HFR HFC
  obtain ⟨pos, E⟩ := fc
  simp only [] at he hw hsh hgp
  have hE1 : (E == 0) = false := by simpa using he
  have HFR := hid HFR
  have HFC := hid HFC
  have HWH := hid hw
  have HSH := hid hsh
  have HGP := hid hgp
  have HT := hid ht
  have HB := hid (Below.refl w.heap.size w)
  clear hg hs hsw hn he hw hsh hgp ht
  go_enter Tryd.func5, Tryd.ntmps5
  go_wp2_with (first
    | (go_at_call 29; refine (HFR.out _ (HS.out.new HB.out)).mono ?_; rintro e w1 ⟨rfl, hb1⟩; replace HB := hid (HB.out.trans (hb1.mono HB.out.size)); clear hb1)
    | (go_at_call 30; refine (HFC.out _ (HS.out.new HB.out)).mono ?_; rintro e w1 ⟨rfl, hb1⟩; replace HB := hid (HB.out.trans (hb1.mono HB.out.size)); clear hb1)
    | (go_at_call 32; refine (who_n ticks t A n c l _ HN.out (HS.out.new HB.out) HW.out HT.out).mono ?_; rw [HWH.out]; rintro e w1 ⟨rfl, hb1⟩; replace HB := hid (HB.out.trans (hb1.mono HB.out.size)); clear hb1)
    | (go_at_call 12; refine (error_same E _ (HG.out.new HB.out)).mono ?_; rintro e w1 ⟨rfl, hb1⟩; replace HB := hid (HB.out.trans (hb1.mono HB.out.size)); clear hb1))
  go_loopw [18] (fun v18 wr => v18 = .int .i64 0 ∧ Below w.heap.size w wr) (fun _ _ => 0)
  case atStart => exact ⟨rfl, HB.out⟩
  case round =>
    obtain ⟨rfl, hb⟩ := hrel
    replace HB := hid hb
    clear hb
    by_cases h0 : 0 < ticks
    all_goals
      go_wp2_with (first
        | (go_at_call 33; refine (shares_n ticks A n c l _ HN.out (HS.out.new HB.out) HW.out).mono ?_; rw [HSH.out]; rintro e w1 ⟨B, cap, rfl, _, _, hb1⟩; rw [show (([] : List Int), E).1.length = 0 from rfl, show errV (([] : List Int), E).2 = errV E from rfl]; replace HB := hid (HB.out.trans (hb1.mono HB.out.size)); clear hb1)
        | (go_at_call 27; refine (same_ints _ _ 0 _ _ [] _ (Sl.nil _ _ _) (Sl.nil _ _ _) (by omega) (by omega) (by omega)).mono ?_; rintro e w1 hr; obtain ⟨rfl, hb1⟩ := hr.below; replace HB := hid (HB.out.trans (hb1.mono HB.out.size)); clear hb1 hr)
        | (go_at_call 12; refine (error_same E _ (HG.out.new HB.out)).mono ?_; rintro e w1 ⟨rfl, hb1⟩; replace HB := hid (HB.out.trans (hb1.mono HB.out.size)); clear hb1))
      go_loopw [15, 22] (fun v15 v22 wr => v15 = .int .i64 0 ∧ v22 = .int .i64 0 ∧ Below w.heap.size w wr) (fun _ _ _ => 0)
      case atStart => exact ⟨rfl, rfl, HB.out⟩
      case round =>
        obtain ⟨rfl, rfl, hb⟩ := hrel
        replace HB := hid hb
        clear hb
        go_wp2_with (first
          | (go_at_call 34; refine (gap_n ticks r A n c l _ HN.out (HS.out.new HB.out) HW.out).mono ?_; rw [HGP.out]; rintro e w1 ⟨rfl, hb1⟩; replace HB := hid (HB.out.trans (hb1.mono HB.out.size)); clear hb1)
          | (go_at_call 12; refine (error_same E _ (HG.out.new HB.out)).mono ?_; rintro e w1 ⟨rfl, hb1⟩; replace HB := hid (HB.out.trans (hb1.mono HB.out.size)); clear hb1))
        go_ret
        exact ⟨rfl, HB.out⟩

set_option maxHeartbeats 16000000 in
theorem frameTells_good {w : World} (hg : Handle w) (T : Nat) (A : Option Addr) (c : Nat) (l : List Span) (hs : Sl w A 3 l.length (l.flatMap Span.cells)) (hsw : SlW A c l.length) (t r : Int) (ht : t ≤ 9223372036854775807) (he : (frameChk T l).2 = 0) :
    Calls Tryd.prog 5 #[.int .i64 T, .slice A l.length c, .int .i64 t, .int .i64 r] w fun e w' => e = .returned (.bool true) ∧ Below w.heap.size w w' := by
  have HG := hid hg
  have HFR := fun w hs => rframe_any T A c l w hs hsw
  have HFC := fun w hs => frame_check T A c l w hs hsw
  obtain ⟨b1, b2, _⟩ := frameChk_ticks he
  have hT : 0 < T := by omega
  have hT0 : (0 : Int) < T := by omega
  have hT5 : (T : Int) ≤ 40 := by omega
  obtain ⟨pos, hfc⟩ : ∃ pos, frameChk T l = (pos, 0) := ⟨_, Prod.ext rfl he⟩
  have HOK := hid (frOk_of he)
  have HE := hid he
  have HSHC := hid (fun r => shares_cnt he r)
  obtain ⟨n, hn⟩ : ∃ n, n = l.length := ⟨_, rfl⟩
  simp only [hfc] at HFR HFC
  rw [← hn] at hs hsw HFR HFC ⊢
  have HN := hid hn.symm
  have HS := hid hs
  have HW := hid hsw
  have hsh : sharesOf T l = (shl (shTo l l.length), 0) := by unfold sharesOf; rw [if_neg (by simp [he])]
  have HSH := hid hsh
  have hwn : t < 0 → whoOf T l t = (0, 1) := fun h => by unfold whoOf; rw [if_neg (by simp [he]), if_pos h]
  have hwp : 0 ≤ t → whoOf T l t = (turnAt l (t % T), 0) := who_good he
  obtain ⟨⟨V, F⟩, hVF⟩ : ∃ p, whoOf T l t = p := ⟨_, rfl⟩
  rw [hVF] at hwn hwp
  have HWN := hid hwn
  have HWP := hid hwp
  have HWH := hid hVF
  have HFR := hid HFR
  have HFC := hid HFC
  have HT := hid ht
  have HB := hid (Below.refl w.heap.size w)
  clear hg hs hsw hn he hsh hwn hwp hVF hfc ht
  have hmk : ∀ w, (Instr.makeSlice 24 (.int .i64 5) (.int .i64 5)).run Tryd.prog w = .ok (.slice (some ⟨w.heap.size, 0, none⟩) 5 5) (w.alloc (.cells #[.int .i64 0, .int .i64 0, .int .i64 0, .int .i64 0, .int .i64 0] 3)) := fun _ => by kernel_rfl
  go_enter Tryd.func5, Tryd.ntmps5
  go_upto_if 51 with (first
    | (go_at_call 29; refine (HFR.out _ (HS.out.new HB.out)).mono ?_; rintro e w1 ⟨rfl, hb1⟩; replace HB := hid (HB.out.trans (hb1.mono HB.out.size)); clear hb1)
    | (go_at_call 30; refine (HFC.out _ (HS.out.new HB.out)).mono ?_; rintro e w1 ⟨rfl, hb1⟩; rw [errV_zero]; replace HB := hid (HB.out.trans (hb1.mono HB.out.size)); clear hb1)
    | (go_at_call 12; refine (error_nil _ (HG.out.new HB.out)).mono ?_; rintro e w1 ⟨rfl, hb1⟩; replace HB := hid (HB.out.trans (hb1.mono HB.out.size)); clear hb1))
  go_cut [14, 15] (fun v14 v15 wx => v14 = .int .i64 F ∧ v15 = .int .i64 V ∧ Below w.heap.size w wx)
  case first =>
    as_aux_lemma =>
    by_cases t0 : t < 0
    · have h := HWN.out t0
      obtain ⟨rfl, rfl⟩ := Prod.mk.inj h
      clear h
      go_wp2_with fail
      go_meet
      exact ⟨rfl, rfl, HB.out⟩
    · have h := HWP.out (by omega)
      obtain ⟨rfl, rfl⟩ := Prod.mk.inj h
      clear h
      go_wp2_with (go_at_call 31; refine (rwho_any T t A n c l _ HN.out (HS.out.new HB.out) HW.out b1 b2 (by omega) HT.out).mono ?_; rintro e w1 ⟨rfl, hb1⟩; replace HB := hid (HB.out.trans (hb1.mono HB.out.size)); clear hb1)
      go_meet
      exact ⟨rfl, rfl, HB.out⟩
  case rest =>
    as_aux_lemma =>
    obtain ⟨rfl, rfl, hb⟩ := hcut
    replace HB := hid hb
    clear hb
    go_wp2_with (first
      | (go_at_call 32; refine (who_n T t A n c l _ HN.out (HS.out.new HB.out) HW.out HT.out).mono ?_; rw [HWH.out]; rintro e w3 ⟨rfl, hb1⟩; replace HB := hid (HB.out.trans (hb1.mono HB.out.size)); clear hb1)
      | (go_at_call 12; refine (error_same F _ (HG.out.new HB.out)).mono ?_; rintro e w4 ⟨rfl, hb1⟩; replace HB := hid (HB.out.trans (hb1.mono HB.out.size)); clear hb1))
    have hbs := HB.out.size
    have hout0 : (w4.alloc (Obj.cells #[.int .i64 0, .int .i64 0, .int .i64 0, .int .i64 0, .int .i64 0] 3)).heap[w4.heap.size]? = some (.cells (shA (cn l T 0)) 3 (0, 0)) := by rw [hp_alloc, if_pos rfl]; rfl
    have HOUT0 := hid hout0
    have HBEL0 := hid (HB.out.alloc hbs (Obj.cells #[.int .i64 0, .int .i64 0, .int .i64 0, .int .i64 0, .int .i64 0] 3))
    generalize w4.heap.size = bo at *
    clear hout0
    go_loopw [18] (fun v18 wr => ∃ k : Nat, k ≤ T ∧ v18 = .int .i64 k ∧ wr.heap[bo]? = some (.cells (shA (cn l T k)) 3 (0, 0)) ∧ Below w.heap.size w wr) (fun v18 _ => T - (intOf v18).toNat)
    case atStart => exact ⟨0, by omega, rfl, HOUT0.out, HBEL0.out⟩
    case round =>
      obtain ⟨k, hk, rfl, hout, hbel⟩ := hrel
      have HOUT := hid hout
      have HBEL := hid hbel
      have hlto := blk_lt hout
      clear hout hbel HOUT0 HBEL0 HB
      by_cases hkT : k < T
      · have hkI : (k : Int) < T := by omega
        obtain ⟨x1, x2⟩ := turn_bd HOK.out ((k : Int) % (T : Int))
        by_cases hx : turnAt l ((k : Int) % (T : Int)) < 0
        · have hms := fun i => cn_miss (l := l) (T := T) (k := k) hx i
          have HMS := hid hms
          clear hms
          generalize hxx : turnAt l ((k : Int) % (T : Int)) = x at hx x1 x2
          have HXX := hid hxx
          clear hxx
          go_wp2_with (go_at_call 31; refine (rwho_any T k A n c l _ HN.out (HS.out.new HBEL.out) HW.out b1 b2 (by omega) (by omega)).mono ?_; rw [HXX.out]; rintro e w5 ⟨rfl, hb5⟩; have HB5 := hid hb5; clear hb5)
          go_roundw
          case rel => exact ⟨k + 1, by omega, by go_num, (HB5.out.block bo hlto).trans (by rw [HOUT.out, shA_congr fun i _ => HMS.out i]), HBEL.out.trans (HB5.out.mono HBEL.out.size)⟩
          case measure => simp [intOf]; omega
        · obtain ⟨r0, hr0⟩ : ∃ j : Nat, turnAt l ((k : Int) % (T : Int)) = j := ⟨(turnAt l ((k : Int) % (T : Int))).toNat, by omega⟩
          have hht := fun i => cn_hit hr0 i
          have HHT := hid hht
          rw [hr0] at x1 x2 hx
          have HXX := hid hr0
          have hr5 : r0 < 5 := by omega
          obtain ⟨y1, y2⟩ := cn_bd l T k r0
          obtain ⟨y, hy⟩ : ∃ y, cn l T k r0 = y := ⟨_, rfl⟩
          rw [hy] at y1 y2
          have HY := hid hy
          have e2 : IntKind.i64.wrap (y + 1) = y + 1 := IntWalk.i64_in _ (by omega)
          clear hht hr0 hy
          go_wp2_with (go_at_call 31; refine (rwho_any T k A n c l _ HN.out (HS.out.new HBEL.out) HW.out b1 b2 (by omega) (by omega)).mono ?_; rw [HXX.out]; rintro e w5 ⟨rfl, hb5⟩; have h5 := (hb5.block bo hlto).trans HOUT.out; have c1 := (blk_cell h5 r0).trans (shA_get _ hr5); rw [HY.out] at c1; have z1 := blk_free h5 r0; have H5 := hid h5; have HB5 := hid hb5; clear h5 hb5)
          go_roundw
          case rel =>
            refine ⟨k + 1, by omega, by go_num, ?_, ?_⟩
            · rw [blk_set H5.out, shA_set _ hr5]
              congr 2
              refine shA_congr fun i _ => ?_
              rw [HHT.out i, HY.out]
            · have hk2 := (Keep.of_below (fun i => i = bo) (HBEL.out.trans (HB5.out.mono HBEL.out.size)))
              exact (hk2.setCell (.inl rfl) _).below (Nat.le_refl _) (fun i h => by omega)
          case measure => simp [intOf]; omega
      · obtain hkeq : T = k := by omega
        subst hkeq
        have hfe : shTo l l.length = cn l T T := funext fun r => HSHC.out r
        have HFE := hid hfe
        have hsb : Sl wr (some ⟨bo, 0, none⟩) 1 5 (ints (shl (cn l T T))) := ⟨rfl, fun _ => ⟨bo, 0, rfl, hlto, fun j u hu => by rw [Nat.zero_add, blk_cell HOUT.out j]; simpa [shA] using hu⟩⟩
        have HSB := hid hsb
        have HB := hid HBEL.out
        have HX := hid (Below.refl wr.heap.size wr)
        clear hfe hsb hk
        go_upto_region 24 with (first
          | (go_at_call 33; refine (shares_n T A n c l _ HN.out (HS.out.new HB.out) HW.out).mono ?_; rw [HSH.out]; rintro e w6 ⟨B, cap, rfl, hr, _, hb1⟩; rw [show (shl (shTo l l.length), (0 : Int)).1.length = 5 from rfl, show errV (shl (shTo l l.length), (0 : Int)).2 = .nilIface from rfl]; have hxs : Sl w6 B 1 5 (ints (shl (shTo l l.length))) := hr.sl; rw [HFE.out] at hxs; have hc5 : 5 ≤ cap := hr.le.1; have HXS := hid hxs; replace HX := hid (HX.out.trans (hb1.mono HX.out.size)); replace HB := hid (HB.out.trans (hb1.mono HB.out.size)); clear hb1 hr hxs)
          | (go_at_call 27; refine (same_ints _ _ 5 _ _ (shl (cn l T T)) _ HXS7.out (HSB.out.new HX.out) (by omega) hc5 (by omega)).mono ?_; rintro e w8 hr; obtain ⟨rfl, hb1⟩ := hr.below; replace HX := hid (HX.out.trans (hb1.mono HX.out.size)); replace HB := hid (HB.out.trans (hb1.mono HB.out.size)); clear hb1 hr)
          | (go_at_call 12; refine (error_nil _ (HG.out.new HB.out)).mono ?_; rintro e w7 ⟨rfl, hb1⟩; have HXS7 := hid (HXS.out.new hb1); replace HX := hid (HX.out.trans (hb1.mono HX.out.size)); replace HB := hid (HB.out.trans (hb1.mono HB.out.size)); clear hb1))
        obtain ⟨⟨gv, G⟩, hGP⟩ : ∃ p, gapOf T l r = p := ⟨_, rfl⟩
        have HGP := hid hGP
        obtain ⟨BB, hBB⟩ : ∃ B, B = decide (r < 0 ∨ 4 < r) := ⟨_, rfl⟩
        have HBB := hid hBB
        clear hGP hBB HXS HXS7
        go_cut [120] (fun v wx => v = .bool BB ∧ Below w8.heap.size w8 wx)
        case first =>
          as_aux_lemma =>
          by_cases r0 : r < 0
          · obtain rfl : BB = true := by rw [HBB.out]; exact decide_eq_true (.inl r0)
            go_wp2_with fail
            go_meet
            exact ⟨rfl, Below.refl _ _⟩
          by_cases r4 : 4 < r
          · obtain rfl : BB = true := by rw [HBB.out]; exact decide_eq_true (.inr r4)
            go_wp2_with fail
            go_meet
            exact ⟨by first | rfl | simp [r4], Below.refl _ _⟩
          · obtain rfl : BB = false := by rw [HBB.out]; exact decide_eq_false (by omega)
            go_wp2_with fail
            go_meet
            exact ⟨by first | rfl | simp [r4], Below.refl _ _⟩
        case rest =>
          as_aux_lemma =>
          obtain ⟨rfl, hb⟩ := hcut
          replace HX := hid (HX.out.trans (hb.mono HX.out.size))
          replace HB := hid (HB.out.trans (hb.mono HB.out.size))
          clear hb
          obtain ⟨wd, hwd⟩ : ∃ wd, wd = wc := ⟨_, rfl⟩
          subst hwd
          go_upto_if 120 with (fail)
          go_cut [10] (fun v wx => v = .int .i64 G ∧ Below wd.heap.size wd wx)
          case first =>
            as_aux_lemma =>
            cases BB with
            | true =>
              have h := HGP.out
              rw [gap_room HE.out (of_decide_eq_true HBB.out.symm)] at h
              obtain ⟨rfl, rfl⟩ := Prod.mk.inj h
              clear h
              go_wp2_with fail
              go_meet
              exact ⟨rfl, Below.refl _ _⟩
            | false =>
              have hno := of_decide_eq_false HBB.out.symm
              obtain ⟨r, rfl⟩ : ∃ j : Nat, r = j := ⟨r.toNat, by omega⟩
              have hr5 : r < 5 := by omega
              have hri : (r : Int) < 5 := by omega
              have c1 := (blk_cell ((HX.out.block bo hlto).trans HOUT.out) r).trans (shA_get _ hr5)
              have hh := HGP.out
              by_cases hc : cntH (hitB l T r) 0 T = 0
              · rw [gap_zero HE.out hr5 hT hc] at hh
                obtain ⟨rfl, rfl⟩ := Prod.mk.inj hh
                rw [show cn l T T r = 0 by unfold cn; rw [hc]; rfl] at c1
                clear hh hc hno
                go_wp2_with fail
                go_meet
                exact ⟨rfl, Below.refl _ _⟩
              · obtain ⟨g, hg, _⟩ := gap_pos HE.out hr5 hT hc
                rw [hg] at hh
                obtain ⟨rfl, rfl⟩ := Prod.mk.inj hh
                have hy : ¬ cn l T T r = 0 := by unfold cn; omega
                generalize cn l T T r = y at c1 hy
                clear hh hc hno hg
                go_wp2_with fail
                go_meet
                exact ⟨rfl, Below.refl _ _⟩
          case rest =>
            as_aux_lemma =>
            obtain ⟨rfl, hb⟩ := hcut
            replace HB := hid (HB.out.trans (hb.mono HB.out.size))
            clear hb HX
            go_wp2_with fail
            by_cases hG : G = 0
            · subst hG
              obtain ⟨hc0, hgap⟩ := gap_good hT HGP.out
              have HC0 := hid hc0
              have HGAP := hid hgap
              have hg0 := (hgap.bounds (hitB_again l T r) hT)
              clear hc0 hgap hg0
              go_loopw [15, 22] (fun v15 v22 wq => ∃ (i : Nat) (g : Int), i ≤ T ∧ v22 = .int .i64 i ∧ v15 = .int .i64 g ∧ 0 ≤ g ∧ g ≤ T ∧ WideTo (hitB l T r) i g ∧ Below w.heap.size w wq) (fun _ v22 _ => T - (intOf v22).toNat)
              case atStart => exact ⟨0, 0, by omega, rfl, rfl, by omega, by omega, ⟨fun u v h => absurd h (by omega), .inl rfl⟩, HB.out⟩
              case round =>
                obtain ⟨i, g, hi, rfl, rfl, g0, gT, hwide, hb⟩ := hrel
                replace HB := hid hb
                have HWD := hid hwide
                clear hb hwide
                by_cases hiT : i < T
                · have hiI : (i : Int) < T := by omega
                  by_cases hx : turnAt l ((i : Int) % (T : Int)) = r
                  · have hh : hitB l T r i = true := decide_eq_true hx
                    obtain ⟨v, hcons, hv⟩ := Cons.next (hitB_again l T r) hT hh
                    have HC := hid hcons
                    have HXX := hid hx
                    have hiv := hcons.1
                    clear hh hcons hx
                    go_wp2_with fail
                    go_loopw [23] (fun v23 wz => ∃ k : Nat, i < k ∧ k ≤ v ∧ v23 = .int .i64 k ∧ Below w.heap.size w wz) (fun v23 _ => v - (intOf v23).toNat)
                    case atStart => exact ⟨i + 1, by omega, by omega, by go_num, HB.out⟩
                    case round =>
                      obtain ⟨k, hik, hkv, rfl, hb⟩ := hrel
                      replace HB := hid hb
                      clear hb
                      have e3 : IntKind.i64.wrap ((k : Int) - i) = k - i := IntWalk.i64_in _ (by omega)
                      by_cases hkv2 : k < v
                      · have hnk := of_decide_eq_false (HC.out.2.2.2 k hik hkv2)
                        generalize hxx : turnAt l ((k : Int) % (T : Int)) = x at hnk
                        have HXK := hid hxx
                        clear hxx
                        go_wp2_with (go_at_call 31; refine (rwho_any T _ A n c l _ HN.out (HS.out.new HB.out) HW.out b1 b2 (by omega) (by omega)).mono ?_; rintro e w9 ⟨rfl, hb1⟩; (first | rw [HXX.out] | rw [HXK.out]); replace HB := hid (HB.out.trans (hb1.mono HB.out.size)); clear hb1)
                        go_roundw
                        case rel => exact ⟨k + 1, by omega, by omega, by go_num, HB.out⟩
                        case measure => simp [intOf]; omega
                      · obtain hkeq : v = k := by omega
                        subst hkeq
                        have HXK := hid (of_decide_eq_true HC.out.2.2.1)
                        by_cases hgt : g < (v : Int) - i
                        · have HW2 := hid (wide_hit HWD.out HC.out ((v : Int) - i) (by rw [if_pos hgt]))
                          go_wp2_with (go_at_call 31; refine (rwho_any T _ A n c l _ HN.out (HS.out.new HB.out) HW.out b1 b2 (by omega) (by omega)).mono ?_; rintro e w9 ⟨rfl, hb1⟩; (first | rw [HXX.out] | rw [HXK.out]); replace HB := hid (HB.out.trans (hb1.mono HB.out.size)); clear hb1)
                          go_roundw
                          case rel => exact ⟨i + 1, _, by omega, by go_num, rfl, by omega, by omega, HW2.out, HB.out⟩
                          case measure => simp [intOf]; omega
                        · have HW2 := hid (wide_hit HWD.out HC.out g (by rw [if_neg hgt]))
                          go_wp2_with (go_at_call 31; refine (rwho_any T _ A n c l _ HN.out (HS.out.new HB.out) HW.out b1 b2 (by omega) (by omega)).mono ?_; rintro e w9 ⟨rfl, hb1⟩; (first | rw [HXX.out] | rw [HXK.out]); replace HB := hid (HB.out.trans (hb1.mono HB.out.size)); clear hb1)
                          go_roundw
                          case rel => exact ⟨i + 1, _, by omega, by go_num, rfl, by omega, by omega, HW2.out, HB.out⟩
                          case measure => simp [intOf]; omega
                  · have HW2 := hid (wide_miss HWD.out (decide_eq_false hx))
                    generalize hxx : turnAt l ((i : Int) % (T : Int)) = x at hx
                    have HXX := hid hxx
                    clear hxx
                    go_wp2_with fail
                    go_loopw [23] (fun v23 wz => v23 = .int .i64 (i + 1) ∧ Below w.heap.size w wz) (fun _ _ => 0)
                    case atStart => exact ⟨by go_num, HB.out⟩
                    case round =>
                      obtain ⟨rfl, hb⟩ := hrel
                      replace HB := hid hb
                      clear hb
                      go_wp2_with (go_at_call 31; refine (rwho_any T i A n c l _ HN.out (HS.out.new HB.out) HW.out b1 b2 (by omega) (by omega)).mono ?_; rw [HXX.out]; rintro e w9 ⟨rfl, hb1⟩; replace HB := hid (HB.out.trans (hb1.mono HB.out.size)); clear hb1)
                      go_roundw
                      case rel => exact ⟨i + 1, _, by omega, by go_num, rfl, by omega, by omega, HW2.out, HB.out⟩
                      case measure => simp [intOf]; omega
                · obtain hie : T = i := by omega
                  subst hie
                  have hgv := (WideTo.gap (hitB_again l T r) hT HC0.out HWD.out).eq HGAP.out
                  subst hgv
                  clear hi hiT
                  go_wp2_with (first
                    | (go_at_call 34; refine (gap_n T r A n c l _ HN.out (HS.out.new HB.out) HW.out).mono ?_; rw [HGP.out]; rintro e w9 ⟨rfl, hb1⟩; rw [errV_zero]; replace HB := hid (HB.out.trans (hb1.mono HB.out.size)); clear hb1)
                    | (go_at_call 12; refine (error_nil _ (HG.out.new HB.out)).mono ?_; rintro e w9 ⟨rfl, hb1⟩; replace HB := hid (HB.out.trans (hb1.mono HB.out.size)); clear hb1))
                  go_ret
                  exact ⟨rfl, HB.out⟩
            · obtain rfl := gap_bad HGP.out hG
              have hG1 : (G == 0) = false := by simpa using hG
              clear hG
              go_loopw [15, 22] (fun v15 v22 wr => v15 = .int .i64 0 ∧ v22 = .int .i64 0 ∧ Below w.heap.size w wr) (fun _ _ _ => 0)
              case atStart => exact ⟨rfl, rfl, HB.out⟩
              case round =>
                obtain ⟨rfl, rfl, hb⟩ := hrel
                replace HB := hid hb
                clear hb
                go_wp2_with (first
                  | (go_at_call 34; refine (gap_n T r A n c l _ HN.out (HS.out.new HB.out) HW.out).mono ?_; rw [HGP.out]; rintro e w9 ⟨rfl, hb1⟩; replace HB := hid (HB.out.trans (hb1.mono HB.out.size)); clear hb1)
                  | (go_at_call 12; refine (error_same G _ (HG.out.new HB.out)).mono ?_; rintro e w9 ⟨rfl, hb1⟩; replace HB := hid (HB.out.trans (hb1.mono HB.out.size)); clear hb1))
                go_ret
                exact ⟨rfl, HB.out⟩

theorem frameTells_walk {w : World} (hg : Handle w) (ticks : Int) (A : Option Addr) (c : Nat) (l : List Span) (hs : Sl w A 3 l.length (l.flatMap Span.cells)) (hsw : SlW A c l.length) (_ok : ∀ y ∈ l, y.Ok) (t r : Int) (ht : t ≤ 9223372036854775807) :
    Calls Tryd.prog 5 #[.int .i64 ticks, .slice A l.length c, .int .i64 t, .int .i64 r] w fun e w' => e = .returned (.bool true) ∧ Below w.heap.size w w' := by
  by_cases he : (frameChk ticks l).2 = 0
  · obtain ⟨b1, _, _⟩ := frameChk_ticks he
    obtain ⟨T, rfl⟩ : ∃ T : Nat, ticks = T := ⟨ticks.toNat, by omega⟩
    exact frameTells_good hg T A c l hs hsw t r ht he
  · exact frameTells_bad hg ticks A c l hs hsw t r ht he
end Go.Proofs.YtfokcjooibmigaaDoor
