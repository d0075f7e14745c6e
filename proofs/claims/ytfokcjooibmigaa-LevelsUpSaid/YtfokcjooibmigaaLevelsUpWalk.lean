/- The walk of framelaw2.LevelsUp: it returns true at every input. -/
import Derived.Test.YtfokcjooibmigaaRings
import Derived.Test.YtfokcjooibmigaaLevels
namespace Go.Proofs.Ytfokcjooibmigaa
open Go.RowKit

def twoW : List Wire := [⟨2, 0, 1, 1⟩, ⟨0, 4, 1, 1⟩]
theorem two_ok : (flowChk twoW).2 = 0 := by decide
theorem two_0 {v : Nat} (h : Reach twoW 0 v) : v = 0 ∨ v = 4 := by
  induction h with
  | refl => exact .inl rfl
  | step _ e ih =>
    obtain ⟨x, hx, h1, h2⟩ := e
    simp [twoW] at hx
    rcases hx with rfl | rfl <;> simp at h1 h2 <;> omega
theorem two_4 {v : Nat} (h : Reach twoW 4 v) : v = 4 := by
  induction h with
  | refl => rfl
  | step _ e ih =>
    obtain ⟨x, hx, h1, h2⟩ := e
    simp [twoW] at hx
    rcases hx with rfl | rfl <;> simp at h1 h2 <;> omega
def raise1 (f : Nat → Nat) (x : Wire) : Nat → Nat := fun j => if j = x.to.toNat then max (f j) (f x.fr.toNat + 1) else f j
theorem two_step (f : Nat → Nat) : twoW.foldl (raise twoW) f = twoW.foldl raise1 f := by
  have h1 : wt twoW 2 0 = 1 := wt_one fun h => by have := two_0 h; omega
  have h2 : wt twoW 0 4 = 1 := wt_one fun h => by have := two_4 h; omega
  have r1 : ∀ f, raise twoW f ⟨2, 0, 1, 1⟩ = raise1 f ⟨2, 0, 1, 1⟩ := fun f => by
    funext j
    show (if j = 0 then max (f j) (f 2 + wt twoW 2 0) else f j) = _
    rw [h1]; rfl
  have r2 : ∀ f, raise twoW f ⟨0, 4, 1, 1⟩ = raise1 f ⟨0, 4, 1, 1⟩ := fun f => by
    funext j
    show (if j = 4 then max (f j) (f 0 + wt twoW 0 4) else f j) = _
    rw [h2]; rfl
  show raise twoW (raise twoW f ⟨2, 0, 1, 1⟩) ⟨0, 4, 1, 1⟩ = raise1 (raise1 f ⟨2, 0, 1, 1⟩) ⟨0, 4, 1, 1⟩
  rw [r1, r2]
theorem two_rnd : lvls (rnd twoW 5) = [1, 0, 0, 0, 2] := by
  have : rnd twoW 5 = twoW.foldl raise1 (twoW.foldl raise1 (twoW.foldl raise1 (twoW.foldl raise1 (twoW.foldl raise1 fun _ => 0)))) := by
    simp only [rnd, two_step]
  rw [this]; rfl
theorem two_least : leastOf twoW = ([1, 0, 0, 0, 2], 0) := by
  unfold leastOf
  rw [if_neg (by simp [two_ok]), two_rnd]

theorem Row.five {w : World} {A : Option Addr} {cap : Nat} {l : List Int} (h : Row w 3 1 A 5 cap (ints l)) :
    ∃ b off, A = some ⟨b, off, none⟩ ∧ b < w.heap.size ∧ ∀ (w' : World), Below w.heap.size w w' → ∀ i, i < 5 → w'.cell? ⟨b, off + i, none⟩ = some (.int .i64 (l.getD i 0)) := by
  obtain ⟨b, off, rfl, hb, hx⟩ := h.sl.2 (by omega)
  refine ⟨b, off, rfl, hb, fun w' hw i hi => (hw.cell (p := ⟨b, off + i, none⟩) hb).trans (hx i _ ?_)⟩
  have hl : l.length = 5 := by have := h.1; simpa [ints] using this
  simp [ints, hl, hi, List.getD]
theorem RingsAt.get {w : World} {B : Nat} {A : Option Addr} {n c : Nat} {rs : List Ri} (h : RingsAt w B A n c rs) {i : Nat} (hi : i < n) :
    ∃ r b off, rs[i]? = some r ∧ A = some ⟨b, off, none⟩ ∧ b < w.heap.size ∧ w.cell? ⟨b, off + i, none⟩ = some (.slice r.A r.xs.length r.c) ∧
      (0 < r.xs.length → ∃ b2 off2, r.A = some ⟨b2, off2, none⟩ ∧ b2 < w.heap.size ∧ ∀ j x, r.xs[j]? = some x → w.cell? ⟨b2, off2 + j, none⟩ = some (.int .i64 x)) := by
  have hl := h.len
  have hg := List.getElem?_eq_getElem (show i < rs.length by omega)
  obtain ⟨b, off, rfl, hb, hx⟩ := h.row.sl.2 (by omega)
  have h1 := flatMap_get Ri.cells 1 (fun _ => rfl) rs i 0 rs[i] hg (by omega)
  refine ⟨rs[i], b, off, hg, rfl, hb, hx i _ (by simpa [Ri.cells] using h1), fun h0 => ?_⟩
  obtain ⟨b2, off2, e2, hb2, hx2⟩ := (h.each _ (List.getElem_mem (by omega))).1.sl.2 h0
  exact ⟨b2, off2, e2, hb2, fun j x hj => hx2 j _ (by simp [ints, hj])⟩
theorem Below.drawnN {w a : World} {B : Nat} (h : Below B w a) (n : Nat) : Below B w (a.drewN n) := ⟨h.os, h.tape, h.output, h.size, h.block⟩
theorem least_levels {l : List Wire} (h : (flowChk l).2 = 0) : levelsOf l (lvls (rnd l 5)) = 0 := by
  obtain ⟨_, _, hin⟩ := flowChk_ok h
  unfold levelsOf
  rw [if_neg (by simp [h]), if_neg (by simp [lvls_len]), if_neg]
  rw [Bool.not_eq_true, List.any_eq_false]
  intro x hx
  have hr := hin x hx
  have := rnd_fix hin (u := x.fr.toNat) (v := x.to.toNat) ⟨x, hx, by omega, by omega⟩
  simp only [leadsDown, decide_eq_true_eq]
  rw [lvls_get _ (by omega), lvls_get _ (by omega)]
  omega

/-- Is a wire kept by other levels? -/
noncomputable def goodW (l : List Wire) (o : List Int) (x : Wire) : Bool :=
  decide (o.getD x.fr.toNat 0 < o.getD x.to.toNat 0) || (sameB l x.fr.toNat x.to.toNat && decide (o.getD x.fr.toNat 0 = o.getD x.to.toNat 0))
theorem good_least {l : List Wire} {o : List Int} (hr : InRooms l) (hg : l.all (goodW l o) = true) (h0 : ∀ i, i < 5 → 0 ≤ o.getD i 0) {i : Nat} (hi : i < 5) : (rnd l 5 i : Int) ≤ o.getD i 0 := by
  refine rnd_least (g := fun i => o.getD i 0) hr (fun x hx => ?_) h0 5 i hi
  have h1 := List.all_eq_true.1 hg x hx
  have h2 := wt_le l x.fr.toNat x.to.toNat
  simp only [goodW, Bool.or_eq_true, Bool.and_eq_true, decide_eq_true_eq] at h1
  rcases h1 with h1 | ⟨h1, h3⟩
  · omega
  · have := wt_zero (sameB_iff.1 h1).2
    omega
theorem all_snoc {l : List Wire} {k : Nat} {x : Wire} {p : Wire → Bool} (h : l[k]? = some x) : (l.take (k + 1)).all p = ((l.take k).all p && p x) := by
  have hk := (List.getElem?_eq_some_iff.1 h).1
  rw [List.take_succ_eq_append_getElem hk, List.all_append]
  have : l[k] = x := by rw [List.getElem?_eq_getElem hk] at h; exact Option.some.inj h
  rw [this]; simp

/-- Which ring each room is in, as far as it is known. -/
def OfTo (l : List Wire) (F : Nat → Nat) (i : Nat) : Prop := ∀ i' g (b : Nat), i' < i → (ringsTo l 5)[i']? = some g → (b : Int) ∈ g → F b = i'
theorem OfTo.all {l : List Wire} {F : Nat → Nat} (h : OfTo l F (ringsTo l 5).length) {a b : Nat} (ha : a < 5) (hb : b < 5) : (F a = F b) ↔ sameB l a b = true := by
  obtain ⟨i, g, h1, h2⟩ := ringsTo_all (l := l) ha (Nat.le_refl 5)
  obtain ⟨j, k, h3, h4⟩ := ringsTo_all (l := l) hb (Nat.le_refl 5)
  have e1 := h i g a (List.getElem?_eq_some_iff.1 h1).1 h1 h2
  have e2 := h j k b (List.getElem?_eq_some_iff.1 h3).1 h3 h4
  constructor
  · intro e
    have hij : i = j := by omega
    subst hij
    rw [h1] at h3; cases h3
    obtain ⟨r, _, rfl, _⟩ := ringsTo_get h1
    obtain ⟨x, _, g1, g2⟩ := ringTo_mem.1 h2
    obtain ⟨y, _, g3, g4⟩ := ringTo_mem.1 h4
    have : x = a := by omega
    have : y = b := by omega
    subst x; subst y
    exact sameB_trans (sameB_symm g2) g4
  · intro hs
    have := ringsTo_apart h1 h3 h2 h4 hs
    omega

set_option maxHeartbeats 16000000 in
set_option maxRecDepth 100000 in
theorem levelsUp_walk {w : World} (A : Option Addr) (c : Nat) (l : List Wire) (hs : Sl w A 4 l.length (l.flatMap Wire.cells)) (hsw : SlW A c l.length) (_ok : ∀ y ∈ l, y.Ok)
    (A2 : Option Addr) (c2 : Nat) (o : List Int) (hs2 : Sl w A2 1 o.length (o.flatMap fun a => [.int .i64 a])) (hsw2 : SlW A2 c2 o.length) (_ok2 : ∀ y ∈ o, Fits y) :
    Calls Try.prog 9 #[.slice A l.length c, .slice A2 o.length c2] w fun e w' => e = .returned (.bool true) ∧ Below w.heap.size w w' := by
  have HS := hid hs
  have HW := hid hsw
  have HS2 := hid hs2
  have HW2 := hid hsw2
  obtain ⟨mo, hmo⟩ : ∃ m, o.length = m := ⟨_, rfl⟩
  rw [hmo]
  have HMO := hid hmo
  clear hs hsw hs2 hsw2 _ok _ok2 hmo
  go_enter Try.func9, Try.ntmps9
  go_wp2_with fail
  obtain ⟨w0, hw0⟩ : ∃ w0, w0 = w.alloc (Obj.cells #[.int .i64 2, .int .i64 0, .int .i64 1, .int .i64 1, .int .i64 0, .int .i64 4, .int .i64 1, .int .i64 1] 32) := ⟨_, rfl⟩
  rw [← hw0]
  have HB0 : Hid (Below w.heap.size w w0) := by rw [hw0]; exact (Below.refl _ _).alloc (Nat.le_refl _) _
  have hso : Sl w0 (some ⟨w.heap.size, 0, none⟩) 4 2 (twoW.flatMap Wire.cells) := by
    rw [hw0]
    exact ⟨rfl, fun _ => ⟨_, 0, rfl, by simp, fun j u hu => by rw [Nat.zero_add, blk_cell (heap_alloc_new w _) j]; simpa [twoW, Wire.cells] using hu⟩⟩
  refine (least_lv _ 2 twoW w0 hso ⟨by simp [twoW], by simp [maxLen], by simp⟩).mono ?_
  rw [two_least]
  rintro e w1 ⟨A3, c3, rfl, hr3, _, hb1⟩
  obtain ⟨fb, fo, rfl, hfb, hfx⟩ := Row.five (l := [1, 0, 0, 0, 2]) hr3
  have k0 : w1.cell? ⟨fb, fo, none⟩ = some (.int .i64 1) := hfx w1 (Below.refl _ _) 0 (by omega)
  have k4 : w1.cell? ⟨fb, fo + 4, none⟩ = some (.int .i64 2) := hfx w1 (Below.refl _ _) 4 (by omega)
  have k2 : w1.cell? ⟨fb, fo + 2, none⟩ = some (.int .i64 0) := hfx w1 (Below.refl _ _) 2 (by omega)
  have HBw := hid (HB0.out.trans (hb1.mono HB0.out.size))
  have hc3 := hr3.le
  rw [show errV ([1, 0, 0, 0, 2], (0 : Int)).2 = .nilIface from rfl, show (([1, 0, 0, 0, 2], 0) : List Int × Int).1.length = 5 from rfl] 
  simp only [List.length_cons, List.length_nil] at hc3
  unfold maxLen at hc3
  clear hw0 hso hr3 hfx hb1 HB0
  go_wp2_with fail
  have HS1 := hid ((HS.out.new HBw.out))
  have HS21 := hid ((HS2.out.new HBw.out))
  clear k0 k4 k2 hc3 hfb
  by_cases he : (flowChk l).2 = 0
  · obtain ⟨h12, hall, hin⟩ := flowChk_ok he
    have HE := hid he
    have HIN := hid hin
    clear hall hin
    refine (least_lv A c l w1 HS1.out HW.out).mono ?_
    rw [show leastOf l = (lvls (rnd l 5), 0) by simp [leastOf, he]]
    rintro e w2 ⟨A4, c4, rfl, hr4, hn4, hb2⟩
    rw [show (lvls (rnd l 5), (0 : Int)).1.length = 5 from rfl, show errV (lvls (rnd l 5), (0 : Int)).2 = .nilIface from rfl] at *
    have HR4 := hid hr4
    have HB2 := hid (HBw.out.trans (hb2.mono HBw.out.size))
    have HS3 := hid (HS1.out.new hb2)
    have HS23 := hid (HS21.out.new hb2)
    clear hr4 hn4 hb2 HS1 HS21 HBw
    go_wp2_with fail
    refine (rings_any A c l w2 HS3.out HW.out).mono ?_
    rw [show ringsOf l = (ringsTo l 5, 0) by simp [ringsOf, he]]
    rintro e w3 ⟨A5, c5, rs, hrs, rfl, hra, hb3⟩
    obtain ⟨n, hn⟩ : ∃ n, n = (ringsTo l 5).length := ⟨_, rfl⟩
    rw [show (ringsTo l 5, (0 : Int)).1.length = n from hn.symm] at hra
    rw [show (ringsTo l 5, (0 : Int)).1.length = n from hn.symm, show errV (ringsTo l 5, (0 : Int)).2 = .nilIface from rfl]
    have hn5 : n ≤ 5 := by rw [hn]; exact ringsTo_len l 5
    have HN := hid hn
    have HRS := hid hrs
    have HRA := hid hra
    have HR5 := hid (HR4.out.new hb3)
    have HB3 := hid (HB2.out.trans (hb3.mono HB2.out.size))
    have HS4 := hid (HS3.out.new hb3)
    have HS24 := hid (HS23.out.new hb3)
    clear hn hrs hra hb3 HS3 HS23 HB2 HR4 he
    have hlev := least_levels HE.out
    have HLV := hid hlev
    clear hlev
    have hc4 := HR5.out.le
    have hx5 := HR5.out.sl
    have HX5 : Hid (Sl w3 A4 1 5 ((lvls (rnd l 5)).flatMap fun a => [.int .i64 a])) := by rw [ints_flat]; exact hx5
    clear hx5
    go_wp2_with (go_at_call 18; refine (levels_any A A4 c c4 5 l (lvls (rnd l 5)) _ HS4.out HW.out rfl HX5.out ⟨hc4.1, hc4.2, fun h => by subst h; rcases HR5.out.2 with ⟨_, h, _⟩ | ⟨_, _, _, h, _⟩ <;> cases h⟩).mono ?_; rw [HLV.out, errV_zero]; rintro e w4 ⟨rfl, hb4⟩; have HB4 := hid hb4; clear hb4)
    have hbl : w4.heap.size = w4.heap.size := rfl
    have HSb := hid (HS4.out.new HB4.out)
    have HS2b := hid (HS24.out.new HB4.out)
    obtain ⟨xb, xo, rfl, hxb, hxx⟩ := Row.five (HR5.out.new HB4.out)
    have HXX := hid hxx
    have HRAb := hid (HRA.out.new_ HB4.out)
    have HBb := hid (HB3.out.trans (HB4.out.mono HB3.out.size))
    obtain ⟨hc5, hc5'⟩ := hc4
    unfold maxLen at hc5'
    have hof0 : (w4.alloc (Obj.cells #[.int .i64 0, .int .i64 0, .int .i64 0, .int .i64 0, .int .i64 0] 61)).heap[w4.heap.size]? = some (.cells (lvA fun _ => 0) 61 (0, 0)) := by rw [hp_alloc, if_pos rfl]; rfl
    have HOF0 := hid hof0
    clear hxx hbl hof0 HB4 HS4 HS24 HR5 HRA HB3 HX5 HLV
    go_loopw [12, 13] (fun v12 v13 wr => ∃ (i : Nat) (F : Nat → Nat), i ≤ n ∧ v12 = .int .i64 i ∧ OfTo l F i ∧ wr.heap[w4.heap.size]? = some (.cells (lvA F) 61 (0, 0)) ∧ Below w4.heap.size w4 wr) (fun v12 _ _ => n - (intOf v12).toNat)
    case atStart => exact ⟨0, fun _ => 0, by omega, rfl, fun i' g b h => absurd h (by omega), HOF0.out, (Below.refl _ _).alloc (Nat.le_refl _) _⟩
    case round =>
      obtain ⟨i, F, hi, rfl, hof, hF, hb⟩ := hrel
      have HOF := hid hof
      have HF := hid hF
      have HB := hid hb
      clear hof hF hb
      by_cases hin : i < n
      · obtain ⟨r, rb, ro, hri, rfl, hrb, hcell, hsub⟩ := HRAb.out.get hin
        have hgi : (ringsTo l 5)[i]? = some r.xs := by rw [← HRS.out, List.getElem?_map, hri]; rfl
        obtain ⟨a, ha5, hga, _⟩ := ringsTo_get hgi
        have hm5 : r.xs.length ≤ 5 := by rw [hga]; exact ringTo_len l a 5
        have hval : ∀ (j : Nat) (y : Int), r.xs[j]? = some y → ∃ b : Nat, b < 5 ∧ y = b ∧ sameB l a b = true := by
          intro j y hy
          have := List.mem_of_getElem? hy
          rw [hga] at this
          exact ringTo_mem.1 this
        obtain ⟨rA, rc, xs⟩ := r
        simp only [] at hcell hsub hgi hga hm5 hval
        obtain ⟨m, hm⟩ : ∃ m, m = xs.length := ⟨_, rfl⟩
        rw [← hm] at hcell hsub hm5
        have HM := hid hm
        have HCELL := hid hcell
        have HSUB := hid hsub
        have HGI := hid hgi
        have HVAL := hid hval
        have c0 := (HB.out.cell (p := ⟨rb, ro + i, none⟩) hrb).trans hcell
        clear hm hcell hsub hgi hga hval hri
        obtain ⟨wk, hwk⟩ : ∃ wk, wk = wr := ⟨_, rfl⟩
        subst hwk
        go_wp2_with fail
        clear c0
        go_loopw [13] (fun v13 wr => ∃ (j : Nat) (F : Nat → Nat), j ≤ m ∧ v13 = .int .i64 j ∧ OfTo l F i ∧ (∀ (j' b : Nat), j' < j → xs[j']? = some (b : Int) → F b = i) ∧ wr.heap[w4.heap.size]? = some (.cells (lvA F) 61 (0, 0)) ∧ Below w4.heap.size w4 wr) (fun v13 _ => m - (intOf v13).toNat)
        case atStart => exact ⟨0, F, by omega, rfl, HOF.out, fun j' b h => absurd h (by omega), HF.out, HB.out⟩
        case round =>
          obtain ⟨j, F, hj, rfl, hof, hel, hF, hb⟩ := hrel
          have HOF := hid hof
          have HEL := hid hel
          have HF := hid hF
          have HB := hid hb
          have hltF := blk_lt hF
          clear hof hel hF hb
          have c0 := (HB.out.cell (p := ⟨rb, ro + i, none⟩) hrb).trans HCELL.out
          by_cases hjm : j < m
          · obtain ⟨b2, o2, rfl, hb2, hcs⟩ := HSUB.out (by omega)
            have hlen := HM.out
            obtain ⟨b, hb5, hyb, hsb⟩ := HVAL.out j _ (List.getElem?_eq_getElem (show j < xs.length by omega))
            obtain ⟨b0, hb05, hyb0, hsb0⟩ := HVAL.out 0 _ (List.getElem?_eq_getElem (show 0 < xs.length by omega))
            have hxj : xs[j]? = some (b : Int) := by rw [List.getElem?_eq_getElem (show j < xs.length by omega), hyb]
            have hx0 : xs[0]? = some (b0 : Int) := by rw [List.getElem?_eq_getElem (show 0 < xs.length by omega), hyb0]
            have hsame := sameB_iff.1 (sameB_trans (sameB_symm hsb) hsb0)
            have hv := rnd_same HIN.out hsame.1 hsame.2
            have c1 := (HB.out.cell (p := ⟨b2, o2 + j, none⟩) hb2).trans (hcs j _ hxj)
            have z1 := blk_free HF.out b
            have hbi0 : (0 : Int) ≤ (b : Int) := by omega
            have hbi4 : (b : Int) ≤ 4 := by omega
            have HXJ := hid hxj
            have HX0 := hid hx0
            have HV := hid hv
            have HCS := hid hcs
            clear hlen hyb hyb0 hsb hsb0 hxj hx0 hsame hv hcs
            have hcb := (blk_cell HF.out b).trans (lvA_get F hb5)
            go_wp2_with fail
            obtain ⟨wx, hwx⟩ : ∃ wx, wx = wr.setCell ⟨w4.heap.size, b, none⟩ (.int .i64 i) := ⟨_, rfl⟩
            rw [← hwx]
            have hbx : Below w4.heap.size w4 wx := by rw [hwx]; exact HB.out.setCell (by simp) _
            have hFx : wx.heap[w4.heap.size]? = some (.cells (lvA fun q => if q = b then i else F q) 61 (0, 0)) := by
              rw [hwx, hp_set, if_pos rfl, HF.out]
              simp only [Option.map_some, setObj]
              rw [lvA_set _ hb5]
            have x1 := (hbx.cell (p := ⟨rb, ro + i, none⟩) hrb).trans HCELL.out
            have x2 := (hbx.cell (p := ⟨b2, o2 + j, none⟩) hb2).trans (HCS.out j _ HXJ.out)
            have x3 := (hbx.cell (p := ⟨b2, o2 + 0, none⟩) hb2).trans (HCS.out 0 _ HX0.out)
            rw [Nat.add_zero] at x3
            have x4 := HXX.out wx hbx b hb5
            have x5 := HXX.out wx hbx b0 hb05
            rw [lvls_get _ hb5, HV.out] at x4
            rw [lvls_get _ hb05] at x5
            generalize rnd l 5 b0 = vv at x4 x5
            have HBX := hid hbx
            have HFX := hid hFx
            have hbi05 : (b0 : Int) ≤ 4 := by omega
            clear hwx hbx hFx c0 c1 z1 hcb
            go_quiet (fail)
            go_wp2_with fail
            go_roundw
            case rel =>
              refine ⟨j + 1, fun q => if q = b then i else F q, by omega, by go_num, fun i' g b' h1 h2 h3 => ?_, fun j' b' h1 h2 => ?_, HFX.out, Below.drawnN HBX.out _⟩
              · show (if b' = b then i else F b') = i'
                by_cases e : b' = b
                · subst e
                  have := ringsTo_apart h2 HGI.out h3 (List.mem_of_getElem? HXJ.out) (sameB_self l b')
                  omega
                · rw [if_neg e]; exact HOF.out i' g b' h1 h2 h3
              · show (if b' = b then i else F b') = i
                by_cases e : b' = b
                · rw [if_pos e]
                · rw [if_neg e]
                  by_cases ej : j' = j
                  · subst ej; rw [HXJ.out] at h2; cases h2; exact absurd rfl e
                  · exact HEL.out j' b' (by omega) h2
            case measure => simp [intOf]; omega
          · obtain rfl : j = m := by omega
            go_wp2_with fail
            go_roundw
            case rel =>
              refine ⟨i + 1, F, by omega, by go_num, fun i' g b h1 h2 h3 => ?_, HF.out, HB.out⟩
              by_cases e : i' = i
              · subst e
                rw [HGI.out] at h2; cases h2
                obtain ⟨j', hj', e2⟩ := List.getElem_of_mem h3
                exact HEL.out j' b (by have := HM.out; omega) (by rw [List.getElem?_eq_getElem hj', e2])
              · exact HOF.out i' g b (by omega) h2 h3
            case measure => simp [intOf]; omega
      · obtain rfl : i = n := by omega
        have hofa : ∀ a b, a < 5 → b < 5 → ((F a = F b) ↔ sameB l a b = true) := fun a b ha hb => (by have h1 := HOF.out; rw [HN.out] at h1; exact h1.all ha hb)
        have HOFA := hid hofa
        obtain ⟨wl, hwl⟩ : ∃ wl, wl = wr := ⟨_, rfl⟩
        subst hwl
        clear hofa
        go_wp2_with fail
        have hofl := hid (HF.out)
        obtain ⟨d5, hd5⟩ : ∃ d, d = decide (mo = 5) := ⟨_, rfl⟩
        have HD5 := hid hd5
        clear hd5
        go_loopw [14, 15, 16] (fun v14 v15 v16 wr => ∃ (k : Nat) (gd : Bool), k ≤ l.length ∧ v15 = .int .i64 k ∧ v14 = .bool gd ∧ gd = (d5 && (l.take k).all (goodW l o)) ∧ Below wl.heap.size wl wr) (fun _ v15 _ _ => l.length - (intOf v15).toNat)
        case atStart => exact ⟨0, _, by omega, rfl, rfl, by rw [HD5.out, Bool.eq_iff_iff]; simp; omega, Below.refl _ _⟩
        case round =>
          obtain ⟨k, gd, hk, rfl, rfl, hgd, hb⟩ := hrel
          have HGD := hid hgd
          have HB2 := hid hb
          have HBB := hid (HB.out.trans (hb.mono HB.out.size))
          clear hgd hb
          by_cases hkl : k < l.length
          · obtain ⟨b, off, rfl, hlb, g0, g1, g2, g3⟩ := HSb.out.wire HBB.out hkl hkl
            have hget := List.getElem?_eq_getElem hkl
            have hinr := HIN.out l[k] (List.getElem_mem hkl)
            have hmem := List.getElem_mem hkl
            generalize l[k] = x at g0 g1 g2 g3 hget hinr hmem
            obtain ⟨f, t, kk, dd⟩ := x
            obtain ⟨⟨hf0, hf5⟩, ht0, ht5⟩ := hinr
            simp only [] at g0 g1 hf0 hf5 ht0 ht5
            obtain ⟨f, rfl⟩ : ∃ n : Nat, f = n := ⟨f.toNat, by omega⟩
            obtain ⟨t, rfl⟩ : ∃ n : Nat, t = n := ⟨t.toNat, by omega⟩
            have hf5' : f < 5 := by omega
            have ht5' : t < 5 := by omega
            have hedge : Edge l f t := ⟨_, hmem, rfl, rfl⟩
            have hnext := all_snoc (p := goodW l o) hget
            have hgw : goodW l o ⟨f, t, kk, dd⟩ = (decide (o.getD f 0 < o.getD t 0) || (sameB l f t && decide (o.getD f 0 = o.getD t 0))) := rfl
            have of1 := (HB2.out.cell (p := ⟨w4.heap.size, f, none⟩) (blk_lt HF.out)).trans ((blk_cell HF.out f).trans (lvA_get F hf5'))
            have of2 := (HB2.out.cell (p := ⟨w4.heap.size, t, none⟩) (blk_lt HF.out)).trans ((blk_cell HF.out t).trans (lvA_get F ht5'))
            have xf := HXX.out _ HBB.out f hf5'
            have xt := HXX.out _ HBB.out t ht5'
            rw [lvls_get _ hf5'] at xf
            rw [lvls_get _ ht5'] at xt
            have hiff := HOFA.out f t hf5' ht5'
            have hfix := rnd_fix HIN.out hedge
            have hup := rnd_up HIN.out hedge
            have hsm := rnd_same HIN.out (u := f) (v := t)
            have HNEXT := hid hnext
            have HGW := hid hgw
            clear g2 g3 hget hmem hnext hgw hfix
            generalize F f = p at of1 hiff
            generalize F t = q at of2 hiff
            generalize rnd l 5 f = vf at xf hup hsm
            generalize rnd l 5 t = vt at xt hup hsm
            cases hsb : sameB l f t with
            | true =>
              have hs2 := sameB_iff.1 hsb
              have e1 := hiff.2 hsb
              have e2 := hsm hs2.1 hs2.2
              subst e1
              subst e2
              clear hiff hup hsm hs2 hedge
              go_wp2_with fail
              go_quiet (fail)
              go_wp2_with fail
              go_quiet (fail)
              go_wp2_with fail
              cases gd with
              | false =>
                go_quiet (fail)
                go_wp2_with fail
                go_roundw
                case rel => exact ⟨k + 1, _, by omega, by go_num, rfl, by rw [HNEXT.out, ← Bool.and_assoc, ← HGD.out]; rfl, ⟨HB2.out.os, HB2.out.tape, HB2.out.output, HB2.out.size, HB2.out.block⟩⟩
                case measure => simp [intOf]; omega
              | true =>
                have hmo5 : mo = 5 := by have h := HGD.out; simp at h; have h2 := HD5.out; rw [h.1] at h2; exact of_decide_eq_true h2.symm
                subst hmo5
                obtain ⟨ob, oo, rfl, hob, hoc⟩ := HS2b.out.int HBB.out (by rw [HMO.out]; omega)
                have o1 := hoc f (by rw [HMO.out]; omega)
                have o2 := hoc t (by rw [HMO.out]; omega)
                generalize o.getD f 0 = vof at o1 HGW
                generalize o.getD t 0 = vot at o2 HGW
                clear hoc
                by_cases hlt : vof < vot
                · have hd : decide (vof < vot) = true := decide_eq_true hlt
                  have HG := hid (show goodW l o ⟨f, t, kk, dd⟩ = true by rw [HGW.out, hd]; rfl)
                  go_quiet (fail)
                  go_wp2_with fail
                  go_roundw
                  case rel => exact ⟨k + 1, _, by omega, by go_num, rfl, by rw [HNEXT.out, ← Bool.and_assoc, ← HGD.out, HG.out]; rfl, ⟨HB2.out.os, HB2.out.tape, HB2.out.output, HB2.out.size, HB2.out.block⟩⟩
                  case measure => simp [intOf]; omega
                · have hd : decide (vof < vot) = false := decide_eq_false hlt
                  by_cases heq : vof = vot
                  · subst heq
                    have HG := hid (show goodW l o ⟨f, t, kk, dd⟩ = true by rw [HGW.out, hsb]; simp)
                    go_quiet (fail)
                    go_wp2_with fail
                    go_roundw
                    case rel => exact ⟨k + 1, _, by omega, by go_num, rfl, by rw [HNEXT.out, ← Bool.and_assoc, ← HGD.out, HG.out]; rfl, ⟨HB2.out.os, HB2.out.tape, HB2.out.output, HB2.out.size, HB2.out.block⟩⟩
                    case measure => simp [intOf]; omega
                  · have hd2 : decide (vof = vot) = false := decide_eq_false heq
                    have hd3 : (vof == vot) = false := by simpa using heq
                    have HG := hid (show goodW l o ⟨f, t, kk, dd⟩ = false by rw [HGW.out, hd, hd2]; simp)
                    go_quiet (fail)
                    go_wp2_with fail
                    go_roundw
                    case rel => exact ⟨k + 1, _, by omega, by go_num, rfl, by rw [HNEXT.out, ← Bool.and_assoc, ← HGD.out, HG.out]; rfl, ⟨HB2.out.os, HB2.out.tape, HB2.out.output, HB2.out.size, HB2.out.block⟩⟩
                    case measure => simp [intOf]; omega
            | false =>
              have e1 : ¬ p = q := fun e => by rw [hiff.1 e] at hsb; cases hsb
              have e2 : vf < vt := hup (fun h => by rw [sameB_iff.2 ⟨Reach.refl.step hedge, h⟩] at hsb; cases hsb)
              have e3 : ((p : Int) == (q : Int)) = false := by simp; omega
              have e4 : ((vf : Int) == (vt : Int)) = false := by simp; omega
              have e5 : ¬ ((p : Int) = (q : Int)) := by omega
              have e6 : ¬ ((vf : Int) = (vt : Int)) := by omega
              have e7 : (p == q) = false := by simpa using e1
              have e8 : (vf == vt) = false := by simp; omega
              clear hiff hup hsm hedge
              go_wp2_with fail
              go_quiet (fail)
              go_wp2_with fail
              go_quiet (fail)
              go_wp2_with fail
              cases gd with
              | false =>
                go_quiet (fail)
                go_wp2_with fail
                go_roundw
                case rel => exact ⟨k + 1, _, by omega, by go_num, rfl, by rw [HNEXT.out, ← Bool.and_assoc, ← HGD.out]; rfl, ⟨HB2.out.os, HB2.out.tape, HB2.out.output, HB2.out.size, HB2.out.block⟩⟩
                case measure => simp [intOf]; omega
              | true =>
                have hmo5 : mo = 5 := by have h := HGD.out; simp at h; have h2 := HD5.out; rw [h.1] at h2; exact of_decide_eq_true h2.symm
                subst hmo5
                obtain ⟨ob, oo, rfl, hob, hoc⟩ := HS2b.out.int HBB.out (by rw [HMO.out]; omega)
                have o1 := hoc f (by rw [HMO.out]; omega)
                have o2 := hoc t (by rw [HMO.out]; omega)
                generalize o.getD f 0 = vof at o1 HGW
                generalize o.getD t 0 = vot at o2 HGW
                clear hoc
                by_cases hlt : vof < vot
                · have hd : decide (vof < vot) = true := decide_eq_true hlt
                  have HG := hid (show goodW l o ⟨f, t, kk, dd⟩ = true by rw [HGW.out, hd]; rfl)
                  go_quiet (fail)
                  go_wp2_with fail
                  go_roundw
                  case rel => exact ⟨k + 1, _, by omega, by go_num, rfl, by rw [HNEXT.out, ← Bool.and_assoc, ← HGD.out, HG.out]; rfl, ⟨HB2.out.os, HB2.out.tape, HB2.out.output, HB2.out.size, HB2.out.block⟩⟩
                  case measure => simp [intOf]; omega
                · have hd : decide (vof < vot) = false := decide_eq_false hlt
                  have HG := hid (show goodW l o ⟨f, t, kk, dd⟩ = false by rw [HGW.out, hd, hsb]; rfl)
                  go_quiet (fail)
                  go_wp2_with fail
                  go_roundw
                  case rel => exact ⟨k + 1, _, by omega, by go_num, rfl, by rw [HNEXT.out, ← Bool.and_assoc, ← HGD.out, HG.out]; rfl, ⟨HB2.out.os, HB2.out.tape, HB2.out.output, HB2.out.size, HB2.out.block⟩⟩
                  case measure => simp [intOf]; omega
          · obtain rfl : k = l.length := by omega
            rw [List.take_length] at HGD
            have HBB := HBB
            obtain ⟨wm, hwm⟩ : ∃ wm, wm = wr := ⟨_, rfl⟩
            subst hwm
            go_wp2_with fail
            have HWM := hid (HBb.out.trans (HBB.out.mono HBb.out.size))
            have HW4 := hid (HBB.out)
            go_loopw [14, 17] (fun v14 v17 wr => ∃ (j : Nat) (g2 : Bool), j ≤ 5 ∧ v17 = .int .i64 j ∧ v14 = .bool g2 ∧ (g2 = true → gd = true ∧ ∀ i, i < j → 0 ≤ o.getD i 0) ∧ Below wm.heap.size wm wr) (fun _ v17 _ => 5 - (intOf v17).toNat)
            case atStart => exact ⟨0, gd, by omega, rfl, rfl, fun h => ⟨h, fun i hi => absurd hi (by omega)⟩, Below.refl _ _⟩
            case round =>
              obtain ⟨j, g2, hj, rfl, rfl, hg2, hb⟩ := hrel
              have HG2 := hid hg2
              have HB3 := hid hb
              have HWR := hid (HWM.out.trans (hb.mono HWM.out.size))
              have HR4 := hid (HW4.out.trans (hb.mono HW4.out.size))
              clear hg2 hb
              cases g2 with
              | false =>
                by_cases hj5 : j < 5
                all_goals
                  obtain ⟨wn, hwn⟩ : ∃ wn, wn = wr := ⟨_, rfl⟩
                  subst hwn
                  go_wp2_with fail
                  go_loopw [18] (fun v18 wr => v18 = .int .i64 0 ∧ Below wn.heap.size wn wr) (fun _ _ => 0)
                  case atStart => exact ⟨rfl, Below.refl _ _⟩
                  case round =>
                    obtain ⟨rfl, hb⟩ := hrel
                    have HB4 := hid hb
                    clear hb
                    go_wp2_with fail
                    go_ret
                    exact ⟨rfl, HWR.out.trans (HB4.out.mono HWR.out.size)⟩
              | true =>
                obtain ⟨hgt, hno⟩ := HG2.out rfl
                have hmo5 : mo = 5 := by have h := HGD.out; rw [hgt] at h; simp at h; have h2 := HD5.out; rw [h.1] at h2; exact of_decide_eq_true h2.symm
                have hall : l.all (goodW l o) = true := by have h := HGD.out; rw [hgt] at h; simp at h; rw [List.all_eq_true]; exact h.2
                have HNO := hid hno
                have HALL := hid hall
                subst hmo5
                subst hgt
                clear hno hall
                obtain ⟨ob, oo, rfl, hob, hoc⟩ := HS2b.out.int HR4.out (by rw [HMO.out]; omega)
                by_cases hj5 : j < 5
                · have hj5i : (j : Int) < 5 := by omega
                  have o1 := hoc j (by rw [HMO.out]; omega)
                  generalize hvo : o.getD j 0 = vo at o1
                  have HVO := hid hvo
                  clear hoc hvo
                  by_cases hneg : vo < 0
                  · go_wp2_with fail
                    go_roundw
                    case rel => exact ⟨j + 1, false, by omega, by go_num, rfl, fun h => (by cases h), HB3.out⟩
                    case measure => simp [intOf]; omega
                  · go_wp2_with fail
                    go_roundw
                    case rel =>
                      refine ⟨j + 1, true, by omega, by go_num, rfl, fun _ => ⟨(by first | rfl | trivial), fun i hi => ?_⟩, HB3.out⟩
                      by_cases e : i = j
                      · subst e; rw [HVO.out]; omega
                      · exact HNO.out i (by omega)
                    case measure => simp [intOf]; omega
                · obtain rfl : j = 5 := by omega
                  have HGL := hid (fun (i : Nat) (hi : i < 5) => good_least HIN.out HALL.out HNO.out hi)
                  obtain ⟨wn, hwn⟩ : ∃ wn, wn = wr := ⟨_, rfl⟩
                  subst hwn
                  clear hoc
                  go_wp2_with fail
                  go_loopw [18] (fun v18 wr => ∃ i : Nat, i ≤ 5 ∧ v18 = .int .i64 i ∧ Below wn.heap.size wn wr) (fun v18 _ => 5 - (intOf v18).toNat)
                  case atStart => exact ⟨0, by omega, rfl, Below.refl _ _⟩
                  case round =>
                    obtain ⟨i, hi, rfl, hb⟩ := hrel
                    have HB4 := hid hb
                    have HR5 := hid (HR4.out.trans (hb.mono HR4.out.size))
                    clear hb
                    by_cases hi5 : i < 5
                    · have hi5i : (i : Int) < 5 := by omega
                      obtain ⟨ob', oo', he, hob', hoc⟩ := HS2b.out.int HR5.out (by rw [HMO.out]; omega)
                      injection he with he
                      injection he with he1 he2
                      subst he1
                      subst he2
                      have o1 := hoc i (by rw [HMO.out]; omega)
                      have o2 := HXX.out _ HR5.out i hi5
                      rw [lvls_get _ hi5] at o2
                      have hle := HGL.out i hi5
                      generalize o.getD i 0 = vo at o1 hle
                      generalize rnd l 5 i = vx at o2 hle
                      have hnl : decide (vo < (vx : Int)) = false := decide_eq_false (by omega)
                      clear hoc
                      go_wp2_with fail
                      go_quiet (fail)
                      go_wp2_with fail
                      go_roundw
                      case rel => exact ⟨i + 1, by omega, by go_num, ⟨HB4.out.os, HB4.out.tape, HB4.out.output, HB4.out.size, HB4.out.block⟩⟩
                      case measure => simp [intOf]; omega
                    · obtain rfl : i = 5 := by omega
                      go_wp2_with fail
                      go_ret
                      exact ⟨rfl, HWR.out.trans (HB4.out.mono HWR.out.size)⟩
  · have hv := errV_pos he
    have HV := hid hv
    have HE := hid he
    clear he hv
    refine (least_lv A c l w1 HS1.out HW.out).mono ?_
    rw [show leastOf l = ([], (flowChk l).2) by simp [leastOf, HE.out]]
    rintro e w2 ⟨A4, c4, rfl, _, _, hb2⟩
    rw [show errV (([], (flowChk l).2) : List Int × Int).2 = errV (flowChk l).2 from rfl, HV.out]
    have HB2 := hid (HBw.out.trans (hb2.mono HBw.out.size))
    have HS3 := hid (HS1.out.new hb2)
    clear hb2
    go_wp2_with fail
    refine (rings_any A c l w2 HS3.out HW.out).mono ?_
    rw [show ringsOf l = ([], (flowChk l).2) by simp [ringsOf, HE.out]]
    rintro e w3 ⟨A5, c5, rs, _, rfl, _, hb3⟩
    rw [show errV (([], (flowChk l).2) : List (List Int) × Int).2 = errV (flowChk l).2 from rfl, HV.out]
    go_wp2_with fail
    go_ret
    exact ⟨rfl, HB2.out.trans (hb3.mono HB2.out.size)⟩
end Go.Proofs.Ytfokcjooibmigaa
