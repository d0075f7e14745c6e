/- Package frame: the contract of Shares, for every frame. -/
import Derived.Test.YtfokcjooibmigaaDoorFrameLaw
import Derived.Test.YtfokcjooibmigaaDoorAhead
namespace Go.Proofs.YtfokcjooibmigaaDoor
open Go.RowKit
set_option maxRecDepth 100000

def shl (f : Nat → Int) : List Int := (List.range 5).map f
theorem shl_get (f : Nat → Int) {i : Nat} (h : i < 5) : (shl f).getD i 0 = f i := by
  rcases (show i = 0 ∨ i = 1 ∨ i = 2 ∨ i = 3 ∨ i = 4 by omega) with rfl | rfl | rfl | rfl | rfl <;> rfl
def shA (f : Nat → Int) : Array Value := (ints (shl f)).toArray
theorem shA_size (f : Nat → Int) : (shA f).size = 5 := rfl
theorem shA_get (f : Nat → Int) {i : Nat} (h : i < 5) : (shA f)[i]? = some (.int .i64 (f i)) := by
  rcases (show i = 0 ∨ i = 1 ∨ i = 2 ∨ i = 3 ∨ i = 4 by omega) with rfl | rfl | rfl | rfl | rfl <;> rfl
theorem shA_set (f : Nat → Int) {i : Nat} (h : i < 5) (v : Int) : (shA f).setIfInBounds i (.int .i64 v) = shA (fun j => if j = i then v else f j) := by
  rcases (show i = 0 ∨ i = 1 ∨ i = 2 ∨ i = 3 ∨ i = 4 by omega) with rfl | rfl | rfl | rfl | rfl <;> rfl
theorem shA_congr {f g : Nat → Int} (h : ∀ i, i < 5 → f i = g i) : shA f = shA g := by
  unfold shA shl
  simp only [List.range_succ, List.range_zero]
  simp [h 0 (by omega), h 1 (by omega), h 2 (by omega), h 3 (by omega), h 4 (by omega)]
def sharesOf (ticks : Int) (l : List Span) : List Int × Int := if (frameChk ticks l).2 ≠ 0 then ([], (frameChk ticks l).2) else (shl (shTo l l.length), 0)

set_option maxHeartbeats 4000000 in
theorem shares_any (ticks : Int) (A : Option Addr) (c : Nat) (l : List Span) (w : World) (hs : Sl w A 3 l.length (l.flatMap Span.cells)) (hsw : SlW A c l.length) :
    Calls Tryd.prog 33 #[.int .i64 ticks, .slice A l.length c] w (TellL w (sharesOf ticks l)) := by
  have HS := hid hs
  have HW := hid hsw
  clear hs hsw
  by_cases he : (frameChk ticks l).2 = 0
  · obtain ⟨h1, h2, h12⟩ := frameChk_ticks he
    have HE := hid he
    obtain ⟨T, rfl⟩ : ∃ T : Nat, ticks = T := ⟨ticks.toNat, by omega⟩
    have HOK := hid (frOk_of he)
    rw [show sharesOf T l = (shl (shTo l l.length), 0) by simp [sharesOf, he]]
    clear he
    have hmk : ∀ w, (Instr.makeSlice 24 (.int .i64 5) (.int .i64 5)).run Tryd.prog w = .ok (.slice (some ⟨w.heap.size, 0, none⟩) 5 5) (w.alloc (.cells #[.int .i64 0, .int .i64 0, .int .i64 0, .int .i64 0, .int .i64 0] 3)) := fun _ => by kernel_rfl
    go_enter Tryd.func33, Tryd.ntmps33
    go_wp2_with (go_at_call 54; refine (frame_right T A c l _ HS.out HW.out).mono ?_; rw [HE.out]; rintro e w1 ⟨rfl, hb1⟩; rw [errV_zero]; have HB1 := hid hb1; clear hb1)
    have hbs := HB1.out.size
    have hout0 : (w1.alloc (Obj.cells #[.int .i64 0, .int .i64 0, .int .i64 0, .int .i64 0, .int .i64 0] 3)).heap[w1.heap.size]? = some (.cells (shA (shTo l 0)) 3 (0, 0)) := by rw [hp_alloc, if_pos rfl]; rfl
    have HOUT0 := hid hout0
    have HBEL0 := hid (HB1.out.alloc hbs (Obj.cells #[.int .i64 0, .int .i64 0, .int .i64 0, .int .i64 0, .int .i64 0] 3))
    generalize w1.heap.size = bo at *
    clear hout0
    go_loopw [9, 19] (fun v9 v19 wr => ∃ k : Nat, k ≤ l.length ∧ v19 = .int .i64 k ∧ wr.heap[bo]? = some (.cells (shA (shTo l k)) 3 (0, 0)) ∧ Below w.heap.size w wr) (fun _ v19 _ => l.length - (intOf v19).toNat)
    case atStart => exact ⟨0, by omega, rfl, HOUT0.out, HBEL0.out⟩
    case round =>
      obtain ⟨k, hk, rfl, hout, hbel⟩ := hrel
      have HOUT := hid hout
      have HBEL := hid hbel
      have hlto := blk_lt hout
      clear hout hbel
      by_cases hkl : k < l.length
      · obtain ⟨b, off, rfl, hlb, g0, g1, g2⟩ := HS.out.span HBEL.out hkl hkl
        have hget := List.getElem?_eq_getElem hkl
        have hbw : b < wr.heap.size := cell_lt g0
        generalize l[k] = s at g0 g1 g2 hget
        obtain ⟨b1, b2, b3, b4, b5⟩ := spanOk (HOK.out k s hget).1
        obtain ⟨fr, to, rm⟩ := s
        simp only [] at g0 g1 g2 b1 b2 b3 b4 b5
        obtain ⟨rm, rfl⟩ : ∃ j : Nat, rm = j := ⟨rm.toNat, by omega⟩
        have hr5 : rm < 5 := by omega
        have hsu := shTo_succ hget
        have hbd := shTo_bd HOK.out rm k (by omega)
        have c1 := (blk_cell HOUT.out rm).trans (shA_get _ hr5)
        have z1 := blk_free HOUT.out rm
        have HSU := hid hsu
        generalize hx : shTo l k rm = x at c1 hbd
        have HX := hid hx
        have e1 : IntKind.i64.wrap (to - fr) = to - fr := IntWalk.i64_in _ (by omega)
        have e2 : IntKind.i64.wrap (x + (to - fr)) = x + (to - fr) := IntWalk.i64_in _ (by omega)
        have hri : (rm : Int) < 5 := by omega
        clear hget hsu hx
        go_wp2_with fail
        obtain ⟨wx, hwx⟩ : ∃ wx, wx = wr.alloc (Obj.cells #[.int .i64 fr, .int .i64 to, .int .i64 rm] 69) := ⟨_, rfl⟩
        rw [← hwx]
        have x0 : wx.cell? ⟨wr.heap.size, 0, none⟩ = some (.int .i64 fr) := by rw [hwx]; exact blk_cell (heap_alloc_new wr _) 0
        have x1 : wx.cell? ⟨wr.heap.size, 1, none⟩ = some (.int .i64 to) := by rw [hwx]; exact blk_cell (heap_alloc_new wr _) 1
        have x2 : wx.cell? ⟨wr.heap.size, 2, none⟩ = some (.int .i64 rm) := by rw [hwx]; exact blk_cell (heap_alloc_new wr _) 2
        have x3 : wx.cell? ⟨bo, rm, none⟩ = some (.int .i64 x) := by rw [hwx]; exact (World.cell?_alloc_lt wr _ ⟨bo, rm, none⟩ hlto).trans c1
        have x4 : wx.frozen? ⟨bo, rm, none⟩ = false := by rw [hwx]; exact (World.frozen?_of_block (w := wr) (a := ⟨bo, rm, none⟩) (blk_alloc hlto _)).trans z1
        have XK : Hid (∀ F, Keep F wr wx) := by rw [hwx]; exact fun F => (Keep.refl _ wr).alloc _
        clear hwx c1 z1 g0 g1 g2
        go_region
        all_goals
          go_wp2_with fail
          go_roundw
          case rel =>
            have hK : ∀ v, Keep (fun i => i = bo) wr (wx.setCell ⟨bo, rm, none⟩ v).drew := fun v => ((XK.out (fun i => i = bo)).setCell (.inl rfl) v).drew
            refine ⟨k + 1, by omega, by go_num, ?_, HBEL.out.trans ((hK _).below HBEL.out.size (fun i h => by omega))⟩
            simp only [hp_drew, hp_set, if_true]
            rw [(XK.out NoF).block _ hlto (fun h => h), HOUT.out]
            simp only [Option.map_some, setObj]
            rw [shA_set _ hr5]
            congr 2
            refine shA_congr fun i _ => ?_
            rw [HSU.out i]
            by_cases e : i = rm
            · subst e; rw [if_pos rfl, if_pos rfl, HX.out]
            · rw [if_neg e]; rw [if_neg]; omega
          case measure => simp [intOf]; omega
      · obtain rfl : k = l.length := by omega
        go_wp2_with fail
        go_ret2
        exact ⟨some ⟨bo, 0, none⟩, 5, rfl, ⟨rfl, .inr ⟨bo, 0, _, rfl, HOUT.out, by simp [shl], by simp [maxLen], by rw [shA_size]; omega, fun j u hu => by rw [Nat.zero_add]; simpa [shA] using hu⟩⟩, fun k hk => by simp [InA] at hk; omega, HBEL.out⟩
  · rw [show sharesOf ticks l = ([], (frameChk ticks l).2) by simp [sharesOf, he]]
    have hv := errV_pos he
    have HV := hid hv
    clear he hv
    go_enter Tryd.func33, Tryd.ntmps33
    go_wp2_with (go_at_call 54; refine (frame_right ticks A c l _ HS.out HW.out).mono ?_; rw [HV.out]; rintro e w1 ⟨rfl, hb1⟩)
    go_ret2
    exact ⟨none, 0, by rw [HV.out]; rfl, Row.nil _ _ _, fun k hk => by simp [InA] at hk, hb1⟩
end Go.Proofs.YtfokcjooibmigaaDoor
