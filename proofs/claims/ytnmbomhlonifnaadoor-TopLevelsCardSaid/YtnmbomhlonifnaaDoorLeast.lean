/- Package levels: the contract of Least, for every list of wires. -/
import Derived.Test.YtnmbomhlonifnaaDoorAhead
import Derived.Test.YtnmbomhlonifnaaDoorWaysU
import Derived.Test.YtnmbomhlonifnaaDoorLeastLaw
import Derived.Outline
namespace Go.Proofs.YtnmbomhlonifnaaDoor
open Go.RowKit
set_option maxRecDepth 100000

def lvls (f : Nat → Nat) : List Int := (List.range 5).map fun i => (f i : Int)
theorem lvls_len (f : Nat → Nat) : (lvls f).length = 5 := rfl
theorem lvls_get (f : Nat → Nat) {i : Nat} (h : i < 5) : (lvls f).getD i 0 = f i := by
  rcases (show i = 0 ∨ i = 1 ∨ i = 2 ∨ i = 3 ∨ i = 4 by omega) with rfl | rfl | rfl | rfl | rfl <;> rfl
def lvA (f : Nat → Nat) : Array Value := (ints (lvls f)).toArray
theorem lvA_size (f : Nat → Nat) : (lvA f).size = 5 := rfl
theorem lvA_get (f : Nat → Nat) {i : Nat} (h : i < 5) : (lvA f)[i]? = some (.int .i64 (f i)) := by
  rcases (show i = 0 ∨ i = 1 ∨ i = 2 ∨ i = 3 ∨ i = 4 by omega) with rfl | rfl | rfl | rfl | rfl <;> rfl
theorem lvA_set (f : Nat → Nat) {i : Nat} (h : i < 5) (v : Nat) : (lvA f).setIfInBounds i (.int .i64 v) = lvA (fun j => if j = i then v else f j) := by
  rcases (show i = 0 ∨ i = 1 ∨ i = 2 ∨ i = 3 ∨ i = 4 by omega) with rfl | rfl | rfl | rfl | rfl <;> rfl
noncomputable def leastOf (l : List Wire) : List Int × Int := if (flowChk l).2 ≠ 0 then ([], (flowChk l).2) else (lvls (rnd l 5), 0)

set_option maxHeartbeats 4000000 in
set_option maxRecDepth 100000 in
theorem least_lv (A : Option Addr) (c : Nat) (l : List Wire) (w : World) (hs : Sl w A 4 l.length (l.flatMap Wire.cells)) (hsw : SlW A c l.length) :
    Calls Tryd.prog 32 #[.slice A l.length c] w (TellL w (leastOf l)) := by
  have HS := hid hs
  have HW := hid hsw
  clear hs hsw
  by_cases he : (flowChk l).2 = 0
  · obtain ⟨h12, hall, hin⟩ := flowChk_ok he
    have HE := hid he
    have HIN := hid hin
    clear hall hin
    rw [show leastOf l = (lvls (rnd l 5), 0) by simp [leastOf, he]]
    clear he
    have hi75 : (Tryd.prog.info? 119).map (·.size) = some (waysV l).size := by rw [waysV, bitsA_size]; kernel_rfl
    have hone : (waysV l).all (·.oneCell') = true := bitsA_one _
    have HONE := hid hone
    have HI75 := hid hi75
    clear hone hi75
    have hmk : ∀ w, (Instr.makeSlice 37 (.int .i64 5) (.int .i64 5)).run Tryd.prog w = .ok (.slice (some ⟨w.heap.size, 0, none⟩) 5 5) (w.alloc (.cells #[.int .i64 0, .int .i64 0, .int .i64 0, .int .i64 0, .int .i64 0] 3)) := fun _ => by kernel_rfl
    go_enter Tryd.func32, Tryd.ntmps32
    go_wp2_with (first
      | (go_at_call 65; refine (flow_right A c l _ HS.out HW.out).mono ?_; rw [HE.out]; rintro e w1 ⟨rfl, hb1⟩; rw [errV_zero]; have HB1 := hid hb1; clear hb1)
      | (go_at_call 54; refine (ways_any A c l _ (HS.out.new HB1.out) h12 HIN.out).mono ?_; rintro e w3 ⟨rfl, hb3⟩; have HB3 := hid (HB1.out.trans (hb3.mono HB1.out.size)); clear hb3)
      | (refine wpList_store_rowK rfl 119 _ _ rfl w3.heap.size (waysV l) rfl rfl _ _ (heap_alloc_new w3 _) HI75.out (by rw [waysV, bitsA_size]; rfl) HONE.out ?_
         intro w4 hr4 hk4 hz4
         have hb4 : Below w.heap.size w w4 := (HB3.out.alloc HB3.out.size _).trans (hk4.below (by have := HB3.out.size; simp; omega) (fun i h => by have := HB3.out.size; omega))
         have HR4 := hid hr4
         have HB4 := hid hb4
         have hz4' : w4.heap.size = w3.heap.size + 1 := by rw [hz4]; simp
         have HZ4 := hid hz4'
         clear hr4 hb4 hk4 hz4 hz4'))
    have hbs := HB4.out.size
    have hb3s := HB3.out.size
    have hzz := HZ4.out
    have hrow0 : (w4.alloc (Obj.cells #[.int .i64 0, .int .i64 0, .int .i64 0, .int .i64 0, .int .i64 0] 3)).heap[w3.heap.size]? = some (.cells (waysV l) 119 (0, 0)) := by rw [hp_alloc, if_neg (by omega)]; exact HR4.out
    have hout0 : (w4.alloc (Obj.cells #[.int .i64 0, .int .i64 0, .int .i64 0, .int .i64 0, .int .i64 0] 3)).heap[w4.heap.size]? = some (.cells (lvA (rnd l 0)) 3 (0, 0)) := by rw [hp_alloc, if_pos rfl]; rfl
    have HROW0 := hid hrow0
    have HOUT0 := hid hout0
    have HBEL0 := hid (HB4.out.alloc hbs (Obj.cells #[.int .i64 0, .int .i64 0, .int .i64 0, .int .i64 0, .int .i64 0] 3))
    have hne : w3.heap.size ≠ w4.heap.size := by omega
    have hbw : w.heap.size ≤ w3.heap.size := hb3s
    generalize w3.heap.size = bw at *
    generalize hbo : w4.heap.size = bo at *
    clear hrow0 hout0 hbo hzz hb3s HZ4 HR4 HB3
    go_loopw [8, 9, 18] (fun v8 v9 v18 wr => ∃ t : Nat, t ≤ 5 ∧ v18 = .int .i64 t ∧ wr.heap[bw]? = some (.cells (waysV l) 119 (0, 0)) ∧ wr.heap[bo]? = some (.cells (lvA (rnd l t)) 3 (0, 0)) ∧ Below w.heap.size w wr) (fun _ _ v18 _ => 5 - (intOf v18).toNat)
    case atStart => exact ⟨0, by omega, rfl, HROW0.out, HOUT0.out, HBEL0.out⟩
    case round =>
      obtain ⟨t, ht, rfl, hrow, hout, hbel⟩ := hrel
      have HROW := hid hrow
      have HOUT := hid hout
      have HBEL := hid hbel
      clear hrow hout hbel
      by_cases ht5 : t < 5
      · have hti : (t : Int) < 5 := by omega
        go_wp2_with fail
        go_loopw [8, 9, 22] (fun v8 v9 v22 wr => ∃ k : Nat, k ≤ l.length ∧ v22 = .int .i64 k ∧ wr.heap[bw]? = some (.cells (waysV l) 119 (0, 0)) ∧ wr.heap[bo]? = some (.cells (lvA (part l t k)) 3 (0, 0)) ∧ Below w.heap.size w wr) (fun _ _ v22 _ => l.length - (intOf v22).toNat)
        case atStart => exact ⟨0, by omega, rfl, HROW.out, HOUT.out, HBEL.out⟩
        case round =>
          obtain ⟨k, hk, rfl, hrow, hout, hbel⟩ := hrel
          have HROW := hid hrow
          have HOUT := hid hout
          have HBEL := hid hbel
          have hlto := blk_lt hout
          have hltw := blk_lt hrow
          clear hrow hout hbel
          by_cases hkl : k < l.length
          · obtain ⟨b, off, rfl, hlb, g0, g1, g2, g3⟩ := HS.out.wire HBEL.out hkl hkl
            have hget := List.getElem?_eq_getElem hkl
            have hin := HIN.out l[k] (List.getElem_mem hkl)
            have hbwr : b < wr.heap.size := cell_lt g0
            generalize l[k] = x at g0 g1 g2 g3 hget hin
            obtain ⟨f, u, kk, dd⟩ := x
            obtain ⟨⟨hf0, hf5⟩, hu0, hu5⟩ := hin
            simp only [] at g0 g1 g2 g3 hf0 hf5 hu0 hu5
            obtain ⟨f, rfl⟩ : ∃ n : Nat, f = n := ⟨f.toNat, by omega⟩
            obtain ⟨u, rfl⟩ : ∃ n : Nat, u = n := ⟨u.toNat, by omega⟩
            have hf5' : f < 5 := by omega
            have hu5' : u < 5 := by omega
            have hsucc := part_succ (t := t) hget
            have hbd := part_bound l t k
            have htl : t * l.length ≤ 5 * 12 := Nat.mul_le_mul ht h12
            have c1 := (blk_cell HOUT.out f).trans (lvA_get _ hf5')
            have c2 := (blk_cell HOUT.out u).trans (lvA_get _ hu5')
            have c3 := (blk_cell HROW.out (u * 5 + f)).trans (waysV_get l hu5' hf5')
            have z2 := blk_free HOUT.out u
            have hpf := hbd f
            have hpu := hbd u
            have hraise : ∀ n, (if reachB l u f = true then part l t k f else part l t k f + 1) = n → raise l (part l t k) ⟨f, u, kk, dd⟩ = fun j => if j = u then max (part l t k u) n else part l t k j := by
              intro n hn
              funext j
              simp only [raise, Int.toNat_natCast, wt]
              by_cases e : j = u
              · subst e; rw [if_pos rfl, if_pos rfl]; congr 1; rw [← hn]; split <;> simp_all
              · rw [if_neg e, if_neg e]
            generalize hF : part l t k = F at hsucc c1 c2 hpf hpu hraise HOUT
            have HSUCC := hid hsucc
            have HRAISE := hid hraise
            have hvu : F u ≤ 72 := by omega
            have hvf : F f ≤ 72 := by omega
            clear hsucc hraise hget hbd hpf hpu hF
            generalize hvf' : F f = vf at c1 hvf HRAISE
            generalize hvu' : F u = vu at c2 hvu HRAISE
            clear hvf' hvu'
            cases hr : reachB l u f with
            | true =>
              rw [hr] at c3 HRAISE
              have HRR : Hid (part l t (k + 1) = fun j => if j = u then max vu (vf) else F j) := by rw [HSUCC.out]; exact HRAISE.out (vf) (if_pos rfl)
              clear HRAISE hr
              go_wp2_with fail
              go_quiet (fail)
              go_wp2_with fail
              obtain ⟨wx, hwx⟩ : ∃ wx, wx = (wr.alloc (Obj.cells #[.int .i64 f, .int .i64 u, .int .i64 kk, .int .i64 dd] 114)).drewN nq := ⟨_, rfl⟩
              rw [← hwx]
              have x1 : wx.cell? ⟨wr.heap.size, 1, none⟩ = some (.int .i64 u) := by rw [hwx]; exact blk_cell (heap_alloc_new wr _) 1
              have x2 : wx.cell? ⟨bo, u, none⟩ = some (.int .i64 vu) := by rw [hwx]; exact (World.cell?_alloc_lt wr _ ⟨bo, u, none⟩ hlto).trans c2
              have x3 : wx.frozen? ⟨bo, u, none⟩ = false := by rw [hwx]; exact (World.frozen?_of_block (w := wr) (a := ⟨bo, u, none⟩) (blk_alloc hlto _)).trans z2
              have XK : Hid (∀ F, Keep F wr wx) := by rw [hwx]; exact fun F => ((Keep.refl _ wr).alloc _).drewN nq
              clear hwx c1 c2 c3 z2 g0 g1 g2 g3
              go_region
              all_goals
                go_wp2_with fail
                go_roundw
                case rel =>
                  have hK : ∀ v, Keep (fun i => i = bo) wr (wx.setCell ⟨bo, u, none⟩ v).drew := fun v => ((XK.out (fun i => i = bo)).setCell (.inl rfl) v).drew
                  refine ⟨k + 1, by omega, by go_num, ((hK _).block _ hltw hne).trans HROW.out, ?_, HBEL.out.trans ((hK _).below HBEL.out.size (fun i h => by omega))⟩
                  rw [HRR.out]
                  simp only [hp_drew, hp_set, if_true]
                  rw [(XK.out NoF).block _ hlto (fun h => h), HOUT.out]
                  simp only [Option.map_some, setObj]
                  rw [show (if vu < vf then (vf : Int) else (vu : Int)) = ((max vu (vf) : Nat) : Int) by split <;> omega, lvA_set _ hu5']
                case measure => simp [intOf]; omega
            | false =>
              rw [hr] at c3 HRAISE
              have HRR : Hid (part l t (k + 1) = fun j => if j = u then max vu (vf + 1) else F j) := by rw [HSUCC.out]; exact HRAISE.out (vf + 1) (if_neg (by simp))
              clear HRAISE hr
              go_wp2_with fail
              go_quiet (fail)
              go_wp2_with fail
              obtain ⟨wx, hwx⟩ : ∃ wx, wx = (wr.alloc (Obj.cells #[.int .i64 f, .int .i64 u, .int .i64 kk, .int .i64 dd] 114)).drewN nq := ⟨_, rfl⟩
              rw [← hwx]
              have x1 : wx.cell? ⟨wr.heap.size, 1, none⟩ = some (.int .i64 u) := by rw [hwx]; exact blk_cell (heap_alloc_new wr _) 1
              have x2 : wx.cell? ⟨bo, u, none⟩ = some (.int .i64 vu) := by rw [hwx]; exact (World.cell?_alloc_lt wr _ ⟨bo, u, none⟩ hlto).trans c2
              have x3 : wx.frozen? ⟨bo, u, none⟩ = false := by rw [hwx]; exact (World.frozen?_of_block (w := wr) (a := ⟨bo, u, none⟩) (blk_alloc hlto _)).trans z2
              have XK : Hid (∀ F, Keep F wr wx) := by rw [hwx]; exact fun F => ((Keep.refl _ wr).alloc _).drewN nq
              clear hwx c1 c2 c3 z2 g0 g1 g2 g3
              go_region
              all_goals
                go_wp2_with fail
                go_roundw
                case rel =>
                  have hK : ∀ v, Keep (fun i => i = bo) wr (wx.setCell ⟨bo, u, none⟩ v).drew := fun v => ((XK.out (fun i => i = bo)).setCell (.inl rfl) v).drew
                  refine ⟨k + 1, by omega, by go_num, ((hK _).block _ hltw hne).trans HROW.out, ?_, HBEL.out.trans ((hK _).below HBEL.out.size (fun i h => by omega))⟩
                  rw [HRR.out]
                  simp only [hp_drew, hp_set, if_true]
                  rw [(XK.out NoF).block _ hlto (fun h => h), HOUT.out]
                  simp only [Option.map_some, setObj]
                  rw [show (if (vu : Int) < (vf : Int) + 1 then (vf : Int) + 1 else (vu : Int)) = ((max vu (vf + 1) : Nat) : Int) by split <;> omega, lvA_set _ hu5']
                case measure => simp [intOf]; omega
          · obtain rfl : k = l.length := by omega
            go_wp2_with fail
            go_roundw
            case rel => exact ⟨t + 1, by omega, by go_num, HROW.out, by rw [← part_all]; exact HOUT.out, HBEL.out⟩
            case measure => simp [intOf]; omega
      · obtain rfl : t = 5 := by omega
        go_wp2_with fail
        go_ret2
        exact ⟨some ⟨bo, 0, none⟩, 5, rfl, ⟨rfl, .inr ⟨bo, 0, _, rfl, HOUT.out, by simp [lvls_len], by simp [maxLen], by rw [lvA_size]; omega, fun j u hu => by rw [Nat.zero_add]; simpa [lvA] using hu⟩⟩, fun k hk => by simp [InA] at hk; omega, HBEL.out⟩
  · rw [show leastOf l = ([], (flowChk l).2) by simp [leastOf, he]]
    have hv := errV_pos he
    have HV := hid hv
    clear he hv
    go_enter Tryd.func32, Tryd.ntmps32
    go_wp2_with (go_at_call 65; refine (flow_right A c l _ HS.out HW.out).mono ?_; rw [HV.out]; rintro e w1 ⟨rfl, hb1⟩)
    go_ret2
    exact ⟨none, 0, by rw [HV.out]; rfl, Row.nil _ _ _, fun k hk => by simp [InA] at hk, hb1⟩
end Go.Proofs.YtnmbomhlonifnaaDoor
