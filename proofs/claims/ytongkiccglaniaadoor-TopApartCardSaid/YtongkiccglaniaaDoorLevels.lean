/- Package flow: the contract of Levels, for every list of wires and of levels. -/
import Derived.Test.YtongkiccglaniaaDoorFlow
namespace Go.Proofs.YtongkiccglaniaaDoor
open Go.RowKit
set_option maxRecDepth 100000

def leadsDown (lv : List Int) (x : Wire) : Bool := decide (lv.getD x.to.toNat 0 < lv.getD x.fr.toNat 0)
def levelsOf (l : List Wire) (lv : List Int) : Int :=
  if (flowChk l).2 ≠ 0 then (flowChk l).2 else if lv.length ≠ 5 then 3 else if l.any (leadsDown lv) then 8 else 0

theorem Sl.int {w : World} {A : Option Addr} {n : Nat} {l : List Int} (h : Sl w A 1 n (l.flatMap fun a => [.int .i64 a])) {wr : World} (hb : Below w.heap.size w wr) (hn : 0 < n) :
    ∃ b off, A = some ⟨b, off, none⟩ ∧ b < w.heap.size ∧ ∀ i, i < l.length → wr.cell? ⟨b, off + i, none⟩ = some (.int .i64 (l.getD i 0)) := by
  obtain ⟨b, off, rfl, hlt, hx⟩ := h.2 hn
  refine ⟨b, off, rfl, hlt, fun i hi => ?_⟩
  rw [hb.cell (p := ⟨b, off + i, none⟩) hlt]
  exact hx i _ (by rw [ints_flat]; simp [hi, List.getD])

set_option maxHeartbeats 1000000 in
theorem levels_any (A A2 : Option Addr) (c c2 n : Nat) (l : List Wire) (lv : List Int) (w : World) (hs : Sl w A 4 l.length (l.flatMap Wire.cells)) (hsw : SlW A c l.length)
    (hn : lv.length = n) (hs2 : Sl w A2 1 n (lv.flatMap fun a => [.int .i64 a])) (hsw2 : SlW A2 c2 n) :
    Calls Tryd.prog 50 #[.slice A l.length c, .slice A2 n c2] w fun e w' => e = .returned (errV (levelsOf l lv)) ∧ Below w.heap.size w w' := by
  have HS := hid hs
  have HW := hid hsw
  have HS2 := hid hs2
  have HN := hid hn
  have h63 : n ≤ 9223372036854775807 := by have := hsw2.1; have := hsw2.2.1; unfold maxLen at this; omega
  clear hs hsw hs2 hsw2 hn
  by_cases he : (flowChk l).2 = 0
  · obtain ⟨h12, hall, hin⟩ := flowChk_ok he
    have HE := hid he
    have HIN := hid hin
    clear hall hin
    by_cases h5 : n = 5
    · subst h5
      obtain ⟨q, hq⟩ : ∃ q, q = l.any (leadsDown lv) := ⟨_, rfl⟩
      have hlv : levelsOf l lv = if q then 8 else 0 := by simp [levelsOf, he, HN.out, hq]
      rw [hlv]
      have HQ := hid hq
      clear he hq hlv
      go_enter Tryd.func50, Tryd.ntmps50
      go_wp2_with (go_at_call 87; refine (flow_right A c l _ HS.out HW.out).mono ?_; rw [HE.out]; rintro e w1 ⟨rfl, hb1⟩; rw [errV_zero]; have HB1 := hid hb1; clear hb1)
      go_loopw [7, 19] (fun v7 v19 wr => ∃ k : Nat, k ≤ l.length ∧ v19 = .int .i64 k ∧ (∀ j x, j < k → l[j]? = some x → leadsDown lv x = false) ∧ Below w.heap.size w wr) (fun _ v19 _ => l.length - (intOf v19).toNat)
      case atStart => exact ⟨0, by omega, rfl, fun j x hj => absurd hj (by omega), HB1.out⟩
      case round =>
        obtain ⟨k, hk, rfl, hno, hb⟩ := hrel
        have HNO := hid hno
        have HB := hid hb
        clear hno hb
        by_cases hkl : k < l.length
        · obtain ⟨b, off, rfl, hlb, g0, g1, g2, g3⟩ := HS.out.wire HB.out hkl hkl
          obtain ⟨lb, lo, rfl, hlb2, hcell⟩ := HS2.out.int HB.out (by omega)
          have hget := List.getElem?_eq_getElem hkl
          have hin := HIN.out l[k] (List.getElem_mem hkl)
          have hbw : b < wr.heap.size := cell_lt g0
          generalize l[k] = x at g0 g1 g2 g3 hget hin
          obtain ⟨f, t, kk, dd⟩ := x
          obtain ⟨⟨hf0, hf5⟩, ht0, ht5⟩ := hin
          simp only [] at g0 g1 g2 g3 hf0 hf5 ht0 ht5
          obtain ⟨t, rfl⟩ : ∃ n : Nat, t = n := ⟨t.toNat, by omega⟩
          obtain ⟨f, rfl⟩ : ∃ n : Nat, f = n := ⟨f.toNat, by omega⟩
          have q1 := hcell f (by rw [HN.out]; omega)
          have q2 := hcell t (by rw [HN.out]; omega)
          have hlbw : lb < wr.heap.size := cell_lt q1
          have HG := hid hget
          have hld : leadsDown lv ⟨f, t, kk, dd⟩ = decide (lv.getD t 0 < lv.getD f 0) := rfl
          have HLD := hid hld
          clear hcell hget hld
          generalize lv.getD f 0 = vf at q1 HLD
          generalize lv.getD t 0 = vt at q2 HLD
          by_cases hd : vt < vf
          · have hany : q = true := by rw [HQ.out]; exact List.any_eq_true.2 ⟨_, List.mem_of_getElem? HG.out, by rw [HLD.out]; simpa using hd⟩
            subst hany
            go_wp2_with fail
            go_quiet (fail)
            go_wp2_with fail
            go_ret
            exact ⟨rfl, (HB.out.alloc HB.out.size _).trans ⟨rfl, rfl, rfl, Nat.le_refl _, fun _ _ => rfl⟩⟩
          · go_wp2_with fail
            go_quiet (fail)
            go_wp2_with fail
            go_roundw
            case rel =>
              refine ⟨k + 1, by omega, by go_num, fun j y hj hy => ?_, (HB.out.alloc HB.out.size _).trans ⟨rfl, rfl, rfl, Nat.le_refl _, fun _ _ => rfl⟩⟩
              by_cases e : j = k
              · subst e; rw [HG.out] at hy; cases hy; rw [HLD.out]; simpa using hd
              · exact HNO.out j y (by omega) hy
            case measure => simp [intOf]; omega
        · obtain rfl : k = l.length := by omega
          have hany : q = false := by
            rw [HQ.out, List.any_eq_false]
            intro x hx
            obtain ⟨j, hj, rfl⟩ := List.getElem_of_mem hx
            simp [HNO.out j _ hj (List.getElem?_eq_getElem hj)]
          subst hany
          go_wp2_with fail
          go_ret
          exact ⟨rfl, HB.out⟩
    · rw [show levelsOf l lv = 3 by simp [levelsOf, he, HN.out, h5]]
      have hb5 : ((n : Int) != 5) = true := by simp; omega
      clear he h5
      go_enter Tryd.func50, Tryd.ntmps50
      go_wp2_with (go_at_call 87; refine (flow_right A c l _ HS.out HW.out).mono ?_; rw [HE.out]; rintro e w1 ⟨rfl, hb1⟩; rw [errV_zero])
      go_ret
      exact ⟨rfl, hb1⟩
  · rw [show levelsOf l lv = (flowChk l).2 by simp [levelsOf, he]]
    have hv := errV_pos he
    have HV := hid hv
    clear he hv
    go_enter Tryd.func50, Tryd.ntmps50
    go_wp2_with (go_at_call 87; refine (flow_right A c l _ HS.out HW.out).mono ?_; rw [HV.out]; rintro e w1 ⟨rfl, hb1⟩)
    go_ret
    exact ⟨by rw [HV.out]; rfl, hb1⟩
end Go.Proofs.YtongkiccglaniaaDoor
