/- Package framesame: Flags says that rows of flags that are the same are the same. -/
import Derived.Test.YtnmbomhlonifnaaDoorSwayAll
import Derived.BigQuiet
namespace Go.Proofs.YtnmbomhlonifnaaDoor
open Go.RowKit
set_option maxRecDepth 100000

set_option maxHeartbeats 4000000 in
theorem flags_same {v1 v2 w : World} {A B : Option Addr} {n k1 k2 : Nat} {hs gs : List Bm} (h1 : FlagsAt v1 w A n k1 hs) (h2 : FlagsAt v2 w B n k2 gs) (hn : hs.length = n) (he : hs.map Bm.l = gs.map Bm.l) :
    Calls Tryd.prog 30 #[.slice A n k1, .slice B n k2] w fun e w' => e = .returned (.bool true) ∧ Below w.heap.size w w' := by
  have H1 := hid h1
  have H2 := hid h2
  have HROW : Hid (∀ i : Nat, i < n → ∃ (g1 g2 : Bm) (m : Nat), hs[i]? = some g1 ∧ gs[i]? = some g2 ∧ g1.l.length = m ∧ g2.l.length = m ∧ m ≤ 5 ∧ ∀ j : Nat, j < m → ∃ f : Bool, g1.l[j]? = some f ∧ g2.l[j]? = some f) := fun i hi => by
    have hl : gs.length = n := by have := congrArg List.length he; simp at this; omega
    have e1 := List.getElem?_eq_getElem (show i < hs.length by omega)
    have e2 := List.getElem?_eq_getElem (show i < gs.length by omega)
    have e3 : (hs[i]'(by omega)).l = (gs[i]'(by omega)).l := by
      have := congrArg (fun x => x[i]?) he
      simp only [List.getElem?_map, e1, e2, Option.map_some] at this
      exact Option.some.inj this
    have hm := (h1.each _ (List.mem_of_getElem? e1)).2.1
    refine ⟨_, _, _, e1, e2, rfl, by rw [e3], hm, fun j hj => ⟨_, List.getElem?_eq_getElem hj, ?_⟩⟩
    rw [← e3]; exact List.getElem?_eq_getElem hj
  clear h1 h2 he
  go_enter Tryd.func30, Tryd.ntmps30
  go_wp2_with fail
  go_loopw [5] (fun v5 wr => ∃ i : Nat, i ≤ n ∧ v5 = .int .i64 i ∧ Below w.heap.size w wr) (fun v5 _ => n - (intOf v5).toNat)
  case atStart => exact ⟨0, by omega, rfl, Below.refl _ _⟩
  case round =>
    obtain ⟨wo, rfl⟩ : ∃ wo : World, wo = wr := ⟨_, rfl⟩
    obtain ⟨i, hil, rfl, hbo⟩ := hrel
    have HBO := hid hbo
    clear hbo
    by_cases hin : i < n
    · obtain ⟨g1, g2, m, e1, e2, l1, l2, hm5, hget⟩ := HROW.out i hin
      obtain ⟨ab, ao, rfl, hab, hac, ham, _, z1⟩ := (H1.out.new HBO.out).get e1
      obtain ⟨bb, bo, rfl, hbb, hbc, hbm, _, z2⟩ := (H2.out.new HBO.out).get e2
      rw [l1] at z1
      rw [l2] at z2
      have hini : (i : Int) < (n : Int) := by omega
      unfold maxLen at ham hbm
      have HE1 := hid e1
      have HE2 := hid e2
      have HL1 := hid l1
      have HL2 := hid l2
      have HGET := hid hget
      have HZ : Hid (∀ w', Below wo.heap.size wo w' → w'.cell? ⟨ab, ao + i, none⟩ = some (.slice g1.A m g1.c) ∧ w'.cell? ⟨bb, bo + i, none⟩ = some (.slice g2.A m g2.c)) := fun w' hb => ⟨(hb.cell (p := ⟨ab, ao + i, none⟩) (cell_lt z1)).trans z1, (hb.cell (p := ⟨bb, bo + i, none⟩) (cell_lt z2)).trans z2⟩
      clear e1 e2 l1 l2 hget
      go_upto_region 6 with fail
      go_quiet (fail)
      obtain ⟨wq, hwq⟩ : ∃ wq, wq = wo.drewN nq := ⟨_, rfl⟩
      rw [← hwq]
      have HBQ : Hid (Below wo.heap.size wo wq) := by rw [hwq]; exact below_drewN (Below.refl _ _) _
      clear hwq z1 z2
      go_wp2_with fail
      go_loopw [6] (fun v6 wr => ∃ j : Nat, j ≤ m ∧ v6 = .int .i64 j ∧ Below wo.heap.size wo wr) (fun v6 _ => m - (intOf v6).toNat)
      case atStart => exact ⟨0, by omega, rfl, HBQ.out⟩
      case round =>
        obtain ⟨wi, rfl⟩ : ∃ wi : World, wi = wr := ⟨_, rfl⟩
        obtain ⟨j, hjl, rfl, hbi⟩ := hrel
        have HBI := hid hbi
        have HBW := hid (HBO.out.trans (hbi.mono HBO.out.size))
        obtain ⟨z1, z2⟩ := HZ.out _ hbi
        have hlz1 := cell_lt z1
        have hlz2 := cell_lt z2
        clear hbi HBQ
        by_cases hjm : j < m
        · obtain ⟨f, f1, f2⟩ := HGET.out j hjm
          obtain ⟨rb, ro, hrA, hrb, hrl, hrc, hrm, y1⟩ := (H1.out.new HBW.out).flag HE1.out f1
          obtain ⟨qb, qo, hqA, hqb, hql, hqc, hqm, y2⟩ := (H2.out.new HBW.out).flag HE2.out f2
          rw [hrA] at z1
          rw [hqA] at z2
          rw [HL1.out] at hrl hrc
          rw [HL2.out] at hql hqc
          unfold maxLen at hrm hqm
          have hjmi : (j : Int) < (m : Int) := by omega
          clear hrA hqA f1 f2
          go_upto_region 11 with fail
          go_quiet (fail)
          go_wp2_with fail
          go_roundw
          case rel => exact ⟨j + 1, by omega, by go_num, below_drewN HBI.out _⟩
          case measure => simp [intOf]; omega
        · obtain rfl : j = m := by omega
          go_wp2_with fail
          go_roundw
          case rel => exact ⟨i + 1, by omega, by go_num, HBW.out⟩
          case measure => simp [intOf]; omega
    · obtain rfl : i = n := by omega
      go_wp2_with fail
      go_ret
      exact ⟨rfl, HBO.out⟩
end Go.Proofs.YtnmbomhlonifnaaDoor
