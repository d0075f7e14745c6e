/- The walk of framelaw4.SwayNone: it returns true at every input. -/
import Derived.Test.YtnmbomhlonifnaaDoorSwayAll
import Derived.Test.YtnmbomhlonifnaaDoorCounting
import Derived.Test.YtnmbomhlonifnaaDoorKernelCountsWalk
namespace Go.Proofs.YtnmbomhlonifnaaDoor
open Go.RowKit
set_option maxRecDepth 100000

theorem count_all {w : World} {B n c1 c2 : Nat} {A1 A2 : Option Addr} {rows : List Ro} (h5 : n ≤ 5) (hf : Forms w) (h : Counted w B n A1 c1 rows A2 c2) (c v ticks : Int) :
    Calls Tryd.prog 25 #[.agg #[.slice A1 n c1, .int .i64 n, .slice A2 n c2, .slice none 0 0], .int .i64 c, .int .i64 v, .int .i64 ticks] w (AllV w (countPl n) c v ticks) := by
  have hm := h.many
  have hl : (countSpans n).length = n := by simp [countSpans]
  have hpl := counted_pl h
  have hc := swayAll_any w (countPM n A1 c1 rows A2 c2) c v ticks hf (counted_plan h h5)
  rw [hpl] at hc
  simp only [countPM, hm, hl] at hc
  exact hc
theorem allRows_get {p : Pl} {c v : Int} {T n a b : Nat} (ha : a < n) (hb : b < p.code.length) : ∃ r, (allRows p c v T n)[a]? = some r ∧ r.length = p.code.length ∧ r[b]? = some (decide (0 ≤ sinceOf p a c v b T)) :=
  ⟨allRow p c v T a p.code.length, by simp [allRows, List.getElem?_range ha], allRow_len _ _ _ _ _ _, by simp [allRow, List.getElem?_range hb]⟩
set_option maxHeartbeats 2000000 in
theorem swayNone_walk {w : World} (hf : Forms w) (n c v t : Int) : Calls Tryd.prog 6 #[.int .i64 n, .int .i64 c, .int .i64 v, .int .i64 t] w fun e w' => e = .returned (.bool true) ∧ Below w.heap.size w w' := by
  by_cases hin : 1 ≤ n ∧ n ≤ 5 ∧ 0 ≤ c ∧ c ≤ 5 ∧ 0 ≤ v ∧ v ≤ 999 ∧ 0 ≤ t ∧ t ≤ 60
  · obtain ⟨h1, h2, h3, h4, h5, h6, h7, h8⟩ := hin
    obtain ⟨N, rfl⟩ : ∃ N : Nat, n = N := ⟨n.toNat, by omega⟩
    obtain ⟨C, rfl⟩ : ∃ C : Nat, c = C := ⟨c.toNat, by omega⟩
    obtain ⟨T, rfl⟩ : ∃ T : Nat, t = T := ⟨t.toNat, by omega⟩
    have HF := hid hf
    have HL : Hid ((countPl N).code.length = N) := by show (List.replicate N countOps).length = N; simp
    have HE : Hid (swayE (countPl N) 0 C v 0 T = 0) := swayE_of (countPl_ok N (by omega) (by omega)) (by unfold pokeOk; rw [HL.out]; exact decide_eq_true (by omega)) ⟨by omega, by rw [HL.out]; omega, by omega, by omega⟩
    have HV : Hid (∀ a b : Nat, a < N → b < N → decide (0 ≤ sinceOf (countPl N) a C v b T) = (decide (a = b) && !decide (v = 0))) := fun a b ha hb => since_count (by omega) (by omega) ha hb (by omega) ⟨by omega, by omega⟩ T
    clear hf
    go_enter Tryd.func6, Tryd.ntmps6
    go_wp2_with fail
    refine (counting_any N (by omega) w).mono ?_
    rintro e w1 ⟨A1, c1, rows, A2, c2, rfl, hcnt, hb1⟩
    have hall := count_all (by omega) (HF.out.new hb1) hcnt C v T
    have HB1 := hid hb1
    have HALL := hid hall
    clear hcnt hb1 hall
    go_wp2_with fail
    refine HALL.out.mono ?_
    rintro e w2 (⟨h, _⟩ | ⟨_, A, nn, k, hs, rfl, hnn, hfl, hmap⟩)
    · exact absurd HE.out h
    rw [HL.out] at hnn
    subst hnn
    rw [HL.out, Int.toNat_natCast] at hmap
    have HFL := hid hfl
    have HMAP := hid hmap
    have HROW : Hid (∀ a : Nat, a < nn → ∃ g : Bm, hs[a]? = some g ∧ g.l.length = nn ∧ ∀ b : Nat, b < nn → g.l[b]? = some (decide (a = b) && !decide (v = 0))) := fun a ha => by
      have hlen : hs.length = nn := by have := congrArg List.length hmap; simpa [allRows] using this
      have hg := List.getElem?_eq_getElem (show a < hs.length by omega)
      have h2 : (hs.map Bm.l)[a]? = some (hs[a]'(by omega)).l := by rw [List.getElem?_map, hg]; rfl
      rw [hmap] at h2
      refine ⟨_, hg, ?_, fun b hb => ?_⟩
      · obtain ⟨r, e1, e2, _⟩ := allRows_get (p := countPl nn) (c := C) (v := v) (T := T) (n := nn) (a := a) (b := a) ha (by rw [HL.out]; exact ha)
        rw [h2] at e1; cases e1
        rw [e2, HL.out]
      · obtain ⟨r, e1, _, e3⟩ := allRows_get (p := countPl nn) (c := C) (v := v) (T := T) (n := nn) (a := a) (b := b) ha (by rw [HL.out]; exact hb)
        rw [h2] at e1; cases e1
        rw [e3, HV.out a b ha hb]
    clear hfl hmap
    go_wp2_with fail
    go_loopw [11] (fun v11 wr => ∃ a : Nat, a ≤ nn ∧ v11 = .int .i64 a ∧ wr = w2) (fun v11 _ => nn - (intOf v11).toNat)
    case atStart => exact ⟨0, by omega, rfl, rfl⟩
    case round =>
      obtain ⟨wo, rfl⟩ : ∃ wo : World, wo = wr := ⟨_, rfl⟩
      obtain ⟨a, han, rfl, rfl⟩ := hrel
      by_cases hal : a < nn
      · obtain ⟨g, hg, hgl, hgb⟩ := HROW.out a hal
        obtain ⟨ab, ao, rfl, hab, hnc, hcm, _, z0⟩ := HFL.out.get hg
        rw [hgl] at z0
        have HGB := hid hgb
        have HGG := hid hg
        have HGL := hid hgl
        unfold maxLen at hcm
        clear hgb hg hgl
        go_wp2_with fail
        go_loopw [12] (fun v12 wr => ∃ b : Nat, b ≤ nn ∧ v12 = .int .i64 b ∧ wr = wo) (fun v12 _ => nn - (intOf v12).toNat)
        case atStart => exact ⟨0, by omega, rfl, rfl⟩
        case round =>
          obtain ⟨b, hbn, rfl, rfl⟩ := hrel
          by_cases hbl : b < nn
          · obtain ⟨rb, ro, hrA, hrb, hrl, hrc, hrm, z1⟩ := HFL.out.flag HGG.out (HGB.out b hbl)
            rw [hrA] at z0
            rw [HGL.out] at hrl hrc
            unfold maxLen at hrm
            have HB2 := hid (HB1.out.trans (HFL.out.grow.below.mono HB1.out.size))
            by_cases hab' : a = b
            · subst hab'
              have e1 : decide (a = a) = true := by simp
              rw [e1, Bool.true_and] at z1
              by_cases hv : v = 0
              · subst hv
                go_wp2_with fail
                go_roundw
                case rel => exact ⟨a + 1, by omega, by go_num, by first | rfl | trivial⟩
                case measure => simp [intOf]; omega
              · have e2 : decide (v = 0) = false := decide_eq_false hv
                rw [e2, Bool.not_false] at z1
                have e3 : (v != 0) = true := by simpa using hv
                go_wp2_with fail
                go_roundw
                case rel => exact ⟨a + 1, by omega, by go_num, by first | rfl | trivial⟩
                case measure => simp [intOf]; omega
            · have e1 : decide (a = b) = false := decide_eq_false hab'
              rw [e1, Bool.false_and] at z1
              have e3 : ((a : Int) == (b : Int)) = false := by simp; omega
              go_wp2_with fail
              go_roundw
              case rel => exact ⟨b + 1, by omega, by go_num, by first | rfl | trivial⟩
              case measure => simp [intOf]; omega
          · obtain rfl : b = nn := by omega
            go_wp2_with fail
            go_roundw
            case rel => exact ⟨a + 1, by omega, by go_num, by first | rfl | trivial⟩
            case measure => simp [intOf]; omega
      · obtain rfl : a = nn := by omega
        go_wp2_with fail
        (first | go_ret | skip)
        exact ⟨rfl, HB1.out.trans (HFL.out.grow.below.mono HB1.out.size)⟩
  · have hb : n < 1 ∨ (1 ≤ n ∧ 5 < n) ∨ (1 ≤ n ∧ n ≤ 5 ∧ c < 0) ∨ (1 ≤ n ∧ n ≤ 5 ∧ 0 ≤ c ∧ 5 < c) ∨ (1 ≤ n ∧ n ≤ 5 ∧ 0 ≤ c ∧ c ≤ 5 ∧ v < 0) ∨ (1 ≤ n ∧ n ≤ 5 ∧ 0 ≤ c ∧ c ≤ 5 ∧ 0 ≤ v ∧ 999 < v) ∨
      (1 ≤ n ∧ n ≤ 5 ∧ 0 ≤ c ∧ c ≤ 5 ∧ 0 ≤ v ∧ v ≤ 999 ∧ t < 0) ∨ (1 ≤ n ∧ n ≤ 5 ∧ 0 ≤ c ∧ c ≤ 5 ∧ 0 ≤ v ∧ v ≤ 999 ∧ 0 ≤ t ∧ 60 < t) := by omega
    clear hin hf
    rcases hb with h | ⟨h, h1⟩ | ⟨h, h1, h2⟩ | ⟨h, h1, h2, h3⟩ | ⟨h, h1, h2, h3, h4⟩ | ⟨h, h1, h2, h3, h4, h5⟩ | ⟨h, h1, h2, h3, h4, h5, h6⟩ | ⟨h, h1, h2, h3, h4, h5, h6, h7⟩
    all_goals
      go_enter Tryd.func6, Tryd.ntmps6
      go_wp2_with fail
      go_ret
      exact ⟨rfl, Below.refl _ _⟩
end Go.Proofs.YtnmbomhlonifnaaDoor
