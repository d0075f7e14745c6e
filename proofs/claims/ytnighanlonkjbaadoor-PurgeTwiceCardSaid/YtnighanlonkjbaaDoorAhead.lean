/- Package flow: the contract of Ahead, for every list of wires. -/
import Derived.Test.YtnighanlonkjbaaDoorWaysU
namespace Go.Proofs.YtnighanlonkjbaaDoor
open Go.RowKit
set_option maxRecDepth 100000

noncomputable def aheadTo (l : List Wire) (b k : Nat) : List Int := ((List.range k).filter fun a => reachB l a b).map fun (a : Nat) => (a : Int)
theorem aheadTo_succ (l : List Wire) (b k : Nat) : aheadTo l b (k + 1) = aheadTo l b k ++ (if reachB l k b then [(k : Int)] else []) := by
  unfold aheadTo
  rw [List.range_succ, List.filter_append, List.map_append]
  congr 1
  cases h : reachB l k b <;> simp [h]
theorem aheadTo_le (l : List Wire) (b k : Nat) : (aheadTo l b k).length ≤ k := by
  unfold aheadTo
  rw [List.length_map]
  exact Nat.le_trans (List.length_filter_le _ _) (by simp)
noncomputable def aheadOf (l : List Wire) (b : Int) : List Int × Int :=
  if (flowChk l).2 ≠ 0 then ([], (flowChk l).2) else if roomB b = false then ([], 1) else (aheadTo l b.toNat 5, 0)
def TellL (w : World) (r : List Int × Int) (e : Ending) (w' : World) : Prop :=
  ∃ A cap, e = .returned (.tuple #[.slice A r.1.length cap, errV r.2]) ∧ Row w' 3 1 A r.1.length cap (ints r.1) ∧ (∀ k, InA A k → w.heap.size ≤ k) ∧ Below w.heap.size w w'

theorem ways_row5 (l : List Wire) (a : Nat) (ha : a < 5) (w : World) : (Instr.index 144 (.agg (waysV l)) (.int .i64 a)).run Tryd.prog w = .ok (.agg #[.bool (reachB l a 0), .bool (reachB l a 1), .bool (reachB l a 2), .bool (reachB l a 3), .bool (reachB l a 4)]) w := by
  rcases (show a = 0 ∨ a = 1 ∨ a = 2 ∨ a = 3 ∨ a = 4 by omega) with rfl | rfl | rfl | rfl | rfl <;> kernel_rfl
theorem row5_get (l : List Wire) (a b : Nat) (hb : b < 5) : (#[Value.bool (reachB l a 0), .bool (reachB l a 1), .bool (reachB l a 2), .bool (reachB l a 3), .bool (reachB l a 4)] : Array Value)[b]? = some (.bool (reachB l a b)) := by
  rcases (show b = 0 ∨ b = 1 ∨ b = 2 ∨ b = 3 ∨ b = 4 by omega) with rfl | rfl | rfl | rfl | rfl <;> rfl
theorem row5_list (l : List Wire) (a b : Nat) (hb : b < 5) : ([Value.bool (reachB l a 0), .bool (reachB l a 1), .bool (reachB l a 2), .bool (reachB l a 3), .bool (reachB l a 4)] : List Value)[b]'hb = .bool (reachB l a b) := by
  rcases (show b = 0 ∨ b = 1 ∨ b = 2 ∨ b = 3 ∨ b = 4 by omega) with rfl | rfl | rfl | rfl | rfl <;> rfl

set_option maxHeartbeats 4000000 in
theorem ahead_any (b : Int) (A : Option Addr) (c : Nat) (l : List Wire) (w : World) (hs : Sl w A 4 l.length (l.flatMap Wire.cells)) (hsw : SlW A c l.length) :
    Calls Tryd.prog 52 #[.slice A l.length c, .int .i64 b] w (TellL w (aheadOf l b)) := by
  have HS := hid hs
  have HW := hid hsw
  clear hs hsw
  by_cases he : (flowChk l).2 = 0
  · obtain ⟨h12, hall, hin⟩ := flowChk_ok he
    have HE := hid he
    have HIN := hid hin
    clear hall hin
    cases hb : roomB b with
    | false =>
      rw [show aheadOf l b = ([], 1) by simp [aheadOf, he, hb]]
      clear he
      go_enter Tryd.func52, Tryd.ntmps52
      go_wp2_with (first
        | (go_at_call 65; refine (flow_right A c l _ HS.out HW.out).mono ?_; rw [HE.out]; rintro e w1 ⟨rfl, hb1⟩; rw [errV_zero])
        | (go_at_call 61; refine (room_any _ _).mono ?_; rintro e w2 ⟨rfl, rfl⟩))
      go_ret2
      exact ⟨none, 0, rfl, Row.nil _ _ _, fun k hk => by simp [InA] at hk, hb1⟩
    | true =>
      obtain ⟨b0, b5⟩ := roomB_true.1 hb
      obtain ⟨j, rfl⟩ : ∃ n : Nat, b = n := ⟨b.toNat, by omega⟩
      have j5 : j < 5 := by omega
      rw [show aheadOf l j = (aheadTo l j 5, 0) by simp [aheadOf, he, hb]]
      obtain ⟨i0, hi0, hz0, hz1, hz2⟩ := info_parts Tryd.infoInt
      clear he
      go_enter Tryd.func52, Tryd.ntmps52
      go_wp2_with (first
        | (go_at_call 65; refine (flow_right A c l _ HS.out HW.out).mono ?_; rw [HE.out]; rintro e w1 ⟨rfl, hb1⟩; rw [errV_zero]; have HB1 := hid hb1; clear hb1)
        | (go_at_call 61; refine (room_any _ _).mono ?_; rintro e w2 ⟨rfl, rfl⟩)
        | (go_at_call 79; refine (ways_any A c l _ (HS.out.new HB1.out) h12 HIN.out).mono ?_; rintro e w3 ⟨rfl, hb3⟩; have HB3 := hid hb3; clear hb3))
      go_loopw [7, 8, 9, 21] (fun v7 v8 v9 v21 wr => ∃ (k : Nat) (A2 : Option Addr) (n cap : Nat), k ≤ 5 ∧ v21 = .int .i64 k ∧ v7 = .slice A2 n cap ∧ (aheadTo l j k).length = n ∧ Row wr 3 1 A2 n cap (ints (aheadTo l j k)) ∧ (∀ i, InA A2 i → w.heap.size ≤ i) ∧ Below w.heap.size w wr) (fun _ _ _ v21 _ => 5 - (intOf v21).toNat)
      case atStart => exact ⟨0, none, 0, 0, by omega, rfl, rfl, rfl, Row.nil _ _ _, fun k hk => by simp [InA] at hk, HB1.out.trans (HB3.out.mono HB1.out.size)⟩
      case round =>
        obtain ⟨k, A2, n, cap, hk, rfl, rfl, hn, hrow, hnew, hbel⟩ := hrel
        have HN := hid hn
        have HROW := hid hrow
        have HNEW := hid hnew
        have HBEL := hid hbel
        have hn5 : n ≤ 5 := by have := aheadTo_le l j k; omega
        clear hn hrow hnew hbel
        by_cases hlt : k < 5
        · have hlti : (k : Int) < 5 := by omega
          have r1 := ways_row5 l k hlt
          have r2 := row5_get l k j j5
          have r3 := row5_list l k j j5
          have hsuc := aheadTo_succ l j k
          cases hr : reachB l k j with
          | true =>
            rw [hr] at r2 r3 hsuc
            have HSUC := hid hsuc
            clear hsuc hr
            go_wp2_with (first
              | (at_builtin
                 refine wpList_append_row _ rfl (.tmp 28) (.tmp 30) 45 rfl 3 i0 (.int .i64 0) 1 8 Tryd.underlying45 hi0 hz0 hz1 hz2 rfl (by decide) A2 n cap (ints (aheadTo l j k)) rfl (by exact ((HROW.out.alloc _).alloc _))
                   (some ⟨wr.heap.size + 1, 0, none⟩) 1 1 (ints [(k : Int)]) rfl (by exact ⟨rfl, fun _ => ⟨wr.heap.size + 1, 0, rfl, by simp, fun i v hv => by
                      match i, hv with
                      | 0, hv => (simp [ints] at hv; subst hv; rw [Nat.zero_add]; exact (blk_cell (by rw [hp_alloc, if_pos (by simp)]) 0).trans rfl)⟩⟩)
                   (ints_one _) (by unfold maxLen; omega) (by omega) ?_
                 intro A4 cap4 w4 hr4 hk4 hi4
                 have HR4 := hid hr4
                 have HK4 := hid hk4
                 have HI4 := hid hi4
                 clear hr4 hk4 hi4))
            go_roundw
            case rel =>
              have hs4 := HBEL.out.size
              refine ⟨k + 1, A4, n + 1, cap4, by omega, by go_num, rfl, by rw [HSUC.out]; simp; exact HN.out, ?_, ?_, ?_⟩
              · rw [HSUC.out, ints_app]; exact HR4.out
              · intro i hi
                rcases HI4.out i hi with h | h
                · exact HNEW.out i h
                · simp at h; omega
              · refine ((HBEL.out.alloc hs4 _).alloc (by simp; omega) _).trans (HK4.out.below (by simp; omega) (fun i h => HNEW.out i h))
            case measure => simp [intOf]; omega
          | false =>
            rw [hr] at r2 r3 hsuc
            have HSUC := hid hsuc
            clear hsuc hr
            go_wp2_with fail
            go_roundw
            case rel => exact ⟨k + 1, A2, n, cap, by omega, by go_num, rfl, by rw [HSUC.out]; simp; exact HN.out, by rw [HSUC.out]; simpa using HROW.out.alloc _, HNEW.out, HBEL.out.alloc HBEL.out.size _⟩
            case measure => simp [intOf]; omega
        · obtain rfl : k = 5 := by omega
          go_wp2_with fail
          go_ret2
          have hn := HN.out
          subst hn
          exact ⟨A2, cap, rfl, HROW.out, HNEW.out, HBEL.out⟩
  · rw [show aheadOf l b = ([], (flowChk l).2) by simp [aheadOf, he]]
    have hv := errV_pos he
    have HV := hid hv
    clear he hv
    go_enter Tryd.func52, Tryd.ntmps52
    go_wp2_with (go_at_call 65; refine (flow_right A c l _ HS.out HW.out).mono ?_; rw [HV.out]; rintro e w1 ⟨rfl, hb1⟩)
    go_ret2
    exact ⟨none, 0, by rw [HV.out]; rfl, Row.nil _ _ _, fun k hk => by simp [InA] at hk, hb1⟩
end Go.Proofs.YtnighanlonkjbaaDoor
