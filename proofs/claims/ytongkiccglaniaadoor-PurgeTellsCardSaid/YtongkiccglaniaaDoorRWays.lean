/- The reference of chapter 5: the contract of its Ways, for wires that are right. -/
import Derived.Test.YtongkiccglaniaaDoorWaysU
import Derived.Test.YtongkiccglaniaaDoorWarshallLaw
namespace Go.Proofs.YtongkiccglaniaaDoor
open Go.RowKit
set_option maxRecDepth 100000

theorem bitsA_zero0 : bitsA (fun _ => false) = bitsA (selfIn 0) := bitsA_congr fun i _ => by simp [selfIn]

set_option maxHeartbeats 4000000 in
theorem rways_any (A : Option Addr) (c : Nat) (l : List Wire) (w : World) (hs : Sl w A 4 l.length (l.flatMap Wire.cells)) (hl : l.length ≤ 12) (hr : InRooms l) :
    Calls Tryd.prog 94 #[.slice A l.length c] w (IsWays w l) := by
  have HS := hid hs
  have HR := hid hr
  clear hs hr
  go_enter Tryd.func94, Tryd.ntmps94
  go_wp2_with fail
  go_loopw [4] (fun v4 wr => ∃ a : Nat, a ≤ 5 ∧ v4 = .int .i64 a ∧ wr.heap[w.heap.size]? = some (.cells (bitsA fun _ => false) 161 (0, 0)) ∧ wr.heap[w.heap.size + 1]? = some (.cells (bitsA (selfIn a)) 161 (0, 0)) ∧ Below w.heap.size w wr) (fun v4 _ => 5 - (intOf v4).toNat)
  case atStart =>
    refine ⟨0, by omega, rfl, ?_, ?_, ((Below.refl _ _).alloc (Nat.le_refl _) _).alloc (by simp) _⟩
    · rw [hp_alloc, if_neg (by simp), hp_alloc, if_pos rfl]; rfl
    · rw [hp_alloc, if_pos (by simp), ← bitsA_zero0]; rfl
  case round =>
    obtain ⟨a, ha, rfl, hb0, hb1, hb⟩ := hrel
    have HB0 := hid hb0
    have HB1 := hid hb1
    have HB := hid hb
    have hlt1 := blk_lt hb1
    clear hb0 hb1 hb
    by_cases hlt : a < 5
    · have hlti : (a : Int) < 5 := by omega
      have k1 := (blk_cell HB1.out (a * 5 + a)).trans (bitsA_get _ (by omega))
      have f1 := blk_free HB1.out (a * 5 + a)
      go_wp2_with fail
      go_roundw
      case rel =>
        refine ⟨a + 1, by omega, by go_num, ?_, ?_, HB.out.setCell (by simp) _⟩
        · rw [hp_set, if_neg (by omega)]; exact HB0.out
        · rw [hp_set, if_pos rfl, HB1.out]
          simp only [Option.map_some, setObj]
          rw [bitsA_set _ (by omega), bitsA_congr (selfIn_next hlt)]
      case measure => simp [intOf]; omega
    · obtain rfl : a = 5 := by omega
      go_wp2_with fail
      go_loopw [5] (fun v5 wr => ∃ k : Nat, k ≤ l.length ∧ v5 = .int .i64 k ∧ wr.heap[w.heap.size]? = some (.cells (bitsA fun _ => false) 161 (0, 0)) ∧ wr.heap[w.heap.size + 1]? = some (.cells (bitsA (warIn l k)) 161 (0, 0)) ∧ Below w.heap.size w wr) (fun v5 _ => l.length - (intOf v5).toNat)
      case atStart => exact ⟨0, by omega, rfl, HB0.out, by rw [← bitsA_congr (selfIn_all l)]; exact HB1.out, HB.out⟩
      case round =>
        obtain ⟨k, hk, rfl, hb0, hb1, hb⟩ := hrel
        have HB0 := hid hb0
        have HB1 := hid hb1
        have HB := hid hb
        have hlt1 := blk_lt hb1
        clear hb0 hb1 hb
        by_cases hkl : k < l.length
        · obtain ⟨b, off, rfl, hlb, g0, g1, g2, g3⟩ := HS.out.wire HB.out hkl hkl
          have hget := List.getElem?_eq_getElem hkl
          have hin := HR.out l[k] (List.getElem_mem hkl)
          generalize l[k] = x at g0 g1 g2 g3 hget hin
          obtain ⟨f, t, kk, dd⟩ := x
          obtain ⟨⟨hf0, hf5⟩, ht0, ht5⟩ := hin
          simp only [] at g0 g1 g2 g3 hf0 hf5 ht0 ht5
          obtain ⟨t, rfl⟩ : ∃ n : Nat, t = n := ⟨t.toNat, by omega⟩
          obtain ⟨f, rfl⟩ : ∃ n : Nat, f = n := ⟨f.toNat, by omega⟩
          have ht5' : t < 5 := by omega
          have hf5' : f < 5 := by omega
          have hn := warIn_next hget (by simpa using ht5')
          simp only [Int.toNat_natCast] at hn
          have HN := hid hn
          have hne1 : b ≠ w.heap.size + 1 := by omega
          clear hget hn g2 g3
          have k1 := (blk_cell HB1.out (f * 5 + t)).trans (bitsA_get _ (by omega))
          have f1 := blk_free HB1.out (f * 5 + t)
          obtain ⟨wx, hwx⟩ : ∃ wx, wx = wr := ⟨_, rfl⟩
          subst hwx
          go_wp2_with fail
          go_region
          all_goals
            go_wp2_with fail
            go_roundw
            case rel =>
              refine ⟨k + 1, by omega, by go_num, ?_, ?_, Below.trans HB.out ?_⟩
              · simp only [hp_drew, hp_set]
                rw [if_neg (by omega)]; exact HB0.out
              · simp only [hp_drew, hp_set, if_true]
                rw [HB1.out]
                simp only [Option.map_some, setObj]
                rw [bitsA_set _ (by omega), bitsA_congr HN.out]
              · have hs := HB.out.size
                exact ⟨rfl, rfl, rfl, by simp only [hp_drew, sz_set]; exact Nat.le_refl _, fun i hi => by simp only [hp_drew, hp_set]; rw [if_neg (by omega)]⟩
            case measure => simp [intOf]; omega
        · obtain rfl : k = l.length := by omega
          go_wp2_with fail
          go_loopw [6, 7, 8] (fun v6 v7 v8 wr => ∃ m : Nat, m ≤ 5 ∧ v6 = .int .i64 m ∧ wr.heap[w.heap.size]? = some (.cells (bitsA fun _ => false) 161 (0, 0)) ∧ wr.heap[w.heap.size + 1]? = some (.cells (bitsA (warMid l m 0 0)) 161 (0, 0)) ∧ Below w.heap.size w wr) (fun v6 _ _ _ => 5 - (intOf v6).toNat)
          case atStart => exact ⟨0, by omega, rfl, HB0.out, by rw [← bitsA_congr (warIn_all HR.out)]; exact HB1.out, HB.out⟩
          case round =>
            obtain ⟨m, hm, rfl, hb0, hb1, hb⟩ := hrel
            have HB0 := hid hb0
            have HB1 := hid hb1
            have HB := hid hb
            clear hb0 hb1 hb
            by_cases hm5 : m < 5
            · have hmi : (m : Int) < 5 := by omega
              go_wp2_with fail
              go_loopw [7, 8] (fun v7 v8 wr => ∃ i : Nat, i ≤ 5 ∧ v7 = .int .i64 i ∧ wr.heap[w.heap.size]? = some (.cells (bitsA fun _ => false) 161 (0, 0)) ∧ wr.heap[w.heap.size + 1]? = some (.cells (bitsA (warMid l m i 0)) 161 (0, 0)) ∧ Below w.heap.size w wr) (fun v7 _ _ => 5 - (intOf v7).toNat)
              case atStart => exact ⟨0, by omega, rfl, HB0.out, HB1.out, HB.out⟩
              case round =>
                obtain ⟨i, hi, rfl, hb0, hb1, hb⟩ := hrel
                have HB0 := hid hb0
                have HB1 := hid hb1
                have HB := hid hb
                clear hb0 hb1 hb
                by_cases hi5 : i < 5
                · have hii : (i : Int) < 5 := by omega
                  go_wp2_with fail
                  go_loopw [8] (fun v8 wr => ∃ k : Nat, k ≤ 5 ∧ v8 = .int .i64 k ∧ wr.heap[w.heap.size]? = some (.cells (bitsA fun _ => false) 161 (0, 0)) ∧ wr.heap[w.heap.size + 1]? = some (.cells (bitsA (warMid l m i k)) 161 (0, 0)) ∧ Below w.heap.size w wr) (fun v8 _ => 5 - (intOf v8).toNat)
                  case atStart => exact ⟨0, by omega, rfl, HB0.out, HB1.out, HB.out⟩
                  case round =>
                    obtain ⟨k, hk, rfl, hb0, hb1, hb⟩ := hrel
                    have HB0 := hid hb0
                    have HB1 := hid hb1
                    have HB := hid hb
                    have hlt1 := blk_lt hb1
                    clear hb0 hb1 hb
                    by_cases hk5 : k < 5
                    · have hki : (k : Int) < 5 := by omega
                      have q1 := (blk_cell HB1.out (i * 5 + m)).trans (bitsA_get _ (by omega))
                      have q2 := (blk_cell HB1.out (m * 5 + k)).trans (bitsA_get _ (by omega))
                      have q3 := (blk_cell HB1.out (i * 5 + k)).trans (bitsA_get _ (by omega))
                      have f3 := blk_free HB1.out (i * 5 + k)
                      rw [warMid_col hm5 hi5] at q1
                      rw [warMid_row hk5 hm5] at q2
                      generalize h1 : war l m i m = b1 at q1
                      generalize h2 : war l m m k = b2 at q2
                      have H1 := hid h1
                      have H2 := hid h2
                      clear h1 h2
                      cases b1 with
                      | true =>
                        cases b2 with
                        | true =>
                          go_wp2_with fail
                          go_roundw
                          case rel =>
                            refine ⟨k + 1, by omega, by go_num, ?_, ?_, HB.out.setCell (by simp) _⟩
                            · rw [hp_set, if_neg (by omega)]; exact HB0.out
                            · rw [hp_set, if_pos rfl, HB1.out]
                              simp only [Option.map_some, setObj]
                              rw [bitsA_set _ (by omega), bitsA_congr (warMid_set hk5 (by rw [H1.out, H2.out]; rfl))]
                          case measure => simp [intOf]; omega
                        | false =>
                          go_wp2_with fail
                          go_roundw
                          case rel => exact ⟨k + 1, by omega, by go_num, HB0.out, by rw [← bitsA_congr (warMid_same hk5 (by rw [H1.out, H2.out]; rfl))]; exact HB1.out, HB.out⟩
                          case measure => simp [intOf]; omega
                      | false =>
                        go_wp2_with fail
                        go_roundw
                        case rel => exact ⟨k + 1, by omega, by go_num, HB0.out, by rw [← bitsA_congr (warMid_same hk5 (by rw [H1.out]; rfl))]; exact HB1.out, HB.out⟩
                        case measure => simp [intOf]; omega
                    · obtain rfl : k = 5 := by omega
                      go_wp2_with fail
                      go_roundw
                      case rel => exact ⟨i + 1, by omega, by go_num, HB0.out, by rw [← bitsA_congr (warMid_next l m i)]; exact HB1.out, HB.out⟩
                      case measure => simp [intOf]; omega
                · obtain rfl : i = 5 := by omega
                  go_wp2_with fail
                  go_roundw
                  case rel => exact ⟨m + 1, by omega, by go_num, HB0.out, by rw [← bitsA_congr (warMid_end l m)]; exact HB1.out, HB.out⟩
                  case measure => simp [intOf]; omega
            · obtain rfl : m = 5 := by omega
              have hM : bitsA (warMid l 5 0 0) = waysV l := bitsA_congr (warMid_done HR.out)
              have hb1 := HB1.out
              rw [hM] at hb1
              have HB1 := hid hb1
              have hi75 : (Tryd.prog.info? 161).map (·.size) = some (waysV l).size := by rw [waysV, bitsA_size]; kernel_rfl
              have hone : (waysV l).all (·.oneCell') = true := bitsA_one _
              have HONE := hid hone
              clear hb1 hM hone
              go_wp2_with (first
                | (refine wpList_load_row rfl 161 _ rfl (w.heap.size + 1) rfl _ (waysV l) _ _ HB1.out Tryd.underlying161 rfl hi75 ?_)
                | (refine wpList_store_row rfl 161 _ _ rfl w.heap.size (waysV l) rfl rfl _ _ HB0.out hi75 (by rw [waysV]; simp [bitsA_size]) HONE.out ?_))
              refine bodyPost_ret (results_cell_row rfl _ _ w.heap.size _ (waysV l) _ _ rfl (setRow_heap wr w.heap.size _ _ _ _ HB0.out) Tryd.underlying161 rfl hi75) rfl ?_
              exact ⟨rfl, HB.out.trans ⟨rfl, rfl, rfl, by simp [World.setRow], fun k hk => setRow_other _ _ _ _ (by omega)⟩⟩
end Go.Proofs.YtongkiccglaniaaDoor
