/- The reference of chapter 13: the contract of its Rings, for wires that are right. -/
import Derived.Test.YtfokcjooibmigaaDoorRWays
import Derived.Test.YtfokcjooibmigaaDoorRingsUse
import Derived.Test.YtfokcjooibmigaaDoorRRingsLaw
namespace Go.Proofs.YtfokcjooibmigaaDoor
open Go.RowKit
set_option maxRecDepth 100000

def RingsTold (w : World) (r : List (List Int)) (e : Ending) (w' : World) : Prop :=
  ∃ A c rs, rs.map Ri.xs = r ∧ e = .returned (.slice A r.length c) ∧ RingsAt w' w.heap.size A r.length c rs ∧ Below w.heap.size w w'

set_option maxHeartbeats 4000000 in
theorem rrings_any (A : Option Addr) (c : Nat) (l : List Wire) (w : World) (hs : Sl w A 4 l.length (l.flatMap Wire.cells)) (h12 : l.length ≤ 12) (hin : InRooms l) :
    Calls Tryd.prog 38 #[.slice A l.length c] w (RingsTold w (ringsTo l 5)) := by
  have HS := hid hs
  have HIN := hid hin
  clear hs hin
  have HI75 : Hid ((Tryd.prog.info? 53).map (·.size) = some (waysV l).size) := by rw [waysV, bitsA_size]; show _ = _; kernel_rfl
  have HONE : Hid ((waysV l).all (·.oneCell') = true) := bitsA_one _
  obtain ⟨i0, hi0, hz0, hz1, hz2⟩ := info_parts Tryd.infoInt
  obtain ⟨i1, hi1, y10, y11, y12⟩ := info_parts Tryd.infoInts
  go_enter Tryd.func38, Tryd.ntmps38
  go_wp2_with (first
    | (go_at_call 24; refine (rways_any A c l _ HS.out h12 HIN.out).mono ?_; rintro e w3 ⟨rfl, hb3⟩; have HB3 := hid hb3; clear hb3)
    | (refine wpList_store_rowK rfl 53 _ _ rfl w3.heap.size (waysV l) rfl rfl _ _ (heap_alloc_new w3 _) HI75.out (by rw [waysV, bitsA_size]; rfl) HONE.out ?_
       intro w4 hr4 hk4 hz4
       have hb4 : Below w.heap.size w w4 := (HB3.out.alloc HB3.out.size _).trans (hk4.below (by have := HB3.out.size; simp; omega) (fun i h => by have := HB3.out.size; omega))
       have HR4 := hid hr4
       have HB4 := hid hb4
       clear hr4 hb4 hk4 hz4))
  have hbw := HB3.out.size
  have hltw := blk_lt HR4.out
  generalize w3.heap.size = bw at *
  clear HB3
  go_loopw [4, 5, 6, 7] (fun v4 v5 v6 v7 wr => ∃ (k : Nat) (R : Option Addr) (n c : Nat) (rs : List Ri), k ≤ 5 ∧ v5 = .int .i64 k ∧ v4 = .slice R n c ∧ rs.map Ri.xs = ringsTo l k ∧ RingsAt wr w.heap.size R n c rs ∧
      wr.heap[bw]? = some (.cells (waysV l) 53 (0, 0)) ∧ Below w.heap.size w wr) (fun _ v5 _ _ _ => 5 - (intOf v5).toNat)
  case atStart => exact ⟨0, none, 0, 0, [], by omega, rfl, rfl, rfl, RingsAt.nil _ _, HR4.out, HB4.out⟩
  case round =>
    obtain ⟨k, R, n, c2, rs, hk, rfl, rfl, hrs, hra, hrow, hbel⟩ := hrel
    obtain ⟨wk, hwk⟩ : ∃ wk, wk = wr := ⟨_, rfl⟩
    subst hwk
    have hn5 : n ≤ 5 := by have h1 := hra.len; have h2 := congrArg List.length hrs; rw [List.length_map] at h2; have := ringsTo_len l k; omega
    have HRS := hid hrs
    have HRA := hid hra
    have HROW := hid hrow
    have HBEL := hid hbel
    have hltw := blk_lt hrow
    clear hrs hra hrow hbel
    by_cases hk5 : k < 5
    · have hki : (k : Int) < 5 := by omega
      go_wp2_with fail
      go_loopw [6, 7] (fun v6 v7 wr => ∃ (j : Nat) (G : Option Addr) (m gc : Nat), j ≤ 5 ∧ v7 = .int .i64 j ∧ v6 = .slice G m gc ∧ (ringTo l k j).length = m ∧ Row wr 3 1 G m gc (ints (ringTo l k j)) ∧ (∀ i, InA G i → wk.heap.size ≤ i) ∧ Below wk.heap.size wk wr) (fun _ v7 _ => 5 - (intOf v7).toNat)
      case atStart => exact ⟨0, none, 0, 0, by omega, rfl, rfl, rfl, Row.nil _ _ _, fun i h => by simp [InA] at h, Below.refl _ _⟩
      case round =>
        obtain ⟨j, G, m, gc, hj, rfl, rfl, hm, hg, hgn, hb⟩ := hrel
        have hm5 : m ≤ 5 := by have := ringTo_len l k j; omega
        have HM := hid hm
        have HG := hid hg
        have HGN := hid hgn
        have HB := hid hb
        clear hm hg hgn hb
        by_cases hj5 : j < 5
        · have hji : (j : Int) < 5 := by omega
          have hways := (HB.out.block bw hltw).trans HROW.out
          have q1 := (blk_cell hways (k * 5 + j)).trans (waysV_get l hk5 hj5)
          have q2 := (blk_cell hways (j * 5 + k)).trans (waysV_get l hj5 hk5)
          clear hways
          cases h1 : reachB l k j with
          | true =>
            rw [h1] at q1
            cases h2 : reachB l j k with
            | true =>
              rw [h2] at q2
              have hsame : sameB l k j = true := by simp [sameB, h1, h2]
              have HSAME := hid hsame
              clear h1 h2 hsame
              go_wp2_with (first
                | (at_builtin
                   refine wpList_append_row _ rfl (.tmp 30) (.tmp 32) 24 rfl 3 i0 (.int .i64 0) 1 8 Tryd.underlying24 hi0 hz0 hz1 hz2 rfl (by decide) G m gc (ints (ringTo l k j)) rfl (by exact HG.out.alloc _)
                     (some ⟨wr.heap.size, 0, none⟩) 1 1 (ints [(j : Int)]) rfl (by exact ⟨rfl, fun _ => ⟨wr.heap.size, 0, rfl, by simp, fun i v hv => by
                        match i, hv with
                        | 0, hv => (simp [ints] at hv; subst hv; rw [Nat.zero_add]; exact (blk_cell (heap_alloc_new wr _) 0).trans rfl)⟩⟩)
                     (ints_one _) (by unfold maxLen; omega) (by omega) ?_
                   intro A4 cap4 w4 hr4 hk4 hi4
                   have HR5 := hid hr4
                   have HK4 := hid hk4
                   have HI4 := hid hi4
                   clear hr4 hk4 hi4))
              go_roundw
              case rel =>
                have hs := HB.out.size
                refine ⟨j + 1, A4, m + 1, cap4, by omega, by go_num, rfl, by rw [ringTo, HSAME.out]; simp; exact HM.out, by rw [ringTo, HSAME.out, if_pos rfl, ints_app]; exact HR5.out, fun i h => ?_, ?_⟩
                · rcases HI4.out i h with h | h
                  · exact HGN.out i h
                  · simp at h; omega
                · exact (HB.out.alloc hs _).trans (HK4.out.below (by simp; omega) (fun i h => HGN.out i h))
              case measure => simp [intOf]; omega
            | false =>
              rw [h2] at q2
              have hsame : sameB l k j = false := by simp [sameB, h2]
              have HSAME := hid hsame
              clear h1 h2 hsame
              go_wp2_with fail
              go_roundw
              case rel => exact ⟨j + 1, G, m, gc, by omega, by go_num, rfl, by rw [ringTo, HSAME.out]; simpa using HM.out, by rw [ringTo, HSAME.out]; simpa using HG.out, HGN.out, HB.out⟩
              case measure => simp [intOf]; omega
          | false =>
            rw [h1] at q1
            have hsame : sameB l k j = false := by simp [sameB, h1]
            have HSAME := hid hsame
            clear h1 hsame
            go_wp2_with fail
            go_roundw
            case rel => exact ⟨j + 1, G, m, gc, by omega, by go_num, rfl, by rw [ringTo, HSAME.out]; simpa using HM.out, by rw [ringTo, HSAME.out]; simpa using HG.out, HGN.out, HB.out⟩
            case measure => simp [intOf]; omega
        · obtain rfl : j = 5 := by omega
          obtain ⟨b, hb0, _, _, _⟩ := ring_head (l := l) hk5
          have hmine := ring_mine hb0 hk5
          have hmpos : 0 < m := by have := (List.getElem?_eq_some_iff.1 hb0).1; have := HM.out; omega
          obtain ⟨gb, go, rfl, _, hgx⟩ := HG.out.sl.2 hmpos
          have c0 : wr.cell? ⟨gb, go, none⟩ = some (.int .i64 b) := hgx 0 _ (by simp [ints, hb0])
          have HRA2 := hid (HRA.out.new_ HB.out)
          have hks := HB.out.size
          have hbs2 := HBEL.out.size
          clear hgx hb0
          by_cases hbk : b = k
          · have HD := hid (hmine.1 hbk)
            subst hbk
            clear hmine
            go_wp2_with (first
              | (at_builtin
                 refine wpList_append_row _ rfl (.tmp 39) (.tmp 41) 71 rfl 24 i1 (.slice none 0 0) 1 24 Tryd.underlying71 hi1 y10 y11 y12 rfl (by decide) R n c2 (rs.flatMap Ri.cells) rfl (by exact HRA2.out.row.alloc _)
                   (some ⟨wr.heap.size, 0, none⟩) 1 1 [.slice (some ⟨gb, go, none⟩) m gc] rfl (by exact ⟨rfl, fun _ => ⟨wr.heap.size, 0, rfl, by simp, fun i v hv => by
                      match i, hv with
                      | 0, hv => (simp at hv; subst hv; rw [Nat.zero_add]; exact (blk_cell (heap_alloc_new wr _) 0).trans rfl)⟩⟩)
                   (by intro u hu; simp at hu; subst hu; rfl) (by unfold maxLen; omega) (by omega) ?_
                 intro A4 cap4 w4 hr4 hk4 hi4
                 have HR5 := hid hr4
                 have HK4 := hid hk4
                 have HI4 := hid hi4
                 clear hr4 hk4 hi4))
            go_roundw
            case rel =>
              have hm := HM.out
              have hK : Keep (InA R) wr w4 := ((Keep.refl _ wr).alloc _).then HK4.out (fun i _ h => h)
              have hapb : ∀ {b t : Nat} {cs : Array Value}, wr.heap[b]? = some (.cells cs t (0, 0)) → t ≠ 24 → ¬ InA R b := fun hb ht => HRA2.out.row.apart hb (Ne.symm ht)
              refine ⟨b + 1, A4, n + 1, cap4, rs ++ [⟨some ⟨gb, go, none⟩, gc, ringTo l b 5⟩], by omega, by go_num, rfl, ?_, ⟨?_, fun r hr => ?_, fun i h => ?_⟩, ?_, ?_⟩
              · rw [List.map_append, HRS.out, ringsTo, HD.out]; rfl
              · rw [List.flatMap_append, List.flatMap_cons, List.flatMap_nil, List.append_nil]
                have := HR5.out
                rw [← hm] at this
                exact this
              · rcases List.mem_append.1 hr with hr | hr
                · have h1 := HRA2.out.each r hr
                  exact ⟨h1.1.through hK (h1.1.apart2 HRA2.out.row (by decide)), h1.2⟩
                · simp at hr
                  subst hr
                  refine ⟨?_, fun i h => by have := HGN.out i h; omega⟩
                  have h1 := HG.out
                  rw [← hm] at h1
                  exact h1.through hK (h1.apart2 HRA2.out.row (by decide))
              · rcases HI4.out i h with h | h
                · exact HRA2.out.new i h
                · simp at h; omega
              · have h1 := (HB.out.block bw hltw).trans HROW.out
                exact (hK.block _ (blk_lt h1) (hapb h1 (by decide))).trans h1
              · exact HBEL.out.trans ((HB.out.mono hbs2).trans (hK.below (by omega) (fun i h => HRA2.out.new i h)))
            case measure => simp [intOf]; omega
          · have HD : Hid (doneB l k k = true) := by
              show _ = true
              cases hd : doneB l k k with
              | true => rfl
              | false => exact absurd (hmine.2 hd) hbk
            have hbk1 : ((b : Int) == (k : Int)) = false := by simp; omega
            have hbk2 : ¬ ((b : Int) = (k : Int)) := by omega
            clear hmine
            go_wp2_with fail
            go_roundw
            case rel => exact ⟨k + 1, R, n, c2, rs, by omega, by go_num, rfl, by rw [HRS.out, ringsTo, HD.out]; simp, HRA2.out, (HB.out.block bw hltw).trans HROW.out, HBEL.out.trans (HB.out.mono hbs2)⟩
            case measure => simp [intOf]; omega
    · obtain rfl : k = 5 := by omega
      go_wp2_with fail
      go_ret
      have hl : n = (ringsTo l 5).length := by have h1 := HRA.out.len; have h2 := congrArg List.length HRS.out; rw [List.length_map] at h2; omega
      subst hl
      exact ⟨R, c2, rs, HRS.out, rfl, HRA.out, HBEL.out⟩
end Go.Proofs.YtfokcjooibmigaaDoor
