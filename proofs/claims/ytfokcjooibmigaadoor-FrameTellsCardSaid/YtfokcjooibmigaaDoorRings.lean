/- Package levels: the contract of Rings, for every list of wires. -/
import Derived.Test.YtfokcjooibmigaaDoorLeast
import Derived.Test.YtfokcjooibmigaaDoorRingsLaw
namespace Go.Proofs.YtfokcjooibmigaaDoor
open Go.RowKit
set_option maxRecDepth 100000

theorem Tryd.infoInts : (Tryd.prog.info? 24).map (fun i => (i.zero, i.size, i.bytes)) = some (some (.slice none 0 0), 1, 24) := by kernel_rfl
/-- A list of numbers as it lies. -/
structure Ri where
  A : Option Addr
  c : Nat
  xs : List Int
def Ri.cells (r : Ri) : List Value := [.slice r.A r.xs.length r.c]
theorem ris_one (l : List Ri) : ∀ u ∈ l.flatMap Ri.cells, u.oneCell' = true := by
  intro u hu; simp [Ri.cells] at hu; obtain ⟨a, _, h⟩ := hu; subst h; rfl
/-- Lists of numbers: the row of slices, and what each leads to; all of it lies from block B on. -/
structure RingsAt (w : World) (B : Nat) (A : Option Addr) (n c : Nat) (rs : List Ri) : Prop where
  row : Row w 24 1 A n c (rs.flatMap Ri.cells)
  each : ∀ r ∈ rs, Row w 3 1 r.A r.xs.length r.c (ints r.xs) ∧ ∀ k, InA r.A k → B ≤ k
  new : ∀ k, InA A k → B ≤ k
theorem RingsAt.nil (w : World) (B : Nat) : RingsAt w B none 0 0 [] := ⟨Row.nil _ _ _, fun r h => by simp at h, fun k h => by simp [InA] at h⟩
theorem RingsAt.len {w : World} {B : Nat} {A : Option Addr} {n c : Nat} {rs : List Ri} (h : RingsAt w B A n c rs) : rs.length = n := by
  have := h.row.1
  rw [flatMap_len Ri.cells 1 (fun _ => rfl)] at this; omega
/-- What writes no such row leaves it. -/
theorem RingsAt.keep {w w' : World} {B : Nat} {A : Option Addr} {n c : Nat} {rs : List Ri} (h : RingsAt w B A n c rs)
    (hk : ∀ (k t : Nat) (cs : Array Value), w.heap[k]? = some (Obj.cells cs t (0, 0)) → (t = 24 ∨ t = 3) → w'.heap[k]? = w.heap[k]?) : RingsAt w' B A n c rs := by
  have row : ∀ {e sz A m c xs}, Row w e sz A m c xs → (e = 24 ∨ e = 3) → Row w' e sz A m c xs := by
    intro e sz A m c xs hr he
    refine ⟨hr.1, ?_⟩
    rcases hr.2 with h0 | ⟨b, off, cur, rfl, hh, h1⟩
    · exact .inl h0
    · exact .inr ⟨b, off, cur, rfl, (hk b e cur hh he).trans hh, h1⟩
  exact ⟨row h.row (.inl rfl), fun r hr => ⟨row (h.each r hr).1 (.inr rfl), (h.each r hr).2⟩, h.new⟩
theorem RingsAt.new_ {w w' : World} {B : Nat} {A : Option Addr} {n c : Nat} {rs : List Ri} (h : RingsAt w B A n c rs) (hb : Below w.heap.size w w') : RingsAt w' B A n c rs :=
  h.keep fun _ _ _ hk _ => hb.block _ (blk_lt hk)
def TellLL (w : World) (r : List (List Int) × Int) (e : Ending) (w' : World) : Prop :=
  ∃ A c rs, rs.map Ri.xs = r.1 ∧ e = .returned (.tuple #[.slice A r.1.length c, errV r.2]) ∧ RingsAt w' w.heap.size A r.1.length c rs ∧ Below w.heap.size w w'
noncomputable def ringsOf (l : List Wire) : List (List Int) × Int := if (flowChk l).2 ≠ 0 then ([], (flowChk l).2) else (ringsTo l 5, 0)

/-- Five flags as cells. -/
def flA (f : Nat → Bool) : Array Value := #[.bool (f 0), .bool (f 1), .bool (f 2), .bool (f 3), .bool (f 4)]
theorem flA_get (f : Nat → Bool) {i : Nat} (h : i < 5) : (flA f)[i]? = some (.bool (f i)) := by
  rcases (show i = 0 ∨ i = 1 ∨ i = 2 ∨ i = 3 ∨ i = 4 by omega) with rfl | rfl | rfl | rfl | rfl <;> rfl
theorem flA_set (f : Nat → Bool) {i : Nat} (h : i < 5) : (flA f).setIfInBounds i (.bool true) = flA (upd f i) := by
  rcases (show i = 0 ∨ i = 1 ∨ i = 2 ∨ i = 3 ∨ i = 4 by omega) with rfl | rfl | rfl | rfl | rfl <;> rfl
theorem flA_congr {f g : Nat → Bool} (h : ∀ i, i < 5 → f i = g i) : flA f = flA g := by
  unfold flA; rw [h 0 (by omega), h 1 (by omega), h 2 (by omega), h 3 (by omega), h 4 (by omega)]
/-- Who is done in the middle of a ring. -/
noncomputable def midB (l : List Wire) (k j : Nat) : Nat → Bool := fun b => doneB l k b || (decide (b < j) && sameB l k b)
theorem midB_zero (l : List Wire) (k : Nat) : flA (midB l k 0) = flA (doneB l k) := flA_congr fun i _ => by simp [midB]
theorem midB_hit {l : List Wire} {k j : Nat} (h : sameB l k j = true) : flA (upd (midB l k j) j) = flA (midB l k (j + 1)) := flA_congr fun i _ => by
  unfold upd midB
  by_cases e : i = j
  · subst e; simp [h]
  · rw [if_neg e, show decide (i < j + 1) = decide (i < j) by simp; omega]
theorem midB_miss {l : List Wire} {k j : Nat} (h : sameB l k j = false) : flA (midB l k j) = flA (midB l k (j + 1)) := flA_congr fun i _ => by
  unfold midB
  by_cases e : i = j
  · subst e; simp [h]
  · rw [show decide (i < j + 1) = decide (i < j) by simp; omega]
theorem midB_end {l : List Wire} {k : Nat} (h : doneB l k k = false) : flA (midB l k 5) = flA (doneB l (k + 1)) := flA_congr fun i hi => by
  simp [midB, doneB, h, hi]
theorem doneB_skip {l : List Wire} {k : Nat} (h : doneB l k k = true) : flA (doneB l k) = flA (doneB l (k + 1)) := flA_congr fun i _ => by
  simp [doneB, h]

set_option maxHeartbeats 4000000 in
set_option maxRecDepth 100000 in
theorem rings_any (A : Option Addr) (c : Nat) (l : List Wire) (w : World) (hs : Sl w A 4 l.length (l.flatMap Wire.cells)) (hsw : SlW A c l.length) :
    Calls Tryd.prog 36 #[.slice A l.length c] w (TellLL w (ringsOf l)) := by
  have HS := hid hs
  have HW := hid hsw
  clear hs hsw
  by_cases he : (flowChk l).2 = 0
  · obtain ⟨h12, hall, hin⟩ := flowChk_ok he
    have HE := hid he
    have HIN := hid hin
    clear hall hin
    rw [show ringsOf l = (ringsTo l 5, 0) by simp [ringsOf, he]]
    clear he
    have HI75 : Hid ((Tryd.prog.info? 53).map (·.size) = some (waysV l).size) := by rw [waysV, bitsA_size]; show _ = _; kernel_rfl
    have HONE : Hid ((waysV l).all (·.oneCell') = true) := bitsA_one _
    obtain ⟨i0, hi0, hz0, hz1, hz2⟩ := info_parts Tryd.infoInt
    obtain ⟨i1, hi1, y10, y11, y12⟩ := info_parts Tryd.infoInts
    go_enter Tryd.func36, Tryd.ntmps36
    go_wp2_with (first
      | (go_at_call 50; refine (flow_right A c l _ HS.out HW.out).mono ?_; rw [HE.out]; rintro e w1 ⟨rfl, hb1⟩; rw [errV_zero]; have HB1 := hid hb1; clear hb1)
      | (go_at_call 51; refine (ways_any A c l _ (HS.out.new HB1.out) h12 HIN.out).mono ?_; rintro e w3 ⟨rfl, hb3⟩; have HB3 := hid (HB1.out.trans (hb3.mono HB1.out.size)); clear hb3)
      | (refine wpList_store_rowK rfl 53 _ _ rfl w3.heap.size (waysV l) rfl rfl _ _ (heap_alloc_new w3 _) HI75.out (by rw [waysV, bitsA_size]; rfl) HONE.out ?_
         intro w4 hr4 hk4 hz4
         have hb4 : Below w.heap.size w w4 := (HB3.out.alloc HB3.out.size _).trans (hk4.below (by have := HB3.out.size; simp; omega) (fun i h => by have := HB3.out.size; omega))
         have HR4 := hid hr4
         have HB4 := hid hb4
         have hz4' : w4.heap.size = w3.heap.size + 1 := by rw [hz4]; simp
         have HZ4 := hid hz4'
         clear hr4 hb4 hk4 hz4 hz4'))
    have hbs := HB4.out.size
    have hb3s := HB3.out.size
    have hzz := HZ4.out
    have hrow0 : (w4.alloc (Obj.cells #[.bool false, .bool false, .bool false, .bool false, .bool false] 52)).heap[w3.heap.size]? = some (.cells (waysV l) 53 (0, 0)) := by rw [hp_alloc, if_neg (by omega)]; exact HR4.out
    have hout0 : (w4.alloc (Obj.cells #[.bool false, .bool false, .bool false, .bool false, .bool false] 52)).heap[w4.heap.size]? = some (.cells (flA (doneB l 0)) 52 (0, 0)) := by rw [hp_alloc, if_pos rfl]; rfl
    have HROW0 := hid hrow0
    have HOUT0 := hid hout0
    have HBEL0 := hid (HB4.out.alloc hbs (Obj.cells #[.bool false, .bool false, .bool false, .bool false, .bool false] 52))
    have hne : w3.heap.size ≠ w4.heap.size := by omega
    have hbw : w.heap.size ≤ w3.heap.size := hb3s
    generalize w3.heap.size = bw at *
    generalize hbd : w4.heap.size = bd at *
    clear hrow0 hout0 hbd hzz hb3s HZ4 HR4 HB3
    go_loopw [6, 8, 9, 10, 18] (fun v6 v8 v9 v10 v18 wr => ∃ (k : Nat) (R : Option Addr) (n c : Nat) (rs : List Ri), k ≤ 5 ∧ v18 = .int .i64 k ∧ v6 = .slice R n c ∧ rs.map Ri.xs = ringsTo l k ∧ RingsAt wr w.heap.size R n c rs ∧
        wr.heap[bw]? = some (.cells (waysV l) 53 (0, 0)) ∧ wr.heap[bd]? = some (.cells (flA (doneB l k)) 52 (0, 0)) ∧ Below w.heap.size w wr) (fun _ _ _ _ v18 _ => 5 - (intOf v18).toNat)
    case atStart => exact ⟨0, none, 0, 0, [], by omega, rfl, rfl, rfl, RingsAt.nil _ _, HROW0.out, HOUT0.out, HBEL0.out⟩
    case round =>
      obtain ⟨k, R, n, c2, rs, hk, rfl, rfl, hrs, hra, hrow, hdone, hbel⟩ := hrel
      obtain ⟨wk, hwk⟩ : ∃ wk, wk = wr := ⟨_, rfl⟩
      subst hwk
      have hn5 : n ≤ 5 := by have h1 := hra.len; have h2 := congrArg List.length hrs; rw [List.length_map] at h2; have := ringsTo_len l k; omega
      have HRS := hid hrs
      have HRA := hid hra
      have HROW := hid hrow
      have HDONE := hid hdone
      have HBEL := hid hbel
      have hltd := blk_lt hdone
      have hltw := blk_lt hrow
      clear hrs hra hrow hdone hbel
      by_cases hk5 : k < 5
      · have hki : (k : Int) < 5 := by omega
        have cd := (blk_cell HDONE.out k).trans (flA_get _ hk5)
        cases hd : doneB l k k with
        | true =>
          rw [hd] at cd
          have HD := hid hd
          clear hd
          go_wp2_with fail
          go_roundw
          case rel => exact ⟨k + 1, R, n, c2, rs, by omega, by go_num, rfl, by rw [HRS.out, ringsTo, HD.out]; simp, HRA.out, HROW.out, by rw [← doneB_skip HD.out]; exact HDONE.out, HBEL.out⟩
          case measure => simp [intOf]; omega
        | false =>
          rw [hd] at cd
          have HD := hid hd
          clear hd
          go_wp2_with fail
          go_loopw [9, 10, 24] (fun v9 v10 v24 wr => ∃ (j : Nat) (G : Option Addr) (m gc : Nat), j ≤ 5 ∧ v24 = .int .i64 j ∧ v9 = .slice G m gc ∧ (ringTo l k j).length = m ∧ Row wr 3 1 G m gc (ints (ringTo l k j)) ∧ (∀ i, InA G i → wk.heap.size ≤ i) ∧
              wr.heap[bd]? = some (.cells (flA (midB l k j)) 52 (0, 0)) ∧ Keep (fun i => i = bd) wk wr) (fun _ _ v24 _ => 5 - (intOf v24).toNat)
          case atStart => exact ⟨0, none, 0, 0, by omega, rfl, rfl, rfl, Row.nil _ _ _, fun i h => by simp [InA] at h, by rw [midB_zero]; exact HDONE.out, Keep.refl _ _⟩
          case round =>
            obtain ⟨j, G, m, gc, hj, rfl, rfl, hm, hg, hgn, hmid, hkeep⟩ := hrel
            have hm5 : m ≤ 5 := by have := ringTo_len l k j; omega
            have HM := hid hm
            have HG := hid hg
            have HGN := hid hgn
            have HMID := hid hmid
            have HKEEP := hid hkeep
            have hltd2 := blk_lt hmid
            clear hm hg hgn hmid hkeep
            by_cases hj5 : j < 5
            · have hji : (j : Int) < 5 := by omega
              have hways := (HKEEP.out.block bw hltw hne).trans HROW.out
              have q1 := (blk_cell hways (k * 5 + j)).trans (waysV_get l hk5 hj5)
              have q2 := (blk_cell hways (j * 5 + k)).trans (waysV_get l hj5 hk5)
              have q3 := (blk_cell HMID.out j).trans (flA_get _ hj5)
              have z3 := blk_free HMID.out j
              have hap : ¬ InA G bd := HG.out.apart HMID.out (by decide)
              have HAP := hid hap
              clear hways hap
              cases h1 : reachB l k j with
              | true =>
                rw [h1] at q1
                cases h2 : reachB l j k with
                | true =>
                  rw [h2] at q2
                  have hsame : sameB l k j = true := by simp [sameB, h1, h2]
                  have HSAME := hid hsame
                  clear h1 h2 hsame
                  go_wp2_with (first
                    | (at_builtin
                       refine wpList_append_row _ rfl (.tmp 41) (.tmp 43) 24 rfl 3 i0 (.int .i64 0) 1 8 Tryd.underlying24 hi0 hz0 hz1 hz2 rfl (by decide) G m gc (ints (ringTo l k j)) rfl (by exact (HG.out.setCell HAP.out _).alloc _)
                         (some ⟨wr.heap.size, 0, none⟩) 1 1 (ints [(j : Int)]) rfl (by exact ⟨rfl, fun _ => ⟨wr.heap.size, 0, rfl, by simp, fun i v hv => by
                            match i, hv with
                            | 0, hv => (simp [ints] at hv; subst hv; rw [Nat.zero_add]; exact (blk_cell (by rw [hp_alloc, sz_set, if_pos rfl]) 0).trans rfl)⟩⟩)
                         (ints_one _) (by unfold maxLen; omega) (by omega) ?_
                       intro A4 cap4 w4 hr4 hk4 hi4
                       have HR4 := hid hr4
                       have HK4 := hid hk4
                       have HI4 := hid hi4
                       clear hr4 hk4 hi4))
                  go_roundw
                  case rel =>
                    have hs := HKEEP.out.size
                    refine ⟨j + 1, A4, m + 1, cap4, by omega, by go_num, rfl, by rw [ringTo, HSAME.out]; simp; exact HM.out, by rw [ringTo, HSAME.out, if_pos rfl, ints_app]; exact HR4.out, fun i h => ?_, ?_, ?_⟩
                    · rcases HI4.out i h with h | h
                      · exact HGN.out i h
                      · simp at h; omega
                    · rw [HK4.out.block bd (by simp; omega) HAP.out, hp_alloc, if_neg (by rw [sz_set]; omega), hp_set, if_pos rfl, HMID.out]
                      simp only [Option.map_some, setObj]
                      rw [flA_set _ hj5, midB_hit HSAME.out]
                    · exact ((HKEEP.out.setCell (.inl rfl) _).alloc _).then HK4.out (fun i hi h => by have := HGN.out i h; omega)
                  case measure => simp [intOf]; omega
                | false =>
                  rw [h2] at q2
                  have hsame : sameB l k j = false := by simp [sameB, h2]
                  have HSAME := hid hsame
                  clear h1 h2 hsame
                  go_wp2_with fail
                  go_roundw
                  case rel => exact ⟨j + 1, G, m, gc, by omega, by go_num, rfl, by rw [ringTo, HSAME.out]; simpa using HM.out, by rw [ringTo, HSAME.out]; simpa using HG.out, HGN.out, by rw [← midB_miss HSAME.out]; exact HMID.out, HKEEP.out⟩
                  case measure => simp [intOf]; omega
              | false =>
                rw [h1] at q1
                have hsame : sameB l k j = false := by simp [sameB, h1]
                have HSAME := hid hsame
                clear h1 hsame
                go_wp2_with fail
                go_roundw
                case rel => exact ⟨j + 1, G, m, gc, by omega, by go_num, rfl, by rw [ringTo, HSAME.out]; simpa using HM.out, by rw [ringTo, HSAME.out]; simpa using HG.out, HGN.out, by rw [← midB_miss HSAME.out]; exact HMID.out, HKEEP.out⟩
                case measure => simp [intOf]; omega
            · obtain rfl : j = 5 := by omega
              have hra2 : RingsAt wr w.heap.size R n c2 rs := HRA.out.keep fun i t cs hi ht => HKEEP.out.block i (blk_lt hi) (fun e => by
                subst e
                rw [HDONE.out] at hi
                injection hi with hi
                injection hi with _ h2
                rcases ht with ht | ht <;> · rw [ht] at h2; revert h2; decide)
              have HRA2 := hid hra2
              clear hra2
              have hks := HKEEP.out.size
              have hbs2 := HBEL.out.size
              go_wp2_with (first
                | (at_builtin
                   refine wpList_append_row _ rfl (.tmp 46) (.tmp 48) 71 rfl 24 i1 (.slice none 0 0) 1 24 Tryd.underlying71 hi1 y10 y11 y12 rfl (by decide) R n c2 (rs.flatMap Ri.cells) rfl (by exact HRA2.out.row.alloc _)
                     (some ⟨wr.heap.size, 0, none⟩) 1 1 [.slice G m gc] rfl (by exact ⟨rfl, fun _ => ⟨wr.heap.size, 0, rfl, by simp, fun i v hv => by
                        match i, hv with
                        | 0, hv => (simp at hv; subst hv; rw [Nat.zero_add]; exact (blk_cell (heap_alloc_new wr _) 0).trans rfl)⟩⟩)
                     (by intro u hu; simp at hu; subst hu; rfl) (by unfold maxLen; omega) (by omega) ?_
                   intro A4 cap4 w4 hr4 hk4 hi4
                   have HR4 := hid hr4
                   have HK4 := hid hk4
                   have HI4 := hid hi4
                   clear hr4 hk4 hi4))
              go_roundw
              case rel =>
                have hm := HM.out
                have hK : Keep (InA R) wr w4 := ((Keep.refl _ wr).alloc _).then HK4.out (fun i _ h => h)
                have hKK : Keep (fun i => i = bd ∨ InA R i) wk w4 := HKEEP.out.trans hK
                have hapb : ∀ {b t : Nat} {cs : Array Value}, wr.heap[b]? = some (.cells cs t (0, 0)) → t ≠ 24 → ¬ InA R b := fun hb ht => HRA2.out.row.apart hb (Ne.symm ht)
                refine ⟨k + 1, A4, n + 1, cap4, rs ++ [⟨G, gc, ringTo l k 5⟩], by omega, by go_num, rfl, ?_, ⟨?_, fun r hr => ?_, fun i h => ?_⟩, ?_, ?_, ?_⟩
                · rw [List.map_append, HRS.out, ringsTo, HD.out]; rfl
                · rw [List.flatMap_append, List.flatMap_cons, List.flatMap_nil, List.append_nil]
                  have := HR4.out
                  rw [← hm] at this
                  exact this
                · rcases List.mem_append.1 hr with hr | hr
                  · have h1 := HRA2.out.each r hr
                    exact ⟨h1.1.through hK (h1.1.apart2 HRA2.out.row (by decide)), h1.2⟩
                  · simp at hr
                    subst hr
                    refine ⟨?_, fun i h => by have := HGN.out i h; omega⟩
                    have h1 := HG.out
                    rw [← hm] at h1
                    exact h1.through hK (h1.apart2 HRA2.out.row (by decide))
                · rcases HI4.out i h with h | h
                  · exact HRA2.out.new i h
                  · simp at h; omega
                · have h1 := (HKEEP.out.block bw hltw hne).trans HROW.out
                  exact (hK.block _ (blk_lt h1) (hapb h1 (by decide))).trans h1
                · rw [← midB_end HD.out]
                  exact (hK.block _ hltd2 (hapb HMID.out (by decide))).trans HMID.out
                · exact HBEL.out.trans (hKK.below hbs2 (fun i h => by
                    rcases h with h | h
                    · omega
                    · exact HRA2.out.new i h))
              case measure => simp [intOf]; omega
      · obtain rfl : k = 5 := by omega
        go_wp2_with fail
        go_ret2
        have hl : n = (ringsTo l 5).length := by have h1 := HRA.out.len; have h2 := congrArg List.length HRS.out; rw [List.length_map] at h2; omega
        subst hl
        exact ⟨R, c2, rs, HRS.out, rfl, HRA.out, HBEL.out⟩
  · rw [show ringsOf l = ([], (flowChk l).2) by simp [ringsOf, he]]
    have hv := errV_pos he
    have HV := hid hv
    clear he hv
    go_enter Tryd.func36, Tryd.ntmps36
    go_wp2_with (go_at_call 50; refine (flow_right A c l _ HS.out HW.out).mono ?_; rw [HV.out]; rintro e w1 ⟨rfl, hb1⟩)
    go_ret2
    exact ⟨none, 0, [], rfl, by rw [HV.out]; rfl, RingsAt.nil _ _, hb1⟩
end Go.Proofs.YtfokcjooibmigaaDoor
