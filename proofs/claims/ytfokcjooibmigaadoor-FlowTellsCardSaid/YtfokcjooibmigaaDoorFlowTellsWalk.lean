/- The walk of framelaw1.FlowTells: it returns true at every input. -/
import Derived.Test.YtfokcjooibmigaaDoorRWire
import Derived.Test.YtfokcjooibmigaaDoorRWays
import Derived.Test.YtfokcjooibmigaaDoorLeast
import Derived.Test.YtfokcjooibmigaaDoorLevels
import Derived.Test.YtfokcjooibmigaaDoorSameInts
import Derived.Test.YtfokcjooibmigaaDoorTold
import Derived.Deep.DeepCutAuto
namespace Go.Proofs.YtfokcjooibmigaaDoor
open Go.RowKit
set_option maxRecDepth 100000

def outR (a : Int) : Prop := a < 0 ∨ 4 < a
theorem outR_iff {a : Int} : outR a ↔ roomB a = false := by rw [roomB_false]; unfold outR; omega
instance (a : Int) : Decidable (outR a) := by unfold outR; infer_instance
theorem reachOf_snd (l : List Wire) (a b : Int) : (reachOf l a b).2 = if (flowChk l).2 = 0 ∧ (outR a ∨ outR b) then 1 else (flowChk l).2 := by
  unfold reachOf
  by_cases he : (flowChk l).2 = 0
  · rw [if_neg (by simp [he])]
    by_cases ho : outR a ∨ outR b
    · rw [if_pos (by rw [← outR_iff, ← outR_iff]; exact ho), if_pos ⟨he, ho⟩]
    · rw [if_neg (by rw [← outR_iff, ← outR_iff]; exact ho), if_neg (fun h => ho h.2), he]
  · rw [if_pos he, if_neg (fun h => he h.1)]
theorem reachOf_bad {l : List Wire} {a b : Int} (h : (reachOf l a b).2 ≠ 0) : (reachOf l a b).1 = false := by
  unfold reachOf at h ⊢
  split
  · rfl
  · rename_i h1
    rw [if_neg h1] at h
    split
    · rfl
    · rename_i h2; rw [if_neg h2] at h; exact absurd rfl h
theorem reachOf_good2 {l : List Wire} {a b : Int} (h : (reachOf l a b).2 = 0) : (flowChk l).2 = 0 ∧ roomB a = true ∧ roomB b = true ∧ (reachOf l a b).1 = reachB l a.toNat b.toNat := by
  unfold reachOf at h ⊢
  split at h
  · rename_i h1; exact absurd h h1
  · rename_i h1
    split at h
    · simp at h
    · rename_i h2
      rw [if_neg h1, if_neg h2]
      have h3 := fun e => h2 (.inl e)
      have h4 := fun e => h2 (.inr e)
      exact ⟨by simpa using h1, by simpa using h3, by simpa using h4, rfl⟩
theorem aheadOf_snd (l : List Wire) (b : Int) : (aheadOf l b).2 = if (flowChk l).2 = 0 ∧ outR b then 1 else (flowChk l).2 := by
  unfold aheadOf
  by_cases he : (flowChk l).2 = 0
  · rw [if_neg (by simp [he])]
    by_cases ho : outR b
    · rw [if_pos (outR_iff.1 ho), if_pos ⟨he, ho⟩]
    · rw [if_neg (fun h => ho (outR_iff.2 h)), if_neg (fun h => ho h.2), he]
  · rw [if_pos he, if_neg (fun h => he h.1)]
theorem aheadOf_bad {l : List Wire} {b : Int} (h : (aheadOf l b).2 ≠ 0) : (aheadOf l b).1 = [] := by
  unfold aheadOf at h ⊢
  split
  · rfl
  · rename_i h1
    rw [if_neg h1] at h
    split
    · rfl
    · rename_i h2; rw [if_neg h2] at h; exact absurd rfl h
theorem aheadOf_good2 {l : List Wire} {b : Int} (h : (aheadOf l b).2 = 0) : (flowChk l).2 = 0 ∧ roomB b = true ∧ (aheadOf l b).1 = aheadTo l b.toNat 5 := by
  unfold aheadOf at h ⊢
  split at h
  · rename_i h1; exact absurd h h1
  · rename_i h1
    split at h
    · simp at h
    · rename_i h2
      rw [if_neg h1, if_neg h2]
      exact ⟨by simpa using h1, by simpa using h2, rfl⟩
theorem any_snoc {l : List Wire} {k : Nat} {x : Wire} {p : Wire → Bool} (h : l[k]? = some x) : (l.take (k + 1)).any p = ((l.take k).any p || p x) := by
  have hk := (List.getElem?_eq_some_iff.1 h).1
  rw [List.take_succ_eq_append_getElem hk, List.any_append]
  have : l[k] = x := by rw [List.getElem?_eq_getElem hk] at h; exact Option.some.inj h
  rw [this]; simp

/-- What the list of those ahead is, k rooms on. -/
def AhRel (f2 : Int) (xs : List Int) (l : List Wire) (b : Int) (k : Nat) : Prop := (f2 = 0 → xs = aheadTo l b.toNat k) ∧ (f2 ≠ 0 → xs = [])

/-- What is told of the levels, k wires on. -/
def LvRel (e3 e : Int) (l : List Wire) (lv : List Int) (k : Nat) : Prop := e = if e3 ≠ 0 then e3 else if (l.take k).any (leadsDown lv) then 8 else 0

set_option maxHeartbeats 16000000 in
theorem flowTells_walk {w : World} (hg : Handle w) (A : Option Addr) (c : Nat) (l : List Wire) (hs : Sl w A 4 l.length (l.flatMap Wire.cells)) (hsw : SlW A c l.length) (_ok : ∀ y ∈ l, y.Ok) (a b : Int)
    (A2 : Option Addr) (c2 : Nat) (lv : List Int) (hs2 : Sl w A2 1 lv.length (lv.flatMap fun a => [.int .i64 a])) (hsw2 : SlW A2 c2 lv.length) (_ok2 : ∀ y ∈ lv, Fits y) :
    Calls Tryd.prog 4 #[.slice A l.length c, .int .i64 a, .int .i64 b, .slice A2 lv.length c2] w fun e w' => e = .returned (.bool true) ∧ Below w.heap.size w w' := by
  have HG := hid hg
  have HS := hid hs
  have HW := hid hsw
  have HS2 := hid hs2
  have HW2 := hid hsw2
  have h63 : l.length ≤ 9223372036854775807 := by have := hsw.1; have := hsw.2.1; unfold maxLen at this; omega
  have h63b : lv.length ≤ 9223372036854775807 := by have := hsw2.1; have := hsw2.2.1; unfold maxLen at this; omega
  obtain ⟨m, hm⟩ : ∃ m, lv.length = m := ⟨_, rfl⟩
  rw [hm] at h63b ⊢
  have HM := hid hm
  clear hg hs hsw hs2 hsw2 _ok _ok2 hm
  have HCHK := fun w hs => rwires_any A c l w hs HW.out
  have HCHK2 := fun w hs => flow_check A c l w hs HW.out
  have HRE := fun w hs => reach_any a b A c l w hs HW.out
  have HAH := fun w hs => ahead_any b A c l w hs HW.out
  have HLV := fun w hs hs2 => levels_any A A2 c c2 lv.length l lv w hs HW.out rfl hs2 HW2.out
  have hr1 := reachOf_snd l a b
  have hr2 := reachOf_bad (l := l) (a := a) (b := b)
  have hr3 := reachOf_good2 (l := l) (a := a) (b := b)
  have ha1 := aheadOf_snd l b
  have ha2 := aheadOf_bad (l := l) (b := b)
  have ha3 := aheadOf_good2 (l := l) (b := b)
  have hal : (aheadOf l b).1.length ≤ 5 := by
    by_cases h : (aheadOf l b).2 = 0
    · rw [(ha3 h).2.2]; exact aheadTo_le l _ 5
    · rw [ha2 h]; simp
  have hlv : levelsOf l lv = if (flowChk l).2 ≠ 0 then (flowChk l).2 else if lv.length ≠ 5 then 3 else if l.any (leadsDown lv) then 8 else 0 := rfl
  have hok := flowChk_ok (l := l)
  generalize hfc : flowChk l = fc at hr1 hr3 ha1 ha3 hlv HCHK HCHK2 hok
  obtain ⟨pos, E⟩ := fc
  generalize reachOf l a b = rr at hr1 hr2 hr3 HRE
  obtain ⟨rb, f1⟩ := rr
  generalize aheadOf l b = aa at ha1 ha2 ha3 hal HAH
  obtain ⟨ax, f2⟩ := aa
  generalize levelsOf l lv = e9 at hlv HLV
  simp only [] at hr1 hr2 hr3 ha1 ha2 ha3 hal hlv hok
  rw [HM.out] at hlv HLV
  have HCHK := hid HCHK
  have HCHK2 := hid HCHK2
  have HRE := hid HRE
  have HAH := hid HAH
  have HLV := hid HLV
  have HR1 := hid hr1
  have HR2 := hid hr2
  have HR3 := hid hr3
  have HA1 := hid ha1
  have HA2 := hid ha2
  have HA3 := hid ha3
  have HE9 := hid hlv
  have HOK := hid hok
  obtain ⟨na, hna⟩ : ∃ n, n = ax.length := ⟨_, rfl⟩
  rw [← hna] at hal
  have HNA := hid hna
  clear hr1 hr2 hr3 ha1 ha2 ha3 hlv hok hfc hna
  have HI75 : Hid ((Tryd.prog.info? 53).map (·.size) = some (waysV l).size) := by rw [waysV, bitsA_size]; show _ = _; kernel_rfl
  have HONE : Hid ((waysV l).all (·.oneCell') = true) := bitsA_one _
  obtain ⟨i0, hi0, hz0, hz1, hz2⟩ := info_parts Tryd.infoInt
  go_enter Tryd.func4, Tryd.ntmps4
  go_upto_region 5 with (first
    | (go_at_call 12; refine (error_same E _ (HG.out.new HB2.out)).mono ?_; rintro e w3 ⟨rfl, hb3⟩; have HB3 := hid (HB2.out.trans (hb3.mono HB2.out.size)); clear hb3)
    | (go_at_call 23; refine (HCHK2.out _ (HS.out.new HB1.out)).mono ?_; rintro e w2 ⟨rfl, hb2⟩; have HB2 := hid (HB1.out.trans (hb2.mono HB1.out.size)); clear hb2)
    | (go_at_call 22; refine (HCHK.out _ HS.out).mono ?_; rintro e w1 ⟨rfl, hb1⟩; have HB1 := hid hb1; clear hb1))
  obtain ⟨B, hB⟩ : ∃ B, B = decide (E = 0 ∧ (outR a ∨ outR b)) := ⟨_, rfl⟩
  have HBD := hid hB
  clear hB
  go_cut [62] (fun v wx => v = .bool B ∧ wx = w3)
  case first =>
    as_aux_lemma =>
    by_cases hE : E = 0
    · subst hE
      by_cases h1 : a < 0
      · obtain rfl : B = true := by rw [HBD.out]; exact decide_eq_true ⟨rfl, .inl (.inl h1)⟩
        go_wp2_with fail
        go_meet
        exact ⟨rfl, rfl⟩
      by_cases h2 : 4 < a
      · obtain rfl : B = true := by rw [HBD.out]; exact decide_eq_true ⟨rfl, .inl (.inr h2)⟩
        go_wp2_with fail
        go_meet
        exact ⟨rfl, rfl⟩
      by_cases h3 : b < 0
      · obtain rfl : B = true := by rw [HBD.out]; exact decide_eq_true ⟨rfl, .inr (.inl h3)⟩
        go_wp2_with fail
        go_meet
        exact ⟨rfl, rfl⟩
      by_cases h4 : 4 < b
      · obtain rfl : B = true := by rw [HBD.out]; exact decide_eq_true ⟨rfl, .inr (.inr h4)⟩
        go_wp2_with fail
        go_meet
        exact ⟨by first | rfl | simp [h4], rfl⟩
      · obtain rfl : B = false := by rw [HBD.out]; exact decide_eq_false (by unfold outR; omega)
        go_wp2_with fail
        go_meet
        exact ⟨by first | rfl | simp [h4], rfl⟩
    · obtain rfl : B = false := by rw [HBD.out]; exact decide_eq_false (fun h => hE h.1)
      have hE1 : (E == 0) = false := by simpa using hE
      clear hE
      go_wp2_with fail
      go_meet
      exact ⟨rfl, rfl⟩
  case rest =>
    as_aux_lemma =>
    obtain ⟨rfl, rfl⟩ := hcut
    go_upto_if 62 with (fail)
    go_cut [14] (fun v wx => v = .int .i64 f1 ∧ wx = wc)
    case first =>
      as_aux_lemma =>
      cases B with
      | true =>
        have hf := HR1.out
        rw [if_pos (of_decide_eq_true HBD.out.symm)] at hf
        subst hf
        go_wp2_with fail
        go_meet
        exact ⟨rfl, rfl⟩
      | false =>
        have hf := HR1.out
        rw [if_neg (of_decide_eq_false HBD.out.symm)] at hf
        subst hf
        go_wp2_with fail
        go_meet
        exact ⟨rfl, rfl⟩
    case rest =>
      as_aux_lemma =>
      obtain ⟨rfl, rfl⟩ := hcut
      go_upto_if 64 with (fail)
      go_cut [15] (fun v wx => v = .bool rb ∧ Below wc.heap.size wc wx)
      case first =>
        as_aux_lemma =>
        by_cases hf : f1 = 0
        · subst hf
          obtain ⟨hE, ha, hb, hrb⟩ := HR3.out rfl
          subst hE
          obtain ⟨h12, _, hin⟩ := HOK.out rfl
          have ha := roomB_true.1 ha
          have hb := roomB_true.1 hb
          obtain ⟨i, rfl⟩ : ∃ n : Nat, a = n := ⟨a.toNat, by omega⟩
          obtain ⟨j, rfl⟩ : ∃ n : Nat, b = n := ⟨b.toNat, by omega⟩
          have u1 := waysV_get l (show i < 5 by omega) (show j < 5 by omega)
          simp only [Int.toNat_natCast] at hrb
          rw [← hrb] at u1
          have U1 := hid u1
          have HIN := hid hin
          clear hin hrb u1
          go_wp2_with (first
            | (go_at_call 24; refine (rways_any A c l _ (HS.out.new HB3.out) h12 HIN.out).mono ?_; rintro e wC ⟨rfl, hbC⟩; have HBC := hid hbC; clear hbC)
            | (refine wpList_store_rowK rfl 53 _ _ rfl wC.heap.size (waysV l) rfl rfl _ _ (heap_alloc_new wC _) HI75.out (by rw [waysV, bitsA_size]; rfl) HONE.out ?_
               intro wD hrD hkD hzD
               have hbD : Below wc.heap.size wc wD := (HBC.out.alloc HBC.out.size _).trans (hkD.below (by have := HBC.out.size; simp; omega) (fun i h => by have := HBC.out.size; omega))
               have v1 := (blk_cell hrD (i * 5 + j)).trans U1.out
               have HBD2 := hid hbD
               clear hrD hbD hkD hzD))
          go_meet
          exact ⟨rfl, HBD2.out⟩
        · have hrb := HR2.out hf
          subst hrb
          have hf1 : (f1 == 0) = false := by simpa using hf
          clear hf
          go_wp2_with fail
          go_meet
          exact ⟨rfl, Below.refl _ _⟩
      case rest =>
        as_aux_lemma =>
        obtain ⟨rfl, hb⟩ := hcut
        have HBX := hid (HB3.out.trans (hb.mono HB3.out.size))
        clear hb
        obtain ⟨B2, hB2⟩ : ∃ B, B = decide (E = 0 ∧ outR b) := ⟨_, rfl⟩
        have HBD2 := hid hB2
        clear hB2
        go_upto_region 14 with (first
          | (go_at_call 12; refine (error_same f1 _ (HG.out.new HB4.out)).mono ?_; rintro e w5 ⟨rfl, hb5⟩; have HB5 := hid (HB4.out.trans (hb5.mono HB4.out.size)); clear hb5)
          | (go_at_call 25; refine (HRE.out _ (HS.out.new HBX.out)).mono ?_; rintro e w4 ⟨rfl, hb4⟩; have HB4 := hid (HBX.out.trans (hb4.mono HBX.out.size)); clear hb4))
        have HB5x : Hid (Below w.heap.size w w5) := HB5.out
        clear HB3 HBX HB4
        go_cut [97] (fun v wx => v = .bool B2 ∧ wx = w5)
        case first =>
          as_aux_lemma =>
          by_cases hE : E = 0
          · subst hE
            by_cases h3 : b < 0
            · obtain rfl : B2 = true := by rw [HBD2.out]; exact decide_eq_true ⟨rfl, .inl h3⟩
              go_wp2_with fail
              go_meet
              exact ⟨rfl, rfl⟩
            by_cases h4 : 4 < b
            · obtain rfl : B2 = true := by rw [HBD2.out]; exact decide_eq_true ⟨rfl, .inr h4⟩
              go_wp2_with fail
              go_meet
              exact ⟨by first | rfl | simp [h4], rfl⟩
            · obtain rfl : B2 = false := by rw [HBD2.out]; exact decide_eq_false (by unfold outR; omega)
              go_wp2_with fail
              go_meet
              exact ⟨by first | rfl | simp [h4], rfl⟩
          · obtain rfl : B2 = false := by rw [HBD2.out]; exact decide_eq_false (fun h => hE h.1)
            have hE1 : (E == 0) = false := by simpa using hE
            clear hE
            go_wp2_with fail
            go_meet
            exact ⟨rfl, rfl⟩
        case rest =>
          as_aux_lemma =>
          obtain ⟨rfl, rfl⟩ := hcut
          go_upto_if 97 with (fail)
          go_cut [14] (fun v wx => v = .int .i64 f2 ∧ wx = wc)
          case first =>
            as_aux_lemma =>
            cases B2 with
            | true =>
              have hf := HA1.out
              rw [if_pos (of_decide_eq_true HBD2.out.symm)] at hf
              subst hf
              go_wp2_with fail
              go_meet
              exact ⟨rfl, rfl⟩
            | false =>
              have hf := HA1.out
              rw [if_neg (of_decide_eq_false HBD2.out.symm)] at hf
              subst hf
              go_wp2_with fail
              go_meet
              exact ⟨rfl, rfl⟩
          case rest =>
            as_aux_lemma =>
            obtain ⟨rfl, rfl⟩ := hcut
            obtain ⟨wg, hwg⟩ : ∃ wg, wg = wc := ⟨_, rfl⟩
            subst hwg
            go_wp2_with fail
            go_loopw [19, 20, 21] (fun v19 v20 v21 wr => ∃ (k : Nat) (G : Option Addr) (n gc : Nat) (xs : List Int), k ≤ 5 ∧ v20 = .int .i64 k ∧ v19 = .slice G n gc ∧ xs.length = n ∧ Row wr 3 1 G n gc (ints xs) ∧ (∀ i, InA G i → wg.heap.size ≤ i) ∧ Below wg.heap.size wg wr ∧ AhRel f2 xs l b k) (fun _ v20 _ _ => 5 - (intOf v20).toNat)
            case atStart => exact ⟨0, none, 0, 0, [], by omega, rfl, rfl, rfl, Row.nil _ _ _, fun i h => by simp [InA] at h, Below.refl _ _, ⟨fun _ => rfl, fun _ => rfl⟩⟩
            case round =>
              obtain ⟨k, G, n, gc, xs, hk, rfl, rfl, hxn, hrow, hnew, hb, hrel⟩ := hrel
              have hn5 : n ≤ 5 := by
                by_cases h : f2 = 0
                · have := aheadTo_le l b.toNat k; rw [← hrel.1 h, hxn] at this; omega
                · rw [hrel.2 h] at hxn; simp at hxn; omega
              have HXN := hid hxn
              have HROW := hid hrow
              have HNEW := hid hnew
              have HB6 := hid hb
              have HREL := hid hrel
              clear hxn hrow hnew hb hrel
              obtain ⟨B3, hB3⟩ : ∃ B, B = decide (k < 5 ∧ f2 = 0) := ⟨_, rfl⟩
              have HBD3 := hid hB3
              clear hB3
              go_upto_region 18 with (fail)
              go_cut [103] (fun v wx => v = .bool B3 ∧ wx = wr)
              case first =>
                as_aux_lemma =>
                by_cases hk5 : k < 5
                · have hki : (k : Int) < 5 := by omega
                  by_cases hf : f2 = 0
                  · obtain rfl : B3 = true := by rw [HBD3.out]; exact decide_eq_true ⟨hk5, hf⟩
                    have hf1 : (f2 == 0) = true := by simpa using hf
                    clear hf
                    go_wp2_with fail
                    go_meet
                    exact ⟨by first | rfl | simp [hf1], rfl⟩
                  · obtain rfl : B3 = false := by rw [HBD3.out]; exact decide_eq_false (fun h => hf h.2)
                    have hf1 : (f2 == 0) = false := by simpa using hf
                    clear hf
                    go_wp2_with fail
                    go_meet
                    exact ⟨by first | rfl | simp [hf1], rfl⟩
                · obtain rfl : B3 = false := by rw [HBD3.out]; exact decide_eq_false (fun h => hk5 h.1)
                  have hki : ¬ (k : Int) < 5 := by omega
                  go_wp2_with fail
                  go_meet
                  exact ⟨rfl, rfl⟩
              case rest =>
                as_aux_lemma =>
                obtain ⟨rfl, rfl⟩ := hcut
                obtain ⟨wh, hwh⟩ : ∃ wh, wh = wc := ⟨_, rfl⟩
                subst hwh
                cases B3 with
                | true =>
                  obtain ⟨hk5, hf⟩ := of_decide_eq_true HBD3.out.symm
                  obtain ⟨hE, hb, hax⟩ := HA3.out hf
                  have hb := roomB_true.1 hb
                  obtain ⟨h12, _, hin⟩ := HOK.out hE
                  have hxs := HREL.out.1 hf
                  obtain ⟨j, hj⟩ : ∃ n : Nat, b = n := ⟨b.toNat, by omega⟩
                  have j5 : j < 5 := by omega
                  have HIN := hid hin
                  have u1 := waysV_get l hk5 j5
                  have hsuc := aheadTo_succ l j k
                  have hxs2 : xs = aheadTo l j k := by rw [hxs, hj]; simp
                  have HXS := hid hxs2
                  have HF := hid hf
                  have HJ := hid hj
                  have HEE := hid hE
                  subst hj
                  clear hE hb hax hin hxs hxs2 hf
                  have hki : (k : Int) < 5 := by omega
                  cases hr : reachB l k j with
                  | true =>
                    rw [hr] at u1 hsuc
                    have U1 := hid u1
                    have HSUC := hid hsuc
                    clear hsuc hr u1
                    go_wp2_with (first
                      | (go_at_call 24; refine (rways_any A c l _ (HS.out.new (HB5x.out.trans (HB6.out.mono HB5x.out.size))) h12 HIN.out).mono ?_; rintro e wC ⟨rfl, hbC⟩; have HBC := hid hbC; clear hbC)
                      | (refine wpList_store_rowK rfl 53 _ _ rfl wC.heap.size (waysV l) rfl rfl _ _ (heap_alloc_new wC _) HI75.out (by rw [waysV, bitsA_size]; rfl) HONE.out ?_
                         intro wD hrD hkD hzD
                         have hbD : Below wh.heap.size wh wD := (HBC.out.alloc HBC.out.size _).trans (hkD.below (by have := HBC.out.size; simp; omega) (fun i h => by have := HBC.out.size; omega))
                         have v1 := (blk_cell hrD (k * 5 + j)).trans U1.out
                         have HBD4 := hid hbD
                         clear hrD hbD hkD hzD)
                      | (at_builtin
                         refine wpList_append_row _ rfl (.tmp 113) (.tmp 115) 24 rfl 3 i0 (.int .i64 0) 1 8 Tryd.underlying24 hi0 hz0 hz1 hz2 rfl (by decide) G n gc (ints xs) rfl (by exact (HROW.out.new HBD4.out).alloc _)
                           (some ⟨wD.heap.size, 0, none⟩) 1 1 (ints [(k : Int)]) rfl (by exact ⟨rfl, fun _ => ⟨wD.heap.size, 0, rfl, by simp, fun i u hv => by
                              match i, hv with
                              | 0, hv => (simp [ints] at hv; subst hv; rw [Nat.zero_add]; exact (blk_cell (heap_alloc_new wD _) 0).trans rfl)⟩⟩)
                           (ints_one _) (by unfold maxLen; omega) (by omega) ?_
                         intro A4 cap4 w6 hr6 hk6 hi6
                         have HR6 := hid hr6
                         have HK6 := hid hk6
                         have HI6 := hid hi6
                         clear hr6 hk6 hi6))
                    go_roundw
                    case rel =>
                      have hs1 := HB6.out.size
                      have hs2 := HBD4.out.size
                      refine ⟨k + 1, A4, n + 1, cap4, xs ++ [(k : Int)], by omega, by go_num, rfl, by simp [HXN.out], by rw [ints_app]; exact HR6.out, fun i h => ?_, ?_, ⟨fun _ => ?_, fun h => absurd HF.out h⟩⟩
                      · rcases HI6.out i h with h | h
                        · exact HNEW.out i h
                        · simp at h; omega
                      · exact ((HB6.out.trans (HBD4.out.mono hs1)).alloc (by omega) _).trans (HK6.out.below (by simp; omega) (fun i h => HNEW.out i h))
                      · rw [HXS.out, Int.toNat_natCast, HSUC.out]; simp
                    case measure => simp [intOf]; omega
                  | false =>
                    rw [hr] at u1 hsuc
                    have U1 := hid u1
                    have HSUC := hid hsuc
                    clear hsuc hr u1
                    go_wp2_with (first
                      | (go_at_call 24; refine (rways_any A c l _ (HS.out.new (HB5x.out.trans (HB6.out.mono HB5x.out.size))) h12 HIN.out).mono ?_; rintro e wC ⟨rfl, hbC⟩; have HBC := hid hbC; clear hbC)
                      | (refine wpList_store_rowK rfl 53 _ _ rfl wC.heap.size (waysV l) rfl rfl _ _ (heap_alloc_new wC _) HI75.out (by rw [waysV, bitsA_size]; rfl) HONE.out ?_
                         intro wD hrD hkD hzD
                         have hbD : Below wh.heap.size wh wD := (HBC.out.alloc HBC.out.size _).trans (hkD.below (by have := HBC.out.size; simp; omega) (fun i h => by have := HBC.out.size; omega))
                         have v1 := (blk_cell hrD (k * 5 + j)).trans U1.out
                         have HBD4 := hid hbD
                         clear hrD hbD hkD hzD))
                    go_roundw
                    case rel =>
                      have hs1 := HB6.out.size
                      exact ⟨k + 1, G, n, gc, xs, by omega, by go_num, rfl, HXN.out, HROW.out.new HBD4.out, HNEW.out, HB6.out.trans (HBD4.out.mono hs1), ⟨fun _ => by rw [HXS.out, Int.toNat_natCast, HSUC.out]; simp, fun h => absurd HF.out h⟩⟩
                    case measure => simp [intOf]; omega
                | false =>
                  have hno := of_decide_eq_false HBD3.out.symm
                  have hxa : xs = ax := by
                    by_cases hf : f2 = 0
                    · have hk5 : k = 5 := by omega
                      subst hk5
                      rw [HREL.out.1 hf, (HA3.out hf).2.2]
                    · rw [HREL.out.2 hf, HA2.out hf]
                  have hna : n = na := by rw [← HXN.out, hxa, HNA.out]
                  subst hna
                  have hrow := HROW.out
                  rw [hxa] at hrow
                  have HROW2 := hid hrow
                  have HBY := hid (HB5x.out.trans (HB6.out.mono HB5x.out.size))
                  clear hno hxa hrow HROW HXN HREL HBD3
                  obtain ⟨B4, hB4⟩ : ∃ B, B = decide (E = 0 ∧ m ≠ 5) := ⟨_, rfl⟩
                  have HBD4 := hid hB4
                  clear hB4
                  go_upto_region 25 with (first
                    | (go_at_call 27; refine (same_ints A7 G n c7 gc ax _ (HR7.out.new HB8.out).sl (HROW2.out.new (HB7.out.trans (HB8.out.mono HB7.out.size))).sl (by omega) HR7.out.le.1 HROW2.out.le.1).mono ?_; rintro e w9 ⟨rfl, d9, hw9⟩; have HB9 : Hid (Below wh.heap.size wh w9) := (by rw [hw9]; exact ⟨(HB7.out.trans (HB8.out.mono HB7.out.size)).os, (HB7.out.trans (HB8.out.mono HB7.out.size)).tape, (HB7.out.trans (HB8.out.mono HB7.out.size)).output, (HB7.out.trans (HB8.out.mono HB7.out.size)).size, (HB7.out.trans (HB8.out.mono HB7.out.size)).block⟩); clear hw9)
                    | (go_at_call 12; refine (error_same f2 _ (HG.out.new (HBY.out.trans (HB7.out.mono HBY.out.size)))).mono ?_; rintro e w8 ⟨rfl, hb8⟩; have HB8 := hid hb8; clear hb8)
                    | (go_at_call 26; refine (HAH.out _ (HS.out.new HBY.out)).mono ?_; rintro e w7 ⟨A7, c7, rfl, hr7, _, hb7⟩; rw [show (ax, f2).1.length = n from HNA.out.symm] at *; have HR7 := hid hr7; have HB7 := hid hb7; clear hr7 hb7))
                  have HBZ := hid (HBY.out.trans (HB9.out.mono HBY.out.size))
                  obtain ⟨e3, he3⟩ : ∃ e, e = if E = 0 ∧ m ≠ 5 then 3 else E := ⟨_, rfl⟩
                  have HE3 := hid he3
                  have h93 : e3 ≠ 0 → e9 = e3 := by
                    intro h
                    rw [HE9.out]
                    by_cases hE : E = 0
                    · by_cases hm5 : m = 5
                      · rw [he3, if_neg (by omega)] at h; exact absurd hE h
                      · rw [if_neg (by simp [hE]), if_pos hm5, he3, if_pos ⟨hE, hm5⟩]
                    · rw [if_pos hE, he3, if_neg (by omega)]
                  have h30 : e3 = 0 → E = 0 ∧ m = 5 ∧ e9 = if l.any (leadsDown lv) then 8 else 0 := by
                    intro h
                    by_cases hE : E = 0
                    · by_cases hm5 : m = 5
                      · refine ⟨hE, hm5, ?_⟩
                        rw [HE9.out, if_neg (by simp [hE]), if_neg (by simp [hm5])]
                      · rw [he3, if_pos ⟨hE, hm5⟩] at h; exact absurd h (by decide)
                    · rw [he3, if_neg (fun h => hE h.1)] at h; exact absurd h hE
                  have H93 := hid h93
                  have H30 := hid h30
                  clear he3 h93 h30 HROW2 HR7 HB7 HB8 HB9 HBY
                  go_cut [137] (fun v wx => v = .bool B4 ∧ wx = w9)
                  case first =>
                    as_aux_lemma =>
                    by_cases hE : E = 0
                    · by_cases hm5 : m = 5
                      · obtain rfl : B4 = false := by rw [HBD4.out]; exact decide_eq_false (fun h => h.2 hm5)
                        subst hm5
                        have hE1 : (E == 0) = true := by simpa using hE
                        clear hE
                        go_wp2_with fail
                        go_meet
                        exact ⟨by first | rfl | simp [hE1], rfl⟩
                      · obtain rfl : B4 = true := by rw [HBD4.out]; exact decide_eq_true ⟨hE, hm5⟩
                        have hE1 : (E == 0) = true := by simpa using hE
                        have hm1 : ((m : Int) != 5) = true := by simp; omega
                        clear hE
                        go_wp2_with fail
                        go_meet
                        exact ⟨by first | rfl | simp [hE1, hm1], rfl⟩
                    · obtain rfl : B4 = false := by rw [HBD4.out]; exact decide_eq_false (fun h => hE h.1)
                      have hE1 : (E == 0) = false := by simpa using hE
                      clear hE
                      go_wp2_with fail
                      go_meet
                      exact ⟨rfl, rfl⟩
                  case rest =>
                    as_aux_lemma =>
                    obtain ⟨rfl, rfl⟩ := hcut
                    go_upto_if 137 with (fail)
                    go_cut [10] (fun v wx => v = .int .i64 e3 ∧ wx = wc)
                    case first =>
                      as_aux_lemma =>
                      cases B4 with
                      | true =>
                        have hf := HE3.out
                        rw [if_pos (of_decide_eq_true HBD4.out.symm)] at hf
                        subst hf
                        go_wp2_with fail
                        go_meet
                        exact ⟨rfl, rfl⟩
                      | false =>
                        have hf := HE3.out
                        rw [if_neg (of_decide_eq_false HBD4.out.symm)] at hf
                        subst hf
                        go_wp2_with fail
                        go_meet
                        exact ⟨rfl, rfl⟩
                    case rest =>
                      as_aux_lemma =>
                      obtain ⟨rfl, rfl⟩ := hcut
                      obtain ⟨wj, hwj⟩ : ∃ wj, wj = wc := ⟨_, rfl⟩
                      subst hwj
                      go_wp2_with fail
                      go_loopw [10, 24] (fun v10 v24 wr => ∃ (k : Nat) (e : Int), k ≤ l.length ∧ v24 = .int .i64 k ∧ v10 = .int .i64 e ∧ LvRel e3 e l lv k ∧ Below wj.heap.size wj wr) (fun _ v24 _ => l.length - (intOf v24).toNat)
                      case atStart => exact ⟨0, e3, by omega, rfl, rfl, (by unfold LvRel; by_cases h : e3 = 0 <;> simp [h]), Below.refl _ _⟩
                      case round =>
                        obtain ⟨k, e, hk, rfl, rfl, hrel, hb⟩ := hrel
                        have HREL := hid hrel
                        have HBW := hid (HBZ.out.trans (hb.mono HBZ.out.size))
                        have HB0 := hid hb
                        clear hrel hb
                        obtain ⟨B5, hB5⟩ : ∃ B, B = decide (k < l.length ∧ e = 0) := ⟨_, rfl⟩
                        have HBD5 := hid hB5
                        clear hB5
                        go_upto_region 28 with (fail)
                        go_cut [145] (fun v wx => v = .bool B5 ∧ wx = wr)
                        case first =>
                          as_aux_lemma =>
                          by_cases hk5 : k < l.length
                          · by_cases hf : e = 0
                            · obtain rfl : B5 = true := by rw [HBD5.out]; exact decide_eq_true ⟨hk5, hf⟩
                              have hf1 : (e == 0) = true := by simpa using hf
                              clear hf
                              go_wp2_with fail
                              go_meet
                              exact ⟨by first | rfl | simp [hf1], rfl⟩
                            · obtain rfl : B5 = false := by rw [HBD5.out]; exact decide_eq_false (fun h => hf h.2)
                              have hf1 : (e == 0) = false := by simpa using hf
                              clear hf
                              go_wp2_with fail
                              go_meet
                              exact ⟨by first | rfl | simp [hf1], rfl⟩
                          · obtain rfl : B5 = false := by rw [HBD5.out]; exact decide_eq_false (fun h => hk5 h.1)
                            go_wp2_with fail
                            go_meet
                            exact ⟨rfl, rfl⟩
                        case rest =>
                          as_aux_lemma =>
                          obtain ⟨rfl, rfl⟩ := hcut
                          obtain ⟨wn, hwn⟩ : ∃ wn, wn = wc := ⟨_, rfl⟩
                          subst hwn
                          cases B5 with
                          | true =>
                            obtain ⟨hkl, rfl⟩ := of_decide_eq_true HBD5.out.symm
                            have hr0 := HREL.out
                            unfold LvRel at hr0
                            have h3 : e3 = 0 := by
                              by_cases h : e3 = 0
                              · exact h
                              · rw [if_pos h] at hr0; exact absurd hr0.symm h
                            rw [if_neg (by simp [h3])] at hr0
                            have hany : (l.take k).any (leadsDown lv) = false := by
                              cases h : (l.take k).any (leadsDown lv) with
                              | false => rfl
                              | true => rw [h] at hr0; simp at hr0
                            obtain ⟨hE, hm5, _⟩ := H30.out h3
                            obtain ⟨h12, _, hin⟩ := HOK.out hE
                            obtain ⟨b', off, rfl, hlb, g0, g1, g2, g3⟩ := HS.out.wire HBW.out hkl hkl
                            obtain ⟨lb, lo, rfl, hlb2, hcell⟩ := HS2.out.int HBW.out (by rw [HM.out]; omega)
                            have hget := List.getElem?_eq_getElem hkl
                            have hinx := hin l[k] (List.getElem_mem hkl)
                            generalize l[k] = x at g0 g1 g2 g3 hget hinx
                            obtain ⟨f, t, kk, dd⟩ := x
                            obtain ⟨⟨hf0, hf5⟩, ht0, ht5⟩ := hinx
                            simp only [] at g0 g1 hf0 hf5 ht0 ht5
                            obtain ⟨t, rfl⟩ : ∃ n : Nat, t = n := ⟨t.toNat, by omega⟩
                            obtain ⟨f, rfl⟩ : ∃ n : Nat, f = n := ⟨f.toNat, by omega⟩
                            have q1 := hcell f (by rw [HM.out]; omega)
                            have q2 := hcell t (by rw [HM.out]; omega)
                            have hsn := any_snoc (p := leadsDown lv) hget
                            have hld : leadsDown lv ⟨f, t, kk, dd⟩ = decide (lv.getD t 0 < lv.getD f 0) := rfl
                            have HSN := hid hsn
                            have HLD := hid hld
                            have H3 := hid h3
                            have HANY := hid hany
                            have h5f : (f : Int) < (m : Int) := by omega
                            have h5t : (t : Int) < (m : Int) := by omega
                            have h5fn : f < m := by omega
                            have h5tn : t < m := by omega
                            clear hcell hget hsn hld h3 hany hr0 hE hin g2 g3 hm5
                            generalize lv.getD f 0 = vf at q1 HLD
                            generalize lv.getD t 0 = vt at q2 HLD
                            by_cases hd : vt < vf
                            · have HLD2 := hid (HLD.out.trans (decide_eq_true hd))
                              go_wp2_with fail
                              go_quiet (fail)
                              go_wp2_with fail
                              go_roundw
                              case rel => exact ⟨k + 1, 8, by omega, by go_num, rfl, (by unfold LvRel; rw [if_neg (by simp [H3.out]), HSN.out, HLD2.out]; simp), ⟨HB0.out.os, HB0.out.tape, HB0.out.output, HB0.out.size, HB0.out.block⟩⟩
                              case measure => simp [intOf]; omega
                            · have HLD2 := hid (HLD.out.trans (decide_eq_false hd))
                              go_wp2_with fail
                              go_quiet (fail)
                              go_wp2_with fail
                              go_roundw
                              case rel => exact ⟨k + 1, 0, by omega, by go_num, rfl, (by unfold LvRel; rw [if_neg (by simp [H3.out]), HSN.out, HLD2.out, HANY.out]; rfl), ⟨HB0.out.os, HB0.out.tape, HB0.out.output, HB0.out.size, HB0.out.block⟩⟩
                              case measure => simp [intOf]; omega
                          | false =>
                            have hno := of_decide_eq_false HBD5.out.symm
                            have he : e = e9 := by
                              have hr0 := HREL.out
                              unfold LvRel at hr0
                              by_cases h : e3 = 0
                              · rw [if_neg (by simp [h])] at hr0
                                rw [(H30.out h).2.2]
                                by_cases hkl : k = l.length
                                · subst hkl; rw [List.take_length] at hr0; exact hr0
                                · have hne : e ≠ 0 := fun h0 => hno ⟨by omega, h0⟩
                                  have ht : (l.take k).any (leadsDown lv) = true := by
                                    cases h : (l.take k).any (leadsDown lv) with
                                    | true => rfl
                                    | false => rw [h] at hr0; exact absurd hr0 hne
                                  rw [ht] at hr0
                                  have hl : l.any (leadsDown lv) = true := by
                                    obtain ⟨x, hx, hp⟩ := List.any_eq_true.1 ht
                                    exact List.any_eq_true.2 ⟨x, List.mem_of_mem_take hx, hp⟩
                                  rw [hl, hr0]
                              · rw [if_pos h] at hr0
                                rw [hr0, H93.out h]
                            subst he
                            clear hno
                            go_wp2_with (first
                              | (go_at_call 12; refine (error_same e _ (HG.out.new HBV.out)).mono ?_; rintro ee wW ⟨rfl, hbW⟩; have HBQ := hid (HBV.out.trans (hbW.mono HBV.out.size)); clear hbW)
                              | (go_at_call 28; refine (HLV.out _ (HS.out.new HBW.out) (by have h := HS2.out.new HBW.out; rw [HM.out] at h; exact h)).mono ?_; rintro ee wV ⟨rfl, hbV⟩; have HBV := hid (HBW.out.trans (hbV.mono HBW.out.size)); clear hbV))
                            go_ret
                            exact ⟨rfl, HBQ.out⟩
end Go.Proofs.YtfokcjooibmigaaDoor
