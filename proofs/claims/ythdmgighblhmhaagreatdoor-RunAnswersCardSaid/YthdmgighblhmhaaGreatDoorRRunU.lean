/- Several parts: each begins with what it says. -/
import Derived.Test.YthdmgighblhmhaaGreatDoorRunAU
import Derived.Test.YthdmgighblhmhaaGreatDoorRKernU
import Derived.Test.YthdmgighblhmhaaGreatDoorREvW
import Derived.Test.YthdmgighblhmhaaGreatDoorRNumsW
import Derived.Test.YthdmgighblhmhaaGreatDoorDeskU
import Derived.Test.YthdmgighblhmhaaGreatDoorPart
import Derived.BigQuiet
import Derived.Deep.RegionHeld3
import Derived.Deep.DeepCutAuto
import Derived.Test.YthdmgighblhmhaaGreatDoorRTextU
import Derived.Test.YthdmgighblhmhaaGreatDoorRunPBU
import Derived.Test.YthdmgighblhmhaaGreatDoorOwnU
import Derived.Test.YthdmgighblhmhaaGreatDoorStandU
import Derived.Test.YthdmgighblhmhaaGreatDoorRunTU
/- The reference (package frameref2): what Line leans on: a kernel that stands, the words of a line, its numbers, errName and Poke. Conditions: none. -/
namespace Go.Proofs.YthdmgighblhmhaaGreatDoor
open Go.RowKit
set_option maxRecDepth 100000

abbrev rrT (kb : Nat) (p : Pl) (M : KM) (k : Kst) : Tg := kT 59 67 60 kb p M k
section
variable {w0 w : World} {kb : Nat} {M : KM} {k : Kst} {ts : List Tg}
theorem rr_tick {B : Int} (h : Stand w0 w (rrT kb runPl M k :: ts)) (hk : KOk runPl k B) (hB : B < 4611686018427387904) :
    Calls Tryz.prog 21 #[.pointer (some ⟨kb, 0, none⟩)] w fun e w' => ∃ M', e = .returned (.agg #[.int .i64 (tick runPl k).1.tick, .int .i64 (tick runPl k).1.room, .int .i64 (tick runPl k).1.pc, .int .i64 (tick runPl k).1.what]) ∧ Stand w0 w' (rrT kb runPl M' (tick runPl k).2 :: ts) := by
  have hl := h.get (i := 0) rfl
  refine (rtick_any w kb M k runPl B runPl_ok hl.here.2 hk hB hl.here.1).mono ?_
  rintro e w' ⟨M', rfl, h1, h2, h3, h4⟩
  exact ⟨M', rfl, h.go 0 rfl (k_went hl h1 h2 h3 h4)⟩
theorem rr_poke (r c v : Int) {B : Int} (hk : KOk runPl k B) (h : Stand w0 w (rrT kb runPl M k :: ts)) :
    Calls Tryz.prog 24 #[.pointer (some ⟨kb, 0, none⟩), .int .i64 r, .int .i64 c, .int .i64 v] w fun e w' => ∃ er k', e = .returned (.int .i64 er) ∧ ((pokeOk 2 r c v = true ∧ er = 0 ∧ k' = pokeK k r c v) ∨ (pokeOk 2 r c v = false ∧ er = 1 ∧ k' = k)) ∧ Stand w0 w' (rrT kb runPl M k' :: ts) := by
  have hl := h.get (i := 0) rfl
  have hlen := run_rooms hk
  cases hb : pokeOk 2 r c v with
  | true =>
    refine (rpoke_ok r c v (by rw [hlen]; decide) hl.here.1 (by rw [hlen]; exact hb)).mono ?_
    rintro e w' ⟨rfl, h1, h2, _⟩
    exact ⟨0, _, rfl, .inl ⟨rfl, rfl, rfl⟩, h.go 0 rfl (k_went hl h1 ⟨rfl, rfl⟩ h2 fun j hj => .inl hj)⟩
  | false =>
    refine (rpoke_bad r c v (by rw [hlen]; decide) hl.here.1 (by rw [hlen]; exact hb)).mono ?_
    rintro e w' ⟨rfl, rfl⟩
    exact ⟨1, _, rfl, .inr ⟨rfl, rfl, rfl⟩, h⟩
set_option maxHeartbeats 1000000 in
theorem errname_any (w : World) : Calls Tryz.prog 20 #[.int .i64 1] w fun e w' => e = .returned (.string ⟨#[69, 114, 114, 82, 97, 110, 103, 101]⟩) ∧ Below w.heap.size w w' := by
  go_enter Tryz.func20, Tryz.ntmps20
  go_wp2_with fail
  go_ret
  exact ⟨rfl, (Below.refl _ _).alloc (Nat.le_refl _) _⟩
end
/-- What Line hands back. -/
def RAnsGot (w0 : World) (ts : List Tg) (kb : Nat) (q : List UInt8 × Kst) (e : Ending) (w' : World) : Prop :=
  ∃ (T : ByteArray) (M' : KM), e = .returned (.string T) ∧ T.data.toList = q.1 ∧ Stand w0 w' (rrT kb runPl M' q.2 :: ts)
def RCut4 (v0 : List UInt8) (vs : List (List UInt8)) (n : Nat) (w : World) (e : Ending) (w' : World) : Prop := ∃ b off cap, e = .returned (.slice (some ⟨b, off, none⟩) n cap) ∧ Row w' 9 1 (some ⟨b, off, none⟩) n cap ((v0 :: vs).map txt) ∧ Below w.heap.size w w'
/-- The words of a line and its numbers. -/
theorem rr_words (S : ByteArray) (hS : S.size ≤ 100000) {v0 : List UInt8} {vs : List (List UInt8)} (hc : cutA 32 [] S.data.toList = v0 :: vs) : ∃ n : Nat, 1 ≤ n ∧ n ≤ 100001 ∧
    (∀ w, Calls Tryz.prog 7 #[.string S, .int .u8 32] w (RCut4 v0 vs n w)) ∧ (∀ A cap w, Row w 9 1 A n cap ((v0 :: vs).map txt) → Calls Tryz.prog 19 #[.slice A n cap, .int .i64 4] w (RNumsGot 4 vs w)) := by
  have hvs : ∀ x ∈ vs, x.length ≤ 1099511627776 := fun x hx => by
    have := cutA_le 32 S.data.toList [] x (by rw [hc]; simp [hx])
    simp only [List.length_nil, Nat.zero_add] at this
    rw [← Lib.size_eq] at this; omega
  have hmany : vs.length + 1 ≤ 100001 := by
    have h1 := cutA_len 32 S.data.toList []
    rw [hc] at h1
    have h2 := List.count_le_length (a := (32 : UInt8)) (l := S.data.toList)
    rw [← Lib.size_eq] at h2
    simp only [List.length_cons] at h1
    omega
  refine ⟨vs.length + 1, by omega, hmany, fun w => ?_, fun A cap w hr => rnumbers_any v0 vs A _ cap 4 (by decide) rfl (by omega) hvs w hr⟩
  refine (cut_any S 32 w (by omega)).mono ?_
  rw [hc]
  rintro e w' ⟨A, cap, rfl, hrow, _, hb⟩
  obtain ⟨b, off, rfl, _, _⟩ := hrow.sl.2 (by simp)
  exact ⟨b, off, cap, rfl, hrow, hb⟩
theorem rr_nums {vs : List (List UInt8)} {ns : List Nat} {w w' : World} {e : Ending} (h : RNumsGot 4 vs w e w') (hn : numsOf 4 vs = some ns) : ∃ A c, e = .returned (.tuple #[.slice A ns.length c, .bool true]) ∧ Row w' 3 1 A ns.length c (ints (ns.map Int.ofNat)) ∧ (∀ i, InA A i → w.heap.size ≤ i) ∧ Below w.heap.size w w' := by
  obtain ⟨hb, ⟨ns', A, m, c, h1, h2, rfl, h3, h4⟩ | ⟨h1, _⟩⟩ := h
  · rw [hn] at h1
    obtain rfl := Option.some.inj h1
    subst h2
    exact ⟨A, c, rfl, h3, h4, hb⟩
  · rw [hn] at h1; cases h1
theorem rr_none {vs : List (List UInt8)} {w w' : World} {e : Ending} (h : RNumsGot 4 vs w e w') (hn : numsOf 4 vs = none) : e = .returned (.tuple #[.slice none 0 0, .bool false]) ∧ Below w.heap.size w w' := by
  obtain ⟨hb, ⟨ns', A, m, c, h1, _⟩ | ⟨_, h1⟩⟩ := h
  · rw [hn] at h1; cases h1
  · exact ⟨h1, hb⟩
theorem rr_word {w : World} {b off n c : Nat} {v0 : List UInt8} {vs : List (List UInt8)} (h : Row w 9 1 (some ⟨b, off, none⟩) n c ((v0 :: vs).map txt)) : ∃ V : ByteArray, w.cell? ⟨b, off, none⟩ = some (.string V) ∧ V.toList = v0 ∧ b < w.heap.size := by
  have hl := h.sl.1
  simp only [List.length_map, List.length_cons] at hl
  obtain ⟨b', o', e, hb, hx⟩ := h.sl.2 (by omega)
  injection e with e
  injection e with e1 e2
  subst e1 e2
  exact ⟨⟨v0.toArray⟩, hx 0 _ rfl, by rw [Lib.toList_data], hb⟩
theorem Stand.swap2 {w0 w : World} {ts : List Tg} {a b : Tg} (h : Stand w0 w (b :: a :: ts)) : Stand w0 w (a :: b :: ts) := by
  refine h.sub (fun i => if i = 0 then 1 else if i = 1 then 0 else i) (fun i u hi => ?_) (fun i j h1 h2 hne => ?_)
  · match i, hi with
    | 0, hi => exact hi
    | 1, hi => exact hi
    | i + 2, hi => exact hi
  · repeat' split
    all_goals omega
theorem Stand.drop1 {w0 w : World} {ts : List Tg} {a b : Tg} (h : Stand w0 w (a :: b :: ts)) : Stand w0 w (a :: ts) := by
  refine h.sub (fun i => if i = 0 then 0 else i + 1) (fun i u hi => ?_) (fun i j h1 h2 hne => ?_)
  · match i, hi with
    | 0, hi => exact hi
    | i + 1, hi => exact hi
  · repeat' split
    all_goals omega
theorem rr_put {w0 w w' : World} {ts : List Tg} {a : Tg} {A : Option Addr} {n : Nat} {xs : List Value} (h : Stand w0 w (a :: ts)) (hb : Below w.heap.size w w') (hs : Sl w' A 1 n xs) (hf : ∀ i, InA A i → w.heap.size ≤ i) : Stand w0 w' (a :: slT A 1 n xs :: ts) :=
  (h.add hb (sl_lie hs) (fun _ hj => hj.elim) (fun j hj => .inl (hf j hj.2))).head.swap2
theorem rr_cells {w0 w : World} {ts : List Tg} {a : Tg} {b off n : Nat} {xs : List Value} (h : Stand w0 w (a :: slT (some ⟨b, off, none⟩) 1 n xs :: ts)) : ∀ (i : Nat) u, xs[i]? = some u → w.cell? ⟨b, off + i, none⟩ = some u := fun i u hu => by
  have hs : Sl w (some ⟨b, off, none⟩) 1 n xs := (h.get (i := 1) rfl).here
  have hn := hs.1
  have hl := (List.getElem?_eq_some_iff.1 hu).1
  obtain ⟨b', o', e, _, hx⟩ := hs.2 (by omega)
  injection e with e
  injection e with e1 e2
  subst e1 e2
  exact hx i u hu
end Go.Proofs.YthdmgighblhmhaaGreatDoor

/- The reference (package frameref2): Line at go, tick and poke, and at what has not its words. Conditions: none. -/
namespace Go.Proofs.YthdmgighblhmhaaGreatDoor
open Go.RowKit
set_option maxRecDepth 100000

section
variable {w0 w : World} {kb : Nat} {M : KM} {k : Kst} {ts : List Tg}
set_option maxHeartbeats 8000000 in
theorem rl_go {B : Int} (hk : KOk runPl k B) (hB : B ≤ 900000) (s : ByteArray) (hs : s.size ≤ 100000) {vs : List (List UInt8)} (hc : cutA 32 [] s.data.toList = goW :: vs) {a : Nat} (hn : numsOf 4 vs = some [a]) (h : Stand w0 w (rrT kb runPl M k :: ts)) :
    Calls Tryz.prog 10 #[.pointer (some ⟨kb, 0, none⟩), .string s] w (RAnsGot w0 ts kb (wordA k goW [a])) := by
  obtain ⟨n, hn1, hn2, hcutc, hnumc⟩ := rr_words s hs hc
  have HST := hid h
  have HK := hid hk
  have HCUT := hid hcutc
  have HN := hid hn
  clear h hk hcutc
  go_enter Tryz.func10, Tryz.ntmps10
  go_upto_region 2 with (go_at_call 7; refine (HCUT.out w).mono ?_; rintro e w1 ⟨wb, wo, wc, rfl, hr1, hb1⟩; have HR1 := hid hr1; have HB1 := hid hb1; clear hr1 hb1 HCUT)
  have HNUM := hid (hnumc _ wc w1 HR1.out)
  have HST1 := hid (HST.out.new HB1.out)
  clear hnumc HST
  have ha : a < 10000 := nums_lt4 hn a (by simp)
  clear hn
  go_upto_region 3 with (go_at_call 19; refine HNUM.out.mono ?_; intro e w2 hgot; obtain ⟨A, c, rfl, hr2, hf2, hb2⟩ := rr_nums hgot HN.out; have HST2 := hid (rr_put HST1.out hb2 hr2.sl hf2); have hcl := hr2.le; have HB2 := hid hb2; clear hgot hr2 hf2 hb2 HNUM HST1)
  obtain ⟨V, hV0, hV, hVl⟩ := rr_word (HR1.out.new HB2.out)
  unfold maxLen at hcl
  obtain ⟨hcl1, hcl2⟩ := hcl
  simp only [List.length_cons, List.length_nil] at hcl1
  have hn0 : (0 : Int) < n := by omega
  have hnN : 0 < n := by omega
  have hnI : (1 : Int) ≤ n := by omega
  have e0 : (V.toList == ([103, 111] : List UInt8)) = true := by rw [hV]; decide
  obtain ⟨nb, off, rfl, hnb, _⟩ := (show Sl w2 A 1 1 (ints ([a].map Int.ofNat)) from (HST2.out.get (i := 1) rfl).here).2 (by decide)
  have y0 : w2.cell? ⟨nb, off, none⟩ = some (.int .i64 a) := rr_cells HST2.out 0 _ rfl
  have HV := hid hV
  clear hV
  by_cases ha1 : 100 < a
  · have ha2 : (100 : Int) < a := by omega
    go_wp2_with (go_at_call 20; refine (errname_any w2).mono ?_; rintro e w3 ⟨rfl, hb3⟩; have HST3 := hid (HST2.out.new hb3); clear hb3)
    go_ret
    rw [wordA_go, if_pos ha1]
    exact ⟨_, M, rfl, rfl, HST3.out.drop1⟩
  · have HA1 := hid ha1
    have ha2 : (a : Int) ≤ 100 := by omega
    clear ha1
    go_wp2_with fail
    go_loopw [8] (fun v8 wr => ∃ (i : Nat) (M' : KM), i ≤ a ∧ v8 = .int .i64 i ∧ Stand w0 wr (rrT kb runPl M' (goK runPl k i) :: slT (some ⟨nb, off, none⟩) 1 1 (ints ([a].map Int.ofNat)) :: ts)) (fun v8 _ => a - (intOf v8).toNat)
    case atStart => exact ⟨0, M, by omega, rfl, HST2.out⟩
    case round =>
      obtain ⟨i, M', hi, rfl, hst⟩ := hrel
      have HS := hid hst
      have z0 : wr.cell? ⟨nb, off, none⟩ = some (.int .i64 a) := rr_cells hst 0 _ rfl
      have hlz := cell_lt z0
      clear hst
      by_cases hia : i < a
      · have HT := hid (rr_tick HS.out (goK_ok runPl_ok HK.out i) (by omega))
        go_wp2_with (go_at_call 21; refine HT.out.mono ?_; rintro e w3 ⟨M2, rfl, hst3⟩; have HS3 : Hid (Stand w0 w3 (rrT kb runPl M2 (goK runPl k (i + 1)) :: slT (some ⟨nb, off, none⟩) 1 1 (ints ([a].map Int.ofNat)) :: ts)) := hid hst3; clear hst3 HT)
        go_roundw
        case rel => exact ⟨i + 1, M2, by omega, by go_num, HS3.out⟩
        case measure => simp [intOf]; omega
      · obtain rfl : i = a := by omega
        go_wp2_with fail
        go_ret
        rw [wordA_go, if_neg HA1.out]
        exact ⟨_, M', rfl, rfl, HS.out.drop1⟩
set_option maxHeartbeats 8000000 in
theorem rl_tick {B : Int} (hk : KOk runPl k B) (hB : B ≤ 900000) (s : ByteArray) (hs : s.size ≤ 100000) {vs : List (List UInt8)} (hc : cutA 32 [] s.data.toList = tickW :: vs) (hn : numsOf 4 vs = some []) (h : Stand w0 w (rrT kb runPl M k :: ts)) :
    Calls Tryz.prog 10 #[.pointer (some ⟨kb, 0, none⟩), .string s] w (RAnsGot w0 ts kb (wordA k tickW [])) := by
  obtain ⟨n, hn1, hn2, hcutc, hnumc⟩ := rr_words s hs hc
  have HST := hid h
  have HK := hid hk
  have HCUT := hid hcutc
  have HN := hid hn
  clear h hk hcutc
  go_enter Tryz.func10, Tryz.ntmps10
  go_upto_region 2 with (go_at_call 7; refine (HCUT.out w).mono ?_; rintro e w1 ⟨wb, wo, wc, rfl, hr1, hb1⟩; have HR1 := hid hr1; have HB1 := hid hb1; clear hr1 hb1 HCUT)
  have HNUM := hid (hnumc _ wc w1 HR1.out)
  have HST1 := hid (HST.out.new HB1.out)
  clear hnumc HST
  clear hn
  go_upto_region 3 with (go_at_call 19; refine HNUM.out.mono ?_; intro e w2 hgot; obtain ⟨A, c, rfl, hr2, hf2, hb2⟩ := rr_nums hgot HN.out; have HST2 := hid (rr_put HST1.out hb2 hr2.sl hf2); have hcl := hr2.le; have HB2 := hid hb2; clear hgot hr2 hf2 hb2 HNUM HST1)
  obtain ⟨V, hV0, hV, hVl⟩ := rr_word (HR1.out.new HB2.out)
  unfold maxLen at hcl
  obtain ⟨hcl1, hcl2⟩ := hcl
  simp only [List.length_nil] at hcl1
  have hn0 : (0 : Int) < n := by omega
  have hnN : 0 < n := by omega
  have hnI : (1 : Int) ≤ n := by omega
  have e0 : (V.toList == ([103, 111] : List UInt8)) = false := by rw [hV]; decide
  have e1 : (V.toList == ([116, 105, 99, 107] : List UInt8)) = true := by rw [hV]; decide
  have HV := hid hV
  clear hV
  have htk := rr_tick HST2.out HK.out (by omega)
  have hev := evr_right runPl_ok HK.out (by have := HK.out.timeB; omega)
  obtain ⟨ev, hev1⟩ : ∃ ev, ev = (tick runPl k).1 := ⟨_, rfl⟩
  obtain ⟨k2, hk2⟩ : ∃ k2, k2 = (tick runPl k).2 := ⟨_, rfl⟩
  rw [← hev1, ← hk2] at htk
  rw [← hev1] at hev
  have HEV1 := hid hev1
  have HK2 := hid hk2
  have HTK := hid htk
  have HEV := hid hev
  clear htk hev hev1 hk2
  go_wp2_with (first
    | (go_at_call 22; refine (revtext_any ev HEV.out w3).mono ?_; rintro e w4 ⟨T, rfl, hT, hb4⟩; have HT4 := hid hT; have HST4 := hid (HST3.out.new hb4); clear hT hb4)
    | (go_at_call 21; refine HTK.out.mono ?_; rintro e w3 ⟨M2, rfl, hst3⟩; have HST3 := hid hst3; clear hst3 HTK))
  go_ret
  rw [wordA_tick, ← HEV1.out, ← HK2.out]
  exact ⟨T, M2, rfl, HT4.out, HST4.out.drop1⟩
set_option maxHeartbeats 8000000 in
theorem rl_poke {B : Int} (hk : KOk runPl k B) (s : ByteArray) (hs : s.size ≤ 100000) {vs : List (List UInt8)} (hc : cutA 32 [] s.data.toList = pokeW :: vs) {a a1 a2 : Nat} (hn : numsOf 4 vs = some [a, a1, a2]) (h : Stand w0 w (rrT kb runPl M k :: ts)) :
    Calls Tryz.prog 10 #[.pointer (some ⟨kb, 0, none⟩), .string s] w (RAnsGot w0 ts kb (wordA k pokeW [a, a1, a2])) := by
  obtain ⟨n, hn1, hn2, hcutc, hnumc⟩ := rr_words s hs hc
  have HST := hid h
  have HK := hid hk
  have HCUT := hid hcutc
  have HN := hid hn
  clear h hk hcutc
  go_enter Tryz.func10, Tryz.ntmps10
  go_upto_region 2 with (go_at_call 7; refine (HCUT.out w).mono ?_; rintro e w1 ⟨wb, wo, wc, rfl, hr1, hb1⟩; have HR1 := hid hr1; have HB1 := hid hb1; clear hr1 hb1 HCUT)
  have HNUM := hid (hnumc _ wc w1 HR1.out)
  have HST1 := hid (HST.out.new HB1.out)
  clear hnumc HST
  clear hn
  go_upto_region 3 with (go_at_call 19; refine HNUM.out.mono ?_; intro e w2 hgot; obtain ⟨A, c, rfl, hr2, hf2, hb2⟩ := rr_nums hgot HN.out; have HST2 := hid (rr_put HST1.out hb2 hr2.sl hf2); have hcl := hr2.le; have HB2 := hid hb2; clear hgot hr2 hf2 hb2 HNUM HST1)
  obtain ⟨V, hV0, hV, hVl⟩ := rr_word (HR1.out.new HB2.out)
  unfold maxLen at hcl
  obtain ⟨hcl1, hcl2⟩ := hcl
  simp only [List.length_cons, List.length_nil] at hcl1
  have hn0 : (0 : Int) < n := by omega
  have hnN : 0 < n := by omega
  have hnI : (1 : Int) ≤ n := by omega
  have e0 : (V.toList == ([103, 111] : List UInt8)) = false := by rw [hV]; decide
  have e1 : (V.toList == ([116, 105, 99, 107] : List UInt8)) = false := by rw [hV]; decide
  have e2 : (V.toList == ([115, 104, 111, 119] : List UInt8)) = false := by rw [hV]; decide
  have e3 : (V.toList == ([119, 105, 114, 101] : List UInt8)) = false := by rw [hV]; decide
  have e4 : (V.toList == ([112, 111, 107, 101] : List UInt8)) = true := by rw [hV]; decide
  obtain ⟨nb, off, rfl, hnb, _⟩ := (show Sl w2 A 1 3 (ints ([a, a1, a2].map Int.ofNat)) from (HST2.out.get (i := 1) rfl).here).2 (by decide)
  have y0 : w2.cell? ⟨nb, off, none⟩ = some (.int .i64 a) := rr_cells HST2.out 0 _ rfl
  have y1 : w2.cell? ⟨nb, off + 1, none⟩ = some (.int .i64 a1) := rr_cells HST2.out 1 _ rfl
  have y2 : w2.cell? ⟨nb, off + 2, none⟩ = some (.int .i64 a2) := rr_cells HST2.out 2 _ rfl
  have HV := hid hV
  clear hV
  have hlz := cell_lt y0
  go_upto_region 45 with fail
  clear e0 e1 e2 e3 e4
  go_region_held3 (fun w' => w'.cell? ⟨nb, off, none⟩ = some (.int .i64 a) ∧ w'.cell? ⟨nb, off + 1, none⟩ = some (.int .i64 a1) ∧ w'.cell? ⟨nb, off + 2, none⟩ = some (.int .i64 a2))
    (first | exact ⟨y0, y1, y2⟩ | exact ⟨rr_cells HST3.out 0 _ rfl, rr_cells HST3.out 1 _ rfl, rr_cells HST3.out 2 _ rfl⟩)
    ((go_at_call 24; refine (rr_poke a a1 a2 HK.out (HST2.out.new (Below.refl _ _).drew)).mono ?_; rintro e w3 ⟨er, k3, rfl, hor, hst3⟩; have HST3 := hid hst3; have HOR := hid hor; clear hst3 hor))
  rcases HOR.out with ⟨h1, rfl, rfl⟩ | ⟨h1, rfl, rfl⟩
  · have H1 := hid h1
    clear h1
    go_wp2_with fail
    go_ret
    rw [wordA_poke, if_pos H1.out]
    exact ⟨_, M, rfl, rfl, HST3.out.drop1⟩
  · have H1 := hid h1
    clear h1
    go_wp2_with (go_at_call 20; refine (errname_any w3).mono ?_; rintro e w4 ⟨rfl, hb4⟩; have HST4 := hid (HST3.out.new hb4); clear hb4)
    go_ret
    rw [wordA_poke, if_neg (by rw [H1.out]; decide)]
    exact ⟨_, M, rfl, rfl, HST4.out.drop1⟩
set_option maxHeartbeats 8000000 in
theorem rl_none (s : ByteArray) (hs : s.size ≤ 100000) {v0 : List UInt8} {vs : List (List UInt8)} (hc : cutA 32 [] s.data.toList = v0 :: vs) (hn : numsOf 4 vs = none) (h : Stand w0 w (rrT kb runPl M k :: ts)) :
    Calls Tryz.prog 10 #[.pointer (some ⟨kb, 0, none⟩), .string s] w (RAnsGot w0 ts kb (badA, k)) := by
  obtain ⟨n, hn1, hn2, hcutc, hnumc⟩ := rr_words s hs hc
  have HST := hid h
  have HCUT := hid hcutc
  have HN := hid hn
  clear h hcutc
  go_enter Tryz.func10, Tryz.ntmps10
  go_upto_region 2 with (go_at_call 7; refine (HCUT.out w).mono ?_; rintro e w1 ⟨wb, wo, wc, rfl, hr1, hb1⟩; have HR1 := hid hr1; have HB1 := hid hb1; clear hr1 hb1 HCUT)
  have HNUM := hid (hnumc _ wc w1 HR1.out)
  have HST1 := hid (HST.out.new HB1.out)
  clear hnumc HST
  go_wp2_with (go_at_call 19; refine HNUM.out.mono ?_; intro e w2 hgot; obtain ⟨rfl, hb2⟩ := rr_none hgot HN.out; have HST2 := hid (HST1.out.new hb2); clear hgot hb2 HNUM HST1)
  go_ret
  exact ⟨_, M, rfl, rfl, HST2.out⟩
set_option maxHeartbeats 8000000 in
theorem rl_bad (s : ByteArray) (hs : s.size ≤ 100000) {v0 : List UInt8} {vs : List (List UInt8)} {ns : List Nat} (hc : cutA 32 [] s.data.toList = v0 :: vs) (hn : numsOf 4 vs = some ns) (hw : wantOf v0 ≠ some ns.length) (h : Stand w0 w (rrT kb runPl M k :: ts)) :
    Calls Tryz.prog 10 #[.pointer (some ⟨kb, 0, none⟩), .string s] w (RAnsGot w0 ts kb (badA, k)) := by
  obtain ⟨m, hm⟩ : ∃ m, ns.length = m := ⟨_, rfl⟩
  rw [hm] at hw
  obtain ⟨n, hn1, hn2, hcutc, hnumc⟩ := rr_words s hs hc
  have HST := hid h
  have HCUT := hid hcutc
  have HN := hid hn
  clear h hcutc
  go_enter Tryz.func10, Tryz.ntmps10
  go_upto_region 2 with (go_at_call 7; refine (HCUT.out w).mono ?_; rintro e w1 ⟨wb, wo, wc, rfl, hr1, hb1⟩; have HR1 := hid hr1; have HB1 := hid hb1; clear hr1 hb1 HCUT)
  have HNUM := hid (hnumc _ wc w1 HR1.out)
  have HST1 := hid (HST.out.new HB1.out)
  clear hnumc HST
  go_upto_region 3 with (go_at_call 19; refine HNUM.out.mono ?_; intro e w2 hgot; obtain ⟨A, c, rfl, hr2, hf2, hb2⟩ := rr_nums hgot HN.out; have HST2 := hid (rr_put HST1.out hb2 hr2.sl hf2); rw [hm] at hr2; have hcl := hr2.le; have HB2 := hid hb2; clear hgot hr2 hf2 hb2 HNUM HST1)
  obtain ⟨V, hV0, hV, hVl⟩ := rr_word (HR1.out.new HB2.out)
  unfold maxLen at hcl
  obtain ⟨hcl1, hcl2⟩ := hcl
  have hn0 : (0 : Int) < n := by omega
  have hnN : 0 < n := by omega
  have hnI : (1 : Int) ≤ n := by omega
  by_cases hq0 : v0 = goW
  · subst hq0
    have hmk : m ≠ 1 := fun e => hw (by rw [e]; decide)
    have hb1 : ((m : Int) == 1) = false := by simp; omega
    have hb2 : ((m : Int) != 1) = true := by simp; omega
    have e0 : (V.toList == ([103, 111] : List UInt8)) = true := by rw [hV]; decide
    clear hV hw
    go_wp2_with fail
    go_ret
    exact ⟨_, M, rfl, rfl, HST2.out.drop1⟩
  have e0 : (V.toList == ([103, 111] : List UInt8)) = false := by rw [hV]; exact beq_eq_false_iff_ne.2 hq0
  by_cases hq1 : v0 = tickW
  · subst hq1
    have hmk : m ≠ 0 := fun e => hw (by rw [e]; decide)
    have hb1 : ((m : Int) == 0) = false := by simp; omega
    have hb2 : ((m : Int) != 0) = true := by simp; omega
    have e0 : (V.toList == ([103, 111] : List UInt8)) = false := by rw [hV]; decide
    have e1 : (V.toList == ([116, 105, 99, 107] : List UInt8)) = true := by rw [hV]; decide
    clear hV hw
    go_wp2_with fail
    go_ret
    exact ⟨_, M, rfl, rfl, HST2.out.drop1⟩
  have e1 : (V.toList == ([116, 105, 99, 107] : List UInt8)) = false := by rw [hV]; exact beq_eq_false_iff_ne.2 hq1
  by_cases hq2 : v0 = showW
  · subst hq2
    have hmk : m ≠ 1 := fun e => hw (by rw [e]; decide)
    have hb1 : ((m : Int) == 1) = false := by simp; omega
    have hb2 : ((m : Int) != 1) = true := by simp; omega
    have e0 : (V.toList == ([103, 111] : List UInt8)) = false := by rw [hV]; decide
    have e1 : (V.toList == ([116, 105, 99, 107] : List UInt8)) = false := by rw [hV]; decide
    have e2 : (V.toList == ([115, 104, 111, 119] : List UInt8)) = true := by rw [hV]; decide
    clear hV hw
    go_wp2_with fail
    go_ret
    exact ⟨_, M, rfl, rfl, HST2.out.drop1⟩
  have e2 : (V.toList == ([115, 104, 111, 119] : List UInt8)) = false := by rw [hV]; exact beq_eq_false_iff_ne.2 hq2
  by_cases hq3 : v0 = wireW
  · subst hq3
    have hmk : m ≠ 1 := fun e => hw (by rw [e]; decide)
    have hb1 : ((m : Int) == 1) = false := by simp; omega
    have hb2 : ((m : Int) != 1) = true := by simp; omega
    have e0 : (V.toList == ([103, 111] : List UInt8)) = false := by rw [hV]; decide
    have e1 : (V.toList == ([116, 105, 99, 107] : List UInt8)) = false := by rw [hV]; decide
    have e2 : (V.toList == ([115, 104, 111, 119] : List UInt8)) = false := by rw [hV]; decide
    have e3 : (V.toList == ([119, 105, 114, 101] : List UInt8)) = true := by rw [hV]; decide
    clear hV hw
    go_wp2_with fail
    go_ret
    exact ⟨_, M, rfl, rfl, HST2.out.drop1⟩
  have e3 : (V.toList == ([119, 105, 114, 101] : List UInt8)) = false := by rw [hV]; exact beq_eq_false_iff_ne.2 hq3
  by_cases hq4 : v0 = pokeW
  · subst hq4
    have hmk : m ≠ 3 := fun e => hw (by rw [e]; decide)
    have hb1 : ((m : Int) == 3) = false := by simp; omega
    have hb2 : ((m : Int) != 3) = true := by simp; omega
    have e0 : (V.toList == ([103, 111] : List UInt8)) = false := by rw [hV]; decide
    have e1 : (V.toList == ([116, 105, 99, 107] : List UInt8)) = false := by rw [hV]; decide
    have e2 : (V.toList == ([115, 104, 111, 119] : List UInt8)) = false := by rw [hV]; decide
    have e3 : (V.toList == ([119, 105, 114, 101] : List UInt8)) = false := by rw [hV]; decide
    have e4 : (V.toList == ([112, 111, 107, 101] : List UInt8)) = true := by rw [hV]; decide
    clear hV hw
    go_wp2_with fail
    go_ret
    exact ⟨_, M, rfl, rfl, HST2.out.drop1⟩
  have e4 : (V.toList == ([112, 111, 107, 101] : List UInt8)) = false := by rw [hV]; exact beq_eq_false_iff_ne.2 hq4
  clear hV hw hq0 hq1 hq2 hq3 hq4
  go_wp2_with fail
  go_ret
  exact ⟨_, M, rfl, rfl, HST2.out.drop1⟩
end
end Go.Proofs.YthdmgighblhmhaaGreatDoor

/- The reference (package frameref2): Line at show and wire. Conditions: none. -/
namespace Go.Proofs.YthdmgighblhmhaaGreatDoor
open Go.RowKit
set_option maxRecDepth 100000

theorem row_lit0 {w : World} {b T : Nat} (h : w.heap[b]? = some (.cells #[] T (0, 0))) : Row w T 1 (some ⟨b, 0, none⟩) 0 0 [] :=
  ⟨rfl, .inr ⟨b, 0, #[], rfl, h, Nat.le_refl _, by decide, by simp, fun j u hu => by simp at hu⟩⟩
theorem nums_take6 (s : St) {c : Nat} (hc : c < 6) : s.nums.take (c + 1) = s.nums.take c ++ [s.get c] := by
  rcases six hc with rfl | rfl | rfl | rfl | rfl | rfl <;> rfl
theorem nums_all6 (s : St) : s.nums.take 6 = s.nums := rfl
theorem box_cell6 {w : World} {b : Nat} {s : St} (h : w.heap[b]? = some (.cells #[.int .i64 s.pc, .int .i64 s.c0, .int .i64 s.c1, .int .i64 s.c2, .int .i64 s.c3, .int .i64 s.c4, .int .i64 s.c5, .bool s.failed] 81 (0, 0))) {c : Nat} (hc : c < 6) : w.cell? ⟨b, 1 + c, none⟩ = some (.int .i64 (s.get c)) := by
  rcases six hc with rfl | rfl | rfl | rfl | rfl | rfl
  · exact (blk_cell h 1).trans rfl
  · exact (blk_cell h 2).trans rfl
  · exact (blk_cell h 3).trans rfl
  · exact (blk_cell h 4).trans rfl
  · exact (blk_cell h 5).trans rfl
  · exact (blk_cell h 6).trans rfl
/-- A row of numbers as the reference prints it. -/
theorem rowA_cons (a : Int) : ∀ l : List Int, rowA (a :: l) = Lib.itoa a ++ l.flatMap numT := fun l => by
  unfold rowA
  rw [List.map_cons, Lib.join_cons]
  congr 1
  unfold Lib.joinTail
  rw [List.map_map, List.flatMap_def]
  congr 1
theorem room_row (s : St) : roomNums s = s.pc :: (s.nums ++ [if s.failed then 1 else 0]) := rfl
section
variable {w0 w : World} {kb : Nat} {M : KM} {k : Kst} {ts : List Tg}
set_option maxHeartbeats 8000000 in
theorem rl_show {B : Int} (hk : KOk runPl k B) (s : ByteArray) (hs : s.size ≤ 100000) {vs : List (List UInt8)} (hc : cutA 32 [] s.data.toList = showW :: vs) {a : Nat} (hn : numsOf 4 vs = some [a]) (h : Stand w0 w (rrT kb runPl M k :: ts)) :
    Calls Tryz.prog 10 #[.pointer (some ⟨kb, 0, none⟩), .string s] w (RAnsGot w0 ts kb (wordA k showW [a])) := by
  obtain ⟨n, hn1, hn2, hcutc, hnumc⟩ := rr_words s hs hc
  have HST := hid h
  have HK := hid hk
  have HCUT := hid hcutc
  have HN := hid hn
  clear h hk hcutc
  go_enter Tryz.func10, Tryz.ntmps10
  go_upto_region 2 with (go_at_call 7; refine (HCUT.out w).mono ?_; rintro e w1 ⟨wb, wo, wc, rfl, hr1, hb1⟩; have HR1 := hid hr1; have HB1 := hid hb1; clear hr1 hb1 HCUT)
  have HNUM := hid (hnumc _ wc w1 HR1.out)
  have HST1 := hid (HST.out.new HB1.out)
  clear hnumc HST
  have ha : a < 10000 := nums_lt4 hn a (by simp)
  clear hn
  go_upto_region 3 with (go_at_call 19; refine HNUM.out.mono ?_; intro e w2 hgot; obtain ⟨A, c, rfl, hr2, hf2, hb2⟩ := rr_nums hgot HN.out; have HST2 := hid (rr_put HST1.out hb2 hr2.sl hf2); have hcl := hr2.le; have HB2 := hid hb2; clear hgot hr2 hf2 hb2 HNUM HST1)
  obtain ⟨V, hV0, hV, hVl⟩ := rr_word (HR1.out.new HB2.out)
  unfold maxLen at hcl
  obtain ⟨hcl1, hcl2⟩ := hcl
  simp only [List.length_cons, List.length_nil] at hcl1
  have hn0 : (0 : Int) < n := by omega
  have hnN : 0 < n := by omega
  have hnI : (1 : Int) ≤ n := by omega
  have e0 : (V.toList == ([103, 111] : List UInt8)) = false := by rw [hV]; decide
  have e1 : (V.toList == ([116, 105, 99, 107] : List UInt8)) = false := by rw [hV]; decide
  have e2 : (V.toList == ([115, 104, 111, 119] : List UInt8)) = true := by rw [hV]; decide
  obtain ⟨nb, off, rfl, hnb, _⟩ := (show Sl w2 A 1 1 (ints ([a].map Int.ofNat)) from (HST2.out.get (i := 1) rfl).here).2 (by decide)
  have y0 : w2.cell? ⟨nb, off, none⟩ = some (.int .i64 a) := rr_cells HST2.out 0 _ rfl
  have hlz := cell_lt y0
  have HV := hid hV
  clear hV
  by_cases ha1 : 1 < a
  · have ha2 : (1 : Int) < a := by omega
    go_wp2_with (go_at_call 20; refine (errname_any w2).mono ?_; rintro e w3 ⟨rfl, hb3⟩; have HST3 := hid (HST2.out.new hb3); clear hb3)
    go_ret
    rw [wordA_show, if_neg (by omega)]
    exact ⟨_, M, rfl, rfl, HST3.out.drop1⟩
  have ha2 : (a : Int) ≤ 1 := by omega
  have ha3 : (a : Int) < 2 := by omega
  have hal : a < k.rooms.length := by rw [run_rooms HK.out]; omega
  have hget := List.getElem?_eq_getElem hal
  have hgd : k.rooms.getD a St.zero = k.rooms[a] := by rw [List.getD_eq_getElem?_getD, hget]; rfl
  generalize k.rooms[a] = x at hget hgd
  have HGD := hid hgd
  have HFIT := hid (roomNums_le runPl_ok HK.out (List.mem_of_getElem? hget))
  have hka := (HST2.out.get (i := 0) rfl).here.1
  obtain ⟨_, _, _, k4, _, _, _, hkb⟩ := hka.cells
  obtain ⟨rb, roff, hrA, ⟨s0, s1, s2, s3, s4, s5, s6, s7⟩, hrf, hrb, hrkb, hrl, hrc, hrm⟩ := hka.room hget
  rw [hrA] at k4
  rw [run_rooms HK.out] at k4 hrl hrc
  unfold maxLen at hrm
  have HSK : Hid (∀ w' : World, Below w2.heap.size w2 w' → w'.cell? ⟨kb, 4, none⟩ = some (.slice (some ⟨rb, roff, none⟩) 2 M.rc) ∧ w'.cell? ⟨nb, off, none⟩ = some (.int .i64 a) ∧ w'.cell? ⟨rb, roff + a * 8, none⟩ = some (.int .i64 x.pc) ∧ w'.cell? ⟨rb, roff + a * 8 + 1, none⟩ = some (.int .i64 x.c0) ∧ w'.cell? ⟨rb, roff + a * 8 + 2, none⟩ = some (.int .i64 x.c1) ∧ w'.cell? ⟨rb, roff + a * 8 + 3, none⟩ = some (.int .i64 x.c2) ∧ w'.cell? ⟨rb, roff + a * 8 + 4, none⟩ = some (.int .i64 x.c3) ∧ w'.cell? ⟨rb, roff + a * 8 + 5, none⟩ = some (.int .i64 x.c4) ∧ w'.cell? ⟨rb, roff + a * 8 + 6, none⟩ = some (.int .i64 x.c5) ∧ w'.cell? ⟨rb, roff + a * 8 + 7, none⟩ = some (.bool x.failed)) := hid fun w' hb =>
    ⟨(hb.cell (p := ⟨kb, 4, none⟩) hkb).trans k4, (hb.cell (p := ⟨nb, off, none⟩) hlz).trans y0, (hb.cell (p := ⟨rb, roff + a * 8, none⟩) hrb).trans s0, (hb.cell (p := ⟨rb, roff + a * 8 + 1, none⟩) hrb).trans s1, (hb.cell (p := ⟨rb, roff + a * 8 + 2, none⟩) hrb).trans s2, (hb.cell (p := ⟨rb, roff + a * 8 + 3, none⟩) hrb).trans s3, (hb.cell (p := ⟨rb, roff + a * 8 + 4, none⟩) hrb).trans s4, (hb.cell (p := ⟨rb, roff + a * 8 + 5, none⟩) hrb).trans s5, (hb.cell (p := ⟨rb, roff + a * 8 + 6, none⟩) hrb).trans s6, (hb.cell (p := ⟨rb, roff + a * 8 + 7, none⟩) hrb).trans s7⟩
  have HSS := hid (HSK.out w2 (Below.refl _ _))
  have hag : ¬ 1 < a := ha1
  clear hka hrA hrf hrkb hgd hget hal s0 s1 s2 s3 s4 s5 s6 s7 k4
  go_upto_region 25 with fail
  clear e0 e1 e2
  go_region_held3 (fun w' => w'.cell? ⟨kb, 4, none⟩ = some (.slice (some ⟨rb, roff, none⟩) 2 M.rc) ∧ w'.cell? ⟨nb, off, none⟩ = some (.int .i64 a) ∧ w'.cell? ⟨rb, roff + a * 8, none⟩ = some (.int .i64 x.pc) ∧ w'.cell? ⟨rb, roff + a * 8 + 1, none⟩ = some (.int .i64 x.c0) ∧ w'.cell? ⟨rb, roff + a * 8 + 2, none⟩ = some (.int .i64 x.c1) ∧ w'.cell? ⟨rb, roff + a * 8 + 3, none⟩ = some (.int .i64 x.c2) ∧ w'.cell? ⟨rb, roff + a * 8 + 4, none⟩ = some (.int .i64 x.c3) ∧ w'.cell? ⟨rb, roff + a * 8 + 5, none⟩ = some (.int .i64 x.c4) ∧ w'.cell? ⟨rb, roff + a * 8 + 6, none⟩ = some (.int .i64 x.c5) ∧ w'.cell? ⟨rb, roff + a * 8 + 7, none⟩ = some (.bool x.failed))
    (first | exact HSS.out | exact HSK.out _ ((Below.refl _ _).drew.alloc (Nat.le_refl _) _) | exact HSK.out _ (by repeat (first | exact (Below.refl _ _).drew | refine Below.setCell ?_ (by simp) _ | refine Below.alloc ?_ (by simp) _)))
    ((fail))
  obtain ⟨w8, hw8⟩ : ∃ w8, w8 = (w2.alloc (.cells #[.int .i64 x.pc, .int .i64 x.c0, .int .i64 x.c1, .int .i64 x.c2, .int .i64 x.c3, .int .i64 x.c4, .int .i64 x.c5, .bool x.failed] 81)).drew := ⟨_, rfl⟩
  obtain ⟨sb, hsbe⟩ : ∃ sb, sb = w2.heap.size := ⟨_, rfl⟩
  rw [← hw8, ← hsbe]
  have hb8 : Below w2.heap.size w2 w8 := by rw [hw8]; exact ((Below.refl _ _).alloc (Nat.le_refl _) _).drew
  have hsb : w8.heap[sb]? = some (.cells #[.int .i64 x.pc, .int .i64 x.c0, .int .i64 x.c1, .int .i64 x.c2, .int .i64 x.c3, .int .i64 x.c4, .int .i64 x.c5, .bool x.failed] 81 (0, 0)) := by
    rw [hw8, hsbe]
    exact heap_alloc_new w2 _
  have HST8 := hid (HST2.out.new hb8)
  have HSB := hid hsb
  have hld := blk_lt hsb
  obtain ⟨i0, hi0, hz0, hz1, hz2⟩ := info_parts Tryz.infoInt
  clear hw8 hsbe hb8 hsb HSS HSK HST2 hV0 hVl y0 hlz
  go_wp2_with fail
  go_loopw [10, 11] (fun v10 v11 wq => ∃ (q : Nat) (A : Option Addr) (cap : Nat), q ≤ 6 ∧ v10 = .slice A q cap ∧ v11 = .int .i64 q ∧ Row wq 3 1 A q cap (ints (x.nums.take q)) ∧ (∀ j, InA A j → w8.heap.size ≤ j) ∧ Below w8.heap.size w8 wq) (fun _ v11 _ => 6 - (intOf v11).toNat)
  case atStart => exact ⟨0, some ⟨w8.heap.size, 0, none⟩, 0, by omega, rfl, rfl, row_lit0 (heap_alloc_new w8 _), fun j hj => by simp [InA] at hj; omega, (Below.refl _ _).alloc (Nat.le_refl _) _⟩
  case round =>
    obtain ⟨wp, rfl⟩ : ∃ wp : World, wp = wr := ⟨_, rfl⟩
    obtain ⟨q, A, cap, hq, rfl, rfl, hrow, hfr, hbq⟩ := hrel
    have HRW := hid hrow
    have HFR := hid hfr
    have HBQ := hid hbq
    have hbx := (hbq.block _ (blk_lt HSB.out)).trans HSB.out
    have hlb := blk_lt hbx
    clear hrow hfr hbq
    by_cases hc6 : q < 6
    · have hcell := box_cell6 hbx hc6
      have HSX := hid (nums_take6 x hc6)
      generalize x.get q = y at hcell HSX
      clear hbx
      go_wp2_with (at_builtin; refine wpList_append_row _ rfl _ _ 63 rfl 3 i0 (.int .i64 0) 1 8 Tryz.underlying63 hi0 hz0 hz1 hz2 rfl (by decide) A q cap (ints (x.nums.take q)) rfl (HRW.out.alloc _) (some ⟨wp.heap.size, 0, none⟩) 1 1 [.int .i64 y] rfl (one_sl wp _ _) (fun u hu => by simp at hu; subst hu; rfl) (by unfold maxLen; omega) (by omega) ?_)
      intro A' cap' w9 hr9 hk9 hi9
      have HR9 : Hid (Row w9 3 1 A' (q + 1) cap' (ints (x.nums.take (q + 1)))) := hid (by
        rw [HSX.out, ints_append]; exact hr9)
      have HB9 := hid (keep_own HBQ.out HFR.out hk9)
      have HI9 : Hid (∀ j, InA A' j → w8.heap.size ≤ j) := hid fun j hj => by
        rcases hi9 j hj with h | h
        · exact HFR.out j h
        · have := HBQ.out.size; omega
      clear hr9 hk9 hi9
      go_wp2_with fail
      go_roundw
      case rel => exact ⟨q + 1, A', cap', by omega, by first | rfl | go_num, by go_num, HR9.out, HI9.out, HB9.out⟩
      case measure => simp [intOf]; omega
    · obtain rfl : q = 6 := by omega
      have hpc := HFIT.out x.pc (by simp [roomNums])
      obtain ⟨pn, hpn⟩ : ∃ pn : Nat, x.pc = pn := ⟨x.pc.toNat, by omega⟩
      have hp1 : pn ≤ 1000 := by omega
      have z7 := blk_cell hbx 7
      simp at z7
      have HLB := hid hbx
      have HPN := hid hpn
      rw [nums_all6] at HRW
      clear hbx hc6 hpc hpn
      obtain ⟨fl, hfl⟩ : ∃ fl, fl = x.failed := ⟨_, rfl⟩
      rw [← hfl] at z7
      have HFL := hid hfl
      clear hfl
      cases fl
      all_goals
        go_wp2_with (at_builtin; refine wpList_append_row _ rfl _ _ 63 rfl 3 i0 (.int .i64 0) 1 8 Tryz.underlying63 hi0 hz0 hz1 hz2 rfl (by decide) A 6 cap (ints x.nums) rfl (HRW.out.alloc _) (some ⟨wp.heap.size, 0, none⟩) 1 1 _ rfl (one_sl wp _ _) (fun u hu => by simp at hu; subst hu; rfl) (by decide) (by decide) ?_)
        intro A' cap' w9 hr9 hk9 hi9
        have HR9 : Hid (Row w9 3 1 A' 7 cap' (ints (x.nums ++ [if x.failed then 1 else 0]))) := hid (by
          rw [← HFL.out, ints_append]; exact hr9)
        have HB9 := hid (keep_own HBQ.out HFR.out hk9)
        have hbx9 := (HB9.out.block _ (blk_lt HSB.out)).trans HSB.out
        have hl9 := blk_lt hbx9
        have z0 : w9.cell? ⟨sb, 0, none⟩ = some (.int .i64 pn) := by
          have := (blk_cell hbx9 0).trans rfl
          rw [HPN.out] at this
          exact this
        have HF7 : Hid (∀ n ∈ x.nums ++ [if x.failed then 1 else 0], 0 ≤ n ∧ n ≤ 9223372036854775806) := hid fun n hn => by
          have := HFIT.out n (by rw [room_row]; exact List.mem_cons_of_mem _ hn)
          omega
        clear hr9 hk9 hi9 hbx9 z7
        go_wp2_with (first
          | (go_at_call 23; refine (rrow_any D A' cap' (x.nums ++ [if x.failed then 1 else 0]) w10 (HR10.out.sl) HF7.out HDL.out (by simp [St.nums])).mono ?_; rintro e w11 ⟨T11, rfl, hT11, hb11⟩; have HT11 := hid hT11; have HB11 := hid (HB10.out.trans (hb11.mono HB10.out.size)); clear hT11 hb11)
          | (go_at_call 11; refine (rdigits_any pn (by omega) w9).mono ?_; rintro e w10 ⟨hd, hb10⟩; obtain ⟨D, hD⟩ : ∃ D : ByteArray, D = ⟨(Lib.decDigits pn).toArray⟩ := ⟨_, rfl⟩; rw [← hD] at hd; subst hd; have HDD : Hid (D.data.toList = Lib.itoa x.pc) := hid (by rw [hD, HPN.out, itoa_nat]); have HDL : Hid (D.size ≤ 100000) := hid (by rw [Lib.size_eq, HDD.out, HPN.out]; have := itoa_le (n := (pn : Int)) (k := 3) (by omega) (by omega); omega); have HR10 := hid (HR9.out.new hb10); have HB10 := hid (HB9.out.trans (hb10.mono HB9.out.size)); clear hD hb10))
        go_ret
        rw [wordA_show, if_pos (by omega), HGD.out]
        refine ⟨T11, M, rfl, ?_, (HST8.out.new HB11.out).drop1⟩
        rw [room_row, rowA_cons, ← HDD.out]
        exact HT11.out
set_option maxHeartbeats 8000000 in
theorem rl_wire {B : Int} (hk : KOk runPl k B) (hB : B ≤ 900000) (s : ByteArray) (hs : s.size ≤ 100000) {vs : List (List UInt8)} (hc : cutA 32 [] s.data.toList = wireW :: vs) {a : Nat} (hn : numsOf 4 vs = some [a]) (h : Stand w0 w (rrT kb runPl M k :: ts)) :
    Calls Tryz.prog 10 #[.pointer (some ⟨kb, 0, none⟩), .string s] w (RAnsGot w0 ts kb (wordA k wireW [a])) := by
  obtain ⟨n, hn1, hn2, hcutc, hnumc⟩ := rr_words s hs hc
  have HST := hid h
  have HK := hid hk
  have HCUT := hid hcutc
  have HN := hid hn
  clear h hk hcutc
  go_enter Tryz.func10, Tryz.ntmps10
  go_upto_region 2 with (go_at_call 7; refine (HCUT.out w).mono ?_; rintro e w1 ⟨wb, wo, wc, rfl, hr1, hb1⟩; have HR1 := hid hr1; have HB1 := hid hb1; clear hr1 hb1 HCUT)
  have HNUM := hid (hnumc _ wc w1 HR1.out)
  have HST1 := hid (HST.out.new HB1.out)
  clear hnumc HST
  have ha : a < 10000 := nums_lt4 hn a (by simp)
  clear hn
  go_upto_region 3 with (go_at_call 19; refine HNUM.out.mono ?_; intro e w2 hgot; obtain ⟨A, c, rfl, hr2, hf2, hb2⟩ := rr_nums hgot HN.out; have HST2 := hid (rr_put HST1.out hb2 hr2.sl hf2); have hcl := hr2.le; have HB2 := hid hb2; clear hgot hr2 hf2 hb2 HNUM HST1)
  obtain ⟨V, hV0, hV, hVl⟩ := rr_word (HR1.out.new HB2.out)
  unfold maxLen at hcl
  obtain ⟨hcl1, hcl2⟩ := hcl
  simp only [List.length_cons, List.length_nil] at hcl1
  have hn0 : (0 : Int) < n := by omega
  have hnN : 0 < n := by omega
  have hnI : (1 : Int) ≤ n := by omega
  have e0 : (V.toList == ([103, 111] : List UInt8)) = false := by rw [hV]; decide
  have e1 : (V.toList == ([116, 105, 99, 107] : List UInt8)) = false := by rw [hV]; decide
  have e2 : (V.toList == ([115, 104, 111, 119] : List UInt8)) = false := by rw [hV]; decide
  have e3 : (V.toList == ([119, 105, 114, 101] : List UInt8)) = true := by rw [hV]; decide
  obtain ⟨nb, off, rfl, hnb, _⟩ := (show Sl w2 A 1 1 (ints ([a].map Int.ofNat)) from (HST2.out.get (i := 1) rfl).here).2 (by decide)
  have y0 : w2.cell? ⟨nb, off, none⟩ = some (.int .i64 a) := rr_cells HST2.out 0 _ rfl
  have hlz := cell_lt y0
  have HV := hid hV
  clear hV
  by_cases ha1 : 1 < a
  · have ha2 : (1 : Int) < a := by omega
    have hgn : k.lines[a]? = none := List.getElem?_eq_none (by rw [run_lines HK.out]; omega)
    have HGN := hid hgn
    clear hgn
    go_wp2_with (go_at_call 20; refine (errname_any w2).mono ?_; rintro e w3 ⟨rfl, hb3⟩; have HST3 := hid (HST2.out.new hb3); clear hb3)
    go_ret
    rw [wordA_wire, HGN.out]
    exact ⟨_, M, rfl, rfl, HST3.out.drop1⟩
  have ha2 : (a : Int) ≤ 1 := by omega
  have ha3 : (a : Int) < 2 := by omega
  have hal : a < k.lines.length := by rw [run_lines HK.out]; omega
  have hget := List.getElem?_eq_getElem hal
  generalize k.lines[a] = x at hget
  have HGET := hid hget
  obtain ⟨hfit, hx6⟩ := wire_fit HK.out (by omega) (List.mem_of_getElem? hget)
  have hka := (HST2.out.get (i := 0) rfl).here.1
  obtain ⟨_, _, _, _, k5, _, _, hkb⟩ := hka.cells
  obtain ⟨la, pb, po, hla, hA, hcp, ⟨icap, hlb, hlr⟩, hil, hpb⟩ := hka.line hget
  have hlc := hka.ptrs.le
  rw [hA] at k5
  rw [run_lines HK.out] at k5 hil hlc
  unfold maxLen at hlc
  obtain ⟨hlc1, hlc2⟩ := hlc
  have HLR := hid hlr
  have g4 := blk_cell hlb 4
  have g5 := blk_cell hlb 5
  have hlg := blk_lt hlb
  simp at g4 g5
  obtain ⟨xw, items, lost⟩ := x
  simp only [] at hfit hx6 HLR g4 g5 HGET
  have hl0 := hfit lost (by simp)
  obtain ⟨ln, rfl⟩ : ∃ ln : Nat, lost = ln := ⟨lost.toNat, by omega⟩
  have hln1 : ln ≤ 1000000 := by omega
  have HFIT : Hid (∀ n ∈ items, 0 ≤ n ∧ n ≤ 9223372036854775806) := hid fun n hn => by
    have := hfit n (by simp [hn]); omega
  have hicap := hlr.le
  unfold maxLen at hicap
  generalize la.A = iA at HLR g4
  generalize la.b = lb at g4 g5 hlg hcp
  have HSK : Hid (∀ w' : World, Below w2.heap.size w2 w' → w'.cell? ⟨kb, 5, none⟩ = some (.slice (some ⟨pb, po, none⟩) 2 M.lc) ∧ w'.cell? ⟨nb, off, none⟩ = some (.int .i64 a) ∧ w'.cell? ⟨pb, po + a, none⟩ = some (.pointer (some ⟨lb, 0, none⟩)) ∧ w'.cell? ⟨lb, 4, none⟩ = some (.slice iA items.length icap) ∧ w'.cell? ⟨lb, 5, none⟩ = some (.int .i64 ln)) := hid fun w' hb =>
    ⟨(hb.cell (p := ⟨kb, 5, none⟩) hkb).trans k5, (hb.cell (p := ⟨nb, off, none⟩) hlz).trans y0, (hb.cell (p := ⟨pb, po + a, none⟩) hpb).trans hcp, (hb.cell (p := ⟨lb, 4, none⟩) hlg).trans g4, (hb.cell (p := ⟨lb, 5, none⟩) hlg).trans g5⟩
  have HSS := hid (HSK.out w2 (Below.refl _ _))
  clear hka hA hla hcp hlb hlr hget hal g4 g5 k5 hfit hl0 hicap
  go_upto_region 40 with fail
  clear e0 e1 e2 e3
  go_region_held3 (fun w' => w'.cell? ⟨kb, 5, none⟩ = some (.slice (some ⟨pb, po, none⟩) 2 M.lc) ∧ w'.cell? ⟨nb, off, none⟩ = some (.int .i64 a) ∧ w'.cell? ⟨pb, po + a, none⟩ = some (.pointer (some ⟨lb, 0, none⟩)) ∧ w'.cell? ⟨lb, 4, none⟩ = some (.slice iA items.length icap) ∧ w'.cell? ⟨lb, 5, none⟩ = some (.int .i64 ln))
    (first | exact HSS.out | exact HSK.out _ ((Below.refl _ _).drew.alloc (Nat.le_refl _) _) | exact HSK.out _ (by repeat (first | exact (Below.refl _ _).drew | refine Below.setCell ?_ (by simp) _ | refine Below.alloc ?_ (by simp) _)))
    ((fail))
  obtain ⟨w8, hw8⟩ : ∃ w8, w8 = (w2.alloc (.cells #[.slice iA items.length icap, .int .i64 ln] 65)).drew := ⟨_, rfl⟩
  obtain ⟨sb, hsbe⟩ : ∃ sb, sb = w2.heap.size := ⟨_, rfl⟩
  rw [← hw8, ← hsbe]
  have hb8 : Below w2.heap.size w2 w8 := by rw [hw8]; exact ((Below.refl _ _).alloc (Nat.le_refl _) _).drew
  have hsb : w8.heap[sb]? = some (.cells #[.slice iA items.length icap, .int .i64 ln] 65 (0, 0)) := by
    rw [hw8, hsbe]
    exact heap_alloc_new w2 _
  have HST8 := hid (HST2.out.new hb8)
  have HLR8 := hid (HLR.out.new hb8)
  have hld := blk_lt hsb
  have z0 := blk_cell hsb 0
  have z1 := blk_cell hsb 1
  simp at z0 z1
  have HBX : Hid (∀ w', Below w8.heap.size w8 w' → w'.cell? ⟨sb, 0, none⟩ = some (.slice iA items.length icap) ∧ w'.cell? ⟨sb, 1, none⟩ = some (.int .i64 ln)) := hid fun w' hb => ⟨(hb.cell (p := ⟨sb, 0, none⟩) hld).trans z0, (hb.cell (p := ⟨sb, 1, none⟩) hld).trans z1⟩
  clear hw8 hsbe hb8 hsb HSS HSK HST2 hV0 hVl y0 hlz HLR hlg
  go_upto_region 41 with fail
  go_region_held3 (fun w' => w'.cell? ⟨sb, 0, none⟩ = some (.slice iA items.length icap) ∧ w'.cell? ⟨sb, 1, none⟩ = some (.int .i64 ln))
    (first | exact ⟨z0, z1⟩ | exact HBX.out _ HB11.out | exact HBX.out _ HB10.out)
    (first
      | (go_at_call 23; refine (rrow_any D iA icap items w10 HR10.out.sl HFIT.out HDL.out (by omega)).mono ?_; rintro e w11 ⟨T11, rfl, hT11, hb11⟩; have HT11 := hid hT11; have HB11 := hid (HB10.out.trans (hb11.mono HB10.out.size)); clear hT11 hb11)
      | (go_at_call 11; refine (rdigits_any ln (by omega) w8.drew).mono ?_; rintro e w10 ⟨hd, hb10⟩; obtain ⟨D, hD⟩ : ∃ D : ByteArray, D = ⟨(Lib.decDigits ln).toArray⟩ := ⟨_, rfl⟩; rw [← hD] at hd; subst hd; have HDD : Hid (D.data.toList = Lib.itoa (ln : Int)) := hid (by rw [hD, itoa_nat]); have HDL : Hid (D.size ≤ 100000) := hid (by rw [Lib.size_eq, HDD.out]; have := itoa_le (n := (ln : Int)) (k := 7) (by omega) (by omega); omega); have HB10 : Hid (Below w8.heap.size w8 w10) := hid ((Below.refl _ _).drew.trans hb10); have HR10 := hid (HLR8.out.new HB10.out); clear hD hb10))
  go_wp2_with fail
  go_ret
  rw [wordA_wire, HGET.out]
  refine ⟨T11, M, rfl, ?_, (HST8.out.new HB11.out).drop1⟩
  show T11.data.toList = rowA ((ln : Int) :: items)
  rw [rowA_cons, ← HDD.out]
  exact HT11.out
end
end Go.Proofs.YthdmgighblhmhaaGreatDoor

/- The reference (package frameref2): the contract of Plan: the plan of sessions. Conditions: none. -/
namespace Go.Proofs.YthdmgighblhmhaaGreatDoor
open Go.RowKit
set_option maxRecDepth 100000

theorem ap_row {w0 wc w2 : World} {us : List Tg} {e sz n cap : Nat} {A : Option Addr} {xs : List Value} {o : Obj} (h : Stand w0 wc us) (hr : Row w2 e sz A n cap xs) (hk : Keep (InA none) (wc.alloc o) w2) (hn : ∀ j, InA A j → InA none j ∨ wc.heap.size + 1 ≤ j) : Stand w0 w2 (us ++ [rowT e sz A n cap xs]) := by
  have hs : (wc.alloc o).heap.size = wc.heap.size + 1 := sz_alloc wc o
  have hb : Below wc.heap.size wc w2 := ((Below.refl _ _).alloc (Nat.le_refl _) o).trans (Keep.below hk (by omega) fun i hi => by simp [InA] at hi)
  have hf : ∀ j, InA A j → wc.heap.size ≤ j := fun j hj => by
    rcases hn j hj with h1 | h1
    · simp [InA] at h1
    · omega
  exact h.add hb (row_lie hr) hf (fun j hj => .inl (hf j hj))
theorem st_blk {w0 wc : World} {us : List Tg} {i p T : Nat} {cs : Array Value} (h : Stand w0 wc us) (hi : us[i]? = some (blkT p (.cells cs T (0, 0)))) (c : Nat) (v : Value) : Stand w0 (wc.setCell ⟨p, c, none⟩ v) (us.set i (blkT p (.cells (cs.setIfInBounds c v) T (0, 0)))) :=
  h.go i hi (blk_went (h.get hi) ((Keep.refl (fun j => j = p) wc).setCell (.inl rfl) v) (blk_set (show wc.heap[p]? = some (.cells cs T (0, 0)) from (h.get hi).here) c v))
theorem rows_plan {w : World} {sA wA aA bA cA : Option Addr} {sc wc ac bc cc : Nat} (h1 : Row w 69 3 sA 2 sc (spansR.flatMap Span.cells)) (h2 : Row w 62 4 wA 2 wc (wiresR.flatMap Wire.cells)) (h3 : Row w 72 3 aA 5 ac (opsA.flatMap Op.cells)) (h4 : Row w 72 3 bA 3 bc (opsB.flatMap Op.cells)) (h5 : Row w 70 1 cA 2 cc [.slice aA 5 ac, .slice bA 3 bc]) :
    PlanAt w ⟨cA, cc, [⟨aA, ac, opsA⟩, ⟨bA, bc, opsB⟩], 4, sA, sc, spansR, wA, wc, wiresR⟩ := by
  refine ⟨h5.sl, h5.slW, fun r hr => ?_, fits_lit (show -1000 ≤ (4 : Int) ∧ (4 : Int) ≤ 1000 by decide), h1.sl, h1.slW, fun s hs => ?_, h2.sl, h2.slW, fun x hx => ?_⟩
  · simp at hr
    rcases hr with rfl | rfl
    · exact ⟨h3.sl, h3.slW, fun o ho => by
        simp [opsA] at ho
        rcases ho with rfl | rfl | rfl | rfl | rfl <;> exact ⟨fits_lit (by decide), fits_lit (by decide), fits_lit (by decide)⟩⟩
    · exact ⟨h4.sl, h4.slW, fun o ho => by
        simp [opsB] at ho
        rcases ho with rfl | rfl | rfl <;> exact ⟨fits_lit (by decide), fits_lit (by decide), fits_lit (by decide)⟩⟩
  · simp [spansR] at hs
    rcases hs with rfl | rfl <;> exact ⟨fits_lit (by decide), fits_lit (by decide), fits_lit (by decide)⟩
  · simp [wiresR] at hx
    rcases hx with rfl | rfl <;> exact ⟨fits_lit (by decide), fits_lit (by decide), fits_lit (by decide), fits_lit (by decide)⟩
set_option maxHeartbeats 8000000 in
theorem rrplan_any (w : World) : Calls Tryz.prog 9 #[] w fun e w' => ∃ (m : PM), m.pl = runPl ∧ e = .returned (.agg #[.slice m.A m.ros.length m.c, .int .i64 m.ticks, .slice m.sA m.spans.length m.sc, .slice m.wA m.wires.length m.wc]) ∧ PlanAt w' m ∧ Below w.heap.size w w' := by
  obtain ⟨io, ho0, ho1, ho2, ho3⟩ := info_parts Tryz.infoClOp
  obtain ⟨js, hs0, hs1, hs2, hs3⟩ := info_parts Tryz.infoClSpan
  obtain ⟨iw, hw0, hw1, hw2, hw3⟩ := info_parts Tryz.infoClWire
  obtain ⟨ic, hc0, hc1, hc2, hc3⟩ := info_parts Tryz.infoClOps
  obtain ⟨p0, hp0⟩ : ∃ p0, p0 = w.heap.size + 1 := ⟨_, rfl⟩
  obtain ⟨r0, hr0⟩ : ∃ r0, r0 = w.heap.size := ⟨_, rfl⟩
  have hS1 : Stand w ((w.alloc (.cells #[.slice none 0 0, .int .i64 0, .slice none 0 0, .slice none 0 0] 31)).alloc (.cells #[.slice none 0 0, .int .i64 4, .slice none 0 0, .slice none 0 0] 31)) [blkT r0 (.cells #[.slice none 0 0, .int .i64 0, .slice none 0 0, .slice none 0 0] 31 (0, 0)), blkT p0 (.cells #[.slice none 0 0, .int .i64 4, .slice none 0 0, .slice none 0 0] 31 (0, 0))] := by
    have h1 := (Stand.nil w).add ((Below.refl _ _).alloc (Nat.le_refl _) (.cells #[.slice none 0 0, .int .i64 0, .slice none 0 0, .slice none 0 0] 31)) (blk_lie (heap_alloc_new w _)) (fun j hj => by have : j = w.heap.size := hj; omega) (fun j hj => .inl (by have : j = w.heap.size := hj; omega))
    have h2 := h1.add ((Below.refl _ _).alloc (Nat.le_refl _) (.cells #[.slice none 0 0, .int .i64 4, .slice none 0 0, .slice none 0 0] 31)) (blk_lie (heap_alloc_new _ _)) (fun j hj => by have e : j = (w.alloc (.cells #[.slice none 0 0, .int .i64 0, .slice none 0 0, .slice none 0 0] 31)).heap.size := hj; omega) (fun j hj => .inl (by have e : j = (w.alloc (.cells #[.slice none 0 0, .int .i64 0, .slice none 0 0, .slice none 0 0] 31)).heap.size := hj; omega))
    rw [sz_alloc, ← hp0, ← hr0] at h2
    exact h2
  go_enter Tryz.func9, Tryz.ntmps9
  go_upto_region 3 with fail
  rw [← hp0, ← hr0]
  obtain ⟨w1, hw⟩ : ∃ w1, w1 = (w.alloc (.cells #[.slice none 0 0, .int .i64 0, .slice none 0 0, .slice none 0 0] 31)).alloc (.cells #[.slice none 0 0, .int .i64 4, .slice none 0 0, .slice none 0 0] 31) := ⟨_, rfl⟩
  rw [← hw] at hS1 ⊢
  clear hw
  have HR0 := hid hr0
  have HP0 := hid hp0
  clear hr0 hp0
  have q1 : w1.heap[p0]? = some (.cells #[.slice none 0 0, .int .i64 4, .slice none 0 0, .slice none 0 0] 31 (0, 0)) := (hS1.get (i := 1) rfl).here
  have x10 := blk_cell q1 0
  have x12 := blk_cell q1 2
  have x13 := blk_cell q1 3
  have f1 := blk_free q1
  have l1 := blk_lt q1
  simp at x10 x12 x13
  go_wp2_with (at_builtin; refine wpList_append_row _ rfl _ _ 28 rfl 69 js _ 3 24 Tryz.underlying28 hs0 hs1 hs2 hs3 rfl (by decide) none 0 0 [] rfl (Row.nil _ _ _) (some ⟨w1.heap.size, 0, none⟩) 2 2 (spansR.flatMap Span.cells) rfl (sl_blk (heap_alloc_new w1 _) 3 2 (spansR.flatMap Span.cells) rfl rfl) (fun u hu => List.all_eq_true.1 (show (spansR.flatMap Span.cells).all (fun u => u.oneCell') = true from rfl) u hu) (by decide) (by decide) ?_)
  intro sA sc w2 hr2 hk2 hn2
  have hT2 : Stand w w2 [blkT r0 (.cells #[.slice none 0 0, .int .i64 0, .slice none 0 0, .slice none 0 0] 31 (0, 0)), blkT p0 (.cells #[.slice none 0 0, .int .i64 4, .slice none 0 0, .slice none 0 0] 31 (0, 0)), rowT 69 3 sA 2 sc (spansR.flatMap Span.cells)] := ap_row hS1 hr2 hk2 hn2
  have hU2 := st_blk hT2 (i := 1) rfl 2 (.slice sA 2 sc)
  have g2 : w2.heap[p0]? = some (.cells #[.slice none 0 0, .int .i64 4, .slice none 0 0, .slice none 0 0] 31 (0, 0)) := (hT2.get (i := 1) rfl).here
  have t2 := blk_cell g2 2
  have u2f := blk_free g2
  have v2 := blk_lt g2
  simp at t2
  clear hr2 hk2 hn2
  clear q1 x10 x12 x13 f1 l1 hS1
  go_upto_region 4 with fail
  obtain ⟨w3, hw3⟩ : ∃ w3, w3 = w2.setCell ⟨p0, 2, none⟩ (.slice sA 2 sc) := ⟨_, rfl⟩
  rw [← hw3] at hU2 ⊢
  have hS3 : Stand w w3 [blkT r0 (.cells #[.slice none 0 0, .int .i64 0, .slice none 0 0, .slice none 0 0] 31 (0, 0)), blkT p0 (.cells #[.slice none 0 0, .int .i64 4, .slice sA 2 sc, .slice none 0 0] 31 (0, 0)), rowT 69 3 sA 2 sc (spansR.flatMap Span.cells)] := hU2
  clear hw3 hU2 hT2 g2 t2 u2f v2
  have q3 : w3.heap[p0]? = some (.cells #[.slice none 0 0, .int .i64 4, .slice sA 2 sc, .slice none 0 0] 31 (0, 0)) := (hS3.get (i := 1) rfl).here
  have x30 := blk_cell q3 0
  have x32 := blk_cell q3 2
  have x33 := blk_cell q3 3
  have f3 := blk_free q3
  have l3 := blk_lt q3
  simp at x30 x32 x33
  go_wp2_with (at_builtin; refine wpList_append_row _ rfl _ _ 29 rfl 62 iw _ 4 32 Tryz.underlying29 hw0 hw1 hw2 hw3 rfl (by decide) none 0 0 [] rfl (Row.nil _ _ _) (some ⟨w3.heap.size, 0, none⟩) 2 2 (wiresR.flatMap Wire.cells) rfl (sl_blk (heap_alloc_new w3 _) 4 2 (wiresR.flatMap Wire.cells) rfl rfl) (fun u hu => List.all_eq_true.1 (show (wiresR.flatMap Wire.cells).all (fun u => u.oneCell') = true from rfl) u hu) (by decide) (by decide) ?_)
  intro wA wc w4 hr4 hk4 hn4
  have hT4 : Stand w w4 [blkT r0 (.cells #[.slice none 0 0, .int .i64 0, .slice none 0 0, .slice none 0 0] 31 (0, 0)), blkT p0 (.cells #[.slice none 0 0, .int .i64 4, .slice sA 2 sc, .slice none 0 0] 31 (0, 0)), rowT 69 3 sA 2 sc (spansR.flatMap Span.cells), rowT 62 4 wA 2 wc (wiresR.flatMap Wire.cells)] := ap_row hS3 hr4 hk4 hn4
  have hU4 := st_blk hT4 (i := 1) rfl 3 (.slice wA 2 wc)
  have g4 : w4.heap[p0]? = some (.cells #[.slice none 0 0, .int .i64 4, .slice sA 2 sc, .slice none 0 0] 31 (0, 0)) := (hT4.get (i := 1) rfl).here
  have t4 := blk_cell g4 3
  have u4f := blk_free g4
  have v4 := blk_lt g4
  simp at t4
  clear hr4 hk4 hn4
  clear q3 x30 x32 x33 f3 l3 hS3
  go_upto_region 5 with fail
  obtain ⟨w5, hw5⟩ : ∃ w5, w5 = w4.setCell ⟨p0, 3, none⟩ (.slice wA 2 wc) := ⟨_, rfl⟩
  rw [← hw5] at hU4 ⊢
  have hS5 : Stand w w5 [blkT r0 (.cells #[.slice none 0 0, .int .i64 0, .slice none 0 0, .slice none 0 0] 31 (0, 0)), blkT p0 (.cells #[.slice none 0 0, .int .i64 4, .slice sA 2 sc, .slice wA 2 wc] 31 (0, 0)), rowT 69 3 sA 2 sc (spansR.flatMap Span.cells), rowT 62 4 wA 2 wc (wiresR.flatMap Wire.cells)] := hU4
  clear hw5 hU4 hT4 g4 t4 u4f v4
  have q5 : w5.heap[p0]? = some (.cells #[.slice none 0 0, .int .i64 4, .slice sA 2 sc, .slice wA 2 wc] 31 (0, 0)) := (hS5.get (i := 1) rfl).here
  have x50 := blk_cell q5 0
  have x52 := blk_cell q5 2
  have x53 := blk_cell q5 3
  have f5 := blk_free q5
  have l5 := blk_lt q5
  simp at x50 x52 x53
  go_wp2_with (at_builtin; refine wpList_append_row _ rfl _ _ 70 rfl 72 io _ 3 24 Tryz.underlying70 ho0 ho1 ho2 ho3 rfl (by decide) none 0 0 [] rfl (Row.nil _ _ _) (some ⟨w5.heap.size, 0, none⟩) 5 5 (opsA.flatMap Op.cells) rfl (sl_blk (heap_alloc_new w5 _) 3 5 (opsA.flatMap Op.cells) rfl rfl) (fun u hu => List.all_eq_true.1 (show (opsA.flatMap Op.cells).all (fun u => u.oneCell') = true from rfl) u hu) (by decide) (by decide) ?_)
  intro aA ac w6 hr6 hk6 hn6
  have hS6 : Stand w w6 [blkT r0 (.cells #[.slice none 0 0, .int .i64 0, .slice none 0 0, .slice none 0 0] 31 (0, 0)), blkT p0 (.cells #[.slice none 0 0, .int .i64 4, .slice sA 2 sc, .slice wA 2 wc] 31 (0, 0)), rowT 69 3 sA 2 sc (spansR.flatMap Span.cells), rowT 62 4 wA 2 wc (wiresR.flatMap Wire.cells), rowT 72 3 aA 5 ac (opsA.flatMap Op.cells)] := ap_row hS5 hr6 hk6 hn6
  clear hr6 hk6 hn6
  clear q5 x50 x52 x53 f5 l5 hS5
  have q6 : w6.heap[p0]? = some (.cells #[.slice none 0 0, .int .i64 4, .slice sA 2 sc, .slice wA 2 wc] 31 (0, 0)) := (hS6.get (i := 1) rfl).here
  have x60 := blk_cell q6 0
  have x62 := blk_cell q6 2
  have x63 := blk_cell q6 3
  have f6 := blk_free q6
  have l6 := blk_lt q6
  simp at x60 x62 x63
  go_wp2_with (at_builtin; refine wpList_append_row _ rfl _ _ 70 rfl 72 io _ 3 24 Tryz.underlying70 ho0 ho1 ho2 ho3 rfl (by decide) none 0 0 [] rfl (Row.nil _ _ _) (some ⟨w6.heap.size, 0, none⟩) 3 3 (opsB.flatMap Op.cells) rfl (sl_blk (heap_alloc_new w6 _) 3 3 (opsB.flatMap Op.cells) rfl rfl) (fun u hu => List.all_eq_true.1 (show (opsB.flatMap Op.cells).all (fun u => u.oneCell') = true from rfl) u hu) (by decide) (by decide) ?_)
  intro bA bc w7 hr7 hk7 hn7
  have hS7 : Stand w w7 [blkT r0 (.cells #[.slice none 0 0, .int .i64 0, .slice none 0 0, .slice none 0 0] 31 (0, 0)), blkT p0 (.cells #[.slice none 0 0, .int .i64 4, .slice sA 2 sc, .slice wA 2 wc] 31 (0, 0)), rowT 69 3 sA 2 sc (spansR.flatMap Span.cells), rowT 62 4 wA 2 wc (wiresR.flatMap Wire.cells), rowT 72 3 aA 5 ac (opsA.flatMap Op.cells), rowT 72 3 bA 3 bc (opsB.flatMap Op.cells)] := ap_row hS6 hr7 hk7 hn7
  clear hr7 hk7 hn7
  clear q6 x60 x62 x63 f6 l6 hS6
  have q7 : w7.heap[p0]? = some (.cells #[.slice none 0 0, .int .i64 4, .slice sA 2 sc, .slice wA 2 wc] 31 (0, 0)) := (hS7.get (i := 1) rfl).here
  have x70 := blk_cell q7 0
  have x72 := blk_cell q7 2
  have x73 := blk_cell q7 3
  have f7 := blk_free q7
  have l7 := blk_lt q7
  simp at x70 x72 x73
  go_wp2_with (at_builtin; refine wpList_append_row _ rfl _ _ 27 rfl 70 ic _ 1 24 Tryz.underlying27 hc0 hc1 hc2 hc3 rfl (by decide) none 0 0 [] rfl (Row.nil _ _ _) (some ⟨w7.heap.size, 0, none⟩) 2 2 ([.slice aA 5 ac, .slice bA 3 bc]) rfl (sl_blk (heap_alloc_new w7 _) 1 2 ([.slice aA 5 ac, .slice bA 3 bc]) rfl rfl) (fun u hu => List.all_eq_true.1 (show ([.slice aA 5 ac, .slice bA 3 bc]).all (fun u => u.oneCell') = true from rfl) u hu) (by decide) (by decide) ?_)
  intro cA cc w8 hr8 hk8 hn8
  have hT8 : Stand w w8 [blkT r0 (.cells #[.slice none 0 0, .int .i64 0, .slice none 0 0, .slice none 0 0] 31 (0, 0)), blkT p0 (.cells #[.slice none 0 0, .int .i64 4, .slice sA 2 sc, .slice wA 2 wc] 31 (0, 0)), rowT 69 3 sA 2 sc (spansR.flatMap Span.cells), rowT 62 4 wA 2 wc (wiresR.flatMap Wire.cells), rowT 72 3 aA 5 ac (opsA.flatMap Op.cells), rowT 72 3 bA 3 bc (opsB.flatMap Op.cells), rowT 70 1 cA 2 cc ([.slice aA 5 ac, .slice bA 3 bc])] := ap_row hS7 hr8 hk8 hn8
  have hU8 := st_blk hT8 (i := 1) rfl 0 (.slice cA 2 cc)
  have g8 : w8.heap[p0]? = some (.cells #[.slice none 0 0, .int .i64 4, .slice sA 2 sc, .slice wA 2 wc] 31 (0, 0)) := (hT8.get (i := 1) rfl).here
  have t8 := blk_cell g8 0
  have u8f := blk_free g8
  have v8 := blk_lt g8
  simp at t8
  clear hr8 hk8 hn8
  clear q7 x70 x72 x73 f7 l7 hS7
  go_upto_region 9 with fail
  obtain ⟨w9, hw9⟩ : ∃ w9, w9 = w8.setCell ⟨p0, 0, none⟩ (.slice cA 2 cc) := ⟨_, rfl⟩
  rw [← hw9] at hU8 ⊢
  have hS9 : Stand w w9 [blkT r0 (.cells #[.slice none 0 0, .int .i64 0, .slice none 0 0, .slice none 0 0] 31 (0, 0)), blkT p0 (.cells #[.slice cA 2 cc, .int .i64 4, .slice sA 2 sc, .slice wA 2 wc] 31 (0, 0)), rowT 69 3 sA 2 sc (spansR.flatMap Span.cells), rowT 62 4 wA 2 wc (wiresR.flatMap Wire.cells), rowT 72 3 aA 5 ac (opsA.flatMap Op.cells), rowT 72 3 bA 3 bc (opsB.flatMap Op.cells), rowT 70 1 cA 2 cc ([.slice aA 5 ac, .slice bA 3 bc])] := hU8
  clear hw9 hU8 hT8 g8 t8 u8f v8
  have q0 : w9.heap[p0]? = some (.cells #[.slice cA 2 cc, .int .i64 4, .slice sA 2 sc, .slice wA 2 wc] 31 (0, 0)) := (hS9.get (i := 1) rfl).here
  have y0 := blk_cell q0 0
  have y1 := blk_cell q0 1
  have y2 := blk_cell q0 2
  have y3 := blk_cell q0 3
  have yl := blk_lt q0
  have q1 : w9.heap[r0]? = some (.cells #[.slice none 0 0, .int .i64 0, .slice none 0 0, .slice none 0 0] 31 (0, 0)) := (hS9.get (i := 0) rfl).here
  have z0 := blk_cell q1 0
  have z1 := blk_cell q1 1
  have z2 := blk_cell q1 2
  have z3 := blk_cell q1 3
  have zf := blk_free q1
  have zl := blk_lt q1
  simp at y0 y1 y2 y3 z0 z1 z2 z3
  go_wp2_with fail
  have hE0 := st_blk hS9 (i := 0) rfl 0 (.slice cA 2 cc)
  have hE1 := st_blk hE0 (i := 0) rfl 1 (.int .i64 4)
  have hE2 := st_blk hE1 (i := 0) rfl 2 (.slice sA 2 sc)
  have hE3 := st_blk hE2 (i := 0) rfl 3 (.slice wA 2 wc)
  obtain ⟨W, hW⟩ : ∃ W, W = (((w9.setCell ⟨r0, 0, none⟩ (.slice cA 2 cc)).setCell ⟨r0, 1, none⟩ (.int .i64 4)).setCell ⟨r0, 2, none⟩ (.slice sA 2 sc)).setCell ⟨r0, 3, none⟩ (.slice wA 2 wc) := ⟨_, rfl⟩
  rw [← hW] at hE3 ⊢
  clear hW hE0 hE1 hE2
  have k0 : W.heap[r0]? = some (.cells #[.slice cA 2 cc, .int .i64 4, .slice sA 2 sc, .slice wA 2 wc] 31 (0, 0)) := (hE3.get (i := 0) rfl).here
  have c0 := blk_cell k0 0
  have c1 := blk_cell k0 1
  have c2 := blk_cell k0 2
  have c3 := blk_cell k0 3
  simp at c0 c1 c2 c3
  exact bodyPost_ret (v := .agg #[.slice cA 2 cc, .int .i64 4, .slice sA 2 sc, .slice wA 2 wc]) (by simp [results, Tryz.results9, go_sem, c0, c1, c2, c3]) rfl ⟨⟨cA, cc, [⟨aA, ac, opsA⟩, ⟨bA, bc, opsB⟩], 4, sA, sc, spansR, wA, wc, wiresR⟩, rfl, rfl, rows_plan (hE3.get (i := 2) rfl).here (hE3.get (i := 3) rfl).here (hE3.get (i := 4) rfl).here (hE3.get (i := 5) rfl).here (hE3.get (i := 6) rfl).here, hE3.below⟩
end Go.Proofs.YthdmgighblhmhaaGreatDoor

/- The reference (package frameref2): Line, for every line. And plain: a text's lines as the reference cuts them. Conditions: none. -/
namespace Go.Proofs.YthdmgighblhmhaaGreatDoor
open Go.RowKit
set_option maxRecDepth 100000

section
variable {w0 w : World} {kb : Nat} {M : KM} {k : Kst} {ts : List Tg}
theorem rline_all {B : Int} (hk : KOk runPl k B) (hB : B ≤ 900000) (s : ByteArray) (hs : s.size ≤ 100000) (h : Stand w0 w (rrT kb runPl M k :: ts)) :
    Calls Tryz.prog 10 #[.pointer (some ⟨kb, 0, none⟩), .string s] w (RAnsGot w0 ts kb (lineA k s.data.toList)) := by
  obtain ⟨v0, vs, hc⟩ := cutA_cons 32 s.data.toList []
  cases hn : numsOf 4 vs with
  | none =>
    rw [lineA_none hc hn]
    exact rl_none s hs hc hn h
  | some ns =>
    rw [lineA_word hc hn]
    by_cases hw : wantOf v0 = some ns.length
    · rcases want_cases hw with ⟨rfl, hj⟩ | ⟨rfl, hj⟩ | ⟨rfl, hj⟩ | ⟨rfl, hj⟩ | ⟨rfl, hj⟩
      · obtain ⟨a, rfl⟩ := List.length_eq_one_iff.1 hj
        exact rl_go hk hB s hs hc hn h
      · obtain rfl := List.length_eq_zero_iff.1 hj
        exact rl_tick hk hB s hs hc hn h
      · obtain ⟨a, rfl⟩ := List.length_eq_one_iff.1 hj
        exact rl_show hk s hs hc hn h
      · obtain ⟨a, rfl⟩ := List.length_eq_one_iff.1 hj
        exact rl_wire hk hB s hs hc hn h
      · obtain ⟨a, a1, a2, rfl⟩ : ∃ a a1 a2, ns = [a, a1, a2] := by
          match ns, hj with
          | [a, a1, a2], _ => exact ⟨a, a1, a2, rfl⟩
        exact rl_poke hk s hs hc hn h
    · rw [wordA_bad k hw]
      exact rl_bad s hs hc hn hw h
end
/-- Without what stands behind the last line's end. -/
def endCut (l : List (List UInt8)) : List (List UInt8) := if l.getLast? = some [] then l.dropLast else l
theorem endCut_cons (a : List UInt8) {l : List (List UInt8)} (h : l ≠ []) : endCut (a :: l) = a :: endCut l := by
  unfold endCut
  rw [List.getLast?_cons_of_ne_nil h]
  split
  · rw [List.dropLast_cons_of_ne_nil h]
  · rfl
theorem cutA_ne (c : UInt8) (t acc : List UInt8) : cutA c acc t ≠ [] := fun h => by
  have := cutA_len c t acc
  rw [h] at this
  simp at this
theorem bare_no {l : List UInt8} (h : (10 : UInt8) ∉ l) : bare l = l := by
  unfold bare
  rw [if_neg (fun e => h (List.mem_of_getLast? e))]
theorem lines_end : ∀ (t acc : List UInt8), (10 : UInt8) ∉ acc → (linesA acc t).map bare = endCut (cutA 10 acc t)
  | [], acc, h => by
    unfold linesA cutA
    by_cases ha : acc = []
    · subst ha; rfl
    · rw [if_neg ha]
      unfold endCut
      rw [if_neg (by simp; exact ha)]
      simp [bare_no h]
  | x :: r, acc, h => by
    unfold linesA cutA
    by_cases hx : x = 10
    · rw [if_pos hx, if_pos hx, endCut_cons _ (cutA_ne _ _ _), ← lines_end r [] (by simp), List.map_cons, bare_line]
    · rw [if_neg hx, if_neg hx]
      exact lines_end r (acc ++ [x]) (fun hm => by
        rcases List.mem_append.1 hm with hm | hm
        · exact h hm
        · simp at hm; exact hx hm.symm)
theorem lines_cutA (t : List UInt8) : (linesOf t).map bare = endCut (cutA 10 [] t) := lines_end t [] (by simp)
end Go.Proofs.YthdmgighblhmhaaGreatDoor
