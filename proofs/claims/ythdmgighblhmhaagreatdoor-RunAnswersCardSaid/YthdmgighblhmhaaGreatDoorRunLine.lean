/- Package run: the contract of line on a kernel that stands. Conditions: 'Desk' and run.unread, which the row lists. -/
import Derived.Test.YthdmgighblhmhaaGreatDoorRunKern
import Derived.Test.YthdmgighblhmhaaGreatDoorRunAU
import Derived.Test.YthdmgighblhmhaaGreatDoorDeskU
import Derived.Test.YthdmgighblhmhaaGreatDoorEvU
import Derived.Deep.RegionHeld3
import Derived.BigQuiet
import Derived.Deep.DeepCutAuto
import Derived.Deep.CutBlock
namespace Go.Proofs.YthdmgighblhmhaaGreatDoor
open Go.RowKit
set_option maxRecDepth 100000

def Unread (w : World) : Prop := w.cell? ⟨0, 0, none⟩ = some (.iface 98 (.int .i64 2))
theorem Unread.new {w w' : World} (h : Unread w) (hb : Below w.heap.size w w') : Unread w' := (hb.cell (p := ⟨0, 0, none⟩) (cell_lt h)).trans h
/-- The error of a line that cannot be read. -/
def badV : Value := .iface 97 (.agg #[.iface 98 (.int .i64 2)])
/-- What line hands back. -/
def LineGot (w0 : World) (ts : List Tg) (kb : Nat) (k : Kst) (q : List UInt8 × Kst) (e : Ending) (w' : World) : Prop :=
  AnsGot w0 ts kb q e w' ∨ (q = (badA, k) ∧ e = .returned (.tuple #[.string ⟨#[]⟩, badV]) ∧ ∃ M', Stand w0 w' (rnT kb runPl M' k :: ts))
theorem belowQR {B : Nat} {a w : World} (h : Below B a w) (n : Nat) : Below B a (w.drewN n) := ⟨h.os, h.tape, h.output, h.size, h.block⟩
theorem Stand.perm3 {w0 w : World} {ts : List Tg} {a b c : Tg} (h : Stand w0 w (c :: b :: a :: ts)) : Stand w0 w (a :: b :: c :: ts) := by
  refine h.sub (fun i => if i = 0 then 2 else if i = 1 then 1 else if i = 2 then 0 else i) (fun i u hi => ?_) (fun i j h1 h2 hne => ?_)
  · match i, hi with
    | 0, hi => exact hi
    | 1, hi => exact hi
    | 2, hi => exact hi
    | i + 3, hi => exact hi
  · repeat' split
    all_goals omega
theorem Stand.drop2 {w0 w : World} {ts : List Tg} {a b c : Tg} (h : Stand w0 w (a :: b :: c :: ts)) : Stand w0 w (a :: ts) := by
  refine h.sub (fun i => if i = 0 then 0 else i + 2) (fun i u hi => ?_) (fun i j h1 h2 hne => ?_)
  · match i, hi with
    | 0, hi => exact hi
    | i + 1, hi => exact hi
  · repeat' split
    all_goals omega
theorem nums_stand {w0 w w' : World} {ts : List Tg} {a b : Tg} {A : Option Addr} {n : Nat} {xs : List Value} (h : Stand w0 w (b :: a :: ts)) (hb : Below w.heap.size w w') (hs : Sl w' A 1 n xs) (hf : ∀ i, InA A i → w.heap.size ≤ i) : Stand w0 w' (a :: b :: slT A 1 n xs :: ts) :=
  (h.add hb (sl_lie hs) (fun _ hj => hj.elim) (fun j hj => .inl (hf j hj.2))).head.perm3
/-- What Numbers gives line. -/
def NumsF (ws : List ByteArray) (b : Bool) (ns : List Nat) : Prop :=
  (b = true ∧ numsOf 4 (ws.map fun s => s.data.toList) = some ns) ∨ (b = false ∧ numsOf 4 (ws.map fun s => s.data.toList) = none)
section
variable {w0 w : World} {kb : Nat} {M : KM} {k : Kst} {ts : List Tg}
theorem rn_keep {b T n nb off : Nat} {v x : Value} {xs : List Value} (h : Stand w0 w (rnT kb runPl M k :: bxT b T v :: slT (some ⟨nb, off, none⟩) 1 n (x :: xs) :: ts)) : w.cell? ⟨b, 0, none⟩ = some v ∧ w.cell? ⟨nb, off, none⟩ = some x := by
  refine ⟨(show Boxed w b T v from (h.get (i := 1) rfl).here).cell, ?_⟩
  have hs : Sl w (some ⟨nb, off, none⟩) 1 n (x :: xs) := (h.get (i := 2) rfl).here
  have hn := hs.1
  simp only [List.length_cons] at hn
  obtain ⟨b', o', e, _, hx⟩ := hs.2 (by omega)
  injection e with e
  injection e with e1 e2
  subst e1 e2
  exact hx 0 _ rfl
theorem rn_keep3 {b T n nb off : Nat} {v x y z : Value} {xs : List Value} (h : Stand w0 w (rnT kb runPl M k :: bxT b T v :: slT (some ⟨nb, off, none⟩) 1 n (x :: y :: z :: xs) :: ts)) : w.cell? ⟨b, 0, none⟩ = some v ∧ w.cell? ⟨nb, off, none⟩ = some x ∧ w.cell? ⟨nb, off + 1, none⟩ = some y ∧ w.cell? ⟨nb, off + 2, none⟩ = some z := by
  refine ⟨(show Boxed w b T v from (h.get (i := 1) rfl).here).cell, ?_⟩
  have hs : Sl w (some ⟨nb, off, none⟩) 1 n (x :: y :: z :: xs) := (h.get (i := 2) rfl).here
  have hn := hs.1
  simp only [List.length_cons] at hn
  obtain ⟨b', o', e, _, hx⟩ := hs.2 (by omega)
  injection e with e
  injection e with e1 e2
  subst e1 e2
  exact ⟨hx 0 _ rfl, hx 1 _ rfl, hx 2 _ rfl⟩
theorem rn_poke {us : List Tg} (r c v : Int) {B : Int} (hk : KOk runPl k B) (h : Stand w0 w (rnT kb runPl M k :: us)) :
    Calls Tryz.prog 61 #[.pointer (some ⟨kb, 0, none⟩), .int .i64 r, .int .i64 c, .int .i64 v] w fun e w' => ∃ er k', e = .returned (errV er) ∧ ((pokeOk 2 r c v = true ∧ er = 0 ∧ k' = pokeK k r c v) ∨ (pokeOk 2 r c v = false ∧ er = 1 ∧ k' = k)) ∧ Stand w0 w' (rnT kb runPl M k' :: us) := by
  have hl := h.get (i := 0) rfl
  have hlen := run_rooms hk
  cases hb : pokeOk 2 r c v with
  | true =>
    refine (kpoke_ok r c v (by rw [hlen]; decide) hl.here.1 (by rw [hlen]; exact hb)).mono ?_
    rintro e w' ⟨rfl, h1, h2, _⟩
    exact ⟨0, _, by rw [errV_zero], .inl ⟨rfl, rfl, rfl⟩, h.go 0 rfl (k_went hl h1 ⟨rfl, rfl⟩ h2 fun j hj => .inl hj)⟩
  | false =>
    refine (kpoke_bad r c v (by rw [hlen]; decide) hl.here.1 (by rw [hlen]; exact hb)).mono ?_
    rintro e w' ⟨rfl, rfl⟩
    exact ⟨1, _, rfl, .inr ⟨rfl, rfl, rfl⟩, h⟩
set_option maxHeartbeats 8000000 in
theorem line_any {B : Int} (hk : KOk runPl k B) (hB : B ≤ 900000) (hd0 : Desk w0) (hu0 : Unread w0) (s : ByteArray) (hs : s.size ≤ 100000) (h : Stand w0 w (rnT kb runPl M k :: ts)) :
    Calls Tryz.prog 32 #[.agg #[.pointer (some ⟨kb, 0, none⟩)], .string s] w (LineGot w0 ts kb k (lineA k s.data.toList)) := by
  have hd := hd0.new h.below
  have hu := hu0.new h.below
  have HD0 := hid hd0
  have hst1 := h.push 44 (.pointer (some ⟨kb, 0, none⟩))
  obtain ⟨w1, hw1⟩ : ∃ w1, w1 = w.alloc (.cells #[.pointer (some ⟨kb, 0, none⟩)] 44) := ⟨_, rfl⟩
  have hb1 : Below w.heap.size w w1 := by rw [hw1]; exact (Below.refl _ _).alloc (Nat.le_refl _) _
  rw [← hw1] at hst1
  have HST1 := hid hst1
  have HK := hid hk
  have HD : Hid (∀ w', Below w.heap.size w w' → Desk w' ∧ Unread w') := hid fun w' hb => ⟨hd.new hb, hu.new hb⟩
  have HSPLIT := hid (split_any s (by omega) w1 (hd.new hb1))
  have HB1 := hid hb1
  clear hk hd hu hd0 hu0 h hst1 hb1
  go_enter Tryz.func32, Tryz.ntmps32
  go_upto_region 2 with (go_at_call 53; rw [← hw1]; refine HSPLIT.out.mono ?_; rintro e w2 ⟨ws, n, hn, hws, hle, hns, rfl, rfl⟩; have HN := hid hn; have HWS := hid hws; have HLE := hid hle; clear hw1 hn hws hle HSPLIT)
  obtain ⟨v0, vs, hcut⟩ := cutA_cons 32 s.data.toList []
  have HCUT := hid hcut
  have hws0 := HWS.out
  rw [hcut] at hws0
  obtain ⟨x0, rest, hwr, h0, hrest⟩ : ∃ x0 rest, ws = x0 :: rest ∧ x0.data.toList = v0 ∧ rest.map (fun s : ByteArray => s.data.toList) = vs := by
    cases ws with
    | nil => simp at hws0
    | cons x0 rest =>
      rw [List.map_cons] at hws0
      injection hws0 with h1 h2
      exact ⟨x0, rest, rfl, h1, h2⟩
  have hn := HN.out
  rw [hwr, List.length_cons] at hn
  have hsl := split_sl (w := w1) HN.out
  have hrl : ∀ x ∈ rest, x.size ≤ 1073741824 := fun x hx => Nat.le_trans (HLE.out x (by rw [hwr]; simp [hx])) (by omega)
  have hx0l : x0.size ≤ 1099511627776 := Nat.le_trans (HLE.out x0 (by rw [hwr]; simp)) (by omega)
  obtain ⟨W2, hW2⟩ : ∃ W2, w1.alloc (.cells (ws.map Value.string).toArray 9) = W2 := ⟨_, rfl⟩
  have hb2 : Below w1.heap.size w1 W2 := by rw [← hW2]; exact (Below.refl _ _).alloc (Nat.le_refl _) _
  rw [hW2] at hsl ⊢
  have hlt2 : w1.heap.size < W2.heap.size := by rw [← hW2]; simp
  have hsl1 : Sl W2 (some ⟨w1.heap.size, 1, none⟩) 1 (n - 1) (rest.map Value.string) := by
    refine ⟨by rw [List.length_map]; omega, fun _ => ⟨w1.heap.size, 1, rfl, hlt2, fun j u hu => ?_⟩⟩
    obtain ⟨b, off, e, _, hx⟩ := hsl.2 (by omega)
    injection e with e
    injection e with e1 e2
    subst e1 e2
    have := hx (j + 1) u (by rw [hwr, List.map_cons]; exact hu)
    rw [show 1 + j = 0 + (j + 1) by omega]; exact this
  have hw0 : W2.cell? ⟨w1.heap.size, 0, none⟩ = some (.string x0) := by
    obtain ⟨b, off, e, _, hx⟩ := hsl.2 (by omega)
    injection e with e
    injection e with e1 e2
    subst e1 e2
    exact hx 0 _ (by rw [hwr]; rfl)
  have hn1 : 1 ≤ n := by omega
  have HST2 := hid (HST1.out.new hb2)
  have HB2 := hid (HB1.out.trans (hb2.mono HB1.out.size))
  have HW0 : Hid (∀ w', Below W2.heap.size W2 w' → w'.cell? ⟨w1.heap.size, 0, none⟩ = some (.string x0) ∧ w1.heap.size < w'.heap.size) := hid fun w' hb => ⟨(hb.cell (p := ⟨w1.heap.size, 0, none⟩) hlt2).trans hw0, Nat.lt_of_lt_of_le hlt2 hb.size⟩
  have HNUMS1 : Hid (n = 1 → ∀ w', Below W2.heap.size W2 w' → Calls Tryz.prog 55 #[.slice (some ⟨w1.heap.size, 0, none⟩) 0 0, .int .i64 4] w' (NumsGot 4 rest w')) := hid fun h1 w' hb => numbers_any rest _ 0 0 4 (by omega) (by omega) hrl w' (HD.out w' (HB2.out.trans (hb.mono HB2.out.size))).1 (by
    have : rest = [] := List.eq_nil_of_length_eq_zero (by omega)
    rw [this]; exact Sl.nil _ _ _)
  have HNUMS : Hid (∀ w', Below W2.heap.size W2 w' → Calls Tryz.prog 55 #[.slice (some ⟨w1.heap.size, 1, none⟩) (n - 1) (n - 1), .int .i64 4] w' (NumsGot 4 rest w')) := hid fun w' hb => numbers_any rest _ (n - 1) (n - 1) 4 (by omega) (by omega) hrl w' (HD.out w' (HB2.out.trans (hb.mono HB2.out.size))).1 (hsl1.new hb)
  have HWANTS : Hid (∀ w', Calls Tryz.prog 54 #[] w' (WantsGot w')) := hid fun w' => wants_any w'
  have HREST := hid hrest
  have HX0 := hid h0
  have HX0L := hid hx0l
  have hn0 : (0 : Int) < n := by omega
  have hnN : 0 < n := by omega
  have hnI : (1 : Int) ≤ n := by omega
  clear hW2 hws0 hsl hsl1 hb2 hwr hrl hrest hcut HN HWS HLE h0 hx0l HST1 HB1
  go_region_held3 (fun w' => w'.cell? ⟨w1.heap.size, 0, none⟩ = some (.string x0))
    (first | exact hw0 | exact (HW0.out _ HB3.out).1)
    ((go_at_call 54; refine (HWANTS.out _).mono ?_; rintro e w3 ⟨mb, rfl, hown, hb3⟩; have HB3 : Hid (Below W2.heap.size W2 w3) := hid ((Below.refl _ _).drew.trans hb3); have hlook := wants_look hown x0 HX0L.out; clear hown hb3))
  have HST3 := hid (HST2.out.new HB3.out)
  clear hlook HST2 HWANTS
  go_upto_region 3 with fail
  go_cut [9, 10] (fun v9 v10 wx => ∃ (A : Option Addr) (m c : Nat) (b : Bool) (ns : List Nat), v9 = .slice A m c ∧ v10 = .bool b ∧ NumsF rest b ns ∧ ns.length = m ∧ m ≤ c ∧ c ≤ maxLen ∧ Stand w0 wx (rnT kb runPl M k :: bxT w.heap.size 44 (.pointer (some ⟨kb, 0, none⟩)) :: slT A 1 m (ints (ns.map Int.ofNat)) :: ts) ∧ Below w3.heap.size w3 wx)
  case first =>
    as_aux_lemma =>
    rcases (show n = 1 ∨ 1 < n by omega) with h1 | h1
    · obtain rfl : n = 1 := h1
      go_wp2_with (go_at_call 55; refine (HNUMS1.out rfl _ HB3.out).mono ?_; rintro e w4 ⟨hb4, ⟨ns, A, m, c, h1, h2, rfl, hrow, hfr⟩ | ⟨h1, rfl⟩⟩)
      · go_wp2_with fail
        go_meet
        exact ⟨A, m, c, true, ns, rfl, rfl, .inl ⟨rfl, h1⟩, h2, hrow.le.1, hrow.le.2, nums_stand HST3.out hb4 hrow.sl hfr, hb4⟩
      · go_wp2_with fail
        go_meet
        exact ⟨none, 0, 0, false, [], rfl, rfl, .inr ⟨rfl, h1⟩, rfl, Nat.le_refl _, Nat.zero_le _, nums_stand HST3.out hb4 (Sl.nil _ _ _) (fun i hi => by simp [InA] at hi), hb4⟩
    · have hn2 : (1 : Int) < n := by omega
      go_wp2_with (go_at_call 55; refine (HNUMS.out _ HB3.out).mono ?_; rintro e w4 ⟨hb4, ⟨ns, A, m, c, h1, h2, rfl, hrow, hfr⟩ | ⟨h1, rfl⟩⟩)
      · go_wp2_with fail
        go_meet
        exact ⟨A, m, c, true, ns, rfl, rfl, .inl ⟨rfl, h1⟩, h2, hrow.le.1, hrow.le.2, nums_stand HST3.out hb4 hrow.sl hfr, hb4⟩
      · go_wp2_with fail
        go_meet
        exact ⟨none, 0, 0, false, [], rfl, rfl, .inr ⟨rfl, h1⟩, rfl, Nat.le_refl _, Nat.zero_le _, nums_stand HST3.out hb4 (Sl.nil _ _ _) (fun i hi => by simp [InA] at hi), hb4⟩
  case rest =>
    obtain ⟨A, m, c, b, ns, rfl, rfl, hnf, hnm, hmc, hcl, hst, hb4⟩ := hcut
    have HSTC := hid hst
    have HB4 := hid hb4
    have hbc : Below w.heap.size w wc := HB2.out.trans ((HB3.out.trans (hb4.mono HB3.out.size)).mono HB2.out.size)
    have hun : wc.cell? ⟨0, 0, none⟩ = some (.iface 98 (.int .i64 2)) := (HD.out wc hbc).2
    have hul := cell_lt hun
    have HDC := hid (HD.out wc hbc).1
    have HT : Hid (x0.toList = v0) := hid (by rw [Lib.toList_data]; exact HX0.out)
    unfold maxLen at hcl
    rw [HX0.out]
    clear hst hb4 hbc HNUMS HNUMS1 HST3
    unfold NumsF at hnf
    rw [HREST.out] at hnf
    rcases hnf with ⟨rfl, hns1⟩ | ⟨rfl, hns1⟩
    rotate_left
    · have HQ : Hid (lineA k s.data.toList = (badA, k)) := hid (lineA_none HCUT.out hns1)
      clear hns1
      cases wantOf v0 with
      | none =>
        simp only [Option.getD_none, Option.isSome_none]
        go_upto_region 5 with fail
        go_quiet (fail)
        go_wp2_with fail
        go_ret2
        exact .inr ⟨HQ.out, rfl, M, (HSTC.out.new (belowQR (Below.refl _ _) _)).drop2⟩
      | some j =>
        simp only [Option.getD_some, Option.isSome_some]
        go_upto_region 5 with fail
        go_quiet (fail)
        go_wp2_with fail
        go_ret2
        exact .inr ⟨HQ.out, rfl, M, (HSTC.out.new (belowQR (Below.refl _ _) _)).drop2⟩
    have HLT := hid (nums_lt4 hns1)
    have HQ0 := hid (lineA_word (k := k) HCUT.out hns1)
    clear hns1
    by_cases hw : wantOf v0 = some ns.length
    rotate_left
    · have HQ : Hid (lineA k s.data.toList = (badA, k)) := hid (HQ0.out.trans (wordA_bad k hw))
      rw [hnm] at hw
      cases hwo : wantOf v0 with
      | none =>
        simp only [Option.getD_none, Option.isSome_none]
        go_upto_region 5 with fail
        go_quiet (fail)
        go_wp2_with fail
        go_ret2
        exact .inr ⟨HQ.out, rfl, M, (HSTC.out.new (belowQR (Below.refl _ _) _)).drop2⟩
      | some j =>
        have hjm : ((m : Int) == (j : Int)) = false := by
          rw [beq_eq_false_iff_ne]
          intro e
          exact hw (by rw [hwo]; congr 1; omega)
        have hjm2 : ((m : Int) != (j : Int)) = true := by rw [bne, hjm]; rfl
        simp only [Option.getD_some, Option.isSome_some]
        go_upto_region 5 with fail
        go_quiet (fail)
        go_wp2_with fail
        go_ret2
        exact .inr ⟨HQ.out, rfl, M, (HSTC.out.new (belowQR (Below.refl _ _) _)).drop2⟩
    have HQ := HQ0
    clear HQ0
    rw [hw]
    simp only [Option.getD_some, Option.isSome_some]
    rw [hnm]
    have hmm : ((m : Int) != (m : Int)) = false := by simp
    rcases want_cases hw with ⟨hv, hj⟩ | ⟨hv, hj⟩ | ⟨hv, hj⟩ | ⟨hv, hj⟩ | ⟨hv, hj⟩
    all_goals
      clear hw
      obtain rfl : m = ns.length := hnm.symm
      clear hnm
    · as_aux_lemma =>
      obtain ⟨a, rfl⟩ : ∃ a, ns = [a] := List.length_eq_one_iff.1 hj
      have ha : a < 10000 := HLT.out a (by simp)
      have e0 : (x0.toList == ([103, 111] : List UInt8)) = true := by rw [HT.out, hv]; decide
      rw [hv, wordA_go] at HQ
      obtain ⟨nb, off, rfl, hnb, hcells⟩ := (show Sl wc A 1 1 (ints ([a].map Int.ofNat)) from (HSTC.out.get (i := 2) rfl).here).2 (by decide)
      obtain ⟨z0, z1⟩ := rn_keep HSTC.out
      obtain ⟨z2, hl2⟩ := HW0.out wc (HB3.out.trans (HB4.out.mono HB3.out.size))
      have hl0 := cell_lt z0
      have hai : (Int.ofNat a) = (a : Int) := rfl
      clear hcells hv
      go_upto_region 8 with fail
      clear e0
      go_region_held3 (fun w' => w'.cell? ⟨w.heap.size, 0, none⟩ = some (.pointer (some ⟨kb, 0, none⟩)) ∧ w'.cell? ⟨nb, off, none⟩ = some (.int .i64 a))
        (first | exact ⟨z0, z1⟩ | exact rn_keep HST5.out)
        ((go_at_call 56; refine (goes_any HK.out (by omega) a (by omega) (HSTC.out.new (Below.refl _ _).drew)).mono ?_; rintro e w5 ⟨T5, er, M5, rfl, hT5, hst5⟩; have HST5 := hid hst5; have HT5 := hid hT5; clear hst5 hT5))
      go_wp2_with fail
      go_ret2
      rw [HQ.out]
      exact .inl ⟨T5, er, M5, rfl, HT5.out, HST5.out.drop2⟩
    · as_aux_lemma =>
      obtain rfl : ns = [] := List.length_eq_zero_iff.1 hj
      have e0 : (x0.toList == ([103, 111] : List UInt8)) = false := by rw [HT.out, hv]; decide
      have e1 : (x0.toList == ([116, 105, 99, 107] : List UInt8)) = true := by rw [HT.out, hv]; decide
      rw [hv, wordA_tick] at HQ
      have z0 : wc.cell? ⟨w.heap.size, 0, none⟩ = some (.pointer (some ⟨kb, 0, none⟩)) := (show Boxed wc w.heap.size 44 (.pointer (some ⟨kb, 0, none⟩)) from (HSTC.out.get (i := 1) rfl).here).cell
      obtain ⟨z2, hl2⟩ := HW0.out wc (HB3.out.trans (HB4.out.mono HB3.out.size))
      have hl0 := cell_lt z0
      have htk := rn_tick (i := 0) HSTC.out rfl HK.out (by omega)
      have hev := evr_right runPl_ok HK.out (by have := HK.out.timeB; omega)
      have HQK := hid (show (lineA k s.data.toList).2 = (tick runPl k).2 by rw [HQ.out])
      have HQ1 := hid (show (lineA k s.data.toList).1 = evLine (tick runPl k).1 by rw [HQ.out])
      generalize (tick runPl k).1 = ev at htk hev HQ1
      have HTK := hid htk
      have HEV := hid hev
      clear htk hev hv HQ
      go_wp2_with (first
        | (go_at_call 57; refine (ttext_any ev HEV.out _ (HD0.out.new HST5.out.below).pows).mono ?_; rintro e w6 ⟨T6, rfl, hT6, hb6⟩; have HT6 := hid hT6; have HST6 := hid (HST5.out.new hb6); clear hT6 hb6)
        | (go_at_call 58; refine HTK.out.mono ?_; rintro e w5 ⟨M5, rfl, hst5⟩; have HST5 : Hid (Stand w0 w5 (rnT kb runPl M5 (tick runPl k).2 :: bxT w.heap.size 44 (.pointer (some ⟨kb, 0, none⟩)) :: slT A 1 ([] : List Nat).length (ints (([] : List Nat).map Int.ofNat)) :: ts)) := hid hst5; clear hst5 HTK))
      go_ret2
      refine .inl ⟨T6, 0, M5, (by rw [errV_zero]; rfl), .inl ⟨rfl, ?_⟩, ?_⟩
      · rw [HQ1.out]; exact HT6.out
      · rw [HQK.out]; exact HST6.out.drop2
    · as_aux_lemma =>
      obtain ⟨a, rfl⟩ : ∃ a, ns = [a] := List.length_eq_one_iff.1 hj
      have ha : a < 10000 := HLT.out a (by simp)
      have e0 : (x0.toList == ([103, 111] : List UInt8)) = false := by rw [HT.out, hv]; decide
      have e1 : (x0.toList == ([116, 105, 99, 107] : List UInt8)) = false := by rw [HT.out, hv]; decide
      have e2 : (x0.toList == ([115, 104, 111, 119] : List UInt8)) = true := by rw [HT.out, hv]; decide
      rw [hv, wordA_show] at HQ
      obtain ⟨nb, off, rfl, hnb, hcells⟩ := (show Sl wc A 1 1 (ints ([a].map Int.ofNat)) from (HSTC.out.get (i := 2) rfl).here).2 (by decide)
      obtain ⟨z0, z1⟩ := rn_keep HSTC.out
      obtain ⟨z2, hl2⟩ := HW0.out wc (HB3.out.trans (HB4.out.mono HB3.out.size))
      have hl0 := cell_lt z0
      have hai : (Int.ofNat a) = (a : Int) := rfl
      clear hcells hv
      go_upto_region 12 with fail
      clear e0
      go_region_held3 (fun w' => w'.cell? ⟨w.heap.size, 0, none⟩ = some (.pointer (some ⟨kb, 0, none⟩)) ∧ w'.cell? ⟨nb, off, none⟩ = some (.int .i64 a))
        (first | exact ⟨z0, z1⟩ | exact rn_keep HST5.out)
        ((go_at_call 59; refine (show_any HK.out (HDC.out.new (Below.refl _ _).drew) a (HSTC.out.new (Below.refl _ _).drew)).mono ?_; rintro e w5 ⟨T5, er, M5, rfl, hT5, hst5⟩; have HST5 := hid hst5; have HT5 := hid hT5; clear hst5 hT5))
      go_wp2_with fail
      go_ret2
      rw [HQ.out]
      exact .inl ⟨T5, er, M5, rfl, HT5.out, HST5.out.drop2⟩
    · as_aux_lemma =>
      obtain ⟨a, rfl⟩ : ∃ a, ns = [a] := List.length_eq_one_iff.1 hj
      have ha : a < 10000 := HLT.out a (by simp)
      have e0 : (x0.toList == ([103, 111] : List UInt8)) = false := by rw [HT.out, hv]; decide
      have e1 : (x0.toList == ([116, 105, 99, 107] : List UInt8)) = false := by rw [HT.out, hv]; decide
      have e2 : (x0.toList == ([115, 104, 111, 119] : List UInt8)) = false := by rw [HT.out, hv]; decide
      have e3 : (x0.toList == ([119, 105, 114, 101] : List UInt8)) = true := by rw [HT.out, hv]; decide
      rw [hv, wordA_wire] at HQ
      obtain ⟨nb, off, rfl, hnb, hcells⟩ := (show Sl wc A 1 1 (ints ([a].map Int.ofNat)) from (HSTC.out.get (i := 2) rfl).here).2 (by decide)
      obtain ⟨z0, z1⟩ := rn_keep HSTC.out
      obtain ⟨z2, hl2⟩ := HW0.out wc (HB3.out.trans (HB4.out.mono HB3.out.size))
      have hl0 := cell_lt z0
      have hai : (Int.ofNat a) = (a : Int) := rfl
      clear hcells hv
      go_upto_region 14 with fail
      clear e0
      go_region_held3 (fun w' => w'.cell? ⟨w.heap.size, 0, none⟩ = some (.pointer (some ⟨kb, 0, none⟩)) ∧ w'.cell? ⟨nb, off, none⟩ = some (.int .i64 a))
        (first | exact ⟨z0, z1⟩ | exact rn_keep HST5.out)
        ((go_at_call 60; refine (wire_any HK.out (by omega) (HDC.out.new (Below.refl _ _).drew) a (HSTC.out.new (Below.refl _ _).drew)).mono ?_; rintro e w5 ⟨T5, er, M5, rfl, hT5, hst5⟩; have HST5 := hid hst5; have HT5 := hid hT5; clear hst5 hT5))
      go_wp2_with fail
      go_ret2
      rw [HQ.out]
      exact .inl ⟨T5, er, M5, rfl, HT5.out, HST5.out.drop2⟩
    · as_aux_lemma =>
      obtain ⟨a, a1, a2, rfl⟩ : ∃ a a1 a2, ns = [a, a1, a2] := by
        match ns, hj with
        | [a, a1, a2], _ => exact ⟨a, a1, a2, rfl⟩
      have e0 : (x0.toList == ([103, 111] : List UInt8)) = false := by rw [HT.out, hv]; decide
      have e1 : (x0.toList == ([116, 105, 99, 107] : List UInt8)) = false := by rw [HT.out, hv]; decide
      have e2 : (x0.toList == ([115, 104, 111, 119] : List UInt8)) = false := by rw [HT.out, hv]; decide
      have e3 : (x0.toList == ([119, 105, 114, 101] : List UInt8)) = false := by rw [HT.out, hv]; decide
      rw [hv, wordA_poke] at HQ
      obtain ⟨nb, off, rfl, hnb, hcells⟩ := (show Sl wc A 1 3 (ints ([a, a1, a2].map Int.ofNat)) from (HSTC.out.get (i := 2) rfl).here).2 (by decide)
      obtain ⟨z0, z1, z3, z4⟩ := rn_keep3 HSTC.out
      have hi0 : (Int.ofNat a) = (a : Int) := rfl
      have hi1 : (Int.ofNat a1) = (a1 : Int) := rfl
      have hi2 : (Int.ofNat a2) = (a2 : Int) := rfl
      rw [hi0] at z1
      rw [hi1] at z3
      rw [hi2] at z4
      obtain ⟨z2, hl2⟩ := HW0.out wc (HB3.out.trans (HB4.out.mono HB3.out.size))
      have hl0 := cell_lt z0
      clear hcells hv hi0 hi1 hi2
      go_upto_region 15 with fail
      clear e0 e1 e2 e3
      go_region_held3 (fun w' => w'.cell? ⟨w.heap.size, 0, none⟩ = some (.pointer (some ⟨kb, 0, none⟩)) ∧ w'.cell? ⟨nb, off, none⟩ = some (.int .i64 a) ∧ w'.cell? ⟨nb, off + 1, none⟩ = some (.int .i64 a1) ∧ w'.cell? ⟨nb, off + 2, none⟩ = some (.int .i64 a2))
        (first | exact ⟨z0, z1, z3, z4⟩ | exact rn_keep3 HST5.out)
        ((go_at_call 61; refine (rn_poke a a1 a2 HK.out (HSTC.out.new (Below.refl _ _).drew)).mono ?_; rintro e w5 ⟨er, k5, rfl, hor, hst5⟩; have HST5 := hid hst5; have HOR := hid hor; clear hst5 hor))
      go_wp2_with fail
      go_ret2
      rw [HQ.out]
      rcases HOR.out with ⟨h1, h2, h3⟩ | ⟨h1, h2, h3⟩
      · rw [if_pos h1, ← h3]
        exact .inl ⟨⟨#[111, 107]⟩, er, M, rfl, .inl ⟨h2, rfl⟩, HST5.out.drop2⟩
      · rw [if_neg (by rw [h1]; decide), ← h3]
        exact .inl ⟨⟨#[111, 107]⟩, er, M, rfl, .inr ⟨h2, rfl⟩, HST5.out.drop2⟩
end
end Go.Proofs.YthdmgighblhmhaaGreatDoor
