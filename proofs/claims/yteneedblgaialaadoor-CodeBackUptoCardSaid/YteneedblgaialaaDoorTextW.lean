/- What text is read with: strconv.Atoi, strings.Split, strings.CutSuffix; and code.Number, code.Numbers. Conditions: 'Desk': the library's tables and errors, which the row lists; no text is longer than 2^30 bytes. -/
import Derived.Test.YteneedblgaialaaDoorItoaW
import Derived.Test.YteneedblgaialaaDoorNumLaw
import Derived.Test.YteneedblgaialaaDoorTextLaw
import Derived.Test.YteneedblgaialaaDoorCutW
namespace Go.Proofs.YteneedblgaialaaDoor
open Go.RowKit
set_option maxRecDepth 100000

/-- What the library reads and prints with. -/
structure Desk (w : World) : Prop where
  pows : Pows w
  syn : ∃ ev, w.cell? ⟨8, 0, none⟩ = some ev ∧ (ev = .nilIface ∨ ∃ te pe, ev = .iface te pe)
  rng : ∃ ev, w.cell? ⟨9, 0, none⟩ = some ev ∧ (ev = .nilIface ∨ ∃ te pe, ev = .iface te pe)
  len : ∃ m : Int, w.cell? ⟨3, 0, none⟩ = some (.int .i64 m)
theorem Desk.new {w w' : World} (h : Desk w) (hb : Below w.heap.size w w') : Desk w' := by
  obtain ⟨hp, ⟨e1, h1, h1'⟩, ⟨e2, h2, h2'⟩, ⟨m, h3⟩⟩ := h
  exact ⟨hp.new (pows_lt hp) hb, ⟨e1, (hb.cell (p := ⟨8, 0, none⟩) (cell_lt h1)).trans h1, h1'⟩, ⟨e2, (hb.cell (p := ⟨9, 0, none⟩) (cell_lt h2)).trans h2, h2'⟩, ⟨m, (hb.cell (p := ⟨3, 0, none⟩) (cell_lt h3)).trans h3⟩⟩

/-- What Atoi hands back. -/
def AtoiGot (s : ByteArray) (w : World) (e : Ending) (w' : World) : Prop :=
  ∃ (v : Int) (er : Value), e = .returned (.tuple #[.int .i64 v, er]) ∧ Below w.heap.size w w' ∧ ((Lib.atoiAll s.data.toList = .ok v ∧ er = .nilIface) ∨ ((∀ u, Lib.atoiAll s.data.toList ≠ .ok u) ∧ ∃ T p, er = .iface T p))
theorem atoi_any (s : ByteArray) (hs : s.size ≤ 1073741824) (w : World) (h : Desk w) : Calls Tryd.prog 66 #[.string s] w (AtoiGot s w) := by
  obtain ⟨e1, h1, h1'⟩ := h.syn
  obtain ⟨e2, h2, h2'⟩ := h.rng
  cases ha : Lib.atoiAll s.data.toList with
  | ok v =>
    refine (Tryd.strconv_Atoi_ok s (by omega) v ha w).mono ?_
    rintro e w' ⟨rfl, hw⟩
    refine ⟨v, .nilIface, rfl, ?_, .inl ⟨ha, rfl⟩⟩
    rcases hw with rfl | ⟨t, rfl⟩
    · exact Below.refl _ _
    · exact Lib.bytesWorld_below _ _ _
  | «syntax» =>
    refine (Tryd.strconv_Atoi_syntax s (by omega) ha e1 w h1 h1').mono ?_
    rintro e w' ⟨N, rfl, _, _, hb⟩
    exact ⟨_, _, rfl, hb, .inr ⟨fun u hu => (by rw [ha] at hu; cases hu), _, _, rfl⟩⟩
  | range =>
    refine (Tryd.strconv_Atoi_range s (by omega) ha e2 w h2 h2').mono ?_
    rintro e w' ⟨N, rfl, _, _, hb⟩
    exact ⟨_, _, rfl, hb, .inr ⟨fun u hu => (by rw [ha] at hu; cases hu), _, _, rfl⟩⟩

/-- What Number hands back. -/
def NumGot (most : Int) (s : ByteArray) (w : World) (e : Ending) (w' : World) : Prop :=
  ∃ (v : Int) (b : Bool), e = .returned (.tuple #[.int .i64 v, .bool b]) ∧ Below w.heap.size w w' ∧ ((b = true ∧ 0 ≤ v ∧ numOf most s.data.toList = some v.toNat) ∨ (b = false ∧ numOf most s.data.toList = none))
theorem numOf_not {most : Int} {s : List UInt8} (h : ∀ u, Lib.atoiAll s ≠ .ok u) : numOf most s = none := by
  unfold numOf
  split
  · rename_i v hv; exact absurd hv (h v)
  · rfl
theorem numOf_ok {most v : Int} {s : List UInt8} (h : Lib.atoiAll s = .ok v) : numOf most s = if 0 ≤ v ∧ (s.length : Int) ≤ most ∧ Lib.itoa v = s then some v.toNat else none := by
  unfold numOf
  rw [h]

set_option maxHeartbeats 2000000 in
theorem number_any (s : ByteArray) (most : Int) (hs : s.size ≤ 1073741824) (w : World) (h : Desk w) : Calls Tryd.prog 54 #[.string s, .int .i64 most] w (NumGot most s w) := by
  have HAT := hid (atoi_any s hs w h)
  have HIT : Hid (∀ (v : Int) (w' : World), -9223372036854775808 ≤ v → v ≤ 9223372036854775807 → Below w.heap.size w w' → Calls Tryd.prog 18 #[.int .i64 v] w' fun e w'' => e = .returned (.string ⟨(Lib.itoa v).toArray⟩) ∧ Below w'.heap.size w' w'') := fun v w' h0 h1 hb => itoaS_any v h0 h1 w' (h.new hb).pows
  clear h
  go_enter Tryd.func54, Tryd.ntmps54
  go_upto_region 2 with (go_at_call 66; refine HAT.out.mono ?_; rintro e w1 ⟨v, er, rfl, hb1, hor⟩; have HB1 := hid hb1; have HOR := hid hor; clear hb1 hor HAT)
  rcases HOR.out with ⟨hok, rfl⟩ | ⟨hno, T, p, rfl⟩
  · have hbd := Lib.atoiAll_bounds hok
    have HNUM := hid (numOf_ok (most := most) hok)
    have HSZ := hid (Lib.size_eq s)
    clear HOR hok
    by_cases c1 : 0 ≤ v
    · by_cases c2 : (s.size : Int) ≤ most
      · go_wp2_with (go_at_call 18; refine (HIT.out v _ (by omega) (by omega) HB1.out).mono ?_; rintro e w2 ⟨rfl, hb2⟩; have HB2 := hid (HB1.out.trans (hb2.mono HB1.out.size)); clear hb2)
        go_ret2
        have hl : s.toList = s.data.toList := Lib.toList_data s
        rw [hl]
        by_cases c3 : Lib.itoa v = s.data.toList
        · have hb : (Lib.itoa v == s.data.toList) = true := beq_iff_eq.2 c3
          exact ⟨v, _, rfl, HB2.out, .inl ⟨hb, c1, by rw [HNUM.out, if_pos ⟨c1, by rw [← HSZ.out]; exact c2, c3⟩]⟩⟩
        · have hb : (Lib.itoa v == s.data.toList) = false := beq_eq_false_iff_ne.2 c3
          exact ⟨v, _, rfl, HB2.out, .inr ⟨hb, by rw [HNUM.out, if_neg (fun h => c3 h.2.2)]⟩⟩
      · go_wp2_with fail
        go_ret2
        exact ⟨v, false, rfl, HB1.out, .inr ⟨rfl, by rw [HNUM.out, if_neg (by rw [← HSZ.out]; omega)]⟩⟩
    · go_wp2_with fail
      go_ret2
      exact ⟨v, false, rfl, HB1.out, .inr ⟨rfl, by rw [HNUM.out, if_neg (by omega)]⟩⟩
  · go_wp2_with fail
    go_ret2
    exact ⟨v, false, rfl, HB1.out, .inr ⟨rfl, numOf_not hno⟩⟩
theorem ints_append (a b : List Int) : ints (a ++ b) = ints a ++ ints b := by unfold ints; rw [List.map_append]
/-- What Numbers hands back. -/
def NumsGot (most : Int) (ws : List ByteArray) (w : World) (e : Ending) (w' : World) : Prop :=
  Below w.heap.size w w' ∧ ((∃ (ns : List Nat) (A : Option Addr) (n c : Nat), numsOf most (ws.map fun s => s.data.toList) = some ns ∧ ns.length = n ∧ e = .returned (.tuple #[.slice A n c, .bool true]) ∧ Row w' 3 1 A n c (ints (ns.map Int.ofNat)) ∧ ∀ i, InA A i → w.heap.size ≤ i) ∨
    (numsOf most (ws.map fun s => s.data.toList) = none ∧ e = .returned (.tuple #[.slice none 0 0, .bool false])))
theorem numsOf_at {most : Int} {ws : List ByteArray} {j : Nat} {s : ByteArray} (h : ws[j]? = some s) {ns : List Nat} (hn : numsOf most ((ws.take j).map fun s => s.data.toList) = some ns) :
    (∀ n, numOf most s.data.toList = some n → numsOf most ((ws.take (j + 1)).map fun s => s.data.toList) = some (ns ++ [n])) ∧ (numOf most s.data.toList = none → numsOf most (ws.map fun s => s.data.toList) = none) := by
  obtain ⟨h1, h2⟩ := List.getElem?_eq_some_iff.1 h
  refine ⟨fun n hm => ?_, fun hm => ?_⟩
  · rw [List.take_succ_eq_append_getElem h1, List.map_append, List.map_cons, List.map_nil, numsOf_snoc hn, h2, hm]; rfl
  · have e : ws.map (fun s => s.data.toList) = (ws.take j).map (fun s => s.data.toList) ++ s.data.toList :: (ws.drop (j + 1)).map (fun s => s.data.toList) := by
      rw [← List.map_cons (f := fun s : ByteArray => s.data.toList), ← List.map_append]
      congr 1
      rw [← h2, List.getElem_cons_drop, List.take_append_drop]
    rw [e]; exact numsOf_bad hm

set_option maxHeartbeats 4000000 in
theorem numbers_any (ws : List ByteArray) (A : Option Addr) (n c : Nat) (most : Int) (hn : ws.length = n) (hn1 : n ≤ 1073741824) (hs : ∀ s ∈ ws, s.size ≤ 1073741824) (w : World) (h : Desk w) (hsl : Sl w A 1 n (ws.map Value.string)) :
    Calls Tryd.prog 41 #[.slice A n c, .int .i64 most] w (NumsGot most ws w) := by
  obtain ⟨i0, hi0, hz0, hz1, hz2⟩ := info_parts Tryd.infoInt
  have HNUM : Hid (∀ (s : ByteArray) (w' : World), s ∈ ws → Below w.heap.size w w' → Calls Tryd.prog 54 #[.string s, .int .i64 most] w' (NumGot most s w')) := fun s w' hm hb => number_any s most (hs s hm) w' (h.new hb)
  have HSL := hid hsl
  have HN := hid hn
  clear h hsl hs hn
  go_enter Tryd.func41, Tryd.ntmps41
  go_wp2_with fail
  go_loopw [6, 13] (fun v6 v13 wr => ∃ (j : Nat) (B : Option Addr) (d : Nat) (ns : List Nat), j ≤ n ∧ v6 = .slice B j d ∧ v13 = .int .i64 j ∧ ns.length = j ∧ numsOf most ((ws.take j).map fun s => s.data.toList) = some ns ∧ Row wr 3 1 B j d (ints (ns.map Int.ofNat)) ∧ (∀ i, InA B i → w.heap.size ≤ i) ∧ Below w.heap.size w wr) (fun _ v13 _ => n - (intOf v13).toNat)
  case atStart => exact ⟨0, none, 0, [], by omega, rfl, rfl, rfl, rfl, Row.nil _ _ _, fun i hi => by simp [InA] at hi, Below.refl _ _⟩
  case round =>
    obtain ⟨j, B, d, ns, hj, rfl, rfl, hnl, hns, hrow, hnew, hb⟩ := hrel
    have HNS := hid hns
    have HROW := hid hrow
    have HNEW := hid hnew
    have HB := hid hb
    have HNL := hid hnl
    clear hns hrow hnew hb hnl
    by_cases hjn : j < n
    · have hjl : j < ws.length := by rw [HN.out]; exact hjn
      obtain ⟨b, off, rfl, hlb, hx⟩ := HSL.out.2 (by omega)
      have hget := List.getElem?_eq_getElem hjl
      have hk : wr.cell? ⟨b, off + j, none⟩ = some (.string ws[j]) := (HB.out.cell (p := ⟨b, off + j, none⟩) hlb).trans (hx j _ (by rw [List.getElem?_map, hget]; rfl))
      have hmem := List.getElem_mem hjl
      generalize ws[j] = s at hget hk hmem
      have HNB := hid (HNUM.out s wr hmem HB.out)
      have HAT := hid (numsOf_at hget HNS.out)
      clear hget hx hmem
      go_wp2_with fail
      refine HNB.out.mono ?_
      rintro e w2 ⟨v, b2, rfl, hb2, hor⟩
      have HB2 := hid hb2
      have HBW := hid (HB.out.trans (hb2.mono HB.out.size))
      have HR2 := hid (HROW.out.new hb2)
      clear hb2 HNB
      rcases hor with ⟨rfl, h0, hnum⟩ | ⟨rfl, hnum⟩
      · obtain ⟨N, rfl⟩ : ∃ N : Nat, v = N := ⟨v.toNat, by omega⟩
        rw [Int.toNat_natCast] at hnum
        have HNX := hid (HAT.out.1 N hnum)
        clear hnum HAT h0
        go_wp2_with (at_builtin; refine wpList_append_row _ rfl _ _ 95 rfl 3 i0 (.int .i64 0) 1 8 Tryd.underlying95 hi0 hz0 hz1 hz2 rfl (by decide) B j d (ints (ns.map Int.ofNat)) rfl ?c0 (some ⟨w2.heap.size, 0, none⟩) 1 1 [.int .i64 N] rfl ?c1 ?c2 ?c3 ?c4 ?_)
        case c0 => exact HR2.out.alloc _
        case c1 => exact one_sl w2 _ _
        case c2 => intro u hu; simp at hu; subst hu; rfl
        case c3 => unfold maxLen; omega
        case c4 => omega
        intro B' d' w3 hr3 hk3 hi3
        have HR3 := hid hr3
        have HK3 := hid hk3
        have HI3 := hid hi3
        clear hr3 hk3 hi3
        go_wp2_with fail
        go_roundw
        case rel =>
          refine ⟨j + 1, B', d', ns ++ [N], by omega, rfl, by go_num, by simp [HNL.out], HNX.out, ?_, ?_, keep_own HBW.out HNEW.out HK3.out⟩
          · rw [List.map_append, ints_append]; exact HR3.out
          · intro i hi
            rcases HI3.out i hi with h | h
            · exact HNEW.out i h
            · have := HBW.out.size; omega
        case measure => simp [intOf]; omega
      · have HNX := hid (HAT.out.2 hnum)
        clear hnum HAT
        go_wp2_with fail
        go_ret2
        exact ⟨HBW.out, .inr ⟨HNX.out, rfl⟩⟩
    · obtain rfl : j = n := by omega
      have HFIN : Hid (numsOf most (ws.map fun s => s.data.toList) = some ns) := by
        have := HNS.out
        rw [← HN.out, List.take_length] at this
        exact this
      go_wp2_with fail
      go_ret2
      exact ⟨HB.out, .inl ⟨ns, B, _, d, HFIN.out, HNL.out, rfl, HROW.out, HNEW.out⟩⟩
end Go.Proofs.YteneedblgaialaaDoor
