/- Package code: the contracts of on and Wires, for every code: on which wires it sends, and takes. Conditions: the table of forms, which the row lists. -/
import Derived.Test.YtldllmhgofacbaaGreatDoorPortsLaw
import Derived.Test.YtldllmhgofacbaaGreatDoorShelf
import Derived.Test.YtldllmhgofacbaaGreatDoorCodeW
import Derived.Test.YtldllmhgofacbaaGreatDoorDeskU
import Derived.Lib.RowBridge
import Derived.Shelf.Slices.In.SortNone
namespace Go.Proofs.YtldllmhgofacbaaGreatDoor
open Go.RowKit
set_option maxRecDepth 100000

theorem sort_none (p : Option Addr) (cap : Nat) (w : World) : Calls Tryz.prog 149 #[.slice p 0 cap] w fun e w' => e = .returned (.tuple #[]) ∧ w' = w := Any.slices_Sort_int_none Tryz.lays189 p cap w
theorem compact_none (p : Option Addr) (cap : Nat) (w : World) : Calls Tryz.prog 150 #[.slice p 0 cap] w fun e w' => e = .returned (.slice p 0 cap) ∧ w' = w := Any.slices_Compact_int_empty Tryz.laysNm220 p cap w
theorem row_holds {w : World} {e n cap b off : Nat} {zs : List Int} (h : Row w e 1 (some ⟨b, off, none⟩) n cap (ints zs)) : Sort.Holds (Value.int .i64) w b off zs.toArray := by
  rcases h.2 with ⟨h1, _⟩ | ⟨b', off', cur, h1, hh, _, _, h3, h4⟩
  · cases h1
  · cases h1
    intro j hj
    have hj' : j < zs.length := by simpa using hj
    refine ⟨?_, blk_free hh _⟩
    rw [blk_cell hh, h4 j _ (by unfold ints; rw [List.getElem?_map, List.getElem?_eq_getElem hj']; rfl)]
    simp [hj']
theorem row_puts {w : World} {e n cap b off q : Nat} {zs ys : List Int} (h : Row w e 1 (some ⟨b, off, none⟩) n cap (ints zs)) (hl : ys.length = zs.length) :
    Row (Sort.putRow (Value.int .i64) (Sort.ahead w q) b off ys.toArray) e 1 (some ⟨b, off, none⟩) n cap (ints ys) ∧ Keep (InA (some ⟨b, off, none⟩)) w (Sort.putRow (Value.int .i64) (Sort.ahead w q) b off ys.toArray) := by
  rw [Lib.putRow_eq_setCells (Value.int .i64) w b off zs.toArray ys q (row_holds h) (by simpa using hl)]
  rcases h.2 with ⟨h1, _⟩ | ⟨b', off', cur, h1, hh, h2, h3, h5, h4⟩
  · cases h1
  · cases h1
    have hzl : zs.length = n := by have := h.1; unfold ints at this; rw [List.length_map] at this; omega
    have hyl : (ys.map (Value.int .i64)).length = n := by rw [List.length_map]; omega
    obtain ⟨cur', s1, s2, s3, s4⟩ := setCells_heap (e := e) b (ys.map (Value.int .i64)) off (w.drewN q) cur hh (by rw [hyl]; omega)
    have hr := setCells_rest b (ys.map (Value.int .i64)) off (w.drewN q)
    refine ⟨⟨by unfold ints; rw [hyl, Nat.mul_one], .inr ⟨b, off, cur', rfl, s1, h2, h3, by omega, fun j u hu => s4 j u hu⟩⟩, ⟨hr.1, hr.2.1, hr.2.2.1, by rw [hr.2.2.2]; exact Nat.le_refl _, fun k hk hn => ?_⟩⟩
    rw [setCells_far b _ off (w.drewN q) k (fun e => hn (by subst e; rfl))]; rfl
theorem row_cut {w : World} {e sz : Nat} {A : Option Addr} {n cap : Nat} {xs : List Value} (h : Row w e sz A n cap xs) {k : Nat} (hk : k ≤ n) : Row w e sz A k cap (xs.take (k * sz)) := by
  have hm : k * sz ≤ n * sz := Nat.mul_le_mul_right _ hk
  refine ⟨by rw [List.length_take, h.1]; omega, ?_⟩
  rcases h.2 with ⟨rfl, rfl, rfl⟩ | ⟨b, off, cur, rfl, hh, h1, h2, h3, h4⟩
  · exact .inl ⟨rfl, by omega, rfl⟩
  · refine .inr ⟨b, off, cur, rfl, hh, by omega, h2, h3, fun j u hu => h4 j u ?_⟩
    rw [List.getElem?_take] at hu
    split at hu
    · exact hu
    · cases hu
theorem row_grow {w : World} {e sz n cap : Nat} {A : Option Addr} {xs : List Value} (h : Row w e sz A n cap xs) (os : Array Obj) : Row (Sort.grow w os) e sz A n cap xs := h.keep fun b _ hl => by
  show (w.heap ++ os)[b]? = _
  rw [Array.getElem?_append_left hl]
def sorted (zs : List Int) : List Int := zs.mergeSort fun x y => decide (x ≤ y)
/-- slices.Sort on a row. -/
theorem sort_row {w : World} {A : Option Addr} {n cap : Nat} {zs : List Int} (h : Row w 3 1 A n cap (ints zs)) (hn : n ≤ 1000) :
    Calls Tryz.prog 149 #[.slice A n cap] w fun e w' => e = .returned (.tuple #[]) ∧ Row w' 3 1 A n cap (ints (sorted zs)) ∧ Keep (InA A) w w' := by
  have hzl : zs.length = n := by have := h.1; unfold ints at this; rw [List.length_map] at this; omega
  cases A with
  | none =>
    have hn0 : n = 0 := by
      rcases h.2 with ⟨_, h1, _⟩ | ⟨b, off, cur, h1, _⟩
      · exact h1
      · cases h1
    subst hn0
    have hz : zs = [] := List.eq_nil_of_length_eq_zero hzl
    subst hz
    have hs0 : sorted [] = [] := by unfold sorted; exact List.mergeSort_nil
    rw [hs0]
    refine (sort_none none cap w).mono ?_
    rintro e w' ⟨rfl, rfl⟩
    exact ⟨rfl, h, Keep.refl _ _⟩
  | some a =>
    obtain ⟨b, off, rfl⟩ : ∃ b off, a = ⟨b, off, none⟩ := by
      rcases h.2 with ⟨h1, _⟩ | ⟨b, off, cur, h1, _⟩
      · cases h1
      · exact ⟨b, off, by injection h1⟩
    have hb : b < w.heap.size := h.lt b rfl
    have hc := Tryz.slices_Sort_int b off cap zs w (row_holds h) hb (by omega)
    rw [hzl] at hc
    unfold sorted
    refine hc.mono ?_
    rintro e w' ⟨rfl, q, os, rfl⟩
    obtain ⟨h1, h2⟩ := row_puts (q := q) (ys := zs.mergeSort fun x y => decide (x ≤ y)) h (by rw [List.length_mergeSort])
    refine ⟨rfl, row_grow h1 os, ⟨h2.os, h2.tape, h2.output, ?_, fun k hk hn => ?_⟩⟩
    · have := h2.size
      show _ ≤ (_ ++ os).size
      rw [Array.size_append]
      exact Nat.le_trans this (Nat.le_add_right _ _)
    · show (_ ++ os)[k]? = _
      rw [Array.getElem?_append_left (Nat.lt_of_lt_of_le hk h2.size)]
      exact h2.block k hk hn
/-- slices.Compact on a row. -/
theorem compact_row {w : World} {A : Option Addr} {n cap : Nat} {zs : List Int} (h : Row w 3 1 A n cap (ints zs)) (hn : n ≤ 1000) :
    Calls Tryz.prog 150 #[.slice A n cap] w fun e w' => e = .returned (.slice A (Lib.compact zs).length cap) ∧ Row w' 3 1 A (Lib.compact zs).length cap (ints (Lib.compact zs)) ∧ Keep (InA A) w w' := by
  have hzl : zs.length = n := by have := h.1; unfold ints at this; rw [List.length_map] at this; omega
  cases A with
  | none =>
    have hn0 : n = 0 := by
      rcases h.2 with ⟨_, h1, _⟩ | ⟨b, off, cur, h1, _⟩
      · exact h1
      · cases h1
    subst hn0
    have hz : zs = [] := List.eq_nil_of_length_eq_zero hzl
    subst hz
    refine (compact_none none cap w).mono ?_
    rintro e w' ⟨rfl, rfl⟩
    exact ⟨rfl, h, Keep.refl _ _⟩
  | some a =>
    obtain ⟨b, off, rfl⟩ : ∃ b off, a = ⟨b, off, none⟩ := by
      rcases h.2 with ⟨h1, _⟩ | ⟨b, off, cur, h1, _⟩
      · cases h1
      · exact ⟨b, off, by injection h1⟩
    have hc := Tryz.slices_Compact_int b off cap zs w (row_holds h) (by omega) (by rw [hzl]; exact h.le.1)
    rw [hzl] at hc
    have hcl := Lib.compact_length_le zs
    refine hc.mono ?_
    rintro e w' ⟨rfl, q, rfl⟩
    obtain ⟨h1, h2⟩ := row_puts (q := q) (ys := Lib.compact zs ++ List.replicate (n - (Lib.compact zs).length) 0) h (by rw [List.length_append, List.length_replicate]; omega)
    refine ⟨rfl, ?_, h2⟩
    have h3 := row_cut h1 (k := (Lib.compact zs).length) (by omega)
    rw [Nat.mul_one] at h3
    have e : (ints (Lib.compact zs ++ List.replicate (n - (Lib.compact zs).length) 0)).take (Lib.compact zs).length = ints (Lib.compact zs) := by
      unfold ints
      rw [List.map_append, List.take_left' (by rw [List.length_map])]
    rw [e] at h3
    exact h3

set_option maxHeartbeats 4000000 in
theorem on_any (A : Option Addr) (c : Nat) (l : List Op) (k : Int) (w : World) (hs : Sl w A 3 l.length (l.flatMap Op.cells)) (h20 : l.length ≤ 20) :
    Calls Tryz.prog 101 #[.slice A l.length c, .int .i64 k] w (Drawn w (portsL l k [])) := by
  have HPL := hid (on_ports l k)
  have HS := hid hs
  obtain ⟨n, hn⟩ : ∃ n, n = l.length := ⟨_, rfl⟩
  rw [← hn] at HS h20 ⊢
  have HN := hid hn
  obtain ⟨i0, hi0, hz0, hz1, hz2⟩ := info_parts Tryz.infoInt
  clear hs hn
  go_enter Tryz.func101, Tryz.ntmps101
  go_wp2_with fail
  go_loopw [5, 10] (fun v5 v10 wr => ∃ (j : Nat) (B : Option Addr) (m d : Nat), j ≤ n ∧ v5 = .slice B m d ∧ v10 = .int .i64 j ∧ m ≤ j ∧ Row wr 3 1 B m d (ints (onL (l.take j) k)) ∧ (∀ i, InA B i → w.heap.size ≤ i) ∧ Below w.heap.size w wr) (fun _ v10 _ => n - (intOf v10).toNat)
  case atStart => exact ⟨0, none, 0, 0, by omega, rfl, rfl, by omega, Row.nil _ _ _, fun i hi => by simp [InA] at hi, Below.refl _ _⟩
  case round =>
    obtain ⟨j, B, m, d, hj, rfl, rfl, hmj, hrow, hnew, hb⟩ := hrel
    have HROW := hid hrow
    have HNEW := hid hnew
    have HB := hid hb
    clear hrow hnew hb
    by_cases hjn : j < n
    · have hjl : j < l.length := by rw [← HN.out]; exact hjn
      obtain ⟨b, off, rfl, hlb, g0, g1, g2⟩ := HS.out.op HB.out hjl hjn
      have hget := List.getElem?_eq_getElem hjl
      generalize l[j] = x at g0 g1 g2 hget
      have HNX := hid (onL_snoc (k := k) hget)
      obtain ⟨x0, x1, x2⟩ := x
      simp only [] at g0 g1 g2 HNX
      have hlw : b < wr.heap.size := Nat.lt_of_lt_of_le hlb HB.out.size
      clear hget
      go_upto_region 5 with fail
      have hbx : Below w.heap.size w (wr.alloc (.cells #[.int .i64 x0, .int .i64 x1, .int .i64 x2] 42)) := HB.out.alloc HB.out.size _
      have hrx := HROW.out.alloc (.cells #[.int .i64 x0, .int .i64 x1, .int .i64 x2] 42)
      have hblk := heap_alloc_new wr (.cells #[.int .i64 x0, .int .i64 x1, .int .i64 x2] 42)
      obtain ⟨w3, hw3⟩ : ∃ w3, w3 = wr.alloc (.cells #[.int .i64 x0, .int .i64 x1, .int .i64 x2] 42) := ⟨_, rfl⟩
      rw [← hw3] at hbx hrx hblk ⊢
      have y0 := blk_cell hblk 0
      have y1 := blk_cell hblk 1
      have y2 := blk_cell hblk 2
      have hly := blk_lt hblk
      simp at y0 y1 y2
      have HBX := hid hbx
      have HRX := hid hrx
      clear hw3 hbx hrx hblk g0 g1 g2 hlw
      by_cases hk : x0 = k
      · rw [if_pos hk] at HNX
        subst hk
        go_wp2_with (at_builtin; refine wpList_append_row _ rfl _ _ 64 rfl 3 i0 (.int .i64 0) 1 8 Tryz.underlying64 hi0 hz0 hz1 hz2 rfl (by decide) B m d (ints (onL (l.take j) x0)) rfl ?c0 (some ⟨w3.heap.size, 0, none⟩) 1 1 [.int .i64 x2] rfl ?c1 ?c2 ?c3 ?c4 ?_)
        case c0 => exact HRX.out.alloc _
        case c1 => exact one_sl w3 _ _
        case c2 => intro u hu; simp at hu; subst hu; rfl
        case c3 => unfold maxLen; omega
        case c4 => omega
        intro B5 d5 w5 hr5 hk5 hn5
        have HR5 := hid hr5
        have HK5 := hid hk5
        have HN5 := hid hn5
        clear hr5 hk5 hn5
        go_wp2_with fail
        go_roundw
        case rel =>
          refine ⟨j + 1, B5, m + 1, d5, by omega, rfl, by go_num, by omega, ?_, ?_, keep_own HBX.out HNEW.out HK5.out⟩
          · rw [HNX.out]
            unfold ints
            rw [List.map_append]; exact HR5.out
          · intro i hi
            rcases HN5.out i hi with h | h
            · exact HNEW.out i h
            · have := HBX.out.size; omega
        case measure => simp [intOf]; omega
      · have hk2 : (x0 == k) = false := by simpa using hk
        rw [if_neg hk, List.append_nil] at HNX
        clear hk
        go_wp2_with fail
        go_roundw
        case rel => exact ⟨j + 1, B, m, d, by omega, rfl, by go_num, by omega, by rw [HNX.out]; exact HRX.out, HNEW.out, HBX.out⟩
        case measure => simp [intOf]; omega
    · obtain rfl : j = n := by omega
      have htk : l.take j = l := by rw [HN.out, List.take_length]
      rw [htk] at HROW
      have HSRT := hid (sort_row HROW.out (by omega))
      clear htk
      go_upto_region 9 with (go_at_call 149; refine HSRT.out.mono ?_; rintro e w2 ⟨rfl, hr2, hk2⟩; have HR2 := hid hr2; have HB2 := hid (HB.out.trans (Keep.below hk2 HB.out.size HNEW.out)); clear hr2 hk2)
      have hcp := compact_row HR2.out (by omega)
      have hpl := HPL.out
      unfold sorted at hcp
      rw [hpl] at hcp
      have HCP := hid hcp
      clear hcp hpl
      go_wp2_with (go_at_call 150; refine HCP.out.mono ?_; rintro e w4 ⟨rfl, hr4, hk4⟩; have HR4 := hid hr4; have HB4 := hid (HB2.out.trans (Keep.below hk4 HB2.out.size HNEW.out)); clear hr4 hk4)
      go_ret
      exact ⟨B, _, d, rfl, rfl, HR4.out, HNEW.out, HB4.out⟩

/-- What Wires hands back. -/
def WiresGot (w : World) (l : List Op) (e : Ending) (w' : World) : Prop :=
  ((codeChk l).2 ≠ 0 ∧ e = .returned (.tuple #[.slice none 0 0, .slice none 0 0, errV (codeChk l).2]) ∧ Below w.heap.size w w') ∨
  ((codeChk l).2 = 0 ∧ ∃ (A B : Option Addr) (n m c d : Nat), e = .returned (.tuple #[.slice A n c, .slice B m d, .nilIface]) ∧ n = (portsL l 8 []).length ∧ m = (portsL l 9 []).length ∧ Row w' 3 1 A n c (ints (portsL l 8 [])) ∧ Row w' 3 1 B m d (ints (portsL l 9 [])) ∧ Below w.heap.size w w')
theorem wires_any (A : Option Addr) (c : Nat) (l : List Op) (w : World) (hf : Forms w) (hs : Sl w A 3 l.length (l.flatMap Op.cells)) (hsw : SlW A c l.length) :
    Calls Tryz.prog 34 #[.slice A l.length c] w (WiresGot w l) := by
  have hr := code_right A c l w hf hs hsw
  obtain ⟨E, hE⟩ : ∃ E, E = (codeChk l).2 := ⟨_, rfl⟩
  unfold WiresGot
  rw [← hE] at hr ⊢
  have h20 : E = 0 → l.length ≤ 20 := fun h => by
    have := codeChk_ok (l := l) (by rw [← hE]; exact h)
    exact this.2.1
  have HON : Hid (E = 0 → ∀ (w' : World) (k : Int), Below w.heap.size w w' → Calls Tryz.prog 101 #[.slice A l.length c, .int .i64 k] w' (Drawn w' (portsL l k []))) := hid fun h w' k hb => on_any A c l k w' (hs.new hb) (h20 h)
  unfold Drawn at HON
  obtain ⟨n, hn⟩ : ∃ n, n = l.length := ⟨_, rfl⟩
  rw [← hn] at hr HON ⊢
  have HR := hid hr
  clear hr hE hs hsw hf h20 hn
  by_cases he : E = 0
  · subst he
    rw [errV_zero] at HR
    have HO := hid (HON.out rfl)
    clear HON
    go_enter Tryz.func34, Tryz.ntmps34
    go_upto_region 4 with (go_at_call 69; refine HR.out.mono ?_; rintro e w1 ⟨rfl, hb1⟩; have HB1 := hid hb1; clear hb1)
    go_wp2_with fail
    refine (HO.out _ 8 HB1.out).mono ?_
    rintro e w2 ⟨A2, n2, c2, rfl, hn2, hr2, _, hb2⟩
    have HB2 := hid (HB1.out.trans (hb2.mono HB1.out.size))
    have HR2 := hid hr2
    have HN2 := hid hn2
    clear hn2 hr2 hb2
    go_wp2_with fail
    refine (HO.out _ 9 HB2.out).mono ?_
    rintro e w3 ⟨A3, n3, c3, rfl, hn3, hr3, _, hb3⟩
    have HB3 := hid (HB2.out.trans (hb3.mono HB2.out.size))
    have HR3 := hid hr3
    have HR2' := hid (HR2.out.new hb3)
    have HN3 := hid hn3
    clear hn3 hr3 hb3
    go_wp2_with fail
    exact bodyPost_ret (v := .tuple #[.slice A2 n2 c2, .slice A3 n3 c3, .nilIface]) (by simp [results, Tryz.results34, go_sem]) rfl (.inr ⟨by first | rfl | trivial, A2, A3, n2, n3, c2, c3, rfl, HN2.out, HN3.out, HR2'.out, HR3.out, HB3.out⟩)
  · rw [errV_pos he] at HR
    have HEV := hid (errV_pos he)
    have HE := hid he
    clear he
    go_enter Tryz.func34, Tryz.ntmps34
    go_wp2_with (go_at_call 69; refine HR.out.mono ?_; rintro e w1 ⟨rfl, hb1⟩; have HB1 := hid hb1; clear hb1)
    refine bodyPost_ret (v := .tuple #[.slice none 0 0, .slice none 0 0, _]) (by simp [results, Tryz.results34, go_sem]; rfl) rfl (.inl ⟨HE.out, by rw [HEV.out], HB1.out⟩)
end Go.Proofs.YtldllmhgofacbaaGreatDoor
