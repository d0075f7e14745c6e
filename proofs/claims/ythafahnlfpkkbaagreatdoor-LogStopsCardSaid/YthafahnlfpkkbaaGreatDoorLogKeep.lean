/- Package log: contracts of keep, Go and Poke of a log that has not stopped. Conditions: the library's table of powers, which the row lists. -/
import Derived.Test.YthafahnlfpkkbaaGreatDoorLogAct
import Derived.Test.YthafahnlfpkkbaaGreatDoorStandRow
namespace Go.Proofs.YthafahnlfpkkbaaGreatDoor
open Go.RowKit
set_option maxRecDepth 100000

/-- A number as a text. -/
def digV (n : Int) : Value := .string ⟨(Lib.itoa n).toArray⟩
/-- The bytes of a log grow. -/
theorem log_went {w w' : World} {lb kb : Nat} {v0 v1 v2 v3 : Value} {bs bs' : ByteArray} (hk : Keep (fun j => j = lb) w w') (hx : w'.heap[lb]? = some (.cells (logCells v0 v1 v2 v3 kb bs') 174 (0, 0))) :
    Went w w' (logT lb v0 v1 v2 v3 kb bs) (logT lb v0 v1 v2 v3 kb bs') := ⟨blk_lie hx, hk, fun _ h => .inl h, fun _ h => .inl h⟩
theorem lens_le : ∀ (xs : List (List UInt8)) (n : Nat), (∀ x ∈ xs, x.length ≤ n) → Lib.lens xs ≤ xs.length * n
  | [], _, _ => by simp [Lib.lens]
  | x :: xs, n, h => by
    have h1 := h x (by simp)
    have h2 := lens_le xs n fun y hy => h y (by simp [hy])
    simp only [Lib.lens, List.map_cons, List.sum_cons, List.length_cons, Nat.succ_mul] at h2 ⊢
    omega
theorem join_len (xs : List (List UInt8)) (n : Nat) (h : ∀ x ∈ xs, x.length ≤ n) : (Lib.join xs [32]).length ≤ xs.length * n + xs.length := by
  cases xs with
  | nil => simp [Lib.join_nil]
  | cons x r =>
    have h2 := lens_le (x :: r) n h
    rw [Lib.join_length]
    simp only [List.length_cons, List.length_nil] at h2 ⊢
    omega

set_option maxHeartbeats 4000000 in
theorem lkeep_any {w0 w : World} {lb kb nb : Nat} {v0 v1 v2 v3 : Value} {bs : ByteArray} {p : Pl} {M : KM} {k k' : Kst} (l : List Int) (hl1 : 1 ≤ l.length) (hl3 : l.length ≤ 3) (hfit : ∀ n ∈ l, 0 ≤ n ∧ n ≤ 1000) (hbs : bs.size ≤ 1000)
    (hp : Pows w0) (hpl : 3 < w0.heap.size)
    (h : Stand w0 w [kTh kb p M k, logT lb v0 v1 v2 v3 kb bs, conT nb (.cells (ints l).toArray 3 (0, 0))])
    (hact : ∀ w' bs', Stand w0 w' [kTh kb p M k, logT lb v0 v1 v2 v3 kb bs', conT nb (.cells (ints l).toArray 3 (0, 0))] →
      Calls Tryz.prog 140 #[.pointer (some ⟨kb, 0, none⟩), .slice (some ⟨nb, 0, none⟩) l.length l.length] w' fun e w'' => e = .returned .nilIface ∧ ∃ M', Stand w0 w'' [kTh kb p M' k', logT lb v0 v1 v2 v3 kb bs', conT nb (.cells (ints l).toArray 3 (0, 0))]) :
    Calls Tryz.prog 96 #[.pointer (some ⟨lb, 0, none⟩), .slice (some ⟨nb, 0, none⟩) l.length l.length] w fun e w' => e = .returned .nilIface ∧
      ∃ (bs' : ByteArray) (M' : KM), bs.size < bs'.size ∧ bs'.size ≤ bs.size + 100 ∧ Stand w0 w' [kTh kb p M' k', logT lb v0 v1 v2 v3 kb bs', conT nb (.cells (ints l).toArray 3 (0, 0))] := by
  obtain ⟨i0, hi0, hz0, hz1, hz2⟩ := info_parts Tryz.infoStr
  have HST := hid h
  have HACT := hid hact
  have HFIT := hid hfit
  have HPW : Hid (∀ w', Below w0.heap.size w0 w' → Pows w') := fun w' hb => hp.new hpl hb
  obtain ⟨n, hn⟩ : ∃ n, n = l.length := ⟨_, rfl⟩
  rw [← hn] at hl1 hl3 HACT ⊢
  have HN := hid hn
  clear h hact hfit hp hpl hn
  go_enter Tryz.func96, Tryz.ntmps96
  go_wp2_with fail
  go_loopw [5, 11] (fun v5 v11 wr => ∃ (j : Nat) (A : Option Addr) (cap : Nat), j ≤ n ∧ v5 = .slice A j cap ∧ v11 = .int .i64 j ∧
    Stand w0 wr [kTh kb p M k, logT lb v0 v1 v2 v3 kb bs, conT nb (.cells (ints l).toArray 3 (0, 0)), rowT 9 1 A j cap ((l.map digV).take j)]) (fun _ v11 _ => n - (intOf v11).toNat)
  case atStart => exact ⟨0, none, 0, by omega, rfl, rfl, stand_nil HST.out _ _⟩
  case round =>
    obtain ⟨j, A, cap, hj, rfl, rfl, hst⟩ := hrel
    have HS := hid hst
    have hnb : wr.heap[nb]? = some (.cells (ints l).toArray 3 (0, 0)) := (hst.get (i := 2) rfl).here
    have hnl := blk_lt hnb
    clear hst
    by_cases hjn : j < n
    · have hjl : j < l.length := by rw [← HN.out]; exact hjn
      have hget := List.getElem?_eq_getElem hjl
      have hk : wr.cell? ⟨nb, j, none⟩ = some (.int .i64 l[j]) := by
        rw [blk_cell hnb]; unfold ints; rw [List.getElem?_toArray, List.getElem?_map, hget]; rfl
      have hfx := HFIT.out l[j] (List.getElem_mem hjl)
      have hnext : (l.map digV).take (j + 1) = (l.map digV).take j ++ [digV l[j]] := by rw [List.take_succ_eq_append_getElem (by rw [List.length_map]; exact hjl), List.getElem_map]
      generalize l[j] = x at hget hk hfx hnext
      obtain ⟨S2, hS2⟩ : ∃ S2 : ByteArray, S2 = ⟨(Lib.itoa x).toArray⟩ := ⟨_, rfl⟩
      have HIT : Hid (Calls Tryz.prog 109 #[.int .i64 x] wr fun e w'' => e = .returned (.string S2) ∧ Below wr.heap.size wr w'') := by
        rw [hS2]; exact itoaS_any x (by omega) (by omega) wr (HPW.out _ HS.out.below)
      have HNX : Hid ((l.map digV).take (j + 1) = (l.map digV).take j ++ [.string S2]) := by rw [hnext, hS2]; rfl
      clear hget hfx hnext hS2 hnb
      go_wp2_with (first
        | (go_at_call 109; refine HIT.out.mono ?_; rintro e w5 ⟨rfl, hb5⟩; have HS5 := hid (HS.out.new hb5); clear hb5 HIT)
        | (at_builtin; refine wpList_append_row _ rfl _ _ 130 rfl 9 i0 (.string ⟨#[]⟩) 1 16 Tryz.underlying130 hi0 hz0 hz1 hz2 rfl (by decide) A j cap ((l.map digV).take j) rfl ?c0 (some ⟨w5.heap.size, 0, none⟩) 1 1 [.string S2] rfl ?c1 ?c2 ?c3 ?c4 ?_))
      case c0 => exact Row.alloc (HS5.out.get (i := 3) rfl).here _
      case c1 => exact one_sl w5 _ _
      case c2 => intro u hu; simp at hu; subst hu; rfl
      case c3 => unfold maxLen; omega
      case c4 => omega
      intro A' cap' w6 hrow6 hkeep6 hin6
      rw [← HNX.out] at hrow6
      have hst6 := (HS5.out.new ((Below.refl _ w5).alloc (Nat.le_refl _) (.cells #[.string S2] 9))).go 3 rfl (row_went hrow6 hkeep6 (fun i hi => by rw [sz_alloc]; exact hin6 i hi))
      have HS6 : Hid (Stand w0 w6 [kTh kb p M k, logT lb v0 v1 v2 v3 kb bs, conT nb (.cells (ints l).toArray 3 (0, 0)), rowT 9 1 A' (j + 1) cap' ((l.map digV).take (j + 1))]) := hst6
      clear hrow6 hkeep6 hin6 hst6
      go_wp2_with fail
      go_roundw
      case rel => exact ⟨j + 1, A', cap', by omega, by go_num, by go_num, HS6.out⟩
      case measure => simp [intOf]; omega
    · obtain rfl : j = n := by omega
      have htk : (l.map digV).take j = l.map digV := by rw [List.take_of_length_le (by rw [List.length_map]; have := HN.out; omega)]
      rw [htk] at HS
      clear htk hnb hnl
      obtain ⟨bk, o, rfl, hbk, hx⟩ := (show Row wr 9 1 A j cap (l.map digV) from (HS.out.get (i := 3) rfl).here).sl.2 (by omega)
      have hcap : j ≤ cap := (show Row wr 9 1 (some ⟨bk, o, none⟩) j cap (l.map digV) from (HS.out.get (i := 3) rfl).here).le.1
      obtain ⟨J, hJ⟩ : ∃ J : ByteArray, J = ⟨(Lib.join ((l.map fun n => (⟨(Lib.itoa n).toArray⟩ : ByteArray)).map (·.data.toList)) [32]).toArray⟩ := ⟨_, rfl⟩
      have hjl : (Lib.join ((l.map fun n => (⟨(Lib.itoa n).toArray⟩ : ByteArray)).map (·.data.toList)) [32]).length ≤ 70 := by
        have h1 := join_len ((l.map fun n => (⟨(Lib.itoa n).toArray⟩ : ByteArray)).map (·.data.toList)) 21 (fun x hx => by
          simp only [List.map_map, List.mem_map, Function.comp] at hx
          obtain ⟨n, hn, rfl⟩ := hx
          have := HFIT.out n hn
          exact Lib.itoa_length_le n (by omega) (by omega))
        simp only [List.length_map] at h1
        have := HN.out; omega
      have hJl : J.size ≤ 70 := by rw [hJ, Lib.size_eq]; exact hjl
      have HJ : Hid (Calls Tryz.prog 139 #[.slice (some ⟨bk, o, none⟩) j cap, .string ⟨#[32]⟩] wr fun e w' => e = .returned (.string J) ∧ Below wr.heap.size wr w') := by
        have h := Tryz.strings_Join bk o cap (l.map fun n => (⟨(Lib.itoa n).toArray⟩ : ByteArray)) ⟨#[32]⟩ wr (fun i x hi => hx i _ (by
          rw [List.getElem?_map] at hi ⊢
          cases hg : l[i]? with
          | none => rw [hg] at hi; simp at hi
          | some n => rw [hg] at hi; simp at hi; subst hi; rfl)) hbk (by rw [List.length_map]; have := HN.out; omega) (by rw [List.length_map, ← HN.out]; exact hcap) (by
          refine Nat.le_trans hjl (by decide))
        rw [List.length_map, ← HN.out] at h
        rw [hJ]; exact h
      clear hx hJ hjl
      go_wp2_with (first
        | (go_at_call 139; refine HJ.out.mono ?_; rintro e w7 ⟨rfl, hb7⟩; have HS7 := hid ((HS.out.new hb7).few (ts := [kTh kb p M k, logT lb v0 v1 v2 v3 kb bs, conT nb (.cells (ints l).toArray 3 (0, 0))])); clear hb7 HJ)
        | (go_at_call 97; refine (lstep_any (HS7.out.get (i := 1) rfl).here).mono ?_; rintro e w8 ⟨rfl, hk8, hx8⟩; have HS8 := hid (HS7.out.go 1 rfl (log_went hk8 hx8)); have c5 := blk_cell hx8 5; have c4 := blk_cell hx8 4; have f5 := blk_free hx8 5; have hl8 := blk_lt hx8; unfold logCells at c5 c4; simp at c5 c4; clear hk8 hx8))
      obtain ⟨B2, hB2⟩ : ∃ B2 : ByteArray, B2 = bs ++ (J ++ ⟨#[10]⟩) := ⟨_, rfl⟩
      obtain ⟨w9, hw9⟩ : ∃ w9, w9 = w8.setCell ⟨lb, 5, none⟩ (.string (bs ++ (J ++ ⟨#[10]⟩))) := ⟨_, rfl⟩
      have hx9 : w9.heap[lb]? = some (.cells (logCells v0 v1 v2 v3 kb B2) 174 (0, 0)) := by
        rw [hw9, hB2]
        exact blk_set (show w8.heap[lb]? = some (.cells (logCells v0 v1 v2 v3 kb bs) 174 (0, 0)) from (HS8.out.get (i := 1) rfl).here) 5 _
      have hk9 : Keep (fun j => j = lb) w8 w9 := by rw [hw9]; exact (Keep.refl (fun j => j = lb) w8).setCell (.inl rfl) _
      have HS9 : Hid (Stand w0 w9 [kTh kb p M k, logT lb v0 v1 v2 v3 kb B2, conT nb (.cells (ints l).toArray 3 (0, 0))]) := HS8.out.go 1 rfl (log_went hk9 hx9)
      have hsz : B2.size = bs.size + (J.size + 1) := by rw [hB2, ByteArray.size_append, ByteArray.size_append]; rfl
      rw [← hw9]
      clear hw9 hx9 hk9 hB2 c5 c4 f5 hl8
      refine (HACT.out w9 B2 HS9.out).mono ?_
      rintro e w10 ⟨rfl, M', hst⟩
      have HS10 := hid hst
      clear hst
      go_wp2_with fail
      go_ret
      exact ⟨rfl, B2, M', by omega, by omega, HS10.out⟩
/-! Go and Poke -/
/-- A kernel and a log that stand beside each other. -/
def LogAt (w0 w : World) (lb kb : Nat) (v0 v1 v2 v3 : Value) (p : Pl) (k : Kst) (bs : ByteArray) : Prop := ∃ M, Stand w0 w [kTh kb p M k, logT lb v0 v1 v2 v3 kb bs]
section
variable {w0 w : World} {lb kb : Nat} {v0 v1 v2 v3 : Value} {bs : ByteArray} {p : Pl} {k : Kst}
theorem LogAt.new {w' : World} (h : LogAt w0 w lb kb v0 v1 v2 v3 p k bs) (hb : Below w.heap.size w w') : LogAt w0 w' lb kb v0 v1 v2 v3 p k bs := by
  obtain ⟨M, h⟩ := h; exact ⟨M, h.new hb⟩
theorem lgo_bad (n : Int) (hn : n < 0 ∨ 100 < n) (h : LogAt w0 w lb kb v0 v1 v2 v3 p k bs) :
    Calls Tryz.prog 37 #[.pointer (some ⟨lb, 0, none⟩), .int .i64 n] w fun e w' => e = .returned (errV 1) ∧ w = w' := by
  obtain ⟨M, hst⟩ := h
  have hx : w.heap[lb]? = some (.cells (logCells v0 v1 v2 v3 kb bs) 174 (0, 0)) := (hst.get (i := 1) rfl).here
  unfold logCells at hx
  have c8 := blk_cell hx 8
  have hl := blk_lt hx
  simp at c8
  rw [errV_pos (by decide)]
  clear hx hst
  rcases (show n < 0 ∨ (100 < n ∧ 0 ≤ n) by omega) with h | ⟨h, h'⟩
  all_goals
    clear hn
    go_enter Tryz.func37, Tryz.ntmps37
    go_wp2_with fail
    go_ret
    exact ⟨rfl, rfl⟩
set_option maxHeartbeats 2000000 in
theorem lgo_ok (hp : PlOk p) (hpw : Pows w0) (hpl : 3 < w0.heap.size) (n : Nat) (hn : n ≤ 100) (hbs : bs.size ≤ 1000) (h : LogAt w0 w lb kb v0 v1 v2 v3 p (runK p 0) bs) :
    Calls Tryz.prog 37 #[.pointer (some ⟨lb, 0, none⟩), .int .i64 n] w fun e w' => e = .returned .nilIface ∧ ∃ bs' : ByteArray, bs.size < bs'.size ∧ bs'.size ≤ bs.size + 100 ∧ LogAt w0 w' lb kb v0 v1 v2 v3 p (runK p n) bs' := by
  obtain ⟨M, hst⟩ := h
  have hx : w.heap[lb]? = some (.cells (logCells v0 v1 v2 v3 kb bs) 174 (0, 0)) := (hst.get (i := 1) rfl).here
  unfold logCells at hx
  have c8 := blk_cell hx 8
  have c4 := blk_cell hx 4
  have hl := blk_lt hx
  simp at c8 c4
  have HT := hid (ktime_any (hst.get (i := 0) rfl).here.1)
  have ht : (runK p 0).time = 0 := rfl
  rw [ht] at HT
  have HKEEP : Hid (∀ w', Stand w0 w' [kTh kb p M (runK p 0), logT lb v0 v1 v2 v3 kb bs, conT w.heap.size (.cells (ints [(n : Int)]).toArray 3 (0, 0))] → Calls Tryz.prog 96 #[.pointer (some ⟨lb, 0, none⟩), .slice (some ⟨w.heap.size, 0, none⟩) 1 1] w' fun e w'' => e = .returned .nilIface ∧
      ∃ (bs' : ByteArray) (M' : KM), bs.size < bs'.size ∧ bs'.size ≤ bs.size + 100 ∧ Stand w0 w'' [kTh kb p M' (runK p n), logT lb v0 v1 v2 v3 kb bs', conT w.heap.size (.cells (ints [(n : Int)]).toArray 3 (0, 0))]) := fun w' h =>
    lkeep_any [(n : Int)] (Nat.le_refl 1) (by show 1 ≤ 3; omega) (fun x hx => by simp at hx; omega) hbs hpw hpl h (fun w2 bs2 h2 => lact_ticks hp n hn w.heap.size 0 1 ((blk_cell (show w2.heap[w.heap.size]? = some (.cells (ints [(n : Int)]).toArray 3 (0, 0)) from (h2.get (i := 2) rfl).here) 0).trans rfl) h2)
  have HST := hid hst
  clear hx hst hp hpw hpl
  go_enter Tryz.func37, Tryz.ntmps37
  go_wp2_with (go_at_call 31; refine HT.out.mono ?_; rintro e w1 ⟨rfl, rfl⟩)
  have h3 := HST.out.add (w1 := w.alloc (.cells #[.int .i64 n] 3)) ((Below.refl _ _).alloc (Nat.le_refl _) _) (con_lie (heap_alloc_new w (.cells #[.int .i64 n] 3))) (fun _ hj => hj.elim) (fun j hj => .inl (by have : j = w.heap.size := hj; omega))
  refine (HKEEP.out _ h3).mono ?_
  clear h3 HKEEP c8 c4
  rintro e w2 ⟨rfl, bs', M', hb1, hb2, hst⟩
  have HS2 := hid (hst.few (ts := [kTh kb p M' (runK p n), logT lb v0 v1 v2 v3 kb bs']))
  clear hst
  go_wp2_with fail
  go_ret
  exact ⟨rfl, bs', hb1, hb2, M', HS2.out⟩
theorem lpoke_bad (r cell v : Int) (R : Nat) (hR : k.rooms.length = R) (hr : 0 ≤ r ∧ r < R) (hc : cell < 0 ∨ 6 ≤ cell) (h : LogAt w0 w lb kb v0 v1 v2 v3 p k bs) :
    Calls Tryz.prog 46 #[.pointer (some ⟨lb, 0, none⟩), .int .i64 r, .int .i64 cell, .int .i64 v] w fun e w' => e = .returned (errV 1) ∧ LogAt w0 w' lb kb v0 v1 v2 v3 p k bs := by
  obtain ⟨M, hst⟩ := h
  have hx : w.heap[lb]? = some (.cells (logCells v0 v1 v2 v3 kb bs) 174 (0, 0)) := (hst.get (i := 1) rfl).here
  have c4 : w.cell? ⟨lb, 4, none⟩ = some (.pointer (some ⟨kb, 0, none⟩)) := blk_cell hx 4
  have hl := blk_lt hx
  have HC8 : Hid (∀ w', Below w.heap.size w w' → w'.cell? ⟨lb, 8, none⟩ = some (.bool false) ∧ lb < w'.heap.size) := fun w' hb => by
    have h := (hb.block _ (blk_lt hx)).trans hx
    exact ⟨blk_cell h 8, blk_lt h⟩
  have HR := hid (krooms_any (hst.get (i := 0) rfl).here.1)
  rw [hR] at HR
  have HST := hid hst
  rw [errV_pos (by decide)]
  obtain ⟨hr0, hr1⟩ := hr
  have d1 : decide (r < 0) = false := decide_eq_false (by omega)
  have d2 : decide ((R : Int) ≤ r) = false := decide_eq_false (by omega)
  obtain ⟨q, hq⟩ : ∃ q, q = k.lines.length := ⟨_, rfl⟩
  rw [← hq] at HR
  clear hx hst hR hq
  rcases (show cell < 0 ∨ (6 ≤ cell ∧ 0 ≤ cell) by omega) with h | ⟨h, h'⟩
  all_goals
    clear hc
    go_enter Tryz.func46, Tryz.ntmps46
    go_wp2_with (go_at_call 77; refine HR.out.mono ?_; rintro e w1 ⟨rfl, hb1⟩; obtain ⟨c8, hl1⟩ := HC8.out _ hb1; have HB1 := hid hb1; clear hb1 HR)
    go_ret
    exact ⟨rfl, M, HST.out.new HB1.out⟩
set_option maxHeartbeats 2000000 in
theorem lpoke_ok (hpw : Pows w0) (hpl : 3 < w0.heap.size) (r cell v : Int) (R : Nat) (hR : k.rooms.length = R) (hR5 : R ≤ 5) (hr : 0 ≤ r ∧ r < R) (hc : 0 ≤ cell ∧ cell < 6) (hv : 0 ≤ v ∧ v < 1000) (hbs : bs.size ≤ 1000) (h : LogAt w0 w lb kb v0 v1 v2 v3 p k bs) :
    Calls Tryz.prog 46 #[.pointer (some ⟨lb, 0, none⟩), .int .i64 r, .int .i64 cell, .int .i64 v] w fun e w' => e = .returned .nilIface ∧ ∃ bs' : ByteArray, bs.size < bs'.size ∧ bs'.size ≤ bs.size + 100 ∧ LogAt w0 w' lb kb v0 v1 v2 v3 p (pokeK k r cell v) bs' := by
  obtain ⟨M, hst⟩ := h
  have hx : w.heap[lb]? = some (.cells (logCells v0 v1 v2 v3 kb bs) 174 (0, 0)) := (hst.get (i := 1) rfl).here
  have c4 : w.cell? ⟨lb, 4, none⟩ = some (.pointer (some ⟨kb, 0, none⟩)) := blk_cell hx 4
  have hl := blk_lt hx
  have HC8 : Hid (∀ w', Below w.heap.size w w' → w'.cell? ⟨lb, 8, none⟩ = some (.bool false) ∧ lb < w'.heap.size) := fun w' hb => by
    have h := (hb.block _ (blk_lt hx)).trans hx
    exact ⟨blk_cell h 8, blk_lt h⟩
  have HR := hid (krooms_any (hst.get (i := 0) rfl).here.1)
  rw [hR] at HR
  have hpk : pokeOk k.rooms.length r cell v = true := by rw [hR]; exact decide_eq_true ⟨hr.1, hr.2, hc.1, hc.2, hv.1, hv.2⟩
  have HKEEP : Hid (∀ w' nb, Stand w0 w' [kTh kb p M k, logT lb v0 v1 v2 v3 kb bs, conT nb (.cells (ints [r, cell, v]).toArray 3 (0, 0))] → Calls Tryz.prog 96 #[.pointer (some ⟨lb, 0, none⟩), .slice (some ⟨nb, 0, none⟩) 3 3] w' fun e w'' => e = .returned .nilIface ∧
      ∃ (bs' : ByteArray) (M' : KM), bs.size < bs'.size ∧ bs'.size ≤ bs.size + 100 ∧ Stand w0 w'' [kTh kb p M' (pokeK k r cell v), logT lb v0 v1 v2 v3 kb bs', conT nb (.cells (ints [r, cell, v]).toArray 3 (0, 0))]) := fun w' nb h =>
    lkeep_any [r, cell, v] (by show 1 ≤ 3; omega) (Nat.le_refl 3) (fun x hx => by simp at hx; rcases hx with rfl | rfl | rfl <;> omega) hbs hpw hpl h (fun w2 bs2 h2 => by
      have hn : w2.heap[nb]? = some (.cells (ints [r, cell, v]).toArray 3 (0, 0)) := (h2.get (i := 2) rfl).here
      exact lact_poke r cell v (by rw [hR]; exact hR5) hpk nb 0 3 ((blk_cell hn 0).trans rfl) ((blk_cell hn 1).trans rfl) ((blk_cell hn 2).trans rfl) h2)
  have HST := hid hst
  obtain ⟨hr0, hr1⟩ := hr
  obtain ⟨hc0, hc1⟩ := hc
  obtain ⟨hv0, hv1⟩ := hv
  have d1 : decide (r < 0) = false := decide_eq_false (by omega)
  have d2 : decide ((R : Int) ≤ r) = false := decide_eq_false (by omega)
  have d3 : decide (cell < 0) = false := decide_eq_false (by omega)
  have d4 : decide (6 ≤ cell) = false := decide_eq_false (by omega)
  have d5 : decide (v < 0) = false := decide_eq_false (by omega)
  have d6 : decide (1000 ≤ v) = false := decide_eq_false (by omega)
  obtain ⟨q, hq⟩ : ∃ q, q = k.lines.length := ⟨_, rfl⟩
  rw [← hq] at HR
  clear hx hst hR hq hpk hpw hpl
  go_enter Tryz.func46, Tryz.ntmps46
  go_wp2_with (go_at_call 77; refine HR.out.mono ?_; rintro e w1 ⟨rfl, hb1⟩; obtain ⟨c8, hl1⟩ := HC8.out _ hb1; have HS1 := hid (HST.out.new hb1); clear hb1 HR)
  have h3 := HS1.out.add (w1 := w1.alloc (.cells #[.int .i64 r, .int .i64 cell, .int .i64 v] 3)) ((Below.refl _ _).alloc (Nat.le_refl _) _) (con_lie (heap_alloc_new w1 (.cells #[.int .i64 r, .int .i64 cell, .int .i64 v] 3))) (fun _ hj => hj.elim) (fun j hj => .inl (by have : j = w1.heap.size := hj; omega))
  refine (HKEEP.out _ w1.heap.size h3).mono ?_
  clear h3 HKEEP
  rintro e w2 ⟨rfl, bs', M', hb1, hb2, hst⟩
  have HS2 := hid (hst.few (ts := [kTh kb p M' (pokeK k r cell v), logT lb v0 v1 v2 v3 kb bs']))
  clear hst
  go_wp2_with fail
  go_ret
  exact ⟨rfl, bs', hb1, hb2, M', HS2.out⟩
end
end Go.Proofs.YthafahnlfpkkbaaGreatDoor
