/- Plain: a table read piece by piece, as the reference does it: what is read so far, the kernel so far, and what it comes to. No program is walked. Conditions: none. -/
import Derived.Test.YtldllmhgofacbaaGreatDoorSnapLU
namespace Go.Proofs.YtldllmhgofacbaaGreatDoor

theorem cut_linesT (c : UInt8) : ∀ (l acc : List UInt8), c ∉ acc → ∃ (P : List (List UInt8)) (z : List UInt8), cutA c acc l = P ++ [z] ∧ acc ++ l = P.flatMap (fun x => x ++ [c]) ++ z ∧ (∀ x ∈ P, c ∉ x) ∧ c ∉ z
  | [], acc, h => ⟨[], acc, rfl, (by simp), (fun x hx => by cases hx), h⟩
  | x :: l, acc, h => by
    unfold cutA
    split
    · rename_i hx
      subst hx
      obtain ⟨P, z, h1, h2, h3, h4⟩ := cut_linesT x l [] (by simp)
      rw [List.nil_append] at h2
      refine ⟨acc :: P, z, by rw [h1]; rfl, ?_, ?_, h4⟩
      · rw [List.flatMap_cons, List.append_assoc, ← h2]; simp
      · intro y hy
        rcases List.mem_cons.1 hy with rfl | hy
        · exact h
        · exact h3 y hy
    · rename_i hx
      obtain ⟨P, z, h1, h2, h3, h4⟩ := cut_linesT c l (acc ++ [x]) (by simp only [List.mem_append, List.mem_singleton]; rintro (h' | h'); exact h h'; exact hx h'.symm)
      exact ⟨P, z, h1, by rw [← h2]; simp, h3, h4⟩
theorem lines_joinedT {P : List (List UInt8)} (hP : ∀ x ∈ P, (10 : UInt8) ∉ x) : linesOf (P.flatMap fun x => x ++ [10]) = P.map fun x => x ++ [10] := linesT_of (fun x => x) P hP

theorem zip_snoc {α β : Type} {l : List α} {m : List β} {x : α} {y : β} (h : l[m.length]? = some x) : l.zip (m ++ [y]) = l.zip m ++ [(x, y)] := by
  obtain ⟨h1, h2⟩ := List.getElem?_eq_some_iff.1 h
  have e0 : l = l.take m.length ++ x :: l.drop (m.length + 1) := by
    rw [← h2, List.getElem_cons_drop, List.take_append_drop]
  have hl2 : (l.take m.length).length = m.length := by rw [List.length_take]; omega
  have z1 : l.zip (m ++ [y]) = (l.take m.length ++ x :: l.drop (m.length + 1)).zip (m ++ [y]) := by rw [← e0]
  have z2 : l.zip m = (l.take m.length ++ x :: l.drop (m.length + 1)).zip (m ++ []) := by rw [← e0, List.append_nil]
  rw [z1, z2, List.zip_append hl2, List.zip_append hl2]
  simp
theorem app_set {α : Type} {a old : List α} (x : α) (h : a.length < old.length) : (a ++ old.drop a.length).set a.length x = (a ++ [x]) ++ old.drop (a ++ [x]).length := by
  rw [List.set_append_right _ _ (Nat.le_refl _), Nat.sub_self, List.drop_eq_getElem_cons h, List.set_cons_zero, List.length_append, List.append_assoc]
  rfl
theorem rooms_more (nr : Nat) (L : List (List Nat)) (ns : List Nat) : roomsT nr (L ++ [ns]) = roomsT nr L ++ (if 1 ≤ L.length ∧ L.length ≤ nr then [ns] else []) := by
  unfold roomsT
  rw [List.drop_append, List.take_append, List.length_drop]
  congr 1
  by_cases h : 1 ≤ L.length ∧ L.length ≤ nr
  · rw [if_pos h, show 1 - L.length = 0 by omega, List.drop_zero, List.take_of_length_le (by simp; omega)]
  · rw [if_neg h]
    by_cases h0 : L.length = 0
    · rw [h0]; simp
    · rw [show 1 - L.length = 0 by omega, List.drop_zero, show nr - (L.length - 1) = 0 by omega, List.take_zero]
theorem wires_more (nr : Nat) (L : List (List Nat)) (ns : List Nat) : wiresT nr (L ++ [ns]) = wiresT nr L ++ (if nr < L.length then [ns] else []) := by
  unfold wiresT
  rw [List.drop_append]
  congr 1
  by_cases h : nr < L.length
  · rw [if_pos h, show 1 + nr - L.length = 0 by omega, List.drop_zero]
  · rw [if_neg h, List.drop_of_length_le (by simp; omega)]
theorem roomsT_len (nr : Nat) (L : List (List Nat)) : (roomsT nr L).length = min nr (L.length - 1) := by unfold roomsT; rw [List.length_take, List.length_drop]
theorem wiresT_len (nr : Nat) (L : List (List Nat)) : (wiresT nr L).length = L.length - (1 + nr) := by unfold wiresT; rw [List.length_drop]
theorem head_more {L : List (List Nat)} (h : 1 ≤ L.length) (ns : List Nat) : headT (L ++ [ns]) = headT L := by
  cases L with
  | nil => simp at h
  | cons a l => rfl

/-- No table of the plan's is this text's, but one of a wrong shape. -/
def RBad (p : Pl) (t : List UInt8) : Prop := ∀ L, Tab (wordsOf p.code.length p.wires.length) t L → loadE p L = 2
def lineShape (nr i : Nat) (ns : List Nat) : Bool := if i = 0 then decide (ns.length = 1) else if i ≤ nr then roomShape ns else wireShape ns
/-- So many pieces are read. -/
structure RPre (p : Pl) (P : List (List UInt8)) (L : List (List Nat)) : Prop where
  le : L.length ≤ 1 + p.code.length + p.wires.length
  small : ∀ ns ∈ L, ∀ n ∈ ns, n < 10 ^ 7
  lines : P.take L.length = ((wordsOf p.code.length p.wires.length).zip L).map tabLine
  head : ∀ ns, L[0]? = some ns → ns.length = 1
  rooms : ∀ ns ∈ roomsT p.code.length L, roomShape ns = true
  wires : ∀ ns ∈ wiresT p.code.length L, wireShape ns = true
section
variable {p : Pl} {P : List (List UInt8)} {L : List (List Nat)} {s v0 : List UInt8} {vs : List (List UInt8)} {ns : List Nat}
theorem RPre.nil (p : Pl) (P : List (List UInt8)) : RPre p P [] :=
  ⟨by simp, (fun _ h => by cases h), by simp, (fun _ h => by cases h), (fun _ h => by simp [roomsT] at h), (fun _ h => by simp [wiresT] at h)⟩
theorem RPre.next (h : RPre p P L) (hs : P[L.length]? = some s) (hc : cutA 32 [] s = v0 :: vs) (hn : numsOf 7 vs = some ns) (hw : (wordsOf p.code.length p.wires.length)[L.length]? = some v0) (hsh : lineShape p.code.length L.length ns = true) : RPre p P (L ++ [ns]) := by
  obtain ⟨h1, h2⟩ := line_nums hc hn
  obtain ⟨hP1, hP2⟩ := List.getElem?_eq_some_iff.1 hs
  have hwl := (List.getElem?_eq_some_iff.1 hw).1
  rw [wordsOf_len] at hwl
  refine ⟨by rw [List.length_append, List.length_singleton]; omega, fun ms hm => ?_, ?_, fun ms hm => ?_, fun ms hm => ?_, fun ms hm => ?_⟩
  · rcases List.mem_append.1 hm with hm | hm
    · exact h.small ms hm
    · rw [List.mem_singleton] at hm; subst hm; exact h2
  · rw [zip_snoc hw, List.map_append, ← h.lines, List.length_append, List.length_singleton, List.take_succ_eq_append_getElem hP1, hP2, h1]
    rfl
  · by_cases h0 : L.length = 0
    · have hL : L = [] := List.eq_nil_of_length_eq_zero h0
      subst hL
      simp only [List.nil_append, List.getElem?_cons_zero, Option.some.injEq] at hm
      subst hm
      exact of_decide_eq_true hsh
    · rw [List.getElem?_append_left (by omega)] at hm
      exact h.head ms hm
  · rw [rooms_more] at hm
    rcases List.mem_append.1 hm with hm | hm
    · exact h.rooms ms hm
    · split at hm
      · rename_i hq
        rw [List.mem_singleton] at hm
        subst hm
        unfold lineShape at hsh
        rwa [if_neg (by omega), if_pos hq.2] at hsh
      · cases hm
  · rw [wires_more] at hm
    rcases List.mem_append.1 hm with hm | hm
    · exact h.wires ms hm
    · split at hm
      · rename_i hq
        rw [List.mem_singleton] at hm
        subst hm
        unfold lineShape at hsh
        rwa [if_neg (by omega), if_neg (by omega)] at hsh
      · cases hm
/-- All of them. -/
theorem RPre.all {t : List UInt8} (h : RPre p P L) (ht : t = P.flatMap fun x => x ++ [10]) (hP : ∀ x ∈ P, (10 : UInt8) ∉ x) (hl : P.length = 1 + p.code.length + p.wires.length) (hL : L.length = P.length) : Tab (wordsOf p.code.length p.wires.length) t L ∧ loadE p L = if fitsOk p L = true then 0 else 1 := by
  refine ⟨tab_of (by rw [wordsOf_len]; omega) h.small ?_, ?_⟩
  · have h1 := h.lines
    rw [List.take_of_length_le (by omega)] at h1
    rw [ht, lines_joinedT hP, h1, List.map_map]
    rfl
  · have hh : (headT L).length = 1 := by
      cases L with
      | nil => simp at hL; omega
      | cons a l => exact h.head a rfl
    unfold loadE
    rw [if_pos (shape_yes hh h.rooms h.wires)]
/-- A piece that does not fit. -/
theorem bad_line {t : List UInt8} {i : Nat} (ht : t = P.flatMap fun x => x ++ [10]) (hP : ∀ x ∈ P, (10 : UInt8) ∉ x) (hs : P[i]? = some s) (hc : cutA 32 [] s = v0 :: vs)
    (hno : numsOf 7 vs = none ∨ (∃ w0, (wordsOf p.code.length p.wires.length)[i]? = some w0 ∧ v0 ≠ w0) ∨ ∃ ns, numsOf 7 vs = some ns ∧ lineShape p.code.length i ns = false) : RBad p t := by
  have hx : (linesOf t)[i]? = some (s ++ [10]) := by rw [ht, lines_joinedT hP, List.getElem?_map, hs]; rfl
  intro L hT
  have hpw := wordsOf_plain p.code.length p.wires.length
  rcases hno with h | ⟨w0, h0, h⟩ | ⟨ns, hn, h⟩
  · exact absurd hT (tab_not_nums hpw hx rfl hc h)
  · exact absurd hT (tab_not_word hpw hx rfl hc h0 h)
  · obtain ⟨w, ns', h1, h2, h3, h4⟩ := hT.line hpw hx
    have e : s = tabLine (w, ns') := List.append_cancel_right h3
    have h5 := tabLine_cut (hpw w (List.mem_of_getElem? h1)).2 ns'
    rw [← e, hc] at h5
    injection h5 with _ h6
    rw [h6, tabLine_nums h4] at hn
    injection hn with hn
    subst hn
    have hlt := (List.getElem?_eq_some_iff.1 h1).1
    rw [wordsOf_len] at hlt
    unfold lineShape at h
    by_cases h0 : i = 0
    · rw [if_pos h0] at h
      subst h0
      exact load_head (by rw [head_get h2]; exact of_decide_eq_false h)
    · rw [if_neg h0] at h
      by_cases h7 : i ≤ p.code.length
      · rw [if_pos h7] at h
        refine load_room (ns := ns') (List.mem_of_getElem? (i := i - 1) ?_) h
        rw [rooms_get (by omega), show 1 + (i - 1) = i by omega]; exact h2
      · rw [if_neg h7] at h
        refine load_wire (ns := ns') (List.mem_of_getElem? (i := i - (1 + p.code.length)) ?_) h
        rw [wires_get, show 1 + p.code.length + (i - (1 + p.code.length)) = i by omega]; exact h2
theorem bad_end {t z : List UInt8} (ht : t = P.flatMap (fun x => x ++ [10]) ++ z) (hP : ∀ x ∈ P, (10 : UInt8) ∉ x) (hz : z ≠ []) (h10 : (10 : UInt8) ∉ z) : RBad p t := by
  intro L hT
  have hx : (linesOf t)[P.length]? = some z := by
    rw [ht, lines_pieces P z hP, List.getElem?_append_right (by simp), List.length_map, Nat.sub_self]
    have h1 : linesOf z = [z] := linesOf_last z h10 hz
    rw [h1]; rfl
  exact absurd hT (tab_not_end (wordsOf_plain _ _) hx h10)
theorem bad_many {t : List UInt8} (ht : t = P.flatMap fun x => x ++ [10]) (hP : ∀ x ∈ P, (10 : UInt8) ∉ x) (hl : P.length ≠ 1 + p.code.length + p.wires.length) : RBad p t := by
  intro L hT
  have h1 := hT.count (wordsOf_plain _ _)
  rw [ht, lines_joinedT hP, List.length_map, wordsOf_len] at h1
  exact absurd h1 hl

/-! The kernel so far -/
def preK (p : Pl) (L : List (List Nat)) : Kst := ⟨stsT p L ++ (kNew p).rooms.drop (stsT p L).length, lnsT p L ++ (kNew p).lines.drop (lnsT p L).length, gi (headT L) 0⟩
theorem preK_nil (p : Pl) : preK p [] = kNew p := by
  unfold preK stsT lnsT roomsT wiresT headT gi
  simp [kNew]
theorem preK_all (hL : L.length = 1 + p.code.length + p.wires.length) : preK p L = loadK p L := by
  have h1 : (stsT p L).length = (kNew p).rooms.length := by rw [stsT_len hL]; simp [kNew]
  have h2 : (lnsT p L).length = (kNew p).lines.length := by rw [lnsT_len hL]; simp [kNew]
  unfold preK
  rw [h1, h2, List.drop_length, List.drop_length, List.append_nil, List.append_nil]
  rfl
theorem preK_time (ns : List Nat) : preK p [ns] = ⟨(kNew p).rooms, (kNew p).lines, gi ns 0⟩ := by
  unfold preK stsT lnsT roomsT wiresT headT
  have : ([ns] : List (List Nat)).drop (1 + p.code.length) = [] := List.drop_of_length_le (by simp)
  rw [this]
  simp
theorem sts_more (h1 : 1 ≤ L.length) (h2 : L.length ≤ p.code.length) (ns : List Nat) : stsT p (L ++ [ns]) = stsT p L ++ [stOf ns] ∧ (stsT p L).length = L.length - 1 := by
  unfold stsT
  rw [rooms_more, if_pos ⟨h1, h2⟩, List.map_append, List.length_map, roomsT_len]
  exact ⟨rfl, by omega⟩
theorem preK_room (h1 : 1 ≤ L.length) (h2 : L.length ≤ p.code.length) (ns : List Nat) : preK p (L ++ [ns]) = ⟨(preK p L).rooms.set (L.length - 1) (stOf ns), (preK p L).lines, (preK p L).time⟩ := by
  obtain ⟨e1, e2⟩ := sts_more (p := p) h1 h2 ns
  have e3 : lnsT p (L ++ [ns]) = lnsT p L := by unfold lnsT; rw [wires_more, if_neg (by omega), List.append_nil]
  unfold preK
  rw [e1, e3, head_more h1]
  simp only [Kst.mk.injEq, and_self, and_true]
  have := app_set (a := stsT p L) (old := (kNew p).rooms) (stOf ns) (by rw [e2]; simp [kNew]; omega)
  rw [← this, e2]
theorem lns_more (h1 : p.code.length < L.length) {x : Wire} (hx : p.wires[L.length - 1 - p.code.length]? = some x) (ns : List Nat) : lnsT p (L ++ [ns]) = lnsT p L ++ [lnOf x ns] ∧ (lnsT p L).length = L.length - 1 - p.code.length := by
  have hl := (List.getElem?_eq_some_iff.1 hx).1
  have e : (wiresT p.code.length L).length = L.length - 1 - p.code.length := by rw [wiresT_len]; omega
  unfold lnsT
  rw [wires_more, if_pos h1, zip_snoc (by rw [e]; exact hx), List.map_append, List.length_map, List.length_zip, e]
  exact ⟨rfl, by omega⟩
theorem preK_wire (h1 : p.code.length < L.length) {x : Wire} (hx : p.wires[L.length - 1 - p.code.length]? = some x) (ns : List Nat) : preK p (L ++ [ns]) = ⟨(preK p L).rooms, (preK p L).lines.set (L.length - 1 - p.code.length) (lnOf x ns), (preK p L).time⟩ := by
  have hl := (List.getElem?_eq_some_iff.1 hx).1
  obtain ⟨e1, e2⟩ := lns_more (p := p) h1 hx ns
  have e3 : stsT p (L ++ [ns]) = stsT p L := by unfold stsT; rw [rooms_more, if_neg (by omega), List.append_nil]
  unfold preK
  rw [e1, e3, head_more (by omega)]
  simp only [Kst.mk.injEq, true_and, and_true]
  have := app_set (a := lnsT p L) (old := (kNew p).lines) (lnOf x ns) (by rw [e2]; simp [kNew]; omega)
  rw [← this, e2]
theorem preK_rooms (L : List (List Nat)) : (preK p L).rooms.length = p.code.length := by
  have h1 : (stsT p L).length = min p.code.length (L.length - 1) := by unfold stsT; rw [List.length_map, roomsT_len]
  have h2 : (kNew p).rooms.length = p.code.length := by simp [kNew]
  unfold preK
  rw [List.length_append, List.length_drop, h1, h2]; omega
theorem preK_lines (hL : L.length ≤ 1 + p.code.length + p.wires.length) : (preK p L).lines.map Ln.w = p.wires := by
  have h1 : (lnsT p L).map Ln.w = p.wires.take (lnsT p L).length := by
    unfold lnsT
    rw [List.map_map, List.length_map]
    have e : (p.wires.zip (wiresT p.code.length L)).map (Ln.w ∘ fun x => lnOf x.1 x.2) = (p.wires.zip (wiresT p.code.length L)).map Prod.fst := List.map_congr_left fun x _ => rfl
    rw [e, List.length_zip, wiresT_len, Nat.min_eq_right (by omega)]
    have e2 : (p.wires.take (L.length - (1 + p.code.length))).zip (wiresT p.code.length L) = p.wires.zip (wiresT p.code.length L) := by
      conv => rhs; rw [← List.take_append_drop (L.length - (1 + p.code.length)) p.wires]
      rw [show wiresT p.code.length L = wiresT p.code.length L ++ [] by rw [List.append_nil], List.zip_append (by rw [List.length_take, wiresT_len]; omega)]
      simp
    rw [← e2, List.map_fst_zip (by rw [List.length_take, wiresT_len]; omega)]
  have h2 : (kNew p).lines.map Ln.w = p.wires := by simp [kNew, Function.comp_def]
  unfold preK
  rw [List.map_append, List.map_drop, h1, h2, List.take_append_drop]
/-- Does all fit so far? -/
theorem fits_nil (p : Pl) : fitsOk p [] = true := by unfold fitsOk roomsT wiresT; simp
theorem fits_time (ns : List Nat) : fitsOk p [ns] = true := by
  unfold fitsOk roomsT wiresT
  have : ([ns] : List (List Nat)).drop (1 + p.code.length) = [] := List.drop_of_length_le (by simp)
  rw [this]; simp
theorem fits_room (h1 : 1 ≤ L.length) {c : List Op} (hc : p.code[L.length - 1]? = some c) (ns : List Nat) : fitsOk p (L ++ [ns]) = (fitsOk p L && roomFits c ns) := by
  have hl := (List.getElem?_eq_some_iff.1 hc).1
  unfold fitsOk
  rw [rooms_more, if_pos ⟨h1, by omega⟩, wires_more, if_neg (by omega), List.append_nil, zip_snoc (by rw [roomsT_len, show min p.code.length (L.length - 1) = L.length - 1 by omega]; exact hc), List.all_append]
  simp only [List.all_cons, List.all_nil, Bool.and_true]
  rw [Bool.and_assoc, Bool.and_assoc, Bool.and_comm (roomFits c ns)]
theorem fits_wire (h1 : p.code.length < L.length) {x : Wire} (hx : p.wires[L.length - 1 - p.code.length]? = some x) (ns : List Nat) : fitsOk p (L ++ [ns]) = (fitsOk p L && wireFits x ns) := by
  unfold fitsOk
  rw [rooms_more, if_neg (by omega), List.append_nil, wires_more, if_pos h1, zip_snoc (by rw [wiresT_len, show L.length - (1 + p.code.length) = L.length - 1 - p.code.length by omega]; exact hx), List.all_append]
  simp only [List.all_cons, List.all_nil, Bool.and_true]
  rw [Bool.and_assoc]
end

/-- A number that is too great. -/
def farN (k : Nat) : Bool := decide (1000 ≤ k)
theorem farN_all (l : List Nat) : (l.all fun k => decide (k < 1000)) = !l.any farN := by
  induction l with
  | nil => rfl
  | cons a r ih =>
    rw [List.all_cons, List.any_cons, ih, Bool.not_or]
    congr 1
    unfold farN
    by_cases h : a < 1000
    · rw [decide_eq_true h, decide_eq_false (by omega)]; rfl
    · rw [decide_eq_false h, decide_eq_true (by omega)]; rfl
theorem wireFits_deep {x : Wire} {ns : List Nat} (h : x.deep < (ns.tail.length : Int)) : wireFits x ns = false := by
  unfold wireFits
  rw [decide_eq_false (by rintro ⟨h1, _⟩; omega), Bool.false_and]
theorem wireFits_lost {x : Wire} {ns : List Nat} (h : x.kind = 1) (h0 : gi ns 0 ≠ 0) : wireFits x ns = false := by
  unfold wireFits
  rw [decide_eq_false (by rintro ⟨_, h1⟩; exact h0 (h1 h)), Bool.false_and]
theorem wireFits_rest {x : Wire} {ns : List Nat} (h : (ns.tail.length : Int) ≤ x.deep) (h0 : x.kind = 1 → gi ns 0 = 0) : wireFits x ns = !ns.tail.any farN := by
  unfold wireFits
  rw [decide_eq_true ⟨h, h0⟩, Bool.true_and, farN_all]
theorem any_next {l : List Nat} {j u : Nat} (h : l[j]? = some u) : (l.take (j + 1)).any farN = ((l.take j).any farN || farN u) := by
  obtain ⟨h1, h2⟩ := List.getElem?_eq_some_iff.1 h
  rw [List.take_succ_eq_append_getElem h1, List.any_append, h2]
  simp

/-! What it comes to -/
open Classical in
/-- The fault of a text, the kernel of it. -/
noncomputable def tabOf (p : Pl) (t : List UInt8) : List (List Nat) := if h : ∃ L, Tab (wordsOf p.code.length p.wires.length) t L then h.choose else []
open Classical in
noncomputable def textE (p : Pl) (t : List UInt8) : Int := if ∃ L, Tab (wordsOf p.code.length p.wires.length) t L then loadE p (tabOf p t) else 2
theorem text_tab {p : Pl} {t : List UInt8} {L : List (List Nat)} (h : Tab (wordsOf p.code.length p.wires.length) t L) : tabOf p t = L ∧ textE p t = loadE p L := by
  have hx : ∃ L, Tab (wordsOf p.code.length p.wires.length) t L := ⟨L, h⟩
  have e : tabOf p t = L := by
    unfold tabOf
    rw [dif_pos hx]
    exact tab_inj (wordsOf_plain _ _) hx.choose_spec h
  refine ⟨e, ?_⟩
  unfold textE
  rw [if_pos hx, e]
theorem text_zero {p : Pl} {t : List UInt8} (h : textE p t = 0) : Tab (wordsOf p.code.length p.wires.length) t (tabOf p t) ∧ loadE p (tabOf p t) = 0 := by
  unfold textE at h
  split at h
  · rename_i hx
    obtain ⟨L, hL⟩ := hx
    rw [(text_tab hL).1] at h ⊢
    exact ⟨hL, h⟩
  · cases h
theorem text_ok {p : Pl} {t : List UInt8} (hp : PlOk p) (h : textE p t = 0) : KOk p (loadK p (tabOf p t)) 10000000 := by
  obtain ⟨h1, h2⟩ := text_zero h
  exact loadK_ok hp (by rw [← wordsOf_len]; exact h1.len) h1.small h2
theorem text_bad {p : Pl} {t : List UInt8} (h : RBad p t) : textE p t = 2 := by
  unfold textE
  split
  · rename_i hx
    obtain ⟨L, hL⟩ := hx
    rw [(text_tab hL).1]; exact h L hL
  · rfl
theorem text_none {p : Pl} {t : List UInt8} (h : ∀ L, ¬ Tab (wordsOf p.code.length p.wires.length) t L) : textE p t = 2 := text_bad fun L hL => absurd hL (h L)
end Go.Proofs.YtldllmhgofacbaaGreatDoor
