/- Several parts: each begins with what it says. -/
import Derived.Test.YthdmgighblhmhaaGreatDoorRunAU
import Derived.Test.YthdmgighblhmhaaGreatDoorDeskU
/- Plain: sessions of whole lines, their answers line by line, and the answers to a beginning. No program is walked. Conditions: none. -/
namespace Go.Proofs.YthdmgighblhmhaaGreatDoor

/-- Lines, each with its end. -/
def lnT (ls : List (List UInt8)) : List UInt8 := ls.flatMap (· ++ [10])
theorem lnT_cons (l : List UInt8) (ls : List (List UInt8)) : lnT (l :: ls) = l ++ 10 :: lnT ls := by unfold lnT; simp
theorem lnT_append (a b : List (List UInt8)) : lnT (a ++ b) = lnT a ++ lnT b := by unfold lnT; simp
theorem linesOf_lnT : ∀ {ls : List (List UInt8)}, (∀ l ∈ ls, (10 : UInt8) ∉ l) → linesOf (lnT ls) = ls.map (· ++ [10])
  | [], _ => rfl
  | l :: ls, h => by
    rw [lnT_cons, linesOf_line l _ (h l (by simp)), linesOf_lnT (fun x hx => h x (by simp [hx]))]
    rfl
theorem bare_line (l : List UInt8) : bare (l ++ [10]) = l := by
  unfold bare
  rw [if_pos (by simp), List.dropLast_concat]
theorem runA_lnT {ls : List (List UInt8)} (h : ∀ l ∈ ls, (10 : UInt8) ∉ l) : runA (lnT ls) = sessA (kNew runPl) ls := by
  unfold runA
  rw [linesOf_lnT h, List.map_map]
  congr 1
  have : (bare ∘ fun x => x ++ [10]) = id := funext bare_line
  rw [this, List.map_id]
def answersA (k : Kst) : List (List UInt8) → List (List UInt8)
  | [] => []
  | s :: l => (lineA k s).1 :: answersA (lineA k s).2 l
theorem sessA_answers : ∀ (ls : List (List UInt8)) (k : Kst), sessA k ls = lnT (answersA k ls)
  | [], _ => rfl
  | s :: l, k => by
    show (_ ++ [10]) ++ sessA _ l = _
    rw [sessA_answers l]
    show _ = lnT ((lineA k s).1 :: answersA _ l)
    rw [lnT_cons]
    simp
theorem cut_lnT : ∀ {ls : List (List UInt8)}, (∀ l ∈ ls, (10 : UInt8) ∉ l) → cutA 10 [] (lnT ls) = ls ++ [[]]
  | [], _ => rfl
  | l :: ls, h => by
    rw [lnT_cons, cutA_pass 10 l [] _ (h l (by simp)), List.nil_append, cutA, if_pos rfl, cut_lnT (fun x hx => h x (by simp [hx]))]
    rfl
theorem join_no {c s : UInt8} (hs : c ≠ s) : ∀ {xs : List (List UInt8)}, (∀ x ∈ xs, c ∉ x) → c ∉ Lib.join xs [s]
  | [], _ => by rw [Lib.join_nil]; simp
  | x :: r, h => by
    rw [Lib.join_cons]
    unfold Lib.joinTail
    intro hc
    rcases List.mem_append.1 hc with hc | hc
    · exact h x (by simp) hc
    · obtain ⟨y, hy, hc⟩ := List.mem_flatten.1 hc
      obtain ⟨z, hz, rfl⟩ := List.mem_map.1 hy
      rcases List.mem_append.1 hc with hc | hc
      · simp at hc; exact hs hc
      · exact h z (by simp [hz]) hc
theorem rowA_no10 (l : List Int) : (10 : UInt8) ∉ rowA l := by
  unfold rowA
  refine join_no (by decide) fun x hx => ?_
  obtain ⟨n, _, rfl⟩ := List.mem_map.1 hx
  exact itoa_no n (.inr rfl)
theorem wordA_no10 (k : Kst) (v : List UInt8) (ns : List Nat) : (10 : UInt8) ∉ (wordA k v ns).1 := by
  unfold wordA
  by_cases c1 : v = goW ∧ ns.length = 1
  · rw [if_pos c1]
    split
    · exact (by decide : (10 : UInt8) ∉ rangeA)
    · exact (by decide : (10 : UInt8) ∉ okA)
  rw [if_neg c1]
  by_cases c2 : v = tickW ∧ ns.length = 0
  · rw [if_pos c2]; exact ev_no10 _
  rw [if_neg c2]
  by_cases c3 : v = showW ∧ ns.length = 1
  · rw [if_pos c3]
    simp only []
    split
    · exact rowA_no10 _
    · decide
  rw [if_neg c3]
  by_cases c4 : v = wireW ∧ ns.length = 1
  · rw [if_pos c4]
    simp only []
    split
    · exact rowA_no10 _
    · decide
  rw [if_neg c4]
  by_cases c5 : v = pokeW ∧ ns.length = 3
  · rw [if_pos c5]
    split
    · exact (by decide : (10 : UInt8) ∉ okA)
    · exact (by decide : (10 : UInt8) ∉ rangeA)
  · rw [if_neg c5]; exact (by decide : (10 : UInt8) ∉ badA)
theorem lineA_no10 (k : Kst) (s : List UInt8) : (10 : UInt8) ∉ (lineA k s).1 := by
  unfold lineA
  split
  · exact (by decide : (10 : UInt8) ∉ badA)
  · split
    · exact (by decide : (10 : UInt8) ∉ badA)
    · exact wordA_no10 _ _ _
theorem answers_no10 : ∀ (ls : List (List UInt8)) (k : Kst), ∀ x ∈ answersA k ls, (10 : UInt8) ∉ x
  | [], _, x, hx => by cases hx
  | s :: l, k, x, hx => by
    rcases List.mem_cons.1 hx with rfl | hx
    · exact lineA_no10 _ _
    · exact answers_no10 l _ x hx
theorem answers_len : ∀ (ls : List (List UInt8)) (k : Kst), (answersA k ls).length = ls.length
  | [], _ => rfl
  | s :: l, k => by show (answersA _ l).length + 1 = _; rw [answers_len l]; rfl
theorem cut_run {ls : List (List UInt8)} (h : ∀ l ∈ ls, (10 : UInt8) ∉ l) : cutA 10 [] (runA (lnT ls)) = answersA (kNew runPl) ls ++ [[]] := by
  rw [runA_lnT h, sessA_answers, cut_lnT (answers_no10 ls _)]

/-- Where a text is cut behind a line's end its lines part. -/
theorem linesA_part : ∀ (a acc b : List UInt8), linesA acc (a ++ 10 :: b) = linesA acc (a ++ [10]) ++ linesA [] b
  | [], acc, b => by
    show linesA acc (10 :: b) = linesA acc [10] ++ _
    rw [linesA, if_pos rfl, linesA, if_pos rfl]
    rfl
  | x :: a, acc, b => by
    show linesA acc (x :: (a ++ 10 :: b)) = linesA acc (x :: (a ++ [10])) ++ _
    by_cases hx : x = 10
    · rw [linesA, if_pos hx, linesA, if_pos hx, linesA_part a [] b]; rfl
    · rw [linesA, if_neg hx, linesA, if_neg hx, linesA_part a _ b]
theorem linesOf_part {a b : List UInt8} (h : a = [] ∨ a.getLast? = some 10) : linesOf (a ++ b) = linesOf a ++ linesOf b := by
  rcases h with rfl | h
  · rfl
  · obtain ⟨a0, rfl⟩ : ∃ a0, a = a0 ++ [10] := by
      obtain ⟨h1, h2⟩ := List.getLast?_eq_some_iff.1 h
      exact ⟨h1, h2⟩
    unfold linesOf
    rw [List.append_assoc]
    exact linesA_part a0 [] b
/-- The answers to a beginning are a beginning of the answers. -/
theorem runA_part {a b : List UInt8} (h : a = [] ∨ a.getLast? = some 10) : ∃ r, runA (a ++ b) = runA a ++ r := by
  unfold runA
  rw [linesOf_part h, List.map_append, sessA_append]
  exact ⟨_, rfl⟩
theorem itoa_one : Lib.itoa 1 = [49] := by
  have := itoa_nat 1
  rw [Lib.decDigits_one (by decide)] at this
  exact this
theorem itoa_three : Lib.itoa 3 = [51] := by
  have := itoa_nat 3
  rw [Lib.decDigits_one (by decide)] at this
  exact this
theorem nums_one (n : Nat) (h : n < 10000) : numsOf 4 [Lib.itoa (n : Int)] = some [n] := by
  refine (numsOf_some (by decide)).2 ⟨rfl, fun s hs => ?_⟩
  simp only [List.mem_singleton] at hs
  subst hs
  have := itoa_le (n := (n : Int)) (k := 3) (by omega) (by omega)
  omega
theorem lineA_go (k : Kst) (n : Nat) (h : n ≤ 100) : lineA k (goW ++ 32 :: Lib.itoa n) = (okA, goK runPl k n) := by
  have h1 : cutA 32 [] (goW ++ 32 :: Lib.itoa (n : Int)) = [goW, Lib.itoa n] := by
    rw [cutA_pass 32 goW [] _ (by decide), List.nil_append, cutA, if_pos rfl]
    have := cutA_pass 32 (Lib.itoa n) [] [] (itoa_no _ (.inl rfl))
    rw [List.append_nil, List.nil_append] at this
    rw [this]; rfl
  rw [lineA_word h1 (nums_one n (by omega)), wordA_go, if_neg (by omega)]
theorem lineA_tick (k : Kst) : lineA k tickW = (evLine (tick runPl k).1, (tick runPl k).2) := by
  rw [lineA_word (v0 := tickW) (vs := []) (ns := []) (by decide) rfl, wordA_tick]
theorem lineA_show (k : Kst) (d : UInt8) (a : Nat) (hd : Lib.itoa (a : Int) = [d]) (h32 : d ≠ 32) (ha : a < 2) : lineA k (showW ++ [32, d]) = (rowA (roomNums (k.rooms.getD a St.zero)), k) := by
  have h1 : cutA 32 [] (showW ++ [32, d]) = [showW, [d]] := by
    rw [cutA_pass 32 showW [] _ (by decide), List.nil_append, cutA, if_pos rfl, cutA, if_neg h32]; rfl
  rw [lineA_word h1 (by rw [← hd]; exact nums_one a (by omega)), wordA_show, if_pos ha]
theorem lineA_wire (k : Kst) (d : UInt8) (a : Nat) (hd : Lib.itoa (a : Int) = [d]) (h32 : d ≠ 32) (ha : a < 2) : lineA k (wireW ++ [32, d]) = ((match k.lines[a]? with | some x => rowA (x.lost :: x.items) | none => rangeA), k) := by
  have h1 : cutA 32 [] (wireW ++ [32, d]) = [wireW, [d]] := by
    rw [cutA_pass 32 wireW [] _ (by decide), List.nil_append, cutA, if_pos rfl, cutA, if_neg h32]; rfl
  rw [lineA_word h1 (by rw [← hd]; exact nums_one a (by omega)), wordA_wire]
  rfl
end Go.Proofs.YthdmgighblhmhaaGreatDoor

/- Plain: what framelaw3.RunBegins says of answers. No program is walked. Conditions: none. -/
namespace Go.Proofs.YthdmgighblhmhaaGreatDoor

def factT : List UInt8 := [116, 105, 99, 107, 10, 102, 108, 121, 10, 103, 111, 32, 51, 10, 115, 104, 111, 119, 32, 49, 10]
def factA : List UInt8 := [48, 32, 48, 32, 48, 32, 48, 10, 98, 97, 100, 10, 111, 107, 10, 48, 32, 48, 32, 48, 32, 48, 32, 48, 32, 48, 32, 48, 32, 48, 10]
def flyW : List UInt8 := [102, 108, 121]
theorem lineA_fly (k : Kst) : lineA k flyW = (badA, k) := by
  rw [lineA_word (v0 := flyW) (vs := []) (ns := []) (by decide) rfl]
  exact wordA_bad k (by decide)
def kFly : Kst := (tick runPl (kNew runPl)).2
theorem kfly_ev : (tick runPl (kNew runPl)).1 = ⟨0, 0, 0, 0⟩ := by kernel_rfl
theorem kfly_room : (goK runPl kFly 3).rooms.getD 1 St.zero = St.zero := by kernel_rfl
theorem ev_zero : evLine ⟨0, 0, 0, 0⟩ = [48, 32, 48, 32, 48, 32, 48] := by
  unfold evLine roomT
  simp only []
  rw [if_pos (by decide), itoa_zero]; rfl
theorem row_zero : rowA (roomNums St.zero) = [48, 32, 48, 32, 48, 32, 48, 32, 48, 32, 48, 32, 48, 32, 48] := by
  unfold rowA roomNums St.zero
  simp only [List.map_cons, List.map_nil, Bool.false_eq_true, if_false, itoa_zero]
  rfl
theorem fact_runs : runA factT = factA := by
  have h : factT = lnT [tickW, flyW, goW ++ 32 :: Lib.itoa ((3 : Nat) : Int), showW ++ [32, 49]] := by
    rw [show ((3 : Nat) : Int) = 3 from rfl, itoa_three]; rfl
  have h10 : ∀ l ∈ [tickW, flyW, goW ++ 32 :: Lib.itoa ((3 : Nat) : Int), showW ++ [32, 49]], (10 : UInt8) ∉ l := by
    rw [show ((3 : Nat) : Int) = 3 from rfl, itoa_three]; decide
  rw [h, runA_lnT h10, sessA_answers]
  unfold answersA
  rw [lineA_tick]
  unfold answersA
  simp only []
  rw [lineA_fly]
  unfold answersA
  simp only []
  rw [lineA_go _ 3 (by decide)]
  unfold answersA
  simp only []
  rw [lineA_show _ 49 1 itoa_one (by decide) (by decide)]
  unfold answersA
  simp only []
  rw [kfly_ev, ev_zero]
  have hk := kfly_room
  unfold kFly at hk
  rw [hk, row_zero]
  rfl
/-- A beginning that is whole lines, or all. -/
def Begun (L : List UInt8) (k : Nat) : Prop := k = 0 ∨ k = L.length ∨ (L.take k).getLast? = some 10
theorem begun_part {L : List UInt8} {k : Nat} (h : Begun L k) : ∃ r, runA L = runA (L.take k) ++ r := by
  rcases h with rfl | rfl | h
  · have := runA_part (a := []) (b := L) (.inl rfl)
    rw [List.take_zero]; exact this
  · rw [List.take_length]; exact ⟨[], by simp⟩
  · have := runA_part (a := L.take k) (b := L.drop k) (.inr h)
    rw [List.take_append_drop] at this
    exact this
theorem take_last {L : List UInt8} {k : Nat} (h : k < L.length) : (L.take (k + 1)).getLast? = some L[k] := by
  rw [List.take_succ_eq_append_getElem h, List.getLast?_append]; simp
end Go.Proofs.YthdmgighblhmhaaGreatDoor
