/- Plain: what framelaw3.RunTicks says of answers. No program is walked. Conditions: none. -/
import Derived.Test.YthdmgighblhmhaaGreatDoorRunTU
namespace Go.Proofs.YthdmgighblhmhaaGreatDoor

def askL : List (List UInt8) := [showW ++ [32, 48], showW ++ [32, 49], wireW ++ [32, 48], wireW ++ [32, 49]]
def askT : List UInt8 := [115, 104, 111, 119, 32, 48, 10, 115, 104, 111, 119, 32, 49, 10, 119, 105, 114, 101, 32, 48, 10, 119, 105, 114, 101, 32, 49, 10]
theorem ask_is : askT = lnT askL := by decide
theorem ask_no10 : ∀ l ∈ askL, (10 : UInt8) ∉ l := by decide
def wireRow (k : Kst) (a : Nat) : List UInt8 := match k.lines[a]? with | some x => rowA (x.lost :: x.items) | none => rangeA
/-- What a kernel is asked for. -/
def ansK (k : Kst) : List (List UInt8) := [rowA (roomNums (k.rooms.getD 0 St.zero)), rowA (roomNums (k.rooms.getD 1 St.zero)), wireRow k 0, wireRow k 1]
theorem answers_ask (k : Kst) : answersA k askL = ansK k := by
  unfold askL answersA
  rw [lineA_show k 48 0 itoa_zero (by decide) (by decide)]
  unfold answersA
  simp only []
  rw [lineA_show k 49 1 itoa_one (by decide) (by decide)]
  unfold answersA
  simp only []
  rw [lineA_wire k 48 0 itoa_zero (by decide) (by decide)]
  unfold answersA
  simp only []
  rw [lineA_wire k 49 1 itoa_one (by decide) (by decide)]
  rfl
def goL (n : Nat) : List UInt8 := goW ++ 32 :: Lib.itoa (n : Int)
theorem goL_no10 (n : Nat) : (10 : UInt8) ∉ goL n := by
  unfold goL
  intro h
  rcases List.mem_append.1 h with h | h
  · revert h; decide
  · rcases List.mem_cons.1 h with h | h
    · revert h; decide
    · exact itoa_no _ (.inr rfl) h
theorem answers_go (k : Kst) (n : Nat) (h : n ≤ 100) (ls : List (List UInt8)) : answersA k (goL n :: ls) = okA :: answersA (goK runPl k n) ls := by
  show (lineA k (goL n)).1 :: answersA (lineA k (goL n)).2 ls = _
  unfold goL
  rw [lineA_go k n h]
theorem goK_plus (p : Pl) (k : Kst) (a : Nat) : ∀ b : Nat, goK p (goK p k a) b = goK p k (a + b)
  | 0 => rfl
  | b + 1 => by
    show (tick p (goK p (goK p k a) b)).2 = (tick p (goK p k (a + b))).2
    rw [goK_plus p k a b]
theorem answers_ticks : ∀ (n : Nat) (k : Kst) (ls : List (List UInt8)), ∃ es : List (List UInt8), es.length = n ∧ answersA k (List.replicate n tickW ++ ls) = es ++ answersA (goK runPl k n) ls
  | 0, _, _ => ⟨[], rfl, rfl⟩
  | n + 1, k, ls => by
    obtain ⟨es, h1, h2⟩ := answers_ticks n (tick runPl k).2 ls
    refine ⟨evLine (tick runPl k).1 :: es, by rw [List.length_cons, h1], ?_⟩
    show (lineA k tickW).1 :: answersA (lineA k tickW).2 (List.replicate n tickW ++ ls) = _
    rw [lineA_tick]
    simp only []
    rw [h2]
    have h3 := goK_plus runPl k 1 n
    rw [show 1 + n = n + 1 by omega] at h3
    rw [← h3]
    rfl
/-- Gone at once. -/
def textA (n : Nat) : List UInt8 := lnT (goL n :: askL)
def textB (n m : Nat) : List UInt8 := lnT (goL n :: goL m :: askL)
def textC (n : Nat) : List UInt8 := lnT (List.replicate n tickW ++ askL)
theorem cut_textA (n : Nat) (h : n ≤ 100) : cutA 10 [] (runA (textA n)) = okA :: (ansK (goK runPl (kNew runPl) n) ++ [[]]) := by
  unfold textA
  rw [cut_run (fun l hl => by
    rcases List.mem_cons.1 hl with rfl | hl
    · exact goL_no10 n
    · exact ask_no10 l hl), answers_go _ n h, answers_ask]
  rfl
theorem cut_textB (n m : Nat) (hn : n ≤ 100) (hm : m ≤ 100) : cutA 10 [] (runA (textB n m)) = okA :: okA :: (ansK (goK runPl (kNew runPl) (n + m)) ++ [[]]) := by
  unfold textB
  rw [cut_run (fun l hl => by
    rcases List.mem_cons.1 hl with rfl | hl
    · exact goL_no10 n
    · rcases List.mem_cons.1 hl with rfl | hl
      · exact goL_no10 m
      · exact ask_no10 l hl), answers_go _ n hn, answers_go _ m hm, answers_ask, goK_plus]
  rfl
theorem cut_textC (n : Nat) : ∃ es : List (List UInt8), es.length = n ∧ cutA 10 [] (runA (textC n)) = es ++ (ansK (goK runPl (kNew runPl) n) ++ [[]]) := by
  obtain ⟨es, h1, h2⟩ := answers_ticks n (kNew runPl) askL
  refine ⟨es, h1, ?_⟩
  unfold textC
  rw [cut_run (fun l hl => by
    rcases List.mem_append.1 hl with hl | hl
    · rw [List.eq_of_mem_replicate hl]; decide
    · exact ask_no10 l hl), h2, answers_ask, List.append_assoc]
theorem go_text (D : List UInt8) (n : Nat) (h : D = Lib.itoa (n : Int)) (r : List (List UInt8)) : [103, 111, 32] ++ D ++ [10] ++ lnT r = lnT (goL n :: r) := by
  rw [lnT_cons, h]
  unfold goL goW
  simp
theorem tick_text (n : Nat) : lnT (List.replicate (n + 1) tickW) = lnT (List.replicate n tickW) ++ [116, 105, 99, 107, 10] := by
  rw [List.replicate_succ', lnT_append]; rfl
theorem itoa_101 : Lib.itoa ((101 : Nat) : Int) = [49, 48, 49] := by
  have h := itoa_nat 101
  rw [Lib.decDigits, dif_neg (by decide), Lib.decDigits_two (by decide) (by decide)] at h
  exact h
theorem range_runs : runA [103, 111, 32, 49, 48, 49, 10] = [69, 114, 114, 82, 97, 110, 103, 101, 10] := by
  have h : ([103, 111, 32, 49, 48, 49, 10] : List UInt8) = lnT [goL 101] := by
    unfold goL; rw [itoa_101]; rfl
  rw [h, runA_lnT (fun l hl => by simp only [List.mem_singleton] at hl; subst hl; exact goL_no10 101), sessA_answers]
  have h2 : lineA (kNew runPl) (goL 101) = (rangeA, kNew runPl) := by
    have h1 : cutA 32 [] (goL 101) = [goW, Lib.itoa ((101 : Nat) : Int)] := by
      unfold goL
      rw [itoa_101]; decide
    rw [lineA_word h1 (nums_one 101 (by decide)), wordA_go, if_pos (by decide)]
  show lnT [(lineA (kNew runPl) (goL 101)).1] = _
  rw [h2]; rfl
end Go.Proofs.YthdmgighblhmhaaGreatDoor
