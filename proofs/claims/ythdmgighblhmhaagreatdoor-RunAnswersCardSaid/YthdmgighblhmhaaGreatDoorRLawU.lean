/- Several parts: each begins with what it says. -/
import Derived.Test.YthdmgighblhmhaaGreatDoorBaseU
/- Plain: ops, code that is right, states of a room, and one step of it. No program in sight. -/
namespace Go.Proofs.YthdmgighblhmhaaGreatDoor

/-- The bound of B of an op of so many. -/
def bBound (what many : Int) : Int :=
  if what = 1 then 1000 else if what = 2 ∨ what = 3 ∨ what = 4 ∨ what = 5 then 6 else if what = 6 ∨ what = 7 then many else if what = 8 ∨ what = 9 then 12 else 1
/-- The bound of A of an op that there is. -/
def aBound (what : Int) : Int := if what = 7 ∨ what = 10 ∨ what = 11 then 1 else 6
def opOk (o : Op) (many : Int) : Bool := decide (1 ≤ o.what ∧ o.what ≤ 11 ∧ 0 ≤ o.b ∧ o.b < bBound o.what many ∧ 0 ≤ o.a ∧ o.a < aBound o.what)
def opsChk (many : Int) (l : List Op) : Nat → Nat → Nat × Int
  | 0, _ => (0, 0)
  | fuel + 1, i => match l[i]? with
    | none => (0, 0)
    | some o => if opOk o many = false then (i, 1) else opsChk many l fuel (i + 1)
/-- Which op of code is wrong, and how. -/
def codeChk (l : List Op) : Nat × Int :=
  if l.length = 0 then (0, 5) else if 20 < l.length then (0, 4) else opsChk l.length l (l.length + 1) 0

theorem opsChk_bad {many : Int} {l : List Op} {f k : Nat} {o : Op} (hg : l[k]? = some o) (hb : opOk o many = false) : opsChk many l (f + 1) k = (k, 1) := by simp [opsChk, hg, hb]
theorem opsChk_next {many : Int} {l : List Op} {f k : Nat} {o : Op} (hg : l[k]? = some o) (hb : opOk o many = true) : opsChk many l (f + 1) k = opsChk many l f (k + 1) := by simp [opsChk, hg, hb]
theorem opsChk_end {many : Int} {l : List Op} {f k : Nat} (h : l.length ≤ k) : opsChk many l f k = (0, 0) := by
  cases f with
  | zero => rfl
  | succ f => simp [opsChk, List.getElem?_eq_none h]
theorem opsChk_ok {many : Int} {l : List Op} : ∀ {f k : Nat}, (opsChk many l f k).2 = 0 → ∀ j o, k ≤ j → j < k + f → l[j]? = some o → opOk o many = true
  | 0, k, _, j, o, h1, h2, _ => by omega
  | f + 1, k, h, j, o, h1, h2, hj => by
    by_cases hk : k < l.length
    · have hg := List.getElem?_eq_getElem hk
      cases hb : opOk l[k] many with
      | false => rw [opsChk_bad hg hb] at h; simp at h
      | true =>
        rw [opsChk_next hg hb] at h
        by_cases e : j = k
        · subst e; rw [hg] at hj; cases hj; exact hb
        · exact opsChk_ok h j o (by omega) (by omega) hj
    · have := (List.getElem?_eq_some_iff.1 hj).1; omega
theorem codeChk_ok {l : List Op} (h : (codeChk l).2 = 0) : 1 ≤ l.length ∧ l.length ≤ 20 ∧ ∀ o ∈ l, opOk o l.length = true := by
  unfold codeChk at h
  split at h
  · simp at h
  · split at h
    · simp at h
    · refine ⟨by omega, by omega, fun o ho => ?_⟩
      obtain ⟨j, hj⟩ := List.mem_iff_getElem?.1 ho
      have := (List.getElem?_eq_some_iff.1 hj).1
      exact opsChk_ok h j o (by omega) (by omega) hj
theorem opsChk_good {many : Int} {l : List Op} (h : ∀ o ∈ l, opOk o many = true) : ∀ (f k : Nat), opsChk many l f k = (0, 0)
  | 0, _ => rfl
  | f + 1, k => by
    by_cases hk : k < l.length
    · rw [opsChk_next (List.getElem?_eq_getElem hk) (h _ (List.getElem_mem hk))]; exact opsChk_good h f (k + 1)
    · exact opsChk_end (by omega)
theorem codeChk_good {l : List Op} (h1 : 1 ≤ l.length) (h2 : l.length ≤ 20) (h : ∀ o ∈ l, opOk o l.length = true) : codeChk l = (0, 0) := by
  unfold codeChk; rw [if_neg (by omega), if_neg (by omega), opsChk_good h]
theorem codeChk_cases (l : List Op) : (codeChk l).2 = 0 ∨ (codeChk l).2 = 1 ∨ (codeChk l).2 = 4 ∨ (codeChk l).2 = 5 := by
  unfold codeChk
  split
  · simp
  · split
    · simp
    · have : ∀ f k, (opsChk l.length l f k).2 = 0 ∨ (opsChk l.length l f k).2 = 1 := by
        intro f
        induction f with
        | zero => intro k; exact .inl rfl
        | succ f ih =>
          intro k
          unfold opsChk
          split
          · exact .inl rfl
          · split
            · exact .inr rfl
            · exact ih _
      rcases this (l.length + 1) 0 with h | h
      · exact .inl h
      · exact .inr (.inl h)

/-- A room's state: where it goes on, its cells, whether it has failed. -/
structure St where
  pc : Int
  c0 : Int
  c1 : Int
  c2 : Int
  c3 : Int
  c4 : Int
  c5 : Int
  failed : Bool
@[ext] theorem St.ext' {s t : St} (h0 : s.pc = t.pc) (h1 : s.c0 = t.c0) (h2 : s.c1 = t.c1) (h3 : s.c2 = t.c2) (h4 : s.c3 = t.c3) (h5 : s.c4 = t.c4) (h6 : s.c5 = t.c5) (h7 : s.failed = t.failed) : s = t := by
  cases s; cases t; simp_all
def St.cells (s : St) : List Value := [.int .i64 s.pc, .int .i64 s.c0, .int .i64 s.c1, .int .i64 s.c2, .int .i64 s.c3, .int .i64 s.c4, .int .i64 s.c5, .bool s.failed]
theorem St.len (s : St) : s.cells.length = 8 := rfl
def St.zero : St := ⟨0, 0, 0, 0, 0, 0, 0, false⟩
def St.get (s : St) : Nat → Int
  | 0 => s.c0
  | 1 => s.c1
  | 2 => s.c2
  | 3 => s.c3
  | 4 => s.c4
  | _ => s.c5
def St.put (s : St) (a : Nat) (v : Int) : St := match a with
  | 0 => { s with c0 := v }
  | 1 => { s with c1 := v }
  | 2 => { s with c2 := v }
  | 3 => { s with c3 := v }
  | 4 => { s with c4 := v }
  | _ => { s with c5 := v }
def St.nums (s : St) : List Int := [s.c0, s.c1, s.c2, s.c3, s.c4, s.c5]
theorem six {a : Nat} (h : a < 6) : a = 0 ∨ a = 1 ∨ a = 2 ∨ a = 3 ∨ a = 4 ∨ a = 5 := by omega
theorem St.cells_get (s : St) {a : Nat} (h : a < 6) : s.cells[1 + a]? = some (.int .i64 (s.get a)) := by
  rcases six h with rfl | rfl | rfl | rfl | rfl | rfl <;> rfl
theorem St.cells_put (s : St) {a : Nat} (h : a < 6) (v : Int) : s.cells.set (1 + a) (.int .i64 v) = (s.put a v).cells := by
  rcases six h with rfl | rfl | rfl | rfl | rfl | rfl <;> rfl
theorem St.nums_get (s : St) {a : Nat} (h : a < 6) : s.nums[a]? = some (s.get a) := by
  rcases six h with rfl | rfl | rfl | rfl | rfl | rfl <;> rfl
theorem St.get_put (s : St) {a b : Nat} (ha : a < 6) (hb : b < 6) (v : Int) : (s.put a v).get b = if b = a then v else s.get b := by
  rcases six ha with rfl | rfl | rfl | rfl | rfl | rfl <;> rcases six hb with rfl | rfl | rfl | rfl | rfl | rfl <;> rfl
theorem St.put_pc (s : St) (a : Nat) (v : Int) : (s.put a v).pc = s.pc := by unfold St.put; split <;> rfl
theorem St.put_failed (s : St) (a : Nat) (v : Int) : (s.put a v).failed = s.failed := by unfold St.put; split <;> rfl

def cellB (n : Int) : Bool := decide (0 ≤ n ∧ n < 1000)
def stOk (s : St) (many : Int) : Bool := decide (0 ≤ s.pc ∧ s.pc < many) && s.nums.all cellB
theorem stOk_iff {s : St} {many : Int} : stOk s many = true ↔ (0 ≤ s.pc ∧ s.pc < many) ∧ ∀ a, a < 6 → 0 ≤ s.get a ∧ s.get a < 1000 := by
  constructor
  · intro h
    simp only [stOk, St.nums, List.all_cons, List.all_nil, cellB, Bool.and_eq_true, decide_eq_true_eq, Bool.and_true] at h
    refine ⟨h.1, fun a ha => ?_⟩
    rcases six ha with rfl | rfl | rfl | rfl | rfl | rfl <;> simp only [St.get] <;> omega
  · rintro ⟨h, g⟩
    have g0 := g 0 (by omega)
    have g1 := g 1 (by omega)
    have g2 := g 2 (by omega)
    have g3 := g 3 (by omega)
    have g4 := g 4 (by omega)
    have g5 := g 5 (by omega)
    simp only [St.get] at g0 g1 g2 g3 g4 g5
    simp only [stOk, St.nums, List.all_cons, List.all_nil, cellB, Bool.and_eq_true, decide_eq_true_eq, Bool.and_true]
    exact ⟨h, g0, g1, g2, g3, g4, g5⟩
theorem stOk_zero {many : Int} (h : 0 < many) : stOk St.zero many = true := stOk_iff.2 ⟨⟨Int.le_refl _, h⟩, fun a ha => by rcases six ha with rfl | rfl | rfl | rfl | rfl | rfl <;> simp [St.get, St.zero]⟩

/-- What is wrong with code and a state. -/
def roomChk (l : List Op) (s : St) : Int := if (codeChk l).2 ≠ 0 then (codeChk l).2 else if stOk s l.length = false then 1 else 0

/-- Go on behind. -/
def nextPc (s : St) (n : Int) : Int := (s.pc + 1) % n
/-- One step of what is right: the state then, and what is sent (-1: nothing). -/
def stepDo (n : Int) (o : Op) (s : St) (got : Int) (is : Bool) : St × Int :=
  if s.failed = true then (s, -1)
  else if o.what = 1 then ({ s.put o.a.toNat o.b with pc := nextPc s n }, -1)
  else if o.what = 2 then ({ s.put o.a.toNat (s.get o.b.toNat) with pc := nextPc s n }, -1)
  else if o.what = 3 then ({ s.put o.a.toNat ((s.get o.a.toNat + s.get o.b.toNat) % 1000) with pc := nextPc s n }, -1)
  else if o.what = 4 then ({ s.put o.a.toNat ((s.get o.a.toNat - s.get o.b.toNat + 1000) % 1000) with pc := nextPc s n }, -1)
  else if o.what = 5 then ({ s.put o.a.toNat (s.get o.a.toNat * s.get o.b.toNat % 1000) with pc := nextPc s n }, -1)
  else if o.what = 6 then ({ s with pc := if s.get o.a.toNat = 0 then o.b else nextPc s n }, -1)
  else if o.what = 7 then ({ s with pc := o.b }, -1)
  else if o.what = 8 then ({ s with pc := nextPc s n }, s.get o.a.toNat)
  else if o.what = 9 then (if is = true then ({ s.put o.a.toNat got with pc := nextPc s n }, -1) else (s, -1))
  else if o.what = 11 then ({ s with failed := true }, -1)
  else ({ s with pc := nextPc s n }, -1)
/-- What came of it, where a send is there. -/
def stepWhat (o : Op) (s : St) (is : Bool) : Int :=
  if s.failed = true then 5 else if o.what = 8 then 1 else if o.what = 9 then (if is = true then 2 else 3) else if o.what = 11 then 4 else 0
end Go.Proofs.YthdmgighblhmhaaGreatDoor

/- Plain: a step stays within what is right. No program in sight. -/
namespace Go.Proofs.YthdmgighblhmhaaGreatDoor

theorem opOk_iff {o : Op} {many : Int} : opOk o many = true ↔ (1 ≤ o.what ∧ o.what ≤ 11 ∧ 0 ≤ o.b ∧ o.b < bBound o.what many ∧ 0 ≤ o.a ∧ o.a < aBound o.what) := by
  unfold opOk; rw [decide_eq_true_eq]
theorem opOk_a {o : Op} {many : Int} (h : opOk o many = true) : 0 ≤ o.a ∧ o.a.toNat < 6 := by
  have := opOk_iff.1 h
  unfold aBound at this
  split at this <;> omega
theorem opOk_b6 {o : Op} {many : Int} (h : opOk o many = true) (hw : 2 ≤ o.what ∧ o.what ≤ 5) : 0 ≤ o.b ∧ o.b.toNat < 6 := by
  have := opOk_iff.1 h
  unfold bBound at this
  rw [if_neg (by omega), if_pos (by omega)] at this
  omega
theorem opOk_b1 {o : Op} {many : Int} (h : opOk o many = true) (hw : o.what = 1) : 0 ≤ o.b ∧ o.b < 1000 := by
  have := opOk_iff.1 h
  unfold bBound at this
  rw [if_pos (by omega)] at this
  omega
theorem opOk_bm {o : Op} {many : Int} (h : opOk o many = true) (hw : o.what = 6 ∨ o.what = 7) : 0 ≤ o.b ∧ o.b < many := by
  have := opOk_iff.1 h
  unfold bBound at this
  rw [if_neg (by omega), if_neg (by omega), if_pos (by omega)] at this
  omega
theorem opOk_bw {o : Op} {many : Int} (h : opOk o many = true) (hw : o.what = 8 ∨ o.what = 9) : 0 ≤ o.b ∧ o.b < 12 := by
  have := opOk_iff.1 h
  unfold bBound at this
  rw [if_neg (by omega), if_neg (by omega), if_neg (by omega), if_pos (by omega)] at this
  omega

theorem nextPc_bd {s : St} {n : Int} (h : 0 < n) : 0 ≤ nextPc s n ∧ nextPc s n < n := ⟨Int.emod_nonneg _ (by omega), Int.emod_lt_of_pos _ h⟩
theorem get_pc (s : St) (x : Int) (a : Nat) : ({ s with pc := x } : St).get a = s.get a := by unfold St.get; split <;> rfl
theorem stOk_pc {s : St} {n x : Int} (h : stOk s n = true) (hx : 0 ≤ x ∧ x < n) : stOk { s with pc := x } n = true :=
  stOk_iff.2 ⟨hx, fun a ha => by rw [get_pc]; exact (stOk_iff.1 h).2 a ha⟩
theorem stOk_put {s : St} {n : Int} {a : Nat} {v : Int} (h : stOk s n = true) (ha : a < 6) (hv : 0 ≤ v ∧ v < 1000) : stOk (s.put a v) n = true := by
  refine stOk_iff.2 ⟨by rw [St.put_pc]; exact (stOk_iff.1 h).1, fun b hb => ?_⟩
  rw [St.get_put s ha hb]
  split
  · exact hv
  · exact (stOk_iff.1 h).2 b hb

/-- How a step can end: one cell put and on, or only on, or it stays. -/
inductive StepKind (n : Int) (o : Op) (s : St) : St × Int → Prop
  | put (a : Nat) (v : Int) (ha : a < 6) (hv : 0 ≤ v ∧ v < 1000) : s.failed = false → StepKind n o s ({ s.put a v with pc := nextPc s n }, -1)
  | on (x : Int) (out : Int) (hx : 0 ≤ x ∧ x < n) (ho : -1 ≤ out ∧ out < 1000) : s.failed = false → StepKind n o s ({ s with pc := x }, out)
  | stay : StepKind n o s (s, -1)
  | fail : s.failed = false → StepKind n o s ({ s with failed := true }, -1)

theorem step_kind {n : Int} {o : Op} {s : St} {got : Int} {is : Bool} (hn : 0 < n) (ho : opOk o n = true) (hs : stOk s n = true) (hg : is = true → 0 ≤ got ∧ got < 1000) : StepKind n o s (stepDo n o s got is) := by
  have hst := stOk_iff.1 hs
  have ha := opOk_a ho
  have hga := hst.2 _ ha.2
  have hnp := nextPc_bd (s := s) hn
  unfold stepDo
  by_cases hf : s.failed = true
  · rw [if_pos hf]; exact .stay
  have hf' : s.failed = false := by simpa using hf
  rw [if_neg hf]
  by_cases h1 : o.what = 1
  · rw [if_pos h1]; exact .put _ _ ha.2 (opOk_b1 ho h1) hf'
  rw [if_neg h1]
  by_cases h2 : o.what = 2
  · rw [if_pos h2]; exact .put _ _ ha.2 (hst.2 _ (opOk_b6 ho (by omega)).2) hf'
  rw [if_neg h2]
  by_cases h3 : o.what = 3
  · rw [if_pos h3]; exact .put _ _ ha.2 (by omega) hf'
  rw [if_neg h3]
  by_cases h4 : o.what = 4
  · rw [if_pos h4]; exact .put _ _ ha.2 (by omega) hf'
  rw [if_neg h4]
  by_cases h5 : o.what = 5
  · rw [if_pos h5]; exact .put _ _ ha.2 ⟨Int.emod_nonneg _ (by omega), Int.emod_lt_of_pos _ (by omega)⟩ hf'
  rw [if_neg h5]
  by_cases h6 : o.what = 6
  · rw [if_pos h6]
    refine .on _ _ ?_ (by omega) hf'
    split
    · exact opOk_bm ho (.inl h6)
    · exact hnp
  rw [if_neg h6]
  by_cases h7 : o.what = 7
  · rw [if_pos h7]; exact .on _ _ (opOk_bm ho (.inr h7)) (by omega) hf'
  rw [if_neg h7]
  by_cases h8 : o.what = 8
  · rw [if_pos h8]; exact .on _ _ hnp (by omega) hf'
  rw [if_neg h8]
  by_cases h9 : o.what = 9
  · rw [if_pos h9]
    cases is with
    | true => rw [if_pos rfl]; exact .put _ _ ha.2 (hg rfl) hf'
    | false => rw [if_neg (by decide)]; exact .stay
  rw [if_neg h9]
  by_cases h11 : o.what = 11
  · rw [if_pos h11]; exact .fail hf'
  rw [if_neg h11]
  exact .on _ _ hnp (by omega) hf'

theorem StepKind.ok {n : Int} {o : Op} {s : St} {r : St × Int} (h : StepKind n o s r) (hn : 0 < n) (hs : stOk s n = true) : stOk r.1 n = true ∧ -1 ≤ r.2 ∧ r.2 < 1000 := by
  cases h with
  | put a v ha hv _ => exact ⟨stOk_pc (stOk_put hs ha hv) (nextPc_bd hn), by simp, by simp⟩
  | on x out hx ho _ => exact ⟨stOk_pc hs hx, ho.1, ho.2⟩
  | stay => exact ⟨hs, by simp, by simp⟩
  | fail _ =>
    refine ⟨stOk_iff.2 ⟨(stOk_iff.1 hs).1, fun a ha => ?_⟩, by simp, by simp⟩
    have := (stOk_iff.1 hs).2 a ha
    rcases six ha with rfl | rfl | rfl | rfl | rfl | rfl <;> exact this
theorem step_ok {n : Int} {o : Op} {s : St} {got : Int} {is : Bool} (hn : 0 < n) (ho : opOk o n = true) (hs : stOk s n = true) (hg : is = true → 0 ≤ got ∧ got < 1000) :
    stOk (stepDo n o s got is).1 n = true ∧ -1 ≤ (stepDo n o s got is).2 ∧ (stepDo n o s got is).2 < 1000 := (step_kind hn ho hs hg).ok hn hs

/-- How many of the first k cells are unlike. -/
def unlike (s t : St) : Nat → Nat
  | 0 => 0
  | k + 1 => unlike s t k + if t.get k = s.get k then 0 else 1
theorem unlike_le (s t : St) : ∀ k, unlike s t k ≤ k
  | 0 => Nat.le_refl _
  | k + 1 => by have := unlike_le s t k; unfold unlike; split <;> omega
theorem unlike_none {s t : St} : ∀ k, (∀ a, a < k → t.get a = s.get a) → unlike s t k = 0
  | 0, _ => rfl
  | k + 1, h => by unfold unlike; rw [unlike_none k (fun a ha => h a (by omega)), if_pos (h k (by omega))]
theorem unlike_one {s t : St} {b : Nat} : ∀ k, (∀ a, a < k → a ≠ b → t.get a = s.get a) → unlike s t k ≤ 1
  | 0, _ => by simp [unlike]
  | k + 1, h => by
    unfold unlike
    by_cases e : k = b
    · subst e
      rw [unlike_none k (fun a ha => h a (by omega) (by omega))]
      split <;> omega
    · rw [if_pos (h k (by omega) e)]
      exact unlike_one k (fun a ha => h a (by omega))
theorem StepKind.stays {n : Int} {o : Op} {s : St} {r : St × Int} (h : StepKind n o s r) : unlike s r.1 6 ≤ 1 ∧ (0 ≤ r.2 → unlike s r.1 6 = 0) ∧ (s.failed = true → r.1 = s) := by
  cases h with
  | put a v ha hv hf =>
    refine ⟨unlike_one (b := a) 6 fun b hb hne => ?_, fun h => by simp at h, fun h => by rw [hf] at h; cases h⟩
    rw [get_pc, St.get_put s ha hb, if_neg hne]
  | on x out hx ho hf =>
    have h0 := unlike_none (s := s) (t := { s with pc := x }) 6 (fun a _ => get_pc s x a)
    exact ⟨by simp only []; omega, fun _ => h0, fun h => by rw [hf] at h; cases h⟩
  | stay =>
    have h0 := unlike_none (s := s) (t := s) 6 (fun a _ => rfl)
    exact ⟨by simp only []; omega, fun _ => h0, fun _ => rfl⟩
  | fail hf =>
    have h0 := unlike_none (s := s) (t := { s with failed := true }) 6 (fun a ha => by rcases six ha with rfl | rfl | rfl | rfl | rfl | rfl <;> rfl)
    exact ⟨by simp only []; omega, fun _ => h0, fun h => by rw [hf] at h; cases h⟩
/-- What is there to be taken does not matter but to who takes. -/
theorem step_got {n : Int} {o : Op} {s : St} {got got' : Int} {is is' : Bool} (h : o.what ≠ 9) : stepDo n o s got is = stepDo n o s got' is' := by
  unfold stepDo
  rw [if_neg (c := o.what = 9) h, if_neg (c := o.what = 9) h]
end Go.Proofs.YthdmgighblhmhaaGreatDoor
