/- Plain: ops, code that is right, states of a room, and one step of it. No program in sight. -/
import Derived.Test.YtnighanlonkjbaaDoorPure
namespace Go.Proofs.YtnighanlonkjbaaDoor

/-- The bound of B of an op of so many. -/
def bBound (what many : Int) : Int :=
  if what = 1 then 1000 else if what = 2 ∨ what = 3 ∨ what = 4 ∨ what = 5 then 6 else if what = 6 ∨ what = 7 then many else if what = 8 ∨ what = 9 then 12 else 1
/-- The bound of A of an op that there is. -/
def aBound (what : Int) : Int := if what = 7 ∨ what = 10 ∨ what = 11 then 1 else 6
def opOk (o : Op) (many : Int) : Bool := decide (1 ≤ o.what ∧ o.what ≤ 11 ∧ 0 ≤ o.b ∧ o.b < bBound o.what many ∧ 0 ≤ o.a ∧ o.a < aBound o.what)
def opsChk (many : Int) (l : List Op) : Nat → Nat → Nat × Int
  | 0, _ => (0, 0)
  | fuel + 1, i => match l[i]? with
    | none => (0, 0)
    | some o => if opOk o many = false then (i, 1) else opsChk many l fuel (i + 1)
/-- Which op of code is wrong, and how. -/
def codeChk (l : List Op) : Nat × Int :=
  if l.length = 0 then (0, 5) else if 20 < l.length then (0, 4) else opsChk l.length l (l.length + 1) 0

theorem opsChk_bad {many : Int} {l : List Op} {f k : Nat} {o : Op} (hg : l[k]? = some o) (hb : opOk o many = false) : opsChk many l (f + 1) k = (k, 1) := by simp [opsChk, hg, hb]
theorem opsChk_next {many : Int} {l : List Op} {f k : Nat} {o : Op} (hg : l[k]? = some o) (hb : opOk o many = true) : opsChk many l (f + 1) k = opsChk many l f (k + 1) := by simp [opsChk, hg, hb]
theorem opsChk_end {many : Int} {l : List Op} {f k : Nat} (h : l.length ≤ k) : opsChk many l f k = (0, 0) := by
  cases f with
  | zero => rfl
  | succ f => simp [opsChk, List.getElem?_eq_none h]
theorem opsChk_ok {many : Int} {l : List Op} : ∀ {f k : Nat}, (opsChk many l f k).2 = 0 → ∀ j o, k ≤ j → j < k + f → l[j]? = some o → opOk o many = true
  | 0, k, _, j, o, h1, h2, _ => by omega
  | f + 1, k, h, j, o, h1, h2, hj => by
    by_cases hk : k < l.length
    · have hg := List.getElem?_eq_getElem hk
      cases hb : opOk l[k] many with
      | false => rw [opsChk_bad hg hb] at h; simp at h
      | true =>
        rw [opsChk_next hg hb] at h
        by_cases e : j = k
        · subst e; rw [hg] at hj; cases hj; exact hb
        · exact opsChk_ok h j o (by omega) (by omega) hj
    · have := (List.getElem?_eq_some_iff.1 hj).1; omega
theorem codeChk_ok {l : List Op} (h : (codeChk l).2 = 0) : 1 ≤ l.length ∧ l.length ≤ 20 ∧ ∀ o ∈ l, opOk o l.length = true := by
  unfold codeChk at h
  split at h
  · simp at h
  · split at h
    · simp at h
    · refine ⟨by omega, by omega, fun o ho => ?_⟩
      obtain ⟨j, hj⟩ := List.mem_iff_getElem?.1 ho
      have := (List.getElem?_eq_some_iff.1 hj).1
      exact opsChk_ok h j o (by omega) (by omega) hj
theorem opsChk_good {many : Int} {l : List Op} (h : ∀ o ∈ l, opOk o many = true) : ∀ (f k : Nat), opsChk many l f k = (0, 0)
  | 0, _ => rfl
  | f + 1, k => by
    by_cases hk : k < l.length
    · rw [opsChk_next (List.getElem?_eq_getElem hk) (h _ (List.getElem_mem hk))]; exact opsChk_good h f (k + 1)
    · exact opsChk_end (by omega)
theorem codeChk_good {l : List Op} (h1 : 1 ≤ l.length) (h2 : l.length ≤ 20) (h : ∀ o ∈ l, opOk o l.length = true) : codeChk l = (0, 0) := by
  unfold codeChk; rw [if_neg (by omega), if_neg (by omega), opsChk_good h]
theorem codeChk_cases (l : List Op) : (codeChk l).2 = 0 ∨ (codeChk l).2 = 1 ∨ (codeChk l).2 = 4 ∨ (codeChk l).2 = 5 := by
  unfold codeChk
  split
  · simp
  · split
    · simp
    · have : ∀ f k, (opsChk l.length l f k).2 = 0 ∨ (opsChk l.length l f k).2 = 1 := by
        intro f
        induction f with
        | zero => intro k; exact .inl rfl
        | succ f ih =>
          intro k
          unfold opsChk
          split
          · exact .inl rfl
          · split
            · exact .inr rfl
            · exact ih _
      rcases this (l.length + 1) 0 with h | h
      · exact .inl h
      · exact .inr (.inl h)

/-- A room's state: where it goes on, its cells, whether it has failed. -/
structure St where
  pc : Int
  c0 : Int
  c1 : Int
  c2 : Int
  c3 : Int
  c4 : Int
  c5 : Int
  failed : Bool
@[ext] theorem St.ext' {s t : St} (h0 : s.pc = t.pc) (h1 : s.c0 = t.c0) (h2 : s.c1 = t.c1) (h3 : s.c2 = t.c2) (h4 : s.c3 = t.c3) (h5 : s.c4 = t.c4) (h6 : s.c5 = t.c5) (h7 : s.failed = t.failed) : s = t := by
  cases s; cases t; simp_all
def St.cells (s : St) : List Value := [.int .i64 s.pc, .int .i64 s.c0, .int .i64 s.c1, .int .i64 s.c2, .int .i64 s.c3, .int .i64 s.c4, .int .i64 s.c5, .bool s.failed]
theorem St.len (s : St) : s.cells.length = 8 := rfl
def St.zero : St := ⟨0, 0, 0, 0, 0, 0, 0, false⟩
def St.get (s : St) : Nat → Int
  | 0 => s.c0
  | 1 => s.c1
  | 2 => s.c2
  | 3 => s.c3
  | 4 => s.c4
  | _ => s.c5
def St.put (s : St) (a : Nat) (v : Int) : St := match a with
  | 0 => { s with c0 := v }
  | 1 => { s with c1 := v }
  | 2 => { s with c2 := v }
  | 3 => { s with c3 := v }
  | 4 => { s with c4 := v }
  | _ => { s with c5 := v }
def St.nums (s : St) : List Int := [s.c0, s.c1, s.c2, s.c3, s.c4, s.c5]
theorem six {a : Nat} (h : a < 6) : a = 0 ∨ a = 1 ∨ a = 2 ∨ a = 3 ∨ a = 4 ∨ a = 5 := by omega
theorem St.cells_get (s : St) {a : Nat} (h : a < 6) : s.cells[1 + a]? = some (.int .i64 (s.get a)) := by
  rcases six h with rfl | rfl | rfl | rfl | rfl | rfl <;> rfl
theorem St.cells_put (s : St) {a : Nat} (h : a < 6) (v : Int) : s.cells.set (1 + a) (.int .i64 v) = (s.put a v).cells := by
  rcases six h with rfl | rfl | rfl | rfl | rfl | rfl <;> rfl
theorem St.nums_get (s : St) {a : Nat} (h : a < 6) : s.nums[a]? = some (s.get a) := by
  rcases six h with rfl | rfl | rfl | rfl | rfl | rfl <;> rfl
theorem St.get_put (s : St) {a b : Nat} (ha : a < 6) (hb : b < 6) (v : Int) : (s.put a v).get b = if b = a then v else s.get b := by
  rcases six ha with rfl | rfl | rfl | rfl | rfl | rfl <;> rcases six hb with rfl | rfl | rfl | rfl | rfl | rfl <;> rfl
theorem St.put_pc (s : St) (a : Nat) (v : Int) : (s.put a v).pc = s.pc := by unfold St.put; split <;> rfl
theorem St.put_failed (s : St) (a : Nat) (v : Int) : (s.put a v).failed = s.failed := by unfold St.put; split <;> rfl

def cellB (n : Int) : Bool := decide (0 ≤ n ∧ n < 1000)
def stOk (s : St) (many : Int) : Bool := decide (0 ≤ s.pc ∧ s.pc < many) && s.nums.all cellB
theorem stOk_iff {s : St} {many : Int} : stOk s many = true ↔ (0 ≤ s.pc ∧ s.pc < many) ∧ ∀ a, a < 6 → 0 ≤ s.get a ∧ s.get a < 1000 := by
  constructor
  · intro h
    simp only [stOk, St.nums, List.all_cons, List.all_nil, cellB, Bool.and_eq_true, decide_eq_true_eq, Bool.and_true] at h
    refine ⟨h.1, fun a ha => ?_⟩
    rcases six ha with rfl | rfl | rfl | rfl | rfl | rfl <;> simp only [St.get] <;> omega
  · rintro ⟨h, g⟩
    have g0 := g 0 (by omega)
    have g1 := g 1 (by omega)
    have g2 := g 2 (by omega)
    have g3 := g 3 (by omega)
    have g4 := g 4 (by omega)
    have g5 := g 5 (by omega)
    simp only [St.get] at g0 g1 g2 g3 g4 g5
    simp only [stOk, St.nums, List.all_cons, List.all_nil, cellB, Bool.and_eq_true, decide_eq_true_eq, Bool.and_true]
    exact ⟨h, g0, g1, g2, g3, g4, g5⟩
theorem stOk_zero {many : Int} (h : 0 < many) : stOk St.zero many = true := stOk_iff.2 ⟨⟨Int.le_refl _, h⟩, fun a ha => by rcases six ha with rfl | rfl | rfl | rfl | rfl | rfl <;> simp [St.get, St.zero]⟩

/-- What is wrong with code and a state. -/
def roomChk (l : List Op) (s : St) : Int := if (codeChk l).2 ≠ 0 then (codeChk l).2 else if stOk s l.length = false then 1 else 0

/-- Go on behind. -/
def nextPc (s : St) (n : Int) : Int := (s.pc + 1) % n
/-- One step of what is right: the state then, and what is sent (-1: nothing). -/
def stepDo (n : Int) (o : Op) (s : St) (got : Int) (is : Bool) : St × Int :=
  if s.failed = true then (s, -1)
  else if o.what = 1 then ({ s.put o.a.toNat o.b with pc := nextPc s n }, -1)
  else if o.what = 2 then ({ s.put o.a.toNat (s.get o.b.toNat) with pc := nextPc s n }, -1)
  else if o.what = 3 then ({ s.put o.a.toNat ((s.get o.a.toNat + s.get o.b.toNat) % 1000) with pc := nextPc s n }, -1)
  else if o.what = 4 then ({ s.put o.a.toNat ((s.get o.a.toNat - s.get o.b.toNat + 1000) % 1000) with pc := nextPc s n }, -1)
  else if o.what = 5 then ({ s.put o.a.toNat (s.get o.a.toNat * s.get o.b.toNat % 1000) with pc := nextPc s n }, -1)
  else if o.what = 6 then ({ s with pc := if s.get o.a.toNat = 0 then o.b else nextPc s n }, -1)
  else if o.what = 7 then ({ s with pc := o.b }, -1)
  else if o.what = 8 then ({ s with pc := nextPc s n }, s.get o.a.toNat)
  else if o.what = 9 then (if is = true then ({ s.put o.a.toNat got with pc := nextPc s n }, -1) else (s, -1))
  else if o.what = 11 then ({ s with failed := true }, -1)
  else ({ s with pc := nextPc s n }, -1)
/-- What came of it, where a send is there. -/
def stepWhat (o : Op) (s : St) (is : Bool) : Int :=
  if s.failed = true then 5 else if o.what = 8 then 1 else if o.what = 9 then (if is = true then 2 else 3) else if o.what = 11 then 4 else 0
end Go.Proofs.YtnighanlonkjbaaDoor
