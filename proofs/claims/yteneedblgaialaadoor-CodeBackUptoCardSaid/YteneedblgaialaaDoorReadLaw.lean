/- Plain: an op's line read: which lines are an op's, and of which. No program is walked. Conditions: none. -/
import Derived.Test.YteneedblgaialaaDoorNumLaw
import Derived.Test.YteneedblgaialaaDoorTextLaw
import Derived.Test.YteneedblgaialaaDoorSplitW
namespace Go.Proofs.YteneedblgaialaaDoor

theorem nDigits_le : ∀ (k u : Nat), u < 10 ^ (k + 1) → Lib.nDigits u ≤ k + 1
  | 0, u, h => by rw [Lib.nDigits_small (by omega)]; omega
  | k + 1, u, h => by
    by_cases h1 : u < 10
    · rw [Lib.nDigits_small h1]; omega
    · rw [Lib.nDigits_big h1]
      have := nDigits_le k (u / 10) (by rw [Nat.pow_succ] at h; omega)
      omega
theorem itoa_le {n : Int} {k : Nat} (h0 : 0 ≤ n) (h : n < 10 ^ (k + 1)) : (Lib.itoa n).length ≤ k + 1 := by
  obtain ⟨u, rfl⟩ : ∃ u : Nat, n = u := ⟨n.toNat, by omega⟩
  rw [itoa_nat, Lib.decDigits_length]
  have h2 : ((10 ^ (k + 1) : Nat) : Int) = 10 ^ (k + 1) := by simp
  exact nDigits_le k u (by omega)
theorem numOf_itoa {n : Int} {k : Nat} (h0 : 0 ≤ n) (h : n < 10 ^ (k + 1)) (hk : k < 18) : numOf ((k + 1 : Nat) : Int) (Lib.itoa n) = some n.toNat := by
  have h1 := itoa_le h0 h
  exact (numOf_some (by omega)).2 ⟨by rw [show ((n.toNat : Nat) : Int) = n by omega], by omega⟩
theorem numsOf_itoa {k : Nat} (hk : k < 18) : ∀ {l : List Int}, (∀ n ∈ l, 0 ≤ n ∧ n < 10 ^ (k + 1)) → numsOf ((k + 1 : Nat) : Int) (l.map Lib.itoa) = some (l.map Int.toNat)
  | [], _ => rfl
  | n :: l, h => by
    rw [List.map_cons]
    unfold numsOf
    rw [numOf_itoa (h n (by simp)).1 (h n (by simp)).2 hk]
    simp only []
    rw [numsOf_itoa hk (fun m hm => h m (by simp [hm]))]; rfl
theorem itoa_no32 (n : Int) : (32 : UInt8) ∉ Lib.itoa n := fun h => by have := itoa_mem n h; simp at this
theorem cutA_nums : ∀ (l : List Int) (acc : List UInt8), cutA 32 acc (l.flatMap numT) = acc :: l.map Lib.itoa
  | [], acc => rfl
  | n :: l, acc => by
    rw [List.flatMap_cons]
    unfold numT
    rw [List.cons_append, cutA, if_pos rfl, cutA_pass 32 _ [] _ (itoa_no32 n), List.nil_append]
    show acc :: cutA 32 (Lib.itoa n) (l.flatMap numT) = _
    rw [cutA_nums l, List.map_cons]
theorem cutA_words {w : List UInt8} (hw : (32 : UInt8) ∉ w) (l : List Int) : cutA 32 [] (w ++ l.flatMap numT) = w :: l.map Lib.itoa := by
  rw [cutA_pass 32 w [] _ hw, List.nil_append, cutA_nums]
theorem cutA_join (c : UInt8) : ∀ (l acc w : List UInt8) (ws : List (List UInt8)), cutA c acc l = w :: ws → acc ++ l = w ++ ws.flatMap (fun t => c :: t)
  | [], acc, w, ws, h => by
    unfold cutA at h
    injection h with h1 h2
    subst h1 h2; simp
  | x :: l, acc, w, ws, h => by
    unfold cutA at h
    split at h
    · rename_i hx
      injection h with h1 h2
      subst h1
      cases ws with
      | nil => exact absurd h2 (by cases l with
        | nil => simp [cutA]
        | cons y l =>
          intro e
          have := cutA_len c (y :: l) []
          rw [e] at this; simp at this)
      | cons v ws =>
        have := cutA_join c l [] v ws h2
        rw [List.nil_append] at this
        rw [List.flatMap_cons, this, hx]; simp
    · have := cutA_join c l _ w ws h
      rw [← this]; simp
theorem cutA_cons (c : UInt8) (l acc : List UInt8) : ∃ w ws, cutA c acc l = w :: ws := by
  have := cutA_len c l acc
  cases h : cutA c acc l with
  | nil => rw [h] at this; simp at this
  | cons w ws => exact ⟨w, ws, rfl⟩
theorem name_no32 (k : Nat) : (32 : UInt8) ∉ nameOf k := fun h => by have := name_mem _ _ h; simp at this
theorem name_inj {i j : Nat} (hi : 1 ≤ i ∧ i ≤ 11) (hj : 1 ≤ j ∧ j ≤ 11) (h : nameOf i = nameOf j) : i = j := by
  have H : ∀ a ∈ List.range 12, ∀ b ∈ List.range 12, 1 ≤ a → 1 ≤ b → nameOf a = nameOf b → a = b := by decide
  exact H i (List.mem_range.2 (by omega)) j (List.mem_range.2 (by omega)) hi.1 hj.1 h

/-- An op such as a line may say it. -/
structure WfOp (o : Op) : Prop where
  what : 1 ≤ o.what ∧ o.what ≤ 11
  a : 0 ≤ o.a ∧ o.a < 10 ^ 4
  b : 0 ≤ o.b ∧ o.b < 10 ^ 4
  noA : formA o.what.toNat = false → o.a = 0
  noB : formB o.what.toNat = false → o.b = 0
/-- How many numbers stand behind a name. -/
def manyOf (k : Nat) : Nat := (if formA k then 1 else 0) + (if formB k then 1 else 0)
/-- The op of a name and its numbers. -/
def opOf (k : Nat) (ns : List Nat) : Op := if formA k then ⟨k, ns.getD 0 0, ns.getD 1 0⟩ else if formB k then ⟨k, 0, ns.getD 0 0⟩ else ⟨k, 0, 0⟩
theorem formB_of {k : Nat} (h : formA k = true) : formB k = true := by
  unfold formA at h; unfold formB; simp at h ⊢; omega
theorem opOf_fields {k : Nat} {ns : List Nat} (h : ns.length = manyOf k) : fieldsOf (opOf k ns) = ns.map Int.ofNat := by
  unfold manyOf at h
  unfold fieldsOf opOf
  cases ha : formA k with
  | true =>
    have hb := formB_of ha
    rw [ha, hb] at h
    match ns, h with
    | [x, y], _ => simp [ha, hb]
  | false =>
    cases hb : formB k with
    | true =>
      rw [ha, hb] at h
      match ns, h with
      | [x], _ => simp [ha, hb]
    | false =>
      rw [ha, hb] at h
      match ns, h with
      | [], _ => simp [ha, hb]
theorem opOf_what (k : Nat) (ns : List Nat) : (opOf k ns).what = k := by
  unfold opOf; split
  · rfl
  · split <;> rfl
theorem opOf_wf {k : Nat} {ns : List Nat} (hk : 1 ≤ k ∧ k ≤ 11) (h : ns.length = manyOf k) (hn : ∀ n ∈ ns, n < 10 ^ 4) : WfOp (opOf k ns) := by
  have hw := opOf_what k ns
  unfold manyOf at h
  cases ha : formA k with
  | true =>
    have hb := formB_of ha
    rw [ha, hb] at h
    match ns, h with
    | [x, y], _ =>
      have h1 := hn x (by simp)
      have h2 := hn y (by simp)
      refine ⟨by rw [hw]; omega, ?_, ?_, ?_, ?_⟩ <;> simp [opOf, ha, hb] <;> omega
  | false =>
    cases hb : formB k with
    | true =>
      rw [ha, hb] at h
      match ns, h with
      | [x], _ =>
        have h1 := hn x (by simp)
        refine ⟨by rw [hw]; omega, ?_, ?_, ?_, ?_⟩ <;> simp [opOf, ha, hb] <;> omega
    | false =>
      refine ⟨by rw [hw]; omega, ?_, ?_, ?_, ?_⟩ <;> simp [opOf, ha, hb]
theorem op_wf {o : Op} (h : WfOp o) : opOf o.what.toNat ((fieldsOf o).map Int.toNat) = o ∧ (fieldsOf o).length = manyOf o.what.toNat ∧ ∀ n ∈ fieldsOf o, 0 ≤ n ∧ n < 10 ^ 4 := by
  obtain ⟨⟨h1, h2⟩, h3, h4, h5, h6⟩ := h
  obtain ⟨what, a, b⟩ := o
  simp only [] at *
  have hw : ((what.toNat : Nat) : Int) = what := by omega
  unfold opOf manyOf fieldsOf
  cases ha : formA what.toNat with
  | true =>
    have hb := formB_of ha
    simp [hb, hw]; omega
  | false =>
    cases hb : formB what.toNat with
    | true => simp [hw, h5 ha]; omega
    | false => simp [hw, h5 ha, h6 hb]

/-- A line is an op's. -/
theorem read_yes {s w : List UInt8} {ws : List (List UInt8)} {k : Nat} {ns : List Nat} (hc : cutA 32 [] s = w :: ws) (hk : 1 ≤ k ∧ k ≤ 11) (hw : nameOf k = w) (hn : numsOf 4 ws = some ns) (hl : ns.length = manyOf k) :
    WfOp (opOf k ns) ∧ opLine (opOf k ns) = s := by
  obtain ⟨h1, h2⟩ := (numsOf_some (by decide)).1 hn
  refine ⟨opOf_wf hk hl fun n hm => ?_, ?_⟩
  · have := h2 (Lib.itoa (n : Int)) (by rw [h1]; exact List.mem_map_of_mem (f := fun n : Nat => Lib.itoa (n : Int)) hm)
    rw [itoa_nat] at this
    exact num_lt (by omega)
  · have h3 := cutA_join 32 s [] w ws hc
    rw [List.nil_append] at h3
    unfold opLine
    rw [opOf_fields hl, opOf_what, Int.toNat_natCast, hw, h3, h1]
    congr 1
    rw [List.flatMap_map, List.flatMap_map]
    rfl
/-- What an op's line is cut into. -/
theorem read_cut {o : Op} : cutA 32 [] (opLine o) = nameOf o.what.toNat :: (fieldsOf o).map Lib.itoa := cutA_words (name_no32 _) _
theorem read_nums {o : Op} (h : WfOp o) : numsOf 4 ((fieldsOf o).map Lib.itoa) = some ((fieldsOf o).map Int.toNat) := numsOf_itoa (k := 3) (by decide) (op_wf h).2.2
/-- Two ops with one line are one. -/
theorem op_inj {o o' : Op} (h : WfOp o) (h' : WfOp o') (e : opLine o = opLine o') : o = o' := by
  have h1 := read_cut (o := o)
  rw [e, read_cut] at h1
  injection h1 with h2 h3
  have hw := name_inj (i := o'.what.toNat) (j := o.what.toNat) (by have := h'.what; omega) (by have := h.what; omega) h2
  have h4 := read_nums h
  rw [← h3, read_nums h'] at h4
  injection h4 with h4
  rw [← (op_wf h).1, ← (op_wf h').1, hw, h4]
end Go.Proofs.YteneedblgaialaaDoor
