/- Several parts: each begins with what it says. -/
import Derived.Test.YthdmgighblhmhaaGreatDoorLineU
import Derived.Deep.Cut
import Derived.Test.YthdmgighblhmhaaGreatDoorPlanU
import Derived.Test.YthdmgighblhmhaaGreatDoorDoU
import Derived.Deep.DeepCutAuto
import Derived.Deep.CutBlock
import Derived.Test.YthdmgighblhmhaaGreatDoorRLineU
/- frameref1.Put, Ports: a list that rises; on which wires does code do such? -/
namespace Go.Proofs.YthdmgighblhmhaaGreatDoor
open Go.RowKit
set_option maxRecDepth 100000

/-- Put a number into a list, once. -/
def putL : List Int → Int → List Int
  | [], v => [v]
  | x :: l, v => if x = v then x :: l else if v < x then v :: x :: l else x :: putL l v
theorem putL_len : ∀ (l : List Int) (v : Int), (putL l v).length ≤ l.length + 1
  | [], v => by simp [putL]
  | x :: l, v => by
    have := putL_len l v
    unfold putL
    split
    · simp
    · split <;> simp; omega
theorem putL_mem : ∀ (l : List Int) (v u : Int), u ∈ putL l v ↔ u = v ∨ u ∈ l
  | [], v, u => by simp [putL]
  | x :: l, v, u => by
    have := putL_mem l v u
    unfold putL
    split
    · rename_i h; subst h; simp
    · split
      · simp
      · simp only [List.mem_cons, this]
        constructor
        · rintro (h | h | h) <;> simp [h]
        · rintro (h | h | h) <;> simp [h]
def PutIs (d : Bool) (ys rest : List Int) (v : Int) (tgt : List Int) : Prop := if d = true then ys ++ rest = tgt else ys ++ putL rest v = tgt
theorem PutIs.eq {d : Bool} {ys rest : List Int} {v : Int} {tgt : List Int} (h : PutIs d ys (v :: rest) v tgt) : PutIs true (ys ++ [v]) rest v tgt := by
  unfold PutIs at h ⊢
  cases d <;> simp [putL] at h ⊢ <;> exact h
theorem PutIs.past {x : Int} {ys rest : List Int} {v : Int} {tgt : List Int} (h : PutIs true ys (x :: rest) v tgt) : PutIs true (ys ++ [x]) rest v tgt := by
  unfold PutIs at h ⊢
  simp at h ⊢; exact h
theorem PutIs.ins {x : Int} {ys rest : List Int} {v : Int} {tgt : List Int} (h : PutIs false ys (x :: rest) v tgt) (h1 : x ≠ v) (h2 : v < x) : PutIs true (ys ++ [v] ++ [x]) rest v tgt := by
  unfold PutIs at h ⊢
  simp [putL, h1, h2] at h ⊢; exact h
theorem PutIs.skip {x : Int} {ys rest : List Int} {v : Int} {tgt : List Int} (h : PutIs false ys (x :: rest) v tgt) (h1 : x ≠ v) (h2 : ¬ v < x) : PutIs false (ys ++ [x]) rest v tgt := by
  unfold PutIs at h ⊢
  simp [putL, h1, h2] at h ⊢; exact h

theorem one_sl (w : World) (v : Value) (T : Nat) : Sl (w.alloc (.cells #[v] T)) (some ⟨w.heap.size, 0, none⟩) 1 1 [v] :=
  ⟨rfl, fun _ => ⟨w.heap.size, 0, rfl, by simp, fun j u hu => by
    match j, hu with
    | 0, hu => simp at hu; subst hu; exact blk_cell (heap_alloc_new w _) 0⟩⟩
theorem put_app {w wr w2 : World} {A A' : Option Addr} {q c' : Nat} {ys : List Int} {x : Int} {o : Obj} (hfr : ∀ j, InA A j → w.heap.size ≤ j) (hb : Below w.heap.size w wr)
    (hr : Row w2 3 1 A' (q + 1) c' (ints ys ++ [.int .i64 x])) (hk : Keep (InA A) (wr.alloc o) w2) (hn : ∀ j, InA A' j → InA A j ∨ (wr.alloc o).heap.size ≤ j) :
    Row w2 3 1 A' (q + 1) c' (ints (ys ++ [x])) ∧ (∀ j, InA A' j → w.heap.size ≤ j) ∧ Below w.heap.size w w2 := by
  have hs := hb.size
  refine ⟨by unfold ints at hr ⊢; rw [List.map_append]; exact hr, fun j hj => ?_, ?_⟩
  · rcases hn j hj with h | h
    · exact hfr j h
    · rw [sz_alloc] at h; omega
  · exact Keep.below (F := NoF) ((Keep.of_below NoF (hb.alloc hs o)).then hk fun j hj h => by have := hfr j h; omega) (Nat.le_refl _) (fun j h => h.elim)

/-- A list of numbers in new memory. -/
def Drawn (w : World) (ys : List Int) (e : Ending) (w' : World) : Prop :=
  ∃ A n c, e = .returned (.slice A n c) ∧ n = ys.length ∧ Row w' 3 1 A n c (ints ys) ∧ (∀ j, InA A j → w.heap.size ≤ j) ∧ Below w.heap.size w w'

/-- What holds as the list is walked. -/
structure PutMid (w : World) (n : Nat) (l : List Int) (v : Int) (v5 v6 v7 : Value) (wr : World) (i : Nat) (d : Bool) (A : Option Addr) (q c : Nat) (ys : List Int) : Prop where
  ile : i ≤ n
  e5 : v5 = .slice A q c
  e6 : v6 = .bool d
  e7 : v7 = .int .i64 i
  len : q = ys.length
  most : q ≤ i + d.toNat
  row : Row wr 3 1 A q c (ints ys)
  fresh : ∀ j, InA A j → w.heap.size ≤ j
  below : Below w.heap.size w wr
  is : PutIs d ys (l.drop i) v (putL l v)

end Go.Proofs.YthdmgighblhmhaaGreatDoor

/- frameref1.Ports: on which wires does code do such? -/
namespace Go.Proofs.YthdmgighblhmhaaGreatDoor
open Go.RowKit
set_option maxRecDepth 100000

def portsL : List Op → Int → List Int → List Int
  | [], _, acc => acc
  | o :: l, k, acc => portsL l k (if o.what = k then putL acc o.b else acc)
theorem portsL_app (k : Int) : ∀ (l r : List Op) (acc : List Int), portsL (l ++ r) k acc = portsL r k (portsL l k acc)
  | [], _, _ => rfl
  | _ :: l, r, _ => portsL_app k l r _
theorem portsL_mem (k : Int) (u : Int) : ∀ (l : List Op) (acc : List Int), u ∈ portsL l k acc ↔ u ∈ acc ∨ ∃ o ∈ l, o.what = k ∧ o.b = u
  | [], acc => by simp [portsL]
  | o :: l, acc => by
    have h := portsL_mem k u l (if o.what = k then putL acc o.b else acc)
    unfold portsL
    rw [h]
    by_cases e : o.what = k
    · rw [if_pos e, putL_mem]
      constructor
      · rintro ((h | h) | ⟨x, hx, h⟩)
        · exact .inr ⟨o, by simp, e, h.symm⟩
        · exact .inl h
        · exact .inr ⟨x, by simp [hx], h⟩
      · rintro (h | ⟨x, hx, h1, h2⟩)
        · exact .inl (.inr h)
        · rcases List.mem_cons.1 hx with rfl | hx
          · exact .inl (.inl h2.symm)
          · exact .inr ⟨x, hx, h1, h2⟩
    · rw [if_neg e]
      constructor
      · rintro (h | ⟨x, hx, h⟩)
        · exact .inl h
        · exact .inr ⟨x, by simp [hx], h⟩
      · rintro (h | ⟨x, hx, h1, h2⟩)
        · exact .inl h
        · rcases List.mem_cons.1 hx with rfl | hx
          · exact absurd h1 e
          · exact .inr ⟨x, hx, h1, h2⟩
theorem portsL_len (k : Int) : ∀ (l : List Op) (acc : List Int), (portsL l k acc).length ≤ acc.length + l.length
  | [], acc => by simp [portsL]
  | o :: l, acc => by
    have h := portsL_len k l (if o.what = k then putL acc o.b else acc)
    have h2 := putL_len acc o.b
    unfold portsL
    simp only [List.length_cons]
    split at h <;> split <;> first | omega | (rename_i a b; exact absurd a b) | (rename_i a b; exact absurd b a)

/-- What holds as the ops are walked. -/
structure PortsMid (w : World) (n : Nat) (l : List Op) (k : Int) (v5 v6 : Value) (wr : World) (i : Nat) (A : Option Addr) (q c : Nat) (ys : List Int) : Prop where
  ile : i ≤ n
  e5 : v5 = .slice A q c
  e6 : v6 = .int .i64 i
  len : q = ys.length
  most : q ≤ i
  row : Row wr 3 1 A q c (ints ys)
  fresh : ∀ j, InA A j → w.heap.size ≤ j
  below : Below w.heap.size w wr
  is : ys = portsL (l.take i) k []

end Go.Proofs.YthdmgighblhmhaaGreatDoor

/- The reference of code and states: contracts of frameref1.Code and State. -/
namespace Go.Proofs.YthdmgighblhmhaaGreatDoor
open Go.RowKit
set_option maxRecDepth 100000

def TellNI (w : World) (r : Nat × Int) (e : Ending) (w' : World) : Prop := e = .returned (.tuple #[.int .i64 r.1, .int .i64 r.2]) ∧ Below w.heap.size w w'
theorem opOk_cases {what a b many : Int} : (what < 1 ∨ 11 < what) ∧ opOk ⟨what, a, b⟩ many = false ∨ (1 ≤ what ∧ what ≤ 11) ∧
    (opOk ⟨what, a, b⟩ many = false ∧ (a < 0 ∨ 0 ≤ a ∧ aBound what ≤ a ∨ (0 ≤ a ∧ a < aBound what) ∧ b < 0 ∨ (0 ≤ a ∧ a < aBound what) ∧ 0 ≤ b ∧ bBound what many ≤ b) ∨
     opOk ⟨what, a, b⟩ many = true ∧ 0 ≤ a ∧ a < aBound what ∧ 0 ≤ b ∧ b < bBound what many) := by
  by_cases h : what < 1 ∨ 11 < what
  · left; exact ⟨h, decide_eq_false (by simp only []; omega)⟩
  · right; refine ⟨by omega, ?_⟩
    by_cases h2 : 0 ≤ a ∧ a < aBound what ∧ 0 ≤ b ∧ b < bBound what many
    · right; exact ⟨decide_eq_true (by simp only []; omega), h2⟩
    · left; exact ⟨decide_eq_false (by simp only []; omega), by omega⟩

end Go.Proofs.YthdmgighblhmhaaGreatDoor

/- frameref1.Plan: the contract, for every plan. -/
namespace Go.Proofs.YthdmgighblhmhaaGreatDoor
open Go.RowKit
set_option maxRecDepth 100000

def pFr (ws : List Wire) (i : Nat) (u : Int) : Bool := match ws[u.toNat]? with | some x => decide (x.fr = i) | none => false
def pTo (ws : List Wire) (i : Nat) (u : Int) : Bool := match ws[u.toNat]? with | some x => decide (x.to = i) | none => false
theorem portsOk_split (ws : List Wire) (i : Nat) (l : List Op) : portsOk ws i l = ((portsL l 8 []).all (pFr ws i) && (portsL l 9 []).all (pTo ws i)) := by
  rw [Bool.eq_iff_iff, Bool.and_eq_true, List.all_eq_true, List.all_eq_true]
  unfold portsOk
  rw [List.all_eq_true]
  constructor
  · intro h
    refine ⟨fun u hu => ?_, fun u hu => ?_⟩
    · obtain ⟨o, ho, h8, hb⟩ := ((portsL_mem 8 u l []).1 hu).resolve_left (by simp)
      have := h o ho
      unfold portOk at this
      rw [if_pos h8, hb] at this
      exact this
    · obtain ⟨o, ho, h9, hb⟩ := ((portsL_mem 9 u l []).1 hu).resolve_left (by simp)
      have := h o ho
      unfold portOk at this
      rw [if_neg (by omega), if_pos h9, hb] at this
      exact this
  · rintro ⟨h1, h2⟩ o ho
    unfold portOk
    by_cases h8 : o.what = 8
    · rw [if_pos h8]
      exact h1 o.b ((portsL_mem 8 o.b l []).2 (.inr ⟨o, ho, h8, rfl⟩))
    · rw [if_neg h8]
      by_cases h9 : o.what = 9
      · rw [if_pos h9]
        exact h2 o.b ((portsL_mem 9 o.b l []).2 (.inr ⟨o, ho, h9, rfl⟩))
      · rw [if_neg h9]
theorem all_of {l : List Int} {q : Nat} (hq : q = l.length) {p : Int → Bool} (h : ∀ j u, j < q → l[j]? = some u → p u = true) : l.all p = true := by
  rw [List.all_eq_true]
  intro u hu
  obtain ⟨j, hj⟩ := List.mem_iff_getElem?.1 hu
  exact h j u (by rw [hq]; exact (List.getElem?_eq_some_iff.1 hj).1) hj
theorem all_snoc {l : List Int} {k : Nat} {p : Int → Bool} {u : Int} (h : ∀ j u, j < k → l[j]? = some u → p u = true) (hu : l[k]? = some u) (hp : p u = true) : ∀ j u, j < k + 1 → l[j]? = some u → p u = true := by
  intro j v hj hg
  by_cases e : j = k
  · subst e; rw [hu] at hg; cases hg; exact hp
  · exact h j v (by omega) hg

end Go.Proofs.YthdmgighblhmhaaGreatDoor
