/- Several parts: each begins with what it says. -/
import Derived.WalkKit
import Derived.WalkSpells
import Derived.WalkLawsBesides
import Derived.Deep.QuietTactic
import Derived.BigQuiet
import Derived.Deep.Draws
import Derived.Deep.RegionHeld3
import Derived.Deep.AppendLies
/- Words for memory that all walks of this seat share: what a call keeps, rows that a value owns, slices that are read, and 'append' onto such a row. Conditions: none; plain lemmas over any program. -/
namespace Go.Proofs.YthdmgighblhmhaaGreatDoor
open Go.RowKit
set_option maxRecDepth 100000

theorem hid {p : Prop} (h : p) : Hid p := h

theorem ret_bool {b : Bool} (h : b = true) : Ending.returned (.bool b) = .returned (.bool true) := by rw [h]
theorem ret_false {b : Bool} (h : b = false) : Ending.returned (.bool b) = .returned (.bool false) := by rw [h]
theorem ret_i {a b : Int} (h : a = b) : Ending.returned (.int .i64 a) = .returned (.int .i64 b) := by rw [h]

theorem keptCell {w w1 : World} (hb : Below w.heap.size w w1) : ∀ b o, b < w.heap.size → w1.cell? ⟨b, o, none⟩ = w.cell? ⟨b, o, none⟩ :=
  fun b o h => hb.cell (p := ⟨b, o, none⟩) h
theorem keptFree {w w1 : World} (hb : Below w.heap.size w w1) : ∀ b o, b < w.heap.size → w1.frozen? ⟨b, o, none⟩ = w.frozen? ⟨b, o, none⟩ :=
  fun b o h => hb.frozen (p := ⟨b, o, none⟩) h

/-- Outside the blocks F the world w' is as w was. -/
structure Keep (F : Nat → Prop) (w w' : World) : Prop where
  os : w'.os = w.os
  tape : w'.tape = w.tape
  output : w'.output = w.output
  size : w.heap.size ≤ w'.heap.size
  block : ∀ k, k < w.heap.size → ¬ F k → w'.heap[k]? = w.heap[k]?

def NoF : Nat → Prop := fun _ => False
def InA (A : Option Addr) : Nat → Prop := fun k => A.map (·.block) = some k

theorem Keep.refl (F : Nat → Prop) (w : World) : Keep F w w := ⟨rfl, rfl, rfl, Nat.le_refl _, fun _ _ _ => rfl⟩
theorem Keep.trans {F G : Nat → Prop} {a b c : World} (h : Keep F a b) (k : Keep G b c) : Keep (fun i => F i ∨ G i) a c :=
  ⟨k.os.trans h.os, k.tape.trans h.tape, k.output.trans h.output, Nat.le_trans h.size k.size,
   fun i hi hn => (k.block i (Nat.lt_of_lt_of_le hi h.size) (fun e => hn (.inr e))).trans (h.block i hi (fun e => hn (.inl e)))⟩
theorem Keep.mono {F G : Nat → Prop} {a b : World} (h : Keep F a b) (hFG : ∀ i, i < a.heap.size → F i → G i) : Keep G a b :=
  ⟨h.os, h.tape, h.output, h.size, fun i hi hn => h.block i hi (fun e => hn (hFG i hi e))⟩
theorem Keep.of_below {w w' : World} (F : Nat → Prop) (h : Below w.heap.size w w') : Keep F w w' := ⟨h.os, h.tape, h.output, h.size, fun i hi _ => h.block i hi⟩
theorem Keep.below {F : Nat → Prop} {B : Nat} {w w' : World} (h : Keep F w w') (hB : B ≤ w.heap.size) (hF : ∀ i, F i → B ≤ i) : Below B w w' :=
  ⟨h.os, h.tape, h.output, h.size, fun i hi => h.block i (by omega) (fun e => by have := hF i e; omega)⟩
theorem Keep.cell {F : Nat → Prop} {w w' : World} (h : Keep F w w') {b o : Nat} (hb : b < w.heap.size) (hF : ¬ F b) : w'.cell? ⟨b, o, none⟩ = w.cell? ⟨b, o, none⟩ :=
  World.cell?_of_block (h.block b hb hF)

theorem blk_cell {w : World} {b t : Nat} {cs : Array Value} (h : w.heap[b]? = some (.cells cs t (0, 0))) (o : Nat) : w.cell? ⟨b, o, none⟩ = cs[o]? := by simp [World.cell?, h]
theorem blk_free {w : World} {b t : Nat} {cs : Array Value} (h : w.heap[b]? = some (.cells cs t (0, 0))) (o : Nat) : w.frozen? ⟨b, o, none⟩ = false := by simp [World.frozen?, h]
theorem blk_lt {w : World} {b : Nat} {o : Obj} (h : w.heap[b]? = some o) : b < w.heap.size := (Array.getElem?_eq_some_iff.1 h).1
theorem cell_lt {w : World} {b o : Nat} {v : Value} (h : w.cell? ⟨b, o, none⟩ = some v) : b < w.heap.size := World.block_lt_of_cell? w ⟨b, o, none⟩ h
theorem blk_set {w : World} {b t : Nat} {cs : Array Value} (h : w.heap[b]? = some (.cells cs t (0, 0))) (i : Nat) (u : Value) :
    (w.setCell ⟨b, i, none⟩ u).heap[b]? = some (.cells (cs.setIfInBounds i u) t (0, 0)) := by
  simp [World.setCell, Array.getElem?_modify, h]
theorem blk_far {w : World} {b : Nat} {p : Addr} (h : b ≠ p.block) (u : Value) : (w.setCell p u).heap[b]? = w.heap[b]? := Below.heap_setCell w p u b h
theorem blk_alloc {w : World} {b : Nat} (h : b < w.heap.size) (o : Obj) : (w.alloc o).heap[b]? = w.heap[b]? := Below.heap_alloc w o b h

def setObj (i : Nat) (u : Value) : Obj → Obj
  | .cells c e fz => .cells (c.setIfInBounds i u) e fz
  | o => o
theorem hp_set (w : World) (b i k : Nat) (u : Value) : (w.setCell ⟨b, i, none⟩ u).heap[k]? = if k = b then (w.heap[k]?).map (setObj i u) else w.heap[k]? := by
  by_cases h : k = b
  · subst h
    rw [if_pos rfl]
    simp only [World.setCell, Array.getElem?_modify, ↓reduceIte]
    cases w.heap[k]? with
    | none => rfl
    | some o => cases o <;> rfl
  · rw [if_neg h]; exact blk_far (p := ⟨b, i, none⟩) h u
theorem hp_alloc (w : World) (o : Obj) (k : Nat) : (w.alloc o).heap[k]? = if k = w.heap.size then some o else w.heap[k]? := by
  by_cases h : k = w.heap.size
  · subst h; rw [if_pos rfl]; exact heap_alloc_new w o
  · rw [if_neg h]
    show (w.heap.push o)[k]? = _
    rw [Array.getElem?_push, if_neg h]
theorem hp_drew (w : World) : w.drew.heap = w.heap := rfl
theorem cell_far {w : World} {b o b' o' : Nat} {u : Value} (h : b ≠ b') : (w.setCell ⟨b', o', none⟩ u).cell? ⟨b, o, none⟩ = w.cell? ⟨b, o, none⟩ := World.cell?_of_block (blk_far (p := ⟨b', o', none⟩) h u)
theorem sz_set (w : World) (p : Addr) (u : Value) : (w.setCell p u).heap.size = w.heap.size := by simp [World.setCell]
theorem sz_alloc (w : World) (o : Obj) : (w.alloc o).heap.size = w.heap.size + 1 := by simp
theorem Keep.alloc {F : Nat → Prop} {a w : World} (h : Keep F a w) (o : Obj) : Keep F a (w.alloc o) :=
  ⟨h.os, h.tape, h.output, by have := h.size; simp; omega, fun k hk hF => by rw [hp_alloc, if_neg (by have := h.size; omega)]; exact h.block k hk hF⟩
theorem Keep.setCell {F : Nat → Prop} {a w : World} (h : Keep F a w) {b i : Nat} (hb : F b ∨ a.heap.size ≤ b) (u : Value) : Keep F a (w.setCell ⟨b, i, none⟩ u) :=
  ⟨h.os, h.tape, h.output, by rw [sz_set]; exact h.size, fun k hk hF => by
    rw [hp_set, if_neg (by rintro rfl; rcases hb with hb | hb; exact hF hb; omega)]; exact h.block k hk hF⟩
theorem Keep.drew {F : Nat → Prop} {a w : World} (h : Keep F a w) : Keep F a w.drew := ⟨h.os, h.tape, h.output, h.size, h.block⟩
theorem Keep.drewN {F : Nat → Prop} {a w : World} (h : Keep F a w) (n : Nat) : Keep F a (w.drewN n) := ⟨h.os, h.tape, h.output, h.size, h.block⟩
theorem Keep.then {F G : Nat → Prop} {a w w' : World} (h : Keep F a w) (k : Keep G w w') (hG : ∀ i, i < a.heap.size → G i → F i) : Keep F a w' :=
  ⟨k.os.trans h.os, k.tape.trans h.tape, k.output.trans h.output, Nat.le_trans h.size k.size,
   fun i hi hn => (k.block i (Nat.lt_of_lt_of_le hi h.size) (fun e => hn (hG i hi e))).trans (h.block i hi hn)⟩

/-- A slice that is read: n elements of sz cells each, whose cells are xs. -/
def Sl (w : World) (A : Option Addr) (sz n : Nat) (xs : List Value) : Prop :=
  xs.length = n * sz ∧ (0 < n → ∃ b off, A = some ⟨b, off, none⟩ ∧ b < w.heap.size ∧ ∀ j u, xs[j]? = some u → w.cell? ⟨b, off + j, none⟩ = some u)

theorem Sl.keep {w w' : World} {A : Option Addr} {sz n : Nat} {xs : List Value} (h : Sl w A sz n xs) (hs : w.heap.size ≤ w'.heap.size)
    (hk : ∀ b, InA A b → b < w.heap.size → w'.heap[b]? = w.heap[b]?) : Sl w' A sz n xs := by
  refine ⟨h.1, fun hn => ?_⟩
  obtain ⟨b, off, rfl, hb, hx⟩ := h.2 hn
  exact ⟨b, off, rfl, by omega, fun j u hu => (World.cell?_of_block (hk b rfl hb)).trans (hx j u hu)⟩
theorem Sl.below {w w' : World} {A : Option Addr} {sz n B : Nat} {xs : List Value} (h : Sl w A sz n xs) (hb : Below B w w') (hA : ∀ b, InA A b → b < B) : Sl w' A sz n xs :=
  h.keep hb.size fun b hi _ => hb.block b (hA b hi)
theorem Sl.new {w w' : World} {A : Option Addr} {sz n : Nat} {xs : List Value} (h : Sl w A sz n xs) (hb : Below w.heap.size w w') : Sl w' A sz n xs :=
  h.keep hb.size fun b _ hl => hb.block b hl
theorem Sl.nil (w : World) (A : Option Addr) (sz : Nat) : Sl w A sz 0 [] := ⟨by simp, fun h => absurd h (by omega)⟩
theorem Sl.take {w : World} {A : Option Addr} {sz n : Nat} {xs : List Value} (h : Sl w A sz n xs) {m : Nat} (hm : m ≤ n) : Sl w A sz m (xs.take (m * sz)) := by
  refine ⟨by rw [List.length_take, h.1, Nat.min_eq_left (Nat.mul_le_mul_right _ hm)], fun h0 => ?_⟩
  obtain ⟨b, off, rfl, hb, hx⟩ := h.2 (by omega)
  exact ⟨b, off, rfl, hb, fun j u hu => hx j u (by rw [List.getElem?_take] at hu; split at hu <;> simp_all)⟩

/-- A row that a slice value owns: its block may be written, and nothing else leads there. -/
def Row (w : World) (e sz : Nat) (A : Option Addr) (n cap : Nat) (xs : List Value) : Prop :=
  xs.length = n * sz ∧ ((A = none ∧ n = 0 ∧ cap = 0) ∨ ∃ b off cur, A = some ⟨b, off, none⟩ ∧ w.heap[b]? = some (.cells cur e (0, 0)) ∧ n ≤ cap ∧ cap ≤ maxLen ∧ off + cap * sz ≤ cur.size ∧
    ∀ j u, xs[j]? = some u → cur[off + j]? = some u)

theorem Row.nil (w : World) (e sz : Nat) : Row w e sz none 0 0 [] := ⟨by simp, .inl ⟨rfl, rfl, rfl⟩⟩
theorem Row.lt {w : World} {e sz : Nat} {A : Option Addr} {n cap : Nat} {xs : List Value} (h : Row w e sz A n cap xs) : ∀ b, InA A b → b < w.heap.size := by
  intro b hb
  rcases h.2 with ⟨rfl, _⟩ | ⟨b', off, cur, rfl, hh, _⟩
  · simp [InA] at hb
  · simp [InA] at hb; subst hb; exact blk_lt hh
theorem Row.le {w : World} {e sz : Nat} {A : Option Addr} {n cap : Nat} {xs : List Value} (h : Row w e sz A n cap xs) : n ≤ cap ∧ cap ≤ maxLen := by
  rcases h.2 with ⟨rfl, rfl, rfl⟩ | ⟨b', off, cur, rfl, hh, h1, h2, _⟩
  · exact ⟨Nat.le_refl _, Nat.zero_le _⟩
  · exact ⟨h1, h2⟩
theorem Row.sl {w : World} {e sz : Nat} {A : Option Addr} {n cap : Nat} {xs : List Value} (h : Row w e sz A n cap xs) : Sl w A sz n xs := by
  refine ⟨h.1, fun hn => ?_⟩
  rcases h.2 with ⟨rfl, rfl, rfl⟩ | ⟨b, off, cur, rfl, hh, h1, h2, h3, h4⟩
  · omega
  · exact ⟨b, off, rfl, blk_lt hh, fun j u hu => (blk_cell hh _).trans (h4 j u hu)⟩
theorem Row.keep {w w' : World} {e sz : Nat} {A : Option Addr} {n cap : Nat} {xs : List Value} (h : Row w e sz A n cap xs)
    (hk : ∀ b, InA A b → b < w.heap.size → w'.heap[b]? = w.heap[b]?) : Row w' e sz A n cap xs := by
  refine ⟨h.1, ?_⟩
  rcases h.2 with h0 | ⟨b, off, cur, rfl, hh, h1⟩
  · exact .inl h0
  · exact .inr ⟨b, off, cur, rfl, (hk b rfl (blk_lt hh)).trans hh, h1⟩
theorem Row.below {w w' : World} {e sz : Nat} {A : Option Addr} {n cap B : Nat} {xs : List Value} (h : Row w e sz A n cap xs) (hb : Below B w w') (hA : ∀ b, InA A b → b < B) : Row w' e sz A n cap xs :=
  h.keep fun b hi _ => hb.block b (hA b hi)
theorem Row.new {w w' : World} {e sz : Nat} {A : Option Addr} {n cap : Nat} {xs : List Value} (h : Row w e sz A n cap xs) (hb : Below w.heap.size w w') : Row w' e sz A n cap xs :=
  h.keep fun b _ hl => hb.block b hl
theorem Row.alloc {w : World} {e sz : Nat} {A : Option Addr} {n cap : Nat} {xs : List Value} (h : Row w e sz A n cap xs) (o : Obj) : Row (w.alloc o) e sz A n cap xs :=
  h.keep fun _ _ hl => blk_alloc hl o
theorem Row.setCell {w : World} {e sz : Nat} {A : Option Addr} {n cap : Nat} {xs : List Value} (h : Row w e sz A n cap xs) {p : Addr} (hp : ¬ InA A p.block) (u : Value) : Row (w.setCell p u) e sz A n cap xs :=
  h.keep fun b hb _ => blk_far (fun e => hp (by subst e; exact hb)) u
theorem Row.through {w w' : World} {e sz : Nat} {A : Option Addr} {n cap : Nat} {xs : List Value} (h : Row w e sz A n cap xs) {F : Nat → Prop} (hk : Keep F w w') (hF : ∀ b, InA A b → ¬ F b) : Row w' e sz A n cap xs :=
  h.keep fun b hb hl => hk.block b hl (hF b hb)
/-- Two rows whose elements are of different types lie apart; likewise a row and a block of another type. -/
theorem Row.apart {w : World} {e sz : Nat} {A : Option Addr} {n cap : Nat} {xs : List Value} (h : Row w e sz A n cap xs) {b t : Nat} {cs : Array Value} {fz : Nat × Nat} (hb : w.heap[b]? = some (.cells cs t fz)) (hne : e ≠ t) : ¬ InA A b := by
  intro hi
  rcases h.2 with ⟨rfl, _⟩ | ⟨b', off, cur, rfl, hh, _⟩
  · simp [InA] at hi
  · simp [InA] at hi
    subst hi
    rw [hh] at hb
    injection hb with hb
    injection hb with _ h2
    exact hne h2
theorem Row.apart2 {w : World} {e sz e2 sz2 : Nat} {A A2 : Option Addr} {n cap n2 cap2 : Nat} {xs xs2 : List Value} (h : Row w e sz A n cap xs) (h2 : Row w e2 sz2 A2 n2 cap2 xs2) (hne : e ≠ e2) : ∀ b, InA A b → ¬ InA A2 b := by
  intro b hb hb2
  rcases h2.2 with ⟨rfl, _⟩ | ⟨b', off, cur, rfl, hh, _⟩
  · simp [InA] at hb2
  · simp [InA] at hb2
    subst hb2
    exact h.apart hh hne hb
/-- Cut off the first. -/
theorem Row.tail {w : World} {e sz : Nat} {A : Option Addr} {n cap : Nat} {xs : List Value} (h : Row w e sz A n cap xs) {k : Nat} (hk : k ≤ n) :
    Row w e sz (if cap = k then A else A.map (·.add (k * sz))) (n - k) (cap - k) (xs.drop (k * sz)) := by
  have hlen : (xs.drop (k * sz)).length = (n - k) * sz := by rw [List.length_drop, h.1, Nat.sub_mul]
  refine ⟨hlen, ?_⟩
  rcases h.2 with ⟨rfl, rfl, rfl⟩ | ⟨b, off, cur, rfl, hh, h1, h2, h3, h4⟩
  · left; refine ⟨by split <;> rfl, by omega, by omega⟩
  · right
    by_cases hc : cap = k
    · subst hc
      refine ⟨b, off, cur, by simp, hh, by omega, by omega, by simp; omega, ?_⟩
      intro j u hu
      have := (List.getElem?_eq_some_iff.1 hu).1
      rw [hlen] at this
      have hz : n - cap = 0 := by omega
      rw [hz] at this
      omega
    · refine ⟨b, off + k * sz, cur, ?_, hh, by omega, by omega, ?_, ?_⟩
      · rw [if_neg hc]
        simp only [Option.map_some, Addr.add]
        by_cases h0 : k * sz = 0 <;> simp [h0]
      · have : k * sz + (cap - k) * sz = cap * sz := by rw [← Nat.add_mul]; congr 1; omega
        omega
      · intro j u hu
        rw [List.getElem?_drop] at hu
        rw [Nat.add_assoc]
        exact h4 _ u hu

theorem setCells_heap {e : Nat} (b : Nat) : ∀ (vs : List Value) (o : Nat) (w : World) (cur : Array Value), w.heap[b]? = some (.cells cur e (0, 0)) → o + vs.length ≤ cur.size →
    ∃ cur', (w.setCells b o vs).heap[b]? = some (.cells cur' e (0, 0)) ∧ cur'.size = cur.size ∧ (∀ j, j < o → cur'[j]? = cur[j]?) ∧ (∀ j u, vs[j]? = some u → cur'[o + j]? = some u)
  | [], o, w, cur, h, _ => ⟨cur, h, rfl, fun _ _ => rfl, fun j u hu => by simp at hu⟩
  | v :: r, o, w, cur, h, hl => by
    have h1 := blk_set h o v
    obtain ⟨cur', a1, a2, a3, a4⟩ := setCells_heap b r (o + 1) (w.setCell ⟨b, o, none⟩ v) _ h1 (by simp at hl ⊢; omega)
    refine ⟨cur', a1, by simpa using a2, fun j hj => ?_, fun j u hu => ?_⟩
    · rw [a3 j (by omega), Array.getElem?_setIfInBounds_ne (by omega)]
    · cases j with
      | zero =>
        simp at hu; subst hu
        rw [a3 _ (by omega)]
        simp at hl
        simp [Array.getElem?_setIfInBounds]
        omega
      | succ j =>
        simp at hu
        have := a4 j u hu
        rw [show o + (j + 1) = o + 1 + j by omega]; exact this
theorem setCells_far (b : Nat) : ∀ (vs : List Value) (o : Nat) (w : World) (k : Nat), k ≠ b → (w.setCells b o vs).heap[k]? = w.heap[k]?
  | [], _, _, _, _ => rfl
  | v :: r, o, w, k, h => by
    rw [World.setCells, setCells_far b r (o + 1) _ k h]
    exact blk_far (p := ⟨b, o, none⟩) h v
theorem setCells_rest (b : Nat) : ∀ (vs : List Value) (o : Nat) (w : World), (w.setCells b o vs).os = w.os ∧ (w.setCells b o vs).tape = w.tape ∧ (w.setCells b o vs).output = w.output ∧ (w.setCells b o vs).heap.size = w.heap.size
  | [], _, _ => ⟨rfl, rfl, rfl, rfl⟩
  | v :: r, o, w => by
    have := setCells_rest b r (o + 1) (w.setCell ⟨b, o, none⟩ v)
    simpa [World.setCells, World.setCell] using this

section
variable {P : Program} (w : World)
theorem run_append_row (t ty e : TypeId) (i : TypeInfo) (z : Value) (size bytes : Nat) (ht : P.underlying t = some (.slice e)) (hi : P.info? e = some i) (hz : i.zero = some z)
    (hsize : i.size = size) (hby : i.bytes = bytes) (hzs : z.cells.size = size) (hsz : 0 < size)
    (A : Option Addr) (n cap : Nat) (xs : List Value) (hrow : Row w e size A n cap xs)
    (A2 : Option Addr) (m c : Nat) (news : List Value) (hnews : Sl w A2 size m news) (h1 : ∀ u ∈ news, u.oneCell' = true)
    (h63 : n + m ≤ maxLen) (hbytes : (n + m) * bytes ≤ 140737488355328) :
    ∃ A' cap' w', (Builtin.append_ #[t, t] ty #[.slice A n cap, .slice A2 m c]).run P w = .ok (.slice A' (n + m) cap') w' ∧ Row w' e size A' (n + m) cap' (xs ++ news) ∧ Keep (InA A) w w' ∧
      (∀ k, InA A' k → InA A k ∨ w.heap.size ≤ k) := by
  subst hsize
  subst hby
  have hlen : (xs ++ news).length = (n + m) * i.size := by rw [List.length_append, hrow.1, hnews.1, Nat.add_mul]
  by_cases hm : m = 0
  · subst hm
    have hn0 : news = [] := List.eq_nil_of_length_eq_zero (by simpa using hnews.1)
    subst hn0
    have hle := hrow.le
    refine ⟨A, cap, w, ?_, by simpa using hrow, Keep.refl _ _, fun k hk => .inl hk⟩
    have hfc : (Builtin.firstCells i.size 0 (.slice A2 0 c)).run P w = .ok #[] w := by
      cases A2 <;> simp [Builtin.firstCells, loadCells, loadCellsFrom]
    cases A <;> simp [Builtin.append_, run_underlying ht, sizeOf, typeInfo, hi, Builtin.lenOf, hfc, storeCells, hle.1]
  · obtain ⟨b2, o2, rfl, hb2, hx2⟩ := hnews.2 (by omega)
    have hcells : ∀ j u, news[j]? = some u → w.cell? ((⟨b2, o2, none⟩ : Addr).add j) = some u := fun j u hj => by rw [Addr.add_lit]; exact hx2 j u hj
    rcases hrow.2 with ⟨rfl, rfl, rfl⟩ | ⟨b, off, cur, rfl, hh, hc1, hc2, hc3, hc4⟩
    · have hx0 : xs = [] := List.eq_nil_of_length_eq_zero (by simpa using hrow.1)
      subst hx0
      obtain ⟨v', w', hrun, r1, r2, r3⟩ := run_append_own (P := P) w w.heap.size t ty e i z i.size i.bytes ht hi hz rfl rfl hzs hsz (.slice none 0 0) 0 [] (World.ownsRow_nil w _ e i.size) ⟨b2, o2, none⟩ m c news hnews.1 hcells h1 h63 hbytes (Nat.le_refl _)
      obtain ⟨l1, l2⟩ := r1
      rcases l2 with ⟨rfl, l2⟩ | ⟨g, cap', cur', rfl, g1, g2, g3, g4, g5, g6⟩
      · omega
      · refine ⟨_, cap', w', hrun, ⟨hlen, .inr ⟨g, 0, cur', rfl, g2, g3, g4, by omega, fun j u hu => ?_⟩⟩, ⟨r2.os, r2.tape, r2.output, r2.size, fun k hk _ => r2.block k hk (by simp [Value.ownBlock])⟩, ?_⟩
        · rw [← g6] at hu
          rw [Nat.zero_add]
          rw [List.getElem?_take] at hu
          split at hu
          · simpa using hu
          · simp at hu
        · intro k hk; right; simp [InA] at hk; omega
    · by_cases hr : n + m ≤ cap
      · have hsum : n * i.size + news.length ≤ cap * i.size := by rw [hnews.1, ← Nat.add_mul]; exact Nat.mul_le_mul_right _ hr
        obtain ⟨cur', s1, s2, s3, s4⟩ := setCells_heap (e := e) b news (off + n * i.size) w cur hh (by omega)
        have hrun := run_append_room_cells (P := P) w t ty e i ht hi b off n cap ⟨b2, o2, none⟩ m c news hnews.1 hcells h1 hr
          (fun j hj => by rw [blk_cell hh]; rw [Array.getElem?_eq_getElem (by omega)]; rfl) (fun j hj => blk_free hh _)
        have hrest := setCells_rest b news (off + n * i.size) w
        refine ⟨_, cap, _, hrun, ⟨hlen, .inr ⟨b, off, cur', rfl, s1, hr, hc2, by omega, fun j u hu => ?_⟩⟩, ⟨hrest.1, hrest.2.1, hrest.2.2.1, by rw [hrest.2.2.2]; exact Nat.le_refl _, fun k hk hn => setCells_far b news _ w k (fun e => hn (by subst e; rfl))⟩, fun k hk => .inl hk⟩
        by_cases hj : j < xs.length
        · rw [List.getElem?_append_left hj] at hu
          rw [s3 _ (by have := hrow.1; omega)]
          exact hc4 j u hu
        · rw [List.getElem?_append_right (by omega)] at hu
          have := s4 _ u hu
          rw [hrow.1] at this
          have hx := hrow.1
          rw [show off + j = off + n * i.size + (j - n * i.size) by omega]
          exact this
      · obtain ⟨v', w', hrun, r1, r2⟩ := run_append_arg_grows (P := P) w t ty e i z i.size i.bytes ht hi hz rfl rfl hzs hsz ⟨b, off, none⟩ n cap xs hrow.1
          (fun j u hj => by rw [Addr.add_lit, blk_cell hh]; exact hc4 j u hj) ⟨b2, o2, none⟩ m c news hnews.1 hcells (by omega) h63 hbytes
        obtain ⟨l1, l2⟩ := r1
        rcases l2 with ⟨rfl, l2⟩ | ⟨g, cap', cur', rfl, g1, g2, g3, g4, g5, g6⟩
        · omega
        · refine ⟨_, cap', w', hrun, ⟨hlen, .inr ⟨g, 0, cur', rfl, g2, g3, g4, by omega, fun j u hu => ?_⟩⟩, ⟨r2.os, r2.tape, r2.output, r2.size, fun k hk _ => r2.block k hk (by simp)⟩, ?_⟩
          · rw [← g6] at hu
            rw [Nat.zero_add]
            rw [List.getElem?_take] at hu
            split at hu
            · simpa using hu
            · simp at hu
          · intro k hk; right; simp [InA] at hk; omega

theorem wpList_append_row {ops : Array Oper} {rest : List Oper} {o : Oper} {a : Act} {Q : Exit → Act → World → Prop} (hg : o.guard = none) (s x : Operand) (t : TypeId)
    (hop : o.op = Op.call { callee := Callee.builtin Builtin.append, args := #[s, x], argTypes := #[t, t] })
    (e : TypeId) (i : TypeInfo) (z : Value) (size bytes : Nat) (ht : P.underlying t = some (.slice e)) (hi : P.info? e = some i) (hz : i.zero = some z)
    (hsize : i.size = size) (hby : i.bytes = bytes) (hzs : z.cells.size = size) (hsz : 0 < size)
    (A : Option Addr) (n cap : Nat) (xs : List Value) (hs : a.eval s = .slice A n cap) (hrow : Row w e size A n cap xs)
    (A2 : Option Addr) (m c : Nat) (news : List Value) (hx : a.eval x = .slice A2 m c) (hnews : Sl w A2 size m news) (h1 : ∀ u ∈ news, u.oneCell' = true)
    (h63 : n + m ≤ maxLen) (hbytes : (n + m) * bytes ≤ 140737488355328)
    (h : ∀ A' cap' w', Row w' e size A' (n + m) cap' (xs ++ news) → Keep (InA A) w w' → (∀ k, InA A' k → InA A k ∨ w.heap.size ≤ k) → wpList P ops Q rest (a.put o.dst (.slice A' (n + m) cap')) w') :
    wpList P ops Q (o :: rest) a w := by
  refine wpList_plain hg fun K hK' => ?_
  obtain ⟨A', cap', w', hrun, r1, r2, r3⟩ := run_append_row (P := P) w t o.type e i z size bytes ht hi hz hsize hby hzs hsz A n cap xs hrow A2 m c news hnews h1 h63 hbytes
  unfold Oper.wp
  simp [execOp, hop, resolve, invoke, builtin, hs, hx, hrun, Result.andThen]
  exact hK' _ _ (h A' cap' w' r1 r2 r3)
end
end Go.Proofs.YthdmgighblhmhaaGreatDoor

/- The plain mathematics of framekeep's layers (spans, wires, flows): what each Go function computes, as Lean functions on plain data. No program in sight. -/
namespace Go.Proofs.YthdmgighblhmhaaGreatDoor

def roomB (n : Int) : Bool := decide (0 ≤ n ∧ n < 5)
theorem roomB_true {n : Int} : roomB n = true ↔ 0 ≤ n ∧ n < 5 := by simp [roomB]
theorem roomB_false {n : Int} : roomB n = false ↔ n < 0 ∨ 5 ≤ n := by simp [roomB]; omega

structure Wire where
  fr : Int
  to : Int
  kind : Int
  deep : Int
def Wire.cells (x : Wire) : List Value := [.int .i64 x.fr, .int .i64 x.to, .int .i64 x.kind, .int .i64 x.deep]
def wireChk (x : Wire) : Int :=
  if roomB x.fr = false ∨ roomB x.to = false ∨ (x.kind ≠ 1 ∧ x.kind ≠ 2) ∨ x.deep < 1 ∨ 6 < x.deep ∨ (x.kind = 1 ∧ x.deep ≠ 1) then 1
  else if x.fr = x.to then 3 else 0

structure Span where
  fr : Int
  to : Int
  room : Int
def Span.cells (x : Span) : List Value := [.int .i64 x.fr, .int .i64 x.to, .int .i64 x.room]

theorem flatMap_get {α : Type} (f : α → List Value) (sz : Nat) (hf : ∀ x, (f x).length = sz) : ∀ (l : List α) (k j : Nat) (x : α), l[k]? = some x → j < sz → (l.flatMap f)[k * sz + j]? = (f x)[j]?
  | [], k, j, x, h, _ => by simp at h
  | y :: l, 0, j, x, h, hj => by
    simp at h; subst h
    rw [List.flatMap_cons, List.getElem?_append_left (by rw [hf]; omega)]
    simp
  | y :: l, k + 1, j, x, h, hj => by
    simp at h
    have := flatMap_get f sz hf l k j x h hj
    rw [List.flatMap_cons, List.getElem?_append_right (by rw [hf, Nat.succ_mul]; omega), hf]
    rw [← this]
    congr 1
    rw [Nat.succ_mul]; omega
theorem flatMap_len {α : Type} (f : α → List Value) (sz : Nat) (hf : ∀ x, (f x).length = sz) : ∀ (l : List α), (l.flatMap f).length = l.length * sz
  | [] => by simp
  | y :: l => by rw [List.flatMap_cons, List.length_append, hf, flatMap_len f sz hf l, List.length_cons, Nat.succ_mul]; omega
theorem Wire.len (x : Wire) : x.cells.length = 4 := rfl
theorem Span.len (x : Span) : x.cells.length = 3 := rfl

structure Op where
  what : Int
  a : Int
  b : Int
def Op.cells (x : Op) : List Value := [.int .i64 x.what, .int .i64 x.a, .int .i64 x.b]
theorem Op.len (x : Op) : x.cells.length = 3 := rfl
/-- A room's code as it lies: its slice, and its ops. -/
structure Ro where
  A : Option Addr
  c : Nat
  ops : List Op
def Ro.cells (r : Ro) : List Value := [.slice r.A r.ops.length r.c]
theorem Ro.len (x : Ro) : x.cells.length = 1 := rfl

/-- The plan of rooms that count. -/
def countOps : List Op := [⟨1, 1, 1⟩, ⟨3, 0, 1⟩]
def countSpans (n : Nat) : List Span := (List.range n).map fun (i : Nat) => (⟨i, i + 1, i⟩ : Span)
end Go.Proofs.YthdmgighblhmhaaGreatDoor

/- Rows of structs: an element read, an element put. Conditions: none; plain lemmas over any program. -/
namespace Go.Proofs.YthdmgighblhmhaaGreatDoor
open Go.RowKit
set_option maxRecDepth 100000
theorem set_map {α β : Type} (f : α → β) (l : List α) (i : Nat) (x y : α) (h : l[i]? = some x) (hf : f y = f x) : (l.set i y).map f = l.map f := by
  apply List.ext_getElem?
  intro j
  rw [List.getElem?_map, List.getElem?_map, List.getElem?_set]
  by_cases hj : i = j
  · subst hj
    obtain ⟨hlt, _⟩ := List.getElem?_eq_some_iff.1 h
    rw [if_pos rfl, if_pos hlt, h]; simp [hf]
  · rw [if_neg hj]

section
variable {w w' : World}
theorem setCells_above {e : Nat} (b : Nat) : ∀ (vs : List Value) (o : Nat) (w : World) (cur : Array Value), w.heap[b]? = some (.cells cur e (0, 0)) → ∀ cur', (w.setCells b o vs).heap[b]? = some (.cells cur' e (0, 0)) → ∀ j, o + vs.length ≤ j → cur'[j]? = cur[j]?
  | [], o, w, cur, h, cur', h', j, _ => by
    rw [show w.setCells b o [] = w from rfl, h] at h'
    cases h'; rfl
  | v :: r, o, w, cur, h, cur', h', j, hj => by
    have h1 := blk_set h o v
    rw [List.length_cons] at hj
    rw [setCells_above b r (o + 1) (w.setCell ⟨b, o, none⟩ v) _ h1 cur' h' j (by omega), Array.getElem?_setIfInBounds_ne (by omega)]
/-- An element of a row. -/
theorem Row.elem {α : Type} (f : α → List Value) {sz e n cap : Nat} (hf : ∀ x, (f x).length = sz) {A : Option Addr} {l : List α} (h : Row w e sz A n cap (l.flatMap f)) (hsz : 0 < sz) {i : Nat} {x : α} (hx : l[i]? = some x) :
    ∃ b off cur, A = some ⟨b, off, none⟩ ∧ w.heap[b]? = some (.cells cur e (0, 0)) ∧ off + cap * sz ≤ cur.size ∧ i < n ∧ n ≤ cap ∧ cap ≤ maxLen ∧ ∀ j u, (f x)[j]? = some u → cur[off + (i * sz + j)]? = some u := by
  have hlen := h.1
  rw [flatMap_len f sz hf] at hlen
  have hn : l.length = n := Nat.eq_of_mul_eq_mul_right hsz hlen
  have hil := (List.getElem?_eq_some_iff.1 hx).1
  rcases h.2 with ⟨rfl, rfl, rfl⟩ | ⟨b, off, cur, rfl, hh, h1, h2, h3, h4⟩
  · omega
  · refine ⟨b, off, cur, rfl, hh, h3, by omega, h1, h2, fun j u hu => h4 _ u ?_⟩
    have hj := (List.getElem?_eq_some_iff.1 hu).1
    rw [hf] at hj
    exact (flatMap_get f sz hf l i j x hx hj).trans hu
/-- An element is put. -/
theorem Row.put {α : Type} (f : α → List Value) {sz e n cap : Nat} (hf : ∀ x, (f x).length = sz) {A : Option Addr} {l : List α} (h : Row w e sz A n cap (l.flatMap f)) (hsz : 0 < sz) {i : Nat} {b off : Nat} (hA : A = some ⟨b, off, none⟩) (y : α) (cur cur' : Array Value)
    (hc : w.heap[b]? = some (.cells cur e (0, 0))) (hh : w'.heap[b]? = some (.cells cur' e (0, 0))) (hs : cur'.size = cur.size) (hout : ∀ j, (j < off + i * sz ∨ off + i * sz + sz ≤ j) → cur'[j]? = cur[j]?) (hin : ∀ j u, (f y)[j]? = some u → cur'[off + i * sz + j]? = some u) :
    Row w' e sz A n cap ((l.set i y).flatMap f) := by
  have hlen := h.1
  rw [flatMap_len f sz hf] at hlen
  have hn : l.length = n := Nat.eq_of_mul_eq_mul_right hsz hlen
  refine ⟨by rw [flatMap_len f sz hf, List.length_set, hn], ?_⟩
  subst hA
  rcases h.2 with ⟨h0, _⟩ | ⟨b', off', cur0, hA, hh0, h1, h2, h3, h4⟩
  · cases h0
  · cases hA
    rw [hc] at hh0
    cases hh0
    refine .inr ⟨b, off, cur', rfl, hh, h1, h2, by rw [hs]; exact h3, fun p u hu => ?_⟩
    have hp := (List.getElem?_eq_some_iff.1 hu).1
    rw [flatMap_len f sz hf, List.length_set, hn] at hp
    have hq : p / sz < n := (Nat.div_lt_iff_lt_mul hsz).2 hp
    have hr : p % sz < sz := Nat.mod_lt _ hsz
    have hpe : p / sz * sz + p % sz = p := Nat.div_add_mod' p sz
    by_cases hqi : p / sz = i
    · have hg : (l.set i y)[p / sz]? = some y := by rw [hqi, List.getElem?_set_self (by omega)]
      have := flatMap_get f sz hf _ _ (p % sz) y hg hr
      rw [hpe, hu] at this
      have h5 := hin _ u this.symm
      rw [← hqi] at h5
      rwa [Nat.add_assoc, hpe] at h5
    · have hg : (l.set i y)[p / sz]? = l[p / sz]? := by rw [List.getElem?_set_ne (fun e => hqi e.symm)]
      have hl : l[p / sz]? = some (l[p / sz]'(by omega)) := List.getElem?_eq_getElem (by omega)
      have e1 := flatMap_get f sz hf _ _ (p % sz) _ (hg.trans hl) hr
      have e2 := flatMap_get f sz hf _ _ (p % sz) _ hl hr
      rw [hpe] at e1 e2
      have e3 := h4 p u (e2.trans (e1.symm.trans hu))
      rw [hout]
      · exact e3
      · rcases Nat.lt_or_gt_of_ne hqi with hlt | hgt
        · left
          have : (p / sz + 1) * sz ≤ i * sz := Nat.mul_le_mul_right _ hlt
          rw [Nat.succ_mul] at this
          omega
        · right
          have : (i + 1) * sz ≤ p / sz * sz := Nat.mul_le_mul_right _ hgt
          rw [Nat.succ_mul] at this
          omega


/-- An element of one cell is put. -/
theorem Row.put1 {α : Type} (f : α → List Value) {e n cap : Nat} (hf : ∀ x, (f x).length = 1) {A : Option Addr} {l : List α} (h : Row w e 1 A n cap (l.flatMap f)) {i : Nat} {x : α} (hx : l[i]? = some x) (y : α) (v : Value) (hv : f y = [v]) :
    ∃ b off, A = some ⟨b, off, none⟩ ∧ w.cell? ⟨b, off + i, none⟩ = (f x)[0]? ∧ w.frozen? ⟨b, off + i, none⟩ = false ∧ b < w.heap.size ∧ i < n ∧ n ≤ cap ∧ cap ≤ maxLen ∧ Row (w.setCell ⟨b, off + i, none⟩ v) e 1 A n cap ((l.set i y).flatMap f) := by
  obtain ⟨b, off, cur, rfl, hh, hsz, hi, hnc, hcm, hg⟩ := h.elem f hf (by decide) hx
  have hx0 : ∃ u, (f x)[0]? = some u := ⟨_, List.getElem?_eq_getElem (by rw [hf]; decide)⟩
  obtain ⟨u, hu⟩ := hx0
  refine ⟨b, off, rfl, ?_, blk_free hh _, blk_lt hh, hi, hnc, hcm, ?_⟩
  · rw [blk_cell hh, hu]
    have := hg 0 u hu
    simpa using this
  · refine h.put f hf (by decide) (i := i) rfl y cur (cur.setIfInBounds (off + i) v) hh (blk_set hh _ _) (by simp) (fun j hj => ?_) (fun j u' hu' => ?_)
    · rw [Array.getElem?_setIfInBounds_ne (by omega)]
    · rw [hv] at hu'
      match j, hu' with
      | 0, hu' =>
        simp at hu'
        subst hu'
        simp [Array.getElem?_setIfInBounds]
        omega
end
end Go.Proofs.YthdmgighblhmhaaGreatDoor
