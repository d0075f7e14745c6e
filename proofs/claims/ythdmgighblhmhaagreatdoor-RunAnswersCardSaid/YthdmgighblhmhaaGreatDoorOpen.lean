/- What an argument is, by its type's shape: integers, slices, structs of integers, by value and as elements. -/
import Derived.Test.YthdmgighblhmhaaGreatDoorBaseU
import Derived.Test.YthdmgighblhmhaaGreatDoorRows
import Derived.ProofKit
import Derived.Deep.Slices
namespace Go.Proofs.YthdmgighblhmhaaGreatDoor
open Go.RowKit Go.ChangeShapes Go.WideShapes Go.ChangeAt
set_option maxRecDepth 100000

theorem int_lo {a : Int} (h : (Lit.int .i64 a).wf = true) : -9223372036854775808 ≤ a := by
  have h1 : IntKind.i64.min = -9223372036854775808 := by decide
  simp only [Lit.wf, Bool.and_eq_true, decide_eq_true_eq, h1] at h; exact h.1
theorem int_hi {a : Int} (h : (Lit.int .i64 a).wf = true) : a ≤ 9223372036854775807 := by
  have h1 : IntKind.i64.max = 9223372036854775807 := by decide
  simp only [Lit.wf, Bool.and_eq_true, decide_eq_true_eq, h1] at h; exact h.2

/-- An int of Go. -/
def Fits (a : Int) : Prop := -9223372036854775808 ≤ a ∧ a ≤ 9223372036854775807
theorem fits_of {a : Int} (h : (Lit.int .i64 a).wf = true) : Fits a := ⟨int_lo h, int_hi h⟩
/-- What is known of a slice that came in. -/
def SlW (A : Option Addr) (c n : Nat) : Prop := n ≤ c ∧ c ≤ maxLen ∧ (A = none → n = 0 ∧ c = 0)

section
variable {H : Type} {enc : TypeId × Value → H} {P : Program} {w : World} {base : Nat} {spare : Nat → Bool} {held : Bool}

theorem sl_collect {α : Type} (cells : α → List Value) (sz : Nat) (hlen : ∀ x, (cells x).length = sz) (WF : α → Prop) (a : Addr) :
    ∀ m, (∀ i, i < m → ∃ x, (∀ j, j < sz → w.cell? (a.add (i * sz + j)) = (cells x)[j]?) ∧ WF x) →
      ∃ l : List α, l.length = m ∧ (∀ j u, (l.flatMap cells)[j]? = some u → w.cell? (a.add j) = some u) ∧ ∀ x ∈ l, WF x
  | 0, _ => ⟨[], rfl, fun j u h => by simp at h, fun x h => by simp at h⟩
  | m + 1, h => by
    obtain ⟨l, h1, h2, h3⟩ := sl_collect cells sz hlen WF a m (fun i hi => h i (by omega))
    obtain ⟨x, hx, hw⟩ := h m (by omega)
    have hll := flatMap_len cells sz hlen l
    refine ⟨l ++ [x], by simp [h1], fun j u hu => ?_, fun y hy => ?_⟩
    · rw [List.flatMap_append, List.flatMap_cons, List.flatMap_nil, List.append_nil] at hu
      by_cases hj : j < (l.flatMap cells).length
      · rw [List.getElem?_append_left hj] at hu
        exact h2 j u hu
      · rw [List.getElem?_append_right (by omega)] at hu
        have hlt := (List.getElem?_eq_some_iff.1 hu).1
        rw [hlen] at hlt
        have := hx (j - (l.flatMap cells).length) hlt
        rw [hu, hll, h1] at this
        rw [show m * sz + (j - m * sz) = j by rw [hll, h1] at hj; omega] at this
        exact this
    · rcases List.mem_append.1 hy with hy | hy
      · exact h3 y hy
      · simp at hy; subst hy; exact hw

/-- A slice's reading: the elements as a list. -/
theorem open_sl {α : Type} {t e sz : Nat} (cells : α → List Value) (WF : α → Prop) (hlen : ∀ x, (cells x).length = sz) (ht : P.underlying t = some (.slice e)) (hsz : P.cellsOf e = sz) (hpos : 0 < sz)
    (he : ∀ n cs x, DataW.trod enc P w base spare held n e cs = some x → ∃ a, cs = cells a ∧ WF a)
    {fuel : Nat} {cs : List Value} {x : DataW H × List MemPlace} (h : DataW.trod enc P w base spare held fuel t cs = some x) :
    ∃ (A : Option Addr) (c : Nat) (l : List α), cs = [.slice A l.length c] ∧ Sl w A sz l.length (l.flatMap cells) ∧ SlW A c l.length ∧ (∀ y ∈ l, WF y) := by
  rcases Go.Deep.open_slice ht h with ⟨rfl, _⟩ | ⟨a, len, cap, m, n, D, Pl, rfl, hb, hl, hm, hmm, _, hi⟩
  · exact ⟨none, 0, [], rfl, Sl.nil _ _ _, ⟨Nat.le_refl _, Nat.zero_le _, fun _ => ⟨rfl, rfl⟩⟩, fun y hy => by simp at hy⟩
  · have hlm : len ≤ m := by rw [hmm]; split <;> omega
    obtain ⟨l, h1, h2, h3⟩ := sl_collect (w := w) cells sz hlen WF a len (fun i hil => by
      obtain ⟨cs', hc, ht'⟩ := hi i (by omega)
      obtain ⟨x, rfl, hw⟩ := he n cs' _ ht'
      rw [hsz] at hc
      obtain ⟨_, _, hat⟩ := World.cells?_some hc
      refine ⟨x, fun j hj => ?_, hw⟩
      rw [← hat j hj, ← Go.Deep.add_add])
    subst h1
    refine ⟨some a, cap, l, rfl, ⟨flatMap_len cells sz hlen l, fun hn => ?_⟩, ⟨hl, hm, fun h => by cases h⟩, h3⟩
    have hall := flatMap_len cells sz hlen l
    have h0 : 0 < (l.flatMap cells).length := by rw [hall]; exact Nat.mul_pos hn hpos
    have hc0 := h2 0 _ (List.getElem?_eq_getElem h0)
    obtain ⟨b, off, spot⟩ := a
    have hspot : spot = none := by
      cases spot with
      | none => rfl
      | some s =>
        exfalso
        simp only [Addr.add, ↓reduceIte, World.cell?] at hc0
        split at hc0 <;> simp at hc0
    subst hspot
    refine ⟨b, off, rfl, ?_, fun j u hu => ?_⟩
    · have := World.block_lt_of_cell? w _ hc0
      simpa [Addr.add] using this
    · have := h2 j u hu
      rwa [Addr.add_lit] at this

theorem open_sl_arg {α : Type} {t e sz b0 : Nat} {r : Reach} {v : Value} {d : DataW H} {p : List MemPlace} (cells : α → List Value) (WF : α → Prop) (hlen : ∀ x, (cells x).length = sz) (ht : P.underlying t = some (.slice e)) (hsz : P.cellsOf e = sz) (hpos : 0 < sz)
    (he : ∀ n cs x, DataW.trod enc P w base spare held n e cs = some x → ∃ a, cs = cells a ∧ WF a)
    (hv : Value.okWide P w r b0 t v) (h : DataW.Trod enc P w base spare held t v d p) :
    ∃ (A : Option Addr) (c : Nat) (l : List α), v = .slice A l.length c ∧ Sl w A sz l.length (l.flatMap cells) ∧ SlW A c l.length ∧ (∀ y ∈ l, WF y) := by
  obtain ⟨A0, n0, c0, rfl⟩ := okWide_slice ht hv
  obtain ⟨fuel, hf⟩ := h
  obtain ⟨A, c, l, hcs, h1, h2, h3⟩ := open_sl cells WF hlen ht hsz hpos he hf
  simp [Value.cells] at hcs
  obtain ⟨rfl, rfl, rfl⟩ := hcs
  exact ⟨_, _, l, rfl, h1, h2, h3⟩

/-- A struct of integers. -/
theorem trod_ints {t ti : TypeId} {fs : Array Field} (ht : P.underlying t = some (.struct fs)) (hi : P.underlying ti = some (.int .i64)) (hci : P.cellsOf ti = 1) (hC : P.cellsOf t = fs.size)
    (hf : ∀ i (h : i < fs.size), fs[i].type = ti ∧ fs[i].offset = i) {fuel : Nat} {cs : List Value} {x : DataW H × List MemPlace} (h : DataW.trod enc P w base spare held fuel t cs = some x) :
    ∃ zs : List Int, zs.length = fs.size ∧ cs = zs.map (.int .i64) ∧ ∀ z ∈ zs, Fits z := by
  obtain ⟨xs, n, _, _, hl, hxl, hg⟩ := DataW.trod_struct ht h
  rw [hC] at hl
  have each : ∀ i, i < cs.length → ∃ z, cs[i]? = some (.int .i64 z) ∧ Fits z := by
    intro i hil
    have hif : i < fs.size := by omega
    have h1 := hg i fs[i] (Array.getElem?_eq_getElem hif)
    obtain ⟨e1, e2⟩ := hf i hif
    rw [e1, e2, hci] at h1
    have hone : (cs.drop i).take 1 = [cs[i]] := by
      rw [List.drop_eq_getElem_cons hil]; rfl
    rw [hone, List.getElem?_eq_getElem (by omega : i < xs.length)] at h1
    obtain ⟨z, hz, _, hwf⟩ := DataW.trod_int hi h1
    simp at hz
    exact ⟨z, by rw [List.getElem?_eq_getElem hil, hz], fits_of hwf⟩
  have build : ∀ (l : List Value), (∀ i, i < l.length → ∃ z, l[i]? = some (.int .i64 z) ∧ Fits z) → ∃ zs : List Int, zs.length = l.length ∧ l = zs.map (.int .i64) ∧ ∀ z ∈ zs, Fits z := by
    intro l
    induction l with
    | nil => exact fun _ => ⟨[], rfl, rfl, fun z hz => by simp at hz⟩
    | cons y r ih =>
      intro hh
      obtain ⟨z, hz, hfz⟩ := hh 0 (by simp)
      obtain ⟨zs, h1, h2, h3⟩ := ih (fun i hi => by have := hh (i + 1) (by simp; omega); simpa using this)
      simp at hz
      exact ⟨z :: zs, by simp [h1], by rw [hz, h2]; simp, fun u hu => by
        rcases List.mem_cons.1 hu with rfl | hu
        · exact hfz
        · exact h3 u hu⟩
  obtain ⟨zs, h1, h2, h3⟩ := build cs each
  exact ⟨zs, by omega, h2, h3⟩
theorem trod_ints_arg {t ti b0 : TypeId} {r : Reach} {fs : Array Field} {v : Value} {d : DataW H} {p : List MemPlace} (ht : P.underlying t = some (.struct fs)) (hi : P.underlying ti = some (.int .i64)) (hci : P.cellsOf ti = 1) (hC : P.cellsOf t = fs.size)
    (hf : ∀ i (h : i < fs.size), fs[i].type = ti ∧ fs[i].offset = i) (hv : Value.okWide P w r b0 t v) (h : DataW.Trod enc P w base spare held t v d p) :
    ∃ zs : List Int, zs.length = fs.size ∧ v = .agg (zs.map (.int .i64)).toArray ∧ ∀ z ∈ zs, Fits z := by
  obtain ⟨cs, rfl, hsz⟩ := okWide_struct ht hv
  obtain ⟨fuel, hf'⟩ := h
  obtain ⟨zs, h1, h2, h3⟩ := trod_ints ht hi hci hC hf hf'
  exact ⟨zs, h1, by simp [Value.cells] at h2; rw [← h2], h3⟩
end

def Wire.Ok (x : Wire) : Prop := Fits x.fr ∧ Fits x.to ∧ Fits x.kind ∧ Fits x.deep
def Span.Ok (x : Span) : Prop := Fits x.fr ∧ Fits x.to ∧ Fits x.room

section
variable {H : Type} {enc : TypeId × Value → H} {w : World} {base : Nat} {spare : Nat → Bool} {held : Bool}
theorem elem_int (n : Nat) (cs : List Value) (x : DataW H × List MemPlace) (h : DataW.trod enc Tryz.prog w base spare held n 3 cs = some x) : ∃ a : Int, cs = [.int .i64 a] ∧ Fits a := by
  obtain ⟨z, hz, _, hwf⟩ := DataW.trod_int Tryz.underlying3 h
  exact ⟨z, hz, fits_of hwf⟩
theorem elem_wire (n : Nat) (cs : List Value) (x : DataW H × List MemPlace) (h : DataW.trod enc Tryz.prog w base spare held n 62 cs = some x) : ∃ a : Wire, cs = a.cells ∧ a.Ok := by
  obtain ⟨zs, h1, rfl, h3⟩ := trod_ints Tryz.underlying62 Tryz.underlying3 (by kernel_rfl) (by kernel_rfl) (by decide) h
  match zs, h1 with
  | [a, b, c, d], _ => exact ⟨⟨a, b, c, d⟩, rfl, h3 a (by simp), h3 b (by simp), h3 c (by simp), h3 d (by simp)⟩
theorem elem_span (n : Nat) (cs : List Value) (x : DataW H × List MemPlace) (h : DataW.trod enc Tryz.prog w base spare held n 69 cs = some x) : ∃ a : Span, cs = a.cells ∧ a.Ok := by
  obtain ⟨zs, h1, rfl, h3⟩ := trod_ints Tryz.underlying69 Tryz.underlying3 (by kernel_rfl) (by kernel_rfl) (by decide) h
  match zs, h1 with
  | [a, b, c], _ => exact ⟨⟨a, b, c⟩, rfl, h3 a (by simp), h3 b (by simp), h3 c (by simp)⟩

theorem open_ints {b0 : Nat} {r : Reach} {v : Value} {d : DataW H} {p : List MemPlace} (hv : Value.okWide Tryz.prog w r b0 63 v) (h : DataW.Trod enc Tryz.prog w base spare held 63 v d p) :
    ∃ (A : Option Addr) (c : Nat) (l : List Int), v = .slice A l.length c ∧ Sl w A 1 l.length (l.flatMap fun a => [.int .i64 a]) ∧ SlW A c l.length ∧ (∀ y ∈ l, Fits y) :=
  open_sl_arg (sz := 1) _ Fits (fun _ => rfl) Tryz.underlying63 (by kernel_rfl) (by decide) elem_int hv h
theorem open_wires {b0 : Nat} {r : Reach} {v : Value} {d : DataW H} {p : List MemPlace} (hv : Value.okWide Tryz.prog w r b0 29 v) (h : DataW.Trod enc Tryz.prog w base spare held 29 v d p) :
    ∃ (A : Option Addr) (c : Nat) (l : List Wire), v = .slice A l.length c ∧ Sl w A 4 l.length (l.flatMap Wire.cells) ∧ SlW A c l.length ∧ (∀ y ∈ l, y.Ok) :=
  open_sl_arg (sz := 4) _ Wire.Ok (fun _ => rfl) Tryz.underlying29 (by kernel_rfl) (by decide) elem_wire hv h
theorem open_spans {b0 : Nat} {r : Reach} {v : Value} {d : DataW H} {p : List MemPlace} (hv : Value.okWide Tryz.prog w r b0 28 v) (h : DataW.Trod enc Tryz.prog w base spare held 28 v d p) :
    ∃ (A : Option Addr) (c : Nat) (l : List Span), v = .slice A l.length c ∧ Sl w A 3 l.length (l.flatMap Span.cells) ∧ SlW A c l.length ∧ (∀ y ∈ l, y.Ok) :=
  open_sl_arg (sz := 3) _ Span.Ok (fun _ => rfl) Tryz.underlying28 (by kernel_rfl) (by decide) elem_span hv h
theorem open_wire {b0 : Nat} {r : Reach} {v : Value} {d : DataW H} {p : List MemPlace} (hv : Value.okWide Tryz.prog w r b0 62 v) (h : DataW.Trod enc Tryz.prog w base spare held 62 v d p) :
    ∃ x : Wire, v = .agg #[.int .i64 x.fr, .int .i64 x.to, .int .i64 x.kind, .int .i64 x.deep] ∧ x.Ok := by
  obtain ⟨zs, h1, rfl, h3⟩ := trod_ints_arg Tryz.underlying62 Tryz.underlying3 (by kernel_rfl) (by kernel_rfl) (by decide) hv h
  match zs, h1 with
  | [a, b, c, d], _ => exact ⟨⟨a, b, c, d⟩, rfl, h3 a (by simp), h3 b (by simp), h3 c (by simp), h3 d (by simp)⟩
end
theorem ints_flat (l : List Int) : (l.flatMap fun a => [Value.int .i64 a]) = l.map (.int .i64) := by
  induction l with
  | nil => rfl
  | cons a r ih => simp [ih]
end Go.Proofs.YthdmgighblhmhaaGreatDoor
