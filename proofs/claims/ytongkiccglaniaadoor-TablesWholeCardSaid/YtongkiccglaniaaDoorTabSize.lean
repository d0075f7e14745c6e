/- How long the spans of an argument can be: what the statement's reach says of them. -/
import Derived.Test.YtongkiccglaniaaDoorTab
import Derived.SizedLaws
namespace Go.Proofs.YtongkiccglaniaaDoor
open Go.RowKit Go.ChangeShapes Go.WideShapes Go.ChangeAt
set_option maxRecDepth 100000

section
variable {H : Type} {enc : TypeId × Value → H} {P : Program} {w : World} {base : Nat} {spare : Nat → Bool} {held : Bool}
theorem trodAll_at : ∀ {ts : List TypeId} {vs : List Value} {ds : List (DataW H)} {ps : List MemPlace} {j : Nat} {t : TypeId} {v : Value}, DataW.TrodAll enc P w base spare held ts vs ds ps → ts[j]? = some t → vs[j]? = some v → ∃ d p, ds[j]? = some d ∧ DataW.Trod enc P w base spare held t v d p
  | [], _, _, _, j, _, _, _, ht, _ => by simp at ht
  | t0 :: ts, vs, ds, ps, j, t, v, h, ht, hv => by
    obtain ⟨v0, vs', d0, ds', p, q, rfl, rfl, rfl, h0, hr⟩ := trodAll_cons h
    cases j with
    | zero => simp at ht hv; subst ht hv; exact ⟨d0, p, rfl, h0⟩
    | succ j =>
      obtain ⟨d, p', hd, h1⟩ := trodAll_at hr (by simpa using ht) (by simpa using hv)
      exact ⟨d, p', by simpa using hd, h1⟩
/-- What the reach says of one argument. -/
theorem sized_at {tys vt : List TypeId} {vars : List String} {apart : Bool} {vs : List Value} {ds gs : List (DataW H)} {ps : List MemPlace} (h : DataW.Whole enc P tys vars apart w vs ds gs ps) (hz : (DataW.weightsEach P (tys ++ vt) (ds ++ gs)).all (· ≤ reachBytes) = true)
    {j : Nat} {t : TypeId} {v : Value} (ht : tys[j]? = some t) (hv : vs[j]? = some v) :
    ∃ d p, DataW.Trod enc P w 0 (fun _ => true) true t v d p ∧ ∀ k ∈ d.weights P t, k ≤ reachBytes := by
  obtain ⟨p, q, hA, _⟩ := h
  obtain ⟨d, p', hd, h1⟩ := trodAll_at hA ht hv
  have hjt := (List.getElem?_eq_some_iff.1 ht).1
  have hjd := (List.getElem?_eq_some_iff.1 hd).1
  refine ⟨d, p', h1, fun k hk => ?_⟩
  have := List.all_eq_true.1 hz k (DataW.weights_mem_each (j := j) (t := t) (d := d) (by rw [List.getElem?_append_left hjt]; exact ht) (by rw [List.getElem?_append_left hjd]; exact hd) k hk)
  simpa using this
theorem weightsAll_in {e : TypeId} : ∀ {l : List (DataW H)} {d : DataW H} {k : Nat}, d ∈ l → k ∈ d.weights P e → k ∈ DataW.weightsAll P e l
  | [], _, _, h, _ => by simp at h
  | x :: l, d, k, h, hk => by
    simp only [DataW.weightsAll, List.mem_append]
    rcases List.mem_cons.1 h with rfl | h
    · exact .inl hk
    · exact .inr (weightsAll_in h hk)
/-- A slice's length, and what is known of each element. -/
theorem sl_sized {t e : TypeId} (ht : P.underlying t = some (.slice e)) {fuel : Nat} {x : DataW H × List MemPlace} {A : Option Addr} {n c : Nat} (h : DataW.trod enc P w base spare held fuel t [.slice A n c] = some x) (hw : ∀ k ∈ x.1.weights P t, k ≤ reachBytes) :
    n * P.bytesOf e ≤ reachBytes ∧ ∀ i, i < n → ∃ a m cs y, A = some a ∧ w.cells? base (a.add (i * P.cellsOf e)) (P.cellsOf e) = some cs ∧ DataW.trod enc P w base spare held m e cs = some y ∧ ∀ k ∈ y.1.weights P e, k ≤ reachBytes := by
  rcases Go.Deep.open_slice ht h with ⟨h0, rfl⟩ | ⟨a, len, cap, m, f, D, Pl, h0, hb, hl, hm, hmm, rfl, hi⟩
  · simp at h0
    obtain ⟨rfl, rfl, rfl⟩ := h0
    exact ⟨by simp, fun i hi => by omega⟩
  · simp at h0
    obtain ⟨rfl, rfl, rfl⟩ := h0
    have hnm : n ≤ m := by rw [hmm]; split <;> omega
    simp only [DataW.weights, ht] at hw
    refine ⟨?_, fun i hin => ?_⟩
    · refine Nat.le_trans ?_ (hw _ (List.mem_cons_self ..))
      simp
      exact Nat.mul_le_mul_right _ (by omega)
    · obtain ⟨cs, h1, h2⟩ := hi i (by omega)
      refine ⟨a, f, cs, _, rfl, h1, h2, fun k hk => hw k (List.mem_cons_of_mem _ (List.mem_append_left _ (weightsAll_in (d := D i) ?_ hk)))⟩
      exact List.mem_map.2 ⟨i, List.mem_range.2 hin, rfl⟩
end
section
variable {H : Type} {enc : TypeId × Value → H} {w : World} {base : Nat} {spare : Nat → Bool} {held : Bool}
theorem Tryd.bytesSpan : Tryd.prog.bytesOf 68 = 24 := by kernel_rfl
theorem span_len {n : Nat} (h : n * Tryd.prog.bytesOf 68 ≤ reachBytes) : n ≤ 5864062014634 := by
  rw [Tryd.bytesSpan] at h
  unfold reachBytes at h
  omega
/-- A plan's spans. -/
theorem plan_sized {m : PM} {v : Value} (hv : v = .agg #[.slice m.A m.ros.length m.c, .int .i64 m.ticks, .slice m.sA m.spans.length m.sc, .slice m.wA m.wires.length m.wc]) {d : DataW H} {p : List MemPlace} (h : DataW.Trod enc Tryd.prog w base spare held 31 v d p) (hw : ∀ k ∈ d.weights Tryd.prog 31, k ≤ reachBytes) :
    m.spans.length ≤ 5864062014634 := by
  subst hv
  obtain ⟨fuel, h⟩ := h
  obtain ⟨xs, n, _, hx, _, hl, hg⟩ := DataW.trod_struct Tryd.underlying31 h
  have h2 := hg 2 _ rfl
  simp only [Prod.mk.injEq] at hx
  obtain ⟨rfl, rfl⟩ := hx
  have hlt : 2 < xs.length := by rw [hl]; decide
  rw [List.getElem?_eq_getElem hlt] at h2
  simp only [DataW.weights, Tryd.underlying31] at hw
  have h3 := sl_sized (n := m.spans.length) (A := m.sA) (c := m.sc) Tryd.underlying28 (x := xs[2]) (fuel := n) (by
    rw [← h2]; rfl) (fun k hk => hw k (DataW.weights_mem_each (j := 2) (t := 28) (d := xs[2].1) rfl (by rw [List.getElem?_map, List.getElem?_eq_getElem hlt]; rfl) k hk))
  exact span_len h3.1
/-- Lists of spans. -/
theorem spanss_sized {A : Option Addr} {c : Nat} {l : List Tl} (hs : Sl w A 1 l.length (l.flatMap Tl.cells)) {d : DataW H} {p : List MemPlace} (h : DataW.Trod enc Tryd.prog w base spare held 91 (.slice A l.length c) d p) (hw : ∀ k ∈ d.weights Tryd.prog 91, k ≤ reachBytes) :
    ∀ y ∈ l, y.l.length ≤ 5864062014634 := by
  intro y hy
  obtain ⟨fuel, h⟩ := h
  obtain ⟨i, hi⟩ := List.mem_iff_getElem?.1 hy
  have hil := (List.getElem?_eq_some_iff.1 hi).1
  obtain ⟨a, m, cs, x, rfl, hc, hx, hk⟩ := (sl_sized Tryd.underlying91 h hw).2 i hil
  obtain ⟨b, off, ha, hb, hg⟩ := hs.2 (by omega)
  have hcell := flatMap_get Tl.cells 1 Tl.len l i 0 _ hi (by decide)
  rw [Nat.mul_one, Nat.add_zero] at hcell
  have hv := hg i _ (hcell.trans rfl)
  have h1 : Tryd.prog.cellsOf 28 = 1 := by kernel_rfl
  rw [h1, Nat.mul_one] at hc
  obtain ⟨_, hlen, hat⟩ := World.cells?_some hc
  cases ha
  match cs, hlen with
  | [u], _ =>
    have hu := hat 0 (by omega)
    have e1 : (((⟨b, off, none⟩ : Addr).add i).add 0) = ⟨b, off + i, none⟩ := by simp [Addr.add]
    rw [e1, hv] at hu
    simp at hu
    subst hu
    exact span_len (sl_sized Tryd.underlying28 hx hk).1
end
end Go.Proofs.YtongkiccglaniaaDoor
