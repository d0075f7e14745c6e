/- Things that lie beside each other in memory: each with the blocks that it reads, and those that it may write. -/
import Derived.Test.YthdmgighblhmhaaGreatDoorTickU
namespace Go.Proofs.YthdmgighblhmhaaGreatDoor
open Go.RowKit
set_option maxRecDepth 100000

/-- What lies somewhere: the blocks of which it is, those of them that it may write, and that it is there. -/
structure Tg where
  F : Nat → Prop
  W : Nat → Prop
  P : World → Prop
structure Lie (w : World) (t : Tg) : Prop where
  here : t.P w
  lt : ∀ j, t.F j → j < w.heap.size
  sub : ∀ j, t.W j → t.F j
  keep : ∀ w' : World, w.heap.size ≤ w'.heap.size → (∀ j, j < w.heap.size → t.F j → w'.heap[j]? = w.heap[j]?) → t.P w'
section
variable {w w1 w3 : World} {t t1 t2 : Tg}
theorem Lie.on (h : Lie w t) (hs : w.heap.size ≤ w1.heap.size) (hk : ∀ j, j < w.heap.size → t.F j → w1.heap[j]? = w.heap[j]?) : Lie w1 t :=
  ⟨h.keep w1 hs hk, fun j hj => Nat.lt_of_lt_of_le (h.lt j hj) hs, h.sub, fun w2 hs2 hk2 => h.keep w2 (Nat.le_trans hs hs2) fun j hj hF => (hk2 j (Nat.lt_of_lt_of_le hj hs) hF).trans (hk j hj hF)⟩
theorem Lie.new (h : Lie w t) (hb : Below w.heap.size w w1) : Lie w1 t := h.on hb.size fun j hj _ => hb.block j hj
theorem Lie.through {G : Nat → Prop} (h : Lie w t) (hk : Keep G w w1) (hn : ∀ j, G j → ¬ t.F j) : Lie w1 t := h.on hk.size fun j hj hF => hk.block j hj fun hG => hn j hG hF
/-- What a call leaves of one that it may write. -/
structure Went (w w3 : World) (t t' : Tg) : Prop where
  lie : Lie w3 t'
  keep : Keep t.W w w3
  inF : ∀ j, t'.F j → t.F j ∨ w.heap.size ≤ j
  inW : ∀ j, t'.W j → t.W j ∨ w.heap.size ≤ j
theorem Went.refl (h : Lie w t) : Went w w t t := ⟨h, Keep.refl _ _, fun _ h => .inl h, fun _ h => .inl h⟩
theorem Went.new (h : Lie w t) (hb : Below w.heap.size w w1) : Went w w1 t t := ⟨h.new hb, Keep.of_below _ hb, fun _ h => .inl h, fun _ h => .inl h⟩
theorem Went.trans (h : Went w w1 t t1) (k : Went w1 w3 t1 t2) : Went w w3 t t2 :=
  ⟨k.lie, h.keep.then k.keep fun j hj hW => (h.inW j hW).elim id fun h1 => by omega,
   fun j hj => (k.inF j hj).elim (fun h1 => h.inF j h1) fun h1 => .inr (Nat.le_trans h.keep.size h1),
   fun j hj => (k.inW j hj).elim (fun h1 => h.inW j h1) fun h1 => .inr (Nat.le_trans h.keep.size h1)⟩
/-- .. and what is written in new memory, beside it. -/
theorem Went.side {G : Nat → Prop} (h : Went w w1 t t1) (hk : Keep G w1 w3) (hw : ∀ j, G j → w.heap.size ≤ j) (hn : ∀ j, G j → ¬ t1.F j) : Went w w3 t t1 :=
  ⟨h.lie.through hk hn, h.keep.then hk fun j hj hG => by have := hw j hG; omega, h.inF, h.inW⟩
theorem Went.then (h : Went w w1 t t1) (hb : Below w1.heap.size w1 w3) : Went w w3 t t1 := h.trans (Went.new h.lie hb)
end
/-- Several beside each other: what one writes none of the others reads. -/
structure Beside (w : World) (ts : List Tg) : Prop where
  lies : ∀ t ∈ ts, Lie w t
  apart : ∀ (i j : Nat) (s t : Tg), ts[i]? = some s → ts[j]? = some t → i ≠ j → ∀ b, s.W b → ¬ t.F b
section
variable {w w1 w3 : World} {ts : List Tg} {t t' : Tg} {i : Nat}
theorem Beside.nil (w : World) : Beside w [] := ⟨fun t ht => by simp at ht, fun i j s t hs => by simp at hs⟩
theorem Beside.new (h : Beside w ts) (hb : Below w.heap.size w w1) : Beside w1 ts := ⟨fun t ht => (h.lies t ht).new hb, h.apart⟩
theorem Beside.get (h : Beside w ts) (hi : ts[i]? = some t) : Lie w t := h.lies t (List.mem_of_getElem? hi)
/-- One of them goes on. -/
theorem Beside.go (h : Beside w ts) (hi : ts[i]? = some t) (hg : Went w w3 t t') : Beside w3 (ts.set i t') := by
  have hil := (List.getElem?_eq_some_iff.1 hi).1
  refine ⟨fun u hu => ?_, fun i1 j1 s u hs hu hne b hW hF => ?_⟩
  · obtain ⟨j, hj⟩ := List.mem_iff_getElem?.1 hu
    rw [List.getElem?_set] at hj
    by_cases e : i = j
    · subst e; rw [if_pos rfl, if_pos hil] at hj; cases hj; exact hg.lie
    · rw [if_neg e] at hj
      exact (h.get hj).through hg.keep fun b hb => h.apart i j t u hi hj e b hb
  · rw [List.getElem?_set] at hs hu
    by_cases e1 : i = i1
    · subst e1
      rw [if_pos rfl, if_pos hil] at hs
      cases hs
      rw [if_neg hne] at hu
      rcases hg.inW b hW with h1 | h1
      · exact h.apart i j1 t u hi hu hne b h1 hF
      · have := (h.get hu).lt b hF; omega
    · rw [if_neg e1] at hs
      by_cases e2 : i = j1
      · subst e2
        rw [if_pos rfl, if_pos hil] at hu
        cases hu
        rcases hg.inF b hF with h1 | h1
        · exact h.apart i1 i s t hs hi hne b hW h1
        · have := (h.get hs).lt b ((h.get hs).sub b hW); omega
      · rw [if_neg e2] at hu
        exact h.apart i1 j1 s u hs hu hne b hW hF
/-- One more. -/
theorem Beside.add (h : Beside w ts) (ht : Lie w t) (h1 : ∀ u ∈ ts, ∀ j, u.W j → ¬ t.F j) (h2 : ∀ u ∈ ts, ∀ j, t.W j → ¬ u.F j) : Beside w (ts ++ [t]) := by
  have hlen : ∀ (k : Nat) (u : Tg), (ts ++ [t])[k]? = some u → ts[k]? = some u ∨ (k = ts.length ∧ u = t) := fun k u hu => by
    by_cases e : k < ts.length
    · rw [List.getElem?_append_left e] at hu; exact .inl hu
    · rw [List.getElem?_append_right (by omega)] at hu
      have hz : k - ts.length = 0 := by
        have := (List.getElem?_eq_some_iff.1 hu).1
        simp at this; omega
      rw [hz] at hu
      simp at hu
      exact .inr ⟨by omega, hu.symm⟩
  refine ⟨fun u hu => ?_, fun i j s u hs hu hne b hW hF => ?_⟩
  · rcases List.mem_append.1 hu with hu | hu
    · exact h.lies u hu
    · simp at hu; subst hu; exact ht
  · rcases hlen i s hs with hs' | ⟨hi, es⟩
    · rcases hlen j u hu with hu' | ⟨hj, eu⟩
      · exact h.apart i j s u hs' hu' hne b hW hF
      · subst eu; exact h1 s (List.mem_of_getElem? hs') b hW hF
    · subst es
      rcases hlen j u hu with hu' | ⟨hj, eu⟩
      · exact h2 u (List.mem_of_getElem? hu') b hW hF
      · omega
/-- All of them as one. -/
def allT (ts : List Tg) : Tg := ⟨fun j => ∃ t ∈ ts, t.F j, fun j => ∃ t ∈ ts, t.W j, fun w => Beside w ts⟩
theorem Beside.lie (h : Beside w ts) : Lie w (allT ts) :=
  ⟨h, fun j ⟨t, ht, hj⟩ => (h.lies t ht).lt j hj, fun j ⟨t, ht, hj⟩ => ⟨t, ht, (h.lies t ht).sub j hj⟩, fun _ hs hk => ⟨fun t ht => (h.lies t ht).on hs fun j hl hF => hk j hl ⟨t, ht, hF⟩, h.apart⟩⟩
theorem Beside.went (h : Beside w ts) (hi : ts[i]? = some t) (hg : Went w w3 t t') : Went w w3 (allT ts) (allT (ts.set i t')) := by
  have hm := List.mem_of_getElem? hi
  refine ⟨(h.go hi hg).lie, hg.keep.mono fun j _ hW => ⟨t, hm, hW⟩, ?_, ?_⟩
  · rintro j ⟨u, hu, hj⟩
    rcases List.mem_or_eq_of_mem_set hu with hu | rfl
    · exact .inl ⟨u, hu, hj⟩
    · exact (hg.inF j hj).imp_left fun h1 => ⟨t, hm, h1⟩
  · rintro j ⟨u, hu, hj⟩
    rcases List.mem_or_eq_of_mem_set hu with hu | rfl
    · exact .inl ⟨u, hu, hj⟩
    · exact (hg.inW j hj).imp_left fun h1 => ⟨t, hm, h1⟩
end
/-- .. what they write being new since w0. -/
structure Stand (w0 w : World) (ts : List Tg) : Prop where
  all : Beside w ts
  fresh : ∀ t ∈ ts, ∀ j, t.W j → w0.heap.size ≤ j
  below : Below w0.heap.size w0 w
section
variable {w0 w w1 w3 : World} {ts : List Tg} {t t' : Tg} {i : Nat}
theorem Stand.nil (w : World) : Stand w w [] := ⟨Beside.nil w, fun t ht => by simp at ht, Below.refl _ _⟩
theorem Stand.start (hb : Below w0.heap.size w0 w) : Stand w0 w [] := ⟨Beside.nil w, fun t ht => by simp at ht, hb⟩
theorem Stand.new (h : Stand w0 w ts) (hb : Below w.heap.size w w1) : Stand w0 w1 ts := ⟨h.all.new hb, h.fresh, h.below.trans (hb.mono h.below.size)⟩
theorem Stand.get (h : Stand w0 w ts) (hi : ts[i]? = some t) : Lie w t := h.all.get hi
theorem Stand.go (h : Stand w0 w ts) (i : Nat) (hi : ts[i]? = some t) (hg : Went w w3 t t') : Stand w0 w3 (ts.set i t') := by
  have hm := List.mem_of_getElem? hi
  have hs := h.below.size
  refine ⟨h.all.go hi hg, fun u hu j hW => ?_, Keep.below (F := NoF) ((Keep.of_below NoF h.below).then hg.keep fun j hj hk => by have := h.fresh t hm j hk; omega) (Nat.le_refl _) (fun _ h => h.elim)⟩
  rcases List.mem_or_eq_of_mem_set hu with hu | rfl
  · exact h.fresh u hu j hW
  · rcases hg.inW j hW with h1 | h1
    · exact h.fresh t hm j h1
    · omega
/-- One more, in new memory, which may read what is older than all of them. -/
theorem Stand.add (h : Stand w0 w ts) (hb : Below w.heap.size w w1) (ht : Lie w1 t) (hW : ∀ j, t.W j → w.heap.size ≤ j) (hF : ∀ j, t.F j → w.heap.size ≤ j ∨ j < w0.heap.size) : Stand w0 w1 (ts ++ [t]) := by
  have hn := h.new hb
  have hs := h.below.size
  refine ⟨hn.all.add ht (fun u hu j h1 h2 => ?_) (fun u hu j h1 h2 => ?_), fun u hu j h1 => ?_, hn.below⟩
  · rcases hF j h2 with h3 | h3
    · have := (h.all.lies u hu).lt j ((h.all.lies u hu).sub j h1); omega
    · have := h.fresh u hu j h1; omega
  · have := hW j h1
    have := (h.all.lies u hu).lt j h2
    omega
  · rcases List.mem_append.1 hu with hu | hu
    · exact h.fresh u hu j h1
    · simp at hu; subst hu; have := hW j h1; omega
theorem Stand.base {wb : World} (h : Stand w0 w ts) (hb : Below wb.heap.size wb w0) : Stand wb w ts := ⟨h.all, fun t ht j hj => Nat.le_trans hb.size (h.fresh t ht j hj), hb.trans (h.below.mono hb.size)⟩
/-- Some of them. -/
theorem Stand.one (h : Stand w0 w ts) (hi : ts[i]? = some t) : Stand w0 w [t] := by
  refine ⟨⟨fun u hu => by simp at hu; subst hu; exact h.get hi, fun i1 j1 s u hs hu hne => ?_⟩, fun u hu j hj => by simp at hu; subst hu; exact h.fresh _ (List.mem_of_getElem? hi) j hj, h.below⟩
  have h1 := (List.getElem?_eq_some_iff.1 hs).1
  have h2 := (List.getElem?_eq_some_iff.1 hu).1
  simp at h1 h2
  omega
/-- The first of them. -/
theorem Stand.few {us : List Tg} (h : Stand w0 w (ts ++ us)) : Stand w0 w ts :=
  ⟨⟨fun t ht => h.all.lies t (List.mem_append_left _ ht), fun i j s t hs ht hne => h.all.apart i j s t (by rw [List.getElem?_append_left (List.getElem?_eq_some_iff.1 hs).1]; exact hs) (by rw [List.getElem?_append_left (List.getElem?_eq_some_iff.1 ht).1]; exact ht) hne⟩, fun t ht => h.fresh t (List.mem_append_left _ ht), h.below⟩
end

/-- A block that may be written. -/
def blkT (b : Nat) (o : Obj) : Tg := ⟨fun j => j = b, fun j => j = b, fun w => w.heap[b]? = some o⟩
theorem blk_lie {w : World} {b : Nat} {o : Obj} (h : w.heap[b]? = some o) : Lie w (blkT b o) :=
  ⟨h, fun j hj => by simp only [blkT] at hj; subst hj; exact (Array.getElem?_eq_some_iff.1 h).1, fun _ h => h, fun w' _ hk => (hk b (Array.getElem?_eq_some_iff.1 h).1 rfl).trans h⟩
theorem blk_went {w w' : World} {b : Nat} {o o' : Obj} (_h : Lie w (blkT b o)) (hk : Keep (fun j => j = b) w w') (hx : w'.heap[b]? = some o') : Went w w' (blkT b o) (blkT b o') := ⟨blk_lie hx, hk, fun _ h => .inl h, fun _ h => .inl h⟩
/-- A block that is only read. -/
def conT (b : Nat) (o : Obj) : Tg := ⟨fun j => j = b, fun _ => False, fun w => w.heap[b]? = some o⟩
theorem con_lie {w : World} {b : Nat} {o : Obj} (h : w.heap[b]? = some o) : Lie w (conT b o) :=
  ⟨h, fun j hj => by simp only [conT] at hj; subst hj; exact (Array.getElem?_eq_some_iff.1 h).1, fun _ h => h.elim, fun w' _ hk => (hk b (Array.getElem?_eq_some_iff.1 h).1 rfl).trans h⟩
/-- A slice that is only read. -/
def slT (A : Option Addr) (sz n : Nat) (xs : List Value) : Tg := ⟨fun j => 0 < n ∧ InA A j, fun _ => False, fun w => Sl w A sz n xs⟩
theorem sl_lie {w : World} {A : Option Addr} {sz n : Nat} {xs : List Value} (h : Sl w A sz n xs) : Lie w (slT A sz n xs) :=
  ⟨h, fun j hj => h.lt hj.1 j hj.2, fun _ h => h.elim, fun _ hs hk => h.keep0 hs fun b h0 hb hl => hk b hl ⟨h0, hb⟩⟩
/-- A row that may be written. -/
def rowT (e sz : Nat) (A : Option Addr) (n cap : Nat) (xs : List Value) : Tg := ⟨InA A, InA A, fun w => Row w e sz A n cap xs⟩
theorem row_lie {w : World} {e sz n cap : Nat} {A : Option Addr} {xs : List Value} (h : Row w e sz A n cap xs) : Lie w (rowT e sz A n cap xs) :=
  ⟨h, h.lt, fun _ h => h, fun _ _ hk => h.keep fun b hb hl => hk b hl hb⟩
/-- A plan. -/
def planT (m : PM) : Tg := ⟨planF m, fun _ => False, fun w => PlanAt w m⟩
theorem plan_lie {w : World} {m : PM} (h : PlanAt w m) : Lie w (planT m) := ⟨h, h.lt, fun _ h => h.elim, fun _ hs hk => h.keep hs fun j hj hF => hk j hj hF⟩
/-- A kernel, the program's or the reference's. -/
def kT (TK TL TP kb : Nat) (p : Pl) (M : KM) (k : Kst) : Tg := ⟨TF kb M, KF kb M, fun w => KAt TK TL TP w kb M k ∧ M.P.pl = p⟩
theorem k_lie {TK TL TP kb : Nat} {w : World} {p : Pl} {M : KM} {k : Kst} (h : KAt TK TL TP w kb M k) (hp : M.P.pl = p) : Lie w (kT TK TL TP kb p M k) :=
  ⟨⟨h, hp⟩, h.lt, fun _ h => .inl h, fun _ hs hk => ⟨h.keep hs fun j hj hF => hk j hj hF, hp⟩⟩
theorem k_went {TK TL TP kb : Nat} {w w' : World} {p : Pl} {M M' : KM} {k k' : Kst} (h : Lie w (kT TK TL TP kb p M k)) (h1 : KAt TK TL TP w' kb M' k') (h2 : M'.P = M.P ∧ M'.lA = M.lA) (h3 : Keep (KF kb M) w w') (h4 : ∀ j, KF kb M' j → KF kb M j ∨ w.heap.size ≤ j) :
    Went w w' (kT TK TL TP kb p M k) (kT TK TL TP kb p M' k') :=
  ⟨k_lie h1 (by rw [h2.1]; exact h.here.2), h3, by
    rintro j (hj | hj | hj)
    · exact (h4 j hj).imp_left .inl
    · rw [h2.2] at hj; exact .inl (.inr (.inl hj))
    · rw [h2.1] at hj; exact .inl (.inr (.inr hj)), h4⟩
end Go.Proofs.YthdmgighblhmhaaGreatDoor
