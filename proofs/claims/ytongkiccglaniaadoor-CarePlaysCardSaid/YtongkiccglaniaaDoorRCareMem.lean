/- The reference's care: how it lies in memory; and a cell of a room that is set. -/
import Derived.Test.YtongkiccglaniaaDoorRSince
import Derived.Test.YtongkiccglaniaaDoorCareLaw
import Derived.Test.YtongkiccglaniaaDoorCareW
namespace Go.Proofs.YtongkiccglaniaaDoor
open Go.RowKit
set_option maxRecDepth 100000

section
variable {TK TL TP kb : Nat} {w : World} {M : KM} {k : Kst}
/-- One of a room's eight cells is set. -/
theorem KAt.cellRoom (h : KAt TK TL TP w kb M k) {r rb roff : Nat} (hA : M.rA = some ⟨rb, roff, none⟩) {s t : St} (hr : k.rooms[r]? = some s) {q o : Nat} (hq : q < 8) (ho : o = roff + r * 8 + q) (u : Value) (ht : t.cells = s.cells.set q u) :
    KAt TK TL TP (w.setCell ⟨rb, o, none⟩ u) kb M ⟨k.rooms.set r t, k.lines, k.time⟩ := by
  subst ho
  obtain ⟨own, o0, o1, o2, o3, o4⟩ := h.own
  have orb : own rb = 1 := o1 rb (by rw [hA]; rfl)
  have far : ∀ j, own j ≠ 1 → (w.setCell ⟨rb, roff + r * 8 + q, none⟩ u).heap[j]? = w.heap[j]? := fun j hj => blk_far (p := ⟨rb, roff + r * 8 + q, none⟩) (by rintro rfl; exact hj orb) _
  obtain ⟨b, off, cur, hA2, hh, hsz, hi, hnc, hcm, hx⟩ := h.rooms.elem St.cells St.len (by decide) hr
  rw [hA] at hA2
  cases hA2
  have h8 : (r + 1) * 8 ≤ M.rc * 8 := Nat.mul_le_mul_right _ (by omega)
  have hrow : Row (w.setCell ⟨rb, roff + r * 8 + q, none⟩ u) 40 8 M.rA k.rooms.length M.rc ((k.rooms.set r t).flatMap St.cells) := by
    refine h.rooms.put St.cells St.len (by decide) (i := r) hA t cur (cur.setIfInBounds (roff + r * 8 + q) u) hh (blk_set hh _ _) (by simp) (fun j hj => ?_) (fun j v hv => ?_)
    · rw [Array.getElem?_setIfInBounds_ne (by omega)]
    · rw [ht, List.getElem?_set] at hv
      by_cases e : q = j
      · subst e
        rw [if_pos rfl, if_pos (by rw [St.len]; omega)] at hv
        rw [Array.getElem?_setIfInBounds_self, if_pos (by omega)]
        exact hv
      · rw [if_neg e] at hv
        rw [Array.getElem?_setIfInBounds_ne (by omega)]
        rw [Nat.add_assoc]; exact hx j v hv
  exact { blk := by rw [far kb (by rw [o0]; decide), h.blk, List.length_set]
          plan := h.plan.keep (by rw [sz_set]; exact Nat.le_refl _) fun j _ hj => far j (by rw [o3 j hj]; decide)
          rooms := by rw [List.length_set]; exact hrow
          ptrs := h.ptrs.keep fun j hj _ => far j (by rw [o2 j hj]; decide)
          many := h.many
          lines := fun i x a hx ha => (h.lines i x a hx ha).keep fun j hj _ => far j (by rw [o4 i a ha j hj]; omega)
          own := h.own }
end
/-- The reference's care's places. -/
structure RCM where
  kb : Nat
  K : KM
  wA : Option Addr
  wc : Nat
  tA : Option Addr
  tc : Nat
def RCM.at (C : RCM) (K : KM) : RCM := ⟨C.kb, K, C.wA, C.wc, C.tA, C.tc⟩
def rcareObj (C : RCM) (n : Nat) (most : Int) : Obj := .cells #[.pointer (some ⟨C.kb, 0, none⟩), .slice C.wA n C.wc, .int .i64 most, .slice C.tA n C.tc] 115 (0, 0)
def rcareL (cb : Nat) (p : Pl) (what : List Int) (most : Int) (C : RCM) (c : Cst) : List Tg :=
  [conT cb (rcareObj C what.length most), rkT C.kb p C.K c.k, rowT 3 1 C.tA what.length C.tc (ints c.times), slT C.wA 1 what.length (ints what)]
structure RCareAt (w : World) (cb : Nat) (p : Pl) (what : List Int) (most : Int) (C : RCM) (c : Cst) : Prop where
  all : Beside w (rcareL cb p what most C c)
  cap : what.length ≤ C.wc ∧ C.wc ≤ maxLen
def rcT (cb : Nat) (p : Pl) (what : List Int) (most : Int) (C : RCM) (c : Cst) : Tg := ⟨(allT (rcareL cb p what most C c)).F, (allT (rcareL cb p what most C c)).W, fun w => RCareAt w cb p what most C c⟩
section
variable {w w' w3 : World} {cb : Nat} {p : Pl} {what : List Int} {most : Int} {C : RCM} {c : Cst}
theorem RCareAt.lie (h : RCareAt w cb p what most C c) : Lie w (rcT cb p what most C c) :=
  ⟨h, h.all.lie.lt, h.all.lie.sub, fun w' hs hk => ⟨h.all.lie.keep w' hs hk, h.cap⟩⟩
theorem RCareAt.new (h : RCareAt w cb p what most C c) (hb : Below w.heap.size w w') : RCareAt w' cb p what most C c := ⟨h.all.new hb, h.cap⟩
theorem RCareAt.obj (h : RCareAt w cb p what most C c) : w.heap[cb]? = some (rcareObj C what.length most) := (h.all.get (i := 0) rfl).here
theorem RCareAt.kat (h : RCareAt w cb p what most C c) : KAt 83 85 86 w C.kb C.K c.k := (h.all.get (i := 1) rfl).here.1
theorem RCareAt.kpl (h : RCareAt w cb p what most C c) : C.K.P.pl = p := (h.all.get (i := 1) rfl).here.2
theorem RCareAt.times (h : RCareAt w cb p what most C c) : Row w 3 1 C.tA what.length C.tc (ints c.times) := (h.all.get (i := 2) rfl).here
theorem RCareAt.rules (h : RCareAt w cb p what most C c) : Sl w C.wA 1 what.length (ints what) := (h.all.get (i := 3) rfl).here
theorem RCareAt.goK (h : RCareAt w cb p what most C c) {K' : KM} {k' : Kst} (h1 : KAt 83 85 86 w3 C.kb K' k') (h2 : K'.P = C.K.P ∧ K'.lA = C.K.lA) (h3 : Keep (KF C.kb C.K) w w3) (h4 : ∀ j, KF C.kb K' j → KF C.kb C.K j ∨ w.heap.size ≤ j) :
    Went w w3 (rcT cb p what most C c) (rcT cb p what most (C.at K') ⟨k', c.times⟩) := by
  have hw := h.all.went (i := 1) rfl (k_went (h.all.get (i := 1) rfl) h1 h2 h3 h4)
  exact ⟨RCareAt.lie ⟨hw.lie.here, h.cap⟩, hw.keep, hw.inF, hw.inW⟩
theorem RCareAt.goT (h : RCareAt w cb p what most C c) {times : List Int} (hk : Keep (InA C.tA) w w3) (hr : Row w3 3 1 C.tA what.length C.tc (ints times)) :
    Went w w3 (rcT cb p what most C c) (rcT cb p what most C ⟨c.k, times⟩) := by
  have hw := h.all.went (i := 2) (t' := rowT 3 1 C.tA what.length C.tc (ints times)) rfl ⟨row_lie hr, hk, fun _ h => .inl h, fun _ h => .inl h⟩
  exact ⟨RCareAt.lie ⟨hw.lie.here, h.cap⟩, hw.keep, hw.inF, hw.inW⟩
end
end Go.Proofs.YtongkiccglaniaaDoor
