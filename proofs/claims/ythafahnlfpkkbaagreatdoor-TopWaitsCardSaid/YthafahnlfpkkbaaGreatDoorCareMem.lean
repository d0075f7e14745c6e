/- Package care: how one lies in memory, and what becomes of it when its kernel goes on, or a number of times. -/
import Derived.Test.YthafahnlfpkkbaaGreatDoorPart
import Derived.Test.YthafahnlfpkkbaaGreatDoorCareLaw
import Derived.Test.YthafahnlfpkkbaaGreatDoorRunU
namespace Go.Proofs.YthafahnlfpkkbaaGreatDoor
open Go.RowKit
set_option maxRecDepth 100000

theorem put0_heap {w : World} {b T : Nat} {v : Array Value} (h : w.heap[b]? = some (.cells v T (0, 0))) (hv : v.size = 8) (t : St) : (putAt w b 0 t).heap[b]? = some (.cells #[.int .i64 t.pc, .int .i64 t.c0, .int .i64 t.c1, .int .i64 t.c2, .int .i64 t.c3, .int .i64 t.c4, .int .i64 t.c5, .bool t.failed] T (0, 0)) := by
  obtain ⟨v⟩ := v
  match v, hv with
  | [a, b, c, d, e, f, g, i], _ =>
    unfold putAt
    simp [hp_set, h, setObj]
/-- A care's places. -/
structure CM where
  kb : Nat
  K : KM
  P : PM
  wA : Option Addr
  wc : Nat
  tA : Option Addr
  tc : Nat
def CM.at (C : CM) (K : KM) : CM := ⟨C.kb, K, C.P, C.wA, C.wc, C.tA, C.tc⟩
def careObj (C : CM) (n : Nat) (most : Int) : Obj :=
  .cells #[.pointer (some ⟨C.kb, 0, none⟩), .slice C.P.A C.P.ros.length C.P.c, .int .i64 C.P.ticks, .slice C.P.sA C.P.spans.length C.P.sc, .slice C.P.wA C.P.wires.length C.P.wc, .slice C.wA n C.wc, .int .i64 most, .slice C.tA n C.tc] 168 (0, 0)
def ckT (p : Pl) (C : CM) (c : Cst) : Tg := kT 146 205 148 C.kb p C.K c.k
def careL (cb : Nat) (p : Pl) (what : List Int) (most : Int) (C : CM) (c : Cst) : List Tg :=
  [conT cb (careObj C what.length most), ckT p C c, rowT 3 1 C.tA what.length C.tc (ints c.times), slT C.wA 1 what.length (ints what), planT C.P]
structure CareAt (w : World) (cb : Nat) (p : Pl) (what : List Int) (most : Int) (C : CM) (c : Cst) : Prop where
  all : Beside w (careL cb p what most C c)
  pl : C.P.pl = p
  cap : what.length ≤ C.wc ∧ C.wc ≤ maxLen
def careT (cb : Nat) (p : Pl) (what : List Int) (most : Int) (C : CM) (c : Cst) : Tg := ⟨(allT (careL cb p what most C c)).F, (allT (careL cb p what most C c)).W, fun w => CareAt w cb p what most C c⟩
section
variable {w w' w3 : World} {cb : Nat} {p : Pl} {what : List Int} {most : Int} {C : CM} {c : Cst}
theorem CareAt.lie (h : CareAt w cb p what most C c) : Lie w (careT cb p what most C c) :=
  ⟨h, h.all.lie.lt, h.all.lie.sub, fun w' hs hk => ⟨h.all.lie.keep w' hs hk, h.pl, h.cap⟩⟩
theorem CareAt.new (h : CareAt w cb p what most C c) (hb : Below w.heap.size w w') : CareAt w' cb p what most C c := ⟨h.all.new hb, h.pl, h.cap⟩
theorem CareAt.obj (h : CareAt w cb p what most C c) : w.heap[cb]? = some (careObj C what.length most) := (h.all.get (i := 0) rfl).here
theorem CareAt.kat (h : CareAt w cb p what most C c) : KAt 146 205 148 w C.kb C.K c.k := (h.all.get (i := 1) rfl).here.1
theorem CareAt.kpl (h : CareAt w cb p what most C c) : C.K.P.pl = p := (h.all.get (i := 1) rfl).here.2
theorem CareAt.times (h : CareAt w cb p what most C c) : Row w 3 1 C.tA what.length C.tc (ints c.times) := (h.all.get (i := 2) rfl).here
theorem CareAt.rules (h : CareAt w cb p what most C c) : Sl w C.wA 1 what.length (ints what) := (h.all.get (i := 3) rfl).here
theorem CareAt.plan (h : CareAt w cb p what most C c) : PlanAt w C.P := (h.all.get (i := 4) rfl).here
theorem CareAt.many (h : CareAt w cb p what most C c) : c.times.length = what.length := by have := h.times.1; rw [ints_len] at this; omega
/-- Its cells. -/
theorem CareAt.cells (h : CareAt w cb p what most C c) : w.cell? ⟨cb, 0, none⟩ = some (.pointer (some ⟨C.kb, 0, none⟩)) ∧ w.cell? ⟨cb, 1, none⟩ = some (.slice C.P.A C.P.ros.length C.P.c) ∧ w.cell? ⟨cb, 2, none⟩ = some (.int .i64 C.P.ticks) ∧ w.cell? ⟨cb, 3, none⟩ = some (.slice C.P.sA C.P.spans.length C.P.sc) ∧ w.cell? ⟨cb, 4, none⟩ = some (.slice C.P.wA C.P.wires.length C.P.wc) ∧ w.cell? ⟨cb, 5, none⟩ = some (.slice C.wA what.length C.wc) ∧ w.cell? ⟨cb, 6, none⟩ = some (.int .i64 most) ∧ w.cell? ⟨cb, 7, none⟩ = some (.slice C.tA what.length C.tc) ∧ cb < w.heap.size :=
  ⟨blk_cell h.obj 0, blk_cell h.obj 1, blk_cell h.obj 2, blk_cell h.obj 3, blk_cell h.obj 4, blk_cell h.obj 5, blk_cell h.obj 6, blk_cell h.obj 7, blk_lt h.obj⟩
/-- Its kernel goes on. -/
theorem CareAt.goK (h : CareAt w cb p what most C c) {K' : KM} {k' : Kst} (h1 : KAt 146 205 148 w3 C.kb K' k') (h2 : K'.P = C.K.P ∧ K'.lA = C.K.lA) (h3 : Keep (KF C.kb C.K) w w3) (h4 : ∀ j, KF C.kb K' j → KF C.kb C.K j ∨ w.heap.size ≤ j) :
    Went w w3 (careT cb p what most C c) (careT cb p what most (C.at K') ⟨k', c.times⟩) := by
  have hw := h.all.went (i := 1) rfl (k_went (h.all.get (i := 1) rfl) h1 h2 h3 h4)
  exact ⟨CareAt.lie ⟨hw.lie.here, h.pl, h.cap⟩, hw.keep, hw.inF, hw.inW⟩
/-- A number of its times is written. -/
theorem CareAt.goT (h : CareAt w cb p what most C c) {times : List Int} (hk : Keep (InA C.tA) w w3) (hr : Row w3 3 1 C.tA what.length C.tc (ints times)) :
    Went w w3 (careT cb p what most C c) (careT cb p what most C ⟨c.k, times⟩) := by
  have hw := h.all.went (i := 2) (t' := rowT 3 1 C.tA what.length C.tc (ints times)) rfl ⟨row_lie hr, hk, fun _ h => .inl h, fun _ h => .inl h⟩
  exact ⟨CareAt.lie ⟨hw.lie.here, h.pl, h.cap⟩, hw.keep, hw.inF, hw.inW⟩
end
end Go.Proofs.YthafahnlfpkkbaaGreatDoor
