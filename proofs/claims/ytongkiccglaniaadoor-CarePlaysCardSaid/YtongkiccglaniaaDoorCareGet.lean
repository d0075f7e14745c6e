/- Package care: the contracts of State, Times, Poke. -/
import Derived.Test.YtongkiccglaniaaDoorCareW
namespace Go.Proofs.YtongkiccglaniaaDoor
open Go.RowKit
set_option maxRecDepth 100000

section
variable {w : World} {cb : Nat} {p : Pl} {what : List Int} {most : Int} {C : CM} {c : Cst} {B : Int}
theorem cstate_any (hp : PlOk p) (hk : COk p what most c B) (h : CareAt w cb p what most C c) (r : Int) :
    Calls Tryd.prog 56 #[.pointer (some ⟨cb, 0, none⟩), .int .i64 r] w (StateV w (stateOf c.k r)) := by
  obtain ⟨x0, _, _, _, _, _, _, _, hlt⟩ := h.cells
  have HKS : Hid (∀ w', Below w.heap.size w w' → Calls Tryd.prog 30 #[.pointer (some ⟨C.kb, 0, none⟩), .int .i64 r] w' (StateV w' (stateOf c.k r))) := fun w' hb => kstate_any r (by rw [hk.k.rooms]; exact hp.most5) (h.new hb).kat
  unfold StateV at HKS ⊢
  generalize stateOf c.k r = q at HKS ⊢
  obtain ⟨s, e⟩ := q
  obtain ⟨pc, c0, c1, c2, c3, c4, c5, f⟩ := s
  unfold stV at HKS ⊢
  simp only [] at HKS ⊢
  obtain ⟨wa, hwa⟩ : ∃ wa, wa = w.alloc (.cells #[.int .i64 0, .int .i64 0, .int .i64 0, .int .i64 0, .int .i64 0, .int .i64 0, .int .i64 0, .bool false] 40) := ⟨_, rfl⟩
  have hba : Below w.heap.size w wa := by rw [hwa]; exact (Below.refl _ _).alloc (Nat.le_refl _) _
  have hblk : wa.heap[w.heap.size]? = some (.cells #[.int .i64 0, .int .i64 0, .int .i64 0, .int .i64 0, .int .i64 0, .int .i64 0, .int .i64 0, .bool false] 40 (0, 0)) := by rw [hwa]; exact heap_alloc_new _ _
  have HBA := hid hba
  have HBLK := hid hblk
  clear hba hblk h hp hk
  go_enter Tryd.func56, Tryd.ntmps56
  go_wp2_with fail
  rw [← hwa]
  refine (HKS.out _ HBA.out).mono ?_
  rintro e1 w2 ⟨rfl, hb2⟩
  have hx2 := (hb2.block _ (blk_lt HBLK.out)).trans HBLK.out
  have HB2 := hid (HBA.out.trans (hb2.mono HBA.out.size))
  have r0 := blk_cell hx2 0
  have r1 := blk_cell hx2 1
  have r2 := blk_cell hx2 2
  have r3 := blk_cell hx2 3
  have r4 := blk_cell hx2 4
  have r5 := blk_cell hx2 5
  have r6 := blk_cell hx2 6
  have r7 := blk_cell hx2 7
  have rf := fun j => blk_free hx2 j
  have hlr := blk_lt hx2
  simp at r0 r1 r2 r3 r4 r5 r6 r7
  clear hx2 hb2 x0 hlt hwa
  go_wp2_with fail
  refine bodyPost_ret (v := .tuple #[.agg #[.int .i64 pc, .int .i64 c0, .int .i64 c1, .int .i64 c2, .int .i64 c3, .int .i64 c4, .int .i64 c5, .bool f], errV e]) (by simp [results, Tryd.results56, go_sem, r0, r1, r2, r3, r4, r5, r6, r7]) rfl ?_
  exact ⟨rfl, ((((((((HB2.out.setCell (Nat.le_refl _) _).setCell (Nat.le_refl _) _).setCell (Nat.le_refl _) _).setCell (Nat.le_refl _) _).setCell (Nat.le_refl _) _).setCell (Nat.le_refl _) _).setCell (Nat.le_refl _) _).setCell (Nat.le_refl _) _)⟩

def timesOf (c : Cst) (r : Int) : Int × Int := if 0 ≤ r ∧ r < c.times.length then (c.times.getD r.toNat 0, 0) else (0, 1)
theorem ctimes_any (h : CareAt w cb p what most C c) (r : Int) :
    Calls Tryd.prog 57 #[.pointer (some ⟨cb, 0, none⟩), .int .i64 r] w fun e w' => e = .returned (.tuple #[.int .i64 (timesOf c r).1, errV (timesOf c r).2]) ∧ w = w' := by
  obtain ⟨_, _, _, _, _, _, _, x7, hlt⟩ := h.cells
  obtain ⟨n, hn⟩ : ∃ n, n = what.length := ⟨_, rfl⟩
  have hm := h.many
  have hle := h.times.le
  rw [← hn] at x7 hm hle
  by_cases hin : 0 ≤ r ∧ r < n
  · obtain ⟨R, rfl⟩ : ∃ R : Nat, r = R := ⟨r.toNat, by omega⟩
    obtain ⟨y, hy⟩ : ∃ y, c.times[R]? = some y := ⟨_, List.getElem?_eq_getElem (by omega)⟩
    obtain ⟨tb, tf, htA, htb, htx, htf, _, htc, htm, _⟩ := row_put h.times hy
    have hv : timesOf c R = (y, 0) := by
      unfold timesOf
      rw [if_pos (by omega), Int.toNat_natCast, List.getD_eq_getElem?_getD, hy]; rfl
    rw [hv]
    rw [htA] at x7
    simp only [errV_zero]
    unfold maxLen at htm
    rw [← hn] at htc
    obtain ⟨_, hin2⟩ := hin
    clear hv h hm hle hy hn htA
    go_enter Tryd.func57, Tryd.ntmps57
    go_wp2_with fail
    go_ret2
    exact ⟨rfl, rfl⟩
  · have hv : timesOf c r = (0, 1) := by
      unfold timesOf
      rw [if_neg (by omega)]
    rw [hv]
    simp only [errV_pos (show (1 : Int) ≠ 0 by decide)]
    have hb : r < 0 ∨ (0 ≤ r ∧ (n : Int) ≤ r) := by omega
    clear hv h hm hle hin hn
    rcases hb with hb | ⟨hb, hb1⟩
    all_goals
      go_enter Tryd.func57, Tryd.ntmps57
      go_wp2_with fail
      go_ret2
      exact ⟨rfl, rfl⟩
theorem cpoke_bad (hp : PlOk p) (hk : COk p what most c B) (h : CareAt w cb p what most C c) (r k v : Int) (hb : pokeOk p.code.length r k v = false) :
    Calls Tryd.prog 52 #[.pointer (some ⟨cb, 0, none⟩), .int .i64 r, .int .i64 k, .int .i64 v] w fun e w' => e = .returned (errV 1) ∧ w = w' := by
  obtain ⟨x0, _, _, _, _, _, _, _, hlt⟩ := h.cells
  have HPO := hid (kpoke_bad r k v (by rw [hk.k.rooms]; exact hp.most5) h.kat (by rw [hk.k.rooms]; exact hb))
  rw [errV_pos (by decide)] at HPO ⊢
  clear h hp hk
  go_enter Tryd.func52, Tryd.ntmps52
  go_wp2_with fail
  refine HPO.out.mono ?_
  rintro e1 w2 ⟨rfl, rfl⟩
  go_wp2_with fail
  go_ret
  exact ⟨rfl, rfl⟩
def pokeC (c : Cst) (r k v : Int) : Cst := ⟨pokeK c.k r k v, c.times⟩
theorem cpoke_ok (hp : PlOk p) (hk : COk p what most c B) (h : CareAt w cb p what most C c) (r k v : Int) (hb : pokeOk p.code.length r k v = true) :
    Calls Tryd.prog 52 #[.pointer (some ⟨cb, 0, none⟩), .int .i64 r, .int .i64 k, .int .i64 v] w fun e w' => e = .returned .nilIface ∧ Went w w' (careT cb p what most C c) (careT cb p what most C (pokeC c r k v)) := by
  obtain ⟨x0, _, _, _, _, _, _, _, hlt⟩ := h.cells
  have HPO := hid (kpoke_ok r k v (by rw [hk.k.rooms]; exact hp.most5) h.kat (by rw [hk.k.rooms]; exact hb))
  have HC := hid h
  clear h hp hk
  go_enter Tryd.func52, Tryd.ntmps52
  go_wp2_with fail
  refine HPO.out.mono ?_
  rintro e1 w2 ⟨rfl, h1, h2, _⟩
  have HW := hid (HC.out.goK h1 ⟨rfl, rfl⟩ h2 fun _ hj => .inl hj)
  clear h1 h2
  go_wp2_with fail
  go_ret
  exact ⟨rfl, HW.out⟩
theorem pokeC_ok (hk : COk p what most c B) {r k v : Int} (ho : pokeOk p.code.length r k v = true) : COk p what most (pokeC c r k v) B := ⟨poke_right hk.k (by rw [hk.k.rooms]; exact ho), hk.many, hk.least⟩
end
end Go.Proofs.YtongkiccglaniaaDoor
