/- Package spread: the contracts of State and Wire; and of New, Tick for one that stands in new memory. -/
import Derived.Test.YtongkiccglaniaaDoorSpreadTick
import Derived.Test.YtongkiccglaniaaDoorSpreadNew
import Derived.Test.YtongkiccglaniaaDoorGetU
namespace Go.Proofs.YtongkiccglaniaaDoor
open Go.RowKit
set_option maxRecDepth 100000
attribute [local go_sem ↓] Go.wp_at_zero Go.wp_at_succ

section
variable {w : World} {sb : Nat} {p : Pl} {S : SM} {k : Kst}
set_option maxHeartbeats 1000000 in
theorem sstate_any (h : SpreadAt w sb p S k) (_hn : k.rooms.length ≤ 5) (r : Int) : Calls Tryd.prog 27 #[.pointer (some ⟨sb, 0, none⟩), .int .i64 r] w (StateV w (stateOf k r)) := by
  have hml := h.facts.manyR2
  obtain ⟨_, _, _, _, k4, _, _, _, hsb⟩ := sp_cells h.all
  unfold stateOf
  cases hin : inB r k.rooms.length with
  | false =>
    rw [if_neg (by decide)]
    have hr : ¬ (0 ≤ r ∧ r < S.rs.length) := by rw [hml]; simpa [inB] using hin
    generalize S.rs.length = n at k4 hr hml
    rw [← hml] at _hn
    clear h hin hml
    have hr' : r < 0 ∨ (0 ≤ r ∧ (n : Int) ≤ r) := by omega
    clear hr
    rcases hr' with h0 | ⟨h0, h1⟩
    all_goals
      go_enter Tryd.func27, Tryd.ntmps27
      go_wp2_with fail
      refine bodyPost_ret (v := .tuple #[.agg (stV St.zero), errV 1]) (by simp [results, Tryd.results27, go_sem, stV, St.zero, errV]) rfl ?_
      exact ⟨rfl, by repeat (first | exact Below.refl _ _ | refine Below.setCell ?_ (by simp) _ | refine Below.alloc ?_ (by simp) _)⟩
  | true =>
    rw [if_pos rfl]
    have hr : 0 ≤ r ∧ r < k.rooms.length := by simpa [inB] using hin
    obtain ⟨r', rfl⟩ : ∃ r' : Nat, r = r' := ⟨r.toNat, by omega⟩
    obtain ⟨x, hx⟩ : ∃ x, S.rs[r']? = some x := ⟨_, List.getElem?_eq_getElem (by omega)⟩
    have hg : k.rooms.getD (r' : Int).toNat St.zero = x.a.st := by
      rw [Int.toNat_natCast, List.getD_eq_getElem?_getD, ← h.facts.rooms, List.getElem?_map, hx]; rfl
    rw [hg]
    obtain ⟨b, off, hA, hp, hb, _, hcap, hcm⟩ := sp_rptr h.all hx
    have HST : Hid (∀ w', Below w.heap.size w w' → Calls Tryd.prog 21 #[.pointer (some ⟨x.ab, 0, none⟩)] w' fun e w'' => e = .returned (.agg (stV x.a.st)) ∧ Below w'.heap.size w' w'') := fun w' hb' => astate_any (sp_alone (h.new hb').all hx)
    rw [hA] at k4
    rw [← hml] at hr _hn
    generalize S.rs.length = n at k4 hr hcap _hn
    obtain ⟨ab, xA, xc, xl, xr, ⟨⟨pc, c0, c1, c2, c3, c4, c5, f⟩, tn⟩⟩ := x
    unfold AR.ptr at hp
    unfold stV at HST
    simp only [] at hp HST ⊢
    unfold maxLen at hcm
    obtain ⟨_, hr1⟩ := hr
    clear h hin hml hx hg hA
    go_enter Tryd.func27, Tryd.ntmps27
    go_wp2_with fail
    refine (HST.out _ ((Below.refl _ _).alloc (Nat.le_refl _) _)).mono ?_
    rintro e w1 ⟨rfl, hb1⟩
    have hz := (hb1.block w.heap.size (by simp)).trans (heap_alloc_new w _)
    have q0 := blk_cell hz 0
    have q1 := blk_cell hz 1
    have q2 := blk_cell hz 2
    have q3 := blk_cell hz 3
    have q4 := blk_cell hz 4
    have q5 := blk_cell hz 5
    have q6 := blk_cell hz 6
    have q7 := blk_cell hz 7
    have qf := fun j => blk_free hz j
    have ql := blk_lt hz
    simp at q0 q1 q2 q3 q4 q5 q6 q7
    have HB1 : Hid (Below w.heap.size w w1) := ((Below.refl _ _).alloc (Nat.le_refl _) _).trans (hb1.mono (by simp))
    have HZ := hid hz
    clear hz hb1
    go_wp2_with fail
    have hz2 : (putAt w1 w.heap.size 0 ⟨pc, c0, c1, c2, c3, c4, c5, f⟩).heap[w.heap.size]? = some (.cells #[.int .i64 pc, .int .i64 c0, .int .i64 c1, .int .i64 c2, .int .i64 c3, .int .i64 c4, .int .i64 c5, .bool f] 40 (0, 0)) := by
      unfold putAt
      simp [hp_set, HZ.out, setObj]
    have hbz : Below w.heap.size w (putAt w1 w.heap.size 0 ⟨pc, c0, c1, c2, c3, c4, c5, f⟩) := below_put0 HB1.out (Nat.le_refl _) _ _ _ _ _ _ _ _
    obtain ⟨wz, hwz⟩ : ∃ wz, wz = putAt w1 w.heap.size 0 ⟨pc, c0, c1, c2, c3, c4, c5, f⟩ := ⟨_, rfl⟩
    rw [← hwz] at hz2 hbz
    unfold putAt at hwz
    simp only [Nat.zero_add] at hwz
    rw [← hwz]
    have z0 := blk_cell hz2 0
    have z1 := blk_cell hz2 1
    have z2 := blk_cell hz2 2
    have z3 := blk_cell hz2 3
    have z4 := blk_cell hz2 4
    have z5 := blk_cell hz2 5
    have z6 := blk_cell hz2 6
    have z7 := blk_cell hz2 7
    simp at z0 z1 z2 z3 z4 z5 z6 z7
    refine bodyPost_ret (v := .tuple #[.agg (stV ⟨pc, c0, c1, c2, c3, c4, c5, f⟩), .nilIface]) (by simp [results, Tryd.results27, go_sem, stV, z0, z1, z2, z3, z4, z5, z6, z7]) rfl ?_
    exact ⟨by rw [errV_zero], hbz⟩
set_option maxHeartbeats 1000000 in
theorem swire_any (h : SpreadAt w sb p S k) {B : Int} (hk : KOk p k B) (_hn : k.lines.length ≤ 12) (i : Int) : Calls Tryd.prog 31 #[.pointer (some ⟨sb, 0, none⟩), .int .i64 i] w (WireV w (wireOf k i).1.1 (wireOf k i).1.2 (wireOf k i).2) := by
  have hml := h.facts.manyL
  obtain ⟨_, _, _, _, _, k5, _, _, hsb⟩ := sp_cells h.all
  unfold wireOf
  cases hin : inB i k.lines.length with
  | false =>
    rw [if_neg (by decide)]
    have hin' : ¬ (0 ≤ i ∧ i < S.ls.length) := by rw [hml]; simpa [inB] using hin
    have fin : ∀ w2, w2 = w.alloc (.cells #[.slice none 0 0, .int .i64 0] 73) → WireV w [] 0 1 (.returned (.tuple #[.agg #[.slice none 0 0, .int .i64 0], errV 1])) w2 := by
      rintro w2 rfl
      exact ⟨none, 0, rfl, Row.nil _ _ _, fun j hj => by simp [InA] at hj, (Below.refl _ _).alloc (Nat.le_refl _) _⟩
    have FIN := hid fin
    generalize S.ls.length = n at k5 hin' hml
    rw [← hml] at _hn
    clear fin h hin hk hml
    have hr' : i < 0 ∨ (0 ≤ i ∧ (n : Int) ≤ i) := by omega
    clear hin'
    rcases hr' with h0 | ⟨h0, h1⟩
    all_goals
      go_enter Tryd.func31, Tryd.ntmps31
      go_wp2_with fail
      exact bodyPost_ret (v := .tuple #[.agg #[.slice none 0 0, .int .i64 0], errV 1]) (by simp [results, Tryd.results31, go_sem, errV]) rfl (FIN.out _ rfl)
  | true =>
    rw [if_pos rfl]
    have hr : 0 ≤ i ∧ i < k.lines.length := by simpa [inB] using hin
    obtain ⟨j, rfl⟩ : ∃ j : Nat, i = j := ⟨i.toNat, by omega⟩
    obtain ⟨z, hz⟩ : ∃ z, S.ls[j]? = some z := ⟨_, List.getElem?_eq_getElem (by omega)⟩
    have hkz : k.lines[j]? = some z.x := by rw [← h.facts.lines, List.getElem?_map, hz]; rfl
    have hg : k.lines.getD (j : Int).toNat ⟨⟨0, 0, 0, 0⟩, [], 0⟩ = z.x := by rw [Int.toNat_natCast, List.getD_eq_getElem?_getD, hkz]; rfl
    rw [hg]
    have hok := hk.lns z.x (List.mem_of_getElem? hkz)
    obtain ⟨b, off, hA, hp, hb, _, hcap, hcm⟩ := sp_lptr h.all hz
    have hl := sp_line h.all hz
    have HH : Hid (∀ w', Below w.heap.size w w' → Calls Tryd.prog 77 #[.pointer (some ⟨z.b, 0, none⟩)] w' (HeldAs w' z.x.items z.x.lost)) := fun w' hb' =>
      held_any z.b w' z.A z.x.w z.x.items z.x.lost hok.six (LineAt.new (w := w) hl hb')
    rw [hA] at k5
    rw [← hml] at hr _hn
    generalize S.ls.length = n at k5 hr hcap _hn
    obtain ⟨_, hr1⟩ := hr
    obtain ⟨zb, zA, ⟨xw, xi, xl⟩⟩ := z
    unfold LR.ptr at hp
    simp only [] at hp HH ⊢
    have hmk : ∀ (A : Option Addr) (cap : Nat) (w1 w2 : World), Row w1 3 1 A xi.length cap (ints xi) → (∀ k, InA A k → w.heap.size + 1 ≤ k) → Below (w.heap.size + 1) (w.alloc (.cells #[.slice none 0 0, .int .i64 0] 73)) w1 →
        w2 = (w1.setCell ⟨w.heap.size, 0, none⟩ (.slice A xi.length cap)).setCell ⟨w.heap.size, 1, none⟩ (.int .i64 xl) → WireV w xi xl 0 (.returned (.tuple #[.agg #[.slice A xi.length cap, .int .i64 xl], .nilIface])) w2 := by
      rintro A cap w1 w2 h1 h2 h3 rfl
      obtain ⟨g1, g2, g3⟩ := wire_made h1 h2 h3 (.slice A xi.length cap) (.int .i64 xl)
      exact ⟨A, cap, by rw [errV_zero], g1, g2, g3⟩
    have HMK := hid hmk
    unfold maxLen at hcm
    clear hmk h hin hml hz hkz hg hok hl hA hk
    go_enter Tryd.func31, Tryd.ntmps31
    go_wp2_with fail
    refine (HH.out _ ((Below.refl _ _).alloc (Nat.le_refl _) _)).mono ?_
    rintro e w2 ⟨A, cap, rfl, hr2, hn2, hb2⟩
    have hb3 : Below (w.heap.size + 1) (w.alloc (.cells #[.slice none 0 0, .int .i64 0] 73)) w2 := by simpa using hb2
    have hh := (hb3.block w.heap.size (by omega)).trans (heap_alloc_new w _)
    have q0 := blk_cell hh 0
    have q1 := blk_cell hh 1
    have qf := fun j => blk_free hh j
    have ql := blk_lt hh
    simp at q0 q1
    have HB := hid hb3
    have HR := hid hr2
    have HN := hid hn2
    have HHH := hid hh
    clear hh hb2 hb3 hr2 hn2
    go_wp2_with fail
    have hz2 : ((w2.setCell ⟨w.heap.size, 0, none⟩ (.slice A xi.length cap)).setCell ⟨w.heap.size, 1, none⟩ (.int .i64 xl)).heap[w.heap.size]? = some (.cells #[.slice A xi.length cap, .int .i64 xl] 73 (0, 0)) := by simp [hp_set, HHH.out, setObj]
    have hfin := HMK.out A cap w2 _ HR.out (fun k hk => by have := HN.out k hk; simpa using this) HB.out rfl
    obtain ⟨wz, hwz⟩ : ∃ wz, wz = (w2.setCell ⟨w.heap.size, 0, none⟩ (.slice A xi.length cap)).setCell ⟨w.heap.size, 1, none⟩ (.int .i64 xl) := ⟨_, rfl⟩
    rw [← hwz] at hz2 hfin ⊢
    have z0 := blk_cell hz2 0
    have z1 := blk_cell hz2 1
    simp at z0 z1
    exact bodyPost_ret (v := .tuple #[.agg #[.slice A xi.length cap, .int .i64 xl], .nilIface]) (by simp [results, Tryd.results31, go_sem, z0, z1]) rfl hfin
end
/-- A tick of one that stands. -/
theorem stick_stand {w0 wr : World} {sb i : Nat} {p : Pl} {S : SM} {k : Kst} {ts : List Tg} {B : Int} (h : Stand w0 wr ts) (hi : ts[i]? = some (spreadT sb p S k)) (hf : Forms w0) (hp : PlOk p) (hk : KOk p k B) (hB : B < 4611686018427387904) :
    Calls Tryd.prog 26 #[.pointer (some ⟨sb, 0, none⟩)] wr fun e w' => ∃ S', e = .returned (.agg #[.int .i64 (tick p k).1.tick, .int .i64 (tick p k).1.room, .int .i64 (tick p k).1.pc, .int .i64 (tick p k).1.what]) ∧ Stand w0 w' (ts.set i (spreadT sb p S' (tick p k).2)) := by
  refine (stick_any hf h.below (fun j hj => h.fresh _ (List.mem_of_getElem? hi) j hj) (h.get hi).here hp hk hB).mono ?_
  rintro e w' ⟨S', rfl, hw⟩
  exact ⟨S', rfl, h.go i hi hw⟩
end Go.Proofs.YtongkiccglaniaaDoor
