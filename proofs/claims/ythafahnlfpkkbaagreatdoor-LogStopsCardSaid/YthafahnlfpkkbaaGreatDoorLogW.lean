/- Package log: contracts of step, act, keep, Go, Poke, Time and Bytes of a log that has not stopped; and package kernel's Rooms. Conditions: the library's table of powers, which the row lists. -/
import Derived.Test.YthafahnlfpkkbaaGreatDoorPart
import Derived.Test.YthafahnlfpkkbaaGreatDoorRunU
import Derived.Test.YthafahnlfpkkbaaGreatDoorGetU
import Derived.Test.YthafahnlfpkkbaaGreatDoorFormU
import Derived.Test.YthafahnlfpkkbaaGreatDoorDeskU
import Derived.Test.YthafahnlfpkkbaaGreatDoorShelf
import Derived.Deep.DeepCutAuto
import Derived.Deep.CutBlock
namespace Go.Proofs.YthafahnlfpkkbaaGreatDoor
open Go.RowKit
set_option maxRecDepth 100000

abbrev kTh (kb : Nat) (p : Pl) (M : KM) (k : Kst) : Tg := kT 146 205 148 kb p M k
/-- A log as it lies: its plan's four cells, its kernel, what is written, what is safe, how many steps are left (below 0: it does not stop). -/
def logCells (v0 v1 v2 v3 : Value) (kb : Nat) (bs : ByteArray) : Array Value := #[v0, v1, v2, v3, .pointer (some ⟨kb, 0, none⟩), .string bs, .int .i64 0, .int .i64 (-1), .bool false]
def logT (lb : Nat) (v0 v1 v2 v3 : Value) (kb : Nat) (bs : ByteArray) : Tg := blkT lb (.cells (logCells v0 v1 v2 v3 kb bs) 174 (0, 0))

theorem krooms_any {w : World} {kb : Nat} {M : KM} {k : Kst} (hka : KAt 146 205 148 w kb M k) :
    Calls Tryz.prog 77 #[.pointer (some ⟨kb, 0, none⟩)] w fun e w' => e = .returned (.tuple #[.int .i64 k.rooms.length, .int .i64 k.lines.length]) ∧ Below w.heap.size w w' := by
  obtain ⟨k0, k1, k2, k4, k5, k6, kf, hkb⟩ := hka.cells
  obtain ⟨a, ha⟩ : ∃ a, a = k.rooms.length := ⟨_, rfl⟩
  obtain ⟨b, hb⟩ : ∃ b, b = k.lines.length := ⟨_, rfl⟩
  rw [← ha] at k4 ⊢
  rw [← hb] at k5 ⊢
  clear k0 k1 k2 k6 kf hka ha hb
  go_enter Tryz.func77, Tryz.ntmps77
  go_wp2_with fail
  go_quiet (fail)
  go_wp2_with fail
  go_ret2
  exact ⟨rfl, below_drewN (Below.refl _ _) _⟩

theorem lstep_any {w : World} {lb kb : Nat} {v0 v1 v2 v3 : Value} {bs : ByteArray} (h : w.heap[lb]? = some (.cells (logCells v0 v1 v2 v3 kb bs) 174 (0, 0))) :
    Calls Tryz.prog 97 #[.pointer (some ⟨lb, 0, none⟩)] w fun e w' => e = .returned (.bool false) ∧ Keep (fun j => j = lb) w w' ∧ w'.heap[lb]? = some (.cells (logCells v0 v1 v2 v3 kb bs) 174 (0, 0)) := by
  unfold logCells at h
  have c7 := blk_cell h 7
  have c8 := blk_cell h 8
  have f7 := blk_free h 7
  have f8 := blk_free h 8
  have hl := blk_lt h
  simp at c7 c8
  have H := hid h
  clear h
  go_enter Tryz.func97, Tryz.ntmps97
  go_wp2_with fail
  go_ret
  refine ⟨rfl, ((Keep.refl (fun j => j = lb) w).setCell (.inl rfl) _).setCell (.inl rfl) _, ?_⟩
  have h1 := blk_set (blk_set H.out 8 (.bool false)) 7 (.int .i64 (-min 1 2))
  exact h1
theorem ltime_any {w : World} {lb kb : Nat} {v0 v1 v2 v3 : Value} {bs : ByteArray} {M : KM} {k : Kst} (h : w.heap[lb]? = some (.cells (logCells v0 v1 v2 v3 kb bs) 174 (0, 0))) (hka : KAt 146 205 148 w kb M k) :
    Calls Tryz.prog 40 #[.pointer (some ⟨lb, 0, none⟩)] w fun e w' => e = .returned (.int .i64 k.time) ∧ w = w' := by
  unfold logCells at h
  have c4 := blk_cell h 4
  have hl := blk_lt h
  simp at c4
  have HT := hid (ktime_any hka)
  clear h hka
  go_enter Tryz.func40, Tryz.ntmps40
  go_wp2_with (go_at_call 31; refine HT.out.mono ?_; rintro e w1 ⟨rfl, rfl⟩)
  go_ret
  exact ⟨rfl, rfl⟩
theorem lbytes_any {w : World} {lb kb : Nat} {v0 v1 v2 v3 : Value} {bs : ByteArray} (h : w.heap[lb]? = some (.cells (logCells v0 v1 v2 v3 kb bs) 174 (0, 0))) :
    Calls Tryz.prog 41 #[.pointer (some ⟨lb, 0, none⟩)] w fun e w' => e = .returned (.int .i64 bs.size) ∧ w = w' := by
  unfold logCells at h
  have c5 := blk_cell h 5
  have hl := blk_lt h
  simp at c5
  clear h
  go_enter Tryz.func41, Tryz.ntmps41
  go_wp2_with fail
  go_ret
  exact ⟨rfl, rfl⟩
end Go.Proofs.YthafahnlfpkkbaaGreatDoor
