/- Package kernel: the contract of Rooms. -/
import Derived.Test.YtikadpfchchbpaaGreatDoorGetU
namespace Go.Proofs.YtikadpfchchbpaaGreatDoor
open Go.RowKit
set_option maxRecDepth 100000
theorem krooms_of {w : World} {kb : Nat} {M : KM} {k : Kst} (hka : KAt 77 122 81 w kb M k) :
    Calls Tryz.prog 29 #[.pointer (some ⟨kb, 0, none⟩)] w fun e w' => e = .returned (.tuple #[.int .i64 k.rooms.length, .int .i64 k.lines.length]) ∧ Below w.heap.size w w' := by
  obtain ⟨k0, k1, k2, k4, k5, k6, kf, hkb⟩ := hka.cells
  obtain ⟨a, ha⟩ : ∃ a, a = k.rooms.length := ⟨_, rfl⟩
  obtain ⟨b, hb⟩ : ∃ b, b = k.lines.length := ⟨_, rfl⟩
  rw [← ha] at k4 ⊢
  rw [← hb] at k5 ⊢
  clear k0 k1 k2 k6 kf hka ha hb
  go_enter Tryz.func29, Tryz.ntmps29
  go_wp2_with fail
  go_quiet (fail)
  go_wp2_with fail
  go_ret2
  exact ⟨rfl, below_drewN (Below.refl _ _) _⟩

end Go.Proofs.YtikadpfchchbpaaGreatDoor
