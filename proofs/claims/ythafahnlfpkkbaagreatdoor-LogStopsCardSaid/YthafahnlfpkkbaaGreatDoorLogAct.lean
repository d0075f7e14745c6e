/- Package log: contracts of act on a kernel that stands: so many ticks, or a cell that is poked. Conditions: none. -/
import Derived.Test.YthafahnlfpkkbaaGreatDoorLogW
import Derived.Test.YthafahnlfpkkbaaGreatDoorKLawU
import Derived.StillTailTactics
namespace Go.Proofs.YthafahnlfpkkbaaGreatDoor
open Go.RowKit
set_option maxRecDepth 100000

section
variable {w0 w : World} {kb : Nat} {p : Pl} {M : KM} {k : Kst} {ts : List Tg}
theorem ltick {B : Int} (hp : PlOk p) (hk : KOk p k B) (hB : B < 4611686018427387904) (h : Stand w0 w (kTh kb p M k :: ts)) :
    Calls Tryz.prog 26 #[.pointer (some ⟨kb, 0, none⟩)] w fun e w' => ∃ (a b c d : Int) (M' : KM), e = .returned (.agg #[.int .i64 a, .int .i64 b, .int .i64 c, .int .i64 d]) ∧ Stand w0 w' (kTh kb p M' (tick p k).2 :: ts) := by
  have hl := h.get (i := 0) rfl
  refine (ktick_any w kb M k p B hp hl.here.2 hk hB hl.here.1).mono ?_
  rintro e w' ⟨M', rfl, h1, h2, h3, h4⟩
  exact ⟨_, _, _, _, M', rfl, h.go 0 rfl (k_went hl h1 h2 h3 h4)⟩
theorem lpoke (r c v : Int) (hn : k.rooms.length ≤ 5) (hb : pokeOk k.rooms.length r c v = true) (h : Stand w0 w (kTh kb p M k :: ts)) :
    Calls Tryz.prog 166 #[.pointer (some ⟨kb, 0, none⟩), .int .i64 r, .int .i64 c, .int .i64 v] w fun e w' => e = .returned .nilIface ∧ Stand w0 w' (kTh kb p M (pokeK k r c v) :: ts) := by
  have hl := h.get (i := 0) rfl
  refine (kpoke_ok r c v hn hl.here.1 hb).mono ?_
  rintro e w' ⟨rfl, h1, h2, _⟩
  exact ⟨rfl, h.go 0 rfl (k_went hl h1 ⟨rfl, rfl⟩ h2 fun j hj => .inl hj)⟩
theorem lact_ticks (hp : PlOk p) (n : Nat) (hn : n ≤ 100) (nb off c : Nat) (hc : w.cell? ⟨nb, off, none⟩ = some (.int .i64 n)) (h : Stand w0 w (kTh kb p M (runK p 0) :: ts)) :
    Calls Tryz.prog 140 #[.pointer (some ⟨kb, 0, none⟩), .slice (some ⟨nb, off, none⟩) 1 c] w fun e w' => e = .returned .nilIface ∧ ∃ M', Stand w0 w' (kTh kb p M' (runK p n) :: ts) := by
  have HST := hid h
  have HP := hid hp
  have hlt := cell_lt hc
  clear h hp
  go_enter Tryz.func140, Tryz.ntmps140
  go_wp2_with fail
  go_loopw [26] (fun v26 wr => ∃ (i : Nat) (M' : KM), i ≤ n ∧ v26 = .int .i64 i ∧ Stand w0 wr (kTh kb p M' (runK p i) :: ts)) (fun v26 _ => n - (intOf v26).toNat)
  case atStart => exact ⟨0, M, by omega, rfl, HST.out⟩
  case round =>
    obtain ⟨i, M', hi, rfl, hst⟩ := hrel
    have HS := hid hst
    clear hst
    by_cases hin : i < n
    · have HT : Hid (Calls Tryz.prog 26 #[.pointer (some ⟨kb, 0, none⟩)] wr fun e w' => ∃ (a b c d : Int) (M' : KM), e = .returned (.agg #[.int .i64 a, .int .i64 b, .int .i64 c, .int .i64 d]) ∧ Stand w0 w' (kTh kb p M' (runK p (i + 1)) :: ts)) :=
        ltick HP.out (runK_ok HP.out i) (by omega) HS.out
      go_wp2_with (go_at_call 26; refine HT.out.mono ?_; rintro e w3 ⟨ea, eb, ec, ed, M2, rfl, hst3⟩; have HS3 := hid hst3; clear hst3 HT)
      go_roundw
      case rel => exact ⟨i + 1, M2, by omega, by go_num, HS3.out⟩
      case measure => simp [intOf]; omega
    · obtain rfl : i = n := by omega
      go_wp2_with fail
      go_ret
      exact ⟨rfl, M', HS.out⟩
theorem lact_poke (r c v : Int) (hn : k.rooms.length ≤ 5) (hb : pokeOk k.rooms.length r c v = true) (nb off cc : Nat) (h0 : w.cell? ⟨nb, off, none⟩ = some (.int .i64 r)) (h1 : w.cell? ⟨nb, off + 1, none⟩ = some (.int .i64 c)) (h2 : w.cell? ⟨nb, off + 2, none⟩ = some (.int .i64 v))
    (h : Stand w0 w (kTh kb p M k :: ts)) :
    Calls Tryz.prog 140 #[.pointer (some ⟨kb, 0, none⟩), .slice (some ⟨nb, off, none⟩) 3 cc] w fun e w' => e = .returned .nilIface ∧ ∃ M', Stand w0 w' (kTh kb p M' (pokeK k r c v) :: ts) := by
  have HST := hid h
  have HN := hid hn
  have HB := hid hb
  have hlt := cell_lt h0
  clear h hn hb
  go_enter Tryz.func140, Tryz.ntmps140
  go_wp2_with fail
  go_still_tail 10, (by kernel_rfl)
  go_wp2_with fail
  refine (lpoke r c v HN.out HB.out (HST.out.new (Below.refl _ _).drew)).mono ?_
  rintro e w3 ⟨rfl, hst⟩
  have HS := hid hst
  clear hst
  go_wp2_with fail
  go_ret
  exact ⟨rfl, M, HS.out⟩
end
end Go.Proofs.YthafahnlfpkkbaaGreatDoor
