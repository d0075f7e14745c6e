/- Package log: the contract of act on a kernel that stands, for every record. Conditions: none. -/
import Derived.Test.YthafahnlfpkkbaaGreatDoorLogG
namespace Go.Proofs.YthafahnlfpkkbaaGreatDoor
open Go.RowKit
set_option maxRecDepth 100000

section
variable {w0 w : World} {kb : Nat} {p : Pl} {M : KM} {k : Kst} {ts : List Tg}
set_option maxHeartbeats 1000000 in
theorem lact_go {B : Int} (hp : PlOk p) (hk : KOk p k B) (hB : B < 4000000000000000000) (n : Nat) (hn : n ≤ 100) (nb off c : Nat) (hc : w.cell? ⟨nb, off, none⟩ = some (.int .i64 n)) (h : Stand w0 w (kTh kb p M k :: ts)) :
    Calls Tryz.prog 140 #[.pointer (some ⟨kb, 0, none⟩), .slice (some ⟨nb, off, none⟩) 1 c] w fun e w' => e = .returned .nilIface ∧ ∃ M', Stand w0 w' (kTh kb p M' (goK p k n) :: ts) := by
  have HST := hid h
  have HP := hid hp
  have HK := hid hk
  have hlt := cell_lt hc
  clear h hp hk
  go_enter Tryz.func140, Tryz.ntmps140
  go_wp2_with fail
  go_loopw [26] (fun v26 wr => ∃ (i : Nat) (M' : KM), i ≤ n ∧ v26 = .int .i64 i ∧ Stand w0 wr (kTh kb p M' (goK p k i) :: ts)) (fun v26 _ => n - (intOf v26).toNat)
  case atStart => exact ⟨0, M, by omega, rfl, HST.out⟩
  case round =>
    obtain ⟨i, M', hi, rfl, hst⟩ := hrel
    have HS := hid hst
    clear hst
    by_cases hin : i < n
    · have HT : Hid (Calls Tryz.prog 26 #[.pointer (some ⟨kb, 0, none⟩)] wr fun e w' => ∃ (a b c d : Int) (M' : KM), e = .returned (.agg #[.int .i64 a, .int .i64 b, .int .i64 c, .int .i64 d]) ∧ Stand w0 w' (kTh kb p M' (goK p k (i + 1)) :: ts)) :=
        ltick HP.out (goK_ok HP.out HK.out i) (by omega) HS.out
      go_wp2_with (go_at_call 26; refine HT.out.mono ?_; rintro e w3 ⟨ea, eb, ec, ed, M2, rfl, hst3⟩; have HS3 := hid hst3; clear hst3 HT)
      go_roundw
      case rel => exact ⟨i + 1, M2, by omega, by go_num, HS3.out⟩
      case measure => simp [intOf]; omega
    · obtain rfl : i = n := by omega
      go_wp2_with fail
      go_ret
      exact ⟨rfl, M', HS.out⟩
theorem lact_rec {B : Int} (hp : PlOk p) (hk : KOk p k B) (hB : B < 4000000000000000000) {x : Lrec} (hx : x.ok p.code.length) (nb off cap : Nat) (hc : ∀ (j : Nat) u, (ints (x.nums.map Int.ofNat))[j]? = some u → w.cell? ⟨nb, off + j, none⟩ = some u) (h : Stand w0 w (kTh kb p M k :: ts)) :
    Calls Tryz.prog 140 #[.pointer (some ⟨kb, 0, none⟩), .slice (some ⟨nb, off, none⟩) x.nums.length cap] w fun e w' => e = .returned .nilIface ∧ ∃ M', Stand w0 w' (kTh kb p M' (doRec p k x) :: ts) := by
  cases x with
  | go n => exact lact_go hp hk hB n hx nb off cap (hc 0 _ rfl) h
  | poke r c v => exact lact_poke r c v (by rw [hk.rooms]; exact hp.most5) (by rw [hk.rooms]; exact lrec_poke hx) nb off cap (hc 0 _ rfl) (hc 1 _ rfl) (hc 2 _ rfl) h
end
end Go.Proofs.YthafahnlfpkkbaaGreatDoor
