/- Package frameref2: the contract of Since, for a plan that is right and numbers that may be. -/
import Derived.Test.YtongkiccglaniaaDoorRKern
import Derived.Test.YtongkiccglaniaaDoorPart
import Derived.Test.YtongkiccglaniaaDoorSwayLaw
import Derived.Test.YtongkiccglaniaaDoorSameU
import Derived.BigQuiet
namespace Go.Proofs.YtongkiccglaniaaDoor
open Go.RowKit
set_option maxRecDepth 100000

abbrev rkT (kb : Nat) (p : Pl) (M : KM) (k : Kst) : Tg := kT 83 85 86 kb p M k
/-- A reference's kernel stands, its plan in older memory. -/
theorem Stand.addR {w0 w w1 : World} {ts : List Tg} {kb : Nat} {p : Pl} {M : KM} {k : Kst} (h : Stand w0 w ts) (hr : RRun w w1 kb p M k) (ho : ∀ j, planF M.P j → j < w0.heap.size) : Stand w0 w1 (ts ++ [rkT kb p M k]) :=
  h.add hr.below (k_lie hr.kat hr.plan) (fun j hj => hr.fresh j (.inl hj)) fun j hj => by
    rcases hj with hj | hj | hj
    · exact .inl (hr.fresh j (.inl hj))
    · exact .inl (hr.fresh j (.inr hj))
    · exact .inr (ho j hj)
/-- Such a kernel's tick. -/
theorem rtick_stand {w0 wr : World} {ts : List Tg} {i kb : Nat} {p : Pl} {M : KM} {k : Kst} {B : Int} (h : Stand w0 wr ts) (hi : ts[i]? = some (rkT kb p M k)) (hp : PlOk p) (hk : KOk p k B) (hB : B < 4611686018427387904) :
    Calls Tryd.prog 35 #[.pointer (some ⟨kb, 0, none⟩)] wr fun e w' => ∃ M', e = .returned (.agg #[.int .i64 (tick p k).1.tick, .int .i64 (tick p k).1.room, .int .i64 (tick p k).1.pc, .int .i64 (tick p k).1.what]) ∧ Stand w0 w' (ts.set i (rkT kb p M' (tick p k).2)) := by
  have hk1 := (h.get hi).here
  refine (rtick_any wr kb M k p B hp hk1.2 hk hB hk1.1).mono ?_
  rintro e w' ⟨M', rfl, h1, h2, h3, h4⟩
  exact ⟨M', rfl, h.go i hi (k_went (h.get hi) h1 h2 h3 h4)⟩
end Go.Proofs.YtongkiccglaniaaDoor
