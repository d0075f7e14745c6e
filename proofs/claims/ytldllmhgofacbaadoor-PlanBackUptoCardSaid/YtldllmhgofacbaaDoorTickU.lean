/- Package kernel: the contracts of Turn, TickBy, Tick, for every kernel that is right. -/
import Derived.Test.YtldllmhgofacbaaDoorKernDo
import Derived.Test.YtldllmhgofacbaaDoorFrameU
import Derived.Test.YtldllmhgofacbaaDoorOwnU
namespace Go.Proofs.YtldllmhgofacbaaDoor
open Go.RowKit
set_option maxRecDepth 100000
attribute [local go_sem ↓] Go.wp_at_zero Go.wp_at_succ

section
variable {kb : Nat} {w : World} {M : KM} {k : Kst}
end

def evV (a b c d : Int) : Array Value := #[.int .i64 a, .int .i64 b, .int .i64 c, .int .i64 d]
section
variable {TK TL TP : Nat} {w wx w' : World} {kb b5 : Nat} {M0 M : KM} {k : Kst} {a b c d : Int}
end
theorem below_put4 {B b : Nat} {a w : World} (h : Below B a w) (hb : B ≤ b) (v0 v1 v2 v3 : Value) :
    Below B a ((((w.setCell ⟨b, 0, none⟩ v0).setCell ⟨b, 1, none⟩ v1).setCell ⟨b, 2, none⟩ v2).setCell ⟨b, 3, none⟩ v3) :=
  (((h.setCell hb _).setCell hb _).setCell hb _).setCell hb _
end Go.Proofs.YtldllmhgofacbaaDoor
