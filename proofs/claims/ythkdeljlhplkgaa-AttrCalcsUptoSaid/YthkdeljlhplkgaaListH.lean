/- The contract of list. -/
import Derived.Test.YthkdeljlhplkgaaRowBlk
import Derived.Test.YthkdeljlhplkgaaCheckG
namespace Go.Proofs.Ythkdeljlhplkgaa
open Go.RowKit

def listG : Gram := ⟨1, 1, 0, [⟨0, [⟨false, 0⟩, ⟨true, 0⟩]⟩, ⟨0, [⟨true, 0⟩]⟩]⟩
def GramPost (g : Gram) (w : World) (e : Ending) (w' : World) : Prop := ∃ v, e = .returned (.agg #[.int .i64 g.terms, .int .i64 g.nons, .int .i64 g.start, v]) ∧ Rd AnyB w' (.sl (g.rules.map Rule.d)) [v] ∧ Below w.heap.size w w'

end Go.Proofs.Ythkdeljlhplkgaa
