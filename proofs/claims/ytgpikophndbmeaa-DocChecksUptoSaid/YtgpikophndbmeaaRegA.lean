/- A region that draws its order, that only loads what was there and calls what makes new memory only: one walk in the order of the text. -/
import Derived.Test.YtgpikophndbmeaaLibTwo
import Derived.BigQuiet
namespace Go.Proofs.Ytgpikophndbmeaa
open Go.RowKit

/-- a world behind w0: what was there is as it was -/
structure Aft (w0 : World) where
  w : World
  bel : Below w0.heap.size w0 w
instance (w0 : World) : Nonempty (Aft w0) := ⟨⟨w0, Below.refl _ _⟩⟩
theorem aft_cell {w0 : World} {p : Addr} {v : Value} (h : w0.cell? p = some v) : ∀ x : Aft w0, x.w.cell? p = some v := fun x => (x.bel.cell (lt_of_cell h)).trans h
def AftC (w0 : World) : World → Prop := fun w' => ∃ x : Aft w0, w' = x.w
theorem wp_region_after {P : Program} {id : Nat} {Q : Exit → Act → World → Prop} {a : Act} {w0 : World} {l : List Oper} (hm : P.follows .mixedOrders = true) (hB : Region.lexB .any l.toArray = true)
    (h : wpQuiet P l.toArray (fun w' => ∃ x : Aft w0, w' = x.w) (fun a' => ∀ w', (∃ x : Aft w0, w' = x.w) → Q .normal a' w') l a) : (Code.region id l.toArray true).wp P Q a w0 :=
  wp_region_quiet (C := fun w' => ∃ x : Aft w0, w' = x.w) hm hB ⟨⟨_, (Below.refl _ w0).drew⟩, rfl⟩ (by simpa using h)
theorem Calls.after {P : Program} {f : FuncId} {args : Array Value} {w0 : World} {x : Aft w0} {v : Value} (h : Calls P f args x.w fun e w' => e = .returned v ∧ Below x.w.heap.size x.w w') :
    Calls P f args x.w fun e w'' => e = .returned v ∧ ∃ y : Aft w0, w'' = y.w :=
  h.mono fun _ w'' ⟨he, hb⟩ => ⟨he, ⟨w'', x.bel.trans (hb.mono x.bel.size)⟩, rfl⟩
end Go.Proofs.Ytgpikophndbmeaa
