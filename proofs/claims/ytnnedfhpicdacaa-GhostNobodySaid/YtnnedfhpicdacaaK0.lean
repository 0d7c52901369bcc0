/-
  Library contracts of the shelf, laid at this program.
-/
import Derived.Test.YtnnedfhpicdacaaRows
import Derived.Shelf.Lay
import Derived.Shelf.SlMaps.Clone
namespace Go.Proofs
open Go.Shelf
shelf_lay_g SlLaysW.n5 Slmc 5 at Try 49 as Try.cloneW
shelf_lay_g SlLaysW.n5 Slmc 5 at Try 50 as Try.cloneL
end Go.Proofs
