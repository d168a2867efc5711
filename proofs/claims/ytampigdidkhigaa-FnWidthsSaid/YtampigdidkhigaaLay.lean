/-
  The contracts of slices.SortFunc and slices.Reverse are laid at this program (written by the kit's tool). No condition.
-/
import Derived.Test.YtampigdidkhigaaProg
import Derived.Test.YtampigdidkhigaaEm6
import Derived.Shelf.SlGeneric
namespace Go.Proofs.Ytampigdidkhigaa
open Go Go.Shelf Go.Proofs
end Go.Proofs.Ytampigdidkhigaa
