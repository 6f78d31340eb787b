/- KeyAll: the walk. -/
import Derived.Test.YtonndofbnhnkpaaRef6
namespace Go.Proofs.Ytonndofbnhnkpaa.KeyAll
open Go.RowKit Num KeyM KeyW
end Go.Proofs.Ytonndofbnhnkpaa.KeyAll
