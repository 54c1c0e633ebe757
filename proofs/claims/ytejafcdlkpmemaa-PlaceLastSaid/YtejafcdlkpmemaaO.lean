/- What all rows of this seat share. -/
import Derived.Test.YtejafcdlkpmemaaChecked
import Derived.Test.YtejafcdlkpmemaaN
namespace Go.Proofs.Ytejafcdlkpmemaa
open Go.ChangeShapes Go.WideShapes Go.ChangeAt Go.RowKit Go.Shelf
theorem own : ownKnob Try.prog.godebug = none := by kernel_rfl
noncomputable def plainWorld (os : Os) : World := World.holding Try.prog os ⟨#[], #[], []⟩
end Go.Proofs.Ytejafcdlkpmemaa
