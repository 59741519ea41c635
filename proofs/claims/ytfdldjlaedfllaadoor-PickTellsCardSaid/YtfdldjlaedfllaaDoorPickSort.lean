/- slices.SortFunc at []int: laid. -/
import Derived.Shelf.SlSortCmp.Whole1
import Derived.Shelf.Lay
import Derived.Ground.SlsfProg
import Derived.Test.YtfdldjlaedfllaaDoorPickCmp
namespace Go.Proofs.YtfdldjlaedfllaaDoor
open Go.Shelf Go.RowKit Go.Lib Go.Sort
set_option linter.unusedVariables false

shelf_lay_g SlLaysF.n6 Slsf 6 at Tryd 42 as Srt.lay

end Go.Proofs.YtfdldjlaedfllaaDoor
