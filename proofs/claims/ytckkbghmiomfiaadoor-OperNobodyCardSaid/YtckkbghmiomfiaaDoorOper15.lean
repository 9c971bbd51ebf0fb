/- Layer 9 (oper): slices.SortFunc at this program. -/
import Derived.Test.YtckkbghmiomfiaaDoorOper14
import Derived.Shelf.SlSortCmp.NoneTotal
import Derived.Shelf.Lay
import Derived.Ground.SlsfProg
namespace Go.Proofs.YtckkbghmiomfiaaDoor
open Go.RowKit Go.El Go.Sort Go.Shelf Go.Proofs
shelf_lay_g SlLaysF0.n6 Slsf 6 at Tryd 34 as Tryd.sortOp

end Go.Proofs.YtckkbghmiomfiaaDoor
