
import Derived.Test.YtnppmcgmmdcpiaaGreatDoorEngL
import Derived.Deep.Strs
namespace Go.Eng
open Go.ChangeShapes Go.WideShapes Go.ChangeAt Go.RowKit Go.WideElems Go.Deep
section
variable {K : Type} {enc : TypeId × Value → K} {P : Program} {W : World} {t e q : TypeId} {v : Value} {d : DataW K} {ps : List MemPlace}
end
end Go.Eng
