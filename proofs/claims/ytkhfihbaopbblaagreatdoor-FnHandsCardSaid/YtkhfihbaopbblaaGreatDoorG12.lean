/- Plain laws: R14, LRd, LLog, LVl, R18, R21. -/
import Derived.Test.YtkhfihbaopbblaaGreatDoorG1
import Derived.Test.YtkhfihbaopbblaaGreatDoorG8
import Derived.Test.YtkhfihbaopbblaaGreatDoorG0
import Derived.Test.YtkhfihbaopbblaaGreatDoorG9
import Derived.Test.YtkhfihbaopbblaaGreatDoorG3
import Derived.Test.YtkhfihbaopbblaaGreatDoorPL
set_option linter.unusedVariables false
set_option linter.unusedSimpArgs false
namespace Go.Pl
open Go Go.Tv Go.RowKit
end Go.Pl
namespace Go.Pl
open Go Go.Tv Go.RowKit
end Go.Pl
namespace Go.Pl
open Go Go.Tv Go.RowKit
end Go.Pl
namespace Go.Pl
open Go Go.Tv Go.RowKit
end Go.Pl
namespace Go.Pl
open Go Go.Tv Go.RowKit
end Go.Pl
namespace Go.Pl
open Go Go.Tv Go.RowKit
end Go.Pl
