/- Plain laws: LVl. -/
import Derived.Test.YtifcbamdncpahaaDoorLLLog
import Derived.Test.YtifcbamdncpahaaDoorLL12
import Derived.Test.YtifcbamdncpahaaDoorLL7
import Derived.Test.YtifcbamdncpahaaDoorLR15
set_option linter.unusedVariables false
set_option linter.unusedSimpArgs false
namespace Go.Pl
open Go Go.Tv Go.RowKit
end Go.Pl
