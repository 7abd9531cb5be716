/- Plain laws: LQ. -/
import Derived.Test.YtifcbamdncpahaaDoorLLD2
import Derived.Test.YtifcbamdncpahaaDoorLL81
set_option linter.unusedVariables false
set_option linter.unusedSimpArgs false
namespace Go.Pl
open Go Go.Tv Go.RowKit
set_option linter.unusedVariables false
end Go.Pl
