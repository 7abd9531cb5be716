/- Plain laws: LD2. -/
import Derived.Test.YtifcbamdncpahaaDoorLLD
import Derived.Test.YtifcbamdncpahaaDoorLL4
set_option linter.unusedVariables false
set_option linter.unusedSimpArgs false
namespace Go.Pl
open Go Go.Tv Go.RowKit
set_option linter.unusedVariables false
end Go.Pl
