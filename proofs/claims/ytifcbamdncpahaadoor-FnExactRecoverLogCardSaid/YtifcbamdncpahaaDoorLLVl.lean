/- Plain laws: LVl. -/
import Derived.Test.YtifcbamdncpahaaDoorLLLog
import Derived.Test.YtifcbamdncpahaaDoorLL12
import Derived.Test.YtifcbamdncpahaaDoorLL7
import Derived.Test.YtifcbamdncpahaaDoorLR15
set_option linter.unusedVariables false
set_option linter.unusedSimpArgs false
namespace Go.Pl
open Go Go.Tv Go.RowKit
def recsOf (s : ByteArray) : List Rec := opn 60 0 (bl s)
def endsAll (es : List Rec) : List Int := (List.range (es.length + 1)).map fun i => ((enc 0 (es.take i)).length : Int)
theorem endsAll_eq (es : List Rec) : (0 : Int) :: endsL 0 0 es = endsAll es := by
  unfold endsAll
  rw [endsL_eq, List.range_succ_eq_map, List.map_cons, List.map_map]
  congr 1
  refine List.map_congr_left fun i _ => ?_
  simp
theorem endsAll_len (es : List Rec) : (endsAll es).length = es.length + 1 := by unfold endsAll; simp
theorem endsAll_last (es : List Rec) : gl 0 (endsAll es) es.length = ((enc 0 es).length : Int) := by
  rw [gl_eq (by rw [endsAll_len]; omega)]
  unfold endsAll
  rw [List.getElem_map, List.getElem_range, List.take_length]
theorem recs_len (s : ByteArray) : (recsOf s).length ≤ 60 := opn_len 60 0 (bl s)
end Go.Pl
