/- Plain laws: R40. -/
import Derived.Test.YtkhfihbaopbblaaDoorLLDl
set_option linter.unusedVariables false
set_option linter.unusedSimpArgs false
namespace Go.Pl
open Go Go.Tv Go.RowKit
theorem v_vRecords_self {n : Nat} (hn : BIG ≤ n) {l : List Rec} (hl : l.length ≤ 1000000) : v_vRecords n l l = some true := by
  unfold v_vRecords
  rw [decide_eq_true rfl, Bool.not_true, br_false]
  have := fx_find (B := v_vRecords_L1 n) l (fun i => (l, l, (i : Int))) (fun _ => false) (fun _ => some false) (some true) (fun self i hi => by
    unfold v_vRecords_L1
    dsimp only
    rw [decide_eq_true (by omega), br_true, ckb_pos (inb_ok hi), ckb_pos (inb_ok hi), eqd_self, Bool.not_true, br_false, lt_eq, w64_succ (by omega)]; rfl) (fun self => by
    unfold v_vRecords_L1
    dsimp only
    rw [decide_eq_false (by omega), br_false]) n (big_gt hn (by omega))
  have hf : l.findIdx? (fun _ => false) = none := List.findIdx?_eq_none_iff.2 fun _ _ => rfl
  rw [hf] at this
  exact this
theorem app_nil (s : ByteArray) : s ++ (⟨#[]⟩ : ByteArray) = s := bl_inj (by rw [bl_app]; exact List.append_nil _)
theorem log_parts {l : Lg} (h : logB l = true) : l.1.size + l.2.1.size ≤ 30000 ∧ fullB (l.1 ++ l.2.1) = true ∧ fullB l.1 = true ∧ ((recsOf (l.1 ++ l.2.1)).length : Int) = l.2.2 := by
  unfold logB at h
  simp only [Bool.and_eq_true, decide_eq_true_eq] at h
  exact ⟨h.1.1.1, h.1.1.2, h.1.2, h.2⟩
theorem log_mk {l : Lg} (h1 : l.1.size + l.2.1.size ≤ 30000) (h2 : fullB (l.1 ++ l.2.1) = true) (h3 : fullB l.1 = true) (h4 : ((recsOf (l.1 ++ l.2.1)).length : Int) = l.2.2) : logB l = true := by
  unfold logB
  rw [decide_eq_true h1, h2, h3, decide_eq_true h4]; rfl
end Go.Pl
