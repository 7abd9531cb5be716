/- The law FnExactCodewords of the seat holds at every input: the law answers true and leaves its arguments as they were. Its code is told as a plain function, and the plain law says that this is true. -/
import Derived.Test.YtklhncjpkkfjmaaC1
import Derived.Test.YtklhncjpkkfjmaaLR17
namespace Go.Proofs.Ytklhncjpkkfjmaa
open Go Go.Tv Go.Pl Go.ChangeShapes Go.WideShapes Go.ChangeAt Go.RowKit

theorem own0 : ownKnob Try.prog.godebug = none := by kernel_rfl
theorem laid0 : laidOutB Try.prog = true := by kernel_rfl

set_option maxRecDepth 100000 in
theorem lifted (os : Os) (started : os.Started) (H : Type) (enc : TypeId × Value → H) :
    ReturnsInHanded {} Try.checked os 9 .any (Rows.fnExactCodewordsSpec.pre6 enc Try.prog Try.f9 Rows.fnExactCodewordsRow.domain false) (Rows.fnExactCodewordsSpec.post enc Try.prog Try.f9 false true false false) := by
  refine returnsInHanded_of_change (C := Try.checked) own0 started (by kernel_rfl) Try.func9
    (ChangeSpec.witness6 (enc := enc) (C := Try.checked) false ⟨#[], #[], []⟩ 8 (by kernel_rfl) (by kernel_rfl) (by kernel_rfl) (by kernel_rfl)) ?_
  intro W base args ds gs before hval0 hW hcnd _
  have hval : ∀ (j : Nat) t v, Try.f9.params[j]? = some t → args[j]? = some v → Value.okWide Try.prog W .any base t v := hval0
  have hW' := hW
  obtain ⟨p, q, hA0, hV, rfl, hfz, hnd⟩ := hW
  have hA : DataW.TrodAll enc Try.prog W 0 (fun _ => true) true [] args.toList ds p := hA0
  obtain ⟨hargs, rfl, rfl⟩ := trodAll_nil hA
  obtain rfl : args = #[] := by cases args; simp_all
  have hlaw : v_FnExactCodewords BIG  = some true := law_FnExactCodewords (Nat.le_refl _) 
  have hc := (v_FnExactCodewords_ok BIG).1 () true hlaw
  refine (law_call (vals := []) hc rfl rfl rfl (fun c hcf i hi => ?_) (s := true) rfl).mono fun e W' ⟨he, hb⟩ => ?_
  · exact absurd hi (Nat.not_lt_zero _)
  · subst he
    exact ⟨_, rfl, law_post laid0 (tb := 4) rfl (fun ds h => by
      match ds, h with
      | [], _ => rfl) rfl (by rfl) (by kernel_rfl) hW' hb⟩

theorem fnExactCodewords_holds : Rows.FnExactCodewordsSaid :=
  OpenClaim.holds_of_wide 9 Try.f9 rfl rfl rfl rfl rfl rfl rfl ⟨rfl, rfl, rfl, rfl, rfl⟩ rfl rfl rfl rfl rfl (by kernel_rfl) Try.func9 (by kernel_rfl)
    (of_decide_eq_true (by kernel_rfl)) (by unfold Func.isWrapper; first | (rw [if_pos (by decide +kernel)]; kernel_rfl) | (rw [if_neg (by decide +kernel)]; exact ⟨rfl, rfl⟩))
    (fun os started H enc _ => lifted os started H enc)
end Go.Proofs.Ytklhncjpkkfjmaa
