/- The law FnGhosts of the seat holds at every input: the law answers true and leaves its arguments as they were. Its code is told as a plain function, and the plain law says that this is true. -/
import Derived.Test.YtfoielhhflbbfaaC1
import Derived.Test.YtfoielhhflbbfaaG10
namespace Go.Proofs.Ytfoielhhflbbfaa
open Go Go.Tv Go.Pl Go.ChangeShapes Go.WideShapes Go.ChangeAt Go.RowKit

theorem own0 : ownKnob Try.prog.godebug = none := by kernel_rfl
theorem laid0 : laidOutB Try.prog = true := by kernel_rfl

set_option maxRecDepth 100000 in
theorem lifted (os : Os) (started : os.Started) (H : Type) (enc : TypeId × Value → H) :
    ReturnsInHanded {} Try.checked os 4 .any (Rows.fnGhostsSpec.pre6 enc Try.prog Try.f4 Rows.fnGhostsRow.domain false) (Rows.fnGhostsSpec.post enc Try.prog Try.f4 false true false false) := by
  refine returnsInHanded_of_change (C := Try.checked) own0 started (by kernel_rfl) Try.func4
    (ChangeSpec.witness6 (enc := enc) (C := Try.checked) false ⟨#[], #[.slice none 0 0], []⟩ 8 (by kernel_rfl) (by kernel_rfl) (by kernel_rfl) (by kernel_rfl)) ?_
  intro W base args ds gs before hval0 hW hcnd _
  have hval : ∀ (j : Nat) t v, Try.f4.params[j]? = some t → args[j]? = some v → Value.okWide Try.prog W .any base t v := hval0
  have hW' := hW
  obtain ⟨p, q, hA0, hV, rfl, hfz, hnd⟩ := hW
  have hA : DataW.TrodAll enc Try.prog W 0 (fun _ => true) true [22] args.toList ds p := hA0
  obtain ⟨v0, vs0, d0, ds0, p0, q0, hargs, rfl, rfl, h0, r0⟩ := trodAll_cons hA
  obtain ⟨rfl, rfl, rfl⟩ := trodAll_nil r0
  obtain rfl : args = #[v0] := by cases args; simp_all
  obtain ⟨y0, o0, s0⟩ := open_arg 20 (.sl (.int .u8)) (by kernel_rfl) (hval 0 22 v0 rfl rfl) h0
  have hlaw : v_FnGhosts BIG y0 = some true := law_FnGhosts (Nat.le_refl _) y0 o0
  have hc := (v_FnGhosts_ok BIG).1 y0 true hlaw
  refine (law_call (vals := [v0]) hc rfl rfl rfl (fun c hcf i hi => ?_) (s := true) rfl).mono fun e W' ⟨he, hb⟩ => ?_
  · match i, hi with
    | 0, _ => exact s0 c hcf _
  · subst he
    exact ⟨_, rfl, law_post laid0 (tb := 4) rfl (fun ds h => by
      match ds, h with
      | [a0], _ => rfl) rfl (by rfl) (by kernel_rfl) hW' hb⟩

theorem fnGhosts_holds : Rows.FnGhostsSaid :=
  OpenClaim.holds_of_wide 4 Try.f4 rfl rfl rfl rfl rfl rfl rfl ⟨rfl, rfl, rfl, rfl, rfl⟩ rfl rfl rfl rfl rfl (by kernel_rfl) Try.func4 (by kernel_rfl)
    (of_decide_eq_true (by kernel_rfl)) (by unfold Func.isWrapper; first | (rw [if_pos (by decide +kernel)]; kernel_rfl) | (rw [if_neg (by decide +kernel)]; exact ⟨rfl, rfl⟩))
    (fun os started H enc _ => lifted os started H enc)
end Go.Proofs.Ytfoielhhflbbfaa
