/- A part of the proof that a law of the seat holds: ZRow7. -/
import Derived.Test.YtleaogcnndhdgaaLaw7
import Derived.Test.YtleaogcnndhdgaaAv26
namespace Go.Proofs.Ytleaogcnndhdgaa
open Go Go.Av Go.ChangeShapes Go.WideShapes Go.ChangeAt Go.RowKit

theorem own0 : ownKnob Try.prog.godebug = none := by kernel_rfl
theorem laid0 : laidOutB Try.prog = true := by kernel_rfl

theorem flI : Fl Try.prog 3 Int rI 1 := Fl.i64 (by rfl) (by rfl)
theorem flC : Fl Try.prog 36 (V4 Int) (V4.row aI) 4 := Fl.v4 (by rfl) (by rfl) flI

set_option maxRecDepth 100000 in
theorem lifted7 (os : Os) (started : os.Started) (H : Type) (enc : TypeId × Value → H) :
    ReturnsInHanded {} Try.checked os 7 .any (Rows.fnExactHiddenCardSpec.pre6 enc Try.prog Try.f7 Rows.fnExactHiddenCardRow.domain false) (Rows.fnExactHiddenCardSpec.post enc Try.prog Try.f7 false true false false) := by
  refine returnsInHanded_of_change (C := Try.checked) own0 started (by kernel_rfl) Try.func7
    (ChangeSpec.witness6 (enc := enc) (C := Try.checked) false ⟨#[], #[.slice none 0 0, .agg #[.int .i64 0, .int .i64 0, .int .i64 0, .int .i64 0]], []⟩ 8 (by kernel_rfl) (by kernel_rfl) (by kernel_rfl) (by kernel_rfl)) ?_
  intro W base args ds gs before hval0 hW hcnd _
  have hval : ∀ (j : Nat) t v, Try.f7.params[j]? = some t → args[j]? = some v → Value.okWide Try.prog W .any base t v := hval0
  have hW' := hW
  obtain ⟨p, q, hA0, hV, rfl, hfz, hnd⟩ := hW
  have hA : DataW.TrodAll enc Try.prog W 0 (fun _ => true) true [22, 36] args.toList ds p := hA0
  obtain ⟨v0, vs0, d0, ds0, p0, q0, hargs, rfl, rfl, h0, r0⟩ := trodAll_cons hA
  obtain ⟨v1, vs1, d1, ds1, p1, q1, rfl, rfl, rfl, h1, r1⟩ := trodAll_cons r0
  obtain ⟨rfl, rfl, rfl⟩ := trodAll_nil r1
  obtain rfl : args = #[v0, v1] := by cases args; simp_all
  obtain ⟨l0, hl0, s0⟩ := open_sl (by rfl) flC (by decide) (hval 0 22 v0 rfl rfl) h0
  obtain ⟨cs1, rfl⟩ := okWide_agg (hval 1 36 v1 rfl rfl) (.inr ⟨_, _, by rfl⟩)
  obtain ⟨l1, s1⟩ := Cl.argN (Cl.of flC) h1
  have hc := C7 (f7 (n := 1048580) (l := l0) (c := l1) hl0 (Nat.le_refl _))
  refine (law_call hc (L := fun _ => .uni 0) (args := #[v0, .agg cs1]) ?_).mono fun e W' ⟨he, hb⟩ => ?_
  · simp only [satTup]
    exact ⟨v0, [.agg cs1], rfl, s0 _ _, .agg cs1, [], rfl, s1 _ _ [V4.row aI l1] (by simp), rfl⟩
  · subst he
    exact ⟨_, rfl, law_post laid0 (tb := 4) rfl (fun ds h => by
      match ds, h with
      | [a, b], _ => rfl) rfl (by rfl) (fun t ht => by
      have : t ∈ [22, 36] := by simpa [Try.f7] using ht
      simp only [List.mem_cons, List.not_mem_nil, or_false] at this
      rcases this with rfl | rfl <;> exact ⟨by kernel_rfl, of_decide_eq_true (by kernel_rfl)⟩) hW' hb⟩

theorem fnExactHiddenCard_holds : Rows.FnExactHiddenCardSaid :=
  OpenClaim.holds_of_wide 7 Try.f7 rfl rfl rfl rfl rfl rfl rfl ⟨rfl, rfl, rfl, rfl, rfl⟩ rfl rfl rfl rfl rfl (by kernel_rfl) Try.func7 (by kernel_rfl)
    (of_decide_eq_true (by kernel_rfl)) (by unfold Func.isWrapper; first | (rw [if_pos (by decide +kernel)]; kernel_rfl) | (rw [if_neg (by decide +kernel)]; exact ⟨rfl, rfl⟩))
    (fun os started H enc _ => lifted7 os started H enc)
end Go.Proofs.Ytleaogcnndhdgaa
