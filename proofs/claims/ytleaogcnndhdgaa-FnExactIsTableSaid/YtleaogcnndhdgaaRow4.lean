/- A part of the proof that a law of the seat holds: ZRow4. -/
import Derived.Test.YtleaogcnndhdgaaLaw4
import Derived.Test.YtleaogcnndhdgaaAv26
namespace Go.Proofs.Ytleaogcnndhdgaa
open Go Go.Av Go.ChangeShapes Go.WideShapes Go.ChangeAt Go.RowKit

theorem own0 : ownKnob Try.prog.godebug = none := by kernel_rfl
theorem laid0 : laidOutB Try.prog = true := by kernel_rfl
theorem flI : Fl Try.prog 3 Int rI 1 := Fl.i64 (by rfl) (by rfl)
theorem flC : Fl Try.prog 36 (V4 Int) (V4.row aI) 4 := Fl.v4 (by rfl) (by rfl) flI
theorem clTable (W : World) : Cl Try.prog W 29 (RowsOf (V4 Int) × Num64 × Num64 × Unit) (fun y => [.ro (y.1.1.map (V4.row aI)) false] ++ ([aI y.2.1.1] ++ ([aI y.2.2.1.1] ++ []))) 3 := by
  refine Cl.struct (fs := Try.prog.fieldsOf 29) (by rfl) (by rfl) ?_
  exact .cons rfl (Cl.sl (by rfl) (by rfl) flC (by decide)) (.cons rfl (Cl.num (by rfl) (by rfl)) (.cons rfl (Cl.num (by rfl) (by rfl)) (.nil _)))

set_option maxRecDepth 100000 in
theorem lifted4 (os : Os) (started : os.Started) (H : Type) (enc : TypeId × Value → H) :
    ReturnsInHanded {} Try.checked os 4 .any (Rows.fnExactIsTableSpec.pre6 enc Try.prog Try.f4 Rows.fnExactIsTableRow.domain false) (Rows.fnExactIsTableSpec.post enc Try.prog Try.f4 false true false false) := by
  refine returnsInHanded_of_change (C := Try.checked) own0 started (by kernel_rfl) Try.func4
    (ChangeSpec.witness6 (enc := enc) (C := Try.checked) false ⟨#[], #[.agg #[.slice none 0 0, .int .i64 0, .int .i64 0]], []⟩ 8 (by kernel_rfl) (by kernel_rfl) (by kernel_rfl) (by kernel_rfl)) ?_
  intro W base args ds gs before hval0 hW hcnd _
  have hval : ∀ (j : Nat) t v, Try.f4.params[j]? = some t → args[j]? = some v → Value.okWide Try.prog W .any base t v := hval0
  have hW' := hW
  obtain ⟨p, q, hA0, hV, rfl, hfz, hnd⟩ := hW
  have hA : DataW.TrodAll enc Try.prog W 0 (fun _ => true) true [29] args.toList ds p := hA0
  obtain ⟨v0, vs0, d0, ds0, p0, q0, hargs, rfl, rfl, h0, r0⟩ := trodAll_cons hA
  obtain ⟨rfl, rfl, rfl⟩ := trodAll_nil r0
  obtain rfl : args = #[v0] := by cases args; simp_all
  obtain ⟨cs, rfl⟩ := okWide_agg (hval 0 29 v0 rfl rfl) (.inl ⟨_, by rfl⟩)
  obtain ⟨⟨l, a, b, _⟩, s0⟩ := Cl.argN (clTable W) h0
  have hc := C4 (f4 (n := 1048580) (l := l.1) (a := a.1) (b := b.1) l.2 (Nat.le_refl _))
  refine (law_call hc (L := fun _ => .uni 0) (args := #[.agg cs]) ?_).mono fun e W' ⟨he, hb⟩ => ?_
  · simp only [satTup]
    exact ⟨.agg cs, [], rfl, s0 _ _ _ rfl, rfl⟩
  · subst he
    exact ⟨_, rfl, law_post laid0 (tb := 4) rfl (fun ds h => by
      match ds, h with
      | [a], _ => rfl) rfl (by rfl) (fun t ht => by
      have : t = 29 := by simpa [Try.f4] using ht
      subst this; exact ⟨by kernel_rfl, of_decide_eq_true (by kernel_rfl)⟩) hW' hb⟩

theorem fnExactIsTable_holds : Rows.FnExactIsTableSaid :=
  OpenClaim.holds_of_wide 4 Try.f4 rfl rfl rfl rfl rfl rfl rfl ⟨rfl, rfl, rfl, rfl, rfl⟩ rfl rfl rfl rfl rfl (by kernel_rfl) Try.func4 (by kernel_rfl)
    (of_decide_eq_true (by kernel_rfl)) (by unfold Func.isWrapper; first | (rw [if_pos (by decide +kernel)]; kernel_rfl) | (rw [if_neg (by decide +kernel)]; exact ⟨rfl, rfl⟩))
    (fun os started H enc _ => lifted4 os started H enc)
end Go.Proofs.Ytleaogcnndhdgaa
