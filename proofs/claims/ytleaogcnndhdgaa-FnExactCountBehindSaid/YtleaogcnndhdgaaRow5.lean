/- A part of the proof that a law of the seat holds: ZRow5. -/
import Derived.Test.YtleaogcnndhdgaaLaw5
import Derived.Test.YtleaogcnndhdgaaAv26
namespace Go.Proofs.Ytleaogcnndhdgaa
open Go Go.Av Go.ChangeShapes Go.WideShapes Go.ChangeAt Go.RowKit

theorem own0 : ownKnob Try.prog.godebug = none := by kernel_rfl
theorem laid0 : laidOutB Try.prog = true := by kernel_rfl

theorem flI : Fl Try.prog 3 Int rI 1 := Fl.i64 (by rfl) (by rfl)
theorem flC : Fl Try.prog 36 (V4 Int) (V4.row aI) 4 := Fl.v4 (by rfl) (by rfl) flI

set_option maxRecDepth 100000 in
theorem lifted5 (os : Os) (started : os.Started) (H : Type) (enc : TypeId × Value → H) :
    ReturnsInHanded {} Try.checked os 5 .any (Rows.fnExactCountBehindSpec.pre6 enc Try.prog Try.f5 Rows.fnExactCountBehindRow.domain false) (Rows.fnExactCountBehindSpec.post enc Try.prog Try.f5 false true false false) := by
  refine returnsInHanded_of_change (C := Try.checked) own0 started (by kernel_rfl) Try.func5
    (ChangeSpec.witness6 (enc := enc) (C := Try.checked) false ⟨#[], #[.slice none 0 0, .int .i64 0, .agg #[.int .i64 0, .int .i64 0, .int .i64 0, .int .i64 0]], []⟩ 8 (by kernel_rfl) (by kernel_rfl) (by kernel_rfl) (by kernel_rfl)) ?_
  intro W base args ds gs before hval0 hW hcnd _
  have hval : ∀ (j : Nat) t v, Try.f5.params[j]? = some t → args[j]? = some v → Value.okWide Try.prog W .any base t v := hval0
  have hW' := hW
  obtain ⟨p, q, hA0, hV, rfl, hfz, hnd⟩ := hW
  have hA : DataW.TrodAll enc Try.prog W 0 (fun _ => true) true [22, 3, 36] args.toList ds p := hA0
  obtain ⟨v0, vs0, d0, ds0, p0, q0, hargs, rfl, rfl, h0, r0⟩ := trodAll_cons hA
  obtain ⟨v1, vs1, d1, ds1, p1, q1, rfl, rfl, rfl, h1, r1⟩ := trodAll_cons r0
  obtain ⟨v2, vs2, d2, ds2, p2, q2, rfl, rfl, rfl, h2, r2⟩ := trodAll_cons r1
  obtain ⟨rfl, rfl, rfl⟩ := trodAll_nil r2
  obtain rfl : args = #[v0, v1, v2] := by cases args; simp_all
  obtain ⟨l0, hl0, s0⟩ := open_sl (by rfl) flC (by decide) (hval 0 22 v0 rfl rfl) h0
  have o1 : v1.oneCell' = true := by
    have := hval 1 3 v1 rfl rfl
    obtain ⟨x, rfl⟩ := okWide_int (by rfl) this; rfl
  obtain ⟨l1, s1⟩ := Cl.arg1 (Y := Num64) (a := fun n => aI n.1) (Cl.num (by rfl) (by rfl)) o1 h1
  obtain ⟨cs2, rfl⟩ := okWide_agg (hval 2 36 v2 rfl rfl) (.inr ⟨_, _, by rfl⟩)
  obtain ⟨l2, s2⟩ := Cl.argN (Cl.of flC) h2
  have hc := C5 (f5 (n := 1048580) (l := l0) (m := l1.1) (c := l2) hl0 (Nat.le_refl _))
  refine (law_call hc (L := fun _ => .uni 0) (args := #[v0, v1, .agg cs2]) ?_).mono fun e W' ⟨he, hb⟩ => ?_
  · simp only [satTup]
    exact ⟨v0, [v1, .agg cs2], rfl, s0 _ _, v1, [.agg cs2], rfl, s1 _ _, .agg cs2, [], rfl, s2 _ _ [V4.row aI l2] (by simp), rfl⟩
  · subst he
    exact ⟨_, rfl, law_post laid0 (tb := 4) rfl (fun ds h => by
      match ds, h with
      | [a, b, c], _ => rfl) rfl (by rfl) (fun t ht => by
      have : t ∈ [22, 3, 36] := by simpa [Try.f5] using ht
      simp only [List.mem_cons, List.not_mem_nil, or_false] at this
      rcases this with rfl | rfl | rfl <;> exact ⟨by kernel_rfl, of_decide_eq_true (by kernel_rfl)⟩) hW' hb⟩

theorem fnExactCountBehind_holds : Rows.FnExactCountBehindSaid :=
  OpenClaim.holds_of_wide 5 Try.f5 rfl rfl rfl rfl rfl rfl rfl ⟨rfl, rfl, rfl, rfl, rfl⟩ rfl rfl rfl rfl rfl (by kernel_rfl) Try.func5 (by kernel_rfl)
    (of_decide_eq_true (by kernel_rfl)) (by unfold Func.isWrapper; first | (rw [if_pos (by decide +kernel)]; kernel_rfl) | (rw [if_neg (by decide +kernel)]; exact ⟨rfl, rfl⟩))
    (fun os started H enc _ => lifted5 os started H enc)
end Go.Proofs.Ytleaogcnndhdgaa
