/- The law FnHands of the seat holds at every input, at the tables of Go's library that its row lists: the law answers true and leaves its arguments as they were. Its code is told as a plain function, and the plain law says that this is true. -/
import Derived.Test.YtkhfihbaopbblaaGreatDoorC1
import Derived.Test.YtkhfihbaopbblaaGreatDoorG13
import Derived.Test.YtkhfihbaopbblaaGreatDoorCards
import Derived.Test.YtkhfihbaopbblaaGreatDoorTie
import Derived.Lay
import Derived.Deep.DeepHandedRow
import Derived.Lib.LaidTab
import Derived.LaidSub
namespace Go.Proofs.YtkhfihbaopbblaaGreatDoor
open Go Go.Tv Go.Pl Go.ChangeShapes Go.WideShapes Go.ChangeAt Go.RowKit

theorem own0 : ownKnob Tryz.prog.godebug = none := by kernel_rfl
theorem laid0 : laidOutB Tryz.prog = true := by kernel_rfl

theorem laidMet0 (os : Os) (args : Array Value) : laidMet Tryz.prog Rows.fnHandsRow.laid ((World.laidAll Tryz.prog os Rows.fnHandsRow.laid).forCall (fun _ _ => 0) ⟨#[], args, []⟩).memory :=
  laidMet_laidAll args (by kernel_rfl) (by kernel_rfl)

set_option maxRecDepth 100000 in
theorem lifted (os : Os) (started : os.Started) (H : Type) (enc : TypeId × Value → H) (F : Stop.Interp) :
    ReturnsInHanded {} Tryz.checked os 3 .any ((OpenSpec.ofChange Rows.fnHandsSpec).preRow enc Tryz.prog Tryz.f3 Rows.fnHandsRow.domain false Rows.fnHandsRow.laid) (((OpenSpec.ofChange Rows.fnHandsSpec).at F).post enc Tryz.prog Tryz.f3 false true false false) := by
  refine returnsInHanded_of_row (C := Tryz.checked) (s := OpenSpec.ofChange Rows.fnHandsSpec) own0 started (by kernel_rfl) Tryz.func3
    (witness_row_at (enc := enc) (C := Tryz.checked) false (World.laidAll Tryz.prog os Rows.fnHandsRow.laid) #[.slice none 0 0] (World.laidAll_os _ _ _) (by kernel_rfl) (by kernel_rfl) (by kernel_rfl)
      (OpenSpec.preRow_of_B rfl 8 (by kernel_rfl) (by kernel_rfl) (laidMet0 os _))) ?_
  intro W base args ds gs before hval0 hW _ _ _ hL _ _
  have hval : ∀ (j : Nat) t v, Tryz.f3.params[j]? = some t → args[j]? = some v → Value.okWide Tryz.prog W .any base t v := hval0
  have hW' := hW
  obtain ⟨p, q, hA0, hV, rfl, hfz, hnd⟩ := hW
  have hA : DataW.TrodAll enc Tryz.prog W 0 (fun _ => true) true [22] args.toList ds p := hA0
  obtain ⟨v0, vs0, d0, ds0, p0, q0, hargs, rfl, rfl, h0, r0⟩ := trodAll_cons hA
  obtain ⟨rfl, rfl, rfl⟩ := trodAll_nil r0
  obtain rfl : args = #[v0] := by cases args; simp_all
  obtain ⟨y0, o0, s0⟩ := open_arg 20 (.sl (.int .u8)) (by kernel_rfl) (hval 0 22 v0 rfl rfl) h0
  have hlaw : v_FnHands BIG y0 = some true := law_FnHands (Nat.le_refl _) y0 o0
  have hc := (v_FnHands_ok BIG).1 y0 true hlaw
  refine (law_call (vals := [v0]) hc rfl rfl rfl (fun c hcf i hi => ?_) ⟨trivial, fun _ h => h.elim⟩ (s := true) rfl).mono fun e W' ⟨he, hb⟩ => ?_
  · match i, hi with
    | 0, _ => exact s0 c hcf _
  · subst he
    exact ⟨_, rfl, law_post (s := Rows.fnHandsSpec) laid0 (tb := 4) rfl (fun ds h => by
      match ds, h with
      | [a0], _ => rfl) rfl (by rfl) (by kernel_rfl) hW' hb⟩

theorem said0 : Rows.FnHandsSaid :=
  OpenClaim.holds_of_cond 3 Tryz.f3 rfl rfl rfl rfl rfl rfl rfl ⟨rfl, rfl, rfl, rfl, rfl⟩ rfl rfl rfl rfl rfl (by kernel_rfl) Tryz.func3 (by kernel_rfl)
    (of_decide_eq_true (by kernel_rfl)) (by unfold Func.isWrapper; first | (rw [if_pos (by decide +kernel)]; kernel_rfl) | (rw [if_neg (by decide +kernel)]; exact ⟨rfl, rfl⟩))
    (fun os started H enc _ F => by rw [OpenClaim.pre_eq_preRow]; exact lifted os started H enc F)

theorem plain0 (f : FuncId) (fn : Func) (hf : Tryz.pinned.checked.prog.funcNamed Rows.fnHandsRow.func = some f) (hfn : Tryz.pinned.checked.prog.funcs[f]? = some fn) :
    false = Tryz.pinned.checked.prog.looks [] ∧ ∀ (j : Nat) t, fn.params[j]? = some t → Tryz.pinned.checked.prog.wantsStandIn t = false := by
  obtain rfl : f = 3 := Option.some.inj ((show Tryz.prog.funcNamed Rows.fnHandsRow.func = some 3 by kernel_rfl).symm.trans hf) |>.symm
  obtain rfl : fn = Tryz.f3 := (Option.some.inj (Tryz.func3.symm.trans hfn)).symm
  refine ⟨by kernel_rfl, fun j t ht => ?_⟩
  have hp : Tryz.f3.params.toList.all (fun u => !Tryz.prog.wantsStandIn u) = true := by kernel_rfl
  have := List.all_eq_true.1 hp t (Array.mem_toList_iff.2 (Array.mem_of_getElem? ht))
  exact (show Tryz.prog.wantsStandIn t = false by simpa using this)

theorem fnHands_card : Rows.FnHandsCardSaid :=
  Claim7.holds_tied_plain_at .later [] _ _ _ _ said0 (fun _ h => by cases h) (by kernel_rfl) (fun _ h => by cases h) fnHands_row_tie rfl ⟨rfl, rfl⟩ (by kernel_rfl) rfl plain0 (by kernel_rfl)
end Go.Proofs.YtkhfihbaopbblaaGreatDoor
