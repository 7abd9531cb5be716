/- The law FnStrings of the seat holds at every input, at the tables of Go's library that its row lists: the law answers true and leaves its arguments as they were. Its code is told as a plain function, and the plain law says that this is true. -/
import Derived.Test.YtifcbamdncpahaaDoorC1
import Derived.Test.YtifcbamdncpahaaDoorLR60
import Derived.Test.YtifcbamdncpahaaDoorCards
import Derived.Test.YtifcbamdncpahaaDoorTie
import Derived.Lay
import Derived.Deep.DeepHandedRow
import Derived.Lib.LaidTab
import Derived.LaidSub
import Derived.MakeChecks
namespace Go.Proofs.YtifcbamdncpahaaDoor
open Go Go.Tv Go.Pl Go.ChangeShapes Go.WideShapes Go.ChangeAt Go.RowKit

theorem own0 : ownKnob Tryd.prog.godebug = none := by kernel_rfl
theorem laid0 : laidOutB Tryd.prog = true := by kernel_rfl

theorem tab0 {W : World} (h : laidMetH Tryd.prog Rows.fnStringsRow.laid W) : Lib.TabIs Tryd.prog W "internal/strconv.uint64pow10" .u64 Lib.pow10Tab := by
  have h1 := laidMetH.filter (fun x => x.1 == "internal/strconv.uint64pow10") h
  have e : Rows.fnStringsRow.laid.filter (fun x => x.1 == "internal/strconv.uint64pow10") = [("internal/strconv.uint64pow10", Lib.tabData .u64 Lib.pow10Tab)] := by kernel_rfl
  rw [e] at h1
  exact Lib.tabIs_of_head (rest := []) (g := 3) (t := 133) (e := 60) (n := 20) (by kernel_rfl) (by kernel_rfl) (by kernel_rfl) (by kernel_rfl) (by kernel_rfl) (by kernel_rfl) h1

theorem inv1 {W : World} (h : laidMetH Tryd.prog Rows.fnStringsRow.laid W) : ∀ x, x ∈ [("internal/strconv.uint64pow10", isTab .u64 Lib.pow10Tab), ("strconv.ErrSyntax", isErr), ("strconv.ErrRange", isErr)] → ∃ cs, W.var? Tryd.prog x.1 = some cs ∧ x.2 cs := by
  intro x hx
  simp only [List.mem_cons, List.mem_nil_iff, or_false] at hx
  rcases hx with rfl | rfl | rfl
  · exact ⟨_, tab0 h, rfl⟩
  · have h1 := laidMetH.filter (fun x => x.1 == "strconv.ErrSyntax") h
    have e : Rows.fnStringsRow.laid.filter (fun x => x.1 == "strconv.ErrSyntax") = [("strconv.ErrSyntax", Rows.laid_strconv_ErrSyntax)] := by kernel_rfl
    rw [e, Go.MakeChecks.laidMetH_plain _ _ _ (by kernel_rfl)] at h1
    exact errIs_of_head (g := 1) (t := 75) (by kernel_rfl) (by kernel_rfl) Tryd.underlying75 h1
  · have h1 := laidMetH.filter (fun x => x.1 == "strconv.ErrRange") h
    have e : Rows.fnStringsRow.laid.filter (fun x => x.1 == "strconv.ErrRange") = [("strconv.ErrRange", Rows.laid_strconv_ErrRange)] := by kernel_rfl
    rw [e, Go.MakeChecks.laidMetH_plain _ _ _ (by kernel_rfl)] at h1
    exact errIs_of_head (g := 2) (t := 75) (by kernel_rfl) (by kernel_rfl) Tryd.underlying75 h1

theorem laidMet0 (os : Os) (args : Array Value) : laidMet Tryd.prog Rows.fnStringsRow.laid ((World.laidAll Tryd.prog os Rows.fnStringsRow.laid).forCall (fun _ _ => 0) ⟨#[], args, []⟩).memory :=
  laidMet_laidAll args (by kernel_rfl) (by kernel_rfl)

set_option maxRecDepth 100000 in
theorem lifted (os : Os) (started : os.Started) (H : Type) (enc : TypeId × Value → H) (F : Stop.Interp) :
    ReturnsInHanded {} Tryd.checked os 4 .any ((OpenSpec.ofChange Rows.fnStringsSpec).preRow enc Tryd.prog Tryd.f4 Rows.fnStringsRow.domain false Rows.fnStringsRow.laid) (((OpenSpec.ofChange Rows.fnStringsSpec).at F).post enc Tryd.prog Tryd.f4 false true false false) := by
  refine returnsInHanded_of_row (C := Tryd.checked) (s := OpenSpec.ofChange Rows.fnStringsSpec) own0 started (by kernel_rfl) Tryd.func4
    (witness_row_at (enc := enc) (C := Tryd.checked) false (World.laidAll Tryd.prog os Rows.fnStringsRow.laid) #[.slice none 0 0] (World.laidAll_os _ _ _) (by kernel_rfl) (by kernel_rfl) (by kernel_rfl)
      (OpenSpec.preRow_of_B rfl 8 (by kernel_rfl) (by kernel_rfl) (laidMet0 os _))) ?_
  intro W base args ds gs before hval0 hW _ _ _ hL _ _
  have hval : ∀ (j : Nat) t v, Tryd.f4.params[j]? = some t → args[j]? = some v → Value.okWide Tryd.prog W .any base t v := hval0
  have hW' := hW
  obtain ⟨p, q, hA0, hV, rfl, hfz, hnd⟩ := hW
  have hA : DataW.TrodAll enc Tryd.prog W 0 (fun _ => true) true [22] args.toList ds p := hA0
  obtain ⟨v0, vs0, d0, ds0, p0, q0, hargs, rfl, rfl, h0, r0⟩ := trodAll_cons hA
  obtain ⟨rfl, rfl, rfl⟩ := trodAll_nil r0
  obtain rfl : args = #[v0] := by cases args; simp_all
  obtain ⟨y0, o0, s0⟩ := open_arg 20 (.sl (.int .u8)) (by kernel_rfl) (hval 0 22 v0 rfl rfl) h0
  have hlaw : v_FnStrings BIG y0 = some true := law_FnStrings (Nat.le_refl _) y0 o0
  have hc := (v_FnStrings_ok BIG).1 y0 true hlaw
  refine (law_call (vals := [v0]) hc rfl rfl rfl (fun c hcf i hi => ?_) (Inv.vars_start (inv1 hL)) (s := true) rfl).mono fun e W' ⟨he, hb⟩ => ?_
  · match i, hi with
    | 0, _ => exact s0 c hcf _
  · subst he
    exact ⟨_, rfl, law_post (s := Rows.fnStringsSpec) laid0 (tb := 4) rfl (fun ds h => by
      match ds, h with
      | [a0], _ => rfl) rfl (by rfl) (by kernel_rfl) hW' hb⟩

theorem said0 : Rows.FnStringsSaid :=
  OpenClaim.holds_of_cond 4 Tryd.f4 rfl rfl rfl rfl rfl rfl rfl ⟨rfl, rfl, rfl, rfl, rfl⟩ rfl rfl rfl rfl rfl (by kernel_rfl) Tryd.func4 (by kernel_rfl)
    (of_decide_eq_true (by kernel_rfl)) (by unfold Func.isWrapper; first | (rw [if_pos (by decide +kernel)]; kernel_rfl) | (rw [if_neg (by decide +kernel)]; exact ⟨rfl, rfl⟩))
    (fun os started H enc _ F => by rw [OpenClaim.pre_eq_preRow]; exact lifted os started H enc F)

theorem plain0 (f : FuncId) (fn : Func) (hf : Tryd.pinned.checked.prog.funcNamed Rows.fnStringsRow.func = some f) (hfn : Tryd.pinned.checked.prog.funcs[f]? = some fn) :
    true = Tryd.pinned.checked.prog.looks [] ∧ ∀ (j : Nat) t, fn.params[j]? = some t → Tryd.pinned.checked.prog.wantsStandIn t = false := by
  obtain rfl : f = 4 := Option.some.inj ((show Tryd.prog.funcNamed Rows.fnStringsRow.func = some 4 by kernel_rfl).symm.trans hf) |>.symm
  obtain rfl : fn = Tryd.f4 := (Option.some.inj (Tryd.func4.symm.trans hfn)).symm
  refine ⟨by kernel_rfl, fun j t ht => ?_⟩
  have hp : Tryd.f4.params.toList.all (fun u => !Tryd.prog.wantsStandIn u) = true := by kernel_rfl
  have := List.all_eq_true.1 hp t (Array.mem_toList_iff.2 (Array.mem_of_getElem? ht))
  exact (show Tryd.prog.wantsStandIn t = false by simpa using this)

theorem fnStrings_card : Rows.FnStringsCardSaid :=
  Claim7.holds_tied_plain_at .later [] _ _ _ _ said0 (fun _ h => by cases h) (by kernel_rfl) (fun _ h => by cases h) fnStrings_row_tie rfl ⟨rfl, rfl⟩ (by kernel_rfl) rfl plain0 (by kernel_rfl)
end Go.Proofs.YtifcbamdncpahaaDoor
