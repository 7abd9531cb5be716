/- Printed by a program of the session: the contracts of the seat's functions. -/
import Derived.Test.YtmojhlpphinobaaZ7
import Derived.Test.YtmojhlpphinobaaPL
import Derived.Test.YtmojhlpphinobaaRows
import Derived.KernelRfl
namespace Go.Proofs.Ytmojhlpphinobaa
open Go Go.Tv Go.Pl Go.RowKit
set_option linter.unusedVariables false
abbrev tI : Ty := .int .i64
def tab : Tab := ⟨[(2, ⟨tI, 0, 8⟩), (3, ⟨tI, 0, 8⟩), (4, ⟨.bool, 0, 1⟩), (5, ⟨(.int .u8), 0, 1⟩), (6, ⟨(.int .u8), 0, 1⟩), (7, ⟨(.pair tI (.pair tI (.pair .bool (.int .u8)))), 4, 24⟩), (8, ⟨(.pair tI (.pair tI (.pair .bool (.int .u8)))), 4, 24⟩), (9, ⟨.str, 0, 16⟩), (10, ⟨.str, 0, 16⟩), (11, ⟨.str, 0, 16⟩), (12, ⟨(.int .u64), 0, 8⟩), (13, ⟨(.pair .str (.int .u64)), 2, 24⟩), (14, ⟨(.pair .str (.int .u64)), 2, 24⟩), (21, ⟨(.int .i32), 0, 4⟩), (22, ⟨(.arr 4 tI), 3, 8⟩), (28, ⟨(.sl (.int .u8)), 5, 1⟩), (31, ⟨(.arr 2 tI), 3, 8⟩), (34, ⟨(.sl (.arr 4 tI)), 22, 32⟩), (43, ⟨(.sl (.arr 3 tI)), 58, 24⟩), (57, ⟨(.arr 81 .bool), 4, 1⟩), (58, ⟨(.arr 3 tI), 3, 8⟩), (61, ⟨(.pair tI (.pair tI (.sl (.arr 4 tI)))), 3, 40⟩), (62, ⟨(.pair tI (.pair tI (.sl (.arr 4 tI)))), 3, 40⟩), (63, ⟨(.sl tI), 3, 8⟩), (64, ⟨(.pair (.pair tI (.pair tI (.sl (.arr 4 tI)))) (.pair (.sl tI) (.sl tI))), 3, 88⟩), (65, ⟨(.pair (.pair tI (.pair tI (.sl (.arr 4 tI)))) (.pair (.sl tI) (.sl tI))), 3, 88⟩), (66, ⟨(.sl (.pair tI (.arr 3 tI))), 80, 32⟩), (70, ⟨(.pair tI (.pair tI (.sl (.arr 4 tI)))), 3, 40⟩), (71, ⟨(.pair (.pair tI (.pair tI (.sl (.arr 4 tI)))) (.pair (.sl tI) (.sl tI))), 3, 88⟩), (72, ⟨(.pair (.pair tI (.pair tI (.sl (.arr 4 tI)))) (.pair (.sl tI) (.sl tI))), 3, 88⟩), (74, ⟨(.sl (.pair tI (.arr 3 tI))), 83, 32⟩), (79, ⟨(.pair tI (.arr 3 tI)), 2, 32⟩), (80, ⟨(.pair tI (.arr 3 tI)), 2, 32⟩), (83, ⟨(.pair tI (.arr 3 tI)), 2, 32⟩), (101, ⟨(.int .u64), 0, 8⟩), (102, ⟨(.pair (.sl (.int .u8)) (.pair tI (.int .u64))), 3, 40⟩), (103, ⟨(.pair (.sl (.int .u8)) (.pair tI (.int .u64))), 3, 40⟩), (114, ⟨(.sl (.arr 2 tI)), 31, 16⟩), (153, ⟨(.arr 81 tI), 3, 8⟩), (157, ⟨(.int .u64), 0, 8⟩), (180, ⟨tI, 0, 8⟩), (187, ⟨(.int .u32), 0, 4⟩), (196, ⟨(.int .u64), 0, 8⟩), (202, ⟨(.sl (.sl (.arr 4 tI))), 34, 24⟩), (221, ⟨(.int .u8), 0, 1⟩), (222, ⟨(.int .u8), 0, 1⟩), (225, ⟨(.int .i32), 0, 4⟩), (226, ⟨(.int .i32), 0, 4⟩)], [7, 8, 22, 31, 57, 58, 79, 80, 83, 153], [1, 24, 25, 26, 27, 29, 30, 33, 36, 37, 38, 39, 41, 42, 45, 46, 48, 50, 51, 53, 54, 55, 56, 60, 67, 68, 69, 73, 75, 76, 77, 78, 82, 84, 85, 86, 87, 88, 89, 90, 91, 93, 94, 96, 97, 99, 104, 105, 106, 107, 108, 109, 110, 111, 112, 113, 115, 116, 117, 118, 119, 120, 121, 122, 123, 124, 125, 126, 127, 128, 129, 130, 132, 133, 134, 135, 136, 137, 138, 139, 140, 141, 142, 143, 144, 145, 146, 147, 148, 149, 150, 151, 152, 154, 155, 156, 158, 159, 160, 161, 162, 163, 165, 166, 167, 168, 169, 170, 171, 172, 173, 174, 175, 176, 177, 178, 179, 182, 183, 184, 185, 186, 188, 189, 190, 191, 192, 193, 194, 195, 197, 198, 199, 201, 203, 204, 205, 206, 207, 208, 211, 212, 213, 214, 215, 223]⟩
theorem tabOK0 : TabOK Try.prog tab := ⟨by kernel_rfl, by kernel_rfl⟩
def v_vBig_i : CSh := ⟨[(.data false (.sl (.int .u8)))], []⟩
def v_vBig_o : RSh := ⟨(.data true .bool), []⟩
theorem v_vBig_ev (n : Nat) (x : TupT v_vBig_i.tys) : evF ⟨tab, [], n, []⟩ Try.f14 v_vBig_i v_vBig_o x = v_vBig n x := by kernel_rfl
noncomputable def v_vBig_e (n : Nat) : Ent := ⟨14, v_vBig_i, v_vBig_o, fun x => v_vBig n x⟩
theorem v_vBig_ok (n : Nat) : EntOK Try.prog (v_vBig_e n) ∧ Own Try.prog 14 := ent_ok tabOK0 .nil Try.func14 rfl (by kernel_rfl) (v_vBig_ev n)
def s_Cur_next'p_i : CSh := ⟨[(.ptr 0 [])], [.var 103 (.data true (.pair (.sl (.int .u8)) (.pair tI (.int .u64))))]⟩
def s_Cur_next'p_o : RSh := ⟨(.data true tI), [.var 103 (.data true (.pair (.sl (.int .u8)) (.pair tI (.int .u64))))]⟩
theorem s_Cur_next'p_ev (n : Nat) (x : TupT s_Cur_next'p_i.tys) : evF ⟨tab, [], n, [(4, ⟨[(0, (.ptr 0 [])), (3, (.data true tI))], [.var 103 (.data true (.pair (.sl (.int .u8)) (.pair tI (.int .u64))))], 1⟩)]⟩ Try.f161 s_Cur_next'p_i s_Cur_next'p_o x = s_Cur_next'p n x := by kernel_rfl
noncomputable def s_Cur_next'p_e (n : Nat) : Ent := ⟨161, s_Cur_next'p_i, s_Cur_next'p_o, fun x => s_Cur_next'p n x⟩
theorem s_Cur_next'p_ok (n : Nat) : EntOK Try.prog (s_Cur_next'p_e n) ∧ Own Try.prog 161 := ent_ok tabOK0 .nil Try.func161 rfl (by kernel_rfl) (s_Cur_next'p_ev n)
def s_Cur_pick'p_i : CSh := ⟨[(.ptr 0 []), (.data true tI)], [.var 103 (.data true (.pair (.sl (.int .u8)) (.pair tI (.int .u64))))]⟩
def s_Cur_pick'p_o : RSh := ⟨(.data true tI), [.var 103 (.data true (.pair (.sl (.int .u8)) (.pair tI (.int .u64))))]⟩
theorem s_Cur_pick'p_ev (n : Nat) (x : TupT s_Cur_pick'p_i.tys) : evF ⟨tab, [s_Cur_next'p_e n], n, []⟩ Try.f85 s_Cur_pick'p_i s_Cur_pick'p_o x = s_Cur_pick'p n x.1 x.2 := by kernel_rfl
noncomputable def s_Cur_pick'p_e (n : Nat) : Ent := ⟨85, s_Cur_pick'p_i, s_Cur_pick'p_o, fun x => s_Cur_pick'p n x.1 x.2⟩
theorem s_Cur_pick'p_ok (n : Nat) : EntOK Try.prog (s_Cur_pick'p_e n) ∧ Own Try.prog 85 := ent_ok tabOK0 (.cons (s_Cur_next'p_ok n) .nil) Try.func85 rfl (by kernel_rfl) (s_Cur_pick'p_ev n)
def s_Cur_among'pl_i : CSh := ⟨[(.ptr 0 []), (.data false (.sl tI))], [.var 103 (.data true (.pair (.sl (.int .u8)) (.pair tI (.int .u64))))]⟩
def s_Cur_among'pl_o : RSh := ⟨(.data true tI), [.var 103 (.data true (.pair (.sl (.int .u8)) (.pair tI (.int .u64))))]⟩
theorem s_Cur_among'pl_ev (n : Nat) (x : TupT s_Cur_among'pl_i.tys) : evF ⟨tab, [s_Cur_pick'p_e n], n, []⟩ Try.f84 s_Cur_among'pl_i s_Cur_among'pl_o x = s_Cur_among'pl n x.1 x.2 := by kernel_rfl
noncomputable def s_Cur_among'pl_e (n : Nat) : Ent := ⟨84, s_Cur_among'pl_i, s_Cur_among'pl_o, fun x => s_Cur_among'pl n x.1 x.2⟩
theorem s_Cur_among'pl_ok (n : Nat) : EntOK Try.prog (s_Cur_among'pl_e n) ∧ Own Try.prog 84 := ent_ok tabOK0 (.cons (s_Cur_pick'p_ok n) .nil) Try.func84 rfl (by kernel_rfl) (s_Cur_among'pl_ev n)
def s_DrawMeanLines_i : CSh := ⟨[(.data false (.sl (.int .u8)))], []⟩
def s_DrawMeanLines_o : RSh := ⟨(.data true tI), []⟩
theorem s_DrawMeanLines_ev (n : Nat) (x : TupT s_DrawMeanLines_i.tys) : evF ⟨tab, [s_Cur_pick'p_e n, s_Cur_among'pl_e n], n, []⟩ Try.f15 s_DrawMeanLines_i s_DrawMeanLines_o x = s_DrawMeanLines n x := by kernel_rfl
noncomputable def s_DrawMeanLines_e (n : Nat) : Ent := ⟨15, s_DrawMeanLines_i, s_DrawMeanLines_o, fun x => s_DrawMeanLines n x⟩
theorem s_DrawMeanLines_ok (n : Nat) : EntOK Try.prog (s_DrawMeanLines_e n) ∧ Own Try.prog 15 := ent_ok tabOK0 (.cons (s_Cur_pick'p_ok n) (.cons (s_Cur_among'pl_ok n) .nil)) Try.func15 rfl (by kernel_rfl) (s_DrawMeanLines_ev n)
def i_within_i : CSh := ⟨[(.data true tI), (.data true tI), (.data true tI)], []⟩
def i_within_o : RSh := ⟨(.data true .bool), []⟩
theorem i_within_ev (n : Nat) (x : TupT i_within_i.tys) : evF ⟨tab, [], n, []⟩ Try.f86 i_within_i i_within_o x = i_within n x.1 x.2.1 x.2.2 := by kernel_rfl
noncomputable def i_within_e (n : Nat) : Ent := ⟨86, i_within_i, i_within_o, fun x => i_within n x.1 x.2.1 x.2.2⟩
theorem i_within_ok (n : Nat) : EntOK Try.prog (i_within_e n) ∧ Own Try.prog 86 := ent_ok tabOK0 .nil Try.func86 rfl (by kernel_rfl) (i_within_ev n)
def i_choose_i : CSh := ⟨[(.data true tI), (.data true tI)], []⟩
def i_choose_o : RSh := ⟨(.data true tI), []⟩
theorem i_choose_ev (n : Nat) (x : TupT i_choose_i.tys) : evF ⟨tab, [], n, [(8, ⟨[(0, (.data true tI)), (5, (.data true tI)), (7, (.data true tI)), (8, (.data true tI))], [], 0⟩)]⟩ Try.f88 i_choose_i i_choose_o x = i_choose n x.1 x.2 := by kernel_rfl
noncomputable def i_choose_e (n : Nat) : Ent := ⟨88, i_choose_i, i_choose_o, fun x => i_choose n x.1 x.2⟩
theorem i_choose_ok (n : Nat) : EntOK Try.prog (i_choose_e n) ∧ Own Try.prog 88 := ent_ok tabOK0 .nil Try.func88 rfl (by kernel_rfl) (i_choose_ev n)
def i_fraction_i : CSh := ⟨[(.data true tI), (.data true tI)], []⟩
def i_fraction_o : RSh := ⟨(.tcons (.data true (.arr 2 tI)) (.tcons (.data true .bool) .tnil)), []⟩
theorem i_fraction_ev (n : Nat) (x : TupT i_fraction_i.tys) : evF ⟨tab, [], n, [(6, ⟨[(0, (.data true tI)), (1, (.data true tI)), (4, (.ptr 0 [])), (6, (.data true tI)), (7, (.data true tI))], [.var 31 (.data true (.arr 2 tI))], 0⟩)]⟩ Try.f87 i_fraction_i i_fraction_o x = i_fraction n x.1 x.2 := by kernel_rfl
noncomputable def i_fraction_e (n : Nat) : Ent := ⟨87, i_fraction_i, i_fraction_o, fun x => i_fraction n x.1 x.2⟩
theorem i_fraction_ok (n : Nat) : EntOK Try.prog (i_fraction_e n) ∧ Own Try.prog 87 := ent_ok tabOK0 .nil Try.func87 rfl (by kernel_rfl) (i_fraction_ev n)
def i_MeanLines_i : CSh := ⟨[(.data true tI)], []⟩
def i_MeanLines_o : RSh := ⟨(.tcons (.data true (.arr 2 tI)) (.tcons (.data true .bool) .tnil)), []⟩
theorem i_MeanLines_ev (n : Nat) (x : TupT i_MeanLines_i.tys) : evF ⟨tab, [i_within_e n, i_choose_e n, i_fraction_e n], n, []⟩ Try.f16 i_MeanLines_i i_MeanLines_o x = i_MeanLines n x := by kernel_rfl
noncomputable def i_MeanLines_e (n : Nat) : Ent := ⟨16, i_MeanLines_i, i_MeanLines_o, fun x => i_MeanLines n x⟩
theorem i_MeanLines_ok (n : Nat) : EntOK Try.prog (i_MeanLines_e n) ∧ Own Try.prog 16 := ent_ok tabOK0 (.cons (i_within_ok n) (.cons (i_choose_ok n) (.cons (i_fraction_ok n) .nil))) Try.func16 rfl (by kernel_rfl) (i_MeanLines_ev n)
def s_l1In_i : CSh := ⟨[(.data true tI), (.data true tI), (.data true tI)], []⟩
def s_l1In_o : RSh := ⟨(.data true .bool), []⟩
theorem s_l1In_ev (n : Nat) (x : TupT s_l1In_i.tys) : evF ⟨tab, [], n, []⟩ Try.f89 s_l1In_i s_l1In_o x = s_l1In n x.1 x.2.1 x.2.2 := by kernel_rfl
noncomputable def s_l1In_e (n : Nat) : Ent := ⟨89, s_l1In_i, s_l1In_o, fun x => s_l1In n x.1 x.2.1 x.2.2⟩
theorem s_l1In_ok (n : Nat) : EntOK Try.prog (s_l1In_e n) ∧ Own Try.prog 89 := ent_ok tabOK0 .nil Try.func89 rfl (by kernel_rfl) (s_l1In_ev n)
def s_l9Choose_i : CSh := ⟨[(.data true tI), (.data true tI)], []⟩
def s_l9Choose_o : RSh := ⟨(.data true tI), []⟩
theorem s_l9Choose_ev (n : Nat) (x : TupT s_l9Choose_i.tys) : evF ⟨tab, [], n, [(8, ⟨[(0, (.data true tI)), (1, (.data true tI)), (5, (.data true tI)), (6, (.data true tI))], [], 0⟩)]⟩ Try.f91 s_l9Choose_i s_l9Choose_o x = s_l9Choose n x.1 x.2 := by kernel_rfl
noncomputable def s_l9Choose_e (n : Nat) : Ent := ⟨91, s_l9Choose_i, s_l9Choose_o, fun x => s_l9Choose n x.1 x.2⟩
theorem s_l9Choose_ok (n : Nat) : EntOK Try.prog (s_l9Choose_e n) ∧ Own Try.prog 91 := ent_ok tabOK0 .nil Try.func91 rfl (by kernel_rfl) (s_l9Choose_ev n)
def s_l1Most_i : CSh := ⟨[(.data true tI), (.data true tI)], []⟩
def s_l1Most_o : RSh := ⟨(.data true tI), []⟩
theorem s_l1Most_ev (n : Nat) (x : TupT s_l1Most_i.tys) : evF ⟨tab, [], n, []⟩ Try.f117 s_l1Most_i s_l1Most_o x = s_l1Most n x.1 x.2 := by kernel_rfl
noncomputable def s_l1Most_e (n : Nat) : Ent := ⟨117, s_l1Most_i, s_l1Most_o, fun x => s_l1Most n x.1 x.2⟩
theorem s_l1Most_ok (n : Nat) : EntOK Try.prog (s_l1Most_e n) ∧ Own Try.prog 117 := ent_ok tabOK0 .nil Try.func117 rfl (by kernel_rfl) (s_l1Most_ev n)
def s_l9Cut_i : CSh := ⟨[(.data true tI), (.data true tI)], []⟩
def s_l9Cut_o : RSh := ⟨(.data true (.arr 2 tI)), []⟩
theorem s_l9Cut_ev (n : Nat) (x : TupT s_l9Cut_i.tys) : evF ⟨tab, [s_l1Most_e n], n, [(6, ⟨[(0, (.data true tI)), (1, (.data true tI)), (4, (.ptr 0 [])), (5, (.data true tI)), (6, (.data true tI))], [.var 31 (.data true (.arr 2 tI))], 0⟩)]⟩ Try.f90 s_l9Cut_i s_l9Cut_o x = s_l9Cut n x.1 x.2 := by kernel_rfl
noncomputable def s_l9Cut_e (n : Nat) : Ent := ⟨90, s_l9Cut_i, s_l9Cut_o, fun x => s_l9Cut n x.1 x.2⟩
theorem s_l9Cut_ok (n : Nat) : EntOK Try.prog (s_l9Cut_e n) ∧ Own Try.prog 90 := ent_ok tabOK0 (.cons (s_l1Most_ok n) .nil) Try.func90 rfl (by kernel_rfl) (s_l9Cut_ev n)
def s_MeanLines_i : CSh := ⟨[(.data true tI)], []⟩
def s_MeanLines_o : RSh := ⟨(.tcons (.data true (.arr 2 tI)) (.tcons (.data true .bool) .tnil)), []⟩
theorem s_MeanLines_ev (n : Nat) (x : TupT s_MeanLines_i.tys) : evF ⟨tab, [s_l1In_e n, s_l9Choose_e n, s_l9Cut_e n], n, []⟩ Try.f17 s_MeanLines_i s_MeanLines_o x = s_MeanLines n x := by kernel_rfl
noncomputable def s_MeanLines_e (n : Nat) : Ent := ⟨17, s_MeanLines_i, s_MeanLines_o, fun x => s_MeanLines n x⟩
theorem s_MeanLines_ok (n : Nat) : EntOK Try.prog (s_MeanLines_e n) ∧ Own Try.prog 17 := ent_ok tabOK0 (.cons (s_l1In_ok n) (.cons (s_l9Choose_ok n) (.cons (s_l9Cut_ok n) .nil))) Try.func17 rfl (by kernel_rfl) (s_MeanLines_ev n)
def v_vCut_i : CSh := ⟨[(.data false (.sl (.int .u8))), (.data true tI)], []⟩
def v_vCut_o : RSh := ⟨(.own 0), [.rows 5 true (.int .u8)]⟩
theorem v_vCut_ev (n : Nat) (x : TupT v_vCut_i.tys) : evF ⟨tab, [], n, [(2, ⟨[(0, (.data false (.sl (.int .u8)))), (1, (.data true tI))], [], 0⟩)]⟩ Try.f19 v_vCut_i v_vCut_o x = v_vCut n x.1 x.2 := by kernel_rfl
noncomputable def v_vCut_e (n : Nat) : Ent := ⟨19, v_vCut_i, v_vCut_o, fun x => v_vCut n x.1 x.2⟩
theorem v_vCut_ok (n : Nat) : EntOK Try.prog (v_vCut_e n) ∧ Own Try.prog 19 := ent_ok tabOK0 .nil Try.func19 rfl (by kernel_rfl) (v_vCut_ev n)
def s_l2At_i : CSh := ⟨[(.data true tI)], []⟩
def s_l2At_o : RSh := ⟨(.data true (.arr 4 tI)), []⟩
theorem s_l2At_ev (n : Nat) (x : TupT s_l2At_i.tys) : evF ⟨tab, [], n, []⟩ Try.f114 s_l2At_i s_l2At_o x = s_l2At n x := by kernel_rfl
noncomputable def s_l2At_e (n : Nat) : Ent := ⟨114, s_l2At_i, s_l2At_o, fun x => s_l2At n x⟩
theorem s_l2At_ok (n : Nat) : EntOK Try.prog (s_l2At_e n) ∧ Own Try.prog 114 := ent_ok tabOK0 .nil Try.func114 rfl (by kernel_rfl) (s_l2At_ev n)
def s_l2Number_i : CSh := ⟨[(.data true (.arr 4 tI))], []⟩
def s_l2Number_o : RSh := ⟨(.data true tI), []⟩
theorem s_l2Number_ev (n : Nat) (x : TupT s_l2Number_i.tys) : evF ⟨tab, [], n, []⟩ Try.f105 s_l2Number_i s_l2Number_o x = s_l2Number n x := by kernel_rfl
noncomputable def s_l2Number_e (n : Nat) : Ent := ⟨105, s_l2Number_i, s_l2Number_o, fun x => s_l2Number n x⟩
theorem s_l2Number_ok (n : Nat) : EntOK Try.prog (s_l2Number_e n) ∧ Own Try.prog 105 := ent_ok tabOK0 .nil Try.func105 rfl (by kernel_rfl) (s_l2Number_ev n)
def s_l2Less_i : CSh := ⟨[(.data true (.arr 4 tI)), (.data true (.arr 4 tI))], []⟩
def s_l2Less_o : RSh := ⟨(.data true .bool), []⟩
theorem s_l2Less_ev (n : Nat) (x : TupT s_l2Less_i.tys) : evF ⟨tab, [s_l2Number_e n], n, []⟩ Try.f164 s_l2Less_i s_l2Less_o x = s_l2Less n x.1 x.2 := by kernel_rfl
noncomputable def s_l2Less_e (n : Nat) : Ent := ⟨164, s_l2Less_i, s_l2Less_o, fun x => s_l2Less n x.1 x.2⟩
theorem s_l2Less_ok (n : Nat) : EntOK Try.prog (s_l2Less_e n) ∧ Own Try.prog 164 := ent_ok tabOK0 (.cons (s_l2Number_ok n) .nil) Try.func164 rfl (by kernel_rfl) (s_l2Less_ev n)
def s_l2Own_i : CSh := ⟨[(.data false (.sl (.arr 4 tI)))], []⟩
def s_l2Own_o : RSh := ⟨(.own 0), [.rows 22 true (.arr 4 tI)]⟩
theorem s_l2Own_ev (n : Nat) (x : TupT s_l2Own_i.tys) : evF ⟨tab, [], n, []⟩ Try.f194 s_l2Own_i s_l2Own_o x = s_l2Own n x := by kernel_rfl
noncomputable def s_l2Own_e (n : Nat) : Ent := ⟨194, s_l2Own_i, s_l2Own_o, fun x => s_l2Own n x⟩
theorem s_l2Own_ok (n : Nat) : EntOK Try.prog (s_l2Own_e n) ∧ Own Try.prog 194 := ent_ok tabOK0 .nil Try.func194 rfl (by kernel_rfl) (s_l2Own_ev n)
def s_l2Put_i : CSh := ⟨[(.data false (.sl (.arr 4 tI))), (.data true (.arr 4 tI))], []⟩
def s_l2Put_o : RSh := ⟨(.own 0), [.rows 22 true (.arr 4 tI)]⟩
theorem s_l2Put_ev (n : Nat) (x : TupT s_l2Put_i.tys) : evF ⟨tab, [s_l2Less_e n, s_l2Own_e n], n, [(6, ⟨[(0, (.data false (.sl (.arr 4 tI)))), (3, (.ptr 0 [])), (5, (.data true tI))], [.var 22 (.data true (.arr 4 tI))], 0⟩)]⟩ Try.f162 s_l2Put_i s_l2Put_o x = s_l2Put n x.1 x.2 := by kernel_rfl
noncomputable def s_l2Put_e (n : Nat) : Ent := ⟨162, s_l2Put_i, s_l2Put_o, fun x => s_l2Put n x.1 x.2⟩
theorem s_l2Put_ok (n : Nat) : EntOK Try.prog (s_l2Put_e n) ∧ Own Try.prog 162 := ent_ok tabOK0 (.cons (s_l2Less_ok n) (.cons (s_l2Own_ok n) .nil)) Try.func162 rfl (by kernel_rfl) (s_l2Put_ev n)
def s_Cur_one'p_i : CSh := ⟨[(.ptr 0 []), (.data true tI)], [.var 103 (.data true (.pair (.sl (.int .u8)) (.pair tI (.int .u64))))]⟩
def s_Cur_one'p_o : RSh := ⟨(.data true .bool), [.var 103 (.data true (.pair (.sl (.int .u8)) (.pair tI (.int .u64))))]⟩
theorem s_Cur_one'p_ev (n : Nat) (x : TupT s_Cur_one'p_i.tys) : evF ⟨tab, [s_Cur_pick'p_e n], n, []⟩ Try.f109 s_Cur_one'p_i s_Cur_one'p_o x = s_Cur_one'p n x.1 x.2 := by kernel_rfl
noncomputable def s_Cur_one'p_e (n : Nat) : Ent := ⟨109, s_Cur_one'p_i, s_Cur_one'p_o, fun x => s_Cur_one'p n x.1 x.2⟩
theorem s_Cur_one'p_ok (n : Nat) : EntOK Try.prog (s_Cur_one'p_e n) ∧ Own Try.prog 109 := ent_ok tabOK0 (.cons (s_Cur_pick'p_ok n) .nil) Try.func109 rfl (by kernel_rfl) (s_Cur_one'p_ev n)
def s_Cur_hand'p_i : CSh := ⟨[(.ptr 0 [])], [.var 103 (.data true (.pair (.sl (.int .u8)) (.pair tI (.int .u64))))]⟩
def s_Cur_hand'p_o : RSh := ⟨(.own 1), [.var 103 (.data true (.pair (.sl (.int .u8)) (.pair tI (.int .u64)))), .rows 22 true (.arr 4 tI)]⟩
theorem s_Cur_hand'p_ev (n : Nat) (x : TupT s_Cur_hand'p_i.tys) : evF ⟨tab, [s_Cur_among'pl_e n, s_Cur_pick'p_e n, s_l2At_e n, s_l2Put_e n, s_Cur_one'p_e n], n, [(8, ⟨[(0, (.ptr 0 [])), (3, (.own 1)), (4, (.data true tI)), (5, (.data true tI))], [.var 103 (.data true (.pair (.sl (.int .u8)) (.pair tI (.int .u64)))), .rows 22 true (.arr 4 tI)], 1⟩), (23, ⟨[(0, (.ptr 0 [])), (3, (.own 1)), (4, (.data true tI)), (5, (.data true tI)), (6, (.ptr 2 [])), (7, (.data true tI))], [.var 103 (.data true (.pair (.sl (.int .u8)) (.pair tI (.int .u64)))), .rows 22 true (.arr 4 tI), .var 22 (.data true (.arr 4 tI))], 1⟩), (5000038, ⟨[(0, (.ptr 0 [])), (3, (.own 1)), (39, (.data true .bool))], [.var 103 (.data true (.pair (.sl (.int .u8)) (.pair tI (.int .u64)))), .rows 22 true (.arr 4 tI)], 1⟩)]⟩ Try.f152 s_Cur_hand'p_i s_Cur_hand'p_o x = s_Cur_hand'p n x := by kernel_rfl
noncomputable def s_Cur_hand'p_e (n : Nat) : Ent := ⟨152, s_Cur_hand'p_i, s_Cur_hand'p_o, fun x => s_Cur_hand'p n x⟩
theorem s_Cur_hand'p_ok (n : Nat) : EntOK Try.prog (s_Cur_hand'p_e n) ∧ Own Try.prog 152 := ent_ok tabOK0 (.cons (s_Cur_among'pl_ok n) (.cons (s_Cur_pick'p_ok n) (.cons (s_l2At_ok n) (.cons (s_l2Put_ok n) (.cons (s_Cur_one'p_ok n) .nil))))) Try.func152 rfl (by kernel_rfl) (s_Cur_hand'p_ev n)
def s_l2Card_i : CSh := ⟨[(.data true (.arr 4 tI))], []⟩
def s_l2Card_o : RSh := ⟨(.data true .bool), []⟩
theorem s_l2Card_ev (n : Nat) (x : TupT s_l2Card_i.tys) : evF ⟨tab, [s_l1In_e n], n, [(6, ⟨[(1, (.ptr 0 [])), (3, (.data true tI))], [.var 22 (.data true (.arr 4 tI))], 0⟩)]⟩ Try.f80 s_l2Card_i s_l2Card_o x = s_l2Card n x := by kernel_rfl
noncomputable def s_l2Card_e (n : Nat) : Ent := ⟨80, s_l2Card_i, s_l2Card_o, fun x => s_l2Card n x⟩
theorem s_l2Card_ok (n : Nat) : EntOK Try.prog (s_l2Card_e n) ∧ Own Try.prog 80 := ent_ok tabOK0 (.cons (s_l1In_ok n) .nil) Try.func80 rfl (by kernel_rfl) (s_l2Card_ev n)
def s_l2Hand_i : CSh := ⟨[(.data false (.sl (.arr 4 tI)))], []⟩
def s_l2Hand_o : RSh := ⟨(.data true .bool), []⟩
theorem s_l2Hand_ev (n : Nat) (x : TupT s_l2Hand_i.tys) : evF ⟨tab, [s_l2Card_e n, s_l2Less_e n], n, [(6, ⟨[(0, (.data false (.sl (.arr 4 tI)))), (3, (.data true tI))], [], 0⟩)]⟩ Try.f99 s_l2Hand_i s_l2Hand_o x = s_l2Hand n x := by kernel_rfl
noncomputable def s_l2Hand_e (n : Nat) : Ent := ⟨99, s_l2Hand_i, s_l2Hand_o, fun x => s_l2Hand n x⟩
theorem s_l2Hand_ok (n : Nat) : EntOK Try.prog (s_l2Hand_e n) ∧ Own Try.prog 99 := ent_ok tabOK0 (.cons (s_l2Card_ok n) (.cons (s_l2Less_ok n) .nil)) Try.func99 rfl (by kernel_rfl) (s_l2Hand_ev n)
def s_l2Third_i : CSh := ⟨[(.data true (.arr 4 tI)), (.data true (.arr 4 tI))], []⟩
def s_l2Third_o : RSh := ⟨(.data true (.arr 4 tI)), []⟩
theorem s_l2Third_ev (n : Nat) (x : TupT s_l2Third_i.tys) : evF ⟨tab, [], n, [(8, ⟨[(2, (.ptr 0 [])), (3, (.ptr 1 [])), (4, (.ptr 2 [])), (5, (.ptr 3 [])), (6, (.data true tI))], [.var 22 (.data true (.arr 4 tI)), .var 22 (.data true (.arr 4 tI)), .var 22 (.data true (.arr 4 tI)), .var 22 (.data true (.arr 4 tI))], 0⟩)]⟩ Try.f104 s_l2Third_i s_l2Third_o x = s_l2Third n x.1 x.2 := by kernel_rfl
noncomputable def s_l2Third_e (n : Nat) : Ent := ⟨104, s_l2Third_i, s_l2Third_o, fun x => s_l2Third n x.1 x.2⟩
theorem s_l2Third_ok (n : Nat) : EntOK Try.prog (s_l2Third_e n) ∧ Own Try.prog 104 := ent_ok tabOK0 .nil Try.func104 rfl (by kernel_rfl) (s_l2Third_ev n)
def s_Cur_dense7'p_i : CSh := ⟨[(.ptr 0 [])], [.var 103 (.data true (.pair (.sl (.int .u8)) (.pair tI (.int .u64))))]⟩
def s_Cur_dense7'p_o : RSh := ⟨(.own 1), [.var 103 (.data true (.pair (.sl (.int .u8)) (.pair tI (.int .u64)))), .rows 22 true (.arr 4 tI)]⟩
theorem s_Cur_dense7'p_ev (n : Nat) (x : TupT s_Cur_dense7'p_i.tys) : evF ⟨tab, [s_Cur_hand'p_e n, s_l2Hand_e n, s_Cur_among'pl_e n, s_Cur_pick'p_e n, s_l2At_e n, s_l2Put_e n, s_l2Third_e n, s_Cur_one'p_e n], n, [(18, ⟨[(0, (.ptr 0 [])), (4, (.own 1)), (5, (.data true tI))], [.var 103 (.data true (.pair (.sl (.int .u8)) (.pair tI (.int .u64)))), .rows 22 true (.arr 4 tI)], 1⟩), (29, ⟨[(0, (.ptr 0 [])), (4, (.own 1)), (5, (.data true tI)), (6, (.ptr 2 [])), (7, (.ptr 3 []))], [.var 103 (.data true (.pair (.sl (.int .u8)) (.pair tI (.int .u64)))), .rows 22 true (.arr 4 tI), .var 22 (.data true (.arr 4 tI)), .var 22 (.data true (.arr 4 tI))], 1⟩), (5000006, ⟨[(0, (.ptr 0 [])), (3, (.own 1)), (16, (.data true .bool))], [.var 103 (.data true (.pair (.sl (.int .u8)) (.pair tI (.int .u64)))), .rows 22 true (.arr 4 tI)], 1⟩), (5000031, ⟨[(0, (.ptr 0 [])), (4, (.own 1)), (5, (.data true tI)), (6, (.ptr 2 [])), (7, (.ptr 3 [])), (38, (.data true .bool))], [.var 103 (.data true (.pair (.sl (.int .u8)) (.pair tI (.int .u64)))), .rows 22 true (.arr 4 tI), .var 22 (.data true (.arr 4 tI)), .var 22 (.data true (.arr 4 tI))], 1⟩)]⟩ Try.f92 s_Cur_dense7'p_i s_Cur_dense7'p_o x = s_Cur_dense7'p n x := by kernel_rfl
noncomputable def s_Cur_dense7'p_e (n : Nat) : Ent := ⟨92, s_Cur_dense7'p_i, s_Cur_dense7'p_o, fun x => s_Cur_dense7'p n x⟩
theorem s_Cur_dense7'p_ok (n : Nat) : EntOK Try.prog (s_Cur_dense7'p_e n) ∧ Own Try.prog 92 := ent_ok tabOK0 (.cons (s_Cur_hand'p_ok n) (.cons (s_l2Hand_ok n) (.cons (s_Cur_among'pl_ok n) (.cons (s_Cur_pick'p_ok n) (.cons (s_l2At_ok n) (.cons (s_l2Put_ok n) (.cons (s_l2Third_ok n) (.cons (s_Cur_one'p_ok n) .nil)))))))) Try.func92 rfl (by kernel_rfl) (s_Cur_dense7'p_ev n)
def s_DrawMeanAfter_i : CSh := ⟨[(.data false (.sl (.int .u8)))], []⟩
def s_DrawMeanAfter_o : RSh := ⟨(.tcons (.own 0) (.tcons (.data true tI) .tnil)), [.rows 22 true (.arr 4 tI)]⟩
theorem s_DrawMeanAfter_ev (n : Nat) (x : TupT s_DrawMeanAfter_i.tys) : evF ⟨tab, [s_Cur_dense7'p_e n, s_Cur_pick'p_e n, s_Cur_among'pl_e n], n, []⟩ Try.f18 s_DrawMeanAfter_i s_DrawMeanAfter_o x = s_DrawMeanAfter n x := by kernel_rfl
noncomputable def s_DrawMeanAfter_e (n : Nat) : Ent := ⟨18, s_DrawMeanAfter_i, s_DrawMeanAfter_o, fun x => s_DrawMeanAfter n x⟩
theorem s_DrawMeanAfter_ok (n : Nat) : EntOK Try.prog (s_DrawMeanAfter_e n) ∧ Own Try.prog 18 := ent_ok tabOK0 (.cons (s_Cur_dense7'p_ok n) (.cons (s_Cur_pick'p_ok n) (.cons (s_Cur_among'pl_ok n) .nil))) Try.func18 rfl (by kernel_rfl) (s_DrawMeanAfter_ev n)
def i_allWithin_1'pp_i : CSh := ⟨[(.data true tI), (.ptr 0 []), (.ptr 1 [])], [.var 3 (.data true tI), .var 3 (.data true tI)]⟩
def i_allWithin_1'pp_o : RSh := ⟨(.data true .bool), [.var 3 (.data true tI), .var 3 (.data true tI)]⟩
theorem i_allWithin_1'pp_ev (n : Nat) (x : TupT i_allWithin_1'pp_i.tys) : evF ⟨tab, [i_within_e n], n, []⟩ Try.f205 i_allWithin_1'pp_i i_allWithin_1'pp_o x = i_allWithin_1'pp n x.1 x.2.1 x.2.2 := by kernel_rfl
noncomputable def i_allWithin_1'pp_e (n : Nat) : Ent := ⟨205, i_allWithin_1'pp_i, i_allWithin_1'pp_o, fun x => i_allWithin_1'pp n x.1 x.2.1 x.2.2⟩
theorem i_allWithin_1'pp_ok (n : Nat) : EntOK Try.prog (i_allWithin_1'pp_e n) ∧ Own Try.prog 205 := ent_ok tabOK0 (.cons (i_within_ok n) .nil) Try.func205 rfl (by kernel_rfl) (i_allWithin_1'pp_ev n)
def slices_IndexFunc_Sint_int_'l_i_allWithin_1pp_i : CSh := ⟨[(.data false (.sl tI)), (.clo 205 (.tcons (.ptr 0 []) (.tcons (.ptr 1 []) .tnil)))], [.var 3 (.data true tI), .var 3 (.data true tI)]⟩
def slices_IndexFunc_Sint_int_'l_i_allWithin_1pp_o : RSh := ⟨(.data true tI), [.var 3 (.data true tI), .var 3 (.data true tI)]⟩
theorem slices_IndexFunc_Sint_int_'l_i_allWithin_1pp_ev (n : Nat) (x : TupT slices_IndexFunc_Sint_int_'l_i_allWithin_1pp_i.tys) : evF ⟨tab, [i_allWithin_1'pp_e n], n, [(6, ⟨[(0, (.data false (.sl tI))), (1, (.clo 205 (.tcons (.ptr 0 []) (.tcons (.ptr 1 []) .tnil)))), (7, (.data true tI)), (8, (.data true tI))], [.var 3 (.data true tI), .var 3 (.data true tI)], 2⟩)]⟩ Try.f230 slices_IndexFunc_Sint_int_'l_i_allWithin_1pp_i slices_IndexFunc_Sint_int_'l_i_allWithin_1pp_o x = slices_IndexFunc_Sint_int_'l_i_allWithin_1pp n x.1 x.2.1 x.2.2 := by kernel_rfl
noncomputable def slices_IndexFunc_Sint_int_'l_i_allWithin_1pp_e (n : Nat) : Ent := ⟨230, slices_IndexFunc_Sint_int_'l_i_allWithin_1pp_i, slices_IndexFunc_Sint_int_'l_i_allWithin_1pp_o, fun x => slices_IndexFunc_Sint_int_'l_i_allWithin_1pp n x.1 x.2.1 x.2.2⟩
theorem slices_IndexFunc_Sint_int_'l_i_allWithin_1pp_ok (n : Nat) : EntOK Try.prog (slices_IndexFunc_Sint_int_'l_i_allWithin_1pp_e n) ∧ Own Try.prog 230 := ent_ok tabOK0 (.cons (i_allWithin_1'pp_ok n) .nil) Try.func230 rfl (by kernel_rfl) (slices_IndexFunc_Sint_int_'l_i_allWithin_1pp_ev n)
def slices_ContainsFunc_Sint_int_'l_i_allWithin_1pp_i : CSh := ⟨[(.data false (.sl tI)), (.clo 205 (.tcons (.ptr 0 []) (.tcons (.ptr 1 []) .tnil)))], [.var 3 (.data true tI), .var 3 (.data true tI)]⟩
def slices_ContainsFunc_Sint_int_'l_i_allWithin_1pp_o : RSh := ⟨(.data true .bool), [.var 3 (.data true tI), .var 3 (.data true tI)]⟩
theorem slices_ContainsFunc_Sint_int_'l_i_allWithin_1pp_ev (n : Nat) (x : TupT slices_ContainsFunc_Sint_int_'l_i_allWithin_1pp_i.tys) : evF ⟨tab, [slices_IndexFunc_Sint_int_'l_i_allWithin_1pp_e n], n, []⟩ Try.f204 slices_ContainsFunc_Sint_int_'l_i_allWithin_1pp_i slices_ContainsFunc_Sint_int_'l_i_allWithin_1pp_o x = slices_ContainsFunc_Sint_int_'l_i_allWithin_1pp n x.1 x.2.1 x.2.2 := by kernel_rfl
noncomputable def slices_ContainsFunc_Sint_int_'l_i_allWithin_1pp_e (n : Nat) : Ent := ⟨204, slices_ContainsFunc_Sint_int_'l_i_allWithin_1pp_i, slices_ContainsFunc_Sint_int_'l_i_allWithin_1pp_o, fun x => slices_ContainsFunc_Sint_int_'l_i_allWithin_1pp n x.1 x.2.1 x.2.2⟩
theorem slices_ContainsFunc_Sint_int_'l_i_allWithin_1pp_ok (n : Nat) : EntOK Try.prog (slices_ContainsFunc_Sint_int_'l_i_allWithin_1pp_e n) ∧ Own Try.prog 204 := ent_ok tabOK0 (.cons (slices_IndexFunc_Sint_int_'l_i_allWithin_1pp_ok n) .nil) Try.func204 rfl (by kernel_rfl) (slices_ContainsFunc_Sint_int_'l_i_allWithin_1pp_ev n)
def i_allWithin_i : CSh := ⟨[(.data false (.sl tI)), (.data true tI), (.data true tI)], []⟩
def i_allWithin_o : RSh := ⟨(.data true .bool), []⟩
theorem i_allWithin_ev (n : Nat) (x : TupT i_allWithin_i.tys) : evF ⟨tab, [slices_ContainsFunc_Sint_int_'l_i_allWithin_1pp_e n], n, []⟩ Try.f159 i_allWithin_i i_allWithin_o x = i_allWithin n x.1 x.2.1 x.2.2 := by kernel_rfl
noncomputable def i_allWithin_e (n : Nat) : Ent := ⟨159, i_allWithin_i, i_allWithin_o, fun x => i_allWithin n x.1 x.2.1 x.2.2⟩
theorem i_allWithin_ok (n : Nat) : EntOK Try.prog (i_allWithin_e n) ∧ Own Try.prog 159 := ent_ok tabOK0 (.cons (slices_ContainsFunc_Sint_int_'l_i_allWithin_1pp_ok n) .nil) Try.func159 rfl (by kernel_rfl) (i_allWithin_ev n)
def i_IsCard_i : CSh := ⟨[(.data true (.arr 4 tI))], []⟩
def i_IsCard_o : RSh := ⟨(.data true .bool), []⟩
theorem i_IsCard_ev (n : Nat) (x : TupT i_IsCard_i.tys) : evF ⟨tab, [i_allWithin_e n], n, []⟩ Try.f82 i_IsCard_i i_IsCard_o x = i_IsCard n x := by kernel_rfl
noncomputable def i_IsCard_e (n : Nat) : Ent := ⟨82, i_IsCard_i, i_IsCard_o, fun x => i_IsCard n x⟩
theorem i_IsCard_ok (n : Nat) : EntOK Try.prog (i_IsCard_e n) ∧ Own Try.prog 82 := ent_ok tabOK0 (.cons (i_allWithin_ok n) .nil) Try.func82 rfl (by kernel_rfl) (i_IsCard_ev n)
def i_number_i : CSh := ⟨[(.data true (.arr 4 tI))], []⟩
def i_number_o : RSh := ⟨(.data true tI), []⟩
theorem i_number_ev (n : Nat) (x : TupT i_number_i.tys) : evF ⟨tab, [], n, [(8, ⟨[(3, (.data true tI)), (6, (.data true (.arr 4 tI))), (7, (.data true tI))], [], 0⟩)]⟩ Try.f111 i_number_i i_number_o x = i_number n x := by kernel_rfl
noncomputable def i_number_e (n : Nat) : Ent := ⟨111, i_number_i, i_number_o, fun x => i_number n x⟩
theorem i_number_ok (n : Nat) : EntOK Try.prog (i_number_e n) ∧ Own Try.prog 111 := ent_ok tabOK0 .nil Try.func111 rfl (by kernel_rfl) (i_number_ev n)
def i_IsHand_i : CSh := ⟨[(.data false (.sl (.arr 4 tI)))], []⟩
def i_IsHand_o : RSh := ⟨(.data true .bool), []⟩
theorem i_IsHand_ev (n : Nat) (x : TupT i_IsHand_i.tys) : evF ⟨tab, [i_IsCard_e n, i_number_e n], n, [(6, ⟨[(0, (.data false (.sl (.arr 4 tI)))), (5, (.data false (.sl (.arr 4 tI)))), (6, (.data true tI)), (7, (.data true tI))], [], 0⟩)]⟩ Try.f93 i_IsHand_i i_IsHand_o x = i_IsHand n x := by kernel_rfl
noncomputable def i_IsHand_e (n : Nat) : Ent := ⟨93, i_IsHand_i, i_IsHand_o, fun x => i_IsHand n x⟩
theorem i_IsHand_ok (n : Nat) : EntOK Try.prog (i_IsHand_e n) ∧ Own Try.prog 93 := ent_ok tabOK0 (.cons (i_IsCard_ok n) (.cons (i_number_ok n) .nil)) Try.func93 rfl (by kernel_rfl) (i_IsHand_ev n)
def i_card_i : CSh := ⟨[(.data true tI)], []⟩
def i_card_o : RSh := ⟨(.data true (.arr 4 tI)), []⟩
theorem i_card_ev (n : Nat) (x : TupT i_card_i.tys) : evF ⟨tab, [], n, []⟩ Try.f94 i_card_i i_card_o x = i_card n x := by kernel_rfl
noncomputable def i_card_e (n : Nat) : Ent := ⟨94, i_card_i, i_card_o, fun x => i_card n x⟩
theorem i_card_ok (n : Nat) : EntOK Try.prog (i_card_e n) ∧ Own Try.prog 94 := ent_ok tabOK0 .nil Try.func94 rfl (by kernel_rfl) (i_card_ev n)
def slices_Index_SA4_A4__i : CSh := ⟨[(.data false (.sl (.arr 4 tI))), (.data true (.arr 4 tI))], []⟩
def slices_Index_SA4_A4__o : RSh := ⟨(.data true tI), []⟩
theorem slices_Index_SA4_A4__ev (n : Nat) (x : TupT slices_Index_SA4_A4__i.tys) : evF ⟨tab, [], n, [(6, ⟨[(0, (.data false (.sl (.arr 4 tI)))), (3, (.ptr 0 [])), (7, (.data true tI)), (8, (.data true tI))], [.var 22 (.data true (.arr 4 tI))], 0⟩)]⟩ Try.f207 slices_Index_SA4_A4__i slices_Index_SA4_A4__o x = slices_Index_SA4_A4_ n x.1 x.2 := by kernel_rfl
noncomputable def slices_Index_SA4_A4__e (n : Nat) : Ent := ⟨207, slices_Index_SA4_A4__i, slices_Index_SA4_A4__o, fun x => slices_Index_SA4_A4_ n x.1 x.2⟩
theorem slices_Index_SA4_A4__ok (n : Nat) : EntOK Try.prog (slices_Index_SA4_A4__e n) ∧ Own Try.prog 207 := ent_ok tabOK0 .nil Try.func207 rfl (by kernel_rfl) (slices_Index_SA4_A4__ev n)
def slices_Contains_SA4_A4__i : CSh := ⟨[(.data false (.sl (.arr 4 tI))), (.data true (.arr 4 tI))], []⟩
def slices_Contains_SA4_A4__o : RSh := ⟨(.data true .bool), []⟩
theorem slices_Contains_SA4_A4__ev (n : Nat) (x : TupT slices_Contains_SA4_A4__i.tys) : evF ⟨tab, [slices_Index_SA4_A4__e n], n, []⟩ Try.f163 slices_Contains_SA4_A4__i slices_Contains_SA4_A4__o x = slices_Contains_SA4_A4_ n x.1 x.2 := by kernel_rfl
noncomputable def slices_Contains_SA4_A4__e (n : Nat) : Ent := ⟨163, slices_Contains_SA4_A4__i, slices_Contains_SA4_A4__o, fun x => slices_Contains_SA4_A4_ n x.1 x.2⟩
theorem slices_Contains_SA4_A4__ok (n : Nat) : EntOK Try.prog (slices_Contains_SA4_A4__e n) ∧ Own Try.prog 163 := ent_ok tabOK0 (.cons (slices_Index_SA4_A4__ok n) .nil) Try.func163 rfl (by kernel_rfl) (slices_Contains_SA4_A4__ev n)
def i_has_i : CSh := ⟨[(.data false (.sl (.arr 4 tI))), (.data true (.arr 4 tI))], []⟩
def i_has_o : RSh := ⟨(.data true .bool), []⟩
theorem i_has_ev (n : Nat) (x : TupT i_has_i.tys) : evF ⟨tab, [slices_Contains_SA4_A4__e n], n, []⟩ Try.f95 i_has_i i_has_o x = i_has n x.1 x.2 := by kernel_rfl
noncomputable def i_has_e (n : Nat) : Ent := ⟨95, i_has_i, i_has_o, fun x => i_has n x.1 x.2⟩
theorem i_has_ok (n : Nat) : EntOK Try.prog (i_has_e n) ∧ Own Try.prog 95 := ent_ok tabOK0 (.cons (slices_Contains_SA4_A4__ok n) .nil) Try.func95 rfl (by kernel_rfl) (i_has_ev n)
def i_third_i : CSh := ⟨[(.data true (.arr 4 tI)), (.data true (.arr 4 tI))], []⟩
def i_third_o : RSh := ⟨(.data true (.arr 4 tI)), []⟩
theorem i_third_ev (n : Nat) (x : TupT i_third_i.tys) : evF ⟨tab, [], n, [(8, ⟨[(2, (.ptr 0 [])), (3, (.ptr 1 [])), (4, (.ptr 2 [])), (5, (.ptr 3 [])), (8, (.data true tI))], [.var 22 (.data true (.arr 4 tI)), .var 22 (.data true (.arr 4 tI)), .var 22 (.data true (.arr 4 tI)), .var 22 (.data true (.arr 4 tI))], 0⟩)]⟩ Try.f98 i_third_i i_third_o x = i_third n x.1 x.2 := by kernel_rfl
noncomputable def i_third_e (n : Nat) : Ent := ⟨98, i_third_i, i_third_o, fun x => i_third n x.1 x.2⟩
theorem i_third_ok (n : Nat) : EntOK Try.prog (i_third_e n) ∧ Own Try.prog 98 := ent_ok tabOK0 .nil Try.func98 rfl (by kernel_rfl) (i_third_ev n)
def i_pairsFor_i : CSh := ⟨[(.data false (.sl (.arr 4 tI))), (.data true (.arr 4 tI))], []⟩
def i_pairsFor_o : RSh := ⟨(.own 0), [.rows 31 true (.arr 2 tI)]⟩
theorem i_pairsFor_ev (n : Nat) (x : TupT i_pairsFor_i.tys) : evF ⟨tab, [i_third_e n], n, [(8, ⟨[(0, (.data false (.sl (.arr 4 tI)))), (3, (.ptr 0 [])), (5, (.own 1)), (10, (.data false (.sl (.arr 4 tI)))), (11, (.data true tI)), (12, (.data true tI))], [.var 22 (.data true (.arr 4 tI)), .rows 31 true (.arr 2 tI)], 0⟩), (22, ⟨[(0, (.data false (.sl (.arr 4 tI)))), (3, (.ptr 0 [])), (5, (.own 1)), (6, (.data true tI)), (7, (.ptr 2 [])), (8, (.data true tI)), (10, (.data false (.sl (.arr 4 tI)))), (11, (.data true tI)), (12, (.data true tI))], [.var 22 (.data true (.arr 4 tI)), .rows 31 true (.arr 2 tI), .var 22 (.data true (.arr 4 tI))], 0⟩)]⟩ Try.f96 i_pairsFor_i i_pairsFor_o x = i_pairsFor n x.1 x.2 := by kernel_rfl
noncomputable def i_pairsFor_e (n : Nat) : Ent := ⟨96, i_pairsFor_i, i_pairsFor_o, fun x => i_pairsFor n x.1 x.2⟩
theorem i_pairsFor_ok (n : Nat) : EntOK Try.prog (i_pairsFor_e n) ∧ Own Try.prog 96 := ent_ok tabOK0 (.cons (i_third_ok n) .nil) Try.func96 rfl (by kernel_rfl) (i_pairsFor_ev n)
def i_linesIn_i : CSh := ⟨[(.data false (.sl (.arr 4 tI)))], []⟩
def i_linesIn_o : RSh := ⟨(.own 0), [.rows 58 true (.arr 3 tI)]⟩
theorem i_linesIn_ev (n : Nat) (x : TupT i_linesIn_i.tys) : evF ⟨tab, [i_number_e n, i_third_e n], n, [(8, ⟨[(0, (.data false (.sl (.arr 4 tI)))), (3, (.ptr 0 [])), (12, (.data false (.sl (.arr 4 tI)))), (13, (.data true tI)), (14, (.data true tI))], [.var 153 (.data true (.arr 81 tI))], 0⟩), (27, ⟨[(0, (.data false (.sl (.arr 4 tI)))), (3, (.ptr 0 [])), (6, (.own 1)), (26, (.data false (.sl (.arr 4 tI)))), (27, (.data true tI)), (28, (.data true tI))], [.var 153 (.data true (.arr 81 tI)), .rows 58 true (.arr 3 tI)], 0⟩), (41, ⟨[(0, (.data false (.sl (.arr 4 tI)))), (3, (.ptr 0 [])), (6, (.own 1)), (7, (.data true tI)), (8, (.ptr 2 [])), (9, (.data true tI)), (26, (.data false (.sl (.arr 4 tI)))), (27, (.data true tI)), (28, (.data true tI))], [.var 153 (.data true (.arr 81 tI)), .rows 58 true (.arr 3 tI), .var 22 (.data true (.arr 4 tI))], 0⟩)]⟩ Try.f97 i_linesIn_i i_linesIn_o x = i_linesIn n x := by kernel_rfl
noncomputable def i_linesIn_e (n : Nat) : Ent := ⟨97, i_linesIn_i, i_linesIn_o, fun x => i_linesIn n x⟩
theorem i_linesIn_ok (n : Nat) : EntOK Try.prog (i_linesIn_e n) ∧ Own Try.prog 97 := ent_ok tabOK0 (.cons (i_number_ok n) (.cons (i_third_ok n) .nil)) Try.func97 rfl (by kernel_rfl) (i_linesIn_ev n)
def i_MeanAfter_i : CSh := ⟨[(.data false (.sl (.arr 4 tI))), (.data true tI)], []⟩
def i_MeanAfter_o : RSh := ⟨(.tcons (.data true (.arr 2 tI)) (.tcons (.data true .bool) .tnil)), []⟩
theorem i_MeanAfter_ev (n : Nat) (x : TupT i_MeanAfter_i.tys) : evF ⟨tab, [i_IsHand_e n, i_within_e n, i_card_e n, i_has_e n, i_pairsFor_e n, i_linesIn_e n, i_fraction_e n, i_choose_e n, i_third_e n], n, [(16, ⟨[(0, (.data false (.sl (.arr 4 tI)))), (1, (.data true tI)), (4, (.ptr 0 [])), (6, (.own 1)), (7, (.data true tI)), (28, (.data true tI))], [.var 31 (.data true (.arr 2 tI)), .rows 22 true (.arr 4 tI)], 0⟩), (64, ⟨[(0, (.data false (.sl (.arr 4 tI)))), (4, (.ptr 0 [])), (6, (.own 1)), (7, (.data true tI)), (10, (.data true tI)), (11, (.data true tI)), (12, (.data true tI)), (13, (.data true tI)), (73, (.own 1)), (74, (.data true tI)), (75, (.data true tI))], [.var 31 (.data true (.arr 2 tI)), .rows 22 true (.arr 4 tI)], 0⟩), (78, ⟨[(0, (.data false (.sl (.arr 4 tI)))), (4, (.ptr 0 [])), (6, (.own 1)), (7, (.data true tI)), (10, (.data true tI)), (11, (.data true tI)), (12, (.data true tI)), (13, (.data true tI)), (15, (.ptr 2 [])), (73, (.own 1)), (74, (.data true tI)), (75, (.data true tI)), (82, (.ownp 1)), (83, (.data true tI)), (84, (.data true tI))], [.var 31 (.data true (.arr 2 tI)), .rows 22 true (.arr 4 tI), .var 22 (.data true (.arr 4 tI))], 0⟩)]⟩ Try.f20 i_MeanAfter_i i_MeanAfter_o x = i_MeanAfter n x.1 x.2 := by kernel_rfl
noncomputable def i_MeanAfter_e (n : Nat) : Ent := ⟨20, i_MeanAfter_i, i_MeanAfter_o, fun x => i_MeanAfter n x.1 x.2⟩
theorem i_MeanAfter_ok (n : Nat) : EntOK Try.prog (i_MeanAfter_e n) ∧ Own Try.prog 20 := ent_ok tabOK0 (.cons (i_IsHand_ok n) (.cons (i_within_ok n) (.cons (i_card_ok n) (.cons (i_has_ok n) (.cons (i_pairsFor_ok n) (.cons (i_linesIn_ok n) (.cons (i_fraction_ok n) (.cons (i_choose_ok n) (.cons (i_third_ok n) .nil))))))))) Try.func20 rfl (by kernel_rfl) (i_MeanAfter_ev n)
def s_l2Place_i : CSh := ⟨[(.data false (.sl (.arr 4 tI))), (.data true (.arr 4 tI))], []⟩
def s_l2Place_o : RSh := ⟨(.data true tI), []⟩
theorem s_l2Place_ev (n : Nat) (x : TupT s_l2Place_i.tys) : evF ⟨tab, [], n, [(6, ⟨[(0, (.data false (.sl (.arr 4 tI)))), (3, (.ptr 0 [])), (5, (.data true tI))], [.var 22 (.data true (.arr 4 tI))], 0⟩)]⟩ Try.f165 s_l2Place_i s_l2Place_o x = s_l2Place n x.1 x.2 := by kernel_rfl
noncomputable def s_l2Place_e (n : Nat) : Ent := ⟨165, s_l2Place_i, s_l2Place_o, fun x => s_l2Place n x.1 x.2⟩
theorem s_l2Place_ok (n : Nat) : EntOK Try.prog (s_l2Place_e n) ∧ Own Try.prog 165 := ent_ok tabOK0 .nil Try.func165 rfl (by kernel_rfl) (s_l2Place_ev n)
def s_l2Lines_i : CSh := ⟨[(.data false (.sl (.arr 4 tI)))], []⟩
def s_l2Lines_o : RSh := ⟨(.own 0), [.rows 58 true (.arr 3 tI)]⟩
theorem s_l2Lines_ev (n : Nat) (x : TupT s_l2Lines_i.tys) : evF ⟨tab, [s_l2Third_e n, s_l2Place_e n], n, [(8, ⟨[(0, (.data false (.sl (.arr 4 tI)))), (3, (.own 0)), (4, (.data true tI))], [.rows 58 true (.arr 3 tI)], 0⟩), (20, ⟨[(0, (.data false (.sl (.arr 4 tI)))), (3, (.own 0)), (4, (.data true tI)), (5, (.data true tI))], [.rows 58 true (.arr 3 tI)], 0⟩)]⟩ Try.f100 s_l2Lines_i s_l2Lines_o x = s_l2Lines n x := by kernel_rfl
noncomputable def s_l2Lines_e (n : Nat) : Ent := ⟨100, s_l2Lines_i, s_l2Lines_o, fun x => s_l2Lines n x⟩
theorem s_l2Lines_ok (n : Nat) : EntOK Try.prog (s_l2Lines_e n) ∧ Own Try.prog 100 := ent_ok tabOK0 (.cons (s_l2Third_ok n) (.cons (s_l2Place_ok n) .nil)) Try.func100 rfl (by kernel_rfl) (s_l2Lines_ev n)
def s_l2Has_i : CSh := ⟨[(.data false (.sl (.arr 4 tI))), (.data true (.arr 4 tI))], []⟩
def s_l2Has_o : RSh := ⟨(.data true .bool), []⟩
theorem s_l2Has_ev (n : Nat) (x : TupT s_l2Has_i.tys) : evF ⟨tab, [s_l2Place_e n], n, []⟩ Try.f103 s_l2Has_i s_l2Has_o x = s_l2Has n x.1 x.2 := by kernel_rfl
noncomputable def s_l2Has_e (n : Nat) : Ent := ⟨103, s_l2Has_i, s_l2Has_o, fun x => s_l2Has n x.1 x.2⟩
theorem s_l2Has_ok (n : Nat) : EntOK Try.prog (s_l2Has_e n) ∧ Own Try.prog 103 := ent_ok tabOK0 (.cons (s_l2Place_ok n) .nil) Try.func103 rfl (by kernel_rfl) (s_l2Has_ev n)
def s_l9Rest_i : CSh := ⟨[(.data false (.sl (.arr 4 tI)))], []⟩
def s_l9Rest_o : RSh := ⟨(.own 0), [.rows 22 true (.arr 4 tI)]⟩
theorem s_l9Rest_ev (n : Nat) (x : TupT s_l9Rest_i.tys) : evF ⟨tab, [s_l2At_e n, s_l2Has_e n], n, [(8, ⟨[(0, (.data false (.sl (.arr 4 tI)))), (3, (.own 0)), (4, (.data true tI))], [.rows 22 true (.arr 4 tI)], 0⟩)]⟩ Try.f101 s_l9Rest_i s_l9Rest_o x = s_l9Rest n x := by kernel_rfl
noncomputable def s_l9Rest_e (n : Nat) : Ent := ⟨101, s_l9Rest_i, s_l9Rest_o, fun x => s_l9Rest n x⟩
theorem s_l9Rest_ok (n : Nat) : EntOK Try.prog (s_l9Rest_e n) ∧ Own Try.prog 101 := ent_ok tabOK0 (.cons (s_l2At_ok n) (.cons (s_l2Has_ok n) .nil)) Try.func101 rfl (by kernel_rfl) (s_l9Rest_ev n)
def s_l2Line_i : CSh := ⟨[(.data true (.arr 4 tI)), (.data true (.arr 4 tI)), (.data true (.arr 4 tI))], []⟩
def s_l2Line_o : RSh := ⟨(.data true .bool), []⟩
theorem s_l2Line_ev (n : Nat) (x : TupT s_l2Line_i.tys) : evF ⟨tab, [s_l2Third_e n], n, []⟩ Try.f166 s_l2Line_i s_l2Line_o x = s_l2Line n x.1 x.2.1 x.2.2 := by kernel_rfl
noncomputable def s_l2Line_e (n : Nat) : Ent := ⟨166, s_l2Line_i, s_l2Line_o, fun x => s_l2Line n x.1 x.2.1 x.2.2⟩
theorem s_l2Line_ok (n : Nat) : EntOK Try.prog (s_l2Line_e n) ∧ Own Try.prog 166 := ent_ok tabOK0 (.cons (s_l2Third_ok n) .nil) Try.func166 rfl (by kernel_rfl) (s_l2Line_ev n)
def s_l2Through_i : CSh := ⟨[(.data false (.sl (.arr 4 tI))), (.data true (.arr 4 tI))], []⟩
def s_l2Through_o : RSh := ⟨(.data true tI), []⟩
theorem s_l2Through_ev (n : Nat) (x : TupT s_l2Through_i.tys) : evF ⟨tab, [s_l2Line_e n], n, [(8, ⟨[(0, (.data false (.sl (.arr 4 tI)))), (3, (.ptr 0 [])), (5, (.data true tI)), (6, (.data true tI))], [.var 22 (.data true (.arr 4 tI))], 0⟩), (20, ⟨[(0, (.data false (.sl (.arr 4 tI)))), (3, (.ptr 0 [])), (5, (.data true tI)), (6, (.data true tI)), (7, (.data true tI))], [.var 22 (.data true (.arr 4 tI))], 0⟩)]⟩ Try.f102 s_l2Through_i s_l2Through_o x = s_l2Through n x.1 x.2 := by kernel_rfl
noncomputable def s_l2Through_e (n : Nat) : Ent := ⟨102, s_l2Through_i, s_l2Through_o, fun x => s_l2Through n x.1 x.2⟩
theorem s_l2Through_ok (n : Nat) : EntOK Try.prog (s_l2Through_e n) ∧ Own Try.prog 102 := ent_ok tabOK0 (.cons (s_l2Line_ok n) .nil) Try.func102 rfl (by kernel_rfl) (s_l2Through_ev n)
def s_MeanAfter_i : CSh := ⟨[(.data false (.sl (.arr 4 tI))), (.data true tI)], []⟩
def s_MeanAfter_o : RSh := ⟨(.tcons (.data true (.arr 2 tI)) (.tcons (.data true .bool) .tnil)), []⟩
theorem s_MeanAfter_ev (n : Nat) (x : TupT s_MeanAfter_i.tys) : evF ⟨tab, [s_l2Hand_e n, s_l1In_e n, s_l2Lines_e n, s_l9Rest_e n, s_l2Through_e n, s_l2Third_e n, s_l2Has_e n, s_l9Cut_e n, s_l9Choose_e n], n, [(26, ⟨[(0, (.data false (.sl (.arr 4 tI)))), (1, (.data true tI)), (4, (.ptr 0 [])), (6, (.data true tI)), (7, (.own 1)), (8, (.data true tI)), (9, (.data true tI)), (10, (.data true tI))], [.var 31 (.data true (.arr 2 tI)), .rows 22 true (.arr 4 tI)], 0⟩), (40, ⟨[(0, (.data false (.sl (.arr 4 tI)))), (1, (.data true tI)), (4, (.ptr 0 [])), (6, (.data true tI)), (7, (.own 1)), (8, (.data true tI)), (9, (.data true tI)), (10, (.data true tI)), (11, (.data true tI))], [.var 31 (.data true (.arr 2 tI)), .rows 22 true (.arr 4 tI)], 0⟩)]⟩ Try.f21 s_MeanAfter_i s_MeanAfter_o x = s_MeanAfter n x.1 x.2 := by kernel_rfl
noncomputable def s_MeanAfter_e (n : Nat) : Ent := ⟨21, s_MeanAfter_i, s_MeanAfter_o, fun x => s_MeanAfter n x.1 x.2⟩
theorem s_MeanAfter_ok (n : Nat) : EntOK Try.prog (s_MeanAfter_e n) ∧ Own Try.prog 21 := ent_ok tabOK0 (.cons (s_l2Hand_ok n) (.cons (s_l1In_ok n) (.cons (s_l2Lines_ok n) (.cons (s_l9Rest_ok n) (.cons (s_l2Through_ok n) (.cons (s_l2Third_ok n) (.cons (s_l2Has_ok n) (.cons (s_l9Cut_ok n) (.cons (s_l9Choose_ok n) .nil))))))))) Try.func21 rfl (by kernel_rfl) (s_MeanAfter_ev n)
def s_DrawChanceLine_i : CSh := ⟨[(.data false (.sl (.int .u8)))], []⟩
def s_DrawChanceLine_o : RSh := ⟨(.own 0), [.rows 22 true (.arr 4 tI)]⟩
theorem s_DrawChanceLine_ev (n : Nat) (x : TupT s_DrawChanceLine_i.tys) : evF ⟨tab, [s_Cur_dense7'p_e n], n, []⟩ Try.f61 s_DrawChanceLine_i s_DrawChanceLine_o x = s_DrawChanceLine n x := by kernel_rfl
noncomputable def s_DrawChanceLine_e (n : Nat) : Ent := ⟨61, s_DrawChanceLine_i, s_DrawChanceLine_o, fun x => s_DrawChanceLine n x⟩
theorem s_DrawChanceLine_ok (n : Nat) : EntOK Try.prog (s_DrawChanceLine_e n) ∧ Own Try.prog 61 := ent_ok tabOK0 (.cons (s_Cur_dense7'p_ok n) .nil) Try.func61 rfl (by kernel_rfl) (s_DrawChanceLine_ev n)
def s_DrawBestThird_i : CSh := ⟨[(.data false (.sl (.int .u8)))], []⟩
def s_DrawBestThird_o : RSh := ⟨(.own 0), [.rows 22 true (.arr 4 tI)]⟩
theorem s_DrawBestThird_ev (n : Nat) (x : TupT s_DrawBestThird_i.tys) : evF ⟨tab, [s_DrawChanceLine_e n], n, []⟩ Try.f22 s_DrawBestThird_i s_DrawBestThird_o x = s_DrawBestThird n x := by kernel_rfl
noncomputable def s_DrawBestThird_e (n : Nat) : Ent := ⟨22, s_DrawBestThird_i, s_DrawBestThird_o, fun x => s_DrawBestThird n x⟩
theorem s_DrawBestThird_ok (n : Nat) : EntOK Try.prog (s_DrawBestThird_e n) ∧ Own Try.prog 22 := ent_ok tabOK0 (.cons (s_DrawChanceLine_ok n) .nil) Try.func22 rfl (by kernel_rfl) (s_DrawBestThird_ev n)
def i_BestThird_i : CSh := ⟨[(.data false (.sl (.arr 4 tI)))], []⟩
def i_BestThird_o : RSh := ⟨(.tcons (.data true tI) (.tcons (.data true tI) (.tcons (.data true .bool) .tnil))), []⟩
theorem i_BestThird_ev (n : Nat) (x : TupT i_BestThird_i.tys) : evF ⟨tab, [i_IsHand_e n, i_card_e n, i_has_e n, i_pairsFor_e n], n, [(16, ⟨[(0, (.data false (.sl (.arr 4 tI)))), (5, (.data true tI)), (6, (.data true tI)), (13, (.data true tI))], [], 0⟩)]⟩ Try.f23 i_BestThird_i i_BestThird_o x = i_BestThird n x := by kernel_rfl
noncomputable def i_BestThird_e (n : Nat) : Ent := ⟨23, i_BestThird_i, i_BestThird_o, fun x => i_BestThird n x⟩
theorem i_BestThird_ok (n : Nat) : EntOK Try.prog (i_BestThird_e n) ∧ Own Try.prog 23 := ent_ok tabOK0 (.cons (i_IsHand_ok n) (.cons (i_card_ok n) (.cons (i_has_ok n) (.cons (i_pairsFor_ok n) .nil)))) Try.func23 rfl (by kernel_rfl) (i_BestThird_ev n)
def s_BestThird_i : CSh := ⟨[(.data false (.sl (.arr 4 tI)))], []⟩
def s_BestThird_o : RSh := ⟨(.tcons (.data true tI) (.tcons (.data true tI) (.tcons (.data true .bool) .tnil))), []⟩
theorem s_BestThird_ev (n : Nat) (x : TupT s_BestThird_i.tys) : evF ⟨tab, [s_l2Hand_e n, s_l9Rest_e n, s_l2Through_e n, s_l2Number_e n], n, [(16, ⟨[(0, (.data false (.sl (.arr 4 tI)))), (5, (.own 0)), (6, (.data true tI)), (7, (.data true tI)), (8, (.data true tI))], [.rows 22 true (.arr 4 tI)], 0⟩)]⟩ Try.f24 s_BestThird_i s_BestThird_o x = s_BestThird n x := by kernel_rfl
noncomputable def s_BestThird_e (n : Nat) : Ent := ⟨24, s_BestThird_i, s_BestThird_o, fun x => s_BestThird n x⟩
theorem s_BestThird_ok (n : Nat) : EntOK Try.prog (s_BestThird_e n) ∧ Own Try.prog 24 := ent_ok tabOK0 (.cons (s_l2Hand_ok n) (.cons (s_l9Rest_ok n) (.cons (s_l2Through_ok n) (.cons (s_l2Number_ok n) .nil)))) Try.func24 rfl (by kernel_rfl) (s_BestThird_ev n)
def i_differ_i : CSh := ⟨[(.data true (.arr 4 tI)), (.data true (.arr 4 tI))], []⟩
def i_differ_o : RSh := ⟨(.data true tI), []⟩
theorem i_differ_ev (n : Nat) (x : TupT i_differ_i.tys) : evF ⟨tab, [], n, [(8, ⟨[(2, (.ptr 0 [])), (3, (.ptr 1 [])), (5, (.data true tI)), (7, (.data true tI))], [.var 22 (.data true (.arr 4 tI)), .var 22 (.data true (.arr 4 tI))], 0⟩)]⟩ Try.f106 i_differ_i i_differ_o x = i_differ n x.1 x.2 := by kernel_rfl
noncomputable def i_differ_e (n : Nat) : Ent := ⟨106, i_differ_i, i_differ_o, fun x => i_differ n x.1 x.2⟩
theorem i_differ_ok (n : Nat) : EntOK Try.prog (i_differ_e n) ∧ Own Try.prog 106 := ent_ok tabOK0 .nil Try.func106 rfl (by kernel_rfl) (i_differ_ev n)
def i_MeanDiffer_i : CSh := ⟨[(.data false (.sl (.arr 4 tI)))], []⟩
def i_MeanDiffer_o : RSh := ⟨(.tcons (.data true (.arr 2 tI)) (.tcons (.data true .bool) .tnil)), []⟩
theorem i_MeanDiffer_ev (n : Nat) (x : TupT i_MeanDiffer_i.tys) : evF ⟨tab, [i_IsHand_e n, i_differ_e n, i_choose_e n, i_fraction_e n], n, [(16, ⟨[(0, (.data false (.sl (.arr 4 tI)))), (2, (.ptr 0 [])), (4, (.data true tI)), (18, (.data false (.sl (.arr 4 tI)))), (19, (.data true tI)), (20, (.data true tI))], [.var 31 (.data true (.arr 2 tI))], 0⟩), (30, ⟨[(0, (.data false (.sl (.arr 4 tI)))), (2, (.ptr 0 [])), (4, (.data true tI)), (6, (.ptr 1 [])), (18, (.data false (.sl (.arr 4 tI)))), (19, (.data true tI)), (20, (.data true tI)), (27, (.data false (.sl (.arr 4 tI)))), (28, (.data true tI)), (29, (.data true tI))], [.var 31 (.data true (.arr 2 tI)), .var 22 (.data true (.arr 4 tI))], 0⟩)]⟩ Try.f25 i_MeanDiffer_i i_MeanDiffer_o x = i_MeanDiffer n x := by kernel_rfl
noncomputable def i_MeanDiffer_e (n : Nat) : Ent := ⟨25, i_MeanDiffer_i, i_MeanDiffer_o, fun x => i_MeanDiffer n x⟩
theorem i_MeanDiffer_ok (n : Nat) : EntOK Try.prog (i_MeanDiffer_e n) ∧ Own Try.prog 25 := ent_ok tabOK0 (.cons (i_IsHand_ok n) (.cons (i_differ_ok n) (.cons (i_choose_ok n) (.cons (i_fraction_ok n) .nil)))) Try.func25 rfl (by kernel_rfl) (i_MeanDiffer_ev n)
def s_l2Differ_i : CSh := ⟨[(.data true (.arr 4 tI)), (.data true (.arr 4 tI))], []⟩
def s_l2Differ_o : RSh := ⟨(.data true tI), []⟩
theorem s_l2Differ_ev (n : Nat) (x : TupT s_l2Differ_i.tys) : evF ⟨tab, [], n, [(8, ⟨[(2, (.ptr 0 [])), (3, (.ptr 1 [])), (5, (.data true tI)), (6, (.data true tI))], [.var 22 (.data true (.arr 4 tI)), .var 22 (.data true (.arr 4 tI))], 0⟩)]⟩ Try.f107 s_l2Differ_i s_l2Differ_o x = s_l2Differ n x.1 x.2 := by kernel_rfl
noncomputable def s_l2Differ_e (n : Nat) : Ent := ⟨107, s_l2Differ_i, s_l2Differ_o, fun x => s_l2Differ n x.1 x.2⟩
theorem s_l2Differ_ok (n : Nat) : EntOK Try.prog (s_l2Differ_e n) ∧ Own Try.prog 107 := ent_ok tabOK0 .nil Try.func107 rfl (by kernel_rfl) (s_l2Differ_ev n)
def s_MeanDiffer_i : CSh := ⟨[(.data false (.sl (.arr 4 tI)))], []⟩
def s_MeanDiffer_o : RSh := ⟨(.tcons (.data true (.arr 2 tI)) (.tcons (.data true .bool) .tnil)), []⟩
theorem s_MeanDiffer_ev (n : Nat) (x : TupT s_MeanDiffer_i.tys) : evF ⟨tab, [s_l2Hand_e n, s_l2Differ_e n, s_l9Choose_e n, s_l9Cut_e n], n, [(16, ⟨[(0, (.data false (.sl (.arr 4 tI)))), (2, (.ptr 0 [])), (4, (.data true tI)), (5, (.data true tI))], [.var 31 (.data true (.arr 2 tI))], 0⟩), (28, ⟨[(0, (.data false (.sl (.arr 4 tI)))), (2, (.ptr 0 [])), (4, (.data true tI)), (5, (.data true tI)), (6, (.data true tI))], [.var 31 (.data true (.arr 2 tI))], 0⟩)]⟩ Try.f26 s_MeanDiffer_i s_MeanDiffer_o x = s_MeanDiffer n x := by kernel_rfl
noncomputable def s_MeanDiffer_e (n : Nat) : Ent := ⟨26, s_MeanDiffer_i, s_MeanDiffer_o, fun x => s_MeanDiffer n x⟩
theorem s_MeanDiffer_ok (n : Nat) : EntOK Try.prog (s_MeanDiffer_e n) ∧ Own Try.prog 26 := ent_ok tabOK0 (.cons (s_l2Hand_ok n) (.cons (s_l2Differ_ok n) (.cons (s_l9Choose_ok n) (.cons (s_l9Cut_ok n) .nil)))) Try.func26 rfl (by kernel_rfl) (s_MeanDiffer_ev n)
def s_DrawChanceNoLine_i : CSh := ⟨[(.data false (.sl (.int .u8)))], []⟩
def s_DrawChanceNoLine_o : RSh := ⟨(.data true tI), []⟩
theorem s_DrawChanceNoLine_ev (n : Nat) (x : TupT s_DrawChanceNoLine_i.tys) : evF ⟨tab, [s_Cur_among'pl_e n], n, []⟩ Try.f27 s_DrawChanceNoLine_i s_DrawChanceNoLine_o x = s_DrawChanceNoLine n x := by kernel_rfl
noncomputable def s_DrawChanceNoLine_e (n : Nat) : Ent := ⟨27, s_DrawChanceNoLine_i, s_DrawChanceNoLine_o, fun x => s_DrawChanceNoLine n x⟩
theorem s_DrawChanceNoLine_ok (n : Nat) : EntOK Try.prog (s_DrawChanceNoLine_e n) ∧ Own Try.prog 27 := ent_ok tabOK0 (.cons (s_Cur_among'pl_ok n) .nil) Try.func27 rfl (by kernel_rfl) (s_DrawChanceNoLine_ev n)
def i_ChanceNoLine_i : CSh := ⟨[(.data true tI)], []⟩
def i_ChanceNoLine_o : RSh := ⟨(.tcons (.data true (.arr 2 tI)) (.tcons (.data true .bool) .tnil)), []⟩
theorem i_ChanceNoLine_ev (n : Nat) (x : TupT i_ChanceNoLine_i.tys) : evF ⟨tab, [i_within_e n, i_choose_e n, i_fraction_e n], n, []⟩ Try.f28 i_ChanceNoLine_i i_ChanceNoLine_o x = i_ChanceNoLine n x := by kernel_rfl
noncomputable def i_ChanceNoLine_e (n : Nat) : Ent := ⟨28, i_ChanceNoLine_i, i_ChanceNoLine_o, fun x => i_ChanceNoLine n x⟩
theorem i_ChanceNoLine_ok (n : Nat) : EntOK Try.prog (i_ChanceNoLine_e n) ∧ Own Try.prog 28 := ent_ok tabOK0 (.cons (i_within_ok n) (.cons (i_choose_ok n) (.cons (i_fraction_ok n) .nil))) Try.func28 rfl (by kernel_rfl) (i_ChanceNoLine_ev n)
def s_ChanceNoLine_i : CSh := ⟨[(.data true tI)], []⟩
def s_ChanceNoLine_o : RSh := ⟨(.tcons (.data true (.arr 2 tI)) (.tcons (.data true .bool) .tnil)), []⟩
theorem s_ChanceNoLine_ev (n : Nat) (x : TupT s_ChanceNoLine_i.tys) : evF ⟨tab, [s_l1In_e n, s_l9Cut_e n], n, []⟩ Try.f29 s_ChanceNoLine_i s_ChanceNoLine_o x = s_ChanceNoLine n x := by kernel_rfl
noncomputable def s_ChanceNoLine_e (n : Nat) : Ent := ⟨29, s_ChanceNoLine_i, s_ChanceNoLine_o, fun x => s_ChanceNoLine n x⟩
theorem s_ChanceNoLine_ok (n : Nat) : EntOK Try.prog (s_ChanceNoLine_e n) ∧ Own Try.prog 29 := ent_ok tabOK0 (.cons (s_l1In_ok n) (.cons (s_l9Cut_ok n) .nil)) Try.func29 rfl (by kernel_rfl) (s_ChanceNoLine_ev n)
def v_vLess_i : CSh := ⟨[(.data true (.arr 2 tI)), (.data true (.arr 2 tI))], []⟩
def v_vLess_o : RSh := ⟨(.data true .bool), []⟩
theorem v_vLess_ev (n : Nat) (x : TupT v_vLess_i.tys) : evF ⟨tab, [], n, []⟩ Try.f31 v_vLess_i v_vLess_o x = v_vLess n x.1 x.2 := by kernel_rfl
noncomputable def v_vLess_e (n : Nat) : Ent := ⟨31, v_vLess_i, v_vLess_o, fun x => v_vLess n x.1 x.2⟩
theorem v_vLess_ok (n : Nat) : EntOK Try.prog (v_vLess_e n) ∧ Own Try.prog 31 := ent_ok tabOK0 .nil Try.func31 rfl (by kernel_rfl) (v_vLess_ev n)
def i_CardAt_i : CSh := ⟨[(.data true tI)], []⟩
def i_CardAt_o : RSh := ⟨(.tcons (.data true (.arr 4 tI)) (.tcons (.data true .bool) .tnil)), []⟩
theorem i_CardAt_ev (n : Nat) (x : TupT i_CardAt_i.tys) : evF ⟨tab, [i_within_e n, i_card_e n], n, []⟩ Try.f33 i_CardAt_i i_CardAt_o x = i_CardAt n x := by kernel_rfl
noncomputable def i_CardAt_e (n : Nat) : Ent := ⟨33, i_CardAt_i, i_CardAt_o, fun x => i_CardAt n x⟩
theorem i_CardAt_ok (n : Nat) : EntOK Try.prog (i_CardAt_e n) ∧ Own Try.prog 33 := ent_ok tabOK0 (.cons (i_within_ok n) (.cons (i_card_ok n) .nil)) Try.func33 rfl (by kernel_rfl) (i_CardAt_ev n)
def i_LinesThrough_i : CSh := ⟨[(.data false (.sl (.arr 4 tI))), (.data true (.arr 4 tI))], []⟩
def i_LinesThrough_o : RSh := ⟨(.tcons (.data true tI) (.tcons (.data true .bool) .tnil)), []⟩
theorem i_LinesThrough_ev (n : Nat) (x : TupT i_LinesThrough_i.tys) : evF ⟨tab, [i_IsHand_e n, i_IsCard_e n, i_pairsFor_e n], n, []⟩ Try.f34 i_LinesThrough_i i_LinesThrough_o x = i_LinesThrough n x.1 x.2 := by kernel_rfl
noncomputable def i_LinesThrough_e (n : Nat) : Ent := ⟨34, i_LinesThrough_i, i_LinesThrough_o, fun x => i_LinesThrough n x.1 x.2⟩
theorem i_LinesThrough_ok (n : Nat) : EntOK Try.prog (i_LinesThrough_e n) ∧ Own Try.prog 34 := ent_ok tabOK0 (.cons (i_IsHand_ok n) (.cons (i_IsCard_ok n) (.cons (i_pairsFor_ok n) .nil))) Try.func34 rfl (by kernel_rfl) (i_LinesThrough_ev n)
def slices_Clone_SA4_A4__i : CSh := ⟨[(.data false (.sl (.arr 4 tI)))], []⟩
def slices_Clone_SA4_A4__o : RSh := ⟨(.own 0), [.rows 22 true (.arr 4 tI)]⟩
theorem slices_Clone_SA4_A4__ev (n : Nat) (x : TupT slices_Clone_SA4_A4__i.tys) : evF ⟨tab, [], n, []⟩ Try.f168 slices_Clone_SA4_A4__i slices_Clone_SA4_A4__o x = slices_Clone_SA4_A4_ n x := by kernel_rfl
noncomputable def slices_Clone_SA4_A4__e (n : Nat) : Ent := ⟨168, slices_Clone_SA4_A4__i, slices_Clone_SA4_A4__o, fun x => slices_Clone_SA4_A4_ n x⟩
theorem slices_Clone_SA4_A4__ok (n : Nat) : EntOK Try.prog (slices_Clone_SA4_A4__e n) ∧ Own Try.prog 168 := ent_ok tabOK0 .nil Try.func168 rfl (by kernel_rfl) (slices_Clone_SA4_A4__ev n)
def i_without_1'p_i : CSh := ⟨[(.data true (.arr 4 tI)), (.ptr 0 [])], [.var 22 (.data true (.arr 4 tI))]⟩
def i_without_1'p_o : RSh := ⟨(.data true .bool), [.var 22 (.data true (.arr 4 tI))]⟩
theorem i_without_1'p_ev (n : Nat) (x : TupT i_without_1'p_i.tys) : evF ⟨tab, [], n, []⟩ Try.f169 i_without_1'p_i i_without_1'p_o x = i_without_1'p n x.1 x.2 := by kernel_rfl
noncomputable def i_without_1'p_e (n : Nat) : Ent := ⟨169, i_without_1'p_i, i_without_1'p_o, fun x => i_without_1'p n x.1 x.2⟩
theorem i_without_1'p_ok (n : Nat) : EntOK Try.prog (i_without_1'p_e n) ∧ Own Try.prog 169 := ent_ok tabOK0 .nil Try.func169 rfl (by kernel_rfl) (i_without_1'p_ev n)
def slices_IndexFunc_SA4_A4_'l_i_without_1p_i : CSh := ⟨[(.data false (.sl (.arr 4 tI))), (.clo 169 (.tcons (.ptr 0 []) .tnil))], [.var 22 (.data true (.arr 4 tI))]⟩
def slices_IndexFunc_SA4_A4_'l_i_without_1p_o : RSh := ⟨(.data true tI), [.var 22 (.data true (.arr 4 tI))]⟩
theorem slices_IndexFunc_SA4_A4_'l_i_without_1p_ev (n : Nat) (x : TupT slices_IndexFunc_SA4_A4_'l_i_without_1p_i.tys) : evF ⟨tab, [i_without_1'p_e n], n, [(6, ⟨[(0, (.data false (.sl (.arr 4 tI)))), (1, (.clo 169 (.tcons (.ptr 0 []) .tnil))), (7, (.data true tI)), (8, (.data true tI))], [.var 22 (.data true (.arr 4 tI))], 1⟩)]⟩ Try.f208 slices_IndexFunc_SA4_A4_'l_i_without_1p_i slices_IndexFunc_SA4_A4_'l_i_without_1p_o x = slices_IndexFunc_SA4_A4_'l_i_without_1p n x.1 x.2 := by kernel_rfl
noncomputable def slices_IndexFunc_SA4_A4_'l_i_without_1p_e (n : Nat) : Ent := ⟨208, slices_IndexFunc_SA4_A4_'l_i_without_1p_i, slices_IndexFunc_SA4_A4_'l_i_without_1p_o, fun x => slices_IndexFunc_SA4_A4_'l_i_without_1p n x.1 x.2⟩
theorem slices_IndexFunc_SA4_A4_'l_i_without_1p_ok (n : Nat) : EntOK Try.prog (slices_IndexFunc_SA4_A4_'l_i_without_1p_e n) ∧ Own Try.prog 208 := ent_ok tabOK0 (.cons (i_without_1'p_ok n) .nil) Try.func208 rfl (by kernel_rfl) (slices_IndexFunc_SA4_A4_'l_i_without_1p_ev n)
def slices_DeleteFunc_SA4_A4_'o_i_without_1p_i : CSh := ⟨[(.own 0), (.clo 169 (.tcons (.ptr 1 []) .tnil))], [.rows 22 true (.arr 4 tI), .var 22 (.data true (.arr 4 tI))]⟩
def slices_DeleteFunc_SA4_A4_'o_i_without_1p_o : RSh := ⟨(.own 2), [.gone, .var 22 (.data true (.arr 4 tI)), .rows 22 true (.arr 4 tI)]⟩
theorem slices_DeleteFunc_SA4_A4_'o_i_without_1p_ev (n : Nat) (x : TupT slices_DeleteFunc_SA4_A4_'o_i_without_1p_i.tys) : evF ⟨tab, [slices_IndexFunc_SA4_A4_'l_i_without_1p_e n, i_without_1'p_e n], n, [(16, ⟨[(0, (.own 0)), (1, (.clo 169 (.tcons (.ptr 1 []) .tnil))), (5, (.data true tI)), (6, (.data true tI))], [.rows 22 true (.arr 4 tI), .var 22 (.data true (.arr 4 tI))], 2⟩)]⟩ Try.f167 slices_DeleteFunc_SA4_A4_'o_i_without_1p_i slices_DeleteFunc_SA4_A4_'o_i_without_1p_o x = slices_DeleteFunc_SA4_A4_'o_i_without_1p n x.1 x.2 := by kernel_rfl
noncomputable def slices_DeleteFunc_SA4_A4_'o_i_without_1p_e (n : Nat) : Ent := ⟨167, slices_DeleteFunc_SA4_A4_'o_i_without_1p_i, slices_DeleteFunc_SA4_A4_'o_i_without_1p_o, fun x => slices_DeleteFunc_SA4_A4_'o_i_without_1p n x.1 x.2⟩
theorem slices_DeleteFunc_SA4_A4_'o_i_without_1p_ok (n : Nat) : EntOK Try.prog (slices_DeleteFunc_SA4_A4_'o_i_without_1p_e n) ∧ Own Try.prog 167 := ent_ok tabOK0 (.cons (slices_IndexFunc_SA4_A4_'l_i_without_1p_ok n) (.cons (i_without_1'p_ok n) .nil)) Try.func167 rfl (by kernel_rfl) (slices_DeleteFunc_SA4_A4_'o_i_without_1p_ev n)
def i_without_i : CSh := ⟨[(.data false (.sl (.arr 4 tI))), (.data true (.arr 4 tI))], []⟩
def i_without_o : RSh := ⟨(.own 0), [.rows 22 true (.arr 4 tI)]⟩
theorem i_without_ev (n : Nat) (x : TupT i_without_i.tys) : evF ⟨tab, [slices_Clone_SA4_A4__e n, slices_DeleteFunc_SA4_A4_'o_i_without_1p_e n], n, []⟩ Try.f108 i_without_i i_without_o x = i_without n x.1 x.2 := by kernel_rfl
noncomputable def i_without_e (n : Nat) : Ent := ⟨108, i_without_i, i_without_o, fun x => i_without n x.1 x.2⟩
theorem i_without_ok (n : Nat) : EntOK Try.prog (i_without_e n) ∧ Own Try.prog 108 := ent_ok tabOK0 (.cons (slices_Clone_SA4_A4__ok n) (.cons (slices_DeleteFunc_SA4_A4_'o_i_without_1p_ok n) .nil)) Try.func108 rfl (by kernel_rfl) (i_without_ev n)
def i_DropCard_i : CSh := ⟨[(.data false (.sl (.arr 4 tI))), (.data true (.arr 4 tI))], []⟩
def i_DropCard_o : RSh := ⟨(.tcons (.own 0) (.tcons (.data true .bool) .tnil)), [.rows 22 true (.arr 4 tI)]⟩
theorem i_DropCard_ev (n : Nat) (x : TupT i_DropCard_i.tys) : evF ⟨tab, [i_IsHand_e n, i_has_e n, i_without_e n], n, []⟩ Try.f35 i_DropCard_i i_DropCard_o x = i_DropCard n x.1 x.2 := by kernel_rfl
noncomputable def i_DropCard_e (n : Nat) : Ent := ⟨35, i_DropCard_i, i_DropCard_o, fun x => i_DropCard n x.1 x.2⟩
theorem i_DropCard_ok (n : Nat) : EntOK Try.prog (i_DropCard_e n) ∧ Own Try.prog 35 := ent_ok tabOK0 (.cons (i_IsHand_ok n) (.cons (i_has_ok n) (.cons (i_without_ok n) .nil))) Try.func35 rfl (by kernel_rfl) (i_DropCard_ev n)
def i_LinesIn_i : CSh := ⟨[(.data false (.sl (.arr 4 tI)))], []⟩
def i_LinesIn_o : RSh := ⟨(.tcons (.own 0) (.tcons (.data true .bool) .tnil)), [.rows 58 true (.arr 3 tI)]⟩
theorem i_LinesIn_ev (n : Nat) (x : TupT i_LinesIn_i.tys) : evF ⟨tab, [i_IsHand_e n, i_linesIn_e n], n, []⟩ Try.f30 i_LinesIn_i i_LinesIn_o x = i_LinesIn n x := by kernel_rfl
noncomputable def i_LinesIn_e (n : Nat) : Ent := ⟨30, i_LinesIn_i, i_LinesIn_o, fun x => i_LinesIn n x⟩
theorem i_LinesIn_ok (n : Nat) : EntOK Try.prog (i_LinesIn_e n) ∧ Own Try.prog 30 := ent_ok tabOK0 (.cons (i_IsHand_ok n) (.cons (i_linesIn_ok n) .nil)) Try.func30 rfl (by kernel_rfl) (i_LinesIn_ev n)
def i_OpenPairs_i : CSh := ⟨[(.data false (.sl (.arr 4 tI)))], []⟩
def i_OpenPairs_o : RSh := ⟨(.tcons (.data true tI) (.tcons (.data true .bool) .tnil)), []⟩
theorem i_OpenPairs_ev (n : Nat) (x : TupT i_OpenPairs_i.tys) : evF ⟨tab, [i_IsHand_e n, i_linesIn_e n], n, []⟩ Try.f32 i_OpenPairs_i i_OpenPairs_o x = i_OpenPairs n x := by kernel_rfl
noncomputable def i_OpenPairs_e (n : Nat) : Ent := ⟨32, i_OpenPairs_i, i_OpenPairs_o, fun x => i_OpenPairs n x⟩
theorem i_OpenPairs_ok (n : Nat) : EntOK Try.prog (i_OpenPairs_e n) ∧ Own Try.prog 32 := ent_ok tabOK0 (.cons (i_IsHand_ok n) (.cons (i_linesIn_ok n) .nil)) Try.func32 rfl (by kernel_rfl) (i_OpenPairs_ev n)
def v_FnMeans_i : CSh := ⟨[(.data false (.sl (.int .u8)))], []⟩
def v_FnMeans_o : RSh := ⟨(.data true .bool), []⟩
theorem v_FnMeans_ev (n : Nat) (x : TupT v_FnMeans_i.tys) : evF ⟨tab, [v_vBig_e n, s_DrawMeanLines_e n, i_MeanLines_e n, s_MeanLines_e n, v_vCut_e n, s_DrawMeanAfter_e n, i_MeanAfter_e n, s_MeanAfter_e n, s_DrawBestThird_e n, i_BestThird_e n, s_BestThird_e n, i_MeanDiffer_e n, s_MeanDiffer_e n, s_DrawChanceNoLine_e n, i_ChanceNoLine_e n, s_ChanceNoLine_e n, v_vLess_e n, i_CardAt_e n, i_LinesThrough_e n, i_DropCard_e n, i_LinesIn_e n, i_OpenPairs_e n], n, [(54, ⟨[(14, (.own 0)), (15, (.data true tI)), (16, (.data true tI)), (17, (.data true .bool)), (21, (.ptr 1 [])), (22, (.data true .bool)), (26, (.ptr 2 [])), (27, (.data true .bool))], [.rows 22 true (.arr 4 tI), .var 31 (.data true (.arr 2 tI)), .var 31 (.data true (.arr 2 tI))], 0⟩), (82, ⟨[(21, (.ptr 0 [])), (22, (.data true .bool)), (26, (.ptr 1 [])), (27, (.data true .bool))], [.var 31 (.data true (.arr 2 tI)), .var 31 (.data true (.arr 2 tI))], 0⟩), (103, ⟨[(14, (.own 0)), (15, (.data true tI)), (16, (.data true tI)), (21, (.ptr 1 [])), (22, (.data true .bool)), (26, (.ptr 2 [])), (27, (.data true .bool)), (40, (.data true tI))], [.rows 22 true (.arr 4 tI), .var 31 (.data true (.arr 2 tI)), .var 31 (.data true (.arr 2 tI))], 0⟩)]⟩ Try.f4 v_FnMeans_i v_FnMeans_o x = v_FnMeans n x := by kernel_rfl
noncomputable def v_FnMeans_e (n : Nat) : Ent := ⟨4, v_FnMeans_i, v_FnMeans_o, fun x => v_FnMeans n x⟩
theorem v_FnMeans_ok (n : Nat) : EntOK Try.prog (v_FnMeans_e n) ∧ Own Try.prog 4 := ent_ok tabOK0 (.cons (v_vBig_ok n) (.cons (s_DrawMeanLines_ok n) (.cons (i_MeanLines_ok n) (.cons (s_MeanLines_ok n) (.cons (v_vCut_ok n) (.cons (s_DrawMeanAfter_ok n) (.cons (i_MeanAfter_ok n) (.cons (s_MeanAfter_ok n) (.cons (s_DrawBestThird_ok n) (.cons (i_BestThird_ok n) (.cons (s_BestThird_ok n) (.cons (i_MeanDiffer_ok n) (.cons (s_MeanDiffer_ok n) (.cons (s_DrawChanceNoLine_ok n) (.cons (i_ChanceNoLine_ok n) (.cons (s_ChanceNoLine_ok n) (.cons (v_vLess_ok n) (.cons (i_CardAt_ok n) (.cons (i_LinesThrough_ok n) (.cons (i_DropCard_ok n) (.cons (i_LinesIn_ok n) (.cons (i_OpenPairs_ok n) .nil)))))))))))))))))))))) Try.func4 rfl (by kernel_rfl) (v_FnMeans_ev n)
end Go.Proofs.Ytmojhlpphinobaa
