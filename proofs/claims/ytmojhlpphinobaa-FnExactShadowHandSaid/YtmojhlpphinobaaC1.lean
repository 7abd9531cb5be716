/- Printed by a program of the session: the contracts of the seat's functions. -/
import Derived.Test.YtmojhlpphinobaaZ7
import Derived.Test.YtmojhlpphinobaaPL
import Derived.Test.YtmojhlpphinobaaRows
import Derived.KernelRfl
namespace Go.Proofs.Ytmojhlpphinobaa
open Go Go.Tv Go.Pl Go.RowKit
set_option linter.unusedVariables false
abbrev tI : Ty := .int .i64
def tab : Tab := ⟨[(2, ⟨tI, 0, 8⟩), (3, ⟨tI, 0, 8⟩), (4, ⟨.bool, 0, 1⟩), (5, ⟨(.int .u8), 0, 1⟩), (6, ⟨(.int .u8), 0, 1⟩), (7, ⟨(.pair tI (.pair tI (.pair .bool (.int .u8)))), 4, 24⟩), (8, ⟨(.pair tI (.pair tI (.pair .bool (.int .u8)))), 4, 24⟩), (9, ⟨.str, 0, 16⟩), (10, ⟨.str, 0, 16⟩), (11, ⟨.str, 0, 16⟩), (12, ⟨(.int .u64), 0, 8⟩), (13, ⟨(.pair .str (.int .u64)), 2, 24⟩), (14, ⟨(.pair .str (.int .u64)), 2, 24⟩), (21, ⟨(.int .i32), 0, 4⟩), (22, ⟨(.arr 4 tI), 3, 8⟩), (28, ⟨(.sl (.int .u8)), 5, 1⟩), (31, ⟨(.arr 2 tI), 3, 8⟩), (34, ⟨(.sl (.arr 4 tI)), 22, 32⟩), (43, ⟨(.sl (.arr 3 tI)), 58, 24⟩), (57, ⟨(.arr 81 .bool), 4, 1⟩), (58, ⟨(.arr 3 tI), 3, 8⟩), (61, ⟨(.pair tI (.pair tI (.sl (.arr 4 tI)))), 3, 40⟩), (62, ⟨(.pair tI (.pair tI (.sl (.arr 4 tI)))), 3, 40⟩), (63, ⟨(.sl tI), 3, 8⟩), (64, ⟨(.pair (.pair tI (.pair tI (.sl (.arr 4 tI)))) (.pair (.sl tI) (.sl tI))), 3, 88⟩), (65, ⟨(.pair (.pair tI (.pair tI (.sl (.arr 4 tI)))) (.pair (.sl tI) (.sl tI))), 3, 88⟩), (66, ⟨(.sl (.pair tI (.arr 3 tI))), 80, 32⟩), (70, ⟨(.pair tI (.pair tI (.sl (.arr 4 tI)))), 3, 40⟩), (71, ⟨(.pair (.pair tI (.pair tI (.sl (.arr 4 tI)))) (.pair (.sl tI) (.sl tI))), 3, 88⟩), (72, ⟨(.pair (.pair tI (.pair tI (.sl (.arr 4 tI)))) (.pair (.sl tI) (.sl tI))), 3, 88⟩), (74, ⟨(.sl (.pair tI (.arr 3 tI))), 83, 32⟩), (79, ⟨(.pair tI (.arr 3 tI)), 2, 32⟩), (80, ⟨(.pair tI (.arr 3 tI)), 2, 32⟩), (83, ⟨(.pair tI (.arr 3 tI)), 2, 32⟩), (101, ⟨(.int .u64), 0, 8⟩), (102, ⟨(.pair (.sl (.int .u8)) (.pair tI (.int .u64))), 3, 40⟩), (103, ⟨(.pair (.sl (.int .u8)) (.pair tI (.int .u64))), 3, 40⟩), (114, ⟨(.sl (.arr 2 tI)), 31, 16⟩), (153, ⟨(.arr 81 tI), 3, 8⟩), (157, ⟨(.int .u64), 0, 8⟩), (180, ⟨tI, 0, 8⟩), (187, ⟨(.int .u32), 0, 4⟩), (196, ⟨(.int .u64), 0, 8⟩), (202, ⟨(.sl (.sl (.arr 4 tI))), 34, 24⟩), (221, ⟨(.int .u8), 0, 1⟩), (222, ⟨(.int .u8), 0, 1⟩), (225, ⟨(.int .i32), 0, 4⟩), (226, ⟨(.int .i32), 0, 4⟩)], [7, 8, 22, 31, 57, 58, 79, 80, 83, 153], [1, 24, 25, 26, 27, 29, 30, 33, 36, 37, 38, 39, 41, 42, 45, 46, 48, 50, 51, 53, 54, 55, 56, 60, 67, 68, 69, 73, 75, 76, 77, 78, 82, 84, 85, 86, 87, 88, 89, 90, 91, 93, 94, 96, 97, 99, 104, 105, 106, 107, 108, 109, 110, 111, 112, 113, 115, 116, 117, 118, 119, 120, 121, 122, 123, 124, 125, 126, 127, 128, 129, 130, 132, 133, 134, 135, 136, 137, 138, 139, 140, 141, 142, 143, 144, 145, 146, 147, 148, 149, 150, 151, 152, 154, 155, 156, 158, 159, 160, 161, 162, 163, 165, 166, 167, 168, 169, 170, 171, 172, 173, 174, 175, 176, 177, 178, 179, 182, 183, 184, 185, 186, 188, 189, 190, 191, 192, 193, 194, 195, 197, 198, 199, 201, 203, 204, 205, 206, 207, 208, 211, 212, 213, 214, 215, 223]⟩
theorem tabOK0 : TabOK Try.prog tab := ⟨by kernel_rfl, by kernel_rfl⟩
def v_szIntA4S_i : CSh := ⟨[(.data false (.sl (.arr 4 tI))), (.data true tI)], []⟩
def v_szIntA4S_o : RSh := ⟨(.data true tI), []⟩
theorem v_szIntA4S_ev (n : Nat) (x : TupT v_szIntA4S_i.tys) : evF ⟨tab, [], n, []⟩ Try.f54 v_szIntA4S_i v_szIntA4S_o x = v_szIntA4S n x.1 x.2 := by kernel_rfl
noncomputable def v_szIntA4S_e (n : Nat) : Ent := ⟨54, v_szIntA4S_i, v_szIntA4S_o, fun x => v_szIntA4S n x.1 x.2⟩
theorem v_szIntA4S_ok (n : Nat) : EntOK Try.prog (v_szIntA4S_e n) ∧ Own Try.prog 54 := ent_ok tabOK0 .nil Try.func54 rfl (by kernel_rfl) (v_szIntA4S_ev n)
def v_toIntA4_i : CSh := ⟨[(.data true (.arr 4 tI))], []⟩
def v_toIntA4_o : RSh := ⟨(.data true (.arr 4 tI)), []⟩
theorem v_toIntA4_ev (n : Nat) (x : TupT v_toIntA4_i.tys) : evF ⟨tab, [], n, [(8, ⟨[(1, (.ptr 0 [])), (2, (.ptr 1 [])), (3, (.ptr 2 [])), (4, (.data true tI))], [.var 22 (.data true (.arr 4 tI)), .var 22 (.data true (.arr 4 tI)), .var 22 (.data true (.arr 4 tI))], 0⟩)]⟩ Try.f11 v_toIntA4_i v_toIntA4_o x = v_toIntA4 n x := by kernel_rfl
noncomputable def v_toIntA4_e (n : Nat) : Ent := ⟨11, v_toIntA4_i, v_toIntA4_o, fun x => v_toIntA4 n x⟩
theorem v_toIntA4_ok (n : Nat) : EntOK Try.prog (v_toIntA4_e n) ∧ Own Try.prog 11 := ent_ok tabOK0 .nil Try.func11 rfl (by kernel_rfl) (v_toIntA4_ev n)
def v_toIntA4S_i : CSh := ⟨[(.data false (.sl (.arr 4 tI)))], []⟩
def v_toIntA4S_o : RSh := ⟨(.own 0), [.rows 22 true (.arr 4 tI)]⟩
theorem v_toIntA4S_ev (n : Nat) (x : TupT v_toIntA4S_i.tys) : evF ⟨tab, [v_toIntA4_e n], n, [(8, ⟨[(0, (.data false (.sl (.arr 4 tI)))), (3, (.own 0)), (4, (.data true tI))], [.rows 22 true (.arr 4 tI)], 0⟩)]⟩ Try.f56 v_toIntA4S_i v_toIntA4S_o x = v_toIntA4S n x := by kernel_rfl
noncomputable def v_toIntA4S_e (n : Nat) : Ent := ⟨56, v_toIntA4S_i, v_toIntA4S_o, fun x => v_toIntA4S n x⟩
theorem v_toIntA4S_ok (n : Nat) : EntOK Try.prog (v_toIntA4S_e n) ∧ Own Try.prog 56 := ent_ok tabOK0 (.cons (v_toIntA4_ok n) .nil) Try.func56 rfl (by kernel_rfl) (v_toIntA4S_ev n)
def s_l1In_i : CSh := ⟨[(.data true tI), (.data true tI), (.data true tI)], []⟩
def s_l1In_o : RSh := ⟨(.data true .bool), []⟩
theorem s_l1In_ev (n : Nat) (x : TupT s_l1In_i.tys) : evF ⟨tab, [], n, []⟩ Try.f89 s_l1In_i s_l1In_o x = s_l1In n x.1 x.2.1 x.2.2 := by kernel_rfl
noncomputable def s_l1In_e (n : Nat) : Ent := ⟨89, s_l1In_i, s_l1In_o, fun x => s_l1In n x.1 x.2.1 x.2.2⟩
theorem s_l1In_ok (n : Nat) : EntOK Try.prog (s_l1In_e n) ∧ Own Try.prog 89 := ent_ok tabOK0 .nil Try.func89 rfl (by kernel_rfl) (s_l1In_ev n)
def s_l2Card_i : CSh := ⟨[(.data true (.arr 4 tI))], []⟩
def s_l2Card_o : RSh := ⟨(.data true .bool), []⟩
theorem s_l2Card_ev (n : Nat) (x : TupT s_l2Card_i.tys) : evF ⟨tab, [s_l1In_e n], n, [(6, ⟨[(1, (.ptr 0 [])), (3, (.data true tI))], [.var 22 (.data true (.arr 4 tI))], 0⟩)]⟩ Try.f80 s_l2Card_i s_l2Card_o x = s_l2Card n x := by kernel_rfl
noncomputable def s_l2Card_e (n : Nat) : Ent := ⟨80, s_l2Card_i, s_l2Card_o, fun x => s_l2Card n x⟩
theorem s_l2Card_ok (n : Nat) : EntOK Try.prog (s_l2Card_e n) ∧ Own Try.prog 80 := ent_ok tabOK0 (.cons (s_l1In_ok n) .nil) Try.func80 rfl (by kernel_rfl) (s_l2Card_ev n)
def s_l2Number_i : CSh := ⟨[(.data true (.arr 4 tI))], []⟩
def s_l2Number_o : RSh := ⟨(.data true tI), []⟩
theorem s_l2Number_ev (n : Nat) (x : TupT s_l2Number_i.tys) : evF ⟨tab, [], n, []⟩ Try.f105 s_l2Number_i s_l2Number_o x = s_l2Number n x := by kernel_rfl
noncomputable def s_l2Number_e (n : Nat) : Ent := ⟨105, s_l2Number_i, s_l2Number_o, fun x => s_l2Number n x⟩
theorem s_l2Number_ok (n : Nat) : EntOK Try.prog (s_l2Number_e n) ∧ Own Try.prog 105 := ent_ok tabOK0 .nil Try.func105 rfl (by kernel_rfl) (s_l2Number_ev n)
def s_l2Less_i : CSh := ⟨[(.data true (.arr 4 tI)), (.data true (.arr 4 tI))], []⟩
def s_l2Less_o : RSh := ⟨(.data true .bool), []⟩
theorem s_l2Less_ev (n : Nat) (x : TupT s_l2Less_i.tys) : evF ⟨tab, [s_l2Number_e n], n, []⟩ Try.f164 s_l2Less_i s_l2Less_o x = s_l2Less n x.1 x.2 := by kernel_rfl
noncomputable def s_l2Less_e (n : Nat) : Ent := ⟨164, s_l2Less_i, s_l2Less_o, fun x => s_l2Less n x.1 x.2⟩
theorem s_l2Less_ok (n : Nat) : EntOK Try.prog (s_l2Less_e n) ∧ Own Try.prog 164 := ent_ok tabOK0 (.cons (s_l2Number_ok n) .nil) Try.func164 rfl (by kernel_rfl) (s_l2Less_ev n)
def s_l2Hand_i : CSh := ⟨[(.data false (.sl (.arr 4 tI)))], []⟩
def s_l2Hand_o : RSh := ⟨(.data true .bool), []⟩
theorem s_l2Hand_ev (n : Nat) (x : TupT s_l2Hand_i.tys) : evF ⟨tab, [s_l2Card_e n, s_l2Less_e n], n, [(6, ⟨[(0, (.data false (.sl (.arr 4 tI)))), (3, (.data true tI))], [], 0⟩)]⟩ Try.f99 s_l2Hand_i s_l2Hand_o x = s_l2Hand n x := by kernel_rfl
noncomputable def s_l2Hand_e (n : Nat) : Ent := ⟨99, s_l2Hand_i, s_l2Hand_o, fun x => s_l2Hand n x⟩
theorem s_l2Hand_ok (n : Nat) : EntOK Try.prog (s_l2Hand_e n) ∧ Own Try.prog 99 := ent_ok tabOK0 (.cons (s_l2Card_ok n) (.cons (s_l2Less_ok n) .nil)) Try.func99 rfl (by kernel_rfl) (s_l2Hand_ev n)
def s_l11Mask_i : CSh := ⟨[(.data true tI)], []⟩
def s_l11Mask_o : RSh := ⟨(.data true .bool), []⟩
theorem s_l11Mask_ev (n : Nat) (x : TupT s_l11Mask_i.tys) : evF ⟨tab, [s_l1In_e n], n, []⟩ Try.f140 s_l11Mask_i s_l11Mask_o x = s_l11Mask n x := by kernel_rfl
noncomputable def s_l11Mask_e (n : Nat) : Ent := ⟨140, s_l11Mask_i, s_l11Mask_o, fun x => s_l11Mask n x⟩
theorem s_l11Mask_ok (n : Nat) : EntOK Try.prog (s_l11Mask_e n) ∧ Own Try.prog 140 := ent_ok tabOK0 (.cons (s_l1In_ok n) .nil) Try.func140 rfl (by kernel_rfl) (s_l11Mask_ev n)
def s_l11Shadow_i : CSh := ⟨[(.data true (.arr 4 tI)), (.data true tI)], []⟩
def s_l11Shadow_o : RSh := ⟨(.data true (.arr 4 tI)), []⟩
theorem s_l11Shadow_ev (n : Nat) (x : TupT s_l11Shadow_i.tys) : evF ⟨tab, [], n, [(6, ⟨[(1, (.data true tI)), (2, (.ptr 0 [])), (4, (.ptr 1 [])), (5, (.data true tI))], [.var 22 (.data true (.arr 4 tI)), .var 22 (.data true (.arr 4 tI))], 0⟩)]⟩ Try.f188 s_l11Shadow_i s_l11Shadow_o x = s_l11Shadow n x.1 x.2 := by kernel_rfl
noncomputable def s_l11Shadow_e (n : Nat) : Ent := ⟨188, s_l11Shadow_i, s_l11Shadow_o, fun x => s_l11Shadow n x.1 x.2⟩
theorem s_l11Shadow_ok (n : Nat) : EntOK Try.prog (s_l11Shadow_e n) ∧ Own Try.prog 188 := ent_ok tabOK0 .nil Try.func188 rfl (by kernel_rfl) (s_l11Shadow_ev n)
def s_l11All_i : CSh := ⟨[(.data false (.sl (.arr 4 tI))), (.data true tI)], []⟩
def s_l11All_o : RSh := ⟨(.own 0), [.rows 22 true (.arr 4 tI)]⟩
theorem s_l11All_ev (n : Nat) (x : TupT s_l11All_i.tys) : evF ⟨tab, [s_l11Shadow_e n], n, [(8, ⟨[(0, (.data false (.sl (.arr 4 tI)))), (1, (.data true tI)), (5, (.own 0)), (6, (.data true tI))], [.rows 22 true (.arr 4 tI)], 0⟩)]⟩ Try.f142 s_l11All_i s_l11All_o x = s_l11All n x.1 x.2 := by kernel_rfl
noncomputable def s_l11All_e (n : Nat) : Ent := ⟨142, s_l11All_i, s_l11All_o, fun x => s_l11All n x.1 x.2⟩
theorem s_l11All_ok (n : Nat) : EntOK Try.prog (s_l11All_e n) ∧ Own Try.prog 142 := ent_ok tabOK0 (.cons (s_l11Shadow_ok n) .nil) Try.func142 rfl (by kernel_rfl) (s_l11All_ev n)
def s_l2Own_i : CSh := ⟨[(.data false (.sl (.arr 4 tI)))], []⟩
def s_l2Own_o : RSh := ⟨(.own 0), [.rows 22 true (.arr 4 tI)]⟩
theorem s_l2Own_ev (n : Nat) (x : TupT s_l2Own_i.tys) : evF ⟨tab, [], n, []⟩ Try.f194 s_l2Own_i s_l2Own_o x = s_l2Own n x := by kernel_rfl
noncomputable def s_l2Own_e (n : Nat) : Ent := ⟨194, s_l2Own_i, s_l2Own_o, fun x => s_l2Own n x⟩
theorem s_l2Own_ok (n : Nat) : EntOK Try.prog (s_l2Own_e n) ∧ Own Try.prog 194 := ent_ok tabOK0 .nil Try.func194 rfl (by kernel_rfl) (s_l2Own_ev n)
def s_l2Put_i : CSh := ⟨[(.data false (.sl (.arr 4 tI))), (.data true (.arr 4 tI))], []⟩
def s_l2Put_o : RSh := ⟨(.own 0), [.rows 22 true (.arr 4 tI)]⟩
theorem s_l2Put_ev (n : Nat) (x : TupT s_l2Put_i.tys) : evF ⟨tab, [s_l2Less_e n, s_l2Own_e n], n, [(6, ⟨[(0, (.data false (.sl (.arr 4 tI)))), (3, (.ptr 0 [])), (5, (.data true tI))], [.var 22 (.data true (.arr 4 tI))], 0⟩)]⟩ Try.f162 s_l2Put_i s_l2Put_o x = s_l2Put n x.1 x.2 := by kernel_rfl
noncomputable def s_l2Put_e (n : Nat) : Ent := ⟨162, s_l2Put_i, s_l2Put_o, fun x => s_l2Put n x.1 x.2⟩
theorem s_l2Put_ok (n : Nat) : EntOK Try.prog (s_l2Put_e n) ∧ Own Try.prog 162 := ent_ok tabOK0 (.cons (s_l2Less_ok n) (.cons (s_l2Own_ok n) .nil)) Try.func162 rfl (by kernel_rfl) (s_l2Put_ev n)
def s_l2Sorted_i : CSh := ⟨[(.data false (.sl (.arr 4 tI)))], []⟩
def s_l2Sorted_o : RSh := ⟨(.own 0), [.rows 22 true (.arr 4 tI)]⟩
theorem s_l2Sorted_ev (n : Nat) (x : TupT s_l2Sorted_i.tys) : evF ⟨tab, [s_l2Put_e n], n, [(8, ⟨[(0, (.data false (.sl (.arr 4 tI)))), (3, (.own 0)), (4, (.data true tI))], [.rows 22 true (.arr 4 tI)], 0⟩)]⟩ Try.f141 s_l2Sorted_i s_l2Sorted_o x = s_l2Sorted n x := by kernel_rfl
noncomputable def s_l2Sorted_e (n : Nat) : Ent := ⟨141, s_l2Sorted_i, s_l2Sorted_o, fun x => s_l2Sorted n x⟩
theorem s_l2Sorted_ok (n : Nat) : EntOK Try.prog (s_l2Sorted_e n) ∧ Own Try.prog 141 := ent_ok tabOK0 (.cons (s_l2Put_ok n) .nil) Try.func141 rfl (by kernel_rfl) (s_l2Sorted_ev n)
def s_ShadowHand_i : CSh := ⟨[(.data false (.sl (.arr 4 tI))), (.data true tI)], []⟩
def s_ShadowHand_o : RSh := ⟨(.tcons (.own 0) (.tcons (.data true .bool) .tnil)), [.rows 22 true (.arr 4 tI)]⟩
theorem s_ShadowHand_ev (n : Nat) (x : TupT s_ShadowHand_i.tys) : evF ⟨tab, [s_l2Hand_e n, s_l11Mask_e n, s_l11All_e n, s_l2Sorted_e n], n, []⟩ Try.f55 s_ShadowHand_i s_ShadowHand_o x = s_ShadowHand n x.1 x.2 := by kernel_rfl
noncomputable def s_ShadowHand_e (n : Nat) : Ent := ⟨55, s_ShadowHand_i, s_ShadowHand_o, fun x => s_ShadowHand n x.1 x.2⟩
theorem s_ShadowHand_ok (n : Nat) : EntOK Try.prog (s_ShadowHand_e n) ∧ Own Try.prog 55 := ent_ok tabOK0 (.cons (s_l2Hand_ok n) (.cons (s_l11Mask_ok n) (.cons (s_l11All_ok n) (.cons (s_l2Sorted_ok n) .nil)))) Try.func55 rfl (by kernel_rfl) (s_ShadowHand_ev n)
def i_within_i : CSh := ⟨[(.data true tI), (.data true tI), (.data true tI)], []⟩
def i_within_o : RSh := ⟨(.data true .bool), []⟩
theorem i_within_ev (n : Nat) (x : TupT i_within_i.tys) : evF ⟨tab, [], n, []⟩ Try.f86 i_within_i i_within_o x = i_within n x.1 x.2.1 x.2.2 := by kernel_rfl
noncomputable def i_within_e (n : Nat) : Ent := ⟨86, i_within_i, i_within_o, fun x => i_within n x.1 x.2.1 x.2.2⟩
theorem i_within_ok (n : Nat) : EntOK Try.prog (i_within_e n) ∧ Own Try.prog 86 := ent_ok tabOK0 .nil Try.func86 rfl (by kernel_rfl) (i_within_ev n)
def i_allWithin_1'pp_i : CSh := ⟨[(.data true tI), (.ptr 0 []), (.ptr 1 [])], [.var 3 (.data true tI), .var 3 (.data true tI)]⟩
def i_allWithin_1'pp_o : RSh := ⟨(.data true .bool), [.var 3 (.data true tI), .var 3 (.data true tI)]⟩
theorem i_allWithin_1'pp_ev (n : Nat) (x : TupT i_allWithin_1'pp_i.tys) : evF ⟨tab, [i_within_e n], n, []⟩ Try.f205 i_allWithin_1'pp_i i_allWithin_1'pp_o x = i_allWithin_1'pp n x.1 x.2.1 x.2.2 := by kernel_rfl
noncomputable def i_allWithin_1'pp_e (n : Nat) : Ent := ⟨205, i_allWithin_1'pp_i, i_allWithin_1'pp_o, fun x => i_allWithin_1'pp n x.1 x.2.1 x.2.2⟩
theorem i_allWithin_1'pp_ok (n : Nat) : EntOK Try.prog (i_allWithin_1'pp_e n) ∧ Own Try.prog 205 := ent_ok tabOK0 (.cons (i_within_ok n) .nil) Try.func205 rfl (by kernel_rfl) (i_allWithin_1'pp_ev n)
def slices_IndexFunc_Sint_int_'l_i_allWithin_1pp_i : CSh := ⟨[(.data false (.sl tI)), (.clo 205 (.tcons (.ptr 0 []) (.tcons (.ptr 1 []) .tnil)))], [.var 3 (.data true tI), .var 3 (.data true tI)]⟩
def slices_IndexFunc_Sint_int_'l_i_allWithin_1pp_o : RSh := ⟨(.data true tI), [.var 3 (.data true tI), .var 3 (.data true tI)]⟩
theorem slices_IndexFunc_Sint_int_'l_i_allWithin_1pp_ev (n : Nat) (x : TupT slices_IndexFunc_Sint_int_'l_i_allWithin_1pp_i.tys) : evF ⟨tab, [i_allWithin_1'pp_e n], n, [(6, ⟨[(0, (.data false (.sl tI))), (1, (.clo 205 (.tcons (.ptr 0 []) (.tcons (.ptr 1 []) .tnil)))), (7, (.data true tI)), (8, (.data true tI))], [.var 3 (.data true tI), .var 3 (.data true tI)], 2⟩)]⟩ Try.f230 slices_IndexFunc_Sint_int_'l_i_allWithin_1pp_i slices_IndexFunc_Sint_int_'l_i_allWithin_1pp_o x = slices_IndexFunc_Sint_int_'l_i_allWithin_1pp n x.1 x.2.1 x.2.2 := by kernel_rfl
noncomputable def slices_IndexFunc_Sint_int_'l_i_allWithin_1pp_e (n : Nat) : Ent := ⟨230, slices_IndexFunc_Sint_int_'l_i_allWithin_1pp_i, slices_IndexFunc_Sint_int_'l_i_allWithin_1pp_o, fun x => slices_IndexFunc_Sint_int_'l_i_allWithin_1pp n x.1 x.2.1 x.2.2⟩
theorem slices_IndexFunc_Sint_int_'l_i_allWithin_1pp_ok (n : Nat) : EntOK Try.prog (slices_IndexFunc_Sint_int_'l_i_allWithin_1pp_e n) ∧ Own Try.prog 230 := ent_ok tabOK0 (.cons (i_allWithin_1'pp_ok n) .nil) Try.func230 rfl (by kernel_rfl) (slices_IndexFunc_Sint_int_'l_i_allWithin_1pp_ev n)
def slices_ContainsFunc_Sint_int_'l_i_allWithin_1pp_i : CSh := ⟨[(.data false (.sl tI)), (.clo 205 (.tcons (.ptr 0 []) (.tcons (.ptr 1 []) .tnil)))], [.var 3 (.data true tI), .var 3 (.data true tI)]⟩
def slices_ContainsFunc_Sint_int_'l_i_allWithin_1pp_o : RSh := ⟨(.data true .bool), [.var 3 (.data true tI), .var 3 (.data true tI)]⟩
theorem slices_ContainsFunc_Sint_int_'l_i_allWithin_1pp_ev (n : Nat) (x : TupT slices_ContainsFunc_Sint_int_'l_i_allWithin_1pp_i.tys) : evF ⟨tab, [slices_IndexFunc_Sint_int_'l_i_allWithin_1pp_e n], n, []⟩ Try.f204 slices_ContainsFunc_Sint_int_'l_i_allWithin_1pp_i slices_ContainsFunc_Sint_int_'l_i_allWithin_1pp_o x = slices_ContainsFunc_Sint_int_'l_i_allWithin_1pp n x.1 x.2.1 x.2.2 := by kernel_rfl
noncomputable def slices_ContainsFunc_Sint_int_'l_i_allWithin_1pp_e (n : Nat) : Ent := ⟨204, slices_ContainsFunc_Sint_int_'l_i_allWithin_1pp_i, slices_ContainsFunc_Sint_int_'l_i_allWithin_1pp_o, fun x => slices_ContainsFunc_Sint_int_'l_i_allWithin_1pp n x.1 x.2.1 x.2.2⟩
theorem slices_ContainsFunc_Sint_int_'l_i_allWithin_1pp_ok (n : Nat) : EntOK Try.prog (slices_ContainsFunc_Sint_int_'l_i_allWithin_1pp_e n) ∧ Own Try.prog 204 := ent_ok tabOK0 (.cons (slices_IndexFunc_Sint_int_'l_i_allWithin_1pp_ok n) .nil) Try.func204 rfl (by kernel_rfl) (slices_ContainsFunc_Sint_int_'l_i_allWithin_1pp_ev n)
def i_allWithin_i : CSh := ⟨[(.data false (.sl tI)), (.data true tI), (.data true tI)], []⟩
def i_allWithin_o : RSh := ⟨(.data true .bool), []⟩
theorem i_allWithin_ev (n : Nat) (x : TupT i_allWithin_i.tys) : evF ⟨tab, [slices_ContainsFunc_Sint_int_'l_i_allWithin_1pp_e n], n, []⟩ Try.f159 i_allWithin_i i_allWithin_o x = i_allWithin n x.1 x.2.1 x.2.2 := by kernel_rfl
noncomputable def i_allWithin_e (n : Nat) : Ent := ⟨159, i_allWithin_i, i_allWithin_o, fun x => i_allWithin n x.1 x.2.1 x.2.2⟩
theorem i_allWithin_ok (n : Nat) : EntOK Try.prog (i_allWithin_e n) ∧ Own Try.prog 159 := ent_ok tabOK0 (.cons (slices_ContainsFunc_Sint_int_'l_i_allWithin_1pp_ok n) .nil) Try.func159 rfl (by kernel_rfl) (i_allWithin_ev n)
def i_IsCard_i : CSh := ⟨[(.data true (.arr 4 tI))], []⟩
def i_IsCard_o : RSh := ⟨(.data true .bool), []⟩
theorem i_IsCard_ev (n : Nat) (x : TupT i_IsCard_i.tys) : evF ⟨tab, [i_allWithin_e n], n, []⟩ Try.f82 i_IsCard_i i_IsCard_o x = i_IsCard n x := by kernel_rfl
noncomputable def i_IsCard_e (n : Nat) : Ent := ⟨82, i_IsCard_i, i_IsCard_o, fun x => i_IsCard n x⟩
theorem i_IsCard_ok (n : Nat) : EntOK Try.prog (i_IsCard_e n) ∧ Own Try.prog 82 := ent_ok tabOK0 (.cons (i_allWithin_ok n) .nil) Try.func82 rfl (by kernel_rfl) (i_IsCard_ev n)
def i_number_i : CSh := ⟨[(.data true (.arr 4 tI))], []⟩
def i_number_o : RSh := ⟨(.data true tI), []⟩
theorem i_number_ev (n : Nat) (x : TupT i_number_i.tys) : evF ⟨tab, [], n, [(8, ⟨[(3, (.data true tI)), (6, (.data true (.arr 4 tI))), (7, (.data true tI))], [], 0⟩)]⟩ Try.f111 i_number_i i_number_o x = i_number n x := by kernel_rfl
noncomputable def i_number_e (n : Nat) : Ent := ⟨111, i_number_i, i_number_o, fun x => i_number n x⟩
theorem i_number_ok (n : Nat) : EntOK Try.prog (i_number_e n) ∧ Own Try.prog 111 := ent_ok tabOK0 .nil Try.func111 rfl (by kernel_rfl) (i_number_ev n)
def i_IsHand_i : CSh := ⟨[(.data false (.sl (.arr 4 tI)))], []⟩
def i_IsHand_o : RSh := ⟨(.data true .bool), []⟩
theorem i_IsHand_ev (n : Nat) (x : TupT i_IsHand_i.tys) : evF ⟨tab, [i_IsCard_e n, i_number_e n], n, [(6, ⟨[(0, (.data false (.sl (.arr 4 tI)))), (5, (.data false (.sl (.arr 4 tI)))), (6, (.data true tI)), (7, (.data true tI))], [], 0⟩)]⟩ Try.f93 i_IsHand_i i_IsHand_o x = i_IsHand n x := by kernel_rfl
noncomputable def i_IsHand_e (n : Nat) : Ent := ⟨93, i_IsHand_i, i_IsHand_o, fun x => i_IsHand n x⟩
theorem i_IsHand_ok (n : Nat) : EntOK Try.prog (i_IsHand_e n) ∧ Own Try.prog 93 := ent_ok tabOK0 (.cons (i_IsCard_ok n) (.cons (i_number_ok n) .nil)) Try.func93 rfl (by kernel_rfl) (i_IsHand_ev n)
def i_IsMask_i : CSh := ⟨[(.data true tI)], []⟩
def i_IsMask_o : RSh := ⟨(.data true .bool), []⟩
theorem i_IsMask_ev (n : Nat) (x : TupT i_IsMask_i.tys) : evF ⟨tab, [i_within_e n], n, []⟩ Try.f143 i_IsMask_i i_IsMask_o x = i_IsMask n x := by kernel_rfl
noncomputable def i_IsMask_e (n : Nat) : Ent := ⟨143, i_IsMask_i, i_IsMask_o, fun x => i_IsMask n x⟩
theorem i_IsMask_ok (n : Nat) : EntOK Try.prog (i_IsMask_e n) ∧ Own Try.prog 143 := ent_ok tabOK0 (.cons (i_within_ok n) .nil) Try.func143 rfl (by kernel_rfl) (i_IsMask_ev n)
def i_shadow_i : CSh := ⟨[(.data true (.arr 4 tI)), (.data true tI)], []⟩
def i_shadow_o : RSh := ⟨(.data true (.arr 4 tI)), []⟩
theorem i_shadow_ev (n : Nat) (x : TupT i_shadow_i.tys) : evF ⟨tab, [], n, [(6, ⟨[(1, (.data true tI)), (2, (.ptr 0 [])), (4, (.ptr 1 [])), (6, (.data true tI))], [.var 22 (.data true (.arr 4 tI)), .var 22 (.data true (.arr 4 tI))], 0⟩)]⟩ Try.f192 i_shadow_i i_shadow_o x = i_shadow n x.1 x.2 := by kernel_rfl
noncomputable def i_shadow_e (n : Nat) : Ent := ⟨192, i_shadow_i, i_shadow_o, fun x => i_shadow n x.1 x.2⟩
theorem i_shadow_ok (n : Nat) : EntOK Try.prog (i_shadow_e n) ∧ Own Try.prog 192 := ent_ok tabOK0 .nil Try.func192 rfl (by kernel_rfl) (i_shadow_ev n)
def i_shadows_i : CSh := ⟨[(.data false (.sl (.arr 4 tI))), (.data true tI)], []⟩
def i_shadows_o : RSh := ⟨(.own 0), [.rows 22 true (.arr 4 tI)]⟩
theorem i_shadows_ev (n : Nat) (x : TupT i_shadows_i.tys) : evF ⟨tab, [i_shadow_e n], n, [(8, ⟨[(1, (.data true tI)), (5, (.own 0)), (9, (.data false (.sl (.arr 4 tI)))), (10, (.data true tI)), (11, (.data true tI))], [.rows 22 true (.arr 4 tI)], 0⟩)]⟩ Try.f145 i_shadows_i i_shadows_o x = i_shadows n x.1 x.2 := by kernel_rfl
noncomputable def i_shadows_e (n : Nat) : Ent := ⟨145, i_shadows_i, i_shadows_o, fun x => i_shadows n x.1 x.2⟩
theorem i_shadows_ok (n : Nat) : EntOK Try.prog (i_shadows_e n) ∧ Own Try.prog 145 := ent_ok tabOK0 (.cons (i_shadow_ok n) .nil) Try.func145 rfl (by kernel_rfl) (i_shadows_ev n)
def slices_Clone_SA4_A4__i : CSh := ⟨[(.data false (.sl (.arr 4 tI)))], []⟩
def slices_Clone_SA4_A4__o : RSh := ⟨(.own 0), [.rows 22 true (.arr 4 tI)]⟩
theorem slices_Clone_SA4_A4__ev (n : Nat) (x : TupT slices_Clone_SA4_A4__i.tys) : evF ⟨tab, [], n, []⟩ Try.f168 slices_Clone_SA4_A4__i slices_Clone_SA4_A4__o x = slices_Clone_SA4_A4_ n x := by kernel_rfl
noncomputable def slices_Clone_SA4_A4__e (n : Nat) : Ent := ⟨168, slices_Clone_SA4_A4__i, slices_Clone_SA4_A4__o, fun x => slices_Clone_SA4_A4_ n x⟩
theorem slices_Clone_SA4_A4__ok (n : Nat) : EntOK Try.prog (slices_Clone_SA4_A4__e n) ∧ Own Try.prog 168 := ent_ok tabOK0 .nil Try.func168 rfl (by kernel_rfl) (slices_Clone_SA4_A4__ev n)
def math_bits_Len64_i : CSh := ⟨[(.data true (.int .u64))], []⟩
def math_bits_Len64_o : RSh := ⟨(.data true tI), []⟩
theorem math_bits_Len64_ev (n : Nat) (x : TupT math_bits_Len64_i.tys) : evF ⟨tab, [], n, [(2, ⟨[(0, (.data true (.int .u64))), (2, (.data true tI))], [], 0⟩), (10, ⟨[(0, (.data true (.int .u64))), (2, (.data true tI))], [], 0⟩), (18, ⟨[(0, (.data true (.int .u64))), (2, (.data true tI))], [], 0⟩)]⟩ Try.f219 math_bits_Len64_i math_bits_Len64_o x = math_bits_Len64 n x := by kernel_rfl
noncomputable def math_bits_Len64_e (n : Nat) : Ent := ⟨219, math_bits_Len64_i, math_bits_Len64_o, fun x => math_bits_Len64 n x⟩
theorem math_bits_Len64_ok (n : Nat) : EntOK Try.prog (math_bits_Len64_e n) ∧ Own Try.prog 219 := ent_ok tabOK0 .nil Try.func219 rfl (by kernel_rfl) (math_bits_Len64_ev n)
def math_bits_Len_i : CSh := ⟨[(.data true (.int .u64))], []⟩
def math_bits_Len_o : RSh := ⟨(.data true tI), []⟩
theorem math_bits_Len_ev (n : Nat) (x : TupT math_bits_Len_i.tys) : evF ⟨tab, [math_bits_Len64_e n], n, []⟩ Try.f171 math_bits_Len_i math_bits_Len_o x = math_bits_Len n x := by kernel_rfl
noncomputable def math_bits_Len_e (n : Nat) : Ent := ⟨171, math_bits_Len_i, math_bits_Len_o, fun x => math_bits_Len n x⟩
theorem math_bits_Len_ok (n : Nat) : EntOK Try.prog (math_bits_Len_e n) ∧ Own Try.prog 171 := ent_ok tabOK0 (.cons (math_bits_Len64_ok n) .nil) Try.func171 rfl (by kernel_rfl) (math_bits_Len_ev n)
def i_compareCards_i : CSh := ⟨[(.data true (.arr 4 tI)), (.data true (.arr 4 tI))], []⟩
def i_compareCards_o : RSh := ⟨(.data true tI), []⟩
theorem i_compareCards_ev (n : Nat) (x : TupT i_compareCards_i.tys) : evF ⟨tab, [i_number_e n], n, []⟩ Try.f190 i_compareCards_i i_compareCards_o x = i_compareCards n x.1 x.2 := by kernel_rfl
noncomputable def i_compareCards_e (n : Nat) : Ent := ⟨190, i_compareCards_i, i_compareCards_o, fun x => i_compareCards n x.1 x.2⟩
theorem i_compareCards_ok (n : Nat) : EntOK Try.prog (i_compareCards_e n) ∧ Own Try.prog 190 := ent_ok tabOK0 (.cons (i_number_ok n) .nil) Try.func190 rfl (by kernel_rfl) (i_compareCards_ev n)
def slices_insertionSortCmpFunc_A4_'o_i_compareCards_i : CSh := ⟨[(.own 0), (.data true tI), (.data true tI), (.clo 190 .tnil)], [.rows 22 true (.arr 4 tI)]⟩
def slices_insertionSortCmpFunc_A4_'o_i_compareCards_o : RSh := ⟨.tnil, [.rows 22 true (.arr 4 tI)]⟩
theorem slices_insertionSortCmpFunc_A4_'o_i_compareCards_ev (n : Nat) (x : TupT slices_insertionSortCmpFunc_A4_'o_i_compareCards_i.tys) : evF ⟨tab, [i_compareCards_e n], n, [(3, ⟨[(0, (.own 0)), (1, (.data true tI)), (2, (.data true tI)), (3, (.clo 190 .tnil)), (8, (.data true tI))], [.rows 22 true (.arr 4 tI)], 1⟩), (15, ⟨[(0, (.own 0)), (1, (.data true tI)), (2, (.data true tI)), (3, (.clo 190 .tnil)), (8, (.data true tI)), (9, (.data true tI))], [.rows 22 true (.arr 4 tI)], 1⟩)]⟩ Try.f240 slices_insertionSortCmpFunc_A4_'o_i_compareCards_i slices_insertionSortCmpFunc_A4_'o_i_compareCards_o x = slices_insertionSortCmpFunc_A4_'o_i_compareCards n x.1 x.2.1 x.2.2 := by kernel_rfl
noncomputable def slices_insertionSortCmpFunc_A4_'o_i_compareCards_e (n : Nat) : Ent := ⟨240, slices_insertionSortCmpFunc_A4_'o_i_compareCards_i, slices_insertionSortCmpFunc_A4_'o_i_compareCards_o, fun x => slices_insertionSortCmpFunc_A4_'o_i_compareCards n x.1 x.2.1 x.2.2⟩
theorem slices_insertionSortCmpFunc_A4_'o_i_compareCards_ok (n : Nat) : EntOK Try.prog (slices_insertionSortCmpFunc_A4_'o_i_compareCards_e n) ∧ Own Try.prog 240 := ent_ok tabOK0 (.cons (i_compareCards_ok n) .nil) Try.func240 rfl (by kernel_rfl) (slices_insertionSortCmpFunc_A4_'o_i_compareCards_ev n)
def slices_siftDownCmpFunc_A4_'o_i_compareCards_i : CSh := ⟨[(.own 0), (.data true tI), (.data true tI), (.data true tI), (.clo 190 .tnil)], [.rows 22 true (.arr 4 tI)]⟩
def slices_siftDownCmpFunc_A4_'o_i_compareCards_o : RSh := ⟨.tnil, [.rows 22 true (.arr 4 tI)]⟩
theorem slices_siftDownCmpFunc_A4_'o_i_compareCards_ev (n : Nat) (x : TupT slices_siftDownCmpFunc_A4_'o_i_compareCards_i.tys) : evF ⟨tab, [i_compareCards_e n], n, [(3, ⟨[(0, (.own 0)), (2, (.data true tI)), (3, (.data true tI)), (4, (.clo 190 .tnil)), (10, (.data true tI))], [.rows 22 true (.arr 4 tI)], 1⟩), (13, ⟨[(0, (.own 0)), (2, (.data true tI)), (3, (.data true tI)), (4, (.clo 190 .tnil)), (10, (.data true tI)), (11, (.data true tI))], [.rows 22 true (.arr 4 tI)], 1⟩)]⟩ Try.f250 slices_siftDownCmpFunc_A4_'o_i_compareCards_i slices_siftDownCmpFunc_A4_'o_i_compareCards_o x = slices_siftDownCmpFunc_A4_'o_i_compareCards n x.1 x.2.1 x.2.2.1 x.2.2.2 := by kernel_rfl
noncomputable def slices_siftDownCmpFunc_A4_'o_i_compareCards_e (n : Nat) : Ent := ⟨250, slices_siftDownCmpFunc_A4_'o_i_compareCards_i, slices_siftDownCmpFunc_A4_'o_i_compareCards_o, fun x => slices_siftDownCmpFunc_A4_'o_i_compareCards n x.1 x.2.1 x.2.2.1 x.2.2.2⟩
theorem slices_siftDownCmpFunc_A4_'o_i_compareCards_ok (n : Nat) : EntOK Try.prog (slices_siftDownCmpFunc_A4_'o_i_compareCards_e n) ∧ Own Try.prog 250 := ent_ok tabOK0 (.cons (i_compareCards_ok n) .nil) Try.func250 rfl (by kernel_rfl) (slices_siftDownCmpFunc_A4_'o_i_compareCards_ev n)
def slices_heapSortCmpFunc_A4_'o_i_compareCards_i : CSh := ⟨[(.own 0), (.data true tI), (.data true tI), (.clo 190 .tnil)], [.rows 22 true (.arr 4 tI)]⟩
def slices_heapSortCmpFunc_A4_'o_i_compareCards_o : RSh := ⟨.tnil, [.rows 22 true (.arr 4 tI)]⟩
theorem slices_heapSortCmpFunc_A4_'o_i_compareCards_ev (n : Nat) (x : TupT slices_heapSortCmpFunc_A4_'o_i_compareCards_i.tys) : evF ⟨tab, [slices_siftDownCmpFunc_A4_'o_i_compareCards_e n], n, [(10, ⟨[(0, (.own 0)), (3, (.clo 190 .tnil)), (8, (.data true tI)), (9, (.data true tI)), (10, (.data true tI)), (11, (.data true tI))], [.rows 22 true (.arr 4 tI)], 1⟩), (24, ⟨[(0, (.own 0)), (3, (.clo 190 .tnil)), (8, (.data true tI)), (9, (.data true tI)), (12, (.data true tI))], [.rows 22 true (.arr 4 tI)], 1⟩)]⟩ Try.f241 slices_heapSortCmpFunc_A4_'o_i_compareCards_i slices_heapSortCmpFunc_A4_'o_i_compareCards_o x = slices_heapSortCmpFunc_A4_'o_i_compareCards n x.1 x.2.1 x.2.2 := by kernel_rfl
noncomputable def slices_heapSortCmpFunc_A4_'o_i_compareCards_e (n : Nat) : Ent := ⟨241, slices_heapSortCmpFunc_A4_'o_i_compareCards_i, slices_heapSortCmpFunc_A4_'o_i_compareCards_o, fun x => slices_heapSortCmpFunc_A4_'o_i_compareCards n x.1 x.2.1 x.2.2⟩
theorem slices_heapSortCmpFunc_A4_'o_i_compareCards_ok (n : Nat) : EntOK Try.prog (slices_heapSortCmpFunc_A4_'o_i_compareCards_e n) ∧ Own Try.prog 241 := ent_ok tabOK0 (.cons (slices_siftDownCmpFunc_A4_'o_i_compareCards_ok n) .nil) Try.func241 rfl (by kernel_rfl) (slices_heapSortCmpFunc_A4_'o_i_compareCards_ev n)
def slices_order2CmpFunc_A4_'lp_i_compareCards_i : CSh := ⟨[(.data false (.sl (.arr 4 tI))), (.data true tI), (.data true tI), (.ptr 0 []), (.clo 190 .tnil)], [.var 3 (.data true tI)]⟩
def slices_order2CmpFunc_A4_'lp_i_compareCards_o : RSh := ⟨(.tcons (.data true tI) (.tcons (.data true tI) .tnil)), [.var 3 (.data true tI)]⟩
theorem slices_order2CmpFunc_A4_'lp_i_compareCards_ev (n : Nat) (x : TupT slices_order2CmpFunc_A4_'lp_i_compareCards_i.tys) : evF ⟨tab, [i_compareCards_e n], n, []⟩ Try.f253 slices_order2CmpFunc_A4_'lp_i_compareCards_i slices_order2CmpFunc_A4_'lp_i_compareCards_o x = slices_order2CmpFunc_A4_'lp_i_compareCards n x.1 x.2.1 x.2.2.1 x.2.2.2 := by kernel_rfl
noncomputable def slices_order2CmpFunc_A4_'lp_i_compareCards_e (n : Nat) : Ent := ⟨253, slices_order2CmpFunc_A4_'lp_i_compareCards_i, slices_order2CmpFunc_A4_'lp_i_compareCards_o, fun x => slices_order2CmpFunc_A4_'lp_i_compareCards n x.1 x.2.1 x.2.2.1 x.2.2.2⟩
theorem slices_order2CmpFunc_A4_'lp_i_compareCards_ok (n : Nat) : EntOK Try.prog (slices_order2CmpFunc_A4_'lp_i_compareCards_e n) ∧ Own Try.prog 253 := ent_ok tabOK0 (.cons (i_compareCards_ok n) .nil) Try.func253 rfl (by kernel_rfl) (slices_order2CmpFunc_A4_'lp_i_compareCards_ev n)
def slices_medianCmpFunc_A4_'lp_i_compareCards_i : CSh := ⟨[(.data false (.sl (.arr 4 tI))), (.data true tI), (.data true tI), (.data true tI), (.ptr 0 []), (.clo 190 .tnil)], [.var 3 (.data true tI)]⟩
def slices_medianCmpFunc_A4_'lp_i_compareCards_o : RSh := ⟨(.data true tI), [.var 3 (.data true tI)]⟩
theorem slices_medianCmpFunc_A4_'lp_i_compareCards_ev (n : Nat) (x : TupT slices_medianCmpFunc_A4_'lp_i_compareCards_i.tys) : evF ⟨tab, [slices_order2CmpFunc_A4_'lp_i_compareCards_e n], n, []⟩ Try.f252 slices_medianCmpFunc_A4_'lp_i_compareCards_i slices_medianCmpFunc_A4_'lp_i_compareCards_o x = slices_medianCmpFunc_A4_'lp_i_compareCards n x.1 x.2.1 x.2.2.1 x.2.2.2.1 x.2.2.2.2 := by kernel_rfl
noncomputable def slices_medianCmpFunc_A4_'lp_i_compareCards_e (n : Nat) : Ent := ⟨252, slices_medianCmpFunc_A4_'lp_i_compareCards_i, slices_medianCmpFunc_A4_'lp_i_compareCards_o, fun x => slices_medianCmpFunc_A4_'lp_i_compareCards n x.1 x.2.1 x.2.2.1 x.2.2.2.1 x.2.2.2.2⟩
theorem slices_medianCmpFunc_A4_'lp_i_compareCards_ok (n : Nat) : EntOK Try.prog (slices_medianCmpFunc_A4_'lp_i_compareCards_e n) ∧ Own Try.prog 252 := ent_ok tabOK0 (.cons (slices_order2CmpFunc_A4_'lp_i_compareCards_ok n) .nil) Try.func252 rfl (by kernel_rfl) (slices_medianCmpFunc_A4_'lp_i_compareCards_ev n)
def slices_medianAdjacentCmpFunc_A4_'lp_i_compareCards_i : CSh := ⟨[(.data false (.sl (.arr 4 tI))), (.data true tI), (.ptr 0 []), (.clo 190 .tnil)], [.var 3 (.data true tI)]⟩
def slices_medianAdjacentCmpFunc_A4_'lp_i_compareCards_o : RSh := ⟨(.data true tI), [.var 3 (.data true tI)]⟩
theorem slices_medianAdjacentCmpFunc_A4_'lp_i_compareCards_ev (n : Nat) (x : TupT slices_medianAdjacentCmpFunc_A4_'lp_i_compareCards_i.tys) : evF ⟨tab, [slices_medianCmpFunc_A4_'lp_i_compareCards_e n], n, []⟩ Try.f251 slices_medianAdjacentCmpFunc_A4_'lp_i_compareCards_i slices_medianAdjacentCmpFunc_A4_'lp_i_compareCards_o x = slices_medianAdjacentCmpFunc_A4_'lp_i_compareCards n x.1 x.2.1 x.2.2 := by kernel_rfl
noncomputable def slices_medianAdjacentCmpFunc_A4_'lp_i_compareCards_e (n : Nat) : Ent := ⟨251, slices_medianAdjacentCmpFunc_A4_'lp_i_compareCards_i, slices_medianAdjacentCmpFunc_A4_'lp_i_compareCards_o, fun x => slices_medianAdjacentCmpFunc_A4_'lp_i_compareCards n x.1 x.2.1 x.2.2⟩
theorem slices_medianAdjacentCmpFunc_A4_'lp_i_compareCards_ok (n : Nat) : EntOK Try.prog (slices_medianAdjacentCmpFunc_A4_'lp_i_compareCards_e n) ∧ Own Try.prog 251 := ent_ok tabOK0 (.cons (slices_medianCmpFunc_A4_'lp_i_compareCards_ok n) .nil) Try.func251 rfl (by kernel_rfl) (slices_medianAdjacentCmpFunc_A4_'lp_i_compareCards_ev n)
def slices_choosePivotCmpFunc_A4_'l_i_compareCards_i : CSh := ⟨[(.data false (.sl (.arr 4 tI))), (.data true tI), (.data true tI), (.clo 190 .tnil)], []⟩
def slices_choosePivotCmpFunc_A4_'l_i_compareCards_o : RSh := ⟨(.tcons (.data true tI) (.tcons (.data true tI) .tnil)), []⟩
theorem slices_choosePivotCmpFunc_A4_'l_i_compareCards_ev (n : Nat) (x : TupT slices_choosePivotCmpFunc_A4_'l_i_compareCards_i.tys) : evF ⟨tab, [slices_medianCmpFunc_A4_'lp_i_compareCards_e n, slices_medianAdjacentCmpFunc_A4_'lp_i_compareCards_e n], n, [(12, ⟨[(11, (.ptr 0 [])), (13, (.data true tI))], [.var 3 (.data true tI)], 0⟩), (16, ⟨[(0, (.data false (.sl (.arr 4 tI)))), (3, (.clo 190 .tnil)), (11, (.ptr 0 [])), (12, (.data true tI)), (13, (.data true tI)), (14, (.data true tI))], [.var 3 (.data true tI)], 0⟩)]⟩ Try.f243 slices_choosePivotCmpFunc_A4_'l_i_compareCards_i slices_choosePivotCmpFunc_A4_'l_i_compareCards_o x = slices_choosePivotCmpFunc_A4_'l_i_compareCards n x.1 x.2.1 x.2.2 := by kernel_rfl
noncomputable def slices_choosePivotCmpFunc_A4_'l_i_compareCards_e (n : Nat) : Ent := ⟨243, slices_choosePivotCmpFunc_A4_'l_i_compareCards_i, slices_choosePivotCmpFunc_A4_'l_i_compareCards_o, fun x => slices_choosePivotCmpFunc_A4_'l_i_compareCards n x.1 x.2.1 x.2.2⟩
theorem slices_choosePivotCmpFunc_A4_'l_i_compareCards_ok (n : Nat) : EntOK Try.prog (slices_choosePivotCmpFunc_A4_'l_i_compareCards_e n) ∧ Own Try.prog 243 := ent_ok tabOK0 (.cons (slices_medianCmpFunc_A4_'lp_i_compareCards_ok n) (.cons (slices_medianAdjacentCmpFunc_A4_'lp_i_compareCards_ok n) .nil)) Try.func243 rfl (by kernel_rfl) (slices_choosePivotCmpFunc_A4_'l_i_compareCards_ev n)
def slices_partitionEqualCmpFunc_A4_'o_i_compareCards_i : CSh := ⟨[(.own 0), (.data true tI), (.data true tI), (.data true tI), (.clo 190 .tnil)], [.rows 22 true (.arr 4 tI)]⟩
def slices_partitionEqualCmpFunc_A4_'o_i_compareCards_o : RSh := ⟨(.data true tI), [.rows 22 true (.arr 4 tI)]⟩
theorem slices_partitionEqualCmpFunc_A4_'o_i_compareCards_ev (n : Nat) (x : TupT slices_partitionEqualCmpFunc_A4_'o_i_compareCards_i.tys) : evF ⟨tab, [i_compareCards_e n], n, [(8, ⟨[(0, (.own 0)), (1, (.data true tI)), (4, (.clo 190 .tnil)), (11, (.data true tI)), (12, (.data true tI))], [.rows 22 true (.arr 4 tI)], 1⟩), (12, ⟨[(0, (.own 0)), (1, (.data true tI)), (4, (.clo 190 .tnil)), (11, (.data true tI)), (12, (.data true tI))], [.rows 22 true (.arr 4 tI)], 1⟩), (23, ⟨[(0, (.own 0)), (1, (.data true tI)), (4, (.clo 190 .tnil)), (11, (.data true tI)), (12, (.data true tI))], [.rows 22 true (.arr 4 tI)], 1⟩)]⟩ Try.f246 slices_partitionEqualCmpFunc_A4_'o_i_compareCards_i slices_partitionEqualCmpFunc_A4_'o_i_compareCards_o x = slices_partitionEqualCmpFunc_A4_'o_i_compareCards n x.1 x.2.1 x.2.2.1 x.2.2.2 := by kernel_rfl
noncomputable def slices_partitionEqualCmpFunc_A4_'o_i_compareCards_e (n : Nat) : Ent := ⟨246, slices_partitionEqualCmpFunc_A4_'o_i_compareCards_i, slices_partitionEqualCmpFunc_A4_'o_i_compareCards_o, fun x => slices_partitionEqualCmpFunc_A4_'o_i_compareCards n x.1 x.2.1 x.2.2.1 x.2.2.2⟩
theorem slices_partitionEqualCmpFunc_A4_'o_i_compareCards_ok (n : Nat) : EntOK Try.prog (slices_partitionEqualCmpFunc_A4_'o_i_compareCards_e n) ∧ Own Try.prog 246 := ent_ok tabOK0 (.cons (i_compareCards_ok n) .nil) Try.func246 rfl (by kernel_rfl) (slices_partitionEqualCmpFunc_A4_'o_i_compareCards_ev n)
def slices_partitionCmpFunc_A4_'o_i_compareCards_i : CSh := ⟨[(.own 0), (.data true tI), (.data true tI), (.data true tI), (.clo 190 .tnil)], [.rows 22 true (.arr 4 tI)]⟩
def slices_partitionCmpFunc_A4_'o_i_compareCards_o : RSh := ⟨(.tcons (.data true tI) (.tcons (.data true .bool) .tnil)), [.rows 22 true (.arr 4 tI)]⟩
theorem slices_partitionCmpFunc_A4_'o_i_compareCards_ev (n : Nat) (x : TupT slices_partitionCmpFunc_A4_'o_i_compareCards_i.tys) : evF ⟨tab, [i_compareCards_e n], n, [(8, ⟨[(0, (.own 0)), (1, (.data true tI)), (4, (.clo 190 .tnil)), (12, (.data true tI)), (13, (.data true tI))], [.rows 22 true (.arr 4 tI)], 1⟩), (19, ⟨[(0, (.own 0)), (1, (.data true tI)), (4, (.clo 190 .tnil)), (12, (.data true tI)), (13, (.data true tI))], [.rows 22 true (.arr 4 tI)], 1⟩), (46, ⟨[(0, (.own 0)), (1, (.data true tI)), (4, (.clo 190 .tnil)), (12, (.data true tI)), (13, (.data true tI))], [.rows 22 true (.arr 4 tI)], 1⟩), (50, ⟨[(0, (.own 0)), (1, (.data true tI)), (4, (.clo 190 .tnil)), (12, (.data true tI)), (13, (.data true tI))], [.rows 22 true (.arr 4 tI)], 1⟩), (61, ⟨[(0, (.own 0)), (1, (.data true tI)), (4, (.clo 190 .tnil)), (12, (.data true tI)), (13, (.data true tI))], [.rows 22 true (.arr 4 tI)], 1⟩)]⟩ Try.f247 slices_partitionCmpFunc_A4_'o_i_compareCards_i slices_partitionCmpFunc_A4_'o_i_compareCards_o x = slices_partitionCmpFunc_A4_'o_i_compareCards n x.1 x.2.1 x.2.2.1 x.2.2.2 := by kernel_rfl
noncomputable def slices_partitionCmpFunc_A4_'o_i_compareCards_e (n : Nat) : Ent := ⟨247, slices_partitionCmpFunc_A4_'o_i_compareCards_i, slices_partitionCmpFunc_A4_'o_i_compareCards_o, fun x => slices_partitionCmpFunc_A4_'o_i_compareCards n x.1 x.2.1 x.2.2.1 x.2.2.2⟩
theorem slices_partitionCmpFunc_A4_'o_i_compareCards_ok (n : Nat) : EntOK Try.prog (slices_partitionCmpFunc_A4_'o_i_compareCards_e n) ∧ Own Try.prog 247 := ent_ok tabOK0 (.cons (i_compareCards_ok n) .nil) Try.func247 rfl (by kernel_rfl) (slices_partitionCmpFunc_A4_'o_i_compareCards_ev n)
def slices_partialInsertionSortCmpFunc_A4_'o_i_compareCards_i : CSh := ⟨[(.own 0), (.data true tI), (.data true tI), (.clo 190 .tnil)], [.rows 22 true (.arr 4 tI)]⟩
def slices_partialInsertionSortCmpFunc_A4_'o_i_compareCards_o : RSh := ⟨(.data true .bool), [.rows 22 true (.arr 4 tI)]⟩
theorem slices_partialInsertionSortCmpFunc_A4_'o_i_compareCards_ev (n : Nat) (x : TupT slices_partialInsertionSortCmpFunc_A4_'o_i_compareCards_i.tys) : evF ⟨tab, [i_compareCards_e n], n, [(8, ⟨[(0, (.own 0)), (1, (.data true tI)), (2, (.data true tI)), (3, (.clo 190 .tnil)), (9, (.data true tI)), (10, (.data true tI))], [.rows 22 true (.arr 4 tI)], 1⟩), (19, ⟨[(0, (.own 0)), (1, (.data true tI)), (2, (.data true tI)), (3, (.clo 190 .tnil)), (9, (.data true tI)), (10, (.data true tI))], [.rows 22 true (.arr 4 tI)], 1⟩), (46, ⟨[(0, (.own 0)), (1, (.data true tI)), (2, (.data true tI)), (3, (.clo 190 .tnil)), (9, (.data true tI)), (10, (.data true tI))], [.rows 22 true (.arr 4 tI)], 1⟩), (53, ⟨[(0, (.own 0)), (1, (.data true tI)), (2, (.data true tI)), (3, (.clo 190 .tnil)), (9, (.data true tI)), (10, (.data true tI)), (11, (.data true tI))], [.rows 22 true (.arr 4 tI)], 1⟩), (77, ⟨[(0, (.own 0)), (1, (.data true tI)), (2, (.data true tI)), (3, (.clo 190 .tnil)), (9, (.data true tI)), (10, (.data true tI)), (12, (.data true tI))], [.rows 22 true (.arr 4 tI)], 1⟩)]⟩ Try.f245 slices_partialInsertionSortCmpFunc_A4_'o_i_compareCards_i slices_partialInsertionSortCmpFunc_A4_'o_i_compareCards_o x = slices_partialInsertionSortCmpFunc_A4_'o_i_compareCards n x.1 x.2.1 x.2.2 := by kernel_rfl
noncomputable def slices_partialInsertionSortCmpFunc_A4_'o_i_compareCards_e (n : Nat) : Ent := ⟨245, slices_partialInsertionSortCmpFunc_A4_'o_i_compareCards_i, slices_partialInsertionSortCmpFunc_A4_'o_i_compareCards_o, fun x => slices_partialInsertionSortCmpFunc_A4_'o_i_compareCards n x.1 x.2.1 x.2.2⟩
theorem slices_partialInsertionSortCmpFunc_A4_'o_i_compareCards_ok (n : Nat) : EntOK Try.prog (slices_partialInsertionSortCmpFunc_A4_'o_i_compareCards_e n) ∧ Own Try.prog 245 := ent_ok tabOK0 (.cons (i_compareCards_ok n) .nil) Try.func245 rfl (by kernel_rfl) (slices_partialInsertionSortCmpFunc_A4_'o_i_compareCards_ev n)
def slices_reverseRangeCmpFunc_A4_'o_i_compareCards_i : CSh := ⟨[(.own 0), (.data true tI), (.data true tI), (.clo 190 .tnil)], [.rows 22 true (.arr 4 tI)]⟩
def slices_reverseRangeCmpFunc_A4_'o_i_compareCards_o : RSh := ⟨.tnil, [.rows 22 true (.arr 4 tI)]⟩
theorem slices_reverseRangeCmpFunc_A4_'o_i_compareCards_ev (n : Nat) (x : TupT slices_reverseRangeCmpFunc_A4_'o_i_compareCards_i.tys) : evF ⟨tab, [], n, [(5, ⟨[(0, (.own 0)), (8, (.data true tI)), (9, (.data true tI))], [.rows 22 true (.arr 4 tI)], 1⟩)]⟩ Try.f244 slices_reverseRangeCmpFunc_A4_'o_i_compareCards_i slices_reverseRangeCmpFunc_A4_'o_i_compareCards_o x = slices_reverseRangeCmpFunc_A4_'o_i_compareCards n x.1 x.2.1 x.2.2 := by kernel_rfl
noncomputable def slices_reverseRangeCmpFunc_A4_'o_i_compareCards_e (n : Nat) : Ent := ⟨244, slices_reverseRangeCmpFunc_A4_'o_i_compareCards_i, slices_reverseRangeCmpFunc_A4_'o_i_compareCards_o, fun x => slices_reverseRangeCmpFunc_A4_'o_i_compareCards n x.1 x.2.1 x.2.2⟩
theorem slices_reverseRangeCmpFunc_A4_'o_i_compareCards_ok (n : Nat) : EntOK Try.prog (slices_reverseRangeCmpFunc_A4_'o_i_compareCards_e n) ∧ Own Try.prog 244 := ent_ok tabOK0 .nil Try.func244 rfl (by kernel_rfl) (slices_reverseRangeCmpFunc_A4_'o_i_compareCards_ev n)
def slices_nextPowerOfTwo_i : CSh := ⟨[(.data true tI)], []⟩
def slices_nextPowerOfTwo_o : RSh := ⟨(.data true (.int .u64)), []⟩
theorem slices_nextPowerOfTwo_ev (n : Nat) (x : TupT slices_nextPowerOfTwo_i.tys) : evF ⟨tab, [math_bits_Len_e n], n, []⟩ Try.f232 slices_nextPowerOfTwo_i slices_nextPowerOfTwo_o x = slices_nextPowerOfTwo n x := by kernel_rfl
noncomputable def slices_nextPowerOfTwo_e (n : Nat) : Ent := ⟨232, slices_nextPowerOfTwo_i, slices_nextPowerOfTwo_o, fun x => slices_nextPowerOfTwo n x⟩
theorem slices_nextPowerOfTwo_ok (n : Nat) : EntOK Try.prog (slices_nextPowerOfTwo_e n) ∧ Own Try.prog 232 := ent_ok tabOK0 (.cons (math_bits_Len_ok n) .nil) Try.func232 rfl (by kernel_rfl) (slices_nextPowerOfTwo_ev n)
def __slices_xorshift__Next'p_i : CSh := ⟨[(.ptr 0 [])], [.var 196 (.data true (.int .u64))]⟩
def __slices_xorshift__Next'p_o : RSh := ⟨(.data true (.int .u64)), [.var 196 (.data true (.int .u64))]⟩
theorem __slices_xorshift__Next'p_ev (n : Nat) (x : TupT __slices_xorshift__Next'p_i.tys) : evF ⟨tab, [], n, []⟩ Try.f233 __slices_xorshift__Next'p_i __slices_xorshift__Next'p_o x = __slices_xorshift__Next'p n x := by kernel_rfl
noncomputable def __slices_xorshift__Next'p_e (n : Nat) : Ent := ⟨233, __slices_xorshift__Next'p_i, __slices_xorshift__Next'p_o, fun x => __slices_xorshift__Next'p n x⟩
theorem __slices_xorshift__Next'p_ok (n : Nat) : EntOK Try.prog (__slices_xorshift__Next'p_e n) ∧ Own Try.prog 233 := ent_ok tabOK0 .nil Try.func233 rfl (by kernel_rfl) (__slices_xorshift__Next'p_ev n)
def slices_breakPatternsCmpFunc_A4_'o_i_compareCards_i : CSh := ⟨[(.own 0), (.data true tI), (.data true tI), (.clo 190 .tnil)], [.rows 22 true (.arr 4 tI)]⟩
def slices_breakPatternsCmpFunc_A4_'o_i_compareCards_o : RSh := ⟨.tnil, [.rows 22 true (.arr 4 tI)]⟩
theorem slices_breakPatternsCmpFunc_A4_'o_i_compareCards_ev (n : Nat) (x : TupT slices_breakPatternsCmpFunc_A4_'o_i_compareCards_i.tys) : evF ⟨tab, [slices_nextPowerOfTwo_e n, __slices_xorshift__Next'p_e n], n, [(12, ⟨[(0, (.own 0)), (1, (.data true tI)), (8, (.data true tI)), (9, (.ptr 1 [])), (10, (.data true (.int .u64))), (11, (.data true tI))], [.rows 22 true (.arr 4 tI), .var 196 (.data true (.int .u64))], 1⟩), (23, ⟨[(0, (.own 0)), (1, (.data true tI)), (8, (.data true tI)), (9, (.ptr 1 [])), (10, (.data true (.int .u64))), (11, (.data true tI)), (12, (.data true tI))], [.rows 22 true (.arr 4 tI), .var 196 (.data true (.int .u64))], 1⟩)]⟩ Try.f242 slices_breakPatternsCmpFunc_A4_'o_i_compareCards_i slices_breakPatternsCmpFunc_A4_'o_i_compareCards_o x = slices_breakPatternsCmpFunc_A4_'o_i_compareCards n x.1 x.2.1 x.2.2 := by kernel_rfl
noncomputable def slices_breakPatternsCmpFunc_A4_'o_i_compareCards_e (n : Nat) : Ent := ⟨242, slices_breakPatternsCmpFunc_A4_'o_i_compareCards_i, slices_breakPatternsCmpFunc_A4_'o_i_compareCards_o, fun x => slices_breakPatternsCmpFunc_A4_'o_i_compareCards n x.1 x.2.1 x.2.2⟩
theorem slices_breakPatternsCmpFunc_A4_'o_i_compareCards_ok (n : Nat) : EntOK Try.prog (slices_breakPatternsCmpFunc_A4_'o_i_compareCards_e n) ∧ Own Try.prog 242 := ent_ok tabOK0 (.cons (slices_nextPowerOfTwo_ok n) (.cons (__slices_xorshift__Next'p_ok n) .nil)) Try.func242 rfl (by kernel_rfl) (slices_breakPatternsCmpFunc_A4_'o_i_compareCards_ev n)
def slices_pdqsortCmpFunc_A4_'o_i_compareCards_i : CSh := ⟨[(.own 0), (.data true tI), (.data true tI), (.data true tI), (.clo 190 .tnil)], [.rows 22 true (.arr 4 tI)]⟩
def slices_pdqsortCmpFunc_A4_'o_i_compareCards_o : RSh := ⟨.tnil, [.rows 22 true (.arr 4 tI)]⟩
theorem slices_pdqsortCmpFunc_A4_'o_i_compareCards_ev (n : Nat) (go : TupT slices_pdqsortCmpFunc_A4_'o_i_compareCards_i.tys → Option (TupT slices_pdqsortCmpFunc_A4_'o_i_compareCards_o.tys)) (x : TupT slices_pdqsortCmpFunc_A4_'o_i_compareCards_i.tys) : evF ⟨tab, [⟨227, slices_pdqsortCmpFunc_A4_'o_i_compareCards_i, slices_pdqsortCmpFunc_A4_'o_i_compareCards_o, go⟩, slices_insertionSortCmpFunc_A4_'o_i_compareCards_e n, slices_heapSortCmpFunc_A4_'o_i_compareCards_e n, slices_choosePivotCmpFunc_A4_'l_i_compareCards_e n, i_compareCards_e n, slices_partitionEqualCmpFunc_A4_'o_i_compareCards_e n, slices_partitionCmpFunc_A4_'o_i_compareCards_e n, slices_partialInsertionSortCmpFunc_A4_'o_i_compareCards_e n, slices_reverseRangeCmpFunc_A4_'o_i_compareCards_e n, slices_breakPatternsCmpFunc_A4_'o_i_compareCards_e n], n, [(5, ⟨[(0, (.own 0)), (1, (.data true tI)), (2, (.data true tI)), (3, (.data true tI)), (4, (.clo 190 .tnil)), (10, (.data true .bool)), (11, (.data true .bool))], [.rows 22 true (.arr 4 tI)], 1⟩), (25, ⟨[(0, (.own 0)), (1, (.data true tI)), (2, (.data true tI)), (3, (.data true tI)), (4, (.clo 190 .tnil)), (10, (.data true .bool)), (11, (.data true .bool)), (12, (.data true tI))], [.rows 22 true (.arr 4 tI)], 1⟩), (35, ⟨[(0, (.own 0)), (1, (.data true tI)), (2, (.data true tI)), (3, (.data true tI)), (4, (.clo 190 .tnil)), (10, (.data true .bool)), (11, (.data true .bool)), (12, (.data true tI)), (13, (.data true tI)), (14, (.data true tI))], [.rows 22 true (.arr 4 tI)], 1⟩), (45, ⟨[(0, (.own 0)), (1, (.data true tI)), (2, (.data true tI)), (3, (.data true tI)), (4, (.clo 190 .tnil)), (10, (.data true .bool)), (11, (.data true .bool)), (12, (.data true tI)), (13, (.data true tI))], [.rows 22 true (.arr 4 tI)], 1⟩)]⟩ Try.f227 slices_pdqsortCmpFunc_A4_'o_i_compareCards_i slices_pdqsortCmpFunc_A4_'o_i_compareCards_o x = slices_pdqsortCmpFunc_A4_'o_i_compareCards_R n go x := by kernel_rfl
noncomputable def slices_pdqsortCmpFunc_A4_'o_i_compareCards_e (n : Nat) : Ent := ⟨227, slices_pdqsortCmpFunc_A4_'o_i_compareCards_i, slices_pdqsortCmpFunc_A4_'o_i_compareCards_o, fun x => slices_pdqsortCmpFunc_A4_'o_i_compareCards n x.1 x.2.1 x.2.2.1 x.2.2.2⟩
theorem slices_pdqsortCmpFunc_A4_'o_i_compareCards_ok (n : Nat) : EntOK Try.prog (slices_pdqsortCmpFunc_A4_'o_i_compareCards_e n) ∧ Own Try.prog 227 := ent_rec tabOK0 (.cons (slices_insertionSortCmpFunc_A4_'o_i_compareCards_ok n) (.cons (slices_heapSortCmpFunc_A4_'o_i_compareCards_ok n) (.cons (slices_choosePivotCmpFunc_A4_'l_i_compareCards_ok n) (.cons (i_compareCards_ok n) (.cons (slices_partitionEqualCmpFunc_A4_'o_i_compareCards_ok n) (.cons (slices_partitionCmpFunc_A4_'o_i_compareCards_ok n) (.cons (slices_partialInsertionSortCmpFunc_A4_'o_i_compareCards_ok n) (.cons (slices_reverseRangeCmpFunc_A4_'o_i_compareCards_ok n) (.cons (slices_breakPatternsCmpFunc_A4_'o_i_compareCards_ok n) .nil))))))))) Try.func227 rfl (by kernel_rfl) (slices_pdqsortCmpFunc_A4_'o_i_compareCards_ev n) n
def slices_SortFunc_SA4_A4_'o_i_compareCards_i : CSh := ⟨[(.own 0), (.clo 190 .tnil)], [.rows 22 true (.arr 4 tI)]⟩
def slices_SortFunc_SA4_A4_'o_i_compareCards_o : RSh := ⟨.tnil, [.rows 22 true (.arr 4 tI)]⟩
theorem slices_SortFunc_SA4_A4_'o_i_compareCards_ev (n : Nat) (x : TupT slices_SortFunc_SA4_A4_'o_i_compareCards_i.tys) : evF ⟨tab, [math_bits_Len_e n, slices_pdqsortCmpFunc_A4_'o_i_compareCards_e n], n, []⟩ Try.f189 slices_SortFunc_SA4_A4_'o_i_compareCards_i slices_SortFunc_SA4_A4_'o_i_compareCards_o x = slices_SortFunc_SA4_A4_'o_i_compareCards n x := by kernel_rfl
noncomputable def slices_SortFunc_SA4_A4_'o_i_compareCards_e (n : Nat) : Ent := ⟨189, slices_SortFunc_SA4_A4_'o_i_compareCards_i, slices_SortFunc_SA4_A4_'o_i_compareCards_o, fun x => slices_SortFunc_SA4_A4_'o_i_compareCards n x⟩
theorem slices_SortFunc_SA4_A4_'o_i_compareCards_ok (n : Nat) : EntOK Try.prog (slices_SortFunc_SA4_A4_'o_i_compareCards_e n) ∧ Own Try.prog 189 := ent_ok tabOK0 (.cons (math_bits_Len_ok n) (.cons (slices_pdqsortCmpFunc_A4_'o_i_compareCards_ok n) .nil)) Try.func189 rfl (by kernel_rfl) (slices_SortFunc_SA4_A4_'o_i_compareCards_ev n)
def slices_Compact_SA4_A4_'o_i : CSh := ⟨[(.own 0)], [.rows 22 true (.arr 4 tI)]⟩
def slices_Compact_SA4_A4_'o_o : RSh := ⟨(.own 1), [.gone, .rows 22 true (.arr 4 tI)]⟩
theorem slices_Compact_SA4_A4_'o_ev (n : Nat) (x : TupT slices_Compact_SA4_A4_'o_i.tys) : evF ⟨tab, [], n, [(14, ⟨[(0, (.own 0)), (3, (.data true tI))], [.rows 22 true (.arr 4 tI)], 1⟩), (32, ⟨[(0, (.own 0)), (3, (.data true tI)), (4, (.ownp 0)), (5, (.data true tI))], [.rows 22 true (.arr 4 tI)], 1⟩)]⟩ Try.f191 slices_Compact_SA4_A4_'o_i slices_Compact_SA4_A4_'o_o x = slices_Compact_SA4_A4_'o n x := by kernel_rfl
noncomputable def slices_Compact_SA4_A4_'o_e (n : Nat) : Ent := ⟨191, slices_Compact_SA4_A4_'o_i, slices_Compact_SA4_A4_'o_o, fun x => slices_Compact_SA4_A4_'o n x⟩
theorem slices_Compact_SA4_A4_'o_ok (n : Nat) : EntOK Try.prog (slices_Compact_SA4_A4_'o_e n) ∧ Own Try.prog 191 := ent_ok tabOK0 .nil Try.func191 rfl (by kernel_rfl) (slices_Compact_SA4_A4_'o_ev n)
def i_sorted_i : CSh := ⟨[(.data false (.sl (.arr 4 tI)))], []⟩
def i_sorted_o : RSh := ⟨(.own 0), [.rows 22 true (.arr 4 tI)]⟩
theorem i_sorted_ev (n : Nat) (x : TupT i_sorted_i.tys) : evF ⟨tab, [slices_Clone_SA4_A4__e n, slices_SortFunc_SA4_A4_'o_i_compareCards_e n, slices_Compact_SA4_A4_'o_e n], n, []⟩ Try.f144 i_sorted_i i_sorted_o x = i_sorted n x := by kernel_rfl
noncomputable def i_sorted_e (n : Nat) : Ent := ⟨144, i_sorted_i, i_sorted_o, fun x => i_sorted n x⟩
theorem i_sorted_ok (n : Nat) : EntOK Try.prog (i_sorted_e n) ∧ Own Try.prog 144 := ent_ok tabOK0 (.cons (slices_Clone_SA4_A4__ok n) (.cons (slices_SortFunc_SA4_A4_'o_i_compareCards_ok n) (.cons (slices_Compact_SA4_A4_'o_ok n) .nil))) Try.func144 rfl (by kernel_rfl) (i_sorted_ev n)
def i_ShadowHand_i : CSh := ⟨[(.data false (.sl (.arr 4 tI))), (.data true tI)], []⟩
def i_ShadowHand_o : RSh := ⟨(.tcons (.own 0) (.tcons (.data true .bool) .tnil)), [.rows 22 true (.arr 4 tI)]⟩
theorem i_ShadowHand_ev (n : Nat) (x : TupT i_ShadowHand_i.tys) : evF ⟨tab, [i_IsHand_e n, i_IsMask_e n, i_shadows_e n, i_sorted_e n], n, []⟩ Try.f57 i_ShadowHand_i i_ShadowHand_o x = i_ShadowHand n x.1 x.2 := by kernel_rfl
noncomputable def i_ShadowHand_e (n : Nat) : Ent := ⟨57, i_ShadowHand_i, i_ShadowHand_o, fun x => i_ShadowHand n x.1 x.2⟩
theorem i_ShadowHand_ok (n : Nat) : EntOK Try.prog (i_ShadowHand_e n) ∧ Own Try.prog 57 := ent_ok tabOK0 (.cons (i_IsHand_ok n) (.cons (i_IsMask_ok n) (.cons (i_shadows_ok n) (.cons (i_sorted_ok n) .nil)))) Try.func57 rfl (by kernel_rfl) (i_ShadowHand_ev n)
def v_eqIntA4_i : CSh := ⟨[(.data true (.arr 4 tI)), (.data true (.arr 4 tI))], []⟩
def v_eqIntA4_o : RSh := ⟨(.data true .bool), []⟩
theorem v_eqIntA4_ev (n : Nat) (x : TupT v_eqIntA4_i.tys) : evF ⟨tab, [], n, [(6, ⟨[(2, (.ptr 0 [])), (3, (.ptr 1 [])), (5, (.data true tI))], [.var 22 (.data true (.arr 4 tI)), .var 22 (.data true (.arr 4 tI))], 0⟩)]⟩ Try.f13 v_eqIntA4_i v_eqIntA4_o x = v_eqIntA4 n x.1 x.2 := by kernel_rfl
noncomputable def v_eqIntA4_e (n : Nat) : Ent := ⟨13, v_eqIntA4_i, v_eqIntA4_o, fun x => v_eqIntA4 n x.1 x.2⟩
theorem v_eqIntA4_ok (n : Nat) : EntOK Try.prog (v_eqIntA4_e n) ∧ Own Try.prog 13 := ent_ok tabOK0 .nil Try.func13 rfl (by kernel_rfl) (v_eqIntA4_ev n)
def v_eqIntA4S_i : CSh := ⟨[(.data false (.sl (.arr 4 tI))), (.data false (.sl (.arr 4 tI)))], []⟩
def v_eqIntA4S_o : RSh := ⟨(.data true .bool), []⟩
theorem v_eqIntA4S_ev (n : Nat) (x : TupT v_eqIntA4S_i.tys) : evF ⟨tab, [v_eqIntA4_e n], n, [(14, ⟨[(0, (.data false (.sl (.arr 4 tI)))), (1, (.data false (.sl (.arr 4 tI)))), (5, (.data true tI))], [], 0⟩)]⟩ Try.f58 v_eqIntA4S_i v_eqIntA4S_o x = v_eqIntA4S n x.1 x.2 := by kernel_rfl
noncomputable def v_eqIntA4S_e (n : Nat) : Ent := ⟨58, v_eqIntA4S_i, v_eqIntA4S_o, fun x => v_eqIntA4S n x.1 x.2⟩
theorem v_eqIntA4S_ok (n : Nat) : EntOK Try.prog (v_eqIntA4S_e n) ∧ Own Try.prog 58 := ent_ok tabOK0 (.cons (v_eqIntA4_ok n) .nil) Try.func58 rfl (by kernel_rfl) (v_eqIntA4S_ev n)
def v_markIntA4S'o_i : CSh := ⟨[(.own 0), (.data true tI)], [.rows 22 true (.arr 4 tI)]⟩
def v_markIntA4S'o_o : RSh := ⟨(.data true tI), [.rows 22 true (.arr 4 tI)]⟩
theorem v_markIntA4S'o_ev (n : Nat) (x : TupT v_markIntA4S'o_i.tys) : evF ⟨tab, [], n, [(6, ⟨[(0, (.own 0)), (1, (.data true tI)), (5, (.data true tI))], [.rows 22 true (.arr 4 tI)], 1⟩), (18, ⟨[(0, (.own 0)), (1, (.data true tI)), (5, (.data true tI)), (6, (.data true tI))], [.rows 22 true (.arr 4 tI)], 1⟩)]⟩ Try.f59 v_markIntA4S'o_i v_markIntA4S'o_o x = v_markIntA4S'o n x.1 x.2 := by kernel_rfl
noncomputable def v_markIntA4S'o_e (n : Nat) : Ent := ⟨59, v_markIntA4S'o_i, v_markIntA4S'o_o, fun x => v_markIntA4S'o n x.1 x.2⟩
theorem v_markIntA4S'o_ok (n : Nat) : EntOK Try.prog (v_markIntA4S'o_e n) ∧ Own Try.prog 59 := ent_ok tabOK0 .nil Try.func59 rfl (by kernel_rfl) (v_markIntA4S'o_ev n)
def v_heldIntA4S_i : CSh := ⟨[(.data false (.sl (.arr 4 tI))), (.data true tI)], []⟩
def v_heldIntA4S_o : RSh := ⟨(.data true tI), []⟩
theorem v_heldIntA4S_ev (n : Nat) (x : TupT v_heldIntA4S_i.tys) : evF ⟨tab, [], n, [(6, ⟨[(0, (.data false (.sl (.arr 4 tI)))), (1, (.data true tI)), (5, (.data true tI))], [], 0⟩), (18, ⟨[(0, (.data false (.sl (.arr 4 tI)))), (1, (.data true tI)), (5, (.data true tI)), (6, (.data true tI))], [], 0⟩)]⟩ Try.f60 v_heldIntA4S_i v_heldIntA4S_o x = v_heldIntA4S n x.1 x.2 := by kernel_rfl
noncomputable def v_heldIntA4S_e (n : Nat) : Ent := ⟨60, v_heldIntA4S_i, v_heldIntA4S_o, fun x => v_heldIntA4S n x.1 x.2⟩
theorem v_heldIntA4S_ok (n : Nat) : EntOK Try.prog (v_heldIntA4S_e n) ∧ Own Try.prog 60 := ent_ok tabOK0 .nil Try.func60 rfl (by kernel_rfl) (v_heldIntA4S_ev n)
def v_FnExactShadowHand_i : CSh := ⟨[(.data false (.sl (.arr 4 tI))), (.data true tI)], []⟩
def v_FnExactShadowHand_o : RSh := ⟨(.data true .bool), []⟩
theorem v_FnExactShadowHand_ev (n : Nat) (x : TupT v_FnExactShadowHand_i.tys) : evF ⟨tab, [v_szIntA4S_e n, v_toIntA4S_e n, s_ShadowHand_e n, i_ShadowHand_e n, v_eqIntA4S_e n, v_markIntA4S'o_e n, v_heldIntA4S_e n], n, []⟩ Try.f8 v_FnExactShadowHand_i v_FnExactShadowHand_o x = v_FnExactShadowHand n x.1 x.2 := by kernel_rfl
noncomputable def v_FnExactShadowHand_e (n : Nat) : Ent := ⟨8, v_FnExactShadowHand_i, v_FnExactShadowHand_o, fun x => v_FnExactShadowHand n x.1 x.2⟩
theorem v_FnExactShadowHand_ok (n : Nat) : EntOK Try.prog (v_FnExactShadowHand_e n) ∧ Own Try.prog 8 := ent_ok tabOK0 (.cons (v_szIntA4S_ok n) (.cons (v_toIntA4S_ok n) (.cons (s_ShadowHand_ok n) (.cons (i_ShadowHand_ok n) (.cons (v_eqIntA4S_ok n) (.cons (v_markIntA4S'o_ok n) (.cons (v_heldIntA4S_ok n) .nil))))))) Try.func8 rfl (by kernel_rfl) (v_FnExactShadowHand_ev n)
end Go.Proofs.Ytmojhlpphinobaa
