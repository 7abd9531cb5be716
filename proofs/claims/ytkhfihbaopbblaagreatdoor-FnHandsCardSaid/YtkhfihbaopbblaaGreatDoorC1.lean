/- Printed by a program of the session: the contracts of the seat's functions. -/
import Derived.Test.YtkhfihbaopbblaaGreatDoorZ7
import Derived.Test.YtkhfihbaopbblaaGreatDoorPL
import Derived.Test.YtkhfihbaopbblaaGreatDoorRows
import Derived.Test.YtkhfihbaopbblaaGreatDoorSh
import Derived.KernelRfl
namespace Go.Proofs.YtkhfihbaopbblaaGreatDoor
open Go Go.Tv Go.Pl Go.RowKit
set_option linter.unusedVariables false
abbrev tI : Ty := .int .i64
def tab : Tab := ⟨[(2, ⟨tI, 0, 8⟩), (3, ⟨tI, 0, 8⟩), (4, ⟨.bool, 0, 1⟩), (5, ⟨(.int .u8), 0, 1⟩), (6, ⟨(.int .u8), 0, 1⟩), (7, ⟨(.pair tI (.pair tI (.pair .bool (.int .u8)))), 4, 24⟩), (8, ⟨(.pair tI (.pair tI (.pair .bool (.int .u8)))), 4, 24⟩), (9, ⟨.str, 0, 16⟩), (10, ⟨.str, 0, 16⟩), (11, ⟨.str, 0, 16⟩), (12, ⟨(.int .u64), 0, 8⟩), (13, ⟨(.pair .str (.int .u64)), 2, 24⟩), (14, ⟨(.pair .str (.int .u64)), 2, 24⟩), (21, ⟨(.int .i32), 0, 4⟩), (22, ⟨(.sl (.int .u8)), 5, 1⟩), (24, ⟨(.sl (.arr 4 tI)), 31, 32⟩), (26, ⟨(.sl (.arr 3 tI)), 55, 24⟩), (31, ⟨(.arr 4 tI), 3, 8⟩), (43, ⟨(.sl tI), 3, 8⟩), (55, ⟨(.arr 3 tI), 3, 8⟩), (57, ⟨(.int .u64), 0, 8⟩), (58, ⟨(.pair (.sl (.int .u8)) (.pair tI (.int .u64))), 3, 40⟩), (59, ⟨(.pair (.sl (.int .u8)) (.pair tI (.int .u64))), 3, 40⟩), (62, ⟨(.sl (.arr 2 tI)), 85, 16⟩), (78, ⟨(.sl .str), 9, 16⟩), (81, ⟨(.arr 81 tI), 3, 8⟩), (85, ⟨(.arr 2 tI), 3, 8⟩), (98, ⟨(.int .u64), 0, 8⟩), (113, ⟨tI, 0, 8⟩), (120, ⟨(.int .u32), 0, 4⟩), (125, ⟨(.int .u64), 0, 8⟩), (141, ⟨(.arr 256 (.int .u8)), 5, 1⟩), (142, ⟨(.pair (.int .u8) (.int .u8)), 2, 2⟩), (143, ⟨(.pair (.int .u8) (.int .u8)), 2, 2⟩), (144, ⟨(.arr 16 (.pair (.int .u8) (.int .u8))), 143, 2⟩), (152, ⟨(.int .u8), 0, 1⟩), (153, ⟨(.int .u8), 0, 1⟩), (155, ⟨(.int .i32), 0, 4⟩), (156, ⟨(.int .i32), 0, 4⟩)], [7, 8, 31, 55, 81, 85, 141, 142, 143, 144], [1, 23, 25, 28, 29, 30, 33, 35, 37, 39, 40, 42, 45, 46, 47, 49, 50, 51, 52, 53, 54, 60, 61, 63, 64, 65, 66, 67, 68, 69, 70, 71, 72, 73, 74, 75, 76, 77, 79, 80, 82, 83, 84, 86, 87, 88, 89, 90, 91, 92, 93, 94, 95, 96, 97, 99, 103, 107, 108, 109, 110, 111, 112, 115, 116, 117, 118, 119, 121, 123, 124, 126, 127, 128, 130, 132, 133, 134, 136, 137, 140, 146, 154]⟩
theorem tabOK0 : TabOK Tryz.prog tab := ⟨by kernel_rfl, by kernel_rfl⟩
instance inv0 : Inv := Inv.none
def v_rBig_i : CSh := ⟨[(.data false (.sl (.int .u8)))], []⟩
def v_rBig_o : RSh := ⟨(.data true .bool), []⟩
theorem v_rBig_ev (n : Nat) (x : TupT v_rBig_i.tys) : evF ⟨tab, [], n, []⟩ Tryz.f4 v_rBig_i v_rBig_o x = v_rBig n x := by kernel_rfl
noncomputable def v_rBig_e (n : Nat) : Ent := ⟨4, v_rBig_i, v_rBig_o, fun x => v_rBig n x⟩
theorem v_rBig_ok (n : Nat) : EntOK Tryz.prog (v_rBig_e n) ∧ Own Tryz.prog 4 := ent_ok tabOK0 .nil Tryz.func4 rfl (by kernel_rfl) (v_rBig_ev n)
def s_Cur_next'p_i : CSh := ⟨[(.ptr 0 [])], [.var 59 (.data true (.pair (.sl (.int .u8)) (.pair tI (.int .u64))))]⟩
def s_Cur_next'p_o : RSh := ⟨(.data true tI), [.var 59 (.data true (.pair (.sl (.int .u8)) (.pair tI (.int .u64))))]⟩
theorem s_Cur_next'p_ev (n : Nat) (x : TupT s_Cur_next'p_i.tys) : evF ⟨tab, [], n, [(4, ⟨[(0, (.ptr 0 [])), (3, (.data true tI))], [.var 59 (.data true (.pair (.sl (.int .u8)) (.pair tI (.int .u64))))], 1⟩)]⟩ Tryz.f80 s_Cur_next'p_i s_Cur_next'p_o x = s_Cur_next'p n x := by kernel_rfl
noncomputable def s_Cur_next'p_e (n : Nat) : Ent := ⟨80, s_Cur_next'p_i, s_Cur_next'p_o, fun x => s_Cur_next'p n x⟩
theorem s_Cur_next'p_ok (n : Nat) : EntOK Tryz.prog (s_Cur_next'p_e n) ∧ Own Tryz.prog 80 := ent_ok tabOK0 .nil Tryz.func80 rfl (by kernel_rfl) (s_Cur_next'p_ev n)
def s_Cur_pick'p_i : CSh := ⟨[(.ptr 0 []), (.data true tI)], [.var 59 (.data true (.pair (.sl (.int .u8)) (.pair tI (.int .u64))))]⟩
def s_Cur_pick'p_o : RSh := ⟨(.data true tI), [.var 59 (.data true (.pair (.sl (.int .u8)) (.pair tI (.int .u64))))]⟩
theorem s_Cur_pick'p_ev (n : Nat) (x : TupT s_Cur_pick'p_i.tys) : evF ⟨tab, [s_Cur_next'p_e n], n, []⟩ Tryz.f53 s_Cur_pick'p_i s_Cur_pick'p_o x = s_Cur_pick'p n x.1 x.2 := by kernel_rfl
noncomputable def s_Cur_pick'p_e (n : Nat) : Ent := ⟨53, s_Cur_pick'p_i, s_Cur_pick'p_o, fun x => s_Cur_pick'p n x.1 x.2⟩
theorem s_Cur_pick'p_ok (n : Nat) : EntOK Tryz.prog (s_Cur_pick'p_e n) ∧ Own Tryz.prog 53 := ent_ok tabOK0 (.cons (s_Cur_next'p_ok n) .nil) Tryz.func53 rfl (by kernel_rfl) (s_Cur_pick'p_ev n)
def s_Cur_among'pl_i : CSh := ⟨[(.ptr 0 []), (.data false (.sl tI))], [.var 59 (.data true (.pair (.sl (.int .u8)) (.pair tI (.int .u64))))]⟩
def s_Cur_among'pl_o : RSh := ⟨(.data true tI), [.var 59 (.data true (.pair (.sl (.int .u8)) (.pair tI (.int .u64))))]⟩
theorem s_Cur_among'pl_ev (n : Nat) (x : TupT s_Cur_among'pl_i.tys) : evF ⟨tab, [s_Cur_pick'p_e n], n, []⟩ Tryz.f56 s_Cur_among'pl_i s_Cur_among'pl_o x = s_Cur_among'pl n x.1 x.2 := by kernel_rfl
noncomputable def s_Cur_among'pl_e (n : Nat) : Ent := ⟨56, s_Cur_among'pl_i, s_Cur_among'pl_o, fun x => s_Cur_among'pl n x.1 x.2⟩
theorem s_Cur_among'pl_ok (n : Nat) : EntOK Tryz.prog (s_Cur_among'pl_e n) ∧ Own Tryz.prog 56 := ent_ok tabOK0 (.cons (s_Cur_pick'p_ok n) .nil) Tryz.func56 rfl (by kernel_rfl) (s_Cur_among'pl_ev n)
def s_l2At_i : CSh := ⟨[(.data true tI)], []⟩
def s_l2At_o : RSh := ⟨(.data true (.arr 4 tI)), []⟩
theorem s_l2At_ev (n : Nat) (x : TupT s_l2At_i.tys) : evF ⟨tab, [], n, []⟩ Tryz.f57 s_l2At_i s_l2At_o x = s_l2At n x := by kernel_rfl
noncomputable def s_l2At_e (n : Nat) : Ent := ⟨57, s_l2At_i, s_l2At_o, fun x => s_l2At n x⟩
theorem s_l2At_ok (n : Nat) : EntOK Tryz.prog (s_l2At_e n) ∧ Own Tryz.prog 57 := ent_ok tabOK0 .nil Tryz.func57 rfl (by kernel_rfl) (s_l2At_ev n)
def s_l2Number_i : CSh := ⟨[(.data true (.arr 4 tI))], []⟩
def s_l2Number_o : RSh := ⟨(.data true tI), []⟩
theorem s_l2Number_ev (n : Nat) (x : TupT s_l2Number_i.tys) : evF ⟨tab, [], n, []⟩ Tryz.f88 s_l2Number_i s_l2Number_o x = s_l2Number n x := by kernel_rfl
noncomputable def s_l2Number_e (n : Nat) : Ent := ⟨88, s_l2Number_i, s_l2Number_o, fun x => s_l2Number n x⟩
theorem s_l2Number_ok (n : Nat) : EntOK Tryz.prog (s_l2Number_e n) ∧ Own Tryz.prog 88 := ent_ok tabOK0 .nil Tryz.func88 rfl (by kernel_rfl) (s_l2Number_ev n)
def s_l2Less_i : CSh := ⟨[(.data true (.arr 4 tI)), (.data true (.arr 4 tI))], []⟩
def s_l2Less_o : RSh := ⟨(.data true .bool), []⟩
theorem s_l2Less_ev (n : Nat) (x : TupT s_l2Less_i.tys) : evF ⟨tab, [s_l2Number_e n], n, []⟩ Tryz.f69 s_l2Less_i s_l2Less_o x = s_l2Less n x.1 x.2 := by kernel_rfl
noncomputable def s_l2Less_e (n : Nat) : Ent := ⟨69, s_l2Less_i, s_l2Less_o, fun x => s_l2Less n x.1 x.2⟩
theorem s_l2Less_ok (n : Nat) : EntOK Tryz.prog (s_l2Less_e n) ∧ Own Tryz.prog 69 := ent_ok tabOK0 (.cons (s_l2Number_ok n) .nil) Tryz.func69 rfl (by kernel_rfl) (s_l2Less_ev n)
def s_l2Own_i : CSh := ⟨[(.data false (.sl (.arr 4 tI)))], []⟩
def s_l2Own_o : RSh := ⟨(.own 0), [.rows 31 true (.arr 4 tI)]⟩
theorem s_l2Own_ev (n : Nat) (x : TupT s_l2Own_i.tys) : evF ⟨tab, [], n, []⟩ Tryz.f77 s_l2Own_i s_l2Own_o x = s_l2Own n x := by kernel_rfl
noncomputable def s_l2Own_e (n : Nat) : Ent := ⟨77, s_l2Own_i, s_l2Own_o, fun x => s_l2Own n x⟩
theorem s_l2Own_ok (n : Nat) : EntOK Tryz.prog (s_l2Own_e n) ∧ Own Tryz.prog 77 := ent_ok tabOK0 .nil Tryz.func77 rfl (by kernel_rfl) (s_l2Own_ev n)
def s_l2Put_i : CSh := ⟨[(.data false (.sl (.arr 4 tI))), (.data true (.arr 4 tI))], []⟩
def s_l2Put_o : RSh := ⟨(.own 0), [.rows 31 true (.arr 4 tI)]⟩
theorem s_l2Put_ev (n : Nat) (x : TupT s_l2Put_i.tys) : evF ⟨tab, [s_l2Less_e n, s_l2Own_e n], n, [(6, ⟨[(0, (.data false (.sl (.arr 4 tI)))), (3, (.ptr 0 [])), (5, (.data true tI))], [.var 31 (.data true (.arr 4 tI))], 0⟩)]⟩ Tryz.f49 s_l2Put_i s_l2Put_o x = s_l2Put n x.1 x.2 := by kernel_rfl
noncomputable def s_l2Put_e (n : Nat) : Ent := ⟨49, s_l2Put_i, s_l2Put_o, fun x => s_l2Put n x.1 x.2⟩
theorem s_l2Put_ok (n : Nat) : EntOK Tryz.prog (s_l2Put_e n) ∧ Own Tryz.prog 49 := ent_ok tabOK0 (.cons (s_l2Less_ok n) (.cons (s_l2Own_ok n) .nil)) Tryz.func49 rfl (by kernel_rfl) (s_l2Put_ev n)
def s_Cur_one'p_i : CSh := ⟨[(.ptr 0 []), (.data true tI)], [.var 59 (.data true (.pair (.sl (.int .u8)) (.pair tI (.int .u64))))]⟩
def s_Cur_one'p_o : RSh := ⟨(.data true .bool), [.var 59 (.data true (.pair (.sl (.int .u8)) (.pair tI (.int .u64))))]⟩
theorem s_Cur_one'p_ev (n : Nat) (x : TupT s_Cur_one'p_i.tys) : evF ⟨tab, [s_Cur_pick'p_e n], n, []⟩ Tryz.f58 s_Cur_one'p_i s_Cur_one'p_o x = s_Cur_one'p n x.1 x.2 := by kernel_rfl
noncomputable def s_Cur_one'p_e (n : Nat) : Ent := ⟨58, s_Cur_one'p_i, s_Cur_one'p_o, fun x => s_Cur_one'p n x.1 x.2⟩
theorem s_Cur_one'p_ok (n : Nat) : EntOK Tryz.prog (s_Cur_one'p_e n) ∧ Own Tryz.prog 58 := ent_ok tabOK0 (.cons (s_Cur_pick'p_ok n) .nil) Tryz.func58 rfl (by kernel_rfl) (s_Cur_one'p_ev n)
def s_Cur_hand'p_i : CSh := ⟨[(.ptr 0 [])], [.var 59 (.data true (.pair (.sl (.int .u8)) (.pair tI (.int .u64))))]⟩
def s_Cur_hand'p_o : RSh := ⟨(.own 1), [.var 59 (.data true (.pair (.sl (.int .u8)) (.pair tI (.int .u64)))), .rows 31 true (.arr 4 tI)]⟩
theorem s_Cur_hand'p_ev (n : Nat) (x : TupT s_Cur_hand'p_i.tys) : evF ⟨tab, [s_Cur_among'pl_e n, s_Cur_pick'p_e n, s_l2At_e n, s_l2Put_e n, s_Cur_one'p_e n], n, [(8, ⟨[(0, (.ptr 0 [])), (3, (.own 1)), (4, (.data true tI)), (5, (.data true tI))], [.var 59 (.data true (.pair (.sl (.int .u8)) (.pair tI (.int .u64)))), .rows 31 true (.arr 4 tI)], 1⟩), (23, ⟨[(0, (.ptr 0 [])), (3, (.own 1)), (4, (.data true tI)), (5, (.data true tI)), (6, (.ptr 2 [])), (7, (.data true tI))], [.var 59 (.data true (.pair (.sl (.int .u8)) (.pair tI (.int .u64)))), .rows 31 true (.arr 4 tI), .var 31 (.data true (.arr 4 tI))], 1⟩), (5000038, ⟨[(0, (.ptr 0 [])), (3, (.own 1)), (39, (.data true .bool))], [.var 59 (.data true (.pair (.sl (.int .u8)) (.pair tI (.int .u64)))), .rows 31 true (.arr 4 tI)], 1⟩)]⟩ Tryz.f38 s_Cur_hand'p_i s_Cur_hand'p_o x = s_Cur_hand'p n x := by kernel_rfl
noncomputable def s_Cur_hand'p_e (n : Nat) : Ent := ⟨38, s_Cur_hand'p_i, s_Cur_hand'p_o, fun x => s_Cur_hand'p n x⟩
theorem s_Cur_hand'p_ok (n : Nat) : EntOK Tryz.prog (s_Cur_hand'p_e n) ∧ Own Tryz.prog 38 := ent_ok tabOK0 (.cons (s_Cur_among'pl_ok n) (.cons (s_Cur_pick'p_ok n) (.cons (s_l2At_ok n) (.cons (s_l2Put_ok n) (.cons (s_Cur_one'p_ok n) .nil))))) Tryz.func38 rfl (by kernel_rfl) (s_Cur_hand'p_ev n)
def s_DrawIsHand_i : CSh := ⟨[(.data false (.sl (.int .u8)))], []⟩
def s_DrawIsHand_o : RSh := ⟨(.own 0), [.rows 31 true (.arr 4 tI)]⟩
theorem s_DrawIsHand_ev (n : Nat) (x : TupT s_DrawIsHand_i.tys) : evF ⟨tab, [s_Cur_hand'p_e n], n, []⟩ Tryz.f32 s_DrawIsHand_i s_DrawIsHand_o x = s_DrawIsHand n x := by kernel_rfl
noncomputable def s_DrawIsHand_e (n : Nat) : Ent := ⟨32, s_DrawIsHand_i, s_DrawIsHand_o, fun x => s_DrawIsHand n x⟩
theorem s_DrawIsHand_ok (n : Nat) : EntOK Tryz.prog (s_DrawIsHand_e n) ∧ Own Tryz.prog 32 := ent_ok tabOK0 (.cons (s_Cur_hand'p_ok n) .nil) Tryz.func32 rfl (by kernel_rfl) (s_DrawIsHand_ev n)
def s_DrawLinesIn_i : CSh := ⟨[(.data false (.sl (.int .u8)))], []⟩
def s_DrawLinesIn_o : RSh := ⟨(.own 0), [.rows 31 true (.arr 4 tI)]⟩
theorem s_DrawLinesIn_ev (n : Nat) (x : TupT s_DrawLinesIn_i.tys) : evF ⟨tab, [s_DrawIsHand_e n], n, []⟩ Tryz.f5 s_DrawLinesIn_i s_DrawLinesIn_o x = s_DrawLinesIn n x := by kernel_rfl
noncomputable def s_DrawLinesIn_e (n : Nat) : Ent := ⟨5, s_DrawLinesIn_i, s_DrawLinesIn_o, fun x => s_DrawLinesIn n x⟩
theorem s_DrawLinesIn_ok (n : Nat) : EntOK Tryz.prog (s_DrawLinesIn_e n) ∧ Own Tryz.prog 5 := ent_ok tabOK0 (.cons (s_DrawIsHand_ok n) .nil) Tryz.func5 rfl (by kernel_rfl) (s_DrawLinesIn_ev n)
def i_within_i : CSh := ⟨[(.data true tI), (.data true tI), (.data true tI)], []⟩
def i_within_o : RSh := ⟨(.data true .bool), []⟩
theorem i_within_ev (n : Nat) (x : TupT i_within_i.tys) : evF ⟨tab, [], n, []⟩ Tryz.f54 i_within_i i_within_o x = i_within n x.1 x.2.1 x.2.2 := by kernel_rfl
noncomputable def i_within_e (n : Nat) : Ent := ⟨54, i_within_i, i_within_o, fun x => i_within n x.1 x.2.1 x.2.2⟩
theorem i_within_ok (n : Nat) : EntOK Tryz.prog (i_within_e n) ∧ Own Tryz.prog 54 := ent_ok tabOK0 .nil Tryz.func54 rfl (by kernel_rfl) (i_within_ev n)
def i_allWithin_1'pp_i : CSh := ⟨[(.data true tI), (.ptr 0 []), (.ptr 1 [])], [.var 3 (.data true tI), .var 3 (.data true tI)]⟩
def i_allWithin_1'pp_o : RSh := ⟨(.data true .bool), [.var 3 (.data true tI), .var 3 (.data true tI)]⟩
theorem i_allWithin_1'pp_ev (n : Nat) (x : TupT i_allWithin_1'pp_i.tys) : evF ⟨tab, [i_within_e n], n, []⟩ Tryz.f90 i_allWithin_1'pp_i i_allWithin_1'pp_o x = i_allWithin_1'pp n x.1 x.2.1 x.2.2 := by kernel_rfl
noncomputable def i_allWithin_1'pp_e (n : Nat) : Ent := ⟨90, i_allWithin_1'pp_i, i_allWithin_1'pp_o, fun x => i_allWithin_1'pp n x.1 x.2.1 x.2.2⟩
theorem i_allWithin_1'pp_ok (n : Nat) : EntOK Tryz.prog (i_allWithin_1'pp_e n) ∧ Own Tryz.prog 90 := ent_ok tabOK0 (.cons (i_within_ok n) .nil) Tryz.func90 rfl (by kernel_rfl) (i_allWithin_1'pp_ev n)
def slices_IndexFunc_Sint_int_'l_i_allWithin_1pp_i : CSh := ⟨[(.data false (.sl tI)), (.clo 90 (.tcons (.ptr 0 []) (.tcons (.ptr 1 []) .tnil)))], [.var 3 (.data true tI), .var 3 (.data true tI)]⟩
def slices_IndexFunc_Sint_int_'l_i_allWithin_1pp_o : RSh := ⟨(.data true tI), [.var 3 (.data true tI), .var 3 (.data true tI)]⟩
theorem slices_IndexFunc_Sint_int_'l_i_allWithin_1pp_ev (n : Nat) (x : TupT slices_IndexFunc_Sint_int_'l_i_allWithin_1pp_i.tys) : evF ⟨tab, [i_allWithin_1'pp_e n], n, [(6, ⟨[(0, (.data false (.sl tI))), (1, (.clo 90 (.tcons (.ptr 0 []) (.tcons (.ptr 1 []) .tnil)))), (7, (.data true tI)), (8, (.data true tI))], [.var 3 (.data true tI), .var 3 (.data true tI)], 2⟩)]⟩ Tryz.f100 slices_IndexFunc_Sint_int_'l_i_allWithin_1pp_i slices_IndexFunc_Sint_int_'l_i_allWithin_1pp_o x = slices_IndexFunc_Sint_int_'l_i_allWithin_1pp n x.1 x.2.1 x.2.2 := by kernel_rfl
noncomputable def slices_IndexFunc_Sint_int_'l_i_allWithin_1pp_e (n : Nat) : Ent := ⟨100, slices_IndexFunc_Sint_int_'l_i_allWithin_1pp_i, slices_IndexFunc_Sint_int_'l_i_allWithin_1pp_o, fun x => slices_IndexFunc_Sint_int_'l_i_allWithin_1pp n x.1 x.2.1 x.2.2⟩
theorem slices_IndexFunc_Sint_int_'l_i_allWithin_1pp_ok (n : Nat) : EntOK Tryz.prog (slices_IndexFunc_Sint_int_'l_i_allWithin_1pp_e n) ∧ Own Tryz.prog 100 := ent_ok tabOK0 (.cons (i_allWithin_1'pp_ok n) .nil) Tryz.func100 rfl (by kernel_rfl) (slices_IndexFunc_Sint_int_'l_i_allWithin_1pp_ev n)
def slices_ContainsFunc_Sint_int_'l_i_allWithin_1pp_i : CSh := ⟨[(.data false (.sl tI)), (.clo 90 (.tcons (.ptr 0 []) (.tcons (.ptr 1 []) .tnil)))], [.var 3 (.data true tI), .var 3 (.data true tI)]⟩
def slices_ContainsFunc_Sint_int_'l_i_allWithin_1pp_o : RSh := ⟨(.data true .bool), [.var 3 (.data true tI), .var 3 (.data true tI)]⟩
theorem slices_ContainsFunc_Sint_int_'l_i_allWithin_1pp_ev (n : Nat) (x : TupT slices_ContainsFunc_Sint_int_'l_i_allWithin_1pp_i.tys) : evF ⟨tab, [slices_IndexFunc_Sint_int_'l_i_allWithin_1pp_e n], n, []⟩ Tryz.f89 slices_ContainsFunc_Sint_int_'l_i_allWithin_1pp_i slices_ContainsFunc_Sint_int_'l_i_allWithin_1pp_o x = slices_ContainsFunc_Sint_int_'l_i_allWithin_1pp n x.1 x.2.1 x.2.2 := by kernel_rfl
noncomputable def slices_ContainsFunc_Sint_int_'l_i_allWithin_1pp_e (n : Nat) : Ent := ⟨89, slices_ContainsFunc_Sint_int_'l_i_allWithin_1pp_i, slices_ContainsFunc_Sint_int_'l_i_allWithin_1pp_o, fun x => slices_ContainsFunc_Sint_int_'l_i_allWithin_1pp n x.1 x.2.1 x.2.2⟩
theorem slices_ContainsFunc_Sint_int_'l_i_allWithin_1pp_ok (n : Nat) : EntOK Tryz.prog (slices_ContainsFunc_Sint_int_'l_i_allWithin_1pp_e n) ∧ Own Tryz.prog 89 := ent_ok tabOK0 (.cons (slices_IndexFunc_Sint_int_'l_i_allWithin_1pp_ok n) .nil) Tryz.func89 rfl (by kernel_rfl) (slices_ContainsFunc_Sint_int_'l_i_allWithin_1pp_ev n)
def i_allWithin_i : CSh := ⟨[(.data false (.sl tI)), (.data true tI), (.data true tI)], []⟩
def i_allWithin_o : RSh := ⟨(.data true .bool), []⟩
theorem i_allWithin_ev (n : Nat) (x : TupT i_allWithin_i.tys) : evF ⟨tab, [slices_ContainsFunc_Sint_int_'l_i_allWithin_1pp_e n], n, []⟩ Tryz.f71 i_allWithin_i i_allWithin_o x = i_allWithin n x.1 x.2.1 x.2.2 := by kernel_rfl
noncomputable def i_allWithin_e (n : Nat) : Ent := ⟨71, i_allWithin_i, i_allWithin_o, fun x => i_allWithin n x.1 x.2.1 x.2.2⟩
theorem i_allWithin_ok (n : Nat) : EntOK Tryz.prog (i_allWithin_e n) ∧ Own Tryz.prog 71 := ent_ok tabOK0 (.cons (slices_ContainsFunc_Sint_int_'l_i_allWithin_1pp_ok n) .nil) Tryz.func71 rfl (by kernel_rfl) (i_allWithin_ev n)
def i_IsCard_i : CSh := ⟨[(.data true (.arr 4 tI))], []⟩
def i_IsCard_o : RSh := ⟨(.data true .bool), []⟩
theorem i_IsCard_ev (n : Nat) (x : TupT i_IsCard_i.tys) : evF ⟨tab, [i_allWithin_e n], n, []⟩ Tryz.f36 i_IsCard_i i_IsCard_o x = i_IsCard n x := by kernel_rfl
noncomputable def i_IsCard_e (n : Nat) : Ent := ⟨36, i_IsCard_i, i_IsCard_o, fun x => i_IsCard n x⟩
theorem i_IsCard_ok (n : Nat) : EntOK Tryz.prog (i_IsCard_e n) ∧ Own Tryz.prog 36 := ent_ok tabOK0 (.cons (i_allWithin_ok n) .nil) Tryz.func36 rfl (by kernel_rfl) (i_IsCard_ev n)
def i_number_i : CSh := ⟨[(.data true (.arr 4 tI))], []⟩
def i_number_o : RSh := ⟨(.data true tI), []⟩
theorem i_number_ev (n : Nat) (x : TupT i_number_i.tys) : evF ⟨tab, [], n, [(8, ⟨[(3, (.data true tI)), (6, (.data true (.arr 4 tI))), (7, (.data true tI))], [], 0⟩)]⟩ Tryz.f37 i_number_i i_number_o x = i_number n x := by kernel_rfl
noncomputable def i_number_e (n : Nat) : Ent := ⟨37, i_number_i, i_number_o, fun x => i_number n x⟩
theorem i_number_ok (n : Nat) : EntOK Tryz.prog (i_number_e n) ∧ Own Tryz.prog 37 := ent_ok tabOK0 .nil Tryz.func37 rfl (by kernel_rfl) (i_number_ev n)
def i_IsHand_i : CSh := ⟨[(.data false (.sl (.arr 4 tI)))], []⟩
def i_IsHand_o : RSh := ⟨(.data true .bool), []⟩
theorem i_IsHand_ev (n : Nat) (x : TupT i_IsHand_i.tys) : evF ⟨tab, [i_IsCard_e n, i_number_e n], n, [(6, ⟨[(0, (.data false (.sl (.arr 4 tI)))), (5, (.data false (.sl (.arr 4 tI)))), (6, (.data true tI)), (7, (.data true tI))], [], 0⟩)]⟩ Tryz.f8 i_IsHand_i i_IsHand_o x = i_IsHand n x := by kernel_rfl
noncomputable def i_IsHand_e (n : Nat) : Ent := ⟨8, i_IsHand_i, i_IsHand_o, fun x => i_IsHand n x⟩
theorem i_IsHand_ok (n : Nat) : EntOK Tryz.prog (i_IsHand_e n) ∧ Own Tryz.prog 8 := ent_ok tabOK0 (.cons (i_IsCard_ok n) (.cons (i_number_ok n) .nil)) Tryz.func8 rfl (by kernel_rfl) (i_IsHand_ev n)
def i_third_i : CSh := ⟨[(.data true (.arr 4 tI)), (.data true (.arr 4 tI))], []⟩
def i_third_o : RSh := ⟨(.data true (.arr 4 tI)), []⟩
theorem i_third_ev (n : Nat) (x : TupT i_third_i.tys) : evF ⟨tab, [], n, [(8, ⟨[(2, (.ptr 0 [])), (3, (.ptr 1 [])), (4, (.ptr 2 [])), (5, (.ptr 3 [])), (8, (.data true tI))], [.var 31 (.data true (.arr 4 tI)), .var 31 (.data true (.arr 4 tI)), .var 31 (.data true (.arr 4 tI)), .var 31 (.data true (.arr 4 tI))], 0⟩)]⟩ Tryz.f68 i_third_i i_third_o x = i_third n x.1 x.2 := by kernel_rfl
noncomputable def i_third_e (n : Nat) : Ent := ⟨68, i_third_i, i_third_o, fun x => i_third n x.1 x.2⟩
theorem i_third_ok (n : Nat) : EntOK Tryz.prog (i_third_e n) ∧ Own Tryz.prog 68 := ent_ok tabOK0 .nil Tryz.func68 rfl (by kernel_rfl) (i_third_ev n)
def i_linesIn_i : CSh := ⟨[(.data false (.sl (.arr 4 tI)))], []⟩
def i_linesIn_o : RSh := ⟨(.own 0), [.rows 55 true (.arr 3 tI)]⟩
theorem i_linesIn_ev (n : Nat) (x : TupT i_linesIn_i.tys) : evF ⟨tab, [i_number_e n, i_third_e n], n, [(8, ⟨[(0, (.data false (.sl (.arr 4 tI)))), (3, (.ptr 0 [])), (12, (.data false (.sl (.arr 4 tI)))), (13, (.data true tI)), (14, (.data true tI))], [.var 81 (.data true (.arr 81 tI))], 0⟩), (27, ⟨[(0, (.data false (.sl (.arr 4 tI)))), (3, (.ptr 0 [])), (6, (.own 1)), (26, (.data false (.sl (.arr 4 tI)))), (27, (.data true tI)), (28, (.data true tI))], [.var 81 (.data true (.arr 81 tI)), .rows 55 true (.arr 3 tI)], 0⟩), (41, ⟨[(0, (.data false (.sl (.arr 4 tI)))), (3, (.ptr 0 [])), (6, (.own 1)), (7, (.data true tI)), (8, (.ptr 2 [])), (9, (.data true tI)), (26, (.data false (.sl (.arr 4 tI)))), (27, (.data true tI)), (28, (.data true tI))], [.var 81 (.data true (.arr 81 tI)), .rows 55 true (.arr 3 tI), .var 31 (.data true (.arr 4 tI))], 0⟩)]⟩ Tryz.f33 i_linesIn_i i_linesIn_o x = i_linesIn n x := by kernel_rfl
noncomputable def i_linesIn_e (n : Nat) : Ent := ⟨33, i_linesIn_i, i_linesIn_o, fun x => i_linesIn n x⟩
theorem i_linesIn_ok (n : Nat) : EntOK Tryz.prog (i_linesIn_e n) ∧ Own Tryz.prog 33 := ent_ok tabOK0 (.cons (i_number_ok n) (.cons (i_third_ok n) .nil)) Tryz.func33 rfl (by kernel_rfl) (i_linesIn_ev n)
def i_LinesIn_i : CSh := ⟨[(.data false (.sl (.arr 4 tI)))], []⟩
def i_LinesIn_o : RSh := ⟨(.tcons (.own 0) (.tcons (.data true .bool) .tnil)), [.rows 55 true (.arr 3 tI)]⟩
theorem i_LinesIn_ev (n : Nat) (x : TupT i_LinesIn_i.tys) : evF ⟨tab, [i_IsHand_e n, i_linesIn_e n], n, []⟩ Tryz.f6 i_LinesIn_i i_LinesIn_o x = i_LinesIn n x := by kernel_rfl
noncomputable def i_LinesIn_e (n : Nat) : Ent := ⟨6, i_LinesIn_i, i_LinesIn_o, fun x => i_LinesIn n x⟩
theorem i_LinesIn_ok (n : Nat) : EntOK Tryz.prog (i_LinesIn_e n) ∧ Own Tryz.prog 6 := ent_ok tabOK0 (.cons (i_IsHand_ok n) (.cons (i_linesIn_ok n) .nil)) Tryz.func6 rfl (by kernel_rfl) (i_LinesIn_ev n)
def s_l1In_i : CSh := ⟨[(.data true tI), (.data true tI), (.data true tI)], []⟩
def s_l1In_o : RSh := ⟨(.data true .bool), []⟩
theorem s_l1In_ev (n : Nat) (x : TupT s_l1In_i.tys) : evF ⟨tab, [], n, []⟩ Tryz.f55 s_l1In_i s_l1In_o x = s_l1In n x.1 x.2.1 x.2.2 := by kernel_rfl
noncomputable def s_l1In_e (n : Nat) : Ent := ⟨55, s_l1In_i, s_l1In_o, fun x => s_l1In n x.1 x.2.1 x.2.2⟩
theorem s_l1In_ok (n : Nat) : EntOK Tryz.prog (s_l1In_e n) ∧ Own Tryz.prog 55 := ent_ok tabOK0 .nil Tryz.func55 rfl (by kernel_rfl) (s_l1In_ev n)
def s_l2Card_i : CSh := ⟨[(.data true (.arr 4 tI))], []⟩
def s_l2Card_o : RSh := ⟨(.data true .bool), []⟩
theorem s_l2Card_ev (n : Nat) (x : TupT s_l2Card_i.tys) : evF ⟨tab, [s_l1In_e n], n, [(6, ⟨[(1, (.ptr 0 [])), (3, (.data true tI))], [.var 31 (.data true (.arr 4 tI))], 0⟩)]⟩ Tryz.f41 s_l2Card_i s_l2Card_o x = s_l2Card n x := by kernel_rfl
noncomputable def s_l2Card_e (n : Nat) : Ent := ⟨41, s_l2Card_i, s_l2Card_o, fun x => s_l2Card n x⟩
theorem s_l2Card_ok (n : Nat) : EntOK Tryz.prog (s_l2Card_e n) ∧ Own Tryz.prog 41 := ent_ok tabOK0 (.cons (s_l1In_ok n) .nil) Tryz.func41 rfl (by kernel_rfl) (s_l2Card_ev n)
def s_l2Hand_i : CSh := ⟨[(.data false (.sl (.arr 4 tI)))], []⟩
def s_l2Hand_o : RSh := ⟨(.data true .bool), []⟩
theorem s_l2Hand_ev (n : Nat) (x : TupT s_l2Hand_i.tys) : evF ⟨tab, [s_l2Card_e n, s_l2Less_e n], n, [(6, ⟨[(0, (.data false (.sl (.arr 4 tI)))), (3, (.data true tI))], [], 0⟩)]⟩ Tryz.f34 s_l2Hand_i s_l2Hand_o x = s_l2Hand n x := by kernel_rfl
noncomputable def s_l2Hand_e (n : Nat) : Ent := ⟨34, s_l2Hand_i, s_l2Hand_o, fun x => s_l2Hand n x⟩
theorem s_l2Hand_ok (n : Nat) : EntOK Tryz.prog (s_l2Hand_e n) ∧ Own Tryz.prog 34 := ent_ok tabOK0 (.cons (s_l2Card_ok n) (.cons (s_l2Less_ok n) .nil)) Tryz.func34 rfl (by kernel_rfl) (s_l2Hand_ev n)
def s_l2Third_i : CSh := ⟨[(.data true (.arr 4 tI)), (.data true (.arr 4 tI))], []⟩
def s_l2Third_o : RSh := ⟨(.data true (.arr 4 tI)), []⟩
theorem s_l2Third_ev (n : Nat) (x : TupT s_l2Third_i.tys) : evF ⟨tab, [], n, [(8, ⟨[(2, (.ptr 0 [])), (3, (.ptr 1 [])), (4, (.ptr 2 [])), (5, (.ptr 3 [])), (6, (.data true tI))], [.var 31 (.data true (.arr 4 tI)), .var 31 (.data true (.arr 4 tI)), .var 31 (.data true (.arr 4 tI)), .var 31 (.data true (.arr 4 tI))], 0⟩)]⟩ Tryz.f70 s_l2Third_i s_l2Third_o x = s_l2Third n x.1 x.2 := by kernel_rfl
noncomputable def s_l2Third_e (n : Nat) : Ent := ⟨70, s_l2Third_i, s_l2Third_o, fun x => s_l2Third n x.1 x.2⟩
theorem s_l2Third_ok (n : Nat) : EntOK Tryz.prog (s_l2Third_e n) ∧ Own Tryz.prog 70 := ent_ok tabOK0 .nil Tryz.func70 rfl (by kernel_rfl) (s_l2Third_ev n)
def s_l2Place_i : CSh := ⟨[(.data false (.sl (.arr 4 tI))), (.data true (.arr 4 tI))], []⟩
def s_l2Place_o : RSh := ⟨(.data true tI), []⟩
theorem s_l2Place_ev (n : Nat) (x : TupT s_l2Place_i.tys) : evF ⟨tab, [], n, [(6, ⟨[(0, (.data false (.sl (.arr 4 tI)))), (3, (.ptr 0 [])), (5, (.data true tI))], [.var 31 (.data true (.arr 4 tI))], 0⟩)]⟩ Tryz.f52 s_l2Place_i s_l2Place_o x = s_l2Place n x.1 x.2 := by kernel_rfl
noncomputable def s_l2Place_e (n : Nat) : Ent := ⟨52, s_l2Place_i, s_l2Place_o, fun x => s_l2Place n x.1 x.2⟩
theorem s_l2Place_ok (n : Nat) : EntOK Tryz.prog (s_l2Place_e n) ∧ Own Tryz.prog 52 := ent_ok tabOK0 .nil Tryz.func52 rfl (by kernel_rfl) (s_l2Place_ev n)
def s_l2Lines_i : CSh := ⟨[(.data false (.sl (.arr 4 tI)))], []⟩
def s_l2Lines_o : RSh := ⟨(.own 0), [.rows 55 true (.arr 3 tI)]⟩
theorem s_l2Lines_ev (n : Nat) (x : TupT s_l2Lines_i.tys) : evF ⟨tab, [s_l2Third_e n, s_l2Place_e n], n, [(8, ⟨[(0, (.data false (.sl (.arr 4 tI)))), (3, (.own 0)), (4, (.data true tI))], [.rows 55 true (.arr 3 tI)], 0⟩), (20, ⟨[(0, (.data false (.sl (.arr 4 tI)))), (3, (.own 0)), (4, (.data true tI)), (5, (.data true tI))], [.rows 55 true (.arr 3 tI)], 0⟩)]⟩ Tryz.f35 s_l2Lines_i s_l2Lines_o x = s_l2Lines n x := by kernel_rfl
noncomputable def s_l2Lines_e (n : Nat) : Ent := ⟨35, s_l2Lines_i, s_l2Lines_o, fun x => s_l2Lines n x⟩
theorem s_l2Lines_ok (n : Nat) : EntOK Tryz.prog (s_l2Lines_e n) ∧ Own Tryz.prog 35 := ent_ok tabOK0 (.cons (s_l2Third_ok n) (.cons (s_l2Place_ok n) .nil)) Tryz.func35 rfl (by kernel_rfl) (s_l2Lines_ev n)
def s_LinesIn_i : CSh := ⟨[(.data false (.sl (.arr 4 tI)))], []⟩
def s_LinesIn_o : RSh := ⟨(.tcons (.own 0) (.tcons (.data true .bool) .tnil)), [.rows 55 true (.arr 3 tI)]⟩
theorem s_LinesIn_ev (n : Nat) (x : TupT s_LinesIn_i.tys) : evF ⟨tab, [s_l2Hand_e n, s_l2Lines_e n], n, []⟩ Tryz.f7 s_LinesIn_i s_LinesIn_o x = s_LinesIn n x := by kernel_rfl
noncomputable def s_LinesIn_e (n : Nat) : Ent := ⟨7, s_LinesIn_i, s_LinesIn_o, fun x => s_LinesIn n x⟩
theorem s_LinesIn_ok (n : Nat) : EntOK Tryz.prog (s_LinesIn_e n) ∧ Own Tryz.prog 7 := ent_ok tabOK0 (.cons (s_l2Hand_ok n) (.cons (s_l2Lines_ok n) .nil)) Tryz.func7 rfl (by kernel_rfl) (s_LinesIn_ev n)
def v_rThrees_i : CSh := ⟨[(.data false (.sl (.arr 3 tI))), (.data false (.sl (.arr 3 tI)))], []⟩
def v_rThrees_o : RSh := ⟨(.data true .bool), []⟩
theorem v_rThrees_ev (n : Nat) (x : TupT v_rThrees_i.tys) : evF ⟨tab, [], n, [(14, ⟨[(0, (.data false (.sl (.arr 3 tI)))), (1, (.data false (.sl (.arr 3 tI)))), (5, (.data true tI))], [], 0⟩)]⟩ Tryz.f9 v_rThrees_i v_rThrees_o x = v_rThrees n x.1 x.2 := by kernel_rfl
noncomputable def v_rThrees_e (n : Nat) : Ent := ⟨9, v_rThrees_i, v_rThrees_o, fun x => v_rThrees n x.1 x.2⟩
theorem v_rThrees_ok (n : Nat) : EntOK Tryz.prog (v_rThrees_e n) ∧ Own Tryz.prog 9 := ent_ok tabOK0 .nil Tryz.func9 rfl (by kernel_rfl) (v_rThrees_ev n)
def s_Cur_card'p_i : CSh := ⟨[(.ptr 0 [])], [.var 59 (.data true (.pair (.sl (.int .u8)) (.pair tI (.int .u64))))]⟩
def s_Cur_card'p_o : RSh := ⟨(.data true (.arr 4 tI)), [.var 59 (.data true (.pair (.sl (.int .u8)) (.pair tI (.int .u64))))]⟩
theorem s_Cur_card'p_ev (n : Nat) (x : TupT s_Cur_card'p_i.tys) : evF ⟨tab, [s_Cur_pick'p_e n, s_l2At_e n, s_Cur_one'p_e n, s_Cur_among'pl_e n], n, []⟩ Tryz.f59 s_Cur_card'p_i s_Cur_card'p_o x = s_Cur_card'p n x := by kernel_rfl
noncomputable def s_Cur_card'p_e (n : Nat) : Ent := ⟨59, s_Cur_card'p_i, s_Cur_card'p_o, fun x => s_Cur_card'p n x⟩
theorem s_Cur_card'p_ok (n : Nat) : EntOK Tryz.prog (s_Cur_card'p_e n) ∧ Own Tryz.prog 59 := ent_ok tabOK0 (.cons (s_Cur_pick'p_ok n) (.cons (s_l2At_ok n) (.cons (s_Cur_one'p_ok n) (.cons (s_Cur_among'pl_ok n) .nil)))) Tryz.func59 rfl (by kernel_rfl) (s_Cur_card'p_ev n)
def s_Cur_cardOf'pl_i : CSh := ⟨[(.ptr 0 []), (.data false (.sl (.arr 4 tI)))], [.var 59 (.data true (.pair (.sl (.int .u8)) (.pair tI (.int .u64))))]⟩
def s_Cur_cardOf'pl_o : RSh := ⟨(.data true (.arr 4 tI)), [.var 59 (.data true (.pair (.sl (.int .u8)) (.pair tI (.int .u64))))]⟩
theorem s_Cur_cardOf'pl_ev (n : Nat) (x : TupT s_Cur_cardOf'pl_i.tys) : evF ⟨tab, [s_Cur_pick'p_e n, s_Cur_card'p_e n, s_Cur_one'p_e n], n, [(5000004, ⟨[(0, (.ptr 0 [])), (1, (.data false (.sl (.arr 4 tI)))), (4, (.ptr 1 [])), (12, (.data true .bool))], [.var 59 (.data true (.pair (.sl (.int .u8)) (.pair tI (.int .u64)))), .var 31 (.data true (.arr 4 tI))], 1⟩)]⟩ Tryz.f39 s_Cur_cardOf'pl_i s_Cur_cardOf'pl_o x = s_Cur_cardOf'pl n x.1 x.2 := by kernel_rfl
noncomputable def s_Cur_cardOf'pl_e (n : Nat) : Ent := ⟨39, s_Cur_cardOf'pl_i, s_Cur_cardOf'pl_o, fun x => s_Cur_cardOf'pl n x.1 x.2⟩
theorem s_Cur_cardOf'pl_ok (n : Nat) : EntOK Tryz.prog (s_Cur_cardOf'pl_e n) ∧ Own Tryz.prog 39 := ent_ok tabOK0 (.cons (s_Cur_pick'p_ok n) (.cons (s_Cur_card'p_ok n) (.cons (s_Cur_one'p_ok n) .nil))) Tryz.func39 rfl (by kernel_rfl) (s_Cur_cardOf'pl_ev n)
def s_DrawLinesThrough_i : CSh := ⟨[(.data false (.sl (.int .u8)))], []⟩
def s_DrawLinesThrough_o : RSh := ⟨(.tcons (.own 0) (.tcons (.data true (.arr 4 tI)) .tnil)), [.rows 31 true (.arr 4 tI)]⟩
theorem s_DrawLinesThrough_ev (n : Nat) (x : TupT s_DrawLinesThrough_i.tys) : evF ⟨tab, [s_Cur_hand'p_e n, s_Cur_cardOf'pl_e n], n, []⟩ Tryz.f10 s_DrawLinesThrough_i s_DrawLinesThrough_o x = s_DrawLinesThrough n x := by kernel_rfl
noncomputable def s_DrawLinesThrough_e (n : Nat) : Ent := ⟨10, s_DrawLinesThrough_i, s_DrawLinesThrough_o, fun x => s_DrawLinesThrough n x⟩
theorem s_DrawLinesThrough_ok (n : Nat) : EntOK Tryz.prog (s_DrawLinesThrough_e n) ∧ Own Tryz.prog 10 := ent_ok tabOK0 (.cons (s_Cur_hand'p_ok n) (.cons (s_Cur_cardOf'pl_ok n) .nil)) Tryz.func10 rfl (by kernel_rfl) (s_DrawLinesThrough_ev n)
def i_pairsFor_i : CSh := ⟨[(.data false (.sl (.arr 4 tI))), (.data true (.arr 4 tI))], []⟩
def i_pairsFor_o : RSh := ⟨(.own 0), [.rows 85 true (.arr 2 tI)]⟩
theorem i_pairsFor_ev (n : Nat) (x : TupT i_pairsFor_i.tys) : evF ⟨tab, [i_third_e n], n, [(8, ⟨[(0, (.data false (.sl (.arr 4 tI)))), (3, (.ptr 0 [])), (5, (.own 1)), (10, (.data false (.sl (.arr 4 tI)))), (11, (.data true tI)), (12, (.data true tI))], [.var 31 (.data true (.arr 4 tI)), .rows 85 true (.arr 2 tI)], 0⟩), (22, ⟨[(0, (.data false (.sl (.arr 4 tI)))), (3, (.ptr 0 [])), (5, (.own 1)), (6, (.data true tI)), (7, (.ptr 2 [])), (8, (.data true tI)), (10, (.data false (.sl (.arr 4 tI)))), (11, (.data true tI)), (12, (.data true tI))], [.var 31 (.data true (.arr 4 tI)), .rows 85 true (.arr 2 tI), .var 31 (.data true (.arr 4 tI))], 0⟩)]⟩ Tryz.f40 i_pairsFor_i i_pairsFor_o x = i_pairsFor n x.1 x.2 := by kernel_rfl
noncomputable def i_pairsFor_e (n : Nat) : Ent := ⟨40, i_pairsFor_i, i_pairsFor_o, fun x => i_pairsFor n x.1 x.2⟩
theorem i_pairsFor_ok (n : Nat) : EntOK Tryz.prog (i_pairsFor_e n) ∧ Own Tryz.prog 40 := ent_ok tabOK0 (.cons (i_third_ok n) .nil) Tryz.func40 rfl (by kernel_rfl) (i_pairsFor_ev n)
def i_LinesThrough_i : CSh := ⟨[(.data false (.sl (.arr 4 tI))), (.data true (.arr 4 tI))], []⟩
def i_LinesThrough_o : RSh := ⟨(.tcons (.data true tI) (.tcons (.data true .bool) .tnil)), []⟩
theorem i_LinesThrough_ev (n : Nat) (x : TupT i_LinesThrough_i.tys) : evF ⟨tab, [i_IsHand_e n, i_IsCard_e n, i_pairsFor_e n], n, []⟩ Tryz.f11 i_LinesThrough_i i_LinesThrough_o x = i_LinesThrough n x.1 x.2 := by kernel_rfl
noncomputable def i_LinesThrough_e (n : Nat) : Ent := ⟨11, i_LinesThrough_i, i_LinesThrough_o, fun x => i_LinesThrough n x.1 x.2⟩
theorem i_LinesThrough_ok (n : Nat) : EntOK Tryz.prog (i_LinesThrough_e n) ∧ Own Tryz.prog 11 := ent_ok tabOK0 (.cons (i_IsHand_ok n) (.cons (i_IsCard_ok n) (.cons (i_pairsFor_ok n) .nil))) Tryz.func11 rfl (by kernel_rfl) (i_LinesThrough_ev n)
def s_l2Line_i : CSh := ⟨[(.data true (.arr 4 tI)), (.data true (.arr 4 tI)), (.data true (.arr 4 tI))], []⟩
def s_l2Line_o : RSh := ⟨(.data true .bool), []⟩
theorem s_l2Line_ev (n : Nat) (x : TupT s_l2Line_i.tys) : evF ⟨tab, [s_l2Third_e n], n, []⟩ Tryz.f72 s_l2Line_i s_l2Line_o x = s_l2Line n x.1 x.2.1 x.2.2 := by kernel_rfl
noncomputable def s_l2Line_e (n : Nat) : Ent := ⟨72, s_l2Line_i, s_l2Line_o, fun x => s_l2Line n x.1 x.2.1 x.2.2⟩
theorem s_l2Line_ok (n : Nat) : EntOK Tryz.prog (s_l2Line_e n) ∧ Own Tryz.prog 72 := ent_ok tabOK0 (.cons (s_l2Third_ok n) .nil) Tryz.func72 rfl (by kernel_rfl) (s_l2Line_ev n)
def s_l2Through_i : CSh := ⟨[(.data false (.sl (.arr 4 tI))), (.data true (.arr 4 tI))], []⟩
def s_l2Through_o : RSh := ⟨(.data true tI), []⟩
theorem s_l2Through_ev (n : Nat) (x : TupT s_l2Through_i.tys) : evF ⟨tab, [s_l2Line_e n], n, [(8, ⟨[(0, (.data false (.sl (.arr 4 tI)))), (3, (.ptr 0 [])), (5, (.data true tI)), (6, (.data true tI))], [.var 31 (.data true (.arr 4 tI))], 0⟩), (20, ⟨[(0, (.data false (.sl (.arr 4 tI)))), (3, (.ptr 0 [])), (5, (.data true tI)), (6, (.data true tI)), (7, (.data true tI))], [.var 31 (.data true (.arr 4 tI))], 0⟩)]⟩ Tryz.f42 s_l2Through_i s_l2Through_o x = s_l2Through n x.1 x.2 := by kernel_rfl
noncomputable def s_l2Through_e (n : Nat) : Ent := ⟨42, s_l2Through_i, s_l2Through_o, fun x => s_l2Through n x.1 x.2⟩
theorem s_l2Through_ok (n : Nat) : EntOK Tryz.prog (s_l2Through_e n) ∧ Own Tryz.prog 42 := ent_ok tabOK0 (.cons (s_l2Line_ok n) .nil) Tryz.func42 rfl (by kernel_rfl) (s_l2Through_ev n)
def s_LinesThrough_i : CSh := ⟨[(.data false (.sl (.arr 4 tI))), (.data true (.arr 4 tI))], []⟩
def s_LinesThrough_o : RSh := ⟨(.tcons (.data true tI) (.tcons (.data true .bool) .tnil)), []⟩
theorem s_LinesThrough_ev (n : Nat) (x : TupT s_LinesThrough_i.tys) : evF ⟨tab, [s_l2Hand_e n, s_l2Card_e n, s_l2Through_e n], n, []⟩ Tryz.f12 s_LinesThrough_i s_LinesThrough_o x = s_LinesThrough n x.1 x.2 := by kernel_rfl
noncomputable def s_LinesThrough_e (n : Nat) : Ent := ⟨12, s_LinesThrough_i, s_LinesThrough_o, fun x => s_LinesThrough n x.1 x.2⟩
theorem s_LinesThrough_ok (n : Nat) : EntOK Tryz.prog (s_LinesThrough_e n) ∧ Own Tryz.prog 12 := ent_ok tabOK0 (.cons (s_l2Hand_ok n) (.cons (s_l2Card_ok n) (.cons (s_l2Through_ok n) .nil))) Tryz.func12 rfl (by kernel_rfl) (s_LinesThrough_ev n)
def i_sum_i : CSh := ⟨[(.data false (.sl (.arr 4 tI)))], []⟩
def i_sum_o : RSh := ⟨(.data true (.arr 4 tI)), []⟩
theorem i_sum_ev (n : Nat) (x : TupT i_sum_i.tys) : evF ⟨tab, [], n, [(8, ⟨[(2, (.ptr 0 [])), (3, (.ptr 1 [])), (9, (.data false (.sl (.arr 4 tI)))), (10, (.data true tI)), (11, (.data true tI))], [.var 31 (.data true (.arr 4 tI)), .var 31 (.data true (.arr 4 tI))], 0⟩), (22, ⟨[(2, (.ptr 0 [])), (3, (.ptr 1 [])), (9, (.data false (.sl (.arr 4 tI)))), (10, (.data true tI)), (11, (.data true tI)), (15, (.data true (.arr 4 tI))), (16, (.data true tI))], [.var 31 (.data true (.arr 4 tI)), .var 31 (.data true (.arr 4 tI))], 0⟩)]⟩ Tryz.f43 i_sum_i i_sum_o x = i_sum n x := by kernel_rfl
noncomputable def i_sum_e (n : Nat) : Ent := ⟨43, i_sum_i, i_sum_o, fun x => i_sum n x⟩
theorem i_sum_ok (n : Nat) : EntOK Tryz.prog (i_sum_e n) ∧ Own Tryz.prog 43 := ent_ok tabOK0 .nil Tryz.func43 rfl (by kernel_rfl) (i_sum_ev n)
def i_SumCards_i : CSh := ⟨[(.data false (.sl (.arr 4 tI)))], []⟩
def i_SumCards_o : RSh := ⟨(.tcons (.data true (.arr 4 tI)) (.tcons (.data true .bool) .tnil)), []⟩
theorem i_SumCards_ev (n : Nat) (x : TupT i_SumCards_i.tys) : evF ⟨tab, [i_IsHand_e n, i_sum_e n], n, []⟩ Tryz.f13 i_SumCards_i i_SumCards_o x = i_SumCards n x := by kernel_rfl
noncomputable def i_SumCards_e (n : Nat) : Ent := ⟨13, i_SumCards_i, i_SumCards_o, fun x => i_SumCards n x⟩
theorem i_SumCards_ok (n : Nat) : EntOK Tryz.prog (i_SumCards_e n) ∧ Own Tryz.prog 13 := ent_ok tabOK0 (.cons (i_IsHand_ok n) (.cons (i_sum_ok n) .nil)) Tryz.func13 rfl (by kernel_rfl) (i_SumCards_ev n)
def s_l2Sum_i : CSh := ⟨[(.data false (.sl (.arr 4 tI)))], []⟩
def s_l2Sum_o : RSh := ⟨(.data true (.arr 4 tI)), []⟩
theorem s_l2Sum_ev (n : Nat) (x : TupT s_l2Sum_i.tys) : evF ⟨tab, [], n, [(8, ⟨[(0, (.data false (.sl (.arr 4 tI)))), (2, (.ptr 0 [])), (3, (.ptr 1 [])), (4, (.data true tI))], [.var 31 (.data true (.arr 4 tI)), .var 31 (.data true (.arr 4 tI))], 0⟩), (20, ⟨[(0, (.data false (.sl (.arr 4 tI)))), (2, (.ptr 0 [])), (3, (.ptr 1 [])), (4, (.data true tI)), (5, (.data true tI))], [.var 31 (.data true (.arr 4 tI)), .var 31 (.data true (.arr 4 tI))], 0⟩)]⟩ Tryz.f44 s_l2Sum_i s_l2Sum_o x = s_l2Sum n x := by kernel_rfl
noncomputable def s_l2Sum_e (n : Nat) : Ent := ⟨44, s_l2Sum_i, s_l2Sum_o, fun x => s_l2Sum n x⟩
theorem s_l2Sum_ok (n : Nat) : EntOK Tryz.prog (s_l2Sum_e n) ∧ Own Tryz.prog 44 := ent_ok tabOK0 .nil Tryz.func44 rfl (by kernel_rfl) (s_l2Sum_ev n)
def s_SumCards_i : CSh := ⟨[(.data false (.sl (.arr 4 tI)))], []⟩
def s_SumCards_o : RSh := ⟨(.tcons (.data true (.arr 4 tI)) (.tcons (.data true .bool) .tnil)), []⟩
theorem s_SumCards_ev (n : Nat) (x : TupT s_SumCards_i.tys) : evF ⟨tab, [s_l2Hand_e n, s_l2Sum_e n], n, []⟩ Tryz.f14 s_SumCards_i s_SumCards_o x = s_SumCards n x := by kernel_rfl
noncomputable def s_SumCards_e (n : Nat) : Ent := ⟨14, s_SumCards_i, s_SumCards_o, fun x => s_SumCards n x⟩
theorem s_SumCards_ok (n : Nat) : EntOK Tryz.prog (s_SumCards_e n) ∧ Own Tryz.prog 14 := ent_ok tabOK0 (.cons (s_l2Hand_ok n) (.cons (s_l2Sum_ok n) .nil)) Tryz.func14 rfl (by kernel_rfl) (s_SumCards_ev n)
def slices_Index_SA4_A4__i : CSh := ⟨[(.data false (.sl (.arr 4 tI))), (.data true (.arr 4 tI))], []⟩
def slices_Index_SA4_A4__o : RSh := ⟨(.data true tI), []⟩
theorem slices_Index_SA4_A4__ev (n : Nat) (x : TupT slices_Index_SA4_A4__i.tys) : evF ⟨tab, [], n, [(6, ⟨[(0, (.data false (.sl (.arr 4 tI)))), (3, (.ptr 0 [])), (7, (.data true tI)), (8, (.data true tI))], [.var 31 (.data true (.arr 4 tI))], 0⟩)]⟩ Tryz.f91 slices_Index_SA4_A4__i slices_Index_SA4_A4__o x = slices_Index_SA4_A4_ n x.1 x.2 := by kernel_rfl
noncomputable def slices_Index_SA4_A4__e (n : Nat) : Ent := ⟨91, slices_Index_SA4_A4__i, slices_Index_SA4_A4__o, fun x => slices_Index_SA4_A4_ n x.1 x.2⟩
theorem slices_Index_SA4_A4__ok (n : Nat) : EntOK Tryz.prog (slices_Index_SA4_A4__e n) ∧ Own Tryz.prog 91 := ent_ok tabOK0 .nil Tryz.func91 rfl (by kernel_rfl) (slices_Index_SA4_A4__ev n)
def slices_Contains_SA4_A4__i : CSh := ⟨[(.data false (.sl (.arr 4 tI))), (.data true (.arr 4 tI))], []⟩
def slices_Contains_SA4_A4__o : RSh := ⟨(.data true .bool), []⟩
theorem slices_Contains_SA4_A4__ev (n : Nat) (x : TupT slices_Contains_SA4_A4__i.tys) : evF ⟨tab, [slices_Index_SA4_A4__e n], n, []⟩ Tryz.f73 slices_Contains_SA4_A4__i slices_Contains_SA4_A4__o x = slices_Contains_SA4_A4_ n x.1 x.2 := by kernel_rfl
noncomputable def slices_Contains_SA4_A4__e (n : Nat) : Ent := ⟨73, slices_Contains_SA4_A4__i, slices_Contains_SA4_A4__o, fun x => slices_Contains_SA4_A4_ n x.1 x.2⟩
theorem slices_Contains_SA4_A4__ok (n : Nat) : EntOK Tryz.prog (slices_Contains_SA4_A4__e n) ∧ Own Tryz.prog 73 := ent_ok tabOK0 (.cons (slices_Index_SA4_A4__ok n) .nil) Tryz.func73 rfl (by kernel_rfl) (slices_Contains_SA4_A4__ev n)
def i_has_i : CSh := ⟨[(.data false (.sl (.arr 4 tI))), (.data true (.arr 4 tI))], []⟩
def i_has_o : RSh := ⟨(.data true .bool), []⟩
theorem i_has_ev (n : Nat) (x : TupT i_has_i.tys) : evF ⟨tab, [slices_Contains_SA4_A4__e n], n, []⟩ Tryz.f45 i_has_i i_has_o x = i_has n x.1 x.2 := by kernel_rfl
noncomputable def i_has_e (n : Nat) : Ent := ⟨45, i_has_i, i_has_o, fun x => i_has n x.1 x.2⟩
theorem i_has_ok (n : Nat) : EntOK Tryz.prog (i_has_e n) ∧ Own Tryz.prog 45 := ent_ok tabOK0 (.cons (slices_Contains_SA4_A4__ok n) .nil) Tryz.func45 rfl (by kernel_rfl) (i_has_ev n)
def slices_Clone_SA4_A4__i : CSh := ⟨[(.data false (.sl (.arr 4 tI)))], []⟩
def slices_Clone_SA4_A4__o : RSh := ⟨(.own 0), [.rows 31 true (.arr 4 tI)]⟩
theorem slices_Clone_SA4_A4__ev (n : Nat) (x : TupT slices_Clone_SA4_A4__i.tys) : evF ⟨tab, [], n, []⟩ Tryz.f47 slices_Clone_SA4_A4__i slices_Clone_SA4_A4__o x = slices_Clone_SA4_A4_ n x := by kernel_rfl
noncomputable def slices_Clone_SA4_A4__e (n : Nat) : Ent := ⟨47, slices_Clone_SA4_A4__i, slices_Clone_SA4_A4__o, fun x => slices_Clone_SA4_A4_ n x⟩
theorem slices_Clone_SA4_A4__ok (n : Nat) : EntOK Tryz.prog (slices_Clone_SA4_A4__e n) ∧ Own Tryz.prog 47 := ent_ok tabOK0 .nil Tryz.func47 rfl (by kernel_rfl) (slices_Clone_SA4_A4__ev n)
def math_bits_Len64_i : CSh := ⟨[(.data true (.int .u64))], []⟩
def math_bits_Len64_o : RSh := ⟨(.data true tI), []⟩
theorem math_bits_Len64_ev (n : Nat) (x : TupT math_bits_Len64_i.tys) : evF ⟨tab, [], n, [(2, ⟨[(0, (.data true (.int .u64))), (2, (.data true tI))], [], 0⟩), (10, ⟨[(0, (.data true (.int .u64))), (2, (.data true tI))], [], 0⟩), (18, ⟨[(0, (.data true (.int .u64))), (2, (.data true tI))], [], 0⟩)]⟩ Tryz.f110 math_bits_Len64_i math_bits_Len64_o x = math_bits_Len64 n x := by kernel_rfl
noncomputable def math_bits_Len64_e (n : Nat) : Ent := ⟨110, math_bits_Len64_i, math_bits_Len64_o, fun x => math_bits_Len64 n x⟩
theorem math_bits_Len64_ok (n : Nat) : EntOK Tryz.prog (math_bits_Len64_e n) ∧ Own Tryz.prog 110 := ent_ok tabOK0 .nil Tryz.func110 rfl (by kernel_rfl) (math_bits_Len64_ev n)
def math_bits_Len_i : CSh := ⟨[(.data true (.int .u64))], []⟩
def math_bits_Len_o : RSh := ⟨(.data true tI), []⟩
theorem math_bits_Len_ev (n : Nat) (x : TupT math_bits_Len_i.tys) : evF ⟨tab, [math_bits_Len64_e n], n, []⟩ Tryz.f93 math_bits_Len_i math_bits_Len_o x = math_bits_Len n x := by kernel_rfl
noncomputable def math_bits_Len_e (n : Nat) : Ent := ⟨93, math_bits_Len_i, math_bits_Len_o, fun x => math_bits_Len n x⟩
theorem math_bits_Len_ok (n : Nat) : EntOK Tryz.prog (math_bits_Len_e n) ∧ Own Tryz.prog 93 := ent_ok tabOK0 (.cons (math_bits_Len64_ok n) .nil) Tryz.func93 rfl (by kernel_rfl) (math_bits_Len_ev n)
def i_compareCards_i : CSh := ⟨[(.data true (.arr 4 tI)), (.data true (.arr 4 tI))], []⟩
def i_compareCards_o : RSh := ⟨(.data true tI), []⟩
theorem i_compareCards_ev (n : Nat) (x : TupT i_compareCards_i.tys) : evF ⟨tab, [i_number_e n], n, []⟩ Tryz.f75 i_compareCards_i i_compareCards_o x = i_compareCards n x.1 x.2 := by kernel_rfl
noncomputable def i_compareCards_e (n : Nat) : Ent := ⟨75, i_compareCards_i, i_compareCards_o, fun x => i_compareCards n x.1 x.2⟩
theorem i_compareCards_ok (n : Nat) : EntOK Tryz.prog (i_compareCards_e n) ∧ Own Tryz.prog 75 := ent_ok tabOK0 (.cons (i_number_ok n) .nil) Tryz.func75 rfl (by kernel_rfl) (i_compareCards_ev n)
def slices_insertionSortCmpFunc_A4_'o_i_compareCards_i : CSh := ⟨[(.own 0), (.data true tI), (.data true tI), (.clo 75 .tnil)], [.rows 31 true (.arr 4 tI)]⟩
def slices_insertionSortCmpFunc_A4_'o_i_compareCards_o : RSh := ⟨.tnil, [.rows 31 true (.arr 4 tI)]⟩
theorem slices_insertionSortCmpFunc_A4_'o_i_compareCards_ev (n : Nat) (x : TupT slices_insertionSortCmpFunc_A4_'o_i_compareCards_i.tys) : evF ⟨tab, [i_compareCards_e n], n, [(3, ⟨[(0, (.own 0)), (1, (.data true tI)), (2, (.data true tI)), (3, (.clo 75 .tnil)), (8, (.data true tI))], [.rows 31 true (.arr 4 tI)], 1⟩), (15, ⟨[(0, (.own 0)), (1, (.data true tI)), (2, (.data true tI)), (3, (.clo 75 .tnil)), (8, (.data true tI)), (9, (.data true tI))], [.rows 31 true (.arr 4 tI)], 1⟩)]⟩ Tryz.f101 slices_insertionSortCmpFunc_A4_'o_i_compareCards_i slices_insertionSortCmpFunc_A4_'o_i_compareCards_o x = slices_insertionSortCmpFunc_A4_'o_i_compareCards n x.1 x.2.1 x.2.2 := by kernel_rfl
noncomputable def slices_insertionSortCmpFunc_A4_'o_i_compareCards_e (n : Nat) : Ent := ⟨101, slices_insertionSortCmpFunc_A4_'o_i_compareCards_i, slices_insertionSortCmpFunc_A4_'o_i_compareCards_o, fun x => slices_insertionSortCmpFunc_A4_'o_i_compareCards n x.1 x.2.1 x.2.2⟩
theorem slices_insertionSortCmpFunc_A4_'o_i_compareCards_ok (n : Nat) : EntOK Tryz.prog (slices_insertionSortCmpFunc_A4_'o_i_compareCards_e n) ∧ Own Tryz.prog 101 := ent_ok tabOK0 (.cons (i_compareCards_ok n) .nil) Tryz.func101 rfl (by kernel_rfl) (slices_insertionSortCmpFunc_A4_'o_i_compareCards_ev n)
def slices_siftDownCmpFunc_A4_'o_i_compareCards_i : CSh := ⟨[(.own 0), (.data true tI), (.data true tI), (.data true tI), (.clo 75 .tnil)], [.rows 31 true (.arr 4 tI)]⟩
def slices_siftDownCmpFunc_A4_'o_i_compareCards_o : RSh := ⟨.tnil, [.rows 31 true (.arr 4 tI)]⟩
theorem slices_siftDownCmpFunc_A4_'o_i_compareCards_ev (n : Nat) (x : TupT slices_siftDownCmpFunc_A4_'o_i_compareCards_i.tys) : evF ⟨tab, [i_compareCards_e n], n, [(3, ⟨[(0, (.own 0)), (2, (.data true tI)), (3, (.data true tI)), (4, (.clo 75 .tnil)), (10, (.data true tI))], [.rows 31 true (.arr 4 tI)], 1⟩), (13, ⟨[(0, (.own 0)), (2, (.data true tI)), (3, (.data true tI)), (4, (.clo 75 .tnil)), (10, (.data true tI)), (11, (.data true tI))], [.rows 31 true (.arr 4 tI)], 1⟩)]⟩ Tryz.f116 slices_siftDownCmpFunc_A4_'o_i_compareCards_i slices_siftDownCmpFunc_A4_'o_i_compareCards_o x = slices_siftDownCmpFunc_A4_'o_i_compareCards n x.1 x.2.1 x.2.2.1 x.2.2.2 := by kernel_rfl
noncomputable def slices_siftDownCmpFunc_A4_'o_i_compareCards_e (n : Nat) : Ent := ⟨116, slices_siftDownCmpFunc_A4_'o_i_compareCards_i, slices_siftDownCmpFunc_A4_'o_i_compareCards_o, fun x => slices_siftDownCmpFunc_A4_'o_i_compareCards n x.1 x.2.1 x.2.2.1 x.2.2.2⟩
theorem slices_siftDownCmpFunc_A4_'o_i_compareCards_ok (n : Nat) : EntOK Tryz.prog (slices_siftDownCmpFunc_A4_'o_i_compareCards_e n) ∧ Own Tryz.prog 116 := ent_ok tabOK0 (.cons (i_compareCards_ok n) .nil) Tryz.func116 rfl (by kernel_rfl) (slices_siftDownCmpFunc_A4_'o_i_compareCards_ev n)
def slices_heapSortCmpFunc_A4_'o_i_compareCards_i : CSh := ⟨[(.own 0), (.data true tI), (.data true tI), (.clo 75 .tnil)], [.rows 31 true (.arr 4 tI)]⟩
def slices_heapSortCmpFunc_A4_'o_i_compareCards_o : RSh := ⟨.tnil, [.rows 31 true (.arr 4 tI)]⟩
theorem slices_heapSortCmpFunc_A4_'o_i_compareCards_ev (n : Nat) (x : TupT slices_heapSortCmpFunc_A4_'o_i_compareCards_i.tys) : evF ⟨tab, [slices_siftDownCmpFunc_A4_'o_i_compareCards_e n], n, [(10, ⟨[(0, (.own 0)), (3, (.clo 75 .tnil)), (8, (.data true tI)), (9, (.data true tI)), (10, (.data true tI)), (11, (.data true tI))], [.rows 31 true (.arr 4 tI)], 1⟩), (24, ⟨[(0, (.own 0)), (3, (.clo 75 .tnil)), (8, (.data true tI)), (9, (.data true tI)), (12, (.data true tI))], [.rows 31 true (.arr 4 tI)], 1⟩)]⟩ Tryz.f102 slices_heapSortCmpFunc_A4_'o_i_compareCards_i slices_heapSortCmpFunc_A4_'o_i_compareCards_o x = slices_heapSortCmpFunc_A4_'o_i_compareCards n x.1 x.2.1 x.2.2 := by kernel_rfl
noncomputable def slices_heapSortCmpFunc_A4_'o_i_compareCards_e (n : Nat) : Ent := ⟨102, slices_heapSortCmpFunc_A4_'o_i_compareCards_i, slices_heapSortCmpFunc_A4_'o_i_compareCards_o, fun x => slices_heapSortCmpFunc_A4_'o_i_compareCards n x.1 x.2.1 x.2.2⟩
theorem slices_heapSortCmpFunc_A4_'o_i_compareCards_ok (n : Nat) : EntOK Tryz.prog (slices_heapSortCmpFunc_A4_'o_i_compareCards_e n) ∧ Own Tryz.prog 102 := ent_ok tabOK0 (.cons (slices_siftDownCmpFunc_A4_'o_i_compareCards_ok n) .nil) Tryz.func102 rfl (by kernel_rfl) (slices_heapSortCmpFunc_A4_'o_i_compareCards_ev n)
def slices_order2CmpFunc_A4_'lp_i_compareCards_i : CSh := ⟨[(.data false (.sl (.arr 4 tI))), (.data true tI), (.data true tI), (.ptr 0 []), (.clo 75 .tnil)], [.var 3 (.data true tI)]⟩
def slices_order2CmpFunc_A4_'lp_i_compareCards_o : RSh := ⟨(.tcons (.data true tI) (.tcons (.data true tI) .tnil)), [.var 3 (.data true tI)]⟩
theorem slices_order2CmpFunc_A4_'lp_i_compareCards_ev (n : Nat) (x : TupT slices_order2CmpFunc_A4_'lp_i_compareCards_i.tys) : evF ⟨tab, [i_compareCards_e n], n, []⟩ Tryz.f127 slices_order2CmpFunc_A4_'lp_i_compareCards_i slices_order2CmpFunc_A4_'lp_i_compareCards_o x = slices_order2CmpFunc_A4_'lp_i_compareCards n x.1 x.2.1 x.2.2.1 x.2.2.2 := by kernel_rfl
noncomputable def slices_order2CmpFunc_A4_'lp_i_compareCards_e (n : Nat) : Ent := ⟨127, slices_order2CmpFunc_A4_'lp_i_compareCards_i, slices_order2CmpFunc_A4_'lp_i_compareCards_o, fun x => slices_order2CmpFunc_A4_'lp_i_compareCards n x.1 x.2.1 x.2.2.1 x.2.2.2⟩
theorem slices_order2CmpFunc_A4_'lp_i_compareCards_ok (n : Nat) : EntOK Tryz.prog (slices_order2CmpFunc_A4_'lp_i_compareCards_e n) ∧ Own Tryz.prog 127 := ent_ok tabOK0 (.cons (i_compareCards_ok n) .nil) Tryz.func127 rfl (by kernel_rfl) (slices_order2CmpFunc_A4_'lp_i_compareCards_ev n)
def slices_medianCmpFunc_A4_'lp_i_compareCards_i : CSh := ⟨[(.data false (.sl (.arr 4 tI))), (.data true tI), (.data true tI), (.data true tI), (.ptr 0 []), (.clo 75 .tnil)], [.var 3 (.data true tI)]⟩
def slices_medianCmpFunc_A4_'lp_i_compareCards_o : RSh := ⟨(.data true tI), [.var 3 (.data true tI)]⟩
theorem slices_medianCmpFunc_A4_'lp_i_compareCards_ev (n : Nat) (x : TupT slices_medianCmpFunc_A4_'lp_i_compareCards_i.tys) : evF ⟨tab, [slices_order2CmpFunc_A4_'lp_i_compareCards_e n], n, []⟩ Tryz.f120 slices_medianCmpFunc_A4_'lp_i_compareCards_i slices_medianCmpFunc_A4_'lp_i_compareCards_o x = slices_medianCmpFunc_A4_'lp_i_compareCards n x.1 x.2.1 x.2.2.1 x.2.2.2.1 x.2.2.2.2 := by kernel_rfl
noncomputable def slices_medianCmpFunc_A4_'lp_i_compareCards_e (n : Nat) : Ent := ⟨120, slices_medianCmpFunc_A4_'lp_i_compareCards_i, slices_medianCmpFunc_A4_'lp_i_compareCards_o, fun x => slices_medianCmpFunc_A4_'lp_i_compareCards n x.1 x.2.1 x.2.2.1 x.2.2.2.1 x.2.2.2.2⟩
theorem slices_medianCmpFunc_A4_'lp_i_compareCards_ok (n : Nat) : EntOK Tryz.prog (slices_medianCmpFunc_A4_'lp_i_compareCards_e n) ∧ Own Tryz.prog 120 := ent_ok tabOK0 (.cons (slices_order2CmpFunc_A4_'lp_i_compareCards_ok n) .nil) Tryz.func120 rfl (by kernel_rfl) (slices_medianCmpFunc_A4_'lp_i_compareCards_ev n)
def slices_medianAdjacentCmpFunc_A4_'lp_i_compareCards_i : CSh := ⟨[(.data false (.sl (.arr 4 tI))), (.data true tI), (.ptr 0 []), (.clo 75 .tnil)], [.var 3 (.data true tI)]⟩
def slices_medianAdjacentCmpFunc_A4_'lp_i_compareCards_o : RSh := ⟨(.data true tI), [.var 3 (.data true tI)]⟩
theorem slices_medianAdjacentCmpFunc_A4_'lp_i_compareCards_ev (n : Nat) (x : TupT slices_medianAdjacentCmpFunc_A4_'lp_i_compareCards_i.tys) : evF ⟨tab, [slices_medianCmpFunc_A4_'lp_i_compareCards_e n], n, []⟩ Tryz.f119 slices_medianAdjacentCmpFunc_A4_'lp_i_compareCards_i slices_medianAdjacentCmpFunc_A4_'lp_i_compareCards_o x = slices_medianAdjacentCmpFunc_A4_'lp_i_compareCards n x.1 x.2.1 x.2.2 := by kernel_rfl
noncomputable def slices_medianAdjacentCmpFunc_A4_'lp_i_compareCards_e (n : Nat) : Ent := ⟨119, slices_medianAdjacentCmpFunc_A4_'lp_i_compareCards_i, slices_medianAdjacentCmpFunc_A4_'lp_i_compareCards_o, fun x => slices_medianAdjacentCmpFunc_A4_'lp_i_compareCards n x.1 x.2.1 x.2.2⟩
theorem slices_medianAdjacentCmpFunc_A4_'lp_i_compareCards_ok (n : Nat) : EntOK Tryz.prog (slices_medianAdjacentCmpFunc_A4_'lp_i_compareCards_e n) ∧ Own Tryz.prog 119 := ent_ok tabOK0 (.cons (slices_medianCmpFunc_A4_'lp_i_compareCards_ok n) .nil) Tryz.func119 rfl (by kernel_rfl) (slices_medianAdjacentCmpFunc_A4_'lp_i_compareCards_ev n)
def slices_choosePivotCmpFunc_A4_'l_i_compareCards_i : CSh := ⟨[(.data false (.sl (.arr 4 tI))), (.data true tI), (.data true tI), (.clo 75 .tnil)], []⟩
def slices_choosePivotCmpFunc_A4_'l_i_compareCards_o : RSh := ⟨(.tcons (.data true tI) (.tcons (.data true tI) .tnil)), []⟩
theorem slices_choosePivotCmpFunc_A4_'l_i_compareCards_ev (n : Nat) (x : TupT slices_choosePivotCmpFunc_A4_'l_i_compareCards_i.tys) : evF ⟨tab, [slices_medianCmpFunc_A4_'lp_i_compareCards_e n, slices_medianAdjacentCmpFunc_A4_'lp_i_compareCards_e n], n, [(12, ⟨[(11, (.ptr 0 [])), (13, (.data true tI))], [.var 3 (.data true tI)], 0⟩), (16, ⟨[(0, (.data false (.sl (.arr 4 tI)))), (3, (.clo 75 .tnil)), (11, (.ptr 0 [])), (12, (.data true tI)), (13, (.data true tI)), (14, (.data true tI))], [.var 3 (.data true tI)], 0⟩)]⟩ Tryz.f104 slices_choosePivotCmpFunc_A4_'l_i_compareCards_i slices_choosePivotCmpFunc_A4_'l_i_compareCards_o x = slices_choosePivotCmpFunc_A4_'l_i_compareCards n x.1 x.2.1 x.2.2 := by kernel_rfl
noncomputable def slices_choosePivotCmpFunc_A4_'l_i_compareCards_e (n : Nat) : Ent := ⟨104, slices_choosePivotCmpFunc_A4_'l_i_compareCards_i, slices_choosePivotCmpFunc_A4_'l_i_compareCards_o, fun x => slices_choosePivotCmpFunc_A4_'l_i_compareCards n x.1 x.2.1 x.2.2⟩
theorem slices_choosePivotCmpFunc_A4_'l_i_compareCards_ok (n : Nat) : EntOK Tryz.prog (slices_choosePivotCmpFunc_A4_'l_i_compareCards_e n) ∧ Own Tryz.prog 104 := ent_ok tabOK0 (.cons (slices_medianCmpFunc_A4_'lp_i_compareCards_ok n) (.cons (slices_medianAdjacentCmpFunc_A4_'lp_i_compareCards_ok n) .nil)) Tryz.func104 rfl (by kernel_rfl) (slices_choosePivotCmpFunc_A4_'l_i_compareCards_ev n)
def slices_partitionEqualCmpFunc_A4_'o_i_compareCards_i : CSh := ⟨[(.own 0), (.data true tI), (.data true tI), (.data true tI), (.clo 75 .tnil)], [.rows 31 true (.arr 4 tI)]⟩
def slices_partitionEqualCmpFunc_A4_'o_i_compareCards_o : RSh := ⟨(.data true tI), [.rows 31 true (.arr 4 tI)]⟩
theorem slices_partitionEqualCmpFunc_A4_'o_i_compareCards_ev (n : Nat) (x : TupT slices_partitionEqualCmpFunc_A4_'o_i_compareCards_i.tys) : evF ⟨tab, [i_compareCards_e n], n, [(8, ⟨[(0, (.own 0)), (1, (.data true tI)), (4, (.clo 75 .tnil)), (11, (.data true tI)), (12, (.data true tI))], [.rows 31 true (.arr 4 tI)], 1⟩), (12, ⟨[(0, (.own 0)), (1, (.data true tI)), (4, (.clo 75 .tnil)), (11, (.data true tI)), (12, (.data true tI))], [.rows 31 true (.arr 4 tI)], 1⟩), (23, ⟨[(0, (.own 0)), (1, (.data true tI)), (4, (.clo 75 .tnil)), (11, (.data true tI)), (12, (.data true tI))], [.rows 31 true (.arr 4 tI)], 1⟩)]⟩ Tryz.f107 slices_partitionEqualCmpFunc_A4_'o_i_compareCards_i slices_partitionEqualCmpFunc_A4_'o_i_compareCards_o x = slices_partitionEqualCmpFunc_A4_'o_i_compareCards n x.1 x.2.1 x.2.2.1 x.2.2.2 := by kernel_rfl
noncomputable def slices_partitionEqualCmpFunc_A4_'o_i_compareCards_e (n : Nat) : Ent := ⟨107, slices_partitionEqualCmpFunc_A4_'o_i_compareCards_i, slices_partitionEqualCmpFunc_A4_'o_i_compareCards_o, fun x => slices_partitionEqualCmpFunc_A4_'o_i_compareCards n x.1 x.2.1 x.2.2.1 x.2.2.2⟩
theorem slices_partitionEqualCmpFunc_A4_'o_i_compareCards_ok (n : Nat) : EntOK Tryz.prog (slices_partitionEqualCmpFunc_A4_'o_i_compareCards_e n) ∧ Own Tryz.prog 107 := ent_ok tabOK0 (.cons (i_compareCards_ok n) .nil) Tryz.func107 rfl (by kernel_rfl) (slices_partitionEqualCmpFunc_A4_'o_i_compareCards_ev n)
def slices_partitionCmpFunc_A4_'o_i_compareCards_i : CSh := ⟨[(.own 0), (.data true tI), (.data true tI), (.data true tI), (.clo 75 .tnil)], [.rows 31 true (.arr 4 tI)]⟩
def slices_partitionCmpFunc_A4_'o_i_compareCards_o : RSh := ⟨(.tcons (.data true tI) (.tcons (.data true .bool) .tnil)), [.rows 31 true (.arr 4 tI)]⟩
theorem slices_partitionCmpFunc_A4_'o_i_compareCards_ev (n : Nat) (x : TupT slices_partitionCmpFunc_A4_'o_i_compareCards_i.tys) : evF ⟨tab, [i_compareCards_e n], n, [(8, ⟨[(0, (.own 0)), (1, (.data true tI)), (4, (.clo 75 .tnil)), (12, (.data true tI)), (13, (.data true tI))], [.rows 31 true (.arr 4 tI)], 1⟩), (19, ⟨[(0, (.own 0)), (1, (.data true tI)), (4, (.clo 75 .tnil)), (12, (.data true tI)), (13, (.data true tI))], [.rows 31 true (.arr 4 tI)], 1⟩), (46, ⟨[(0, (.own 0)), (1, (.data true tI)), (4, (.clo 75 .tnil)), (12, (.data true tI)), (13, (.data true tI))], [.rows 31 true (.arr 4 tI)], 1⟩), (50, ⟨[(0, (.own 0)), (1, (.data true tI)), (4, (.clo 75 .tnil)), (12, (.data true tI)), (13, (.data true tI))], [.rows 31 true (.arr 4 tI)], 1⟩), (61, ⟨[(0, (.own 0)), (1, (.data true tI)), (4, (.clo 75 .tnil)), (12, (.data true tI)), (13, (.data true tI))], [.rows 31 true (.arr 4 tI)], 1⟩)]⟩ Tryz.f108 slices_partitionCmpFunc_A4_'o_i_compareCards_i slices_partitionCmpFunc_A4_'o_i_compareCards_o x = slices_partitionCmpFunc_A4_'o_i_compareCards n x.1 x.2.1 x.2.2.1 x.2.2.2 := by kernel_rfl
noncomputable def slices_partitionCmpFunc_A4_'o_i_compareCards_e (n : Nat) : Ent := ⟨108, slices_partitionCmpFunc_A4_'o_i_compareCards_i, slices_partitionCmpFunc_A4_'o_i_compareCards_o, fun x => slices_partitionCmpFunc_A4_'o_i_compareCards n x.1 x.2.1 x.2.2.1 x.2.2.2⟩
theorem slices_partitionCmpFunc_A4_'o_i_compareCards_ok (n : Nat) : EntOK Tryz.prog (slices_partitionCmpFunc_A4_'o_i_compareCards_e n) ∧ Own Tryz.prog 108 := ent_ok tabOK0 (.cons (i_compareCards_ok n) .nil) Tryz.func108 rfl (by kernel_rfl) (slices_partitionCmpFunc_A4_'o_i_compareCards_ev n)
def slices_partialInsertionSortCmpFunc_A4_'o_i_compareCards_i : CSh := ⟨[(.own 0), (.data true tI), (.data true tI), (.clo 75 .tnil)], [.rows 31 true (.arr 4 tI)]⟩
def slices_partialInsertionSortCmpFunc_A4_'o_i_compareCards_o : RSh := ⟨(.data true .bool), [.rows 31 true (.arr 4 tI)]⟩
theorem slices_partialInsertionSortCmpFunc_A4_'o_i_compareCards_ev (n : Nat) (x : TupT slices_partialInsertionSortCmpFunc_A4_'o_i_compareCards_i.tys) : evF ⟨tab, [i_compareCards_e n], n, [(8, ⟨[(0, (.own 0)), (1, (.data true tI)), (2, (.data true tI)), (3, (.clo 75 .tnil)), (9, (.data true tI)), (10, (.data true tI))], [.rows 31 true (.arr 4 tI)], 1⟩), (19, ⟨[(0, (.own 0)), (1, (.data true tI)), (2, (.data true tI)), (3, (.clo 75 .tnil)), (9, (.data true tI)), (10, (.data true tI))], [.rows 31 true (.arr 4 tI)], 1⟩), (46, ⟨[(0, (.own 0)), (1, (.data true tI)), (2, (.data true tI)), (3, (.clo 75 .tnil)), (9, (.data true tI)), (10, (.data true tI))], [.rows 31 true (.arr 4 tI)], 1⟩), (53, ⟨[(0, (.own 0)), (1, (.data true tI)), (2, (.data true tI)), (3, (.clo 75 .tnil)), (9, (.data true tI)), (10, (.data true tI)), (11, (.data true tI))], [.rows 31 true (.arr 4 tI)], 1⟩), (77, ⟨[(0, (.own 0)), (1, (.data true tI)), (2, (.data true tI)), (3, (.clo 75 .tnil)), (9, (.data true tI)), (10, (.data true tI)), (12, (.data true tI))], [.rows 31 true (.arr 4 tI)], 1⟩)]⟩ Tryz.f106 slices_partialInsertionSortCmpFunc_A4_'o_i_compareCards_i slices_partialInsertionSortCmpFunc_A4_'o_i_compareCards_o x = slices_partialInsertionSortCmpFunc_A4_'o_i_compareCards n x.1 x.2.1 x.2.2 := by kernel_rfl
noncomputable def slices_partialInsertionSortCmpFunc_A4_'o_i_compareCards_e (n : Nat) : Ent := ⟨106, slices_partialInsertionSortCmpFunc_A4_'o_i_compareCards_i, slices_partialInsertionSortCmpFunc_A4_'o_i_compareCards_o, fun x => slices_partialInsertionSortCmpFunc_A4_'o_i_compareCards n x.1 x.2.1 x.2.2⟩
theorem slices_partialInsertionSortCmpFunc_A4_'o_i_compareCards_ok (n : Nat) : EntOK Tryz.prog (slices_partialInsertionSortCmpFunc_A4_'o_i_compareCards_e n) ∧ Own Tryz.prog 106 := ent_ok tabOK0 (.cons (i_compareCards_ok n) .nil) Tryz.func106 rfl (by kernel_rfl) (slices_partialInsertionSortCmpFunc_A4_'o_i_compareCards_ev n)
def slices_reverseRangeCmpFunc_A4_'o_i_compareCards_i : CSh := ⟨[(.own 0), (.data true tI), (.data true tI), (.clo 75 .tnil)], [.rows 31 true (.arr 4 tI)]⟩
def slices_reverseRangeCmpFunc_A4_'o_i_compareCards_o : RSh := ⟨.tnil, [.rows 31 true (.arr 4 tI)]⟩
theorem slices_reverseRangeCmpFunc_A4_'o_i_compareCards_ev (n : Nat) (x : TupT slices_reverseRangeCmpFunc_A4_'o_i_compareCards_i.tys) : evF ⟨tab, [], n, [(5, ⟨[(0, (.own 0)), (8, (.data true tI)), (9, (.data true tI))], [.rows 31 true (.arr 4 tI)], 1⟩)]⟩ Tryz.f105 slices_reverseRangeCmpFunc_A4_'o_i_compareCards_i slices_reverseRangeCmpFunc_A4_'o_i_compareCards_o x = slices_reverseRangeCmpFunc_A4_'o_i_compareCards n x.1 x.2.1 x.2.2 := by kernel_rfl
noncomputable def slices_reverseRangeCmpFunc_A4_'o_i_compareCards_e (n : Nat) : Ent := ⟨105, slices_reverseRangeCmpFunc_A4_'o_i_compareCards_i, slices_reverseRangeCmpFunc_A4_'o_i_compareCards_o, fun x => slices_reverseRangeCmpFunc_A4_'o_i_compareCards n x.1 x.2.1 x.2.2⟩
theorem slices_reverseRangeCmpFunc_A4_'o_i_compareCards_ok (n : Nat) : EntOK Tryz.prog (slices_reverseRangeCmpFunc_A4_'o_i_compareCards_e n) ∧ Own Tryz.prog 105 := ent_ok tabOK0 .nil Tryz.func105 rfl (by kernel_rfl) (slices_reverseRangeCmpFunc_A4_'o_i_compareCards_ev n)
def slices_nextPowerOfTwo_i : CSh := ⟨[(.data true tI)], []⟩
def slices_nextPowerOfTwo_o : RSh := ⟨(.data true (.int .u64)), []⟩
theorem slices_nextPowerOfTwo_ev (n : Nat) (x : TupT slices_nextPowerOfTwo_i.tys) : evF ⟨tab, [math_bits_Len_e n], n, []⟩ Tryz.f117 slices_nextPowerOfTwo_i slices_nextPowerOfTwo_o x = slices_nextPowerOfTwo n x := by kernel_rfl
noncomputable def slices_nextPowerOfTwo_e (n : Nat) : Ent := ⟨117, slices_nextPowerOfTwo_i, slices_nextPowerOfTwo_o, fun x => slices_nextPowerOfTwo n x⟩
theorem slices_nextPowerOfTwo_ok (n : Nat) : EntOK Tryz.prog (slices_nextPowerOfTwo_e n) ∧ Own Tryz.prog 117 := ent_ok tabOK0 (.cons (math_bits_Len_ok n) .nil) Tryz.func117 rfl (by kernel_rfl) (slices_nextPowerOfTwo_ev n)
def __slices_xorshift__Next'p_i : CSh := ⟨[(.ptr 0 [])], [.var 125 (.data true (.int .u64))]⟩
def __slices_xorshift__Next'p_o : RSh := ⟨(.data true (.int .u64)), [.var 125 (.data true (.int .u64))]⟩
theorem __slices_xorshift__Next'p_ev (n : Nat) (x : TupT __slices_xorshift__Next'p_i.tys) : evF ⟨tab, [], n, []⟩ Tryz.f118 __slices_xorshift__Next'p_i __slices_xorshift__Next'p_o x = __slices_xorshift__Next'p n x := by kernel_rfl
noncomputable def __slices_xorshift__Next'p_e (n : Nat) : Ent := ⟨118, __slices_xorshift__Next'p_i, __slices_xorshift__Next'p_o, fun x => __slices_xorshift__Next'p n x⟩
theorem __slices_xorshift__Next'p_ok (n : Nat) : EntOK Tryz.prog (__slices_xorshift__Next'p_e n) ∧ Own Tryz.prog 118 := ent_ok tabOK0 .nil Tryz.func118 rfl (by kernel_rfl) (__slices_xorshift__Next'p_ev n)
def slices_breakPatternsCmpFunc_A4_'o_i_compareCards_i : CSh := ⟨[(.own 0), (.data true tI), (.data true tI), (.clo 75 .tnil)], [.rows 31 true (.arr 4 tI)]⟩
def slices_breakPatternsCmpFunc_A4_'o_i_compareCards_o : RSh := ⟨.tnil, [.rows 31 true (.arr 4 tI)]⟩
theorem slices_breakPatternsCmpFunc_A4_'o_i_compareCards_ev (n : Nat) (x : TupT slices_breakPatternsCmpFunc_A4_'o_i_compareCards_i.tys) : evF ⟨tab, [slices_nextPowerOfTwo_e n, __slices_xorshift__Next'p_e n], n, [(12, ⟨[(0, (.own 0)), (1, (.data true tI)), (8, (.data true tI)), (9, (.ptr 1 [])), (10, (.data true (.int .u64))), (11, (.data true tI))], [.rows 31 true (.arr 4 tI), .var 125 (.data true (.int .u64))], 1⟩), (23, ⟨[(0, (.own 0)), (1, (.data true tI)), (8, (.data true tI)), (9, (.ptr 1 [])), (10, (.data true (.int .u64))), (11, (.data true tI)), (12, (.data true tI))], [.rows 31 true (.arr 4 tI), .var 125 (.data true (.int .u64))], 1⟩)]⟩ Tryz.f103 slices_breakPatternsCmpFunc_A4_'o_i_compareCards_i slices_breakPatternsCmpFunc_A4_'o_i_compareCards_o x = slices_breakPatternsCmpFunc_A4_'o_i_compareCards n x.1 x.2.1 x.2.2 := by kernel_rfl
noncomputable def slices_breakPatternsCmpFunc_A4_'o_i_compareCards_e (n : Nat) : Ent := ⟨103, slices_breakPatternsCmpFunc_A4_'o_i_compareCards_i, slices_breakPatternsCmpFunc_A4_'o_i_compareCards_o, fun x => slices_breakPatternsCmpFunc_A4_'o_i_compareCards n x.1 x.2.1 x.2.2⟩
theorem slices_breakPatternsCmpFunc_A4_'o_i_compareCards_ok (n : Nat) : EntOK Tryz.prog (slices_breakPatternsCmpFunc_A4_'o_i_compareCards_e n) ∧ Own Tryz.prog 103 := ent_ok tabOK0 (.cons (slices_nextPowerOfTwo_ok n) (.cons (__slices_xorshift__Next'p_ok n) .nil)) Tryz.func103 rfl (by kernel_rfl) (slices_breakPatternsCmpFunc_A4_'o_i_compareCards_ev n)
def slices_pdqsortCmpFunc_A4_'o_i_compareCards_i : CSh := ⟨[(.own 0), (.data true tI), (.data true tI), (.data true tI), (.clo 75 .tnil)], [.rows 31 true (.arr 4 tI)]⟩
def slices_pdqsortCmpFunc_A4_'o_i_compareCards_o : RSh := ⟨.tnil, [.rows 31 true (.arr 4 tI)]⟩
theorem slices_pdqsortCmpFunc_A4_'o_i_compareCards_ev (n : Nat) (go : TupT slices_pdqsortCmpFunc_A4_'o_i_compareCards_i.tys → Option (TupT slices_pdqsortCmpFunc_A4_'o_i_compareCards_o.tys)) (x : TupT slices_pdqsortCmpFunc_A4_'o_i_compareCards_i.tys) : evF ⟨tab, [⟨92, slices_pdqsortCmpFunc_A4_'o_i_compareCards_i, slices_pdqsortCmpFunc_A4_'o_i_compareCards_o, go⟩, slices_insertionSortCmpFunc_A4_'o_i_compareCards_e n, slices_heapSortCmpFunc_A4_'o_i_compareCards_e n, slices_choosePivotCmpFunc_A4_'l_i_compareCards_e n, i_compareCards_e n, slices_partitionEqualCmpFunc_A4_'o_i_compareCards_e n, slices_partitionCmpFunc_A4_'o_i_compareCards_e n, slices_partialInsertionSortCmpFunc_A4_'o_i_compareCards_e n, slices_reverseRangeCmpFunc_A4_'o_i_compareCards_e n, slices_breakPatternsCmpFunc_A4_'o_i_compareCards_e n], n, [(5, ⟨[(0, (.own 0)), (1, (.data true tI)), (2, (.data true tI)), (3, (.data true tI)), (4, (.clo 75 .tnil)), (10, (.data true .bool)), (11, (.data true .bool))], [.rows 31 true (.arr 4 tI)], 1⟩), (25, ⟨[(0, (.own 0)), (1, (.data true tI)), (2, (.data true tI)), (3, (.data true tI)), (4, (.clo 75 .tnil)), (10, (.data true .bool)), (11, (.data true .bool)), (12, (.data true tI))], [.rows 31 true (.arr 4 tI)], 1⟩), (35, ⟨[(0, (.own 0)), (1, (.data true tI)), (2, (.data true tI)), (3, (.data true tI)), (4, (.clo 75 .tnil)), (10, (.data true .bool)), (11, (.data true .bool)), (12, (.data true tI)), (13, (.data true tI)), (14, (.data true tI))], [.rows 31 true (.arr 4 tI)], 1⟩), (45, ⟨[(0, (.own 0)), (1, (.data true tI)), (2, (.data true tI)), (3, (.data true tI)), (4, (.clo 75 .tnil)), (10, (.data true .bool)), (11, (.data true .bool)), (12, (.data true tI)), (13, (.data true tI))], [.rows 31 true (.arr 4 tI)], 1⟩)]⟩ Tryz.f92 slices_pdqsortCmpFunc_A4_'o_i_compareCards_i slices_pdqsortCmpFunc_A4_'o_i_compareCards_o x = slices_pdqsortCmpFunc_A4_'o_i_compareCards_R n go x := by kernel_rfl
noncomputable def slices_pdqsortCmpFunc_A4_'o_i_compareCards_e (n : Nat) : Ent := ⟨92, slices_pdqsortCmpFunc_A4_'o_i_compareCards_i, slices_pdqsortCmpFunc_A4_'o_i_compareCards_o, fun x => slices_pdqsortCmpFunc_A4_'o_i_compareCards n x.1 x.2.1 x.2.2.1 x.2.2.2⟩
theorem slices_pdqsortCmpFunc_A4_'o_i_compareCards_ok (n : Nat) : EntOK Tryz.prog (slices_pdqsortCmpFunc_A4_'o_i_compareCards_e n) ∧ Own Tryz.prog 92 := ent_rec tabOK0 (.cons (slices_insertionSortCmpFunc_A4_'o_i_compareCards_ok n) (.cons (slices_heapSortCmpFunc_A4_'o_i_compareCards_ok n) (.cons (slices_choosePivotCmpFunc_A4_'l_i_compareCards_ok n) (.cons (i_compareCards_ok n) (.cons (slices_partitionEqualCmpFunc_A4_'o_i_compareCards_ok n) (.cons (slices_partitionCmpFunc_A4_'o_i_compareCards_ok n) (.cons (slices_partialInsertionSortCmpFunc_A4_'o_i_compareCards_ok n) (.cons (slices_reverseRangeCmpFunc_A4_'o_i_compareCards_ok n) (.cons (slices_breakPatternsCmpFunc_A4_'o_i_compareCards_ok n) .nil))))))))) Tryz.func92 rfl (by kernel_rfl) (slices_pdqsortCmpFunc_A4_'o_i_compareCards_ev n) n
def slices_SortFunc_SA4_A4_'o_i_compareCards_i : CSh := ⟨[(.own 0), (.clo 75 .tnil)], [.rows 31 true (.arr 4 tI)]⟩
def slices_SortFunc_SA4_A4_'o_i_compareCards_o : RSh := ⟨.tnil, [.rows 31 true (.arr 4 tI)]⟩
theorem slices_SortFunc_SA4_A4_'o_i_compareCards_ev (n : Nat) (x : TupT slices_SortFunc_SA4_A4_'o_i_compareCards_i.tys) : evF ⟨tab, [math_bits_Len_e n, slices_pdqsortCmpFunc_A4_'o_i_compareCards_e n], n, []⟩ Tryz.f74 slices_SortFunc_SA4_A4_'o_i_compareCards_i slices_SortFunc_SA4_A4_'o_i_compareCards_o x = slices_SortFunc_SA4_A4_'o_i_compareCards n x := by kernel_rfl
noncomputable def slices_SortFunc_SA4_A4_'o_i_compareCards_e (n : Nat) : Ent := ⟨74, slices_SortFunc_SA4_A4_'o_i_compareCards_i, slices_SortFunc_SA4_A4_'o_i_compareCards_o, fun x => slices_SortFunc_SA4_A4_'o_i_compareCards n x⟩
theorem slices_SortFunc_SA4_A4_'o_i_compareCards_ok (n : Nat) : EntOK Tryz.prog (slices_SortFunc_SA4_A4_'o_i_compareCards_e n) ∧ Own Tryz.prog 74 := ent_ok tabOK0 (.cons (math_bits_Len_ok n) (.cons (slices_pdqsortCmpFunc_A4_'o_i_compareCards_ok n) .nil)) Tryz.func74 rfl (by kernel_rfl) (slices_SortFunc_SA4_A4_'o_i_compareCards_ev n)
def slices_Compact_SA4_A4_'o_i : CSh := ⟨[(.own 0)], [.rows 31 true (.arr 4 tI)]⟩
def slices_Compact_SA4_A4_'o_o : RSh := ⟨(.own 1), [.gone, .rows 31 true (.arr 4 tI)]⟩
theorem slices_Compact_SA4_A4_'o_ev (n : Nat) (x : TupT slices_Compact_SA4_A4_'o_i.tys) : evF ⟨tab, [], n, [(14, ⟨[(0, (.own 0)), (3, (.data true tI))], [.rows 31 true (.arr 4 tI)], 1⟩), (32, ⟨[(0, (.own 0)), (3, (.data true tI)), (4, (.ownp 0)), (5, (.data true tI))], [.rows 31 true (.arr 4 tI)], 1⟩)]⟩ Tryz.f76 slices_Compact_SA4_A4_'o_i slices_Compact_SA4_A4_'o_o x = slices_Compact_SA4_A4_'o n x := by kernel_rfl
noncomputable def slices_Compact_SA4_A4_'o_e (n : Nat) : Ent := ⟨76, slices_Compact_SA4_A4_'o_i, slices_Compact_SA4_A4_'o_o, fun x => slices_Compact_SA4_A4_'o n x⟩
theorem slices_Compact_SA4_A4_'o_ok (n : Nat) : EntOK Tryz.prog (slices_Compact_SA4_A4_'o_e n) ∧ Own Tryz.prog 76 := ent_ok tabOK0 .nil Tryz.func76 rfl (by kernel_rfl) (slices_Compact_SA4_A4_'o_ev n)
def i_sorted_i : CSh := ⟨[(.data false (.sl (.arr 4 tI)))], []⟩
def i_sorted_o : RSh := ⟨(.own 0), [.rows 31 true (.arr 4 tI)]⟩
theorem i_sorted_ev (n : Nat) (x : TupT i_sorted_i.tys) : evF ⟨tab, [slices_Clone_SA4_A4__e n, slices_SortFunc_SA4_A4_'o_i_compareCards_e n, slices_Compact_SA4_A4_'o_e n], n, []⟩ Tryz.f46 i_sorted_i i_sorted_o x = i_sorted n x := by kernel_rfl
noncomputable def i_sorted_e (n : Nat) : Ent := ⟨46, i_sorted_i, i_sorted_o, fun x => i_sorted n x⟩
theorem i_sorted_ok (n : Nat) : EntOK Tryz.prog (i_sorted_e n) ∧ Own Tryz.prog 46 := ent_ok tabOK0 (.cons (slices_Clone_SA4_A4__ok n) (.cons (slices_SortFunc_SA4_A4_'o_i_compareCards_ok n) (.cons (slices_Compact_SA4_A4_'o_ok n) .nil))) Tryz.func46 rfl (by kernel_rfl) (i_sorted_ev n)
def i_PutCard_i : CSh := ⟨[(.data false (.sl (.arr 4 tI))), (.data true (.arr 4 tI))], []⟩
def i_PutCard_o : RSh := ⟨(.tcons (.own 0) (.tcons (.data true .bool) .tnil)), [.rows 31 true (.arr 4 tI)]⟩
theorem i_PutCard_ev (n : Nat) (x : TupT i_PutCard_i.tys) : evF ⟨tab, [i_IsHand_e n, i_IsCard_e n, i_has_e n, slices_Clone_SA4_A4__e n, i_sorted_e n], n, []⟩ Tryz.f15 i_PutCard_i i_PutCard_o x = i_PutCard n x.1 x.2 := by kernel_rfl
noncomputable def i_PutCard_e (n : Nat) : Ent := ⟨15, i_PutCard_i, i_PutCard_o, fun x => i_PutCard n x.1 x.2⟩
theorem i_PutCard_ok (n : Nat) : EntOK Tryz.prog (i_PutCard_e n) ∧ Own Tryz.prog 15 := ent_ok tabOK0 (.cons (i_IsHand_ok n) (.cons (i_IsCard_ok n) (.cons (i_has_ok n) (.cons (slices_Clone_SA4_A4__ok n) (.cons (i_sorted_ok n) .nil))))) Tryz.func15 rfl (by kernel_rfl) (i_PutCard_ev n)
def s_l2Has_i : CSh := ⟨[(.data false (.sl (.arr 4 tI))), (.data true (.arr 4 tI))], []⟩
def s_l2Has_o : RSh := ⟨(.data true .bool), []⟩
theorem s_l2Has_ev (n : Nat) (x : TupT s_l2Has_i.tys) : evF ⟨tab, [s_l2Place_e n], n, []⟩ Tryz.f48 s_l2Has_i s_l2Has_o x = s_l2Has n x.1 x.2 := by kernel_rfl
noncomputable def s_l2Has_e (n : Nat) : Ent := ⟨48, s_l2Has_i, s_l2Has_o, fun x => s_l2Has n x.1 x.2⟩
theorem s_l2Has_ok (n : Nat) : EntOK Tryz.prog (s_l2Has_e n) ∧ Own Tryz.prog 48 := ent_ok tabOK0 (.cons (s_l2Place_ok n) .nil) Tryz.func48 rfl (by kernel_rfl) (s_l2Has_ev n)
def s_PutCard_i : CSh := ⟨[(.data false (.sl (.arr 4 tI))), (.data true (.arr 4 tI))], []⟩
def s_PutCard_o : RSh := ⟨(.tcons (.own 0) (.tcons (.data true .bool) .tnil)), [.rows 31 true (.arr 4 tI)]⟩
theorem s_PutCard_ev (n : Nat) (x : TupT s_PutCard_i.tys) : evF ⟨tab, [s_l2Hand_e n, s_l2Card_e n, s_l2Has_e n, s_l2Put_e n], n, []⟩ Tryz.f16 s_PutCard_i s_PutCard_o x = s_PutCard n x.1 x.2 := by kernel_rfl
noncomputable def s_PutCard_e (n : Nat) : Ent := ⟨16, s_PutCard_i, s_PutCard_o, fun x => s_PutCard n x.1 x.2⟩
theorem s_PutCard_ok (n : Nat) : EntOK Tryz.prog (s_PutCard_e n) ∧ Own Tryz.prog 16 := ent_ok tabOK0 (.cons (s_l2Hand_ok n) (.cons (s_l2Card_ok n) (.cons (s_l2Has_ok n) (.cons (s_l2Put_ok n) .nil)))) Tryz.func16 rfl (by kernel_rfl) (s_PutCard_ev n)
def v_rHand_i : CSh := ⟨[(.data false (.sl (.arr 4 tI))), (.data false (.sl (.arr 4 tI)))], []⟩
def v_rHand_o : RSh := ⟨(.data true .bool), []⟩
theorem v_rHand_ev (n : Nat) (x : TupT v_rHand_i.tys) : evF ⟨tab, [], n, [(14, ⟨[(0, (.data false (.sl (.arr 4 tI)))), (1, (.data false (.sl (.arr 4 tI)))), (5, (.data true tI))], [], 0⟩)]⟩ Tryz.f17 v_rHand_i v_rHand_o x = v_rHand n x.1 x.2 := by kernel_rfl
noncomputable def v_rHand_e (n : Nat) : Ent := ⟨17, v_rHand_i, v_rHand_o, fun x => v_rHand n x.1 x.2⟩
theorem v_rHand_ok (n : Nat) : EntOK Tryz.prog (v_rHand_e n) ∧ Own Tryz.prog 17 := ent_ok tabOK0 .nil Tryz.func17 rfl (by kernel_rfl) (v_rHand_ev n)
def i_without_1'p_i : CSh := ⟨[(.data true (.arr 4 tI)), (.ptr 0 [])], [.var 31 (.data true (.arr 4 tI))]⟩
def i_without_1'p_o : RSh := ⟨(.data true .bool), [.var 31 (.data true (.arr 4 tI))]⟩
theorem i_without_1'p_ev (n : Nat) (x : TupT i_without_1'p_i.tys) : evF ⟨tab, [], n, []⟩ Tryz.f79 i_without_1'p_i i_without_1'p_o x = i_without_1'p n x.1 x.2 := by kernel_rfl
noncomputable def i_without_1'p_e (n : Nat) : Ent := ⟨79, i_without_1'p_i, i_without_1'p_o, fun x => i_without_1'p n x.1 x.2⟩
theorem i_without_1'p_ok (n : Nat) : EntOK Tryz.prog (i_without_1'p_e n) ∧ Own Tryz.prog 79 := ent_ok tabOK0 .nil Tryz.func79 rfl (by kernel_rfl) (i_without_1'p_ev n)
def slices_IndexFunc_SA4_A4_'l_i_without_1p_i : CSh := ⟨[(.data false (.sl (.arr 4 tI))), (.clo 79 (.tcons (.ptr 0 []) .tnil))], [.var 31 (.data true (.arr 4 tI))]⟩
def slices_IndexFunc_SA4_A4_'l_i_without_1p_o : RSh := ⟨(.data true tI), [.var 31 (.data true (.arr 4 tI))]⟩
theorem slices_IndexFunc_SA4_A4_'l_i_without_1p_ev (n : Nat) (x : TupT slices_IndexFunc_SA4_A4_'l_i_without_1p_i.tys) : evF ⟨tab, [i_without_1'p_e n], n, [(6, ⟨[(0, (.data false (.sl (.arr 4 tI)))), (1, (.clo 79 (.tcons (.ptr 0 []) .tnil))), (7, (.data true tI)), (8, (.data true tI))], [.var 31 (.data true (.arr 4 tI))], 1⟩)]⟩ Tryz.f94 slices_IndexFunc_SA4_A4_'l_i_without_1p_i slices_IndexFunc_SA4_A4_'l_i_without_1p_o x = slices_IndexFunc_SA4_A4_'l_i_without_1p n x.1 x.2 := by kernel_rfl
noncomputable def slices_IndexFunc_SA4_A4_'l_i_without_1p_e (n : Nat) : Ent := ⟨94, slices_IndexFunc_SA4_A4_'l_i_without_1p_i, slices_IndexFunc_SA4_A4_'l_i_without_1p_o, fun x => slices_IndexFunc_SA4_A4_'l_i_without_1p n x.1 x.2⟩
theorem slices_IndexFunc_SA4_A4_'l_i_without_1p_ok (n : Nat) : EntOK Tryz.prog (slices_IndexFunc_SA4_A4_'l_i_without_1p_e n) ∧ Own Tryz.prog 94 := ent_ok tabOK0 (.cons (i_without_1'p_ok n) .nil) Tryz.func94 rfl (by kernel_rfl) (slices_IndexFunc_SA4_A4_'l_i_without_1p_ev n)
def slices_DeleteFunc_SA4_A4_'o_i_without_1p_i : CSh := ⟨[(.own 0), (.clo 79 (.tcons (.ptr 1 []) .tnil))], [.rows 31 true (.arr 4 tI), .var 31 (.data true (.arr 4 tI))]⟩
def slices_DeleteFunc_SA4_A4_'o_i_without_1p_o : RSh := ⟨(.own 2), [.gone, .var 31 (.data true (.arr 4 tI)), .rows 31 true (.arr 4 tI)]⟩
theorem slices_DeleteFunc_SA4_A4_'o_i_without_1p_ev (n : Nat) (x : TupT slices_DeleteFunc_SA4_A4_'o_i_without_1p_i.tys) : evF ⟨tab, [slices_IndexFunc_SA4_A4_'l_i_without_1p_e n, i_without_1'p_e n], n, [(16, ⟨[(0, (.own 0)), (1, (.clo 79 (.tcons (.ptr 1 []) .tnil))), (5, (.data true tI)), (6, (.data true tI))], [.rows 31 true (.arr 4 tI), .var 31 (.data true (.arr 4 tI))], 2⟩)]⟩ Tryz.f78 slices_DeleteFunc_SA4_A4_'o_i_without_1p_i slices_DeleteFunc_SA4_A4_'o_i_without_1p_o x = slices_DeleteFunc_SA4_A4_'o_i_without_1p n x.1 x.2 := by kernel_rfl
noncomputable def slices_DeleteFunc_SA4_A4_'o_i_without_1p_e (n : Nat) : Ent := ⟨78, slices_DeleteFunc_SA4_A4_'o_i_without_1p_i, slices_DeleteFunc_SA4_A4_'o_i_without_1p_o, fun x => slices_DeleteFunc_SA4_A4_'o_i_without_1p n x.1 x.2⟩
theorem slices_DeleteFunc_SA4_A4_'o_i_without_1p_ok (n : Nat) : EntOK Tryz.prog (slices_DeleteFunc_SA4_A4_'o_i_without_1p_e n) ∧ Own Tryz.prog 78 := ent_ok tabOK0 (.cons (slices_IndexFunc_SA4_A4_'l_i_without_1p_ok n) (.cons (i_without_1'p_ok n) .nil)) Tryz.func78 rfl (by kernel_rfl) (slices_DeleteFunc_SA4_A4_'o_i_without_1p_ev n)
def i_without_i : CSh := ⟨[(.data false (.sl (.arr 4 tI))), (.data true (.arr 4 tI))], []⟩
def i_without_o : RSh := ⟨(.own 0), [.rows 31 true (.arr 4 tI)]⟩
theorem i_without_ev (n : Nat) (x : TupT i_without_i.tys) : evF ⟨tab, [slices_Clone_SA4_A4__e n, slices_DeleteFunc_SA4_A4_'o_i_without_1p_e n], n, []⟩ Tryz.f50 i_without_i i_without_o x = i_without n x.1 x.2 := by kernel_rfl
noncomputable def i_without_e (n : Nat) : Ent := ⟨50, i_without_i, i_without_o, fun x => i_without n x.1 x.2⟩
theorem i_without_ok (n : Nat) : EntOK Tryz.prog (i_without_e n) ∧ Own Tryz.prog 50 := ent_ok tabOK0 (.cons (slices_Clone_SA4_A4__ok n) (.cons (slices_DeleteFunc_SA4_A4_'o_i_without_1p_ok n) .nil)) Tryz.func50 rfl (by kernel_rfl) (i_without_ev n)
def i_DropCard_i : CSh := ⟨[(.data false (.sl (.arr 4 tI))), (.data true (.arr 4 tI))], []⟩
def i_DropCard_o : RSh := ⟨(.tcons (.own 0) (.tcons (.data true .bool) .tnil)), [.rows 31 true (.arr 4 tI)]⟩
theorem i_DropCard_ev (n : Nat) (x : TupT i_DropCard_i.tys) : evF ⟨tab, [i_IsHand_e n, i_has_e n, i_without_e n], n, []⟩ Tryz.f18 i_DropCard_i i_DropCard_o x = i_DropCard n x.1 x.2 := by kernel_rfl
noncomputable def i_DropCard_e (n : Nat) : Ent := ⟨18, i_DropCard_i, i_DropCard_o, fun x => i_DropCard n x.1 x.2⟩
theorem i_DropCard_ok (n : Nat) : EntOK Tryz.prog (i_DropCard_e n) ∧ Own Tryz.prog 18 := ent_ok tabOK0 (.cons (i_IsHand_ok n) (.cons (i_has_ok n) (.cons (i_without_ok n) .nil))) Tryz.func18 rfl (by kernel_rfl) (i_DropCard_ev n)
def s_l2Drop_i : CSh := ⟨[(.data false (.sl (.arr 4 tI))), (.data true tI)], []⟩
def s_l2Drop_o : RSh := ⟨(.own 0), [.rows 31 true (.arr 4 tI)]⟩
theorem s_l2Drop_ev (n : Nat) (x : TupT s_l2Drop_i.tys) : evF ⟨tab, [s_l2Own_e n], n, []⟩ Tryz.f51 s_l2Drop_i s_l2Drop_o x = s_l2Drop n x.1 x.2 := by kernel_rfl
noncomputable def s_l2Drop_e (n : Nat) : Ent := ⟨51, s_l2Drop_i, s_l2Drop_o, fun x => s_l2Drop n x.1 x.2⟩
theorem s_l2Drop_ok (n : Nat) : EntOK Tryz.prog (s_l2Drop_e n) ∧ Own Tryz.prog 51 := ent_ok tabOK0 (.cons (s_l2Own_ok n) .nil) Tryz.func51 rfl (by kernel_rfl) (s_l2Drop_ev n)
def s_DropCard_i : CSh := ⟨[(.data false (.sl (.arr 4 tI))), (.data true (.arr 4 tI))], []⟩
def s_DropCard_o : RSh := ⟨(.tcons (.own 0) (.tcons (.data true .bool) .tnil)), [.rows 31 true (.arr 4 tI)]⟩
theorem s_DropCard_ev (n : Nat) (x : TupT s_DropCard_i.tys) : evF ⟨tab, [s_l2Hand_e n, s_l2Has_e n, s_l2Place_e n, s_l2Drop_e n], n, []⟩ Tryz.f19 s_DropCard_i s_DropCard_o x = s_DropCard n x.1 x.2 := by kernel_rfl
noncomputable def s_DropCard_e (n : Nat) : Ent := ⟨19, s_DropCard_i, s_DropCard_o, fun x => s_DropCard n x.1 x.2⟩
theorem s_DropCard_ok (n : Nat) : EntOK Tryz.prog (s_DropCard_e n) ∧ Own Tryz.prog 19 := ent_ok tabOK0 (.cons (s_l2Hand_ok n) (.cons (s_l2Has_ok n) (.cons (s_l2Place_ok n) (.cons (s_l2Drop_ok n) .nil)))) Tryz.func19 rfl (by kernel_rfl) (s_DropCard_ev n)
def s_DrawWithTrait_i : CSh := ⟨[(.data false (.sl (.int .u8)))], []⟩
def s_DrawWithTrait_o : RSh := ⟨(.tcons (.own 0) (.tcons (.data true tI) (.tcons (.data true tI) .tnil))), [.rows 31 true (.arr 4 tI)]⟩
theorem s_DrawWithTrait_ev (n : Nat) (x : TupT s_DrawWithTrait_i.tys) : evF ⟨tab, [s_Cur_pick'p_e n, s_Cur_hand'p_e n], n, []⟩ Tryz.f20 s_DrawWithTrait_i s_DrawWithTrait_o x = s_DrawWithTrait n x := by kernel_rfl
noncomputable def s_DrawWithTrait_e (n : Nat) : Ent := ⟨20, s_DrawWithTrait_i, s_DrawWithTrait_o, fun x => s_DrawWithTrait n x⟩
theorem s_DrawWithTrait_ok (n : Nat) : EntOK Tryz.prog (s_DrawWithTrait_e n) ∧ Own Tryz.prog 20 := ent_ok tabOK0 (.cons (s_Cur_pick'p_ok n) (.cons (s_Cur_hand'p_ok n) .nil)) Tryz.func20 rfl (by kernel_rfl) (s_DrawWithTrait_ev n)
def i_WithTrait_i : CSh := ⟨[(.data false (.sl (.arr 4 tI))), (.data true tI), (.data true tI)], []⟩
def i_WithTrait_o : RSh := ⟨(.tcons (.own 0) (.tcons (.data true .bool) .tnil)), [.rows 3 true tI]⟩
theorem i_WithTrait_ev (n : Nat) (x : TupT i_WithTrait_i.tys) : evF ⟨tab, [i_IsHand_e n, i_within_e n], n, [(16, ⟨[(1, (.data true tI)), (2, (.data true tI)), (8, (.own 0)), (25, (.data false (.sl (.arr 4 tI)))), (26, (.data true tI)), (27, (.data true tI))], [.rows 3 true tI], 0⟩)]⟩ Tryz.f21 i_WithTrait_i i_WithTrait_o x = i_WithTrait n x.1 x.2.1 x.2.2 := by kernel_rfl
noncomputable def i_WithTrait_e (n : Nat) : Ent := ⟨21, i_WithTrait_i, i_WithTrait_o, fun x => i_WithTrait n x.1 x.2.1 x.2.2⟩
theorem i_WithTrait_ok (n : Nat) : EntOK Tryz.prog (i_WithTrait_e n) ∧ Own Tryz.prog 21 := ent_ok tabOK0 (.cons (i_IsHand_ok n) (.cons (i_within_ok n) .nil)) Tryz.func21 rfl (by kernel_rfl) (i_WithTrait_ev n)
def s_WithTrait_i : CSh := ⟨[(.data false (.sl (.arr 4 tI))), (.data true tI), (.data true tI)], []⟩
def s_WithTrait_o : RSh := ⟨(.tcons (.own 0) (.tcons (.data true .bool) .tnil)), [.rows 3 true tI]⟩
theorem s_WithTrait_ev (n : Nat) (x : TupT s_WithTrait_i.tys) : evF ⟨tab, [s_l2Hand_e n, s_l1In_e n], n, [(16, ⟨[(0, (.data false (.sl (.arr 4 tI)))), (1, (.data true tI)), (2, (.data true tI)), (8, (.own 0)), (9, (.data true tI))], [.rows 3 true tI], 0⟩)]⟩ Tryz.f22 s_WithTrait_i s_WithTrait_o x = s_WithTrait n x.1 x.2.1 x.2.2 := by kernel_rfl
noncomputable def s_WithTrait_e (n : Nat) : Ent := ⟨22, s_WithTrait_i, s_WithTrait_o, fun x => s_WithTrait n x.1 x.2.1 x.2.2⟩
theorem s_WithTrait_ok (n : Nat) : EntOK Tryz.prog (s_WithTrait_e n) ∧ Own Tryz.prog 22 := ent_ok tabOK0 (.cons (s_l2Hand_ok n) (.cons (s_l1In_ok n) .nil)) Tryz.func22 rfl (by kernel_rfl) (s_WithTrait_ev n)
def v_rInts_i : CSh := ⟨[(.data false (.sl tI)), (.data false (.sl tI))], []⟩
def v_rInts_o : RSh := ⟨(.data true .bool), []⟩
theorem v_rInts_ev (n : Nat) (x : TupT v_rInts_i.tys) : evF ⟨tab, [], n, [(14, ⟨[(0, (.data false (.sl tI))), (1, (.data false (.sl tI))), (5, (.data true tI))], [], 0⟩)]⟩ Tryz.f23 v_rInts_i v_rInts_o x = v_rInts n x.1 x.2 := by kernel_rfl
noncomputable def v_rInts_e (n : Nat) : Ent := ⟨23, v_rInts_i, v_rInts_o, fun x => v_rInts n x.1 x.2⟩
theorem v_rInts_ok (n : Nat) : EntOK Tryz.prog (v_rInts_e n) ∧ Own Tryz.prog 23 := ent_ok tabOK0 .nil Tryz.func23 rfl (by kernel_rfl) (v_rInts_ev n)
def s_DrawSortCards_i : CSh := ⟨[(.data false (.sl (.int .u8)))], []⟩
def s_DrawSortCards_o : RSh := ⟨(.own 0), [.rows 31 true (.arr 4 tI)]⟩
theorem s_DrawSortCards_ev (n : Nat) (x : TupT s_DrawSortCards_i.tys) : evF ⟨tab, [s_Cur_among'pl_e n, s_Cur_pick'p_e n, s_l2At_e n, s_Cur_one'p_e n, s_Cur_card'p_e n], n, [(10, ⟨[(3, (.ptr 0 [])), (4, (.own 1)), (5, (.data true tI))], [.var 59 (.data false (.pair (.sl (.int .u8)) (.pair tI (.int .u64)))), .rows 31 true (.arr 4 tI)], 0⟩)]⟩ Tryz.f24 s_DrawSortCards_i s_DrawSortCards_o x = s_DrawSortCards n x := by kernel_rfl
noncomputable def s_DrawSortCards_e (n : Nat) : Ent := ⟨24, s_DrawSortCards_i, s_DrawSortCards_o, fun x => s_DrawSortCards n x⟩
theorem s_DrawSortCards_ok (n : Nat) : EntOK Tryz.prog (s_DrawSortCards_e n) ∧ Own Tryz.prog 24 := ent_ok tabOK0 (.cons (s_Cur_among'pl_ok n) (.cons (s_Cur_pick'p_ok n) (.cons (s_l2At_ok n) (.cons (s_Cur_one'p_ok n) (.cons (s_Cur_card'p_ok n) .nil))))) Tryz.func24 rfl (by kernel_rfl) (s_DrawSortCards_ev n)
def i_areCards_1_i : CSh := ⟨[(.data true (.arr 4 tI))], []⟩
def i_areCards_1_o : RSh := ⟨(.data true .bool), []⟩
theorem i_areCards_1_ev (n : Nat) (x : TupT i_areCards_1_i.tys) : evF ⟨tab, [i_IsCard_e n], n, []⟩ Tryz.f82 i_areCards_1_i i_areCards_1_o x = i_areCards_1 n x := by kernel_rfl
noncomputable def i_areCards_1_e (n : Nat) : Ent := ⟨82, i_areCards_1_i, i_areCards_1_o, fun x => i_areCards_1 n x⟩
theorem i_areCards_1_ok (n : Nat) : EntOK Tryz.prog (i_areCards_1_e n) ∧ Own Tryz.prog 82 := ent_ok tabOK0 (.cons (i_IsCard_ok n) .nil) Tryz.func82 rfl (by kernel_rfl) (i_areCards_1_ev n)
def slices_IndexFunc_SA4_A4_'l_i_areCards_1_i : CSh := ⟨[(.data false (.sl (.arr 4 tI))), (.clo 82 .tnil)], []⟩
def slices_IndexFunc_SA4_A4_'l_i_areCards_1_o : RSh := ⟨(.data true tI), []⟩
theorem slices_IndexFunc_SA4_A4_'l_i_areCards_1_ev (n : Nat) (x : TupT slices_IndexFunc_SA4_A4_'l_i_areCards_1_i.tys) : evF ⟨tab, [i_areCards_1_e n], n, [(6, ⟨[(0, (.data false (.sl (.arr 4 tI)))), (1, (.clo 82 .tnil)), (7, (.data true tI)), (8, (.data true tI))], [], 0⟩)]⟩ Tryz.f94 slices_IndexFunc_SA4_A4_'l_i_areCards_1_i slices_IndexFunc_SA4_A4_'l_i_areCards_1_o x = slices_IndexFunc_SA4_A4_'l_i_areCards_1 n x := by kernel_rfl
noncomputable def slices_IndexFunc_SA4_A4_'l_i_areCards_1_e (n : Nat) : Ent := ⟨94, slices_IndexFunc_SA4_A4_'l_i_areCards_1_i, slices_IndexFunc_SA4_A4_'l_i_areCards_1_o, fun x => slices_IndexFunc_SA4_A4_'l_i_areCards_1 n x⟩
theorem slices_IndexFunc_SA4_A4_'l_i_areCards_1_ok (n : Nat) : EntOK Tryz.prog (slices_IndexFunc_SA4_A4_'l_i_areCards_1_e n) ∧ Own Tryz.prog 94 := ent_ok tabOK0 (.cons (i_areCards_1_ok n) .nil) Tryz.func94 rfl (by kernel_rfl) (slices_IndexFunc_SA4_A4_'l_i_areCards_1_ev n)
def slices_ContainsFunc_SA4_A4_'l_i_areCards_1_i : CSh := ⟨[(.data false (.sl (.arr 4 tI))), (.clo 82 .tnil)], []⟩
def slices_ContainsFunc_SA4_A4_'l_i_areCards_1_o : RSh := ⟨(.data true .bool), []⟩
theorem slices_ContainsFunc_SA4_A4_'l_i_areCards_1_ev (n : Nat) (x : TupT slices_ContainsFunc_SA4_A4_'l_i_areCards_1_i.tys) : evF ⟨tab, [slices_IndexFunc_SA4_A4_'l_i_areCards_1_e n], n, []⟩ Tryz.f81 slices_ContainsFunc_SA4_A4_'l_i_areCards_1_i slices_ContainsFunc_SA4_A4_'l_i_areCards_1_o x = slices_ContainsFunc_SA4_A4_'l_i_areCards_1 n x := by kernel_rfl
noncomputable def slices_ContainsFunc_SA4_A4_'l_i_areCards_1_e (n : Nat) : Ent := ⟨81, slices_ContainsFunc_SA4_A4_'l_i_areCards_1_i, slices_ContainsFunc_SA4_A4_'l_i_areCards_1_o, fun x => slices_ContainsFunc_SA4_A4_'l_i_areCards_1 n x⟩
theorem slices_ContainsFunc_SA4_A4_'l_i_areCards_1_ok (n : Nat) : EntOK Tryz.prog (slices_ContainsFunc_SA4_A4_'l_i_areCards_1_e n) ∧ Own Tryz.prog 81 := ent_ok tabOK0 (.cons (slices_IndexFunc_SA4_A4_'l_i_areCards_1_ok n) .nil) Tryz.func81 rfl (by kernel_rfl) (slices_ContainsFunc_SA4_A4_'l_i_areCards_1_ev n)
def i_areCards_i : CSh := ⟨[(.data false (.sl (.arr 4 tI)))], []⟩
def i_areCards_o : RSh := ⟨(.data true .bool), []⟩
theorem i_areCards_ev (n : Nat) (x : TupT i_areCards_i.tys) : evF ⟨tab, [slices_ContainsFunc_SA4_A4_'l_i_areCards_1_e n], n, []⟩ Tryz.f60 i_areCards_i i_areCards_o x = i_areCards n x := by kernel_rfl
noncomputable def i_areCards_e (n : Nat) : Ent := ⟨60, i_areCards_i, i_areCards_o, fun x => i_areCards n x⟩
theorem i_areCards_ok (n : Nat) : EntOK Tryz.prog (i_areCards_e n) ∧ Own Tryz.prog 60 := ent_ok tabOK0 (.cons (slices_ContainsFunc_SA4_A4_'l_i_areCards_1_ok n) .nil) Tryz.func60 rfl (by kernel_rfl) (i_areCards_ev n)
def i_SortCards_i : CSh := ⟨[(.data false (.sl (.arr 4 tI)))], []⟩
def i_SortCards_o : RSh := ⟨(.tcons (.own 0) (.tcons (.data true .bool) .tnil)), [.rows 31 true (.arr 4 tI)]⟩
theorem i_SortCards_ev (n : Nat) (x : TupT i_SortCards_i.tys) : evF ⟨tab, [i_areCards_e n, i_sorted_e n], n, []⟩ Tryz.f25 i_SortCards_i i_SortCards_o x = i_SortCards n x := by kernel_rfl
noncomputable def i_SortCards_e (n : Nat) : Ent := ⟨25, i_SortCards_i, i_SortCards_o, fun x => i_SortCards n x⟩
theorem i_SortCards_ok (n : Nat) : EntOK Tryz.prog (i_SortCards_e n) ∧ Own Tryz.prog 25 := ent_ok tabOK0 (.cons (i_areCards_ok n) (.cons (i_sorted_ok n) .nil)) Tryz.func25 rfl (by kernel_rfl) (i_SortCards_ev n)
def s_l2Sorted_i : CSh := ⟨[(.data false (.sl (.arr 4 tI)))], []⟩
def s_l2Sorted_o : RSh := ⟨(.own 0), [.rows 31 true (.arr 4 tI)]⟩
theorem s_l2Sorted_ev (n : Nat) (x : TupT s_l2Sorted_i.tys) : evF ⟨tab, [s_l2Put_e n], n, [(8, ⟨[(0, (.data false (.sl (.arr 4 tI)))), (3, (.own 0)), (4, (.data true tI))], [.rows 31 true (.arr 4 tI)], 0⟩)]⟩ Tryz.f61 s_l2Sorted_i s_l2Sorted_o x = s_l2Sorted n x := by kernel_rfl
noncomputable def s_l2Sorted_e (n : Nat) : Ent := ⟨61, s_l2Sorted_i, s_l2Sorted_o, fun x => s_l2Sorted n x⟩
theorem s_l2Sorted_ok (n : Nat) : EntOK Tryz.prog (s_l2Sorted_e n) ∧ Own Tryz.prog 61 := ent_ok tabOK0 (.cons (s_l2Put_ok n) .nil) Tryz.func61 rfl (by kernel_rfl) (s_l2Sorted_ev n)
def s_SortCards_i : CSh := ⟨[(.data false (.sl (.arr 4 tI)))], []⟩
def s_SortCards_o : RSh := ⟨(.tcons (.own 0) (.tcons (.data true .bool) .tnil)), [.rows 31 true (.arr 4 tI)]⟩
theorem s_SortCards_ev (n : Nat) (x : TupT s_SortCards_i.tys) : evF ⟨tab, [s_l2Card_e n, s_l2Sorted_e n], n, [(6, ⟨[(0, (.data false (.sl (.arr 4 tI)))), (4, (.data true tI))], [], 0⟩)]⟩ Tryz.f26 s_SortCards_i s_SortCards_o x = s_SortCards n x := by kernel_rfl
noncomputable def s_SortCards_e (n : Nat) : Ent := ⟨26, s_SortCards_i, s_SortCards_o, fun x => s_SortCards n x⟩
theorem s_SortCards_ok (n : Nat) : EntOK Tryz.prog (s_SortCards_e n) ∧ Own Tryz.prog 26 := ent_ok tabOK0 (.cons (s_l2Card_ok n) (.cons (s_l2Sorted_ok n) .nil)) Tryz.func26 rfl (by kernel_rfl) (s_SortCards_ev n)
def i_cardText_i : CSh := ⟨[(.data true (.arr 4 tI))], []⟩
def i_cardText_o : RSh := ⟨(.data true .str), []⟩
theorem i_cardText_ev (n : Nat) (x : TupT i_cardText_i.tys) : evF ⟨tab, [], n, [(8, ⟨[(3, (.own 0)), (7, (.data true (.arr 4 tI))), (8, (.data true tI))], [.rows 5 true (.int .u8)], 0⟩)]⟩ Tryz.f83 i_cardText_i i_cardText_o x = i_cardText n x := by kernel_rfl
noncomputable def i_cardText_e (n : Nat) : Ent := ⟨83, i_cardText_i, i_cardText_o, fun x => i_cardText n x⟩
theorem i_cardText_ok (n : Nat) : EntOK Tryz.prog (i_cardText_e n) ∧ Own Tryz.prog 83 := ent_ok tabOK0 .nil Tryz.func83 rfl (by kernel_rfl) (i_cardText_ev n)
noncomputable def strings_Join_e (n : Nat) : Ent := ⟨84, ⟨[(.data true (.sl .str)), (.data true .str)], []⟩, ⟨(.data true .str), []⟩, fun x => strings_Join n x.1 x.2⟩
theorem strings_Join_ok (n : Nat) : EntOK Tryz.prog (strings_Join_e n) ∧ Own Tryz.prog 84 := ent_join Tryz.func84 rfl (by kernel_rfl) (fun a c sep w => Any.strings_Join_none Tryz.laysJoin Tryz.extraJoin a c sep w) (fun bk o c xs sep w h1 h2 h3 h4 h5 => Any.strings_Join Tryz.laysJoin Tryz.extraJoin bk o c xs sep w h1 h2 h3 h4 h5) _ fun _ => rfl
def i_cardsText_i : CSh := ⟨[(.data false (.sl (.arr 4 tI)))], []⟩
def i_cardsText_o : RSh := ⟨(.data true .str), []⟩
theorem i_cardsText_ev (n : Nat) (x : TupT i_cardsText_i.tys) : evF ⟨tab, [i_cardText_e n, strings_Join_e n], n, [(8, ⟨[(3, (.own 0)), (7, (.data false (.sl (.arr 4 tI)))), (8, (.data true tI)), (9, (.data true tI))], [.rows 9 true .str], 0⟩)]⟩ Tryz.f62 i_cardsText_i i_cardsText_o x = i_cardsText n x := by kernel_rfl
noncomputable def i_cardsText_e (n : Nat) : Ent := ⟨62, i_cardsText_i, i_cardsText_o, fun x => i_cardsText n x⟩
theorem i_cardsText_ok (n : Nat) : EntOK Tryz.prog (i_cardsText_e n) ∧ Own Tryz.prog 62 := ent_ok tabOK0 (.cons (i_cardText_ok n) (.cons (strings_Join_ok n) .nil)) Tryz.func62 rfl (by kernel_rfl) (i_cardsText_ev n)
def i_HandText_i : CSh := ⟨[(.data false (.sl (.arr 4 tI)))], []⟩
def i_HandText_o : RSh := ⟨(.tcons (.data true .str) (.tcons (.data true .bool) .tnil)), []⟩
theorem i_HandText_ev (n : Nat) (x : TupT i_HandText_i.tys) : evF ⟨tab, [i_IsHand_e n, i_cardsText_e n], n, []⟩ Tryz.f27 i_HandText_i i_HandText_o x = i_HandText n x := by kernel_rfl
noncomputable def i_HandText_e (n : Nat) : Ent := ⟨27, i_HandText_i, i_HandText_o, fun x => i_HandText n x⟩
theorem i_HandText_ok (n : Nat) : EntOK Tryz.prog (i_HandText_e n) ∧ Own Tryz.prog 27 := ent_ok tabOK0 (.cons (i_IsHand_ok n) (.cons (i_cardsText_ok n) .nil)) Tryz.func27 rfl (by kernel_rfl) (i_HandText_ev n)
def s_l1Num_i : CSh := ⟨[(.data true tI)], []⟩
def s_l1Num_o : RSh := ⟨(.data true .str), []⟩
theorem s_l1Num_ev (n : Nat) (go : TupT s_l1Num_i.tys → Option (TupT s_l1Num_o.tys)) (x : TupT s_l1Num_i.tys) : evF ⟨tab, [⟨98, s_l1Num_i, s_l1Num_o, go⟩], n, []⟩ Tryz.f98 s_l1Num_i s_l1Num_o x = s_l1Num_R n go x := by kernel_rfl
noncomputable def s_l1Num_e (n : Nat) : Ent := ⟨98, s_l1Num_i, s_l1Num_o, fun x => s_l1Num n x⟩
theorem s_l1Num_ok (n : Nat) : EntOK Tryz.prog (s_l1Num_e n) ∧ Own Tryz.prog 98 := ent_rec tabOK0 .nil Tryz.func98 rfl (by kernel_rfl) (s_l1Num_ev n) n
def s_l2Text_i : CSh := ⟨[(.data true (.arr 4 tI))], []⟩
def s_l2Text_o : RSh := ⟨(.data true .str), []⟩
theorem s_l2Text_ev (n : Nat) (x : TupT s_l2Text_i.tys) : evF ⟨tab, [s_l1Num_e n], n, [(8, ⟨[(1, (.ptr 0 [])), (3, (.data true .str)), (4, (.data true tI))], [.var 31 (.data true (.arr 4 tI))], 0⟩)]⟩ Tryz.f85 s_l2Text_i s_l2Text_o x = s_l2Text n x := by kernel_rfl
noncomputable def s_l2Text_e (n : Nat) : Ent := ⟨85, s_l2Text_i, s_l2Text_o, fun x => s_l2Text n x⟩
theorem s_l2Text_ok (n : Nat) : EntOK Tryz.prog (s_l2Text_e n) ∧ Own Tryz.prog 85 := ent_ok tabOK0 (.cons (s_l1Num_ok n) .nil) Tryz.func85 rfl (by kernel_rfl) (s_l2Text_ev n)
def s_l2Write_i : CSh := ⟨[(.data false (.sl (.arr 4 tI)))], []⟩
def s_l2Write_o : RSh := ⟨(.data true .str), []⟩
theorem s_l2Write_ev (n : Nat) (x : TupT s_l2Write_i.tys) : evF ⟨tab, [s_l2Text_e n], n, [(8, ⟨[(0, (.data false (.sl (.arr 4 tI)))), (3, (.data true .str)), (4, (.data true tI))], [], 0⟩), (17, ⟨[(0, (.data false (.sl (.arr 4 tI)))), (3, (.data true .str)), (4, (.data true tI))], [], 0⟩)]⟩ Tryz.f63 s_l2Write_i s_l2Write_o x = s_l2Write n x := by kernel_rfl
noncomputable def s_l2Write_e (n : Nat) : Ent := ⟨63, s_l2Write_i, s_l2Write_o, fun x => s_l2Write n x⟩
theorem s_l2Write_ok (n : Nat) : EntOK Tryz.prog (s_l2Write_e n) ∧ Own Tryz.prog 63 := ent_ok tabOK0 (.cons (s_l2Text_ok n) .nil) Tryz.func63 rfl (by kernel_rfl) (s_l2Write_ev n)
def s_HandText_i : CSh := ⟨[(.data false (.sl (.arr 4 tI)))], []⟩
def s_HandText_o : RSh := ⟨(.tcons (.data true .str) (.tcons (.data true .bool) .tnil)), []⟩
theorem s_HandText_ev (n : Nat) (x : TupT s_HandText_i.tys) : evF ⟨tab, [s_l2Hand_e n, s_l2Write_e n], n, []⟩ Tryz.f28 s_HandText_i s_HandText_o x = s_HandText n x := by kernel_rfl
noncomputable def s_HandText_e (n : Nat) : Ent := ⟨28, s_HandText_i, s_HandText_o, fun x => s_HandText n x⟩
theorem s_HandText_ok (n : Nat) : EntOK Tryz.prog (s_HandText_e n) ∧ Own Tryz.prog 28 := ent_ok tabOK0 (.cons (s_l2Hand_ok n) (.cons (s_l2Write_ok n) .nil)) Tryz.func28 rfl (by kernel_rfl) (s_HandText_ev n)
def s_Cur_spoilt'p_i : CSh := ⟨[(.ptr 0 []), (.data true .str), (.data true .str)], [.var 59 (.data true (.pair (.sl (.int .u8)) (.pair tI (.int .u64))))]⟩
def s_Cur_spoilt'p_o : RSh := ⟨(.data true .str), [.var 59 (.data true (.pair (.sl (.int .u8)) (.pair tI (.int .u64))))]⟩
theorem s_Cur_spoilt'p_ev (n : Nat) (x : TupT s_Cur_spoilt'p_i.tys) : evF ⟨tab, [s_Cur_pick'p_e n], n, []⟩ Tryz.f64 s_Cur_spoilt'p_i s_Cur_spoilt'p_o x = s_Cur_spoilt'p n x.1 x.2.1 x.2.2 := by kernel_rfl
noncomputable def s_Cur_spoilt'p_e (n : Nat) : Ent := ⟨64, s_Cur_spoilt'p_i, s_Cur_spoilt'p_o, fun x => s_Cur_spoilt'p n x.1 x.2.1 x.2.2⟩
theorem s_Cur_spoilt'p_ok (n : Nat) : EntOK Tryz.prog (s_Cur_spoilt'p_e n) ∧ Own Tryz.prog 64 := ent_ok tabOK0 (.cons (s_Cur_pick'p_ok n) .nil) Tryz.func64 rfl (by kernel_rfl) (s_Cur_spoilt'p_ev n)
def s_DrawParseHand_i : CSh := ⟨[(.data false (.sl (.int .u8)))], []⟩
def s_DrawParseHand_o : RSh := ⟨(.data true .str), []⟩
theorem s_DrawParseHand_ev (n : Nat) (x : TupT s_DrawParseHand_i.tys) : evF ⟨tab, [s_Cur_one'p_e n, s_Cur_spoilt'p_e n, s_Cur_hand'p_e n, s_l2Hand_e n, s_l2Write_e n], n, [(6, ⟨[(3, (.ptr 0 [])), (4, (.data true .str))], [.var 59 (.data false (.pair (.sl (.int .u8)) (.pair tI (.int .u64))))], 0⟩)]⟩ Tryz.f29 s_DrawParseHand_i s_DrawParseHand_o x = s_DrawParseHand n x := by kernel_rfl
noncomputable def s_DrawParseHand_e (n : Nat) : Ent := ⟨29, s_DrawParseHand_i, s_DrawParseHand_o, fun x => s_DrawParseHand n x⟩
theorem s_DrawParseHand_ok (n : Nat) : EntOK Tryz.prog (s_DrawParseHand_e n) ∧ Own Tryz.prog 29 := ent_ok tabOK0 (.cons (s_Cur_one'p_ok n) (.cons (s_Cur_spoilt'p_ok n) (.cons (s_Cur_hand'p_ok n) (.cons (s_l2Hand_ok n) (.cons (s_l2Write_ok n) .nil))))) Tryz.func29 rfl (by kernel_rfl) (s_DrawParseHand_ev n)
def unicode_utf8_RuneCountInString_s_i : CSh := ⟨[(.data true .str)], []⟩
def unicode_utf8_RuneCountInString_s_o : RSh := ⟨.nil, []⟩
theorem unicode_utf8_RuneCountInString_s_ev (n : Nat) (x : TupT unicode_utf8_RuneCountInString_s_i.tys) : evF ⟨tab, [], n, []⟩ Tryz.f123 unicode_utf8_RuneCountInString_s_i unicode_utf8_RuneCountInString_s_o x = unicode_utf8_RuneCountInString_s n x := by kernel_rfl
noncomputable def unicode_utf8_RuneCountInString_s_e (n : Nat) : Ent := ⟨123, unicode_utf8_RuneCountInString_s_i, unicode_utf8_RuneCountInString_s_o, fun x => unicode_utf8_RuneCountInString_s n x⟩
theorem unicode_utf8_RuneCountInString_s_ok (n : Nat) : EntOK Tryz.prog (unicode_utf8_RuneCountInString_s_e n) ∧ Own Tryz.prog 123 := ent_ok tabOK0 .nil Tryz.func123 rfl (by kernel_rfl) (unicode_utf8_RuneCountInString_s_ev n)
def strings_explode_s_i : CSh := ⟨[(.data true .str), (.data true tI)], []⟩
def strings_explode_s_o : RSh := ⟨.nil, []⟩
theorem strings_explode_s_ev (n : Nat) (x : TupT strings_explode_s_i.tys) : evF ⟨tab, [unicode_utf8_RuneCountInString_s_e n], n, []⟩ Tryz.f113 strings_explode_s_i strings_explode_s_o x = strings_explode_s n x.1 x.2 := by kernel_rfl
noncomputable def strings_explode_s_e (n : Nat) : Ent := ⟨113, strings_explode_s_i, strings_explode_s_o, fun x => strings_explode_s n x.1 x.2⟩
theorem strings_explode_s_ok (n : Nat) : EntOK Tryz.prog (strings_explode_s_e n) ∧ Own Tryz.prog 113 := ent_ok tabOK0 (.cons (unicode_utf8_RuneCountInString_s_ok n) .nil) Tryz.func113 rfl (by kernel_rfl) (strings_explode_s_ev n)
noncomputable def x_IndexByteString_e (n : Nat) : Ent := ⟨133, ⟨[(.data true .str), (.data true (.int .u8))], []⟩, ⟨(.data true tI), []⟩, fun x => x_IndexByteString n x.1 x.2⟩
theorem x_IndexByteString_ok (n : Nat) : ExtOK Tryz.prog (x_IndexByteString_e n) := ext_indexByte Tryz.func133 rfl rfl rfl rfl _ fun _ => rfl
def internal_stringslite_IndexByte_i : CSh := ⟨[(.data true .str), (.data true (.int .u8))], []⟩
def internal_stringslite_IndexByte_o : RSh := ⟨(.data true tI), []⟩
theorem internal_stringslite_IndexByte_ev (n : Nat) (x : TupT internal_stringslite_IndexByte_i.tys) : evF ⟨tab, [x_IndexByteString_e n], n, []⟩ Tryz.f129 internal_stringslite_IndexByte_i internal_stringslite_IndexByte_o x = internal_stringslite_IndexByte n x.1 x.2 := by kernel_rfl
noncomputable def internal_stringslite_IndexByte_e (n : Nat) : Ent := ⟨129, internal_stringslite_IndexByte_i, internal_stringslite_IndexByte_o, fun x => internal_stringslite_IndexByte n x.1 x.2⟩
theorem internal_stringslite_IndexByte_ok (n : Nat) : EntOK Tryz.prog (internal_stringslite_IndexByte_e n) ∧ Own Tryz.prog 129 := ent_ok tabOK0 (.consX (x_IndexByteString_ok n) .nil) Tryz.func129 rfl (by kernel_rfl) (internal_stringslite_IndexByte_ev n)
def internal_stringslite_Index_s_i : CSh := ⟨[(.data true .str), (.data true .str)], []⟩
def internal_stringslite_Index_s_o : RSh := ⟨(.data true tI), []⟩
theorem internal_stringslite_Index_s_ev (n : Nat) (x : TupT internal_stringslite_Index_s_i.tys) : evF ⟨tab, [internal_stringslite_IndexByte_e n], n, []⟩ Tryz.f126 internal_stringslite_Index_s_i internal_stringslite_Index_s_o x = internal_stringslite_Index_s n x.1 x.2 := by kernel_rfl
noncomputable def internal_stringslite_Index_s_e (n : Nat) : Ent := ⟨126, internal_stringslite_Index_s_i, internal_stringslite_Index_s_o, fun x => internal_stringslite_Index_s n x.1 x.2⟩
theorem internal_stringslite_Index_s_ok (n : Nat) : EntOK Tryz.prog (internal_stringslite_Index_s_e n) ∧ Own Tryz.prog 126 := ent_ok tabOK0 (.cons (internal_stringslite_IndexByte_ok n) .nil) Tryz.func126 rfl (by kernel_rfl) (internal_stringslite_Index_s_ev n)
def strings_Index_i : CSh := ⟨[(.data true .str), (.data true .str)], []⟩
def strings_Index_o : RSh := ⟨(.data true tI), []⟩
theorem strings_Index_ev (n : Nat) (x : TupT strings_Index_i.tys) : evF ⟨tab, [internal_stringslite_Index_s_e n], n, []⟩ Tryz.f115 strings_Index_i strings_Index_o x = strings_Index n x.1 x.2 := by kernel_rfl
noncomputable def strings_Index_e (n : Nat) : Ent := ⟨115, strings_Index_i, strings_Index_o, fun x => strings_Index n x.1 x.2⟩
theorem strings_Index_ok (n : Nat) : EntOK Tryz.prog (strings_Index_e n) ∧ Own Tryz.prog 115 := ent_ok tabOK0 (.cons (internal_stringslite_Index_s_ok n) .nil) Tryz.func115 rfl (by kernel_rfl) (strings_Index_ev n)
noncomputable def x_CountString_e (n : Nat) : Ent := ⟨125, ⟨[(.data true .str), (.data true (.int .u8))], []⟩, ⟨(.data true tI), []⟩, fun x => x_CountString n x.1 x.2⟩
theorem x_CountString_ok (n : Nat) : ExtOK Tryz.prog (x_CountString_e n) := ext_countString Tryz.func125 rfl rfl rfl rfl _ fun _ => rfl
def strings_Count_s_i : CSh := ⟨[(.data true .str), (.data true .str)], []⟩
def strings_Count_s_o : RSh := ⟨(.data true tI), []⟩
theorem strings_Count_s_ev (n : Nat) (x : TupT strings_Count_s_i.tys) : evF ⟨tab, [unicode_utf8_RuneCountInString_s_e n, x_CountString_e n, strings_Index_e n], n, [(21, ⟨[(0, (.data true .str)), (1, (.data true .str)), (5, (.data true tI))], [], 0⟩)]⟩ Tryz.f114 strings_Count_s_i strings_Count_s_o x = strings_Count_s n x.1 x.2 := by kernel_rfl
noncomputable def strings_Count_s_e (n : Nat) : Ent := ⟨114, strings_Count_s_i, strings_Count_s_o, fun x => strings_Count_s n x.1 x.2⟩
theorem strings_Count_s_ok (n : Nat) : EntOK Tryz.prog (strings_Count_s_e n) ∧ Own Tryz.prog 114 := ent_ok tabOK0 (.cons (unicode_utf8_RuneCountInString_s_ok n) (.consX (x_CountString_ok n) (.cons (strings_Index_ok n) .nil))) Tryz.func114 rfl (by kernel_rfl) (strings_Count_s_ev n)
def strings_genSplit_i : CSh := ⟨[(.data true .str), (.data true .str), (.data true tI), (.data true tI)], []⟩
def strings_genSplit_o : RSh := ⟨(.own 0), [.rows 9 true .str]⟩
theorem strings_genSplit_ev (n : Nat) (x : TupT strings_genSplit_i.tys) : evF ⟨tab, [strings_explode_s_e n, strings_Index_e n, strings_Count_s_e n], n, [(18, ⟨[(0, (.data true .str)), (1, (.data true .str)), (2, (.data true tI)), (3, (.data true tI))], [], 0⟩), (32, ⟨[(0, (.data true .str)), (9, (.own 0)), (10, (.data true tI))], [.rows 9 true .str], 0⟩), (34, ⟨[(0, (.data true .str)), (1, (.data true .str)), (2, (.data true tI)), (3, (.data true tI)), (9, (.own 0)), (10, (.data true tI))], [.rows 9 true .str], 0⟩)]⟩ Tryz.f99 strings_genSplit_i strings_genSplit_o x = strings_genSplit n x.1 x.2.1 x.2.2.1 x.2.2.2 := by kernel_rfl
noncomputable def strings_genSplit_e (n : Nat) : Ent := ⟨99, strings_genSplit_i, strings_genSplit_o, fun x => strings_genSplit n x.1 x.2.1 x.2.2.1 x.2.2.2⟩
theorem strings_genSplit_ok (n : Nat) : EntOK Tryz.prog (strings_genSplit_e n) ∧ Own Tryz.prog 99 := ent_ok tabOK0 (.cons (strings_explode_s_ok n) (.cons (strings_Index_ok n) (.cons (strings_Count_s_ok n) .nil))) Tryz.func99 rfl (by kernel_rfl) (strings_genSplit_ev n)
def strings_Split_i : CSh := ⟨[(.data true .str), (.data true .str)], []⟩
def strings_Split_o : RSh := ⟨(.own 0), [.rows 9 true .str]⟩
theorem strings_Split_ev (n : Nat) (x : TupT strings_Split_i.tys) : evF ⟨tab, [strings_genSplit_e n], n, []⟩ Tryz.f86 strings_Split_i strings_Split_o x = strings_Split n x.1 x.2 := by kernel_rfl
noncomputable def strings_Split_e (n : Nat) : Ent := ⟨86, strings_Split_i, strings_Split_o, fun x => strings_Split n x.1 x.2⟩
theorem strings_Split_ok (n : Nat) : EntOK Tryz.prog (strings_Split_e n) ∧ Own Tryz.prog 86 := ent_ok tabOK0 (.cons (strings_genSplit_ok n) .nil) Tryz.func86 rfl (by kernel_rfl) (strings_Split_ev n)
def i_readCard_i : CSh := ⟨[(.data true .str)], []⟩
def i_readCard_o : RSh := ⟨(.tcons (.data true (.arr 4 tI)) (.tcons (.data true .bool) .tnil)), []⟩
theorem i_readCard_ev (n : Nat) (x : TupT i_readCard_i.tys) : evF ⟨tab, [i_IsCard_e n], n, [(16, ⟨[(0, (.data true .str)), (2, (.ptr 0 [])), (4, (.ptr 1 [])), (11, (.data true tI))], [.var 31 (.data true (.arr 4 tI)), .var 31 (.data true (.arr 4 tI))], 0⟩)]⟩ Tryz.f87 i_readCard_i i_readCard_o x = i_readCard n x := by kernel_rfl
noncomputable def i_readCard_e (n : Nat) : Ent := ⟨87, i_readCard_i, i_readCard_o, fun x => i_readCard n x⟩
theorem i_readCard_ok (n : Nat) : EntOK Tryz.prog (i_readCard_e n) ∧ Own Tryz.prog 87 := ent_ok tabOK0 (.cons (i_IsCard_ok n) .nil) Tryz.func87 rfl (by kernel_rfl) (i_readCard_ev n)
def i_readCards_i : CSh := ⟨[(.data true .str)], []⟩
def i_readCards_o : RSh := ⟨(.tcons (.own 0) (.tcons (.data true .bool) .tnil)), [.rows 31 true (.arr 4 tI)]⟩
theorem i_readCards_ev (n : Nat) (x : TupT i_readCards_i.tys) : evF ⟨tab, [strings_Split_e n, i_readCard_e n], n, [(16, ⟨[(4, (.own 0)), (14, (.own 1)), (15, (.data true tI)), (16, (.data true tI))], [.rows 31 true (.arr 4 tI), .rows 9 true .str], 0⟩)]⟩ Tryz.f65 i_readCards_i i_readCards_o x = i_readCards n x := by kernel_rfl
noncomputable def i_readCards_e (n : Nat) : Ent := ⟨65, i_readCards_i, i_readCards_o, fun x => i_readCards n x⟩
theorem i_readCards_ok (n : Nat) : EntOK Tryz.prog (i_readCards_e n) ∧ Own Tryz.prog 65 := ent_ok tabOK0 (.cons (strings_Split_ok n) (.cons (i_readCard_ok n) .nil)) Tryz.func65 rfl (by kernel_rfl) (i_readCards_ev n)
def i_ParseHand_i : CSh := ⟨[(.data true .str)], []⟩
def i_ParseHand_o : RSh := ⟨(.tcons (.own 0) (.tcons (.data true .bool) .tnil)), [.rows 31 true (.arr 4 tI)]⟩
theorem i_ParseHand_ev (n : Nat) (x : TupT i_ParseHand_i.tys) : evF ⟨tab, [i_readCards_e n, i_IsHand_e n], n, []⟩ Tryz.f30 i_ParseHand_i i_ParseHand_o x = i_ParseHand n x := by kernel_rfl
noncomputable def i_ParseHand_e (n : Nat) : Ent := ⟨30, i_ParseHand_i, i_ParseHand_o, fun x => i_ParseHand n x⟩
theorem i_ParseHand_ok (n : Nat) : EntOK Tryz.prog (i_ParseHand_e n) ∧ Own Tryz.prog 30 := ent_ok tabOK0 (.cons (i_readCards_ok n) (.cons (i_IsHand_ok n) .nil)) Tryz.func30 rfl (by kernel_rfl) (i_ParseHand_ev n)
def s_l1Split_i : CSh := ⟨[(.data true .str), (.data true (.int .u8))], []⟩
def s_l1Split_o : RSh := ⟨(.own 0), [.rows 9 true .str]⟩
theorem s_l1Split_ev (n : Nat) (x : TupT s_l1Split_i.tys) : evF ⟨tab, [], n, [(10, ⟨[(0, (.data true .str)), (1, (.data true (.int .u8))), (5, (.own 0)), (6, (.data true tI)), (7, (.data true tI))], [.rows 9 true .str], 0⟩)]⟩ Tryz.f66 s_l1Split_i s_l1Split_o x = s_l1Split n x.1 x.2 := by kernel_rfl
noncomputable def s_l1Split_e (n : Nat) : Ent := ⟨66, s_l1Split_i, s_l1Split_o, fun x => s_l1Split n x.1 x.2⟩
theorem s_l1Split_ok (n : Nat) : EntOK Tryz.prog (s_l1Split_e n) ∧ Own Tryz.prog 66 := ent_ok tabOK0 .nil Tryz.func66 rfl (by kernel_rfl) (s_l1Split_ev n)
def s_l2Read_i : CSh := ⟨[(.data true .str)], []⟩
def s_l2Read_o : RSh := ⟨(.tcons (.data true (.arr 4 tI)) (.tcons (.data true .bool) .tnil)), []⟩
theorem s_l2Read_ev (n : Nat) (x : TupT s_l2Read_i.tys) : evF ⟨tab, [], n, [(16, ⟨[(0, (.data true .str)), (2, (.ptr 0 [])), (4, (.ptr 1 [])), (5, (.data true tI))], [.var 31 (.data true (.arr 4 tI)), .var 31 (.data true (.arr 4 tI))], 0⟩)]⟩ Tryz.f67 s_l2Read_i s_l2Read_o x = s_l2Read n x := by kernel_rfl
noncomputable def s_l2Read_e (n : Nat) : Ent := ⟨67, s_l2Read_i, s_l2Read_o, fun x => s_l2Read n x⟩
theorem s_l2Read_ok (n : Nat) : EntOK Tryz.prog (s_l2Read_e n) ∧ Own Tryz.prog 67 := ent_ok tabOK0 .nil Tryz.func67 rfl (by kernel_rfl) (s_l2Read_ev n)
def s_ParseHand_i : CSh := ⟨[(.data true .str)], []⟩
def s_ParseHand_o : RSh := ⟨(.tcons (.own 0) (.tcons (.data true .bool) .tnil)), [.rows 31 true (.arr 4 tI)]⟩
theorem s_ParseHand_ev (n : Nat) (x : TupT s_ParseHand_i.tys) : evF ⟨tab, [s_l1Split_e n, s_l2Read_e n, s_l2Hand_e n], n, [(26, ⟨[(4, (.own 0)), (5, (.own 1)), (6, (.data true tI))], [.rows 31 true (.arr 4 tI), .rows 9 true .str], 0⟩)]⟩ Tryz.f31 s_ParseHand_i s_ParseHand_o x = s_ParseHand n x := by kernel_rfl
noncomputable def s_ParseHand_e (n : Nat) : Ent := ⟨31, s_ParseHand_i, s_ParseHand_o, fun x => s_ParseHand n x⟩
theorem s_ParseHand_ok (n : Nat) : EntOK Tryz.prog (s_ParseHand_e n) ∧ Own Tryz.prog 31 := ent_ok tabOK0 (.cons (s_l1Split_ok n) (.cons (s_l2Read_ok n) (.cons (s_l2Hand_ok n) .nil))) Tryz.func31 rfl (by kernel_rfl) (s_ParseHand_ev n)
def v_FnHands_i : CSh := ⟨[(.data false (.sl (.int .u8)))], []⟩
def v_FnHands_o : RSh := ⟨(.data true .bool), []⟩
theorem v_FnHands_ev (n : Nat) (x : TupT v_FnHands_i.tys) : evF ⟨tab, [v_rBig_e n, s_DrawLinesIn_e n, i_LinesIn_e n, s_LinesIn_e n, i_IsHand_e n, v_rThrees_e n, s_DrawLinesThrough_e n, i_LinesThrough_e n, s_LinesThrough_e n, i_SumCards_e n, s_SumCards_e n, i_PutCard_e n, s_PutCard_e n, v_rHand_e n, i_DropCard_e n, s_DropCard_e n, s_DrawWithTrait_e n, i_WithTrait_e n, s_WithTrait_e n, v_rInts_e n, s_DrawSortCards_e n, i_SortCards_e n, s_SortCards_e n, i_HandText_e n, s_HandText_e n, s_DrawParseHand_e n, i_ParseHand_e n, s_ParseHand_e n], n, [(128, ⟨[(3, (.own 0)), (4, (.own 1)), (5, (.data true .bool)), (8, (.own 2)), (9, (.ptr 3 [])), (22, (.own 4)), (23, (.data true .bool)), (38, (.data true .str))], [.rows 31 true (.arr 4 tI), .rows 55 true (.arr 3 tI), .rows 31 true (.arr 4 tI), .var 31 (.data true (.arr 4 tI)), .rows 31 true (.arr 4 tI)], 0⟩), (142, ⟨[(3, (.own 0)), (4, (.own 1)), (5, (.data true .bool)), (38, (.data true .str))], [.rows 31 true (.arr 4 tI), .rows 55 true (.arr 3 tI)], 0⟩), (180, ⟨[(3, (.own 0)), (4, (.own 1)), (53, (.data true tI)), (54, (.data true tI))], [.rows 31 true (.arr 4 tI), .rows 55 true (.arr 3 tI)], 0⟩)]⟩ Tryz.f3 v_FnHands_i v_FnHands_o x = v_FnHands n x := by kernel_rfl
noncomputable def v_FnHands_e (n : Nat) : Ent := ⟨3, v_FnHands_i, v_FnHands_o, fun x => v_FnHands n x⟩
theorem v_FnHands_ok (n : Nat) : EntOK Tryz.prog (v_FnHands_e n) ∧ Own Tryz.prog 3 := ent_ok tabOK0 (.cons (v_rBig_ok n) (.cons (s_DrawLinesIn_ok n) (.cons (i_LinesIn_ok n) (.cons (s_LinesIn_ok n) (.cons (i_IsHand_ok n) (.cons (v_rThrees_ok n) (.cons (s_DrawLinesThrough_ok n) (.cons (i_LinesThrough_ok n) (.cons (s_LinesThrough_ok n) (.cons (i_SumCards_ok n) (.cons (s_SumCards_ok n) (.cons (i_PutCard_ok n) (.cons (s_PutCard_ok n) (.cons (v_rHand_ok n) (.cons (i_DropCard_ok n) (.cons (s_DropCard_ok n) (.cons (s_DrawWithTrait_ok n) (.cons (i_WithTrait_ok n) (.cons (s_WithTrait_ok n) (.cons (v_rInts_ok n) (.cons (s_DrawSortCards_ok n) (.cons (i_SortCards_ok n) (.cons (s_SortCards_ok n) (.cons (i_HandText_ok n) (.cons (s_HandText_ok n) (.cons (s_DrawParseHand_ok n) (.cons (i_ParseHand_ok n) (.cons (s_ParseHand_ok n) .nil)))))))))))))))))))))))))))) Tryz.func3 rfl (by kernel_rfl) (v_FnHands_ev n)
end Go.Proofs.YtkhfihbaopbblaaGreatDoor
