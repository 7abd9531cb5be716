/- Printed by a program of the session: the contracts of the seat's functions. -/
import Derived.Test.YtleaogcnndhdgaaZ7
import Derived.Test.YtleaogcnndhdgaaPL
import Derived.Test.YtleaogcnndhdgaaRows
import Derived.KernelRfl
namespace Go.Proofs.Ytleaogcnndhdgaa
open Go Go.Tv Go.Pl Go.RowKit
set_option linter.unusedVariables false
abbrev tI : Ty := .int .i64
def tab : Tab := ⟨[(2, ⟨tI, 0, 8⟩), (3, ⟨tI, 0, 8⟩), (4, ⟨.bool, 0, 1⟩), (5, ⟨(.int .u8), 0, 1⟩), (6, ⟨(.int .u8), 0, 1⟩), (7, ⟨(.pair tI (.pair tI (.pair .bool (.int .u8)))), 4, 24⟩), (8, ⟨(.pair tI (.pair tI (.pair .bool (.int .u8)))), 4, 24⟩), (9, ⟨.str, 0, 16⟩), (10, ⟨.str, 0, 16⟩), (11, ⟨.str, 0, 16⟩), (12, ⟨(.int .u64), 0, 8⟩), (13, ⟨(.pair .str (.int .u64)), 2, 24⟩), (14, ⟨(.pair .str (.int .u64)), 2, 24⟩), (21, ⟨(.int .i32), 0, 4⟩), (22, ⟨(.sl (.arr 4 tI)), 36, 32⟩), (28, ⟨(.pair (.sl (.arr 4 tI)) (.pair tI tI)), 3, 40⟩), (29, ⟨(.pair (.sl (.arr 4 tI)) (.pair tI tI)), 3, 40⟩), (32, ⟨(.pair (.sl (.arr 4 tI)) (.pair tI tI)), 3, 40⟩), (36, ⟨(.arr 4 tI), 3, 8⟩), (40, ⟨(.pair .str .str), 2, 32⟩), (41, ⟨(.pair .str .str), 2, 32⟩), (44, ⟨(.pair .str .str), 2, 32⟩), (66, ⟨(.sl (.arr 3 tI)), 79, 24⟩), (69, ⟨(.sl tI), 3, 8⟩), (79, ⟨(.arr 3 tI), 3, 8⟩), (87, ⟨(.int .u64), 0, 8⟩), (88, ⟨(.int .u32), 0, 4⟩), (98, ⟨(.int .u8), 0, 1⟩), (99, ⟨(.int .u8), 0, 1⟩), (102, ⟨(.int .i32), 0, 4⟩), (103, ⟨(.int .i32), 0, 4⟩)], [7, 8, 36, 40, 41, 44, 79], [1, 23, 25, 26, 27, 30, 31, 33, 34, 35, 37, 38, 39, 42, 43, 45, 46, 48, 49, 50, 52, 53, 54, 55, 56, 57, 58, 59, 60, 61, 62, 63, 64, 65, 67, 68, 70, 71, 72, 73, 74, 75, 76, 77, 78, 80, 81, 82, 83, 84, 85, 86, 90, 91, 97, 100, 106]⟩
theorem tabOK0 : TabOK Try.prog tab := ⟨by kernel_rfl, by kernel_rfl⟩
def v_szIntA4S_i : CSh := ⟨[(.data false (.sl (.arr 4 tI))), (.data true tI)], []⟩
def v_szIntA4S_o : RSh := ⟨(.data true tI), []⟩
theorem v_szIntA4S_ev (n : Nat) (x : TupT v_szIntA4S_i.tys) : evF ⟨tab, [], n, []⟩ Try.f10 v_szIntA4S_i v_szIntA4S_o x = v_szIntA4S n x.1 x.2 := by kernel_rfl
noncomputable def v_szIntA4S_e (n : Nat) : Ent := ⟨10, v_szIntA4S_i, v_szIntA4S_o, fun x => v_szIntA4S n x.1 x.2⟩
theorem v_szIntA4S_ok (n : Nat) : EntOK Try.prog (v_szIntA4S_e n) ∧ Own Try.prog 10 := ent_ok tabOK0 .nil Try.func10 rfl (by kernel_rfl) (v_szIntA4S_ev n)
def v_toIntA4_i : CSh := ⟨[(.data true (.arr 4 tI))], []⟩
def v_toIntA4_o : RSh := ⟨(.data true (.arr 4 tI)), []⟩
theorem v_toIntA4_ev (n : Nat) (x : TupT v_toIntA4_i.tys) : evF ⟨tab, [], n, [(8, ⟨[(1, (.ptr 0 [])), (2, (.ptr 1 [])), (3, (.ptr 2 [])), (4, (.data true tI))], [.var 36 (.data true (.arr 4 tI)), .var 36 (.data true (.arr 4 tI)), .var 36 (.data true (.arr 4 tI))], 0⟩)]⟩ Try.f21 v_toIntA4_i v_toIntA4_o x = v_toIntA4 n x := by kernel_rfl
noncomputable def v_toIntA4_e (n : Nat) : Ent := ⟨21, v_toIntA4_i, v_toIntA4_o, fun x => v_toIntA4 n x⟩
theorem v_toIntA4_ok (n : Nat) : EntOK Try.prog (v_toIntA4_e n) ∧ Own Try.prog 21 := ent_ok tabOK0 .nil Try.func21 rfl (by kernel_rfl) (v_toIntA4_ev n)
def v_toIntA4S_i : CSh := ⟨[(.data false (.sl (.arr 4 tI)))], []⟩
def v_toIntA4S_o : RSh := ⟨(.own 0), [.rows 36 true (.arr 4 tI)]⟩
theorem v_toIntA4S_ev (n : Nat) (x : TupT v_toIntA4S_i.tys) : evF ⟨tab, [v_toIntA4_e n], n, [(8, ⟨[(0, (.data false (.sl (.arr 4 tI)))), (3, (.own 0)), (4, (.data true tI))], [.rows 36 true (.arr 4 tI)], 0⟩)]⟩ Try.f12 v_toIntA4S_i v_toIntA4S_o x = v_toIntA4S n x := by kernel_rfl
noncomputable def v_toIntA4S_e (n : Nat) : Ent := ⟨12, v_toIntA4S_i, v_toIntA4S_o, fun x => v_toIntA4S n x⟩
theorem v_toIntA4S_ok (n : Nat) : EntOK Try.prog (v_toIntA4S_e n) ∧ Own Try.prog 12 := ent_ok tabOK0 (.cons (v_toIntA4_ok n) .nil) Try.func12 rfl (by kernel_rfl) (v_toIntA4S_ev n)
def s_l1In_i : CSh := ⟨[(.data true tI), (.data true tI), (.data true tI)], []⟩
def s_l1In_o : RSh := ⟨(.data true .bool), []⟩
theorem s_l1In_ev (n : Nat) (x : TupT s_l1In_i.tys) : evF ⟨tab, [], n, []⟩ Try.f67 s_l1In_i s_l1In_o x = s_l1In n x.1 x.2.1 x.2.2 := by kernel_rfl
noncomputable def s_l1In_e (n : Nat) : Ent := ⟨67, s_l1In_i, s_l1In_o, fun x => s_l1In n x.1 x.2.1 x.2.2⟩
theorem s_l1In_ok (n : Nat) : EntOK Try.prog (s_l1In_e n) ∧ Own Try.prog 67 := ent_ok tabOK0 .nil Try.func67 rfl (by kernel_rfl) (s_l1In_ev n)
def s_l2Card_i : CSh := ⟨[(.data true (.arr 4 tI))], []⟩
def s_l2Card_o : RSh := ⟨(.data true .bool), []⟩
theorem s_l2Card_ev (n : Nat) (x : TupT s_l2Card_i.tys) : evF ⟨tab, [s_l1In_e n], n, [(6, ⟨[(1, (.ptr 0 [])), (3, (.data true tI))], [.var 36 (.data true (.arr 4 tI))], 0⟩)]⟩ Try.f46 s_l2Card_i s_l2Card_o x = s_l2Card n x := by kernel_rfl
noncomputable def s_l2Card_e (n : Nat) : Ent := ⟨46, s_l2Card_i, s_l2Card_o, fun x => s_l2Card n x⟩
theorem s_l2Card_ok (n : Nat) : EntOK Try.prog (s_l2Card_e n) ∧ Own Try.prog 46 := ent_ok tabOK0 (.cons (s_l1In_ok n) .nil) Try.func46 rfl (by kernel_rfl) (s_l2Card_ev n)
def s_l2Number_i : CSh := ⟨[(.data true (.arr 4 tI))], []⟩
def s_l2Number_o : RSh := ⟨(.data true tI), []⟩
theorem s_l2Number_ev (n : Nat) (x : TupT s_l2Number_i.tys) : evF ⟨tab, [], n, []⟩ Try.f81 s_l2Number_i s_l2Number_o x = s_l2Number n x := by kernel_rfl
noncomputable def s_l2Number_e (n : Nat) : Ent := ⟨81, s_l2Number_i, s_l2Number_o, fun x => s_l2Number n x⟩
theorem s_l2Number_ok (n : Nat) : EntOK Try.prog (s_l2Number_e n) ∧ Own Try.prog 81 := ent_ok tabOK0 .nil Try.func81 rfl (by kernel_rfl) (s_l2Number_ev n)
def s_l2Less_i : CSh := ⟨[(.data true (.arr 4 tI)), (.data true (.arr 4 tI))], []⟩
def s_l2Less_o : RSh := ⟨(.data true .bool), []⟩
theorem s_l2Less_ev (n : Nat) (x : TupT s_l2Less_i.tys) : evF ⟨tab, [s_l2Number_e n], n, []⟩ Try.f69 s_l2Less_i s_l2Less_o x = s_l2Less n x.1 x.2 := by kernel_rfl
noncomputable def s_l2Less_e (n : Nat) : Ent := ⟨69, s_l2Less_i, s_l2Less_o, fun x => s_l2Less n x.1 x.2⟩
theorem s_l2Less_ok (n : Nat) : EntOK Try.prog (s_l2Less_e n) ∧ Own Try.prog 69 := ent_ok tabOK0 (.cons (s_l2Number_ok n) .nil) Try.func69 rfl (by kernel_rfl) (s_l2Less_ev n)
def s_l2Hand_i : CSh := ⟨[(.data false (.sl (.arr 4 tI)))], []⟩
def s_l2Hand_o : RSh := ⟨(.data true .bool), []⟩
theorem s_l2Hand_ev (n : Nat) (x : TupT s_l2Hand_i.tys) : evF ⟨tab, [s_l2Card_e n, s_l2Less_e n], n, [(6, ⟨[(0, (.data false (.sl (.arr 4 tI)))), (3, (.data true tI))], [], 0⟩)]⟩ Try.f44 s_l2Hand_i s_l2Hand_o x = s_l2Hand n x := by kernel_rfl
noncomputable def s_l2Hand_e (n : Nat) : Ent := ⟨44, s_l2Hand_i, s_l2Hand_o, fun x => s_l2Hand n x⟩
theorem s_l2Hand_ok (n : Nat) : EntOK Try.prog (s_l2Hand_e n) ∧ Own Try.prog 44 := ent_ok tabOK0 (.cons (s_l2Card_ok n) (.cons (s_l2Less_ok n) .nil)) Try.func44 rfl (by kernel_rfl) (s_l2Hand_ev n)
def s_l2Own_i : CSh := ⟨[(.data false (.sl (.arr 4 tI)))], []⟩
def s_l2Own_o : RSh := ⟨(.own 0), [.rows 36 true (.arr 4 tI)]⟩
theorem s_l2Own_ev (n : Nat) (x : TupT s_l2Own_i.tys) : evF ⟨tab, [], n, []⟩ Try.f58 s_l2Own_i s_l2Own_o x = s_l2Own n x := by kernel_rfl
noncomputable def s_l2Own_e (n : Nat) : Ent := ⟨58, s_l2Own_i, s_l2Own_o, fun x => s_l2Own n x⟩
theorem s_l2Own_ok (n : Nat) : EntOK Try.prog (s_l2Own_e n) ∧ Own Try.prog 58 := ent_ok tabOK0 .nil Try.func58 rfl (by kernel_rfl) (s_l2Own_ev n)
def s_NewTable_i : CSh := ⟨[(.data false (.sl (.arr 4 tI)))], []⟩
def s_NewTable_o : RSh := ⟨(.tcons (.pr (.own 0) (.data true (.pair tI tI))) (.tcons (.data true .bool) .tnil)), [.rows 36 true (.arr 4 tI)]⟩
theorem s_NewTable_ev (n : Nat) (x : TupT s_NewTable_i.tys) : evF ⟨tab, [s_l2Hand_e n, s_l2Own_e n], n, []⟩ Try.f30 s_NewTable_i s_NewTable_o x = s_NewTable n x := by kernel_rfl
noncomputable def s_NewTable_e (n : Nat) : Ent := ⟨30, s_NewTable_i, s_NewTable_o, fun x => s_NewTable n x⟩
theorem s_NewTable_ok (n : Nat) : EntOK Try.prog (s_NewTable_e n) ∧ Own Try.prog 30 := ent_ok tabOK0 (.cons (s_l2Hand_ok n) (.cons (s_l2Own_ok n) .nil)) Try.func30 rfl (by kernel_rfl) (s_NewTable_ev n)
def i_within_i : CSh := ⟨[(.data true tI), (.data true tI), (.data true tI)], []⟩
def i_within_o : RSh := ⟨(.data true .bool), []⟩
theorem i_within_ev (n : Nat) (x : TupT i_within_i.tys) : evF ⟨tab, [], n, []⟩ Try.f43 i_within_i i_within_o x = i_within n x.1 x.2.1 x.2.2 := by kernel_rfl
noncomputable def i_within_e (n : Nat) : Ent := ⟨43, i_within_i, i_within_o, fun x => i_within n x.1 x.2.1 x.2.2⟩
theorem i_within_ok (n : Nat) : EntOK Try.prog (i_within_e n) ∧ Own Try.prog 43 := ent_ok tabOK0 .nil Try.func43 rfl (by kernel_rfl) (i_within_ev n)
def i_allWithin_1'pp_i : CSh := ⟨[(.data true tI), (.ptr 0 []), (.ptr 1 [])], [.var 3 (.data true tI), .var 3 (.data true tI)]⟩
def i_allWithin_1'pp_o : RSh := ⟨(.data true .bool), [.var 3 (.data true tI), .var 3 (.data true tI)]⟩
theorem i_allWithin_1'pp_ev (n : Nat) (x : TupT i_allWithin_1'pp_i.tys) : evF ⟨tab, [i_within_e n], n, []⟩ Try.f83 i_allWithin_1'pp_i i_allWithin_1'pp_o x = i_allWithin_1'pp n x.1 x.2.1 x.2.2 := by kernel_rfl
noncomputable def i_allWithin_1'pp_e (n : Nat) : Ent := ⟨83, i_allWithin_1'pp_i, i_allWithin_1'pp_o, fun x => i_allWithin_1'pp n x.1 x.2.1 x.2.2⟩
theorem i_allWithin_1'pp_ok (n : Nat) : EntOK Try.prog (i_allWithin_1'pp_e n) ∧ Own Try.prog 83 := ent_ok tabOK0 (.cons (i_within_ok n) .nil) Try.func83 rfl (by kernel_rfl) (i_allWithin_1'pp_ev n)
def slices_IndexFunc_Sint_int_'l_i_allWithin_1pp_i : CSh := ⟨[(.data false (.sl tI)), (.clo 83 (.tcons (.ptr 0 []) (.tcons (.ptr 1 []) .tnil)))], [.var 3 (.data true tI), .var 3 (.data true tI)]⟩
def slices_IndexFunc_Sint_int_'l_i_allWithin_1pp_o : RSh := ⟨(.data true tI), [.var 3 (.data true tI), .var 3 (.data true tI)]⟩
theorem slices_IndexFunc_Sint_int_'l_i_allWithin_1pp_ev (n : Nat) (x : TupT slices_IndexFunc_Sint_int_'l_i_allWithin_1pp_i.tys) : evF ⟨tab, [i_allWithin_1'pp_e n], n, [(6, ⟨[(0, (.data false (.sl tI))), (1, (.clo 83 (.tcons (.ptr 0 []) (.tcons (.ptr 1 []) .tnil)))), (7, (.data true tI)), (8, (.data true tI))], [.var 3 (.data true tI), .var 3 (.data true tI)], 2⟩)]⟩ Try.f87 slices_IndexFunc_Sint_int_'l_i_allWithin_1pp_i slices_IndexFunc_Sint_int_'l_i_allWithin_1pp_o x = slices_IndexFunc_Sint_int_'l_i_allWithin_1pp n x.1 x.2.1 x.2.2 := by kernel_rfl
noncomputable def slices_IndexFunc_Sint_int_'l_i_allWithin_1pp_e (n : Nat) : Ent := ⟨87, slices_IndexFunc_Sint_int_'l_i_allWithin_1pp_i, slices_IndexFunc_Sint_int_'l_i_allWithin_1pp_o, fun x => slices_IndexFunc_Sint_int_'l_i_allWithin_1pp n x.1 x.2.1 x.2.2⟩
theorem slices_IndexFunc_Sint_int_'l_i_allWithin_1pp_ok (n : Nat) : EntOK Try.prog (slices_IndexFunc_Sint_int_'l_i_allWithin_1pp_e n) ∧ Own Try.prog 87 := ent_ok tabOK0 (.cons (i_allWithin_1'pp_ok n) .nil) Try.func87 rfl (by kernel_rfl) (slices_IndexFunc_Sint_int_'l_i_allWithin_1pp_ev n)
def slices_ContainsFunc_Sint_int_'l_i_allWithin_1pp_i : CSh := ⟨[(.data false (.sl tI)), (.clo 83 (.tcons (.ptr 0 []) (.tcons (.ptr 1 []) .tnil)))], [.var 3 (.data true tI), .var 3 (.data true tI)]⟩
def slices_ContainsFunc_Sint_int_'l_i_allWithin_1pp_o : RSh := ⟨(.data true .bool), [.var 3 (.data true tI), .var 3 (.data true tI)]⟩
theorem slices_ContainsFunc_Sint_int_'l_i_allWithin_1pp_ev (n : Nat) (x : TupT slices_ContainsFunc_Sint_int_'l_i_allWithin_1pp_i.tys) : evF ⟨tab, [slices_IndexFunc_Sint_int_'l_i_allWithin_1pp_e n], n, []⟩ Try.f82 slices_ContainsFunc_Sint_int_'l_i_allWithin_1pp_i slices_ContainsFunc_Sint_int_'l_i_allWithin_1pp_o x = slices_ContainsFunc_Sint_int_'l_i_allWithin_1pp n x.1 x.2.1 x.2.2 := by kernel_rfl
noncomputable def slices_ContainsFunc_Sint_int_'l_i_allWithin_1pp_e (n : Nat) : Ent := ⟨82, slices_ContainsFunc_Sint_int_'l_i_allWithin_1pp_i, slices_ContainsFunc_Sint_int_'l_i_allWithin_1pp_o, fun x => slices_ContainsFunc_Sint_int_'l_i_allWithin_1pp n x.1 x.2.1 x.2.2⟩
theorem slices_ContainsFunc_Sint_int_'l_i_allWithin_1pp_ok (n : Nat) : EntOK Try.prog (slices_ContainsFunc_Sint_int_'l_i_allWithin_1pp_e n) ∧ Own Try.prog 82 := ent_ok tabOK0 (.cons (slices_IndexFunc_Sint_int_'l_i_allWithin_1pp_ok n) .nil) Try.func82 rfl (by kernel_rfl) (slices_ContainsFunc_Sint_int_'l_i_allWithin_1pp_ev n)
def i_allWithin_i : CSh := ⟨[(.data false (.sl tI)), (.data true tI), (.data true tI)], []⟩
def i_allWithin_o : RSh := ⟨(.data true .bool), []⟩
theorem i_allWithin_ev (n : Nat) (x : TupT i_allWithin_i.tys) : evF ⟨tab, [slices_ContainsFunc_Sint_int_'l_i_allWithin_1pp_e n], n, []⟩ Try.f71 i_allWithin_i i_allWithin_o x = i_allWithin n x.1 x.2.1 x.2.2 := by kernel_rfl
noncomputable def i_allWithin_e (n : Nat) : Ent := ⟨71, i_allWithin_i, i_allWithin_o, fun x => i_allWithin n x.1 x.2.1 x.2.2⟩
theorem i_allWithin_ok (n : Nat) : EntOK Try.prog (i_allWithin_e n) ∧ Own Try.prog 71 := ent_ok tabOK0 (.cons (slices_ContainsFunc_Sint_int_'l_i_allWithin_1pp_ok n) .nil) Try.func71 rfl (by kernel_rfl) (i_allWithin_ev n)
def i_IsCard_i : CSh := ⟨[(.data true (.arr 4 tI))], []⟩
def i_IsCard_o : RSh := ⟨(.data true .bool), []⟩
theorem i_IsCard_ev (n : Nat) (x : TupT i_IsCard_i.tys) : evF ⟨tab, [i_allWithin_e n], n, []⟩ Try.f49 i_IsCard_i i_IsCard_o x = i_IsCard n x := by kernel_rfl
noncomputable def i_IsCard_e (n : Nat) : Ent := ⟨49, i_IsCard_i, i_IsCard_o, fun x => i_IsCard n x⟩
theorem i_IsCard_ok (n : Nat) : EntOK Try.prog (i_IsCard_e n) ∧ Own Try.prog 49 := ent_ok tabOK0 (.cons (i_allWithin_ok n) .nil) Try.func49 rfl (by kernel_rfl) (i_IsCard_ev n)
def i_number_i : CSh := ⟨[(.data true (.arr 4 tI))], []⟩
def i_number_o : RSh := ⟨(.data true tI), []⟩
theorem i_number_ev (n : Nat) (x : TupT i_number_i.tys) : evF ⟨tab, [], n, [(8, ⟨[(3, (.data true tI)), (6, (.data true (.arr 4 tI))), (7, (.data true tI))], [], 0⟩)]⟩ Try.f68 i_number_i i_number_o x = i_number n x := by kernel_rfl
noncomputable def i_number_e (n : Nat) : Ent := ⟨68, i_number_i, i_number_o, fun x => i_number n x⟩
theorem i_number_ok (n : Nat) : EntOK Try.prog (i_number_e n) ∧ Own Try.prog 68 := ent_ok tabOK0 .nil Try.func68 rfl (by kernel_rfl) (i_number_ev n)
def i_IsHand_i : CSh := ⟨[(.data false (.sl (.arr 4 tI)))], []⟩
def i_IsHand_o : RSh := ⟨(.data true .bool), []⟩
theorem i_IsHand_ev (n : Nat) (x : TupT i_IsHand_i.tys) : evF ⟨tab, [i_IsCard_e n, i_number_e n], n, [(6, ⟨[(0, (.data false (.sl (.arr 4 tI)))), (5, (.data false (.sl (.arr 4 tI)))), (6, (.data true tI)), (7, (.data true tI))], [], 0⟩)]⟩ Try.f42 i_IsHand_i i_IsHand_o x = i_IsHand n x := by kernel_rfl
noncomputable def i_IsHand_e (n : Nat) : Ent := ⟨42, i_IsHand_i, i_IsHand_o, fun x => i_IsHand n x⟩
theorem i_IsHand_ok (n : Nat) : EntOK Try.prog (i_IsHand_e n) ∧ Own Try.prog 42 := ent_ok tabOK0 (.cons (i_IsCard_ok n) (.cons (i_number_ok n) .nil)) Try.func42 rfl (by kernel_rfl) (i_IsHand_ev n)
def slices_Clone_SA4_A4__i : CSh := ⟨[(.data false (.sl (.arr 4 tI)))], []⟩
def slices_Clone_SA4_A4__o : RSh := ⟨(.own 0), [.rows 36 true (.arr 4 tI)]⟩
theorem slices_Clone_SA4_A4__ev (n : Nat) (x : TupT slices_Clone_SA4_A4__i.tys) : evF ⟨tab, [], n, []⟩ Try.f59 slices_Clone_SA4_A4__i slices_Clone_SA4_A4__o x = slices_Clone_SA4_A4_ n x := by kernel_rfl
noncomputable def slices_Clone_SA4_A4__e (n : Nat) : Ent := ⟨59, slices_Clone_SA4_A4__i, slices_Clone_SA4_A4__o, fun x => slices_Clone_SA4_A4_ n x⟩
theorem slices_Clone_SA4_A4__ok (n : Nat) : EntOK Try.prog (slices_Clone_SA4_A4__e n) ∧ Own Try.prog 59 := ent_ok tabOK0 .nil Try.func59 rfl (by kernel_rfl) (slices_Clone_SA4_A4__ev n)
def i_NewTable_i : CSh := ⟨[(.data false (.sl (.arr 4 tI)))], []⟩
def i_NewTable_o : RSh := ⟨(.tcons (.pr (.own 0) (.data true (.pair tI tI))) (.tcons (.data true .bool) .tnil)), [.rows 36 true (.arr 4 tI)]⟩
theorem i_NewTable_ev (n : Nat) (x : TupT i_NewTable_i.tys) : evF ⟨tab, [i_IsHand_e n, slices_Clone_SA4_A4__e n], n, []⟩ Try.f31 i_NewTable_i i_NewTable_o x = i_NewTable n x := by kernel_rfl
noncomputable def i_NewTable_e (n : Nat) : Ent := ⟨31, i_NewTable_i, i_NewTable_o, fun x => i_NewTable n x⟩
theorem i_NewTable_ok (n : Nat) : EntOK Try.prog (i_NewTable_e n) ∧ Own Try.prog 31 := ent_ok tabOK0 (.cons (i_IsHand_ok n) (.cons (slices_Clone_SA4_A4__ok n) .nil)) Try.func31 rfl (by kernel_rfl) (i_NewTable_ev n)
def v_eqIntA4_i : CSh := ⟨[(.data true (.arr 4 tI)), (.data true (.arr 4 tI))], []⟩
def v_eqIntA4_o : RSh := ⟨(.data true .bool), []⟩
theorem v_eqIntA4_ev (n : Nat) (x : TupT v_eqIntA4_i.tys) : evF ⟨tab, [], n, [(6, ⟨[(2, (.ptr 0 [])), (3, (.ptr 1 [])), (5, (.data true tI))], [.var 36 (.data true (.arr 4 tI)), .var 36 (.data true (.arr 4 tI))], 0⟩)]⟩ Try.f29 v_eqIntA4_i v_eqIntA4_o x = v_eqIntA4 n x.1 x.2 := by kernel_rfl
noncomputable def v_eqIntA4_e (n : Nat) : Ent := ⟨29, v_eqIntA4_i, v_eqIntA4_o, fun x => v_eqIntA4 n x.1 x.2⟩
theorem v_eqIntA4_ok (n : Nat) : EntOK Try.prog (v_eqIntA4_e n) ∧ Own Try.prog 29 := ent_ok tabOK0 .nil Try.func29 rfl (by kernel_rfl) (v_eqIntA4_ev n)
def v_eqIntA4S_i : CSh := ⟨[(.data false (.sl (.arr 4 tI))), (.data false (.sl (.arr 4 tI)))], []⟩
def v_eqIntA4S_o : RSh := ⟨(.data true .bool), []⟩
theorem v_eqIntA4S_ev (n : Nat) (x : TupT v_eqIntA4S_i.tys) : evF ⟨tab, [v_eqIntA4_e n], n, [(14, ⟨[(0, (.data false (.sl (.arr 4 tI)))), (1, (.data false (.sl (.arr 4 tI)))), (5, (.data true tI))], [], 0⟩)]⟩ Try.f14 v_eqIntA4S_i v_eqIntA4S_o x = v_eqIntA4S n x.1 x.2 := by kernel_rfl
noncomputable def v_eqIntA4S_e (n : Nat) : Ent := ⟨14, v_eqIntA4S_i, v_eqIntA4S_o, fun x => v_eqIntA4S n x.1 x.2⟩
theorem v_eqIntA4S_ok (n : Nat) : EntOK Try.prog (v_eqIntA4S_e n) ∧ Own Try.prog 14 := ent_ok tabOK0 (.cons (v_eqIntA4_ok n) .nil) Try.func14 rfl (by kernel_rfl) (v_eqIntA4S_ev n)
def v_eqTable_i : CSh := ⟨[(.data false (.pair (.sl (.arr 4 tI)) (.pair tI tI))), (.data false (.pair (.sl (.arr 4 tI)) (.pair tI tI)))], []⟩
def v_eqTable_o : RSh := ⟨(.data true .bool), []⟩
theorem v_eqTable_ev (n : Nat) (x : TupT v_eqTable_i.tys) : evF ⟨tab, [v_eqIntA4S_e n], n, []⟩ Try.f19 v_eqTable_i v_eqTable_o x = v_eqTable n x.1 x.2 := by kernel_rfl
noncomputable def v_eqTable_e (n : Nat) : Ent := ⟨19, v_eqTable_i, v_eqTable_o, fun x => v_eqTable n x.1 x.2⟩
theorem v_eqTable_ok (n : Nat) : EntOK Try.prog (v_eqTable_e n) ∧ Own Try.prog 19 := ent_ok tabOK0 (.cons (v_eqIntA4S_ok n) .nil) Try.func19 rfl (by kernel_rfl) (v_eqTable_ev n)
def v_markIntA4S'o_i : CSh := ⟨[(.own 0), (.data true tI)], [.rows 36 true (.arr 4 tI)]⟩
def v_markIntA4S'o_o : RSh := ⟨(.data true tI), [.rows 36 true (.arr 4 tI)]⟩
theorem v_markIntA4S'o_ev (n : Nat) (x : TupT v_markIntA4S'o_i.tys) : evF ⟨tab, [], n, [(6, ⟨[(0, (.own 0)), (1, (.data true tI)), (5, (.data true tI))], [.rows 36 true (.arr 4 tI)], 1⟩), (18, ⟨[(0, (.own 0)), (1, (.data true tI)), (5, (.data true tI)), (6, (.data true tI))], [.rows 36 true (.arr 4 tI)], 1⟩)]⟩ Try.f32 v_markIntA4S'o_i v_markIntA4S'o_o x = v_markIntA4S'o n x.1 x.2 := by kernel_rfl
noncomputable def v_markIntA4S'o_e (n : Nat) : Ent := ⟨32, v_markIntA4S'o_i, v_markIntA4S'o_o, fun x => v_markIntA4S'o n x.1 x.2⟩
theorem v_markIntA4S'o_ok (n : Nat) : EntOK Try.prog (v_markIntA4S'o_e n) ∧ Own Try.prog 32 := ent_ok tabOK0 .nil Try.func32 rfl (by kernel_rfl) (v_markIntA4S'o_ev n)
def v_markTable'o_i : CSh := ⟨[(.pr (.own 0) (.data true (.pair tI tI))), (.data true tI)], [.rows 36 true (.arr 4 tI)]⟩
def v_markTable'o_o : RSh := ⟨(.data true tI), [.rows 36 true (.arr 4 tI)]⟩
theorem v_markTable'o_ev (n : Nat) (x : TupT v_markTable'o_i.tys) : evF ⟨tab, [v_markIntA4S'o_e n], n, []⟩ Try.f33 v_markTable'o_i v_markTable'o_o x = v_markTable'o n x.1 x.2.1 x.2.2 := by kernel_rfl
noncomputable def v_markTable'o_e (n : Nat) : Ent := ⟨33, v_markTable'o_i, v_markTable'o_o, fun x => v_markTable'o n x.1 x.2.1 x.2.2⟩
theorem v_markTable'o_ok (n : Nat) : EntOK Try.prog (v_markTable'o_e n) ∧ Own Try.prog 33 := ent_ok tabOK0 (.cons (v_markIntA4S'o_ok n) .nil) Try.func33 rfl (by kernel_rfl) (v_markTable'o_ev n)
def v_heldIntA4S_i : CSh := ⟨[(.data false (.sl (.arr 4 tI))), (.data true tI)], []⟩
def v_heldIntA4S_o : RSh := ⟨(.data true tI), []⟩
theorem v_heldIntA4S_ev (n : Nat) (x : TupT v_heldIntA4S_i.tys) : evF ⟨tab, [], n, [(6, ⟨[(0, (.data false (.sl (.arr 4 tI)))), (1, (.data true tI)), (5, (.data true tI))], [], 0⟩), (18, ⟨[(0, (.data false (.sl (.arr 4 tI)))), (1, (.data true tI)), (5, (.data true tI)), (6, (.data true tI))], [], 0⟩)]⟩ Try.f60 v_heldIntA4S_i v_heldIntA4S_o x = v_heldIntA4S n x.1 x.2 := by kernel_rfl
noncomputable def v_heldIntA4S_e (n : Nat) : Ent := ⟨60, v_heldIntA4S_i, v_heldIntA4S_o, fun x => v_heldIntA4S n x.1 x.2⟩
theorem v_heldIntA4S_ok (n : Nat) : EntOK Try.prog (v_heldIntA4S_e n) ∧ Own Try.prog 60 := ent_ok tabOK0 .nil Try.func60 rfl (by kernel_rfl) (v_heldIntA4S_ev n)
def v_heldTable_i : CSh := ⟨[(.data false (.pair (.sl (.arr 4 tI)) (.pair tI tI))), (.data true tI)], []⟩
def v_heldTable_o : RSh := ⟨(.data true tI), []⟩
theorem v_heldTable_ev (n : Nat) (x : TupT v_heldTable_i.tys) : evF ⟨tab, [v_heldIntA4S_e n], n, []⟩ Try.f34 v_heldTable_i v_heldTable_o x = v_heldTable n x.1 x.2 := by kernel_rfl
noncomputable def v_heldTable_e (n : Nat) : Ent := ⟨34, v_heldTable_i, v_heldTable_o, fun x => v_heldTable n x.1 x.2⟩
theorem v_heldTable_ok (n : Nat) : EntOK Try.prog (v_heldTable_e n) ∧ Own Try.prog 34 := ent_ok tabOK0 (.cons (v_heldIntA4S_ok n) .nil) Try.func34 rfl (by kernel_rfl) (v_heldTable_ev n)
def v_FnExactNewTable_i : CSh := ⟨[(.data false (.sl (.arr 4 tI)))], []⟩
def v_FnExactNewTable_o : RSh := ⟨(.data true .bool), []⟩
theorem v_FnExactNewTable_ev (n : Nat) (x : TupT v_FnExactNewTable_i.tys) : evF ⟨tab, [v_szIntA4S_e n, v_toIntA4S_e n, s_NewTable_e n, i_NewTable_e n, v_eqTable_e n, v_eqIntA4S_e n, v_markIntA4S'o_e n, v_markTable'o_e n, v_heldTable_e n], n, []⟩ Try.f8 v_FnExactNewTable_i v_FnExactNewTable_o x = v_FnExactNewTable n x := by kernel_rfl
noncomputable def v_FnExactNewTable_e (n : Nat) : Ent := ⟨8, v_FnExactNewTable_i, v_FnExactNewTable_o, fun x => v_FnExactNewTable n x⟩
theorem v_FnExactNewTable_ok (n : Nat) : EntOK Try.prog (v_FnExactNewTable_e n) ∧ Own Try.prog 8 := ent_ok tabOK0 (.cons (v_szIntA4S_ok n) (.cons (v_toIntA4S_ok n) (.cons (s_NewTable_ok n) (.cons (i_NewTable_ok n) (.cons (v_eqTable_ok n) (.cons (v_eqIntA4S_ok n) (.cons (v_markIntA4S'o_ok n) (.cons (v_markTable'o_ok n) (.cons (v_heldTable_ok n) .nil))))))))) Try.func8 rfl (by kernel_rfl) (v_FnExactNewTable_ev n)
end Go.Proofs.Ytleaogcnndhdgaa
