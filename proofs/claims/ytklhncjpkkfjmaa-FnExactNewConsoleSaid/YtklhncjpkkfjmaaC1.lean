/- Printed by a program of the session: the contracts of the seat's functions. -/
import Derived.Test.YtklhncjpkkfjmaaZ7
import Derived.Test.YtklhncjpkkfjmaaPL
import Derived.Test.YtklhncjpkkfjmaaRows
import Derived.KernelRfl
namespace Go.Proofs.Ytklhncjpkkfjmaa
open Go Go.Tv Go.Pl Go.RowKit
set_option linter.unusedVariables false
abbrev tI : Ty := .int .i64
def tab : Tab := ⟨[(2, ⟨tI, 0, 8⟩), (3, ⟨tI, 0, 8⟩), (4, ⟨.bool, 0, 1⟩), (5, ⟨(.int .u8), 0, 1⟩), (6, ⟨(.int .u8), 0, 1⟩), (7, ⟨(.pair tI (.pair tI (.pair .bool (.int .u8)))), 4, 24⟩), (8, ⟨(.pair tI (.pair tI (.pair .bool (.int .u8)))), 4, 24⟩), (9, ⟨.str, 0, 16⟩), (10, ⟨.str, 0, 16⟩), (11, ⟨.str, 0, 16⟩), (12, ⟨(.int .u64), 0, 8⟩), (13, ⟨(.pair .str (.int .u64)), 2, 24⟩), (14, ⟨(.pair .str (.int .u64)), 2, 24⟩), (21, ⟨(.int .i32), 0, 4⟩), (22, ⟨(.sl (.int .u8)), 5, 1⟩), (24, ⟨(.sl (.arr 4 tI)), 43, 32⟩), (26, ⟨(.sl (.arr 3 tI)), 89, 24⟩), (43, ⟨(.arr 4 tI), 3, 8⟩), (46, ⟨(.pair (.sl (.arr 4 tI)) (.pair tI tI)), 3, 40⟩), (47, ⟨(.pair (.sl (.arr 4 tI)) (.pair tI tI)), 3, 40⟩), (49, ⟨(.pair (.sl (.arr 4 tI)) (.pair tI tI)), 3, 40⟩), (50, ⟨(.pair .str (.pair .str tI)), 3, 40⟩), (51, ⟨(.pair .str (.pair .str tI)), 3, 40⟩), (52, ⟨(.pair (.pair (.sl (.arr 4 tI)) (.pair tI tI)) (.pair .str (.pair .str tI))), 2, 80⟩), (53, ⟨(.pair (.pair (.sl (.arr 4 tI)) (.pair tI tI)) (.pair .str (.pair .str tI))), 2, 80⟩), (77, ⟨(.sl tI), 3, 8⟩), (87, ⟨(.pair tI (.pair tI (.sl (.arr 4 tI)))), 3, 40⟩), (88, ⟨(.pair tI (.pair tI (.sl (.arr 4 tI)))), 3, 40⟩), (89, ⟨(.arr 3 tI), 3, 8⟩), (101, ⟨(.arr 81 .bool), 4, 1⟩), (112, ⟨(.int .u64), 0, 8⟩), (113, ⟨(.pair (.sl (.int .u8)) (.pair tI (.int .u64))), 3, 40⟩), (114, ⟨(.pair (.sl (.int .u8)) (.pair tI (.int .u64))), 3, 40⟩), (163, ⟨(.arr 81 tI), 3, 8⟩), (173, ⟨(.sl (.arr 2 tI)), 181, 16⟩), (178, ⟨(.int .u64), 0, 8⟩), (181, ⟨(.arr 2 tI), 3, 8⟩), (183, ⟨(.sl (.sl (.arr 4 tI))), 24, 24⟩), (187, ⟨tI, 0, 8⟩), (194, ⟨(.int .u32), 0, 4⟩), (196, ⟨(.int .u64), 0, 8⟩), (211, ⟨(.int .u8), 0, 1⟩), (212, ⟨(.int .u8), 0, 1⟩), (215, ⟨(.int .i32), 0, 4⟩), (216, ⟨(.int .i32), 0, 4⟩)], [7, 8, 43, 50, 51, 89, 101, 163, 181], [1, 23, 25, 28, 30, 32, 33, 34, 36, 38, 40, 41, 42, 45, 48, 55, 56, 57, 58, 59, 60, 61, 63, 64, 66, 67, 68, 69, 70, 71, 72, 73, 75, 76, 79, 80, 81, 82, 83, 84, 85, 86, 91, 93, 94, 95, 96, 97, 98, 99, 100, 102, 103, 104, 105, 106, 107, 108, 109, 110, 115, 116, 117, 118, 119, 120, 121, 122, 123, 124, 125, 126, 127, 128, 129, 130, 131, 132, 133, 134, 135, 136, 137, 138, 139, 140, 141, 142, 143, 144, 145, 146, 147, 148, 149, 150, 151, 152, 153, 154, 155, 156, 157, 158, 159, 160, 161, 162, 164, 165, 166, 167, 168, 169, 170, 171, 172, 174, 175, 176, 177, 179, 180, 182, 184, 185, 186, 189, 190, 191, 192, 193, 195, 197, 198, 199, 201, 204, 205, 213]⟩
theorem tabOK0 : TabOK Try.prog tab := ⟨by kernel_rfl, by kernel_rfl⟩
def v_szIntA4S_i : CSh := ⟨[(.data false (.sl (.arr 4 tI))), (.data true tI)], []⟩
def v_szIntA4S_o : RSh := ⟨(.data true tI), []⟩
theorem v_szIntA4S_ev (n : Nat) (x : TupT v_szIntA4S_i.tys) : evF ⟨tab, [], n, []⟩ Try.f141 v_szIntA4S_i v_szIntA4S_o x = v_szIntA4S n x.1 x.2 := by kernel_rfl
noncomputable def v_szIntA4S_e (n : Nat) : Ent := ⟨141, v_szIntA4S_i, v_szIntA4S_o, fun x => v_szIntA4S n x.1 x.2⟩
theorem v_szIntA4S_ok (n : Nat) : EntOK Try.prog (v_szIntA4S_e n) ∧ Own Try.prog 141 := ent_ok tabOK0 .nil Try.func141 rfl (by kernel_rfl) (v_szIntA4S_ev n)
def v_szTable_i : CSh := ⟨[(.data false (.pair (.sl (.arr 4 tI)) (.pair tI tI))), (.data true tI)], []⟩
def v_szTable_o : RSh := ⟨(.data true tI), []⟩
theorem v_szTable_ev (n : Nat) (x : TupT v_szTable_i.tys) : evF ⟨tab, [v_szIntA4S_e n], n, []⟩ Try.f35 v_szTable_i v_szTable_o x = v_szTable n x.1 x.2 := by kernel_rfl
noncomputable def v_szTable_e (n : Nat) : Ent := ⟨35, v_szTable_i, v_szTable_o, fun x => v_szTable n x.1 x.2⟩
theorem v_szTable_ok (n : Nat) : EntOK Try.prog (v_szTable_e n) ∧ Own Try.prog 35 := ent_ok tabOK0 (.cons (v_szIntA4S_ok n) .nil) Try.func35 rfl (by kernel_rfl) (v_szTable_ev n)
def v_toIntA4_i : CSh := ⟨[(.data true (.arr 4 tI))], []⟩
def v_toIntA4_o : RSh := ⟨(.data true (.arr 4 tI)), []⟩
theorem v_toIntA4_ev (n : Nat) (x : TupT v_toIntA4_i.tys) : evF ⟨tab, [], n, [(8, ⟨[(1, (.ptr 0 [])), (2, (.ptr 1 [])), (3, (.ptr 2 [])), (4, (.data true tI))], [.var 43 (.data true (.arr 4 tI)), .var 43 (.data true (.arr 4 tI)), .var 43 (.data true (.arr 4 tI))], 0⟩)]⟩ Try.f224 v_toIntA4_i v_toIntA4_o x = v_toIntA4 n x := by kernel_rfl
noncomputable def v_toIntA4_e (n : Nat) : Ent := ⟨224, v_toIntA4_i, v_toIntA4_o, fun x => v_toIntA4 n x⟩
theorem v_toIntA4_ok (n : Nat) : EntOK Try.prog (v_toIntA4_e n) ∧ Own Try.prog 224 := ent_ok tabOK0 .nil Try.func224 rfl (by kernel_rfl) (v_toIntA4_ev n)
def v_toIntA4S_i : CSh := ⟨[(.data false (.sl (.arr 4 tI)))], []⟩
def v_toIntA4S_o : RSh := ⟨(.own 0), [.rows 43 true (.arr 4 tI)]⟩
theorem v_toIntA4S_ev (n : Nat) (x : TupT v_toIntA4S_i.tys) : evF ⟨tab, [v_toIntA4_e n], n, [(8, ⟨[(0, (.data false (.sl (.arr 4 tI)))), (3, (.own 0)), (4, (.data true tI))], [.rows 43 true (.arr 4 tI)], 0⟩)]⟩ Try.f144 v_toIntA4S_i v_toIntA4S_o x = v_toIntA4S n x := by kernel_rfl
noncomputable def v_toIntA4S_e (n : Nat) : Ent := ⟨144, v_toIntA4S_i, v_toIntA4S_o, fun x => v_toIntA4S n x⟩
theorem v_toIntA4S_ok (n : Nat) : EntOK Try.prog (v_toIntA4S_e n) ∧ Own Try.prog 144 := ent_ok tabOK0 (.cons (v_toIntA4_ok n) .nil) Try.func144 rfl (by kernel_rfl) (v_toIntA4S_ev n)
def v_toTable_i : CSh := ⟨[(.data false (.pair (.sl (.arr 4 tI)) (.pair tI tI)))], []⟩
def v_toTable_o : RSh := ⟨(.pr (.own 0) (.data true (.pair tI tI))), [.rows 43 true (.arr 4 tI)]⟩
theorem v_toTable_ev (n : Nat) (x : TupT v_toTable_i.tys) : evF ⟨tab, [v_toIntA4S_e n], n, []⟩ Try.f37 v_toTable_i v_toTable_o x = v_toTable n x := by kernel_rfl
noncomputable def v_toTable_e (n : Nat) : Ent := ⟨37, v_toTable_i, v_toTable_o, fun x => v_toTable n x⟩
theorem v_toTable_ok (n : Nat) : EntOK Try.prog (v_toTable_e n) ∧ Own Try.prog 37 := ent_ok tabOK0 (.cons (v_toIntA4S_ok n) .nil) Try.func37 rfl (by kernel_rfl) (v_toTable_ev n)
def s_l1In_i : CSh := ⟨[(.data true tI), (.data true tI), (.data true tI)], []⟩
def s_l1In_o : RSh := ⟨(.data true .bool), []⟩
theorem s_l1In_ev (n : Nat) (x : TupT s_l1In_i.tys) : evF ⟨tab, [], n, []⟩ Try.f133 s_l1In_i s_l1In_o x = s_l1In n x.1 x.2.1 x.2.2 := by kernel_rfl
noncomputable def s_l1In_e (n : Nat) : Ent := ⟨133, s_l1In_i, s_l1In_o, fun x => s_l1In n x.1 x.2.1 x.2.2⟩
theorem s_l1In_ok (n : Nat) : EntOK Try.prog (s_l1In_e n) ∧ Own Try.prog 133 := ent_ok tabOK0 .nil Try.func133 rfl (by kernel_rfl) (s_l1In_ev n)
def s_l2Card_i : CSh := ⟨[(.data true (.arr 4 tI))], []⟩
def s_l2Card_o : RSh := ⟨(.data true .bool), []⟩
theorem s_l2Card_ev (n : Nat) (x : TupT s_l2Card_i.tys) : evF ⟨tab, [s_l1In_e n], n, [(6, ⟨[(1, (.ptr 0 [])), (3, (.data true tI))], [.var 43 (.data true (.arr 4 tI))], 0⟩)]⟩ Try.f152 s_l2Card_i s_l2Card_o x = s_l2Card n x := by kernel_rfl
noncomputable def s_l2Card_e (n : Nat) : Ent := ⟨152, s_l2Card_i, s_l2Card_o, fun x => s_l2Card n x⟩
theorem s_l2Card_ok (n : Nat) : EntOK Try.prog (s_l2Card_e n) ∧ Own Try.prog 152 := ent_ok tabOK0 (.cons (s_l1In_ok n) .nil) Try.func152 rfl (by kernel_rfl) (s_l2Card_ev n)
def s_l2Number_i : CSh := ⟨[(.data true (.arr 4 tI))], []⟩
def s_l2Number_o : RSh := ⟨(.data true tI), []⟩
theorem s_l2Number_ev (n : Nat) (x : TupT s_l2Number_i.tys) : evF ⟨tab, [], n, []⟩ Try.f162 s_l2Number_i s_l2Number_o x = s_l2Number n x := by kernel_rfl
noncomputable def s_l2Number_e (n : Nat) : Ent := ⟨162, s_l2Number_i, s_l2Number_o, fun x => s_l2Number n x⟩
theorem s_l2Number_ok (n : Nat) : EntOK Try.prog (s_l2Number_e n) ∧ Own Try.prog 162 := ent_ok tabOK0 .nil Try.func162 rfl (by kernel_rfl) (s_l2Number_ev n)
def s_l2Less_i : CSh := ⟨[(.data true (.arr 4 tI)), (.data true (.arr 4 tI))], []⟩
def s_l2Less_o : RSh := ⟨(.data true .bool), []⟩
theorem s_l2Less_ev (n : Nat) (x : TupT s_l2Less_i.tys) : evF ⟨tab, [s_l2Number_e n], n, []⟩ Try.f215 s_l2Less_i s_l2Less_o x = s_l2Less n x.1 x.2 := by kernel_rfl
noncomputable def s_l2Less_e (n : Nat) : Ent := ⟨215, s_l2Less_i, s_l2Less_o, fun x => s_l2Less n x.1 x.2⟩
theorem s_l2Less_ok (n : Nat) : EntOK Try.prog (s_l2Less_e n) ∧ Own Try.prog 215 := ent_ok tabOK0 (.cons (s_l2Number_ok n) .nil) Try.func215 rfl (by kernel_rfl) (s_l2Less_ev n)
def s_l2Hand_i : CSh := ⟨[(.data false (.sl (.arr 4 tI)))], []⟩
def s_l2Hand_o : RSh := ⟨(.data true .bool), []⟩
theorem s_l2Hand_ev (n : Nat) (x : TupT s_l2Hand_i.tys) : evF ⟨tab, [s_l2Card_e n, s_l2Less_e n], n, [(6, ⟨[(0, (.data false (.sl (.arr 4 tI)))), (3, (.data true tI))], [], 0⟩)]⟩ Try.f125 s_l2Hand_i s_l2Hand_o x = s_l2Hand n x := by kernel_rfl
noncomputable def s_l2Hand_e (n : Nat) : Ent := ⟨125, s_l2Hand_i, s_l2Hand_o, fun x => s_l2Hand n x⟩
theorem s_l2Hand_ok (n : Nat) : EntOK Try.prog (s_l2Hand_e n) ∧ Own Try.prog 125 := ent_ok tabOK0 (.cons (s_l2Card_ok n) (.cons (s_l2Less_ok n) .nil)) Try.func125 rfl (by kernel_rfl) (s_l2Hand_ev n)
def s_l12Good_i : CSh := ⟨[(.data false (.pair (.sl (.arr 4 tI)) (.pair tI tI)))], []⟩
def s_l12Good_o : RSh := ⟨(.data true .bool), []⟩
theorem s_l12Good_ev (n : Nat) (x : TupT s_l12Good_i.tys) : evF ⟨tab, [s_l2Hand_e n, s_l1In_e n], n, []⟩ Try.f142 s_l12Good_i s_l12Good_o x = s_l12Good n x := by kernel_rfl
noncomputable def s_l12Good_e (n : Nat) : Ent := ⟨142, s_l12Good_i, s_l12Good_o, fun x => s_l12Good n x⟩
theorem s_l12Good_ok (n : Nat) : EntOK Try.prog (s_l12Good_e n) ∧ Own Try.prog 142 := ent_ok tabOK0 (.cons (s_l2Hand_ok n) (.cons (s_l1In_ok n) .nil)) Try.func142 rfl (by kernel_rfl) (s_l12Good_ev n)
def s_l2Own_i : CSh := ⟨[(.data false (.sl (.arr 4 tI)))], []⟩
def s_l2Own_o : RSh := ⟨(.own 0), [.rows 43 true (.arr 4 tI)]⟩
theorem s_l2Own_ev (n : Nat) (x : TupT s_l2Own_i.tys) : evF ⟨tab, [], n, []⟩ Try.f223 s_l2Own_i s_l2Own_o x = s_l2Own n x := by kernel_rfl
noncomputable def s_l2Own_e (n : Nat) : Ent := ⟨223, s_l2Own_i, s_l2Own_o, fun x => s_l2Own n x⟩
theorem s_l2Own_ok (n : Nat) : EntOK Try.prog (s_l2Own_e n) ∧ Own Try.prog 223 := ent_ok tabOK0 .nil Try.func223 rfl (by kernel_rfl) (s_l2Own_ev n)
def s_l12Own_i : CSh := ⟨[(.data false (.pair (.sl (.arr 4 tI)) (.pair tI tI)))], []⟩
def s_l12Own_o : RSh := ⟨(.pr (.own 0) (.data true (.pair tI tI))), [.rows 43 true (.arr 4 tI)]⟩
theorem s_l12Own_ev (n : Nat) (x : TupT s_l12Own_i.tys) : evF ⟨tab, [s_l2Own_e n], n, []⟩ Try.f143 s_l12Own_i s_l12Own_o x = s_l12Own n x := by kernel_rfl
noncomputable def s_l12Own_e (n : Nat) : Ent := ⟨143, s_l12Own_i, s_l12Own_o, fun x => s_l12Own n x⟩
theorem s_l12Own_ok (n : Nat) : EntOK Try.prog (s_l12Own_e n) ∧ Own Try.prog 143 := ent_ok tabOK0 (.cons (s_l2Own_ok n) .nil) Try.func143 rfl (by kernel_rfl) (s_l12Own_ev n)
def s_NewConsole_i : CSh := ⟨[(.data false (.pair (.sl (.arr 4 tI)) (.pair tI tI)))], []⟩
def s_NewConsole_o : RSh := ⟨(.tcons (.pr (.pr (.own 0) (.data true (.pair tI tI))) (.data true (.pair .str (.pair .str tI)))) (.tcons (.data true .bool) .tnil)), [.rows 43 true (.arr 4 tI)]⟩
theorem s_NewConsole_ev (n : Nat) (x : TupT s_NewConsole_i.tys) : evF ⟨tab, [s_l12Good_e n, s_l12Own_e n], n, []⟩ Try.f36 s_NewConsole_i s_NewConsole_o x = s_NewConsole n x := by kernel_rfl
noncomputable def s_NewConsole_e (n : Nat) : Ent := ⟨36, s_NewConsole_i, s_NewConsole_o, fun x => s_NewConsole n x⟩
theorem s_NewConsole_ok (n : Nat) : EntOK Try.prog (s_NewConsole_e n) ∧ Own Try.prog 36 := ent_ok tabOK0 (.cons (s_l12Good_ok n) (.cons (s_l12Own_ok n) .nil)) Try.func36 rfl (by kernel_rfl) (s_NewConsole_ev n)
def i_within_i : CSh := ⟨[(.data true tI), (.data true tI), (.data true tI)], []⟩
def i_within_o : RSh := ⟨(.data true .bool), []⟩
theorem i_within_ev (n : Nat) (x : TupT i_within_i.tys) : evF ⟨tab, [], n, []⟩ Try.f132 i_within_i i_within_o x = i_within n x.1 x.2.1 x.2.2 := by kernel_rfl
noncomputable def i_within_e (n : Nat) : Ent := ⟨132, i_within_i, i_within_o, fun x => i_within n x.1 x.2.1 x.2.2⟩
theorem i_within_ok (n : Nat) : EntOK Try.prog (i_within_e n) ∧ Own Try.prog 132 := ent_ok tabOK0 .nil Try.func132 rfl (by kernel_rfl) (i_within_ev n)
def i_allWithin_1'pp_i : CSh := ⟨[(.data true tI), (.ptr 0 []), (.ptr 1 [])], [.var 3 (.data true tI), .var 3 (.data true tI)]⟩
def i_allWithin_1'pp_o : RSh := ⟨(.data true .bool), [.var 3 (.data true tI), .var 3 (.data true tI)]⟩
theorem i_allWithin_1'pp_ev (n : Nat) (x : TupT i_allWithin_1'pp_i.tys) : evF ⟨tab, [i_within_e n], n, []⟩ Try.f229 i_allWithin_1'pp_i i_allWithin_1'pp_o x = i_allWithin_1'pp n x.1 x.2.1 x.2.2 := by kernel_rfl
noncomputable def i_allWithin_1'pp_e (n : Nat) : Ent := ⟨229, i_allWithin_1'pp_i, i_allWithin_1'pp_o, fun x => i_allWithin_1'pp n x.1 x.2.1 x.2.2⟩
theorem i_allWithin_1'pp_ok (n : Nat) : EntOK Try.prog (i_allWithin_1'pp_e n) ∧ Own Try.prog 229 := ent_ok tabOK0 (.cons (i_within_ok n) .nil) Try.func229 rfl (by kernel_rfl) (i_allWithin_1'pp_ev n)
def slices_IndexFunc_Sint_int_'l_i_allWithin_1pp_i : CSh := ⟨[(.data false (.sl tI)), (.clo 229 (.tcons (.ptr 0 []) (.tcons (.ptr 1 []) .tnil)))], [.var 3 (.data true tI), .var 3 (.data true tI)]⟩
def slices_IndexFunc_Sint_int_'l_i_allWithin_1pp_o : RSh := ⟨(.data true tI), [.var 3 (.data true tI), .var 3 (.data true tI)]⟩
theorem slices_IndexFunc_Sint_int_'l_i_allWithin_1pp_ev (n : Nat) (x : TupT slices_IndexFunc_Sint_int_'l_i_allWithin_1pp_i.tys) : evF ⟨tab, [i_allWithin_1'pp_e n], n, [(6, ⟨[(0, (.data false (.sl tI))), (1, (.clo 229 (.tcons (.ptr 0 []) (.tcons (.ptr 1 []) .tnil)))), (7, (.data true tI)), (8, (.data true tI))], [.var 3 (.data true tI), .var 3 (.data true tI)], 2⟩)]⟩ Try.f246 slices_IndexFunc_Sint_int_'l_i_allWithin_1pp_i slices_IndexFunc_Sint_int_'l_i_allWithin_1pp_o x = slices_IndexFunc_Sint_int_'l_i_allWithin_1pp n x.1 x.2.1 x.2.2 := by kernel_rfl
noncomputable def slices_IndexFunc_Sint_int_'l_i_allWithin_1pp_e (n : Nat) : Ent := ⟨246, slices_IndexFunc_Sint_int_'l_i_allWithin_1pp_i, slices_IndexFunc_Sint_int_'l_i_allWithin_1pp_o, fun x => slices_IndexFunc_Sint_int_'l_i_allWithin_1pp n x.1 x.2.1 x.2.2⟩
theorem slices_IndexFunc_Sint_int_'l_i_allWithin_1pp_ok (n : Nat) : EntOK Try.prog (slices_IndexFunc_Sint_int_'l_i_allWithin_1pp_e n) ∧ Own Try.prog 246 := ent_ok tabOK0 (.cons (i_allWithin_1'pp_ok n) .nil) Try.func246 rfl (by kernel_rfl) (slices_IndexFunc_Sint_int_'l_i_allWithin_1pp_ev n)
def slices_ContainsFunc_Sint_int_'l_i_allWithin_1pp_i : CSh := ⟨[(.data false (.sl tI)), (.clo 229 (.tcons (.ptr 0 []) (.tcons (.ptr 1 []) .tnil)))], [.var 3 (.data true tI), .var 3 (.data true tI)]⟩
def slices_ContainsFunc_Sint_int_'l_i_allWithin_1pp_o : RSh := ⟨(.data true .bool), [.var 3 (.data true tI), .var 3 (.data true tI)]⟩
theorem slices_ContainsFunc_Sint_int_'l_i_allWithin_1pp_ev (n : Nat) (x : TupT slices_ContainsFunc_Sint_int_'l_i_allWithin_1pp_i.tys) : evF ⟨tab, [slices_IndexFunc_Sint_int_'l_i_allWithin_1pp_e n], n, []⟩ Try.f228 slices_ContainsFunc_Sint_int_'l_i_allWithin_1pp_i slices_ContainsFunc_Sint_int_'l_i_allWithin_1pp_o x = slices_ContainsFunc_Sint_int_'l_i_allWithin_1pp n x.1 x.2.1 x.2.2 := by kernel_rfl
noncomputable def slices_ContainsFunc_Sint_int_'l_i_allWithin_1pp_e (n : Nat) : Ent := ⟨228, slices_ContainsFunc_Sint_int_'l_i_allWithin_1pp_i, slices_ContainsFunc_Sint_int_'l_i_allWithin_1pp_o, fun x => slices_ContainsFunc_Sint_int_'l_i_allWithin_1pp n x.1 x.2.1 x.2.2⟩
theorem slices_ContainsFunc_Sint_int_'l_i_allWithin_1pp_ok (n : Nat) : EntOK Try.prog (slices_ContainsFunc_Sint_int_'l_i_allWithin_1pp_e n) ∧ Own Try.prog 228 := ent_ok tabOK0 (.cons (slices_IndexFunc_Sint_int_'l_i_allWithin_1pp_ok n) .nil) Try.func228 rfl (by kernel_rfl) (slices_ContainsFunc_Sint_int_'l_i_allWithin_1pp_ev n)
def i_allWithin_i : CSh := ⟨[(.data false (.sl tI)), (.data true tI), (.data true tI)], []⟩
def i_allWithin_o : RSh := ⟨(.data true .bool), []⟩
theorem i_allWithin_ev (n : Nat) (x : TupT i_allWithin_i.tys) : evF ⟨tab, [slices_ContainsFunc_Sint_int_'l_i_allWithin_1pp_e n], n, []⟩ Try.f160 i_allWithin_i i_allWithin_o x = i_allWithin n x.1 x.2.1 x.2.2 := by kernel_rfl
noncomputable def i_allWithin_e (n : Nat) : Ent := ⟨160, i_allWithin_i, i_allWithin_o, fun x => i_allWithin n x.1 x.2.1 x.2.2⟩
theorem i_allWithin_ok (n : Nat) : EntOK Try.prog (i_allWithin_e n) ∧ Own Try.prog 160 := ent_ok tabOK0 (.cons (slices_ContainsFunc_Sint_int_'l_i_allWithin_1pp_ok n) .nil) Try.func160 rfl (by kernel_rfl) (i_allWithin_ev n)
def i_IsCard_i : CSh := ⟨[(.data true (.arr 4 tI))], []⟩
def i_IsCard_o : RSh := ⟨(.data true .bool), []⟩
theorem i_IsCard_ev (n : Nat) (x : TupT i_IsCard_i.tys) : evF ⟨tab, [i_allWithin_e n], n, []⟩ Try.f55 i_IsCard_i i_IsCard_o x = i_IsCard n x := by kernel_rfl
noncomputable def i_IsCard_e (n : Nat) : Ent := ⟨55, i_IsCard_i, i_IsCard_o, fun x => i_IsCard n x⟩
theorem i_IsCard_ok (n : Nat) : EntOK Try.prog (i_IsCard_e n) ∧ Own Try.prog 55 := ent_ok tabOK0 (.cons (i_allWithin_ok n) .nil) Try.func55 rfl (by kernel_rfl) (i_IsCard_ev n)
def i_number_i : CSh := ⟨[(.data true (.arr 4 tI))], []⟩
def i_number_o : RSh := ⟨(.data true tI), []⟩
theorem i_number_ev (n : Nat) (x : TupT i_number_i.tys) : evF ⟨tab, [], n, [(8, ⟨[(3, (.data true tI)), (6, (.data true (.arr 4 tI))), (7, (.data true tI))], [], 0⟩)]⟩ Try.f161 i_number_i i_number_o x = i_number n x := by kernel_rfl
noncomputable def i_number_e (n : Nat) : Ent := ⟨161, i_number_i, i_number_o, fun x => i_number n x⟩
theorem i_number_ok (n : Nat) : EntOK Try.prog (i_number_e n) ∧ Own Try.prog 161 := ent_ok tabOK0 .nil Try.func161 rfl (by kernel_rfl) (i_number_ev n)
def i_IsHand_i : CSh := ⟨[(.data false (.sl (.arr 4 tI)))], []⟩
def i_IsHand_o : RSh := ⟨(.data true .bool), []⟩
theorem i_IsHand_ev (n : Nat) (x : TupT i_IsHand_i.tys) : evF ⟨tab, [i_IsCard_e n, i_number_e n], n, [(6, ⟨[(0, (.data false (.sl (.arr 4 tI)))), (5, (.data false (.sl (.arr 4 tI)))), (6, (.data true tI)), (7, (.data true tI))], [], 0⟩)]⟩ Try.f120 i_IsHand_i i_IsHand_o x = i_IsHand n x := by kernel_rfl
noncomputable def i_IsHand_e (n : Nat) : Ent := ⟨120, i_IsHand_i, i_IsHand_o, fun x => i_IsHand n x⟩
theorem i_IsHand_ok (n : Nat) : EntOK Try.prog (i_IsHand_e n) ∧ Own Try.prog 120 := ent_ok tabOK0 (.cons (i_IsCard_ok n) (.cons (i_number_ok n) .nil)) Try.func120 rfl (by kernel_rfl) (i_IsHand_ev n)
def i_IsTable_i : CSh := ⟨[(.data false (.pair (.sl (.arr 4 tI)) (.pair tI tI)))], []⟩
def i_IsTable_o : RSh := ⟨(.data true .bool), []⟩
theorem i_IsTable_ev (n : Nat) (x : TupT i_IsTable_i.tys) : evF ⟨tab, [i_IsHand_e n, i_within_e n], n, []⟩ Try.f145 i_IsTable_i i_IsTable_o x = i_IsTable n x := by kernel_rfl
noncomputable def i_IsTable_e (n : Nat) : Ent := ⟨145, i_IsTable_i, i_IsTable_o, fun x => i_IsTable n x⟩
theorem i_IsTable_ok (n : Nat) : EntOK Try.prog (i_IsTable_e n) ∧ Own Try.prog 145 := ent_ok tabOK0 (.cons (i_IsHand_ok n) (.cons (i_within_ok n) .nil)) Try.func145 rfl (by kernel_rfl) (i_IsTable_ev n)
def slices_Clone_SA4_A4__i : CSh := ⟨[(.data false (.sl (.arr 4 tI)))], []⟩
def slices_Clone_SA4_A4__o : RSh := ⟨(.own 0), [.rows 43 true (.arr 4 tI)]⟩
theorem slices_Clone_SA4_A4__ev (n : Nat) (x : TupT slices_Clone_SA4_A4__i.tys) : evF ⟨tab, [], n, []⟩ Try.f225 slices_Clone_SA4_A4__i slices_Clone_SA4_A4__o x = slices_Clone_SA4_A4_ n x := by kernel_rfl
noncomputable def slices_Clone_SA4_A4__e (n : Nat) : Ent := ⟨225, slices_Clone_SA4_A4__i, slices_Clone_SA4_A4__o, fun x => slices_Clone_SA4_A4_ n x⟩
theorem slices_Clone_SA4_A4__ok (n : Nat) : EntOK Try.prog (slices_Clone_SA4_A4__e n) ∧ Own Try.prog 225 := ent_ok tabOK0 .nil Try.func225 rfl (by kernel_rfl) (slices_Clone_SA4_A4__ev n)
def _impl_Table__own_i : CSh := ⟨[(.data false (.pair (.sl (.arr 4 tI)) (.pair tI tI)))], []⟩
def _impl_Table__own_o : RSh := ⟨(.pr (.own 0) (.data true (.pair tI tI))), [.rows 43 true (.arr 4 tI)]⟩
theorem _impl_Table__own_ev (n : Nat) (x : TupT _impl_Table__own_i.tys) : evF ⟨tab, [slices_Clone_SA4_A4__e n], n, []⟩ Try.f146 _impl_Table__own_i _impl_Table__own_o x = _impl_Table__own n x := by kernel_rfl
noncomputable def _impl_Table__own_e (n : Nat) : Ent := ⟨146, _impl_Table__own_i, _impl_Table__own_o, fun x => _impl_Table__own n x⟩
theorem _impl_Table__own_ok (n : Nat) : EntOK Try.prog (_impl_Table__own_e n) ∧ Own Try.prog 146 := ent_ok tabOK0 (.cons (slices_Clone_SA4_A4__ok n) .nil) Try.func146 rfl (by kernel_rfl) (_impl_Table__own_ev n)
def i_NewConsole_i : CSh := ⟨[(.data false (.pair (.sl (.arr 4 tI)) (.pair tI tI)))], []⟩
def i_NewConsole_o : RSh := ⟨(.tcons (.pr (.pr (.own 0) (.data true (.pair tI tI))) (.data true (.pair .str (.pair .str tI)))) (.tcons (.data true .bool) .tnil)), [.rows 43 true (.arr 4 tI)]⟩
theorem i_NewConsole_ev (n : Nat) (x : TupT i_NewConsole_i.tys) : evF ⟨tab, [i_IsTable_e n, _impl_Table__own_e n], n, []⟩ Try.f38 i_NewConsole_i i_NewConsole_o x = i_NewConsole n x := by kernel_rfl
noncomputable def i_NewConsole_e (n : Nat) : Ent := ⟨38, i_NewConsole_i, i_NewConsole_o, fun x => i_NewConsole n x⟩
theorem i_NewConsole_ok (n : Nat) : EntOK Try.prog (i_NewConsole_e n) ∧ Own Try.prog 38 := ent_ok tabOK0 (.cons (i_IsTable_ok n) (.cons (_impl_Table__own_ok n) .nil)) Try.func38 rfl (by kernel_rfl) (i_NewConsole_ev n)
def v_eqIntA4_i : CSh := ⟨[(.data true (.arr 4 tI)), (.data true (.arr 4 tI))], []⟩
def v_eqIntA4_o : RSh := ⟨(.data true .bool), []⟩
theorem v_eqIntA4_ev (n : Nat) (x : TupT v_eqIntA4_i.tys) : evF ⟨tab, [], n, [(6, ⟨[(2, (.ptr 0 [])), (3, (.ptr 1 [])), (5, (.data true tI))], [.var 43 (.data true (.arr 4 tI)), .var 43 (.data true (.arr 4 tI))], 0⟩)]⟩ Try.f186 v_eqIntA4_i v_eqIntA4_o x = v_eqIntA4 n x.1 x.2 := by kernel_rfl
noncomputable def v_eqIntA4_e (n : Nat) : Ent := ⟨186, v_eqIntA4_i, v_eqIntA4_o, fun x => v_eqIntA4 n x.1 x.2⟩
theorem v_eqIntA4_ok (n : Nat) : EntOK Try.prog (v_eqIntA4_e n) ∧ Own Try.prog 186 := ent_ok tabOK0 .nil Try.func186 rfl (by kernel_rfl) (v_eqIntA4_ev n)
def v_eqIntA4S_i : CSh := ⟨[(.data false (.sl (.arr 4 tI))), (.data false (.sl (.arr 4 tI)))], []⟩
def v_eqIntA4S_o : RSh := ⟨(.data true .bool), []⟩
theorem v_eqIntA4S_ev (n : Nat) (x : TupT v_eqIntA4S_i.tys) : evF ⟨tab, [v_eqIntA4_e n], n, [(14, ⟨[(0, (.data false (.sl (.arr 4 tI)))), (1, (.data false (.sl (.arr 4 tI)))), (5, (.data true tI))], [], 0⟩)]⟩ Try.f88 v_eqIntA4S_i v_eqIntA4S_o x = v_eqIntA4S n x.1 x.2 := by kernel_rfl
noncomputable def v_eqIntA4S_e (n : Nat) : Ent := ⟨88, v_eqIntA4S_i, v_eqIntA4S_o, fun x => v_eqIntA4S n x.1 x.2⟩
theorem v_eqIntA4S_ok (n : Nat) : EntOK Try.prog (v_eqIntA4S_e n) ∧ Own Try.prog 88 := ent_ok tabOK0 (.cons (v_eqIntA4_ok n) .nil) Try.func88 rfl (by kernel_rfl) (v_eqIntA4S_ev n)
def v_eqTable_i : CSh := ⟨[(.data false (.pair (.sl (.arr 4 tI)) (.pair tI tI))), (.data false (.pair (.sl (.arr 4 tI)) (.pair tI tI)))], []⟩
def v_eqTable_o : RSh := ⟨(.data true .bool), []⟩
theorem v_eqTable_ev (n : Nat) (x : TupT v_eqTable_i.tys) : evF ⟨tab, [v_eqIntA4S_e n], n, []⟩ Try.f40 v_eqTable_i v_eqTable_o x = v_eqTable n x.1 x.2 := by kernel_rfl
noncomputable def v_eqTable_e (n : Nat) : Ent := ⟨40, v_eqTable_i, v_eqTable_o, fun x => v_eqTable n x.1 x.2⟩
theorem v_eqTable_ok (n : Nat) : EntOK Try.prog (v_eqTable_e n) ∧ Own Try.prog 40 := ent_ok tabOK0 (.cons (v_eqIntA4S_ok n) .nil) Try.func40 rfl (by kernel_rfl) (v_eqTable_ev n)
def v_eqLog_i : CSh := ⟨[(.data true (.pair .str (.pair .str tI))), (.data true (.pair .str (.pair .str tI)))], []⟩
def v_eqLog_o : RSh := ⟨(.data true .bool), []⟩
theorem v_eqLog_ev (n : Nat) (x : TupT v_eqLog_i.tys) : evF ⟨tab, [], n, []⟩ Try.f147 v_eqLog_i v_eqLog_o x = v_eqLog n x.1 x.2 := by kernel_rfl
noncomputable def v_eqLog_e (n : Nat) : Ent := ⟨147, v_eqLog_i, v_eqLog_o, fun x => v_eqLog n x.1 x.2⟩
theorem v_eqLog_ok (n : Nat) : EntOK Try.prog (v_eqLog_e n) ∧ Own Try.prog 147 := ent_ok tabOK0 .nil Try.func147 rfl (by kernel_rfl) (v_eqLog_ev n)
def v_eqConsole_i : CSh := ⟨[(.data false (.pair (.pair (.sl (.arr 4 tI)) (.pair tI tI)) (.pair .str (.pair .str tI)))), (.data false (.pair (.pair (.sl (.arr 4 tI)) (.pair tI tI)) (.pair .str (.pair .str tI))))], []⟩
def v_eqConsole_o : RSh := ⟨(.data true .bool), []⟩
theorem v_eqConsole_ev (n : Nat) (x : TupT v_eqConsole_i.tys) : evF ⟨tab, [v_eqTable_e n, v_eqLog_e n], n, []⟩ Try.f39 v_eqConsole_i v_eqConsole_o x = v_eqConsole n x.1 x.2 := by kernel_rfl
noncomputable def v_eqConsole_e (n : Nat) : Ent := ⟨39, v_eqConsole_i, v_eqConsole_o, fun x => v_eqConsole n x.1 x.2⟩
theorem v_eqConsole_ok (n : Nat) : EntOK Try.prog (v_eqConsole_e n) ∧ Own Try.prog 39 := ent_ok tabOK0 (.cons (v_eqTable_ok n) (.cons (v_eqLog_ok n) .nil)) Try.func39 rfl (by kernel_rfl) (v_eqConsole_ev n)
def v_markIntA4S'o_i : CSh := ⟨[(.own 0), (.data true tI)], [.rows 43 true (.arr 4 tI)]⟩
def v_markIntA4S'o_o : RSh := ⟨(.data true tI), [.rows 43 true (.arr 4 tI)]⟩
theorem v_markIntA4S'o_ev (n : Nat) (x : TupT v_markIntA4S'o_i.tys) : evF ⟨tab, [], n, [(6, ⟨[(0, (.own 0)), (1, (.data true tI)), (5, (.data true tI))], [.rows 43 true (.arr 4 tI)], 1⟩), (18, ⟨[(0, (.own 0)), (1, (.data true tI)), (5, (.data true tI)), (6, (.data true tI))], [.rows 43 true (.arr 4 tI)], 1⟩)]⟩ Try.f89 v_markIntA4S'o_i v_markIntA4S'o_o x = v_markIntA4S'o n x.1 x.2 := by kernel_rfl
noncomputable def v_markIntA4S'o_e (n : Nat) : Ent := ⟨89, v_markIntA4S'o_i, v_markIntA4S'o_o, fun x => v_markIntA4S'o n x.1 x.2⟩
theorem v_markIntA4S'o_ok (n : Nat) : EntOK Try.prog (v_markIntA4S'o_e n) ∧ Own Try.prog 89 := ent_ok tabOK0 .nil Try.func89 rfl (by kernel_rfl) (v_markIntA4S'o_ev n)
def v_markTable'o_i : CSh := ⟨[(.pr (.own 0) (.data true (.pair tI tI))), (.data true tI)], [.rows 43 true (.arr 4 tI)]⟩
def v_markTable'o_o : RSh := ⟨(.data true tI), [.rows 43 true (.arr 4 tI)]⟩
theorem v_markTable'o_ev (n : Nat) (x : TupT v_markTable'o_i.tys) : evF ⟨tab, [v_markIntA4S'o_e n], n, []⟩ Try.f41 v_markTable'o_i v_markTable'o_o x = v_markTable'o n x.1 x.2.1 x.2.2 := by kernel_rfl
noncomputable def v_markTable'o_e (n : Nat) : Ent := ⟨41, v_markTable'o_i, v_markTable'o_o, fun x => v_markTable'o n x.1 x.2.1 x.2.2⟩
theorem v_markTable'o_ok (n : Nat) : EntOK Try.prog (v_markTable'o_e n) ∧ Own Try.prog 41 := ent_ok tabOK0 (.cons (v_markIntA4S'o_ok n) .nil) Try.func41 rfl (by kernel_rfl) (v_markTable'o_ev n)
def v_markConsole'o_i : CSh := ⟨[(.pr (.pr (.own 0) (.data true (.pair tI tI))) (.data true (.pair .str (.pair .str tI)))), (.data true tI)], [.rows 43 true (.arr 4 tI)]⟩
def v_markConsole'o_o : RSh := ⟨(.data true tI), [.rows 43 true (.arr 4 tI)]⟩
theorem v_markConsole'o_ev (n : Nat) (x : TupT v_markConsole'o_i.tys) : evF ⟨tab, [v_markTable'o_e n], n, []⟩ Try.f42 v_markConsole'o_i v_markConsole'o_o x = v_markConsole'o n x.1 x.2.1 x.2.2.1 x.2.2.2 := by kernel_rfl
noncomputable def v_markConsole'o_e (n : Nat) : Ent := ⟨42, v_markConsole'o_i, v_markConsole'o_o, fun x => v_markConsole'o n x.1 x.2.1 x.2.2.1 x.2.2.2⟩
theorem v_markConsole'o_ok (n : Nat) : EntOK Try.prog (v_markConsole'o_e n) ∧ Own Try.prog 42 := ent_ok tabOK0 (.cons (v_markTable'o_ok n) .nil) Try.func42 rfl (by kernel_rfl) (v_markConsole'o_ev n)
def v_heldIntA4S_i : CSh := ⟨[(.data false (.sl (.arr 4 tI))), (.data true tI)], []⟩
def v_heldIntA4S_o : RSh := ⟨(.data true tI), []⟩
theorem v_heldIntA4S_ev (n : Nat) (x : TupT v_heldIntA4S_i.tys) : evF ⟨tab, [], n, [(6, ⟨[(0, (.data false (.sl (.arr 4 tI)))), (1, (.data true tI)), (5, (.data true tI))], [], 0⟩), (18, ⟨[(0, (.data false (.sl (.arr 4 tI)))), (1, (.data true tI)), (5, (.data true tI)), (6, (.data true tI))], [], 0⟩)]⟩ Try.f90 v_heldIntA4S_i v_heldIntA4S_o x = v_heldIntA4S n x.1 x.2 := by kernel_rfl
noncomputable def v_heldIntA4S_e (n : Nat) : Ent := ⟨90, v_heldIntA4S_i, v_heldIntA4S_o, fun x => v_heldIntA4S n x.1 x.2⟩
theorem v_heldIntA4S_ok (n : Nat) : EntOK Try.prog (v_heldIntA4S_e n) ∧ Own Try.prog 90 := ent_ok tabOK0 .nil Try.func90 rfl (by kernel_rfl) (v_heldIntA4S_ev n)
def v_heldTable_i : CSh := ⟨[(.data false (.pair (.sl (.arr 4 tI)) (.pair tI tI))), (.data true tI)], []⟩
def v_heldTable_o : RSh := ⟨(.data true tI), []⟩
theorem v_heldTable_ev (n : Nat) (x : TupT v_heldTable_i.tys) : evF ⟨tab, [v_heldIntA4S_e n], n, []⟩ Try.f148 v_heldTable_i v_heldTable_o x = v_heldTable n x.1 x.2 := by kernel_rfl
noncomputable def v_heldTable_e (n : Nat) : Ent := ⟨148, v_heldTable_i, v_heldTable_o, fun x => v_heldTable n x.1 x.2⟩
theorem v_heldTable_ok (n : Nat) : EntOK Try.prog (v_heldTable_e n) ∧ Own Try.prog 148 := ent_ok tabOK0 (.cons (v_heldIntA4S_ok n) .nil) Try.func148 rfl (by kernel_rfl) (v_heldTable_ev n)
def v_heldConsole_i : CSh := ⟨[(.data false (.pair (.pair (.sl (.arr 4 tI)) (.pair tI tI)) (.pair .str (.pair .str tI)))), (.data true tI)], []⟩
def v_heldConsole_o : RSh := ⟨(.data true tI), []⟩
theorem v_heldConsole_ev (n : Nat) (x : TupT v_heldConsole_i.tys) : evF ⟨tab, [v_heldTable_e n], n, []⟩ Try.f43 v_heldConsole_i v_heldConsole_o x = v_heldConsole n x.1 x.2 := by kernel_rfl
noncomputable def v_heldConsole_e (n : Nat) : Ent := ⟨43, v_heldConsole_i, v_heldConsole_o, fun x => v_heldConsole n x.1 x.2⟩
theorem v_heldConsole_ok (n : Nat) : EntOK Try.prog (v_heldConsole_e n) ∧ Own Try.prog 43 := ent_ok tabOK0 (.cons (v_heldTable_ok n) .nil) Try.func43 rfl (by kernel_rfl) (v_heldConsole_ev n)
def v_FnExactNewConsole_i : CSh := ⟨[(.data false (.pair (.sl (.arr 4 tI)) (.pair tI tI)))], []⟩
def v_FnExactNewConsole_o : RSh := ⟨(.data true .bool), []⟩
theorem v_FnExactNewConsole_ev (n : Nat) (x : TupT v_FnExactNewConsole_i.tys) : evF ⟨tab, [v_szTable_e n, v_toTable_e n, s_NewConsole_e n, i_NewConsole_e n, v_eqConsole_e n, v_eqTable_e n, v_markTable'o_e n, v_markConsole'o_e n, v_heldConsole_e n], n, []⟩ Try.f4 v_FnExactNewConsole_i v_FnExactNewConsole_o x = v_FnExactNewConsole n x := by kernel_rfl
noncomputable def v_FnExactNewConsole_e (n : Nat) : Ent := ⟨4, v_FnExactNewConsole_i, v_FnExactNewConsole_o, fun x => v_FnExactNewConsole n x⟩
theorem v_FnExactNewConsole_ok (n : Nat) : EntOK Try.prog (v_FnExactNewConsole_e n) ∧ Own Try.prog 4 := ent_ok tabOK0 (.cons (v_szTable_ok n) (.cons (v_toTable_ok n) (.cons (s_NewConsole_ok n) (.cons (i_NewConsole_ok n) (.cons (v_eqConsole_ok n) (.cons (v_eqTable_ok n) (.cons (v_markTable'o_ok n) (.cons (v_markConsole'o_ok n) (.cons (v_heldConsole_ok n) .nil))))))))) Try.func4 rfl (by kernel_rfl) (v_FnExactNewConsole_ev n)
end Go.Proofs.Ytklhncjpkkfjmaa
