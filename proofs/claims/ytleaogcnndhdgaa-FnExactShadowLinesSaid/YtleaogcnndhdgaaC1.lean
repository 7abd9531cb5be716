/- Printed by a program of the session: the contracts of the seat's functions. -/
import Derived.Test.YtleaogcnndhdgaaZ7
import Derived.Test.YtleaogcnndhdgaaPL
import Derived.Test.YtleaogcnndhdgaaRows
import Derived.KernelRfl
namespace Go.Proofs.Ytleaogcnndhdgaa
open Go Go.Tv Go.Pl Go.RowKit
set_option linter.unusedVariables false
abbrev tI : Ty := .int .i64
def tab : Tab := ⟨[(2, ⟨tI, 0, 8⟩), (3, ⟨tI, 0, 8⟩), (4, ⟨.bool, 0, 1⟩), (5, ⟨(.int .u8), 0, 1⟩), (6, ⟨(.int .u8), 0, 1⟩), (7, ⟨(.pair tI (.pair tI (.pair .bool (.int .u8)))), 4, 24⟩), (8, ⟨(.pair tI (.pair tI (.pair .bool (.int .u8)))), 4, 24⟩), (9, ⟨.str, 0, 16⟩), (10, ⟨.str, 0, 16⟩), (11, ⟨.str, 0, 16⟩), (12, ⟨(.int .u64), 0, 8⟩), (13, ⟨(.pair .str (.int .u64)), 2, 24⟩), (14, ⟨(.pair .str (.int .u64)), 2, 24⟩), (21, ⟨(.int .i32), 0, 4⟩), (22, ⟨(.sl (.arr 4 tI)), 36, 32⟩), (28, ⟨(.pair (.sl (.arr 4 tI)) (.pair tI tI)), 3, 40⟩), (29, ⟨(.pair (.sl (.arr 4 tI)) (.pair tI tI)), 3, 40⟩), (32, ⟨(.pair (.sl (.arr 4 tI)) (.pair tI tI)), 3, 40⟩), (36, ⟨(.arr 4 tI), 3, 8⟩), (40, ⟨(.pair .str .str), 2, 32⟩), (41, ⟨(.pair .str .str), 2, 32⟩), (44, ⟨(.pair .str .str), 2, 32⟩), (66, ⟨(.sl (.arr 3 tI)), 79, 24⟩), (69, ⟨(.sl tI), 3, 8⟩), (79, ⟨(.arr 3 tI), 3, 8⟩), (87, ⟨(.int .u64), 0, 8⟩), (88, ⟨(.int .u32), 0, 4⟩), (98, ⟨(.int .u8), 0, 1⟩), (99, ⟨(.int .u8), 0, 1⟩), (102, ⟨(.int .i32), 0, 4⟩), (103, ⟨(.int .i32), 0, 4⟩)], [7, 8, 36, 40, 41, 44, 79], [1, 23, 25, 26, 27, 30, 31, 33, 34, 35, 37, 38, 39, 42, 43, 45, 46, 48, 49, 50, 52, 53, 54, 55, 56, 57, 58, 59, 60, 61, 62, 63, 64, 65, 67, 68, 70, 71, 72, 73, 74, 75, 76, 77, 78, 80, 81, 82, 83, 84, 85, 86, 90, 91, 97, 100, 106]⟩
theorem tabOK0 : TabOK Try.prog tab := ⟨by kernel_rfl, by kernel_rfl⟩
def v_szIntA4S_i : CSh := ⟨[(.data false (.sl (.arr 4 tI))), (.data true tI)], []⟩
def v_szIntA4S_o : RSh := ⟨(.data true tI), []⟩
theorem v_szIntA4S_ev (n : Nat) (x : TupT v_szIntA4S_i.tys) : evF ⟨tab, [], n, []⟩ Try.f10 v_szIntA4S_i v_szIntA4S_o x = v_szIntA4S n x.1 x.2 := by kernel_rfl
noncomputable def v_szIntA4S_e (n : Nat) : Ent := ⟨10, v_szIntA4S_i, v_szIntA4S_o, fun x => v_szIntA4S n x.1 x.2⟩
theorem v_szIntA4S_ok (n : Nat) : EntOK Try.prog (v_szIntA4S_e n) ∧ Own Try.prog 10 := ent_ok tabOK0 .nil Try.func10 rfl (by kernel_rfl) (v_szIntA4S_ev n)
def v_toIntA4_i : CSh := ⟨[(.data true (.arr 4 tI))], []⟩
def v_toIntA4_o : RSh := ⟨(.data true (.arr 4 tI)), []⟩
theorem v_toIntA4_ev (n : Nat) (x : TupT v_toIntA4_i.tys) : evF ⟨tab, [], n, [(8, ⟨[(1, (.ptr 0 [])), (2, (.ptr 1 [])), (3, (.ptr 2 [])), (4, (.data true tI))], [.var 36 (.data true (.arr 4 tI)), .var 36 (.data true (.arr 4 tI)), .var 36 (.data true (.arr 4 tI))], 0⟩)]⟩ Try.f21 v_toIntA4_i v_toIntA4_o x = v_toIntA4 n x := by kernel_rfl
noncomputable def v_toIntA4_e (n : Nat) : Ent := ⟨21, v_toIntA4_i, v_toIntA4_o, fun x => v_toIntA4 n x⟩
theorem v_toIntA4_ok (n : Nat) : EntOK Try.prog (v_toIntA4_e n) ∧ Own Try.prog 21 := ent_ok tabOK0 .nil Try.func21 rfl (by kernel_rfl) (v_toIntA4_ev n)
def v_toIntA4S_i : CSh := ⟨[(.data false (.sl (.arr 4 tI)))], []⟩
def v_toIntA4S_o : RSh := ⟨(.own 0), [.rows 36 true (.arr 4 tI)]⟩
theorem v_toIntA4S_ev (n : Nat) (x : TupT v_toIntA4S_i.tys) : evF ⟨tab, [v_toIntA4_e n], n, [(8, ⟨[(0, (.data false (.sl (.arr 4 tI)))), (3, (.own 0)), (4, (.data true tI))], [.rows 36 true (.arr 4 tI)], 0⟩)]⟩ Try.f12 v_toIntA4S_i v_toIntA4S_o x = v_toIntA4S n x := by kernel_rfl
noncomputable def v_toIntA4S_e (n : Nat) : Ent := ⟨12, v_toIntA4S_i, v_toIntA4S_o, fun x => v_toIntA4S n x⟩
theorem v_toIntA4S_ok (n : Nat) : EntOK Try.prog (v_toIntA4S_e n) ∧ Own Try.prog 12 := ent_ok tabOK0 (.cons (v_toIntA4_ok n) .nil) Try.func12 rfl (by kernel_rfl) (v_toIntA4S_ev n)
def s_l1In_i : CSh := ⟨[(.data true tI), (.data true tI), (.data true tI)], []⟩
def s_l1In_o : RSh := ⟨(.data true .bool), []⟩
theorem s_l1In_ev (n : Nat) (x : TupT s_l1In_i.tys) : evF ⟨tab, [], n, []⟩ Try.f67 s_l1In_i s_l1In_o x = s_l1In n x.1 x.2.1 x.2.2 := by kernel_rfl
noncomputable def s_l1In_e (n : Nat) : Ent := ⟨67, s_l1In_i, s_l1In_o, fun x => s_l1In n x.1 x.2.1 x.2.2⟩
theorem s_l1In_ok (n : Nat) : EntOK Try.prog (s_l1In_e n) ∧ Own Try.prog 67 := ent_ok tabOK0 .nil Try.func67 rfl (by kernel_rfl) (s_l1In_ev n)
def s_l2Card_i : CSh := ⟨[(.data true (.arr 4 tI))], []⟩
def s_l2Card_o : RSh := ⟨(.data true .bool), []⟩
theorem s_l2Card_ev (n : Nat) (x : TupT s_l2Card_i.tys) : evF ⟨tab, [s_l1In_e n], n, [(6, ⟨[(1, (.ptr 0 [])), (3, (.data true tI))], [.var 36 (.data true (.arr 4 tI))], 0⟩)]⟩ Try.f46 s_l2Card_i s_l2Card_o x = s_l2Card n x := by kernel_rfl
noncomputable def s_l2Card_e (n : Nat) : Ent := ⟨46, s_l2Card_i, s_l2Card_o, fun x => s_l2Card n x⟩
theorem s_l2Card_ok (n : Nat) : EntOK Try.prog (s_l2Card_e n) ∧ Own Try.prog 46 := ent_ok tabOK0 (.cons (s_l1In_ok n) .nil) Try.func46 rfl (by kernel_rfl) (s_l2Card_ev n)
def s_l2Number_i : CSh := ⟨[(.data true (.arr 4 tI))], []⟩
def s_l2Number_o : RSh := ⟨(.data true tI), []⟩
theorem s_l2Number_ev (n : Nat) (x : TupT s_l2Number_i.tys) : evF ⟨tab, [], n, []⟩ Try.f81 s_l2Number_i s_l2Number_o x = s_l2Number n x := by kernel_rfl
noncomputable def s_l2Number_e (n : Nat) : Ent := ⟨81, s_l2Number_i, s_l2Number_o, fun x => s_l2Number n x⟩
theorem s_l2Number_ok (n : Nat) : EntOK Try.prog (s_l2Number_e n) ∧ Own Try.prog 81 := ent_ok tabOK0 .nil Try.func81 rfl (by kernel_rfl) (s_l2Number_ev n)
def s_l2Less_i : CSh := ⟨[(.data true (.arr 4 tI)), (.data true (.arr 4 tI))], []⟩
def s_l2Less_o : RSh := ⟨(.data true .bool), []⟩
theorem s_l2Less_ev (n : Nat) (x : TupT s_l2Less_i.tys) : evF ⟨tab, [s_l2Number_e n], n, []⟩ Try.f69 s_l2Less_i s_l2Less_o x = s_l2Less n x.1 x.2 := by kernel_rfl
noncomputable def s_l2Less_e (n : Nat) : Ent := ⟨69, s_l2Less_i, s_l2Less_o, fun x => s_l2Less n x.1 x.2⟩
theorem s_l2Less_ok (n : Nat) : EntOK Try.prog (s_l2Less_e n) ∧ Own Try.prog 69 := ent_ok tabOK0 (.cons (s_l2Number_ok n) .nil) Try.func69 rfl (by kernel_rfl) (s_l2Less_ev n)
def s_l2Hand_i : CSh := ⟨[(.data false (.sl (.arr 4 tI)))], []⟩
def s_l2Hand_o : RSh := ⟨(.data true .bool), []⟩
theorem s_l2Hand_ev (n : Nat) (x : TupT s_l2Hand_i.tys) : evF ⟨tab, [s_l2Card_e n, s_l2Less_e n], n, [(6, ⟨[(0, (.data false (.sl (.arr 4 tI)))), (3, (.data true tI))], [], 0⟩)]⟩ Try.f44 s_l2Hand_i s_l2Hand_o x = s_l2Hand n x := by kernel_rfl
noncomputable def s_l2Hand_e (n : Nat) : Ent := ⟨44, s_l2Hand_i, s_l2Hand_o, fun x => s_l2Hand n x⟩
theorem s_l2Hand_ok (n : Nat) : EntOK Try.prog (s_l2Hand_e n) ∧ Own Try.prog 44 := ent_ok tabOK0 (.cons (s_l2Card_ok n) (.cons (s_l2Less_ok n) .nil)) Try.func44 rfl (by kernel_rfl) (s_l2Hand_ev n)
def s_l11Mask_i : CSh := ⟨[(.data true tI)], []⟩
def s_l11Mask_o : RSh := ⟨(.data true .bool), []⟩
theorem s_l11Mask_ev (n : Nat) (x : TupT s_l11Mask_i.tys) : evF ⟨tab, [s_l1In_e n], n, []⟩ Try.f45 s_l11Mask_i s_l11Mask_o x = s_l11Mask n x := by kernel_rfl
noncomputable def s_l11Mask_e (n : Nat) : Ent := ⟨45, s_l11Mask_i, s_l11Mask_o, fun x => s_l11Mask n x⟩
theorem s_l11Mask_ok (n : Nat) : EntOK Try.prog (s_l11Mask_e n) ∧ Own Try.prog 45 := ent_ok tabOK0 (.cons (s_l1In_ok n) .nil) Try.func45 rfl (by kernel_rfl) (s_l11Mask_ev n)
def s_l11Shadow_i : CSh := ⟨[(.data true (.arr 4 tI)), (.data true tI)], []⟩
def s_l11Shadow_o : RSh := ⟨(.data true (.arr 4 tI)), []⟩
theorem s_l11Shadow_ev (n : Nat) (x : TupT s_l11Shadow_i.tys) : evF ⟨tab, [], n, [(6, ⟨[(1, (.data true tI)), (2, (.ptr 0 [])), (4, (.ptr 1 [])), (5, (.data true tI))], [.var 36 (.data true (.arr 4 tI)), .var 36 (.data true (.arr 4 tI))], 0⟩)]⟩ Try.f70 s_l11Shadow_i s_l11Shadow_o x = s_l11Shadow n x.1 x.2 := by kernel_rfl
noncomputable def s_l11Shadow_e (n : Nat) : Ent := ⟨70, s_l11Shadow_i, s_l11Shadow_o, fun x => s_l11Shadow n x.1 x.2⟩
theorem s_l11Shadow_ok (n : Nat) : EntOK Try.prog (s_l11Shadow_e n) ∧ Own Try.prog 70 := ent_ok tabOK0 .nil Try.func70 rfl (by kernel_rfl) (s_l11Shadow_ev n)
def s_l11All_i : CSh := ⟨[(.data false (.sl (.arr 4 tI))), (.data true tI)], []⟩
def s_l11All_o : RSh := ⟨(.own 0), [.rows 36 true (.arr 4 tI)]⟩
theorem s_l11All_ev (n : Nat) (x : TupT s_l11All_i.tys) : evF ⟨tab, [s_l11Shadow_e n], n, [(8, ⟨[(0, (.data false (.sl (.arr 4 tI)))), (1, (.data true tI)), (5, (.own 0)), (6, (.data true tI))], [.rows 36 true (.arr 4 tI)], 0⟩)]⟩ Try.f47 s_l11All_i s_l11All_o x = s_l11All n x.1 x.2 := by kernel_rfl
noncomputable def s_l11All_e (n : Nat) : Ent := ⟨47, s_l11All_i, s_l11All_o, fun x => s_l11All n x.1 x.2⟩
theorem s_l11All_ok (n : Nat) : EntOK Try.prog (s_l11All_e n) ∧ Own Try.prog 47 := ent_ok tabOK0 (.cons (s_l11Shadow_ok n) .nil) Try.func47 rfl (by kernel_rfl) (s_l11All_ev n)
def s_l2Third_i : CSh := ⟨[(.data true (.arr 4 tI)), (.data true (.arr 4 tI))], []⟩
def s_l2Third_o : RSh := ⟨(.data true (.arr 4 tI)), []⟩
theorem s_l2Third_ev (n : Nat) (x : TupT s_l2Third_i.tys) : evF ⟨tab, [], n, [(8, ⟨[(2, (.ptr 0 [])), (3, (.ptr 1 [])), (4, (.ptr 2 [])), (5, (.ptr 3 [])), (6, (.data true tI))], [.var 36 (.data true (.arr 4 tI)), .var 36 (.data true (.arr 4 tI)), .var 36 (.data true (.arr 4 tI)), .var 36 (.data true (.arr 4 tI))], 0⟩)]⟩ Try.f86 s_l2Third_i s_l2Third_o x = s_l2Third n x.1 x.2 := by kernel_rfl
noncomputable def s_l2Third_e (n : Nat) : Ent := ⟨86, s_l2Third_i, s_l2Third_o, fun x => s_l2Third n x.1 x.2⟩
theorem s_l2Third_ok (n : Nat) : EntOK Try.prog (s_l2Third_e n) ∧ Own Try.prog 86 := ent_ok tabOK0 .nil Try.func86 rfl (by kernel_rfl) (s_l2Third_ev n)
def s_l2Line_i : CSh := ⟨[(.data true (.arr 4 tI)), (.data true (.arr 4 tI)), (.data true (.arr 4 tI))], []⟩
def s_l2Line_o : RSh := ⟨(.data true .bool), []⟩
theorem s_l2Line_ev (n : Nat) (x : TupT s_l2Line_i.tys) : evF ⟨tab, [s_l2Third_e n], n, []⟩ Try.f78 s_l2Line_i s_l2Line_o x = s_l2Line n x.1 x.2.1 x.2.2 := by kernel_rfl
noncomputable def s_l2Line_e (n : Nat) : Ent := ⟨78, s_l2Line_i, s_l2Line_o, fun x => s_l2Line n x.1 x.2.1 x.2.2⟩
theorem s_l2Line_ok (n : Nat) : EntOK Try.prog (s_l2Line_e n) ∧ Own Try.prog 78 := ent_ok tabOK0 (.cons (s_l2Third_ok n) .nil) Try.func78 rfl (by kernel_rfl) (s_l2Line_ev n)
def s_l4Lines_i : CSh := ⟨[(.data false (.sl (.arr 4 tI)))], []⟩
def s_l4Lines_o : RSh := ⟨(.own 0), [.rows 79 true (.arr 3 tI)]⟩
theorem s_l4Lines_ev (n : Nat) (x : TupT s_l4Lines_i.tys) : evF ⟨tab, [s_l2Line_e n], n, [(8, ⟨[(0, (.data false (.sl (.arr 4 tI)))), (3, (.own 0)), (4, (.data true tI))], [.rows 79 true (.arr 3 tI)], 0⟩), (20, ⟨[(0, (.data false (.sl (.arr 4 tI)))), (3, (.own 0)), (4, (.data true tI)), (5, (.data true tI))], [.rows 79 true (.arr 3 tI)], 0⟩), (32, ⟨[(0, (.data false (.sl (.arr 4 tI)))), (3, (.own 0)), (4, (.data true tI)), (5, (.data true tI)), (6, (.data true tI))], [.rows 79 true (.arr 3 tI)], 0⟩)]⟩ Try.f61 s_l4Lines_i s_l4Lines_o x = s_l4Lines n x := by kernel_rfl
noncomputable def s_l4Lines_e (n : Nat) : Ent := ⟨61, s_l4Lines_i, s_l4Lines_o, fun x => s_l4Lines n x⟩
theorem s_l4Lines_ok (n : Nat) : EntOK Try.prog (s_l4Lines_e n) ∧ Own Try.prog 61 := ent_ok tabOK0 (.cons (s_l2Line_ok n) .nil) Try.func61 rfl (by kernel_rfl) (s_l4Lines_ev n)
def s_ShadowLines_i : CSh := ⟨[(.data false (.sl (.arr 4 tI))), (.data true tI)], []⟩
def s_ShadowLines_o : RSh := ⟨(.tcons (.data true tI) (.tcons (.data true .bool) .tnil)), []⟩
theorem s_ShadowLines_ev (n : Nat) (x : TupT s_ShadowLines_i.tys) : evF ⟨tab, [s_l2Hand_e n, s_l11Mask_e n, s_l11All_e n, s_l4Lines_e n], n, []⟩ Try.f35 s_ShadowLines_i s_ShadowLines_o x = s_ShadowLines n x.1 x.2 := by kernel_rfl
noncomputable def s_ShadowLines_e (n : Nat) : Ent := ⟨35, s_ShadowLines_i, s_ShadowLines_o, fun x => s_ShadowLines n x.1 x.2⟩
theorem s_ShadowLines_ok (n : Nat) : EntOK Try.prog (s_ShadowLines_e n) ∧ Own Try.prog 35 := ent_ok tabOK0 (.cons (s_l2Hand_ok n) (.cons (s_l11Mask_ok n) (.cons (s_l11All_ok n) (.cons (s_l4Lines_ok n) .nil)))) Try.func35 rfl (by kernel_rfl) (s_ShadowLines_ev n)
def i_within_i : CSh := ⟨[(.data true tI), (.data true tI), (.data true tI)], []⟩
def i_within_o : RSh := ⟨(.data true .bool), []⟩
theorem i_within_ev (n : Nat) (x : TupT i_within_i.tys) : evF ⟨tab, [], n, []⟩ Try.f43 i_within_i i_within_o x = i_within n x.1 x.2.1 x.2.2 := by kernel_rfl
noncomputable def i_within_e (n : Nat) : Ent := ⟨43, i_within_i, i_within_o, fun x => i_within n x.1 x.2.1 x.2.2⟩
theorem i_within_ok (n : Nat) : EntOK Try.prog (i_within_e n) ∧ Own Try.prog 43 := ent_ok tabOK0 .nil Try.func43 rfl (by kernel_rfl) (i_within_ev n)
def i_allWithin_1'pp_i : CSh := ⟨[(.data true tI), (.ptr 0 []), (.ptr 1 [])], [.var 3 (.data true tI), .var 3 (.data true tI)]⟩
def i_allWithin_1'pp_o : RSh := ⟨(.data true .bool), [.var 3 (.data true tI), .var 3 (.data true tI)]⟩
theorem i_allWithin_1'pp_ev (n : Nat) (x : TupT i_allWithin_1'pp_i.tys) : evF ⟨tab, [i_within_e n], n, []⟩ Try.f83 i_allWithin_1'pp_i i_allWithin_1'pp_o x = i_allWithin_1'pp n x.1 x.2.1 x.2.2 := by kernel_rfl
noncomputable def i_allWithin_1'pp_e (n : Nat) : Ent := ⟨83, i_allWithin_1'pp_i, i_allWithin_1'pp_o, fun x => i_allWithin_1'pp n x.1 x.2.1 x.2.2⟩
theorem i_allWithin_1'pp_ok (n : Nat) : EntOK Try.prog (i_allWithin_1'pp_e n) ∧ Own Try.prog 83 := ent_ok tabOK0 (.cons (i_within_ok n) .nil) Try.func83 rfl (by kernel_rfl) (i_allWithin_1'pp_ev n)
def slices_IndexFunc_Sint_int_'l_i_allWithin_1pp_i : CSh := ⟨[(.data false (.sl tI)), (.clo 83 (.tcons (.ptr 0 []) (.tcons (.ptr 1 []) .tnil)))], [.var 3 (.data true tI), .var 3 (.data true tI)]⟩
def slices_IndexFunc_Sint_int_'l_i_allWithin_1pp_o : RSh := ⟨(.data true tI), [.var 3 (.data true tI), .var 3 (.data true tI)]⟩
theorem slices_IndexFunc_Sint_int_'l_i_allWithin_1pp_ev (n : Nat) (x : TupT slices_IndexFunc_Sint_int_'l_i_allWithin_1pp_i.tys) : evF ⟨tab, [i_allWithin_1'pp_e n], n, [(6, ⟨[(0, (.data false (.sl tI))), (1, (.clo 83 (.tcons (.ptr 0 []) (.tcons (.ptr 1 []) .tnil)))), (7, (.data true tI)), (8, (.data true tI))], [.var 3 (.data true tI), .var 3 (.data true tI)], 2⟩)]⟩ Try.f87 slices_IndexFunc_Sint_int_'l_i_allWithin_1pp_i slices_IndexFunc_Sint_int_'l_i_allWithin_1pp_o x = slices_IndexFunc_Sint_int_'l_i_allWithin_1pp n x.1 x.2.1 x.2.2 := by kernel_rfl
noncomputable def slices_IndexFunc_Sint_int_'l_i_allWithin_1pp_e (n : Nat) : Ent := ⟨87, slices_IndexFunc_Sint_int_'l_i_allWithin_1pp_i, slices_IndexFunc_Sint_int_'l_i_allWithin_1pp_o, fun x => slices_IndexFunc_Sint_int_'l_i_allWithin_1pp n x.1 x.2.1 x.2.2⟩
theorem slices_IndexFunc_Sint_int_'l_i_allWithin_1pp_ok (n : Nat) : EntOK Try.prog (slices_IndexFunc_Sint_int_'l_i_allWithin_1pp_e n) ∧ Own Try.prog 87 := ent_ok tabOK0 (.cons (i_allWithin_1'pp_ok n) .nil) Try.func87 rfl (by kernel_rfl) (slices_IndexFunc_Sint_int_'l_i_allWithin_1pp_ev n)
def slices_ContainsFunc_Sint_int_'l_i_allWithin_1pp_i : CSh := ⟨[(.data false (.sl tI)), (.clo 83 (.tcons (.ptr 0 []) (.tcons (.ptr 1 []) .tnil)))], [.var 3 (.data true tI), .var 3 (.data true tI)]⟩
def slices_ContainsFunc_Sint_int_'l_i_allWithin_1pp_o : RSh := ⟨(.data true .bool), [.var 3 (.data true tI), .var 3 (.data true tI)]⟩
theorem slices_ContainsFunc_Sint_int_'l_i_allWithin_1pp_ev (n : Nat) (x : TupT slices_ContainsFunc_Sint_int_'l_i_allWithin_1pp_i.tys) : evF ⟨tab, [slices_IndexFunc_Sint_int_'l_i_allWithin_1pp_e n], n, []⟩ Try.f82 slices_ContainsFunc_Sint_int_'l_i_allWithin_1pp_i slices_ContainsFunc_Sint_int_'l_i_allWithin_1pp_o x = slices_ContainsFunc_Sint_int_'l_i_allWithin_1pp n x.1 x.2.1 x.2.2 := by kernel_rfl
noncomputable def slices_ContainsFunc_Sint_int_'l_i_allWithin_1pp_e (n : Nat) : Ent := ⟨82, slices_ContainsFunc_Sint_int_'l_i_allWithin_1pp_i, slices_ContainsFunc_Sint_int_'l_i_allWithin_1pp_o, fun x => slices_ContainsFunc_Sint_int_'l_i_allWithin_1pp n x.1 x.2.1 x.2.2⟩
theorem slices_ContainsFunc_Sint_int_'l_i_allWithin_1pp_ok (n : Nat) : EntOK Try.prog (slices_ContainsFunc_Sint_int_'l_i_allWithin_1pp_e n) ∧ Own Try.prog 82 := ent_ok tabOK0 (.cons (slices_IndexFunc_Sint_int_'l_i_allWithin_1pp_ok n) .nil) Try.func82 rfl (by kernel_rfl) (slices_ContainsFunc_Sint_int_'l_i_allWithin_1pp_ev n)
def i_allWithin_i : CSh := ⟨[(.data false (.sl tI)), (.data true tI), (.data true tI)], []⟩
def i_allWithin_o : RSh := ⟨(.data true .bool), []⟩
theorem i_allWithin_ev (n : Nat) (x : TupT i_allWithin_i.tys) : evF ⟨tab, [slices_ContainsFunc_Sint_int_'l_i_allWithin_1pp_e n], n, []⟩ Try.f71 i_allWithin_i i_allWithin_o x = i_allWithin n x.1 x.2.1 x.2.2 := by kernel_rfl
noncomputable def i_allWithin_e (n : Nat) : Ent := ⟨71, i_allWithin_i, i_allWithin_o, fun x => i_allWithin n x.1 x.2.1 x.2.2⟩
theorem i_allWithin_ok (n : Nat) : EntOK Try.prog (i_allWithin_e n) ∧ Own Try.prog 71 := ent_ok tabOK0 (.cons (slices_ContainsFunc_Sint_int_'l_i_allWithin_1pp_ok n) .nil) Try.func71 rfl (by kernel_rfl) (i_allWithin_ev n)
def i_IsCard_i : CSh := ⟨[(.data true (.arr 4 tI))], []⟩
def i_IsCard_o : RSh := ⟨(.data true .bool), []⟩
theorem i_IsCard_ev (n : Nat) (x : TupT i_IsCard_i.tys) : evF ⟨tab, [i_allWithin_e n], n, []⟩ Try.f49 i_IsCard_i i_IsCard_o x = i_IsCard n x := by kernel_rfl
noncomputable def i_IsCard_e (n : Nat) : Ent := ⟨49, i_IsCard_i, i_IsCard_o, fun x => i_IsCard n x⟩
theorem i_IsCard_ok (n : Nat) : EntOK Try.prog (i_IsCard_e n) ∧ Own Try.prog 49 := ent_ok tabOK0 (.cons (i_allWithin_ok n) .nil) Try.func49 rfl (by kernel_rfl) (i_IsCard_ev n)
def i_number_i : CSh := ⟨[(.data true (.arr 4 tI))], []⟩
def i_number_o : RSh := ⟨(.data true tI), []⟩
theorem i_number_ev (n : Nat) (x : TupT i_number_i.tys) : evF ⟨tab, [], n, [(8, ⟨[(3, (.data true tI)), (6, (.data true (.arr 4 tI))), (7, (.data true tI))], [], 0⟩)]⟩ Try.f68 i_number_i i_number_o x = i_number n x := by kernel_rfl
noncomputable def i_number_e (n : Nat) : Ent := ⟨68, i_number_i, i_number_o, fun x => i_number n x⟩
theorem i_number_ok (n : Nat) : EntOK Try.prog (i_number_e n) ∧ Own Try.prog 68 := ent_ok tabOK0 .nil Try.func68 rfl (by kernel_rfl) (i_number_ev n)
def i_IsHand_i : CSh := ⟨[(.data false (.sl (.arr 4 tI)))], []⟩
def i_IsHand_o : RSh := ⟨(.data true .bool), []⟩
theorem i_IsHand_ev (n : Nat) (x : TupT i_IsHand_i.tys) : evF ⟨tab, [i_IsCard_e n, i_number_e n], n, [(6, ⟨[(0, (.data false (.sl (.arr 4 tI)))), (5, (.data false (.sl (.arr 4 tI)))), (6, (.data true tI)), (7, (.data true tI))], [], 0⟩)]⟩ Try.f42 i_IsHand_i i_IsHand_o x = i_IsHand n x := by kernel_rfl
noncomputable def i_IsHand_e (n : Nat) : Ent := ⟨42, i_IsHand_i, i_IsHand_o, fun x => i_IsHand n x⟩
theorem i_IsHand_ok (n : Nat) : EntOK Try.prog (i_IsHand_e n) ∧ Own Try.prog 42 := ent_ok tabOK0 (.cons (i_IsCard_ok n) (.cons (i_number_ok n) .nil)) Try.func42 rfl (by kernel_rfl) (i_IsHand_ev n)
def i_IsMask_i : CSh := ⟨[(.data true tI)], []⟩
def i_IsMask_o : RSh := ⟨(.data true .bool), []⟩
theorem i_IsMask_ev (n : Nat) (x : TupT i_IsMask_i.tys) : evF ⟨tab, [i_within_e n], n, []⟩ Try.f48 i_IsMask_i i_IsMask_o x = i_IsMask n x := by kernel_rfl
noncomputable def i_IsMask_e (n : Nat) : Ent := ⟨48, i_IsMask_i, i_IsMask_o, fun x => i_IsMask n x⟩
theorem i_IsMask_ok (n : Nat) : EntOK Try.prog (i_IsMask_e n) ∧ Own Try.prog 48 := ent_ok tabOK0 (.cons (i_within_ok n) .nil) Try.func48 rfl (by kernel_rfl) (i_IsMask_ev n)
def i_shadow_i : CSh := ⟨[(.data true (.arr 4 tI)), (.data true tI)], []⟩
def i_shadow_o : RSh := ⟨(.data true (.arr 4 tI)), []⟩
theorem i_shadow_ev (n : Nat) (x : TupT i_shadow_i.tys) : evF ⟨tab, [], n, [(6, ⟨[(1, (.data true tI)), (2, (.ptr 0 [])), (4, (.ptr 1 [])), (6, (.data true tI))], [.var 36 (.data true (.arr 4 tI)), .var 36 (.data true (.arr 4 tI))], 0⟩)]⟩ Try.f72 i_shadow_i i_shadow_o x = i_shadow n x.1 x.2 := by kernel_rfl
noncomputable def i_shadow_e (n : Nat) : Ent := ⟨72, i_shadow_i, i_shadow_o, fun x => i_shadow n x.1 x.2⟩
theorem i_shadow_ok (n : Nat) : EntOK Try.prog (i_shadow_e n) ∧ Own Try.prog 72 := ent_ok tabOK0 .nil Try.func72 rfl (by kernel_rfl) (i_shadow_ev n)
def i_shadows_i : CSh := ⟨[(.data false (.sl (.arr 4 tI))), (.data true tI)], []⟩
def i_shadows_o : RSh := ⟨(.own 0), [.rows 36 true (.arr 4 tI)]⟩
theorem i_shadows_ev (n : Nat) (x : TupT i_shadows_i.tys) : evF ⟨tab, [i_shadow_e n], n, [(8, ⟨[(1, (.data true tI)), (5, (.own 0)), (9, (.data false (.sl (.arr 4 tI)))), (10, (.data true tI)), (11, (.data true tI))], [.rows 36 true (.arr 4 tI)], 0⟩)]⟩ Try.f50 i_shadows_i i_shadows_o x = i_shadows n x.1 x.2 := by kernel_rfl
noncomputable def i_shadows_e (n : Nat) : Ent := ⟨50, i_shadows_i, i_shadows_o, fun x => i_shadows n x.1 x.2⟩
theorem i_shadows_ok (n : Nat) : EntOK Try.prog (i_shadows_e n) ∧ Own Try.prog 50 := ent_ok tabOK0 (.cons (i_shadow_ok n) .nil) Try.func50 rfl (by kernel_rfl) (i_shadows_ev n)
def i_third_i : CSh := ⟨[(.data true (.arr 4 tI)), (.data true (.arr 4 tI))], []⟩
def i_third_o : RSh := ⟨(.data true (.arr 4 tI)), []⟩
theorem i_third_ev (n : Nat) (x : TupT i_third_i.tys) : evF ⟨tab, [], n, [(8, ⟨[(2, (.ptr 0 [])), (3, (.ptr 1 [])), (4, (.ptr 2 [])), (5, (.ptr 3 [])), (8, (.data true tI))], [.var 36 (.data true (.arr 4 tI)), .var 36 (.data true (.arr 4 tI)), .var 36 (.data true (.arr 4 tI)), .var 36 (.data true (.arr 4 tI))], 0⟩)]⟩ Try.f79 i_third_i i_third_o x = i_third n x.1 x.2 := by kernel_rfl
noncomputable def i_third_e (n : Nat) : Ent := ⟨79, i_third_i, i_third_o, fun x => i_third n x.1 x.2⟩
theorem i_third_ok (n : Nat) : EntOK Try.prog (i_third_e n) ∧ Own Try.prog 79 := ent_ok tabOK0 .nil Try.func79 rfl (by kernel_rfl) (i_third_ev n)
def i_isLine_i : CSh := ⟨[(.data true (.arr 4 tI)), (.data true (.arr 4 tI)), (.data true (.arr 4 tI))], []⟩
def i_isLine_o : RSh := ⟨(.data true .bool), []⟩
theorem i_isLine_ev (n : Nat) (x : TupT i_isLine_i.tys) : evF ⟨tab, [i_third_e n], n, []⟩ Try.f64 i_isLine_i i_isLine_o x = i_isLine n x.1 x.2.1 x.2.2 := by kernel_rfl
noncomputable def i_isLine_e (n : Nat) : Ent := ⟨64, i_isLine_i, i_isLine_o, fun x => i_isLine n x.1 x.2.1 x.2.2⟩
theorem i_isLine_ok (n : Nat) : EntOK Try.prog (i_isLine_e n) ∧ Own Try.prog 64 := ent_ok tabOK0 (.cons (i_third_ok n) .nil) Try.func64 rfl (by kernel_rfl) (i_isLine_ev n)
def i_ShadowLines_1'lpp_o_i : CSh := ⟨[(.data false (.sl tI)), (.ptr 0 []), (.ptr 1 [])], [.var 22 (.own 2), .var 3 (.data true tI), .rows 36 true (.arr 4 tI)]⟩
def i_ShadowLines_1'lpp_o_o : RSh := ⟨.tnil, [.var 22 (.own 2), .var 3 (.data true tI), .rows 36 true (.arr 4 tI)]⟩
theorem i_ShadowLines_1'lpp_o_ev (n : Nat) (x : TupT i_ShadowLines_1'lpp_o_i.tys) : evF ⟨tab, [i_isLine_e n], n, []⟩ Try.f63 i_ShadowLines_1'lpp_o_i i_ShadowLines_1'lpp_o_o x = i_ShadowLines_1'lpp_o n x.1 x.2.1 x.2.2 := by kernel_rfl
noncomputable def i_ShadowLines_1'lpp_o_e (n : Nat) : Ent := ⟨63, i_ShadowLines_1'lpp_o_i, i_ShadowLines_1'lpp_o_o, fun x => i_ShadowLines_1'lpp_o n x.1 x.2.1 x.2.2⟩
theorem i_ShadowLines_1'lpp_o_ok (n : Nat) : EntOK Try.prog (i_ShadowLines_1'lpp_o_e n) ∧ Own Try.prog 63 := ent_ok tabOK0 (.cons (i_isLine_ok n) .nil) Try.func63 rfl (by kernel_rfl) (i_ShadowLines_1'lpp_o_ev n)
def i_choices'l_i_ShadowLines_1pp_o_i : CSh := ⟨[(.data false (.sl tI)), (.data true tI), (.data true tI), (.clo 63 (.tcons (.ptr 0 []) (.tcons (.ptr 1 []) .tnil)))], [.var 22 (.own 2), .var 3 (.data true tI), .rows 36 true (.arr 4 tI)]⟩
def i_choices'l_i_ShadowLines_1pp_o_o : RSh := ⟨.tnil, [.var 22 (.own 2), .var 3 (.data true tI), .rows 36 true (.arr 4 tI)]⟩
theorem i_choices'l_i_ShadowLines_1pp_o_ev (n : Nat) (go : TupT i_choices'l_i_ShadowLines_1pp_o_i.tys → Option (TupT i_choices'l_i_ShadowLines_1pp_o_o.tys)) (x : TupT i_choices'l_i_ShadowLines_1pp_o_i.tys) : evF ⟨tab, [⟨62, i_choices'l_i_ShadowLines_1pp_o_i, i_choices'l_i_ShadowLines_1pp_o_o, go⟩, i_ShadowLines_1'lpp_o_e n], n, [(10, ⟨[(0, (.data false (.sl tI))), (1, (.data true tI)), (2, (.data true tI)), (3, (.clo 63 (.tcons (.ptr 0 []) (.tcons (.ptr 1 []) .tnil)))), (8, (.data true tI))], [.var 22 (.own 2), .var 3 (.data true tI), .rows 36 true (.arr 4 tI)], 3⟩), (19, ⟨[(0, (.data false (.sl tI))), (1, (.data true tI)), (2, (.data true tI)), (3, (.clo 63 (.tcons (.ptr 0 []) (.tcons (.ptr 1 []) .tnil)))), (9, (.data true tI))], [.var 22 (.own 2), .var 3 (.data true tI), .rows 36 true (.arr 4 tI)], 3⟩)]⟩ Try.f62 i_choices'l_i_ShadowLines_1pp_o_i i_choices'l_i_ShadowLines_1pp_o_o x = i_choices'l_i_ShadowLines_1pp_o_R n go x := by kernel_rfl
noncomputable def i_choices'l_i_ShadowLines_1pp_o_e (n : Nat) : Ent := ⟨62, i_choices'l_i_ShadowLines_1pp_o_i, i_choices'l_i_ShadowLines_1pp_o_o, fun x => i_choices'l_i_ShadowLines_1pp_o n x.1 x.2.1 x.2.2.1 x.2.2.2.1 x.2.2.2.2⟩
theorem i_choices'l_i_ShadowLines_1pp_o_ok (n : Nat) : EntOK Try.prog (i_choices'l_i_ShadowLines_1pp_o_e n) ∧ Own Try.prog 62 := ent_rec tabOK0 (.cons (i_ShadowLines_1'lpp_o_ok n) .nil) Try.func62 rfl (by kernel_rfl) (i_choices'l_i_ShadowLines_1pp_o_ev n) n
def i_ShadowLines_i : CSh := ⟨[(.data false (.sl (.arr 4 tI))), (.data true tI)], []⟩
def i_ShadowLines_o : RSh := ⟨(.tcons (.data true tI) (.tcons (.data true .bool) .tnil)), []⟩
theorem i_ShadowLines_ev (n : Nat) (x : TupT i_ShadowLines_i.tys) : evF ⟨tab, [i_IsHand_e n, i_IsMask_e n, i_shadows_e n, i_choices'l_i_ShadowLines_1pp_o_e n], n, []⟩ Try.f36 i_ShadowLines_i i_ShadowLines_o x = i_ShadowLines n x.1 x.2 := by kernel_rfl
noncomputable def i_ShadowLines_e (n : Nat) : Ent := ⟨36, i_ShadowLines_i, i_ShadowLines_o, fun x => i_ShadowLines n x.1 x.2⟩
theorem i_ShadowLines_ok (n : Nat) : EntOK Try.prog (i_ShadowLines_e n) ∧ Own Try.prog 36 := ent_ok tabOK0 (.cons (i_IsHand_ok n) (.cons (i_IsMask_ok n) (.cons (i_shadows_ok n) (.cons (i_choices'l_i_ShadowLines_1pp_o_ok n) .nil)))) Try.func36 rfl (by kernel_rfl) (i_ShadowLines_ev n)
def v_eqIntA4_i : CSh := ⟨[(.data true (.arr 4 tI)), (.data true (.arr 4 tI))], []⟩
def v_eqIntA4_o : RSh := ⟨(.data true .bool), []⟩
theorem v_eqIntA4_ev (n : Nat) (x : TupT v_eqIntA4_i.tys) : evF ⟨tab, [], n, [(6, ⟨[(2, (.ptr 0 [])), (3, (.ptr 1 [])), (5, (.data true tI))], [.var 36 (.data true (.arr 4 tI)), .var 36 (.data true (.arr 4 tI))], 0⟩)]⟩ Try.f29 v_eqIntA4_i v_eqIntA4_o x = v_eqIntA4 n x.1 x.2 := by kernel_rfl
noncomputable def v_eqIntA4_e (n : Nat) : Ent := ⟨29, v_eqIntA4_i, v_eqIntA4_o, fun x => v_eqIntA4 n x.1 x.2⟩
theorem v_eqIntA4_ok (n : Nat) : EntOK Try.prog (v_eqIntA4_e n) ∧ Own Try.prog 29 := ent_ok tabOK0 .nil Try.func29 rfl (by kernel_rfl) (v_eqIntA4_ev n)
def v_eqIntA4S_i : CSh := ⟨[(.data false (.sl (.arr 4 tI))), (.data false (.sl (.arr 4 tI)))], []⟩
def v_eqIntA4S_o : RSh := ⟨(.data true .bool), []⟩
theorem v_eqIntA4S_ev (n : Nat) (x : TupT v_eqIntA4S_i.tys) : evF ⟨tab, [v_eqIntA4_e n], n, [(14, ⟨[(0, (.data false (.sl (.arr 4 tI)))), (1, (.data false (.sl (.arr 4 tI)))), (5, (.data true tI))], [], 0⟩)]⟩ Try.f14 v_eqIntA4S_i v_eqIntA4S_o x = v_eqIntA4S n x.1 x.2 := by kernel_rfl
noncomputable def v_eqIntA4S_e (n : Nat) : Ent := ⟨14, v_eqIntA4S_i, v_eqIntA4S_o, fun x => v_eqIntA4S n x.1 x.2⟩
theorem v_eqIntA4S_ok (n : Nat) : EntOK Try.prog (v_eqIntA4S_e n) ∧ Own Try.prog 14 := ent_ok tabOK0 (.cons (v_eqIntA4_ok n) .nil) Try.func14 rfl (by kernel_rfl) (v_eqIntA4S_ev n)
def v_FnExactShadowLines_i : CSh := ⟨[(.data false (.sl (.arr 4 tI))), (.data true tI)], []⟩
def v_FnExactShadowLines_o : RSh := ⟨(.data true .bool), []⟩
theorem v_FnExactShadowLines_ev (n : Nat) (x : TupT v_FnExactShadowLines_i.tys) : evF ⟨tab, [v_szIntA4S_e n, v_toIntA4S_e n, s_ShadowLines_e n, i_ShadowLines_e n, v_eqIntA4S_e n], n, []⟩ Try.f9 v_FnExactShadowLines_i v_FnExactShadowLines_o x = v_FnExactShadowLines n x.1 x.2 := by kernel_rfl
noncomputable def v_FnExactShadowLines_e (n : Nat) : Ent := ⟨9, v_FnExactShadowLines_i, v_FnExactShadowLines_o, fun x => v_FnExactShadowLines n x.1 x.2⟩
theorem v_FnExactShadowLines_ok (n : Nat) : EntOK Try.prog (v_FnExactShadowLines_e n) ∧ Own Try.prog 9 := ent_ok tabOK0 (.cons (v_szIntA4S_ok n) (.cons (v_toIntA4S_ok n) (.cons (s_ShadowLines_ok n) (.cons (i_ShadowLines_ok n) (.cons (v_eqIntA4S_ok n) .nil))))) Try.func9 rfl (by kernel_rfl) (v_FnExactShadowLines_ev n)
end Go.Proofs.Ytleaogcnndhdgaa
