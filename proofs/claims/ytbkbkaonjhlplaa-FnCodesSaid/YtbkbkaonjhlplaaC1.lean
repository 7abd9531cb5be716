/- Printed by a program of the session: the contracts of the seat's functions. -/
import Derived.Test.YtbkbkaonjhlplaaZ7
import Derived.Test.YtbkbkaonjhlplaaPL
import Derived.Test.YtbkbkaonjhlplaaRows
import Derived.KernelRfl
namespace Go.Proofs.Ytbkbkaonjhlplaa
open Go Go.Tv Go.Pl Go.RowKit
set_option linter.unusedVariables false
abbrev tI : Ty := .int .i64
def tab : Tab := ⟨[(2, ⟨tI, 0, 8⟩), (3, ⟨tI, 0, 8⟩), (4, ⟨.bool, 0, 1⟩), (5, ⟨(.int .u8), 0, 1⟩), (6, ⟨(.int .u8), 0, 1⟩), (7, ⟨(.pair tI (.pair tI (.pair .bool (.int .u8)))), 4, 24⟩), (8, ⟨(.pair tI (.pair tI (.pair .bool (.int .u8)))), 4, 24⟩), (9, ⟨.str, 0, 16⟩), (10, ⟨.str, 0, 16⟩), (11, ⟨.str, 0, 16⟩), (12, ⟨(.int .u64), 0, 8⟩), (13, ⟨(.pair .str (.int .u64)), 2, 24⟩), (14, ⟨(.pair .str (.int .u64)), 2, 24⟩), (21, ⟨(.int .i32), 0, 4⟩), (22, ⟨(.sl (.int .u8)), 5, 1⟩), (24, ⟨(.arr 4 tI), 3, 8⟩), (31, ⟨(.sl (.arr 4 tI)), 24, 32⟩), (34, ⟨(.sl tI), 3, 8⟩), (58, ⟨(.arr 3 tI), 3, 8⟩), (70, ⟨(.arr 9 (.arr 4 tI)), 24, 32⟩), (80, ⟨(.pair tI (.pair tI (.sl (.arr 4 tI)))), 3, 40⟩), (81, ⟨(.pair tI (.pair tI (.sl (.arr 4 tI)))), 3, 40⟩), (90, ⟨(.sl (.arr 3 tI)), 58, 24⟩), (93, ⟨(.sl (.arr 2 tI)), 99, 16⟩), (99, ⟨(.arr 2 tI), 3, 8⟩), (111, ⟨(.int .u64), 0, 8⟩), (112, ⟨(.pair (.sl (.int .u8)) (.pair tI (.int .u64))), 3, 40⟩), (113, ⟨(.pair (.sl (.int .u8)) (.pair tI (.int .u64))), 3, 40⟩), (132, ⟨(.arr 81 .bool), 4, 1⟩), (135, ⟨(.arr 5 tI), 3, 8⟩), (147, ⟨(.arr 4 (.arr 4 tI)), 24, 32⟩), (155, ⟨(.arr 81 tI), 3, 8⟩), (167, ⟨(.int .u64), 0, 8⟩), (173, ⟨tI, 0, 8⟩), (180, ⟨(.int .u32), 0, 4⟩), (182, ⟨(.sl (.sl (.arr 4 tI))), 31, 24⟩), (183, ⟨(.int .u64), 0, 8⟩), (198, ⟨(.int .u8), 0, 1⟩), (199, ⟨(.int .u8), 0, 1⟩), (202, ⟨(.int .i32), 0, 4⟩), (203, ⟨(.int .i32), 0, 4⟩)], [7, 8, 24, 58, 70, 99, 132, 135, 147, 155], [1, 23, 25, 27, 28, 30, 32, 33, 35, 37, 38, 40, 41, 43, 45, 46, 48, 49, 50, 51, 53, 54, 55, 57, 60, 62, 63, 65, 66, 68, 69, 72, 73, 74, 75, 76, 78, 79, 83, 84, 86, 87, 88, 89, 92, 95, 96, 97, 98, 101, 102, 103, 104, 106, 107, 108, 109, 114, 115, 116, 117, 118, 119, 120, 121, 122, 123, 124, 125, 126, 127, 128, 129, 130, 131, 133, 134, 136, 137, 138, 139, 140, 141, 142, 143, 144, 145, 146, 148, 149, 150, 151, 152, 153, 154, 156, 157, 158, 159, 160, 161, 162, 163, 164, 165, 166, 168, 169, 170, 171, 172, 175, 176, 177, 178, 179, 181, 184, 185, 186, 188, 191, 192, 200]⟩
theorem tabOK0 : TabOK Try.prog tab := ⟨by kernel_rfl, by kernel_rfl⟩
def v_rBig_i : CSh := ⟨[(.data false (.sl (.int .u8)))], []⟩
def v_rBig_o : RSh := ⟨(.data true .bool), []⟩
theorem v_rBig_ev (n : Nat) (x : TupT v_rBig_i.tys) : evF ⟨tab, [], n, []⟩ Try.f10 v_rBig_i v_rBig_o x = v_rBig n x := by kernel_rfl
noncomputable def v_rBig_e (n : Nat) : Ent := ⟨10, v_rBig_i, v_rBig_o, fun x => v_rBig n x⟩
theorem v_rBig_ok (n : Nat) : EntOK Try.prog (v_rBig_e n) ∧ Own Try.prog 10 := ent_ok tabOK0 .nil Try.func10 rfl (by kernel_rfl) (v_rBig_ev n)
def s_Cur_next'p_i : CSh := ⟨[(.ptr 0 [])], [.var 113 (.data true (.pair (.sl (.int .u8)) (.pair tI (.int .u64))))]⟩
def s_Cur_next'p_o : RSh := ⟨(.data true tI), [.var 113 (.data true (.pair (.sl (.int .u8)) (.pair tI (.int .u64))))]⟩
theorem s_Cur_next'p_ev (n : Nat) (x : TupT s_Cur_next'p_i.tys) : evF ⟨tab, [], n, [(4, ⟨[(0, (.ptr 0 [])), (3, (.data true tI))], [.var 113 (.data true (.pair (.sl (.int .u8)) (.pair tI (.int .u64))))], 1⟩)]⟩ Try.f217 s_Cur_next'p_i s_Cur_next'p_o x = s_Cur_next'p n x := by kernel_rfl
noncomputable def s_Cur_next'p_e (n : Nat) : Ent := ⟨217, s_Cur_next'p_i, s_Cur_next'p_o, fun x => s_Cur_next'p n x⟩
theorem s_Cur_next'p_ok (n : Nat) : EntOK Try.prog (s_Cur_next'p_e n) ∧ Own Try.prog 217 := ent_ok tabOK0 .nil Try.func217 rfl (by kernel_rfl) (s_Cur_next'p_ev n)
def s_Cur_pick'p_i : CSh := ⟨[(.ptr 0 []), (.data true tI)], [.var 113 (.data true (.pair (.sl (.int .u8)) (.pair tI (.int .u64))))]⟩
def s_Cur_pick'p_o : RSh := ⟨(.data true tI), [.var 113 (.data true (.pair (.sl (.int .u8)) (.pair tI (.int .u64))))]⟩
theorem s_Cur_pick'p_ev (n : Nat) (x : TupT s_Cur_pick'p_i.tys) : evF ⟨tab, [s_Cur_next'p_e n], n, []⟩ Try.f131 s_Cur_pick'p_i s_Cur_pick'p_o x = s_Cur_pick'p n x.1 x.2 := by kernel_rfl
noncomputable def s_Cur_pick'p_e (n : Nat) : Ent := ⟨131, s_Cur_pick'p_i, s_Cur_pick'p_o, fun x => s_Cur_pick'p n x.1 x.2⟩
theorem s_Cur_pick'p_ok (n : Nat) : EntOK Try.prog (s_Cur_pick'p_e n) ∧ Own Try.prog 131 := ent_ok tabOK0 (.cons (s_Cur_next'p_ok n) .nil) Try.func131 rfl (by kernel_rfl) (s_Cur_pick'p_ev n)
def s_Cur_one'p_i : CSh := ⟨[(.ptr 0 []), (.data true tI)], [.var 113 (.data true (.pair (.sl (.int .u8)) (.pair tI (.int .u64))))]⟩
def s_Cur_one'p_o : RSh := ⟨(.data true .bool), [.var 113 (.data true (.pair (.sl (.int .u8)) (.pair tI (.int .u64))))]⟩
theorem s_Cur_one'p_ev (n : Nat) (x : TupT s_Cur_one'p_i.tys) : evF ⟨tab, [s_Cur_pick'p_e n], n, []⟩ Try.f132 s_Cur_one'p_i s_Cur_one'p_o x = s_Cur_one'p n x.1 x.2 := by kernel_rfl
noncomputable def s_Cur_one'p_e (n : Nat) : Ent := ⟨132, s_Cur_one'p_i, s_Cur_one'p_o, fun x => s_Cur_one'p n x.1 x.2⟩
theorem s_Cur_one'p_ok (n : Nat) : EntOK Try.prog (s_Cur_one'p_e n) ∧ Own Try.prog 132 := ent_ok tabOK0 (.cons (s_Cur_pick'p_ok n) .nil) Try.func132 rfl (by kernel_rfl) (s_Cur_one'p_ev n)
def s_l11Word_i : CSh := ⟨[(.data true tI), (.data true tI)], []⟩
def s_l11Word_o : RSh := ⟨(.data true (.arr 4 tI)), []⟩
theorem s_l11Word_ev (n : Nat) (x : TupT s_l11Word_i.tys) : evF ⟨tab, [], n, []⟩ Try.f127 s_l11Word_i s_l11Word_o x = s_l11Word n x.1 x.2 := by kernel_rfl
noncomputable def s_l11Word_e (n : Nat) : Ent := ⟨127, s_l11Word_i, s_l11Word_o, fun x => s_l11Word n x.1 x.2⟩
theorem s_l11Word_ok (n : Nat) : EntOK Try.prog (s_l11Word_e n) ∧ Own Try.prog 127 := ent_ok tabOK0 .nil Try.func127 rfl (by kernel_rfl) (s_l11Word_ev n)
def s_l2At_i : CSh := ⟨[(.data true tI)], []⟩
def s_l2At_o : RSh := ⟨(.data true (.arr 4 tI)), []⟩
theorem s_l2At_ev (n : Nat) (x : TupT s_l2At_i.tys) : evF ⟨tab, [], n, []⟩ Try.f143 s_l2At_i s_l2At_o x = s_l2At n x := by kernel_rfl
noncomputable def s_l2At_e (n : Nat) : Ent := ⟨143, s_l2At_i, s_l2At_o, fun x => s_l2At n x⟩
theorem s_l2At_ok (n : Nat) : EntOK Try.prog (s_l2At_e n) ∧ Own Try.prog 143 := ent_ok tabOK0 .nil Try.func143 rfl (by kernel_rfl) (s_l2At_ev n)
def s_Cur_among'pl_i : CSh := ⟨[(.ptr 0 []), (.data false (.sl tI))], [.var 113 (.data true (.pair (.sl (.int .u8)) (.pair tI (.int .u64))))]⟩
def s_Cur_among'pl_o : RSh := ⟨(.data true tI), [.var 113 (.data true (.pair (.sl (.int .u8)) (.pair tI (.int .u64))))]⟩
theorem s_Cur_among'pl_ev (n : Nat) (x : TupT s_Cur_among'pl_i.tys) : evF ⟨tab, [s_Cur_pick'p_e n], n, []⟩ Try.f130 s_Cur_among'pl_i s_Cur_among'pl_o x = s_Cur_among'pl n x.1 x.2 := by kernel_rfl
noncomputable def s_Cur_among'pl_e (n : Nat) : Ent := ⟨130, s_Cur_among'pl_i, s_Cur_among'pl_o, fun x => s_Cur_among'pl n x.1 x.2⟩
theorem s_Cur_among'pl_ok (n : Nat) : EntOK Try.prog (s_Cur_among'pl_e n) ∧ Own Try.prog 130 := ent_ok tabOK0 (.cons (s_Cur_pick'p_ok n) .nil) Try.func130 rfl (by kernel_rfl) (s_Cur_among'pl_ev n)
def s_Cur_card'p_i : CSh := ⟨[(.ptr 0 [])], [.var 113 (.data true (.pair (.sl (.int .u8)) (.pair tI (.int .u64))))]⟩
def s_Cur_card'p_o : RSh := ⟨(.data true (.arr 4 tI)), [.var 113 (.data true (.pair (.sl (.int .u8)) (.pair tI (.int .u64))))]⟩
theorem s_Cur_card'p_ev (n : Nat) (x : TupT s_Cur_card'p_i.tys) : evF ⟨tab, [s_Cur_pick'p_e n, s_l2At_e n, s_Cur_one'p_e n, s_Cur_among'pl_e n], n, []⟩ Try.f163 s_Cur_card'p_i s_Cur_card'p_o x = s_Cur_card'p n x := by kernel_rfl
noncomputable def s_Cur_card'p_e (n : Nat) : Ent := ⟨163, s_Cur_card'p_i, s_Cur_card'p_o, fun x => s_Cur_card'p n x⟩
theorem s_Cur_card'p_ok (n : Nat) : EntOK Try.prog (s_Cur_card'p_e n) ∧ Own Try.prog 163 := ent_ok tabOK0 (.cons (s_Cur_pick'p_ok n) (.cons (s_l2At_ok n) (.cons (s_Cur_one'p_ok n) (.cons (s_Cur_among'pl_ok n) .nil)))) Try.func163 rfl (by kernel_rfl) (s_Cur_card'p_ev n)
def s_DrawIsCodeword_i : CSh := ⟨[(.data false (.sl (.int .u8)))], []⟩
def s_DrawIsCodeword_o : RSh := ⟨(.data true (.arr 4 tI)), []⟩
theorem s_DrawIsCodeword_ev (n : Nat) (x : TupT s_DrawIsCodeword_i.tys) : evF ⟨tab, [s_Cur_one'p_e n, s_Cur_pick'p_e n, s_l11Word_e n, s_Cur_card'p_e n], n, []⟩ Try.f121 s_DrawIsCodeword_i s_DrawIsCodeword_o x = s_DrawIsCodeword n x := by kernel_rfl
noncomputable def s_DrawIsCodeword_e (n : Nat) : Ent := ⟨121, s_DrawIsCodeword_i, s_DrawIsCodeword_o, fun x => s_DrawIsCodeword n x⟩
theorem s_DrawIsCodeword_ok (n : Nat) : EntOK Try.prog (s_DrawIsCodeword_e n) ∧ Own Try.prog 121 := ent_ok tabOK0 (.cons (s_Cur_one'p_ok n) (.cons (s_Cur_pick'p_ok n) (.cons (s_l11Word_ok n) (.cons (s_Cur_card'p_ok n) .nil)))) Try.func121 rfl (by kernel_rfl) (s_DrawIsCodeword_ev n)
def s_DrawNearestCodeword_i : CSh := ⟨[(.data false (.sl (.int .u8)))], []⟩
def s_DrawNearestCodeword_o : RSh := ⟨(.data true (.arr 4 tI)), []⟩
theorem s_DrawNearestCodeword_ev (n : Nat) (x : TupT s_DrawNearestCodeword_i.tys) : evF ⟨tab, [s_DrawIsCodeword_e n], n, []⟩ Try.f11 s_DrawNearestCodeword_i s_DrawNearestCodeword_o x = s_DrawNearestCodeword n x := by kernel_rfl
noncomputable def s_DrawNearestCodeword_e (n : Nat) : Ent := ⟨11, s_DrawNearestCodeword_i, s_DrawNearestCodeword_o, fun x => s_DrawNearestCodeword n x⟩
theorem s_DrawNearestCodeword_ok (n : Nat) : EntOK Try.prog (s_DrawNearestCodeword_e n) ∧ Own Try.prog 11 := ent_ok tabOK0 (.cons (s_DrawIsCodeword_ok n) .nil) Try.func11 rfl (by kernel_rfl) (s_DrawNearestCodeword_ev n)
def i_within_i : CSh := ⟨[(.data true tI), (.data true tI), (.data true tI)], []⟩
def i_within_o : RSh := ⟨(.data true .bool), []⟩
theorem i_within_ev (n : Nat) (x : TupT i_within_i.tys) : evF ⟨tab, [], n, []⟩ Try.f153 i_within_i i_within_o x = i_within n x.1 x.2.1 x.2.2 := by kernel_rfl
noncomputable def i_within_e (n : Nat) : Ent := ⟨153, i_within_i, i_within_o, fun x => i_within n x.1 x.2.1 x.2.2⟩
theorem i_within_ok (n : Nat) : EntOK Try.prog (i_within_e n) ∧ Own Try.prog 153 := ent_ok tabOK0 .nil Try.func153 rfl (by kernel_rfl) (i_within_ev n)
def i_allWithin_1'pp_i : CSh := ⟨[(.data true tI), (.ptr 0 []), (.ptr 1 [])], [.var 3 (.data true tI), .var 3 (.data true tI)]⟩
def i_allWithin_1'pp_o : RSh := ⟨(.data true .bool), [.var 3 (.data true tI), .var 3 (.data true tI)]⟩
theorem i_allWithin_1'pp_ev (n : Nat) (x : TupT i_allWithin_1'pp_i.tys) : evF ⟨tab, [i_within_e n], n, []⟩ Try.f215 i_allWithin_1'pp_i i_allWithin_1'pp_o x = i_allWithin_1'pp n x.1 x.2.1 x.2.2 := by kernel_rfl
noncomputable def i_allWithin_1'pp_e (n : Nat) : Ent := ⟨215, i_allWithin_1'pp_i, i_allWithin_1'pp_o, fun x => i_allWithin_1'pp n x.1 x.2.1 x.2.2⟩
theorem i_allWithin_1'pp_ok (n : Nat) : EntOK Try.prog (i_allWithin_1'pp_e n) ∧ Own Try.prog 215 := ent_ok tabOK0 (.cons (i_within_ok n) .nil) Try.func215 rfl (by kernel_rfl) (i_allWithin_1'pp_ev n)
def slices_IndexFunc_Sint_int_'l_i_allWithin_1pp_i : CSh := ⟨[(.data false (.sl tI)), (.clo 215 (.tcons (.ptr 0 []) (.tcons (.ptr 1 []) .tnil)))], [.var 3 (.data true tI), .var 3 (.data true tI)]⟩
def slices_IndexFunc_Sint_int_'l_i_allWithin_1pp_o : RSh := ⟨(.data true tI), [.var 3 (.data true tI), .var 3 (.data true tI)]⟩
theorem slices_IndexFunc_Sint_int_'l_i_allWithin_1pp_ev (n : Nat) (x : TupT slices_IndexFunc_Sint_int_'l_i_allWithin_1pp_i.tys) : evF ⟨tab, [i_allWithin_1'pp_e n], n, [(6, ⟨[(0, (.data false (.sl tI))), (1, (.clo 215 (.tcons (.ptr 0 []) (.tcons (.ptr 1 []) .tnil)))), (7, (.data true tI)), (8, (.data true tI))], [.var 3 (.data true tI), .var 3 (.data true tI)], 2⟩)]⟩ Try.f235 slices_IndexFunc_Sint_int_'l_i_allWithin_1pp_i slices_IndexFunc_Sint_int_'l_i_allWithin_1pp_o x = slices_IndexFunc_Sint_int_'l_i_allWithin_1pp n x.1 x.2.1 x.2.2 := by kernel_rfl
noncomputable def slices_IndexFunc_Sint_int_'l_i_allWithin_1pp_e (n : Nat) : Ent := ⟨235, slices_IndexFunc_Sint_int_'l_i_allWithin_1pp_i, slices_IndexFunc_Sint_int_'l_i_allWithin_1pp_o, fun x => slices_IndexFunc_Sint_int_'l_i_allWithin_1pp n x.1 x.2.1 x.2.2⟩
theorem slices_IndexFunc_Sint_int_'l_i_allWithin_1pp_ok (n : Nat) : EntOK Try.prog (slices_IndexFunc_Sint_int_'l_i_allWithin_1pp_e n) ∧ Own Try.prog 235 := ent_ok tabOK0 (.cons (i_allWithin_1'pp_ok n) .nil) Try.func235 rfl (by kernel_rfl) (slices_IndexFunc_Sint_int_'l_i_allWithin_1pp_ev n)
def slices_ContainsFunc_Sint_int_'l_i_allWithin_1pp_i : CSh := ⟨[(.data false (.sl tI)), (.clo 215 (.tcons (.ptr 0 []) (.tcons (.ptr 1 []) .tnil)))], [.var 3 (.data true tI), .var 3 (.data true tI)]⟩
def slices_ContainsFunc_Sint_int_'l_i_allWithin_1pp_o : RSh := ⟨(.data true .bool), [.var 3 (.data true tI), .var 3 (.data true tI)]⟩
theorem slices_ContainsFunc_Sint_int_'l_i_allWithin_1pp_ev (n : Nat) (x : TupT slices_ContainsFunc_Sint_int_'l_i_allWithin_1pp_i.tys) : evF ⟨tab, [slices_IndexFunc_Sint_int_'l_i_allWithin_1pp_e n], n, []⟩ Try.f214 slices_ContainsFunc_Sint_int_'l_i_allWithin_1pp_i slices_ContainsFunc_Sint_int_'l_i_allWithin_1pp_o x = slices_ContainsFunc_Sint_int_'l_i_allWithin_1pp n x.1 x.2.1 x.2.2 := by kernel_rfl
noncomputable def slices_ContainsFunc_Sint_int_'l_i_allWithin_1pp_e (n : Nat) : Ent := ⟨214, slices_ContainsFunc_Sint_int_'l_i_allWithin_1pp_i, slices_ContainsFunc_Sint_int_'l_i_allWithin_1pp_o, fun x => slices_ContainsFunc_Sint_int_'l_i_allWithin_1pp n x.1 x.2.1 x.2.2⟩
theorem slices_ContainsFunc_Sint_int_'l_i_allWithin_1pp_ok (n : Nat) : EntOK Try.prog (slices_ContainsFunc_Sint_int_'l_i_allWithin_1pp_e n) ∧ Own Try.prog 214 := ent_ok tabOK0 (.cons (slices_IndexFunc_Sint_int_'l_i_allWithin_1pp_ok n) .nil) Try.func214 rfl (by kernel_rfl) (slices_ContainsFunc_Sint_int_'l_i_allWithin_1pp_ev n)
def i_allWithin_i : CSh := ⟨[(.data false (.sl tI)), (.data true tI), (.data true tI)], []⟩
def i_allWithin_o : RSh := ⟨(.data true .bool), []⟩
theorem i_allWithin_ev (n : Nat) (x : TupT i_allWithin_i.tys) : evF ⟨tab, [slices_ContainsFunc_Sint_int_'l_i_allWithin_1pp_e n], n, []⟩ Try.f125 i_allWithin_i i_allWithin_o x = i_allWithin n x.1 x.2.1 x.2.2 := by kernel_rfl
noncomputable def i_allWithin_e (n : Nat) : Ent := ⟨125, i_allWithin_i, i_allWithin_o, fun x => i_allWithin n x.1 x.2.1 x.2.2⟩
theorem i_allWithin_ok (n : Nat) : EntOK Try.prog (i_allWithin_e n) ∧ Own Try.prog 125 := ent_ok tabOK0 (.cons (slices_ContainsFunc_Sint_int_'l_i_allWithin_1pp_ok n) .nil) Try.func125 rfl (by kernel_rfl) (i_allWithin_ev n)
def i_IsCard_i : CSh := ⟨[(.data true (.arr 4 tI))], []⟩
def i_IsCard_o : RSh := ⟨(.data true .bool), []⟩
theorem i_IsCard_ev (n : Nat) (x : TupT i_IsCard_i.tys) : evF ⟨tab, [i_allWithin_e n], n, []⟩ Try.f14 i_IsCard_i i_IsCard_o x = i_IsCard n x := by kernel_rfl
noncomputable def i_IsCard_e (n : Nat) : Ent := ⟨14, i_IsCard_i, i_IsCard_o, fun x => i_IsCard n x⟩
theorem i_IsCard_ok (n : Nat) : EntOK Try.prog (i_IsCard_e n) ∧ Own Try.prog 14 := ent_ok tabOK0 (.cons (i_allWithin_ok n) .nil) Try.func14 rfl (by kernel_rfl) (i_IsCard_ev n)
def i_codeword_i : CSh := ⟨[(.data true tI), (.data true tI)], []⟩
def i_codeword_o : RSh := ⟨(.data true (.arr 4 tI)), []⟩
theorem i_codeword_ev (n : Nat) (x : TupT i_codeword_i.tys) : evF ⟨tab, [], n, []⟩ Try.f126 i_codeword_i i_codeword_o x = i_codeword n x.1 x.2 := by kernel_rfl
noncomputable def i_codeword_e (n : Nat) : Ent := ⟨126, i_codeword_i, i_codeword_o, fun x => i_codeword n x.1 x.2⟩
theorem i_codeword_ok (n : Nat) : EntOK Try.prog (i_codeword_e n) ∧ Own Try.prog 126 := ent_ok tabOK0 .nil Try.func126 rfl (by kernel_rfl) (i_codeword_ev n)
def slices_Clone_SA4_A4__i : CSh := ⟨[(.data false (.sl (.arr 4 tI)))], []⟩
def slices_Clone_SA4_A4__o : RSh := ⟨(.own 0), [.rows 24 true (.arr 4 tI)]⟩
theorem slices_Clone_SA4_A4__ev (n : Nat) (x : TupT slices_Clone_SA4_A4__i.tys) : evF ⟨tab, [], n, []⟩ Try.f222 slices_Clone_SA4_A4__i slices_Clone_SA4_A4__o x = slices_Clone_SA4_A4_ n x := by kernel_rfl
noncomputable def slices_Clone_SA4_A4__e (n : Nat) : Ent := ⟨222, slices_Clone_SA4_A4__i, slices_Clone_SA4_A4__o, fun x => slices_Clone_SA4_A4_ n x⟩
theorem slices_Clone_SA4_A4__ok (n : Nat) : EntOK Try.prog (slices_Clone_SA4_A4__e n) ∧ Own Try.prog 222 := ent_ok tabOK0 .nil Try.func222 rfl (by kernel_rfl) (slices_Clone_SA4_A4__ev n)
def math_bits_Len64_i : CSh := ⟨[(.data true (.int .u64))], []⟩
def math_bits_Len64_o : RSh := ⟨(.data true tI), []⟩
theorem math_bits_Len64_ev (n : Nat) (x : TupT math_bits_Len64_i.tys) : evF ⟨tab, [], n, [(2, ⟨[(0, (.data true (.int .u64))), (2, (.data true tI))], [], 0⟩), (10, ⟨[(0, (.data true (.int .u64))), (2, (.data true tI))], [], 0⟩), (18, ⟨[(0, (.data true (.int .u64))), (2, (.data true tI))], [], 0⟩)]⟩ Try.f252 math_bits_Len64_i math_bits_Len64_o x = math_bits_Len64 n x := by kernel_rfl
noncomputable def math_bits_Len64_e (n : Nat) : Ent := ⟨252, math_bits_Len64_i, math_bits_Len64_o, fun x => math_bits_Len64 n x⟩
theorem math_bits_Len64_ok (n : Nat) : EntOK Try.prog (math_bits_Len64_e n) ∧ Own Try.prog 252 := ent_ok tabOK0 .nil Try.func252 rfl (by kernel_rfl) (math_bits_Len64_ev n)
def math_bits_Len_i : CSh := ⟨[(.data true (.int .u64))], []⟩
def math_bits_Len_o : RSh := ⟨(.data true tI), []⟩
theorem math_bits_Len_ev (n : Nat) (x : TupT math_bits_Len_i.tys) : evF ⟨tab, [math_bits_Len64_e n], n, []⟩ Try.f239 math_bits_Len_i math_bits_Len_o x = math_bits_Len n x := by kernel_rfl
noncomputable def math_bits_Len_e (n : Nat) : Ent := ⟨239, math_bits_Len_i, math_bits_Len_o, fun x => math_bits_Len n x⟩
theorem math_bits_Len_ok (n : Nat) : EntOK Try.prog (math_bits_Len_e n) ∧ Own Try.prog 239 := ent_ok tabOK0 (.cons (math_bits_Len64_ok n) .nil) Try.func239 rfl (by kernel_rfl) (math_bits_Len_ev n)
def i_number_i : CSh := ⟨[(.data true (.arr 4 tI))], []⟩
def i_number_o : RSh := ⟨(.data true tI), []⟩
theorem i_number_ev (n : Nat) (x : TupT i_number_i.tys) : evF ⟨tab, [], n, [(8, ⟨[(3, (.data true tI)), (6, (.data true (.arr 4 tI))), (7, (.data true tI))], [], 0⟩)]⟩ Try.f172 i_number_i i_number_o x = i_number n x := by kernel_rfl
noncomputable def i_number_e (n : Nat) : Ent := ⟨172, i_number_i, i_number_o, fun x => i_number n x⟩
theorem i_number_ok (n : Nat) : EntOK Try.prog (i_number_e n) ∧ Own Try.prog 172 := ent_ok tabOK0 .nil Try.func172 rfl (by kernel_rfl) (i_number_ev n)
def i_compareCards_i : CSh := ⟨[(.data true (.arr 4 tI)), (.data true (.arr 4 tI))], []⟩
def i_compareCards_o : RSh := ⟨(.data true tI), []⟩
theorem i_compareCards_ev (n : Nat) (x : TupT i_compareCards_i.tys) : evF ⟨tab, [i_number_e n], n, []⟩ Try.f224 i_compareCards_i i_compareCards_o x = i_compareCards n x.1 x.2 := by kernel_rfl
noncomputable def i_compareCards_e (n : Nat) : Ent := ⟨224, i_compareCards_i, i_compareCards_o, fun x => i_compareCards n x.1 x.2⟩
theorem i_compareCards_ok (n : Nat) : EntOK Try.prog (i_compareCards_e n) ∧ Own Try.prog 224 := ent_ok tabOK0 (.cons (i_number_ok n) .nil) Try.func224 rfl (by kernel_rfl) (i_compareCards_ev n)
def slices_insertionSortCmpFunc_A4_'o_i_compareCards_i : CSh := ⟨[(.own 0), (.data true tI), (.data true tI), (.clo 224 .tnil)], [.rows 24 true (.arr 4 tI)]⟩
def slices_insertionSortCmpFunc_A4_'o_i_compareCards_o : RSh := ⟨.tnil, [.rows 24 true (.arr 4 tI)]⟩
theorem slices_insertionSortCmpFunc_A4_'o_i_compareCards_ev (n : Nat) (x : TupT slices_insertionSortCmpFunc_A4_'o_i_compareCards_i.tys) : evF ⟨tab, [i_compareCards_e n], n, [(3, ⟨[(0, (.own 0)), (1, (.data true tI)), (2, (.data true tI)), (3, (.clo 224 .tnil)), (8, (.data true tI))], [.rows 24 true (.arr 4 tI)], 1⟩), (15, ⟨[(0, (.own 0)), (1, (.data true tI)), (2, (.data true tI)), (3, (.clo 224 .tnil)), (8, (.data true tI)), (9, (.data true tI))], [.rows 24 true (.arr 4 tI)], 1⟩)]⟩ Try.f243 slices_insertionSortCmpFunc_A4_'o_i_compareCards_i slices_insertionSortCmpFunc_A4_'o_i_compareCards_o x = slices_insertionSortCmpFunc_A4_'o_i_compareCards n x.1 x.2.1 x.2.2 := by kernel_rfl
noncomputable def slices_insertionSortCmpFunc_A4_'o_i_compareCards_e (n : Nat) : Ent := ⟨243, slices_insertionSortCmpFunc_A4_'o_i_compareCards_i, slices_insertionSortCmpFunc_A4_'o_i_compareCards_o, fun x => slices_insertionSortCmpFunc_A4_'o_i_compareCards n x.1 x.2.1 x.2.2⟩
theorem slices_insertionSortCmpFunc_A4_'o_i_compareCards_ok (n : Nat) : EntOK Try.prog (slices_insertionSortCmpFunc_A4_'o_i_compareCards_e n) ∧ Own Try.prog 243 := ent_ok tabOK0 (.cons (i_compareCards_ok n) .nil) Try.func243 rfl (by kernel_rfl) (slices_insertionSortCmpFunc_A4_'o_i_compareCards_ev n)
def slices_siftDownCmpFunc_A4_'o_i_compareCards_i : CSh := ⟨[(.own 0), (.data true tI), (.data true tI), (.data true tI), (.clo 224 .tnil)], [.rows 24 true (.arr 4 tI)]⟩
def slices_siftDownCmpFunc_A4_'o_i_compareCards_o : RSh := ⟨.tnil, [.rows 24 true (.arr 4 tI)]⟩
theorem slices_siftDownCmpFunc_A4_'o_i_compareCards_ev (n : Nat) (x : TupT slices_siftDownCmpFunc_A4_'o_i_compareCards_i.tys) : evF ⟨tab, [i_compareCards_e n], n, [(3, ⟨[(0, (.own 0)), (2, (.data true tI)), (3, (.data true tI)), (4, (.clo 224 .tnil)), (10, (.data true tI))], [.rows 24 true (.arr 4 tI)], 1⟩), (13, ⟨[(0, (.own 0)), (2, (.data true tI)), (3, (.data true tI)), (4, (.clo 224 .tnil)), (10, (.data true tI)), (11, (.data true tI))], [.rows 24 true (.arr 4 tI)], 1⟩)]⟩ Try.f254 slices_siftDownCmpFunc_A4_'o_i_compareCards_i slices_siftDownCmpFunc_A4_'o_i_compareCards_o x = slices_siftDownCmpFunc_A4_'o_i_compareCards n x.1 x.2.1 x.2.2.1 x.2.2.2 := by kernel_rfl
noncomputable def slices_siftDownCmpFunc_A4_'o_i_compareCards_e (n : Nat) : Ent := ⟨254, slices_siftDownCmpFunc_A4_'o_i_compareCards_i, slices_siftDownCmpFunc_A4_'o_i_compareCards_o, fun x => slices_siftDownCmpFunc_A4_'o_i_compareCards n x.1 x.2.1 x.2.2.1 x.2.2.2⟩
theorem slices_siftDownCmpFunc_A4_'o_i_compareCards_ok (n : Nat) : EntOK Try.prog (slices_siftDownCmpFunc_A4_'o_i_compareCards_e n) ∧ Own Try.prog 254 := ent_ok tabOK0 (.cons (i_compareCards_ok n) .nil) Try.func254 rfl (by kernel_rfl) (slices_siftDownCmpFunc_A4_'o_i_compareCards_ev n)
def slices_heapSortCmpFunc_A4_'o_i_compareCards_i : CSh := ⟨[(.own 0), (.data true tI), (.data true tI), (.clo 224 .tnil)], [.rows 24 true (.arr 4 tI)]⟩
def slices_heapSortCmpFunc_A4_'o_i_compareCards_o : RSh := ⟨.tnil, [.rows 24 true (.arr 4 tI)]⟩
theorem slices_heapSortCmpFunc_A4_'o_i_compareCards_ev (n : Nat) (x : TupT slices_heapSortCmpFunc_A4_'o_i_compareCards_i.tys) : evF ⟨tab, [slices_siftDownCmpFunc_A4_'o_i_compareCards_e n], n, [(10, ⟨[(0, (.own 0)), (3, (.clo 224 .tnil)), (8, (.data true tI)), (9, (.data true tI)), (10, (.data true tI)), (11, (.data true tI))], [.rows 24 true (.arr 4 tI)], 1⟩), (24, ⟨[(0, (.own 0)), (3, (.clo 224 .tnil)), (8, (.data true tI)), (9, (.data true tI)), (12, (.data true tI))], [.rows 24 true (.arr 4 tI)], 1⟩)]⟩ Try.f244 slices_heapSortCmpFunc_A4_'o_i_compareCards_i slices_heapSortCmpFunc_A4_'o_i_compareCards_o x = slices_heapSortCmpFunc_A4_'o_i_compareCards n x.1 x.2.1 x.2.2 := by kernel_rfl
noncomputable def slices_heapSortCmpFunc_A4_'o_i_compareCards_e (n : Nat) : Ent := ⟨244, slices_heapSortCmpFunc_A4_'o_i_compareCards_i, slices_heapSortCmpFunc_A4_'o_i_compareCards_o, fun x => slices_heapSortCmpFunc_A4_'o_i_compareCards n x.1 x.2.1 x.2.2⟩
theorem slices_heapSortCmpFunc_A4_'o_i_compareCards_ok (n : Nat) : EntOK Try.prog (slices_heapSortCmpFunc_A4_'o_i_compareCards_e n) ∧ Own Try.prog 244 := ent_ok tabOK0 (.cons (slices_siftDownCmpFunc_A4_'o_i_compareCards_ok n) .nil) Try.func244 rfl (by kernel_rfl) (slices_heapSortCmpFunc_A4_'o_i_compareCards_ev n)
def slices_order2CmpFunc_A4_'lp_i_compareCards_i : CSh := ⟨[(.data false (.sl (.arr 4 tI))), (.data true tI), (.data true tI), (.ptr 0 []), (.clo 224 .tnil)], [.var 3 (.data true tI)]⟩
def slices_order2CmpFunc_A4_'lp_i_compareCards_o : RSh := ⟨(.tcons (.data true tI) (.tcons (.data true tI) .tnil)), [.var 3 (.data true tI)]⟩
theorem slices_order2CmpFunc_A4_'lp_i_compareCards_ev (n : Nat) (x : TupT slices_order2CmpFunc_A4_'lp_i_compareCards_i.tys) : evF ⟨tab, [i_compareCards_e n], n, []⟩ Try.f259 slices_order2CmpFunc_A4_'lp_i_compareCards_i slices_order2CmpFunc_A4_'lp_i_compareCards_o x = slices_order2CmpFunc_A4_'lp_i_compareCards n x.1 x.2.1 x.2.2.1 x.2.2.2 := by kernel_rfl
noncomputable def slices_order2CmpFunc_A4_'lp_i_compareCards_e (n : Nat) : Ent := ⟨259, slices_order2CmpFunc_A4_'lp_i_compareCards_i, slices_order2CmpFunc_A4_'lp_i_compareCards_o, fun x => slices_order2CmpFunc_A4_'lp_i_compareCards n x.1 x.2.1 x.2.2.1 x.2.2.2⟩
theorem slices_order2CmpFunc_A4_'lp_i_compareCards_ok (n : Nat) : EntOK Try.prog (slices_order2CmpFunc_A4_'lp_i_compareCards_e n) ∧ Own Try.prog 259 := ent_ok tabOK0 (.cons (i_compareCards_ok n) .nil) Try.func259 rfl (by kernel_rfl) (slices_order2CmpFunc_A4_'lp_i_compareCards_ev n)
def slices_medianCmpFunc_A4_'lp_i_compareCards_i : CSh := ⟨[(.data false (.sl (.arr 4 tI))), (.data true tI), (.data true tI), (.data true tI), (.ptr 0 []), (.clo 224 .tnil)], [.var 3 (.data true tI)]⟩
def slices_medianCmpFunc_A4_'lp_i_compareCards_o : RSh := ⟨(.data true tI), [.var 3 (.data true tI)]⟩
theorem slices_medianCmpFunc_A4_'lp_i_compareCards_ev (n : Nat) (x : TupT slices_medianCmpFunc_A4_'lp_i_compareCards_i.tys) : evF ⟨tab, [slices_order2CmpFunc_A4_'lp_i_compareCards_e n], n, []⟩ Try.f258 slices_medianCmpFunc_A4_'lp_i_compareCards_i slices_medianCmpFunc_A4_'lp_i_compareCards_o x = slices_medianCmpFunc_A4_'lp_i_compareCards n x.1 x.2.1 x.2.2.1 x.2.2.2.1 x.2.2.2.2 := by kernel_rfl
noncomputable def slices_medianCmpFunc_A4_'lp_i_compareCards_e (n : Nat) : Ent := ⟨258, slices_medianCmpFunc_A4_'lp_i_compareCards_i, slices_medianCmpFunc_A4_'lp_i_compareCards_o, fun x => slices_medianCmpFunc_A4_'lp_i_compareCards n x.1 x.2.1 x.2.2.1 x.2.2.2.1 x.2.2.2.2⟩
theorem slices_medianCmpFunc_A4_'lp_i_compareCards_ok (n : Nat) : EntOK Try.prog (slices_medianCmpFunc_A4_'lp_i_compareCards_e n) ∧ Own Try.prog 258 := ent_ok tabOK0 (.cons (slices_order2CmpFunc_A4_'lp_i_compareCards_ok n) .nil) Try.func258 rfl (by kernel_rfl) (slices_medianCmpFunc_A4_'lp_i_compareCards_ev n)
def slices_medianAdjacentCmpFunc_A4_'lp_i_compareCards_i : CSh := ⟨[(.data false (.sl (.arr 4 tI))), (.data true tI), (.ptr 0 []), (.clo 224 .tnil)], [.var 3 (.data true tI)]⟩
def slices_medianAdjacentCmpFunc_A4_'lp_i_compareCards_o : RSh := ⟨(.data true tI), [.var 3 (.data true tI)]⟩
theorem slices_medianAdjacentCmpFunc_A4_'lp_i_compareCards_ev (n : Nat) (x : TupT slices_medianAdjacentCmpFunc_A4_'lp_i_compareCards_i.tys) : evF ⟨tab, [slices_medianCmpFunc_A4_'lp_i_compareCards_e n], n, []⟩ Try.f257 slices_medianAdjacentCmpFunc_A4_'lp_i_compareCards_i slices_medianAdjacentCmpFunc_A4_'lp_i_compareCards_o x = slices_medianAdjacentCmpFunc_A4_'lp_i_compareCards n x.1 x.2.1 x.2.2 := by kernel_rfl
noncomputable def slices_medianAdjacentCmpFunc_A4_'lp_i_compareCards_e (n : Nat) : Ent := ⟨257, slices_medianAdjacentCmpFunc_A4_'lp_i_compareCards_i, slices_medianAdjacentCmpFunc_A4_'lp_i_compareCards_o, fun x => slices_medianAdjacentCmpFunc_A4_'lp_i_compareCards n x.1 x.2.1 x.2.2⟩
theorem slices_medianAdjacentCmpFunc_A4_'lp_i_compareCards_ok (n : Nat) : EntOK Try.prog (slices_medianAdjacentCmpFunc_A4_'lp_i_compareCards_e n) ∧ Own Try.prog 257 := ent_ok tabOK0 (.cons (slices_medianCmpFunc_A4_'lp_i_compareCards_ok n) .nil) Try.func257 rfl (by kernel_rfl) (slices_medianAdjacentCmpFunc_A4_'lp_i_compareCards_ev n)
def slices_choosePivotCmpFunc_A4_'l_i_compareCards_i : CSh := ⟨[(.data false (.sl (.arr 4 tI))), (.data true tI), (.data true tI), (.clo 224 .tnil)], []⟩
def slices_choosePivotCmpFunc_A4_'l_i_compareCards_o : RSh := ⟨(.tcons (.data true tI) (.tcons (.data true tI) .tnil)), []⟩
theorem slices_choosePivotCmpFunc_A4_'l_i_compareCards_ev (n : Nat) (x : TupT slices_choosePivotCmpFunc_A4_'l_i_compareCards_i.tys) : evF ⟨tab, [slices_medianCmpFunc_A4_'lp_i_compareCards_e n, slices_medianAdjacentCmpFunc_A4_'lp_i_compareCards_e n], n, [(12, ⟨[(11, (.ptr 0 [])), (13, (.data true tI))], [.var 3 (.data true tI)], 0⟩), (16, ⟨[(0, (.data false (.sl (.arr 4 tI)))), (3, (.clo 224 .tnil)), (11, (.ptr 0 [])), (12, (.data true tI)), (13, (.data true tI)), (14, (.data true tI))], [.var 3 (.data true tI)], 0⟩)]⟩ Try.f246 slices_choosePivotCmpFunc_A4_'l_i_compareCards_i slices_choosePivotCmpFunc_A4_'l_i_compareCards_o x = slices_choosePivotCmpFunc_A4_'l_i_compareCards n x.1 x.2.1 x.2.2 := by kernel_rfl
noncomputable def slices_choosePivotCmpFunc_A4_'l_i_compareCards_e (n : Nat) : Ent := ⟨246, slices_choosePivotCmpFunc_A4_'l_i_compareCards_i, slices_choosePivotCmpFunc_A4_'l_i_compareCards_o, fun x => slices_choosePivotCmpFunc_A4_'l_i_compareCards n x.1 x.2.1 x.2.2⟩
theorem slices_choosePivotCmpFunc_A4_'l_i_compareCards_ok (n : Nat) : EntOK Try.prog (slices_choosePivotCmpFunc_A4_'l_i_compareCards_e n) ∧ Own Try.prog 246 := ent_ok tabOK0 (.cons (slices_medianCmpFunc_A4_'lp_i_compareCards_ok n) (.cons (slices_medianAdjacentCmpFunc_A4_'lp_i_compareCards_ok n) .nil)) Try.func246 rfl (by kernel_rfl) (slices_choosePivotCmpFunc_A4_'l_i_compareCards_ev n)
def slices_partitionEqualCmpFunc_A4_'o_i_compareCards_i : CSh := ⟨[(.own 0), (.data true tI), (.data true tI), (.data true tI), (.clo 224 .tnil)], [.rows 24 true (.arr 4 tI)]⟩
def slices_partitionEqualCmpFunc_A4_'o_i_compareCards_o : RSh := ⟨(.data true tI), [.rows 24 true (.arr 4 tI)]⟩
theorem slices_partitionEqualCmpFunc_A4_'o_i_compareCards_ev (n : Nat) (x : TupT slices_partitionEqualCmpFunc_A4_'o_i_compareCards_i.tys) : evF ⟨tab, [i_compareCards_e n], n, [(8, ⟨[(0, (.own 0)), (1, (.data true tI)), (4, (.clo 224 .tnil)), (11, (.data true tI)), (12, (.data true tI))], [.rows 24 true (.arr 4 tI)], 1⟩), (12, ⟨[(0, (.own 0)), (1, (.data true tI)), (4, (.clo 224 .tnil)), (11, (.data true tI)), (12, (.data true tI))], [.rows 24 true (.arr 4 tI)], 1⟩), (23, ⟨[(0, (.own 0)), (1, (.data true tI)), (4, (.clo 224 .tnil)), (11, (.data true tI)), (12, (.data true tI))], [.rows 24 true (.arr 4 tI)], 1⟩)]⟩ Try.f249 slices_partitionEqualCmpFunc_A4_'o_i_compareCards_i slices_partitionEqualCmpFunc_A4_'o_i_compareCards_o x = slices_partitionEqualCmpFunc_A4_'o_i_compareCards n x.1 x.2.1 x.2.2.1 x.2.2.2 := by kernel_rfl
noncomputable def slices_partitionEqualCmpFunc_A4_'o_i_compareCards_e (n : Nat) : Ent := ⟨249, slices_partitionEqualCmpFunc_A4_'o_i_compareCards_i, slices_partitionEqualCmpFunc_A4_'o_i_compareCards_o, fun x => slices_partitionEqualCmpFunc_A4_'o_i_compareCards n x.1 x.2.1 x.2.2.1 x.2.2.2⟩
theorem slices_partitionEqualCmpFunc_A4_'o_i_compareCards_ok (n : Nat) : EntOK Try.prog (slices_partitionEqualCmpFunc_A4_'o_i_compareCards_e n) ∧ Own Try.prog 249 := ent_ok tabOK0 (.cons (i_compareCards_ok n) .nil) Try.func249 rfl (by kernel_rfl) (slices_partitionEqualCmpFunc_A4_'o_i_compareCards_ev n)
def slices_partitionCmpFunc_A4_'o_i_compareCards_i : CSh := ⟨[(.own 0), (.data true tI), (.data true tI), (.data true tI), (.clo 224 .tnil)], [.rows 24 true (.arr 4 tI)]⟩
def slices_partitionCmpFunc_A4_'o_i_compareCards_o : RSh := ⟨(.tcons (.data true tI) (.tcons (.data true .bool) .tnil)), [.rows 24 true (.arr 4 tI)]⟩
theorem slices_partitionCmpFunc_A4_'o_i_compareCards_ev (n : Nat) (x : TupT slices_partitionCmpFunc_A4_'o_i_compareCards_i.tys) : evF ⟨tab, [i_compareCards_e n], n, [(8, ⟨[(0, (.own 0)), (1, (.data true tI)), (4, (.clo 224 .tnil)), (12, (.data true tI)), (13, (.data true tI))], [.rows 24 true (.arr 4 tI)], 1⟩), (19, ⟨[(0, (.own 0)), (1, (.data true tI)), (4, (.clo 224 .tnil)), (12, (.data true tI)), (13, (.data true tI))], [.rows 24 true (.arr 4 tI)], 1⟩), (46, ⟨[(0, (.own 0)), (1, (.data true tI)), (4, (.clo 224 .tnil)), (12, (.data true tI)), (13, (.data true tI))], [.rows 24 true (.arr 4 tI)], 1⟩), (50, ⟨[(0, (.own 0)), (1, (.data true tI)), (4, (.clo 224 .tnil)), (12, (.data true tI)), (13, (.data true tI))], [.rows 24 true (.arr 4 tI)], 1⟩), (61, ⟨[(0, (.own 0)), (1, (.data true tI)), (4, (.clo 224 .tnil)), (12, (.data true tI)), (13, (.data true tI))], [.rows 24 true (.arr 4 tI)], 1⟩)]⟩ Try.f250 slices_partitionCmpFunc_A4_'o_i_compareCards_i slices_partitionCmpFunc_A4_'o_i_compareCards_o x = slices_partitionCmpFunc_A4_'o_i_compareCards n x.1 x.2.1 x.2.2.1 x.2.2.2 := by kernel_rfl
noncomputable def slices_partitionCmpFunc_A4_'o_i_compareCards_e (n : Nat) : Ent := ⟨250, slices_partitionCmpFunc_A4_'o_i_compareCards_i, slices_partitionCmpFunc_A4_'o_i_compareCards_o, fun x => slices_partitionCmpFunc_A4_'o_i_compareCards n x.1 x.2.1 x.2.2.1 x.2.2.2⟩
theorem slices_partitionCmpFunc_A4_'o_i_compareCards_ok (n : Nat) : EntOK Try.prog (slices_partitionCmpFunc_A4_'o_i_compareCards_e n) ∧ Own Try.prog 250 := ent_ok tabOK0 (.cons (i_compareCards_ok n) .nil) Try.func250 rfl (by kernel_rfl) (slices_partitionCmpFunc_A4_'o_i_compareCards_ev n)
def slices_partialInsertionSortCmpFunc_A4_'o_i_compareCards_i : CSh := ⟨[(.own 0), (.data true tI), (.data true tI), (.clo 224 .tnil)], [.rows 24 true (.arr 4 tI)]⟩
def slices_partialInsertionSortCmpFunc_A4_'o_i_compareCards_o : RSh := ⟨(.data true .bool), [.rows 24 true (.arr 4 tI)]⟩
theorem slices_partialInsertionSortCmpFunc_A4_'o_i_compareCards_ev (n : Nat) (x : TupT slices_partialInsertionSortCmpFunc_A4_'o_i_compareCards_i.tys) : evF ⟨tab, [i_compareCards_e n], n, [(8, ⟨[(0, (.own 0)), (1, (.data true tI)), (2, (.data true tI)), (3, (.clo 224 .tnil)), (9, (.data true tI)), (10, (.data true tI))], [.rows 24 true (.arr 4 tI)], 1⟩), (19, ⟨[(0, (.own 0)), (1, (.data true tI)), (2, (.data true tI)), (3, (.clo 224 .tnil)), (9, (.data true tI)), (10, (.data true tI))], [.rows 24 true (.arr 4 tI)], 1⟩), (46, ⟨[(0, (.own 0)), (1, (.data true tI)), (2, (.data true tI)), (3, (.clo 224 .tnil)), (9, (.data true tI)), (10, (.data true tI))], [.rows 24 true (.arr 4 tI)], 1⟩), (53, ⟨[(0, (.own 0)), (1, (.data true tI)), (2, (.data true tI)), (3, (.clo 224 .tnil)), (9, (.data true tI)), (10, (.data true tI)), (11, (.data true tI))], [.rows 24 true (.arr 4 tI)], 1⟩), (77, ⟨[(0, (.own 0)), (1, (.data true tI)), (2, (.data true tI)), (3, (.clo 224 .tnil)), (9, (.data true tI)), (10, (.data true tI)), (12, (.data true tI))], [.rows 24 true (.arr 4 tI)], 1⟩)]⟩ Try.f248 slices_partialInsertionSortCmpFunc_A4_'o_i_compareCards_i slices_partialInsertionSortCmpFunc_A4_'o_i_compareCards_o x = slices_partialInsertionSortCmpFunc_A4_'o_i_compareCards n x.1 x.2.1 x.2.2 := by kernel_rfl
noncomputable def slices_partialInsertionSortCmpFunc_A4_'o_i_compareCards_e (n : Nat) : Ent := ⟨248, slices_partialInsertionSortCmpFunc_A4_'o_i_compareCards_i, slices_partialInsertionSortCmpFunc_A4_'o_i_compareCards_o, fun x => slices_partialInsertionSortCmpFunc_A4_'o_i_compareCards n x.1 x.2.1 x.2.2⟩
theorem slices_partialInsertionSortCmpFunc_A4_'o_i_compareCards_ok (n : Nat) : EntOK Try.prog (slices_partialInsertionSortCmpFunc_A4_'o_i_compareCards_e n) ∧ Own Try.prog 248 := ent_ok tabOK0 (.cons (i_compareCards_ok n) .nil) Try.func248 rfl (by kernel_rfl) (slices_partialInsertionSortCmpFunc_A4_'o_i_compareCards_ev n)
def slices_reverseRangeCmpFunc_A4_'o_i_compareCards_i : CSh := ⟨[(.own 0), (.data true tI), (.data true tI), (.clo 224 .tnil)], [.rows 24 true (.arr 4 tI)]⟩
def slices_reverseRangeCmpFunc_A4_'o_i_compareCards_o : RSh := ⟨.tnil, [.rows 24 true (.arr 4 tI)]⟩
theorem slices_reverseRangeCmpFunc_A4_'o_i_compareCards_ev (n : Nat) (x : TupT slices_reverseRangeCmpFunc_A4_'o_i_compareCards_i.tys) : evF ⟨tab, [], n, [(5, ⟨[(0, (.own 0)), (8, (.data true tI)), (9, (.data true tI))], [.rows 24 true (.arr 4 tI)], 1⟩)]⟩ Try.f247 slices_reverseRangeCmpFunc_A4_'o_i_compareCards_i slices_reverseRangeCmpFunc_A4_'o_i_compareCards_o x = slices_reverseRangeCmpFunc_A4_'o_i_compareCards n x.1 x.2.1 x.2.2 := by kernel_rfl
noncomputable def slices_reverseRangeCmpFunc_A4_'o_i_compareCards_e (n : Nat) : Ent := ⟨247, slices_reverseRangeCmpFunc_A4_'o_i_compareCards_i, slices_reverseRangeCmpFunc_A4_'o_i_compareCards_o, fun x => slices_reverseRangeCmpFunc_A4_'o_i_compareCards n x.1 x.2.1 x.2.2⟩
theorem slices_reverseRangeCmpFunc_A4_'o_i_compareCards_ok (n : Nat) : EntOK Try.prog (slices_reverseRangeCmpFunc_A4_'o_i_compareCards_e n) ∧ Own Try.prog 247 := ent_ok tabOK0 .nil Try.func247 rfl (by kernel_rfl) (slices_reverseRangeCmpFunc_A4_'o_i_compareCards_ev n)
def slices_nextPowerOfTwo_i : CSh := ⟨[(.data true tI)], []⟩
def slices_nextPowerOfTwo_o : RSh := ⟨(.data true (.int .u64)), []⟩
theorem slices_nextPowerOfTwo_ev (n : Nat) (x : TupT slices_nextPowerOfTwo_i.tys) : evF ⟨tab, [math_bits_Len_e n], n, []⟩ Try.f255 slices_nextPowerOfTwo_i slices_nextPowerOfTwo_o x = slices_nextPowerOfTwo n x := by kernel_rfl
noncomputable def slices_nextPowerOfTwo_e (n : Nat) : Ent := ⟨255, slices_nextPowerOfTwo_i, slices_nextPowerOfTwo_o, fun x => slices_nextPowerOfTwo n x⟩
theorem slices_nextPowerOfTwo_ok (n : Nat) : EntOK Try.prog (slices_nextPowerOfTwo_e n) ∧ Own Try.prog 255 := ent_ok tabOK0 (.cons (math_bits_Len_ok n) .nil) Try.func255 rfl (by kernel_rfl) (slices_nextPowerOfTwo_ev n)
def __slices_xorshift__Next'p_i : CSh := ⟨[(.ptr 0 [])], [.var 183 (.data true (.int .u64))]⟩
def __slices_xorshift__Next'p_o : RSh := ⟨(.data true (.int .u64)), [.var 183 (.data true (.int .u64))]⟩
theorem __slices_xorshift__Next'p_ev (n : Nat) (x : TupT __slices_xorshift__Next'p_i.tys) : evF ⟨tab, [], n, []⟩ Try.f256 __slices_xorshift__Next'p_i __slices_xorshift__Next'p_o x = __slices_xorshift__Next'p n x := by kernel_rfl
noncomputable def __slices_xorshift__Next'p_e (n : Nat) : Ent := ⟨256, __slices_xorshift__Next'p_i, __slices_xorshift__Next'p_o, fun x => __slices_xorshift__Next'p n x⟩
theorem __slices_xorshift__Next'p_ok (n : Nat) : EntOK Try.prog (__slices_xorshift__Next'p_e n) ∧ Own Try.prog 256 := ent_ok tabOK0 .nil Try.func256 rfl (by kernel_rfl) (__slices_xorshift__Next'p_ev n)
def slices_breakPatternsCmpFunc_A4_'o_i_compareCards_i : CSh := ⟨[(.own 0), (.data true tI), (.data true tI), (.clo 224 .tnil)], [.rows 24 true (.arr 4 tI)]⟩
def slices_breakPatternsCmpFunc_A4_'o_i_compareCards_o : RSh := ⟨.tnil, [.rows 24 true (.arr 4 tI)]⟩
theorem slices_breakPatternsCmpFunc_A4_'o_i_compareCards_ev (n : Nat) (x : TupT slices_breakPatternsCmpFunc_A4_'o_i_compareCards_i.tys) : evF ⟨tab, [slices_nextPowerOfTwo_e n, __slices_xorshift__Next'p_e n], n, [(12, ⟨[(0, (.own 0)), (1, (.data true tI)), (8, (.data true tI)), (9, (.ptr 1 [])), (10, (.data true (.int .u64))), (11, (.data true tI))], [.rows 24 true (.arr 4 tI), .var 183 (.data true (.int .u64))], 1⟩), (23, ⟨[(0, (.own 0)), (1, (.data true tI)), (8, (.data true tI)), (9, (.ptr 1 [])), (10, (.data true (.int .u64))), (11, (.data true tI)), (12, (.data true tI))], [.rows 24 true (.arr 4 tI), .var 183 (.data true (.int .u64))], 1⟩)]⟩ Try.f245 slices_breakPatternsCmpFunc_A4_'o_i_compareCards_i slices_breakPatternsCmpFunc_A4_'o_i_compareCards_o x = slices_breakPatternsCmpFunc_A4_'o_i_compareCards n x.1 x.2.1 x.2.2 := by kernel_rfl
noncomputable def slices_breakPatternsCmpFunc_A4_'o_i_compareCards_e (n : Nat) : Ent := ⟨245, slices_breakPatternsCmpFunc_A4_'o_i_compareCards_i, slices_breakPatternsCmpFunc_A4_'o_i_compareCards_o, fun x => slices_breakPatternsCmpFunc_A4_'o_i_compareCards n x.1 x.2.1 x.2.2⟩
theorem slices_breakPatternsCmpFunc_A4_'o_i_compareCards_ok (n : Nat) : EntOK Try.prog (slices_breakPatternsCmpFunc_A4_'o_i_compareCards_e n) ∧ Own Try.prog 245 := ent_ok tabOK0 (.cons (slices_nextPowerOfTwo_ok n) (.cons (__slices_xorshift__Next'p_ok n) .nil)) Try.func245 rfl (by kernel_rfl) (slices_breakPatternsCmpFunc_A4_'o_i_compareCards_ev n)
def slices_pdqsortCmpFunc_A4_'o_i_compareCards_i : CSh := ⟨[(.own 0), (.data true tI), (.data true tI), (.data true tI), (.clo 224 .tnil)], [.rows 24 true (.arr 4 tI)]⟩
def slices_pdqsortCmpFunc_A4_'o_i_compareCards_o : RSh := ⟨.tnil, [.rows 24 true (.arr 4 tI)]⟩
theorem slices_pdqsortCmpFunc_A4_'o_i_compareCards_ev (n : Nat) (go : TupT slices_pdqsortCmpFunc_A4_'o_i_compareCards_i.tys → Option (TupT slices_pdqsortCmpFunc_A4_'o_i_compareCards_o.tys)) (x : TupT slices_pdqsortCmpFunc_A4_'o_i_compareCards_i.tys) : evF ⟨tab, [⟨238, slices_pdqsortCmpFunc_A4_'o_i_compareCards_i, slices_pdqsortCmpFunc_A4_'o_i_compareCards_o, go⟩, slices_insertionSortCmpFunc_A4_'o_i_compareCards_e n, slices_heapSortCmpFunc_A4_'o_i_compareCards_e n, slices_choosePivotCmpFunc_A4_'l_i_compareCards_e n, i_compareCards_e n, slices_partitionEqualCmpFunc_A4_'o_i_compareCards_e n, slices_partitionCmpFunc_A4_'o_i_compareCards_e n, slices_partialInsertionSortCmpFunc_A4_'o_i_compareCards_e n, slices_reverseRangeCmpFunc_A4_'o_i_compareCards_e n, slices_breakPatternsCmpFunc_A4_'o_i_compareCards_e n], n, [(5, ⟨[(0, (.own 0)), (1, (.data true tI)), (2, (.data true tI)), (3, (.data true tI)), (4, (.clo 224 .tnil)), (10, (.data true .bool)), (11, (.data true .bool))], [.rows 24 true (.arr 4 tI)], 1⟩), (25, ⟨[(0, (.own 0)), (1, (.data true tI)), (2, (.data true tI)), (3, (.data true tI)), (4, (.clo 224 .tnil)), (10, (.data true .bool)), (11, (.data true .bool)), (12, (.data true tI))], [.rows 24 true (.arr 4 tI)], 1⟩), (35, ⟨[(0, (.own 0)), (1, (.data true tI)), (2, (.data true tI)), (3, (.data true tI)), (4, (.clo 224 .tnil)), (10, (.data true .bool)), (11, (.data true .bool)), (12, (.data true tI)), (13, (.data true tI)), (14, (.data true tI))], [.rows 24 true (.arr 4 tI)], 1⟩), (45, ⟨[(0, (.own 0)), (1, (.data true tI)), (2, (.data true tI)), (3, (.data true tI)), (4, (.clo 224 .tnil)), (10, (.data true .bool)), (11, (.data true .bool)), (12, (.data true tI)), (13, (.data true tI))], [.rows 24 true (.arr 4 tI)], 1⟩)]⟩ Try.f238 slices_pdqsortCmpFunc_A4_'o_i_compareCards_i slices_pdqsortCmpFunc_A4_'o_i_compareCards_o x = slices_pdqsortCmpFunc_A4_'o_i_compareCards_R n go x := by kernel_rfl
noncomputable def slices_pdqsortCmpFunc_A4_'o_i_compareCards_e (n : Nat) : Ent := ⟨238, slices_pdqsortCmpFunc_A4_'o_i_compareCards_i, slices_pdqsortCmpFunc_A4_'o_i_compareCards_o, fun x => slices_pdqsortCmpFunc_A4_'o_i_compareCards n x.1 x.2.1 x.2.2.1 x.2.2.2⟩
theorem slices_pdqsortCmpFunc_A4_'o_i_compareCards_ok (n : Nat) : EntOK Try.prog (slices_pdqsortCmpFunc_A4_'o_i_compareCards_e n) ∧ Own Try.prog 238 := ent_rec tabOK0 (.cons (slices_insertionSortCmpFunc_A4_'o_i_compareCards_ok n) (.cons (slices_heapSortCmpFunc_A4_'o_i_compareCards_ok n) (.cons (slices_choosePivotCmpFunc_A4_'l_i_compareCards_ok n) (.cons (i_compareCards_ok n) (.cons (slices_partitionEqualCmpFunc_A4_'o_i_compareCards_ok n) (.cons (slices_partitionCmpFunc_A4_'o_i_compareCards_ok n) (.cons (slices_partialInsertionSortCmpFunc_A4_'o_i_compareCards_ok n) (.cons (slices_reverseRangeCmpFunc_A4_'o_i_compareCards_ok n) (.cons (slices_breakPatternsCmpFunc_A4_'o_i_compareCards_ok n) .nil))))))))) Try.func238 rfl (by kernel_rfl) (slices_pdqsortCmpFunc_A4_'o_i_compareCards_ev n) n
def slices_SortFunc_SA4_A4_'o_i_compareCards_i : CSh := ⟨[(.own 0), (.clo 224 .tnil)], [.rows 24 true (.arr 4 tI)]⟩
def slices_SortFunc_SA4_A4_'o_i_compareCards_o : RSh := ⟨.tnil, [.rows 24 true (.arr 4 tI)]⟩
theorem slices_SortFunc_SA4_A4_'o_i_compareCards_ev (n : Nat) (x : TupT slices_SortFunc_SA4_A4_'o_i_compareCards_i.tys) : evF ⟨tab, [math_bits_Len_e n, slices_pdqsortCmpFunc_A4_'o_i_compareCards_e n], n, []⟩ Try.f223 slices_SortFunc_SA4_A4_'o_i_compareCards_i slices_SortFunc_SA4_A4_'o_i_compareCards_o x = slices_SortFunc_SA4_A4_'o_i_compareCards n x := by kernel_rfl
noncomputable def slices_SortFunc_SA4_A4_'o_i_compareCards_e (n : Nat) : Ent := ⟨223, slices_SortFunc_SA4_A4_'o_i_compareCards_i, slices_SortFunc_SA4_A4_'o_i_compareCards_o, fun x => slices_SortFunc_SA4_A4_'o_i_compareCards n x⟩
theorem slices_SortFunc_SA4_A4_'o_i_compareCards_ok (n : Nat) : EntOK Try.prog (slices_SortFunc_SA4_A4_'o_i_compareCards_e n) ∧ Own Try.prog 223 := ent_ok tabOK0 (.cons (math_bits_Len_ok n) (.cons (slices_pdqsortCmpFunc_A4_'o_i_compareCards_ok n) .nil)) Try.func223 rfl (by kernel_rfl) (slices_SortFunc_SA4_A4_'o_i_compareCards_ev n)
def slices_Compact_SA4_A4_'o_i : CSh := ⟨[(.own 0)], [.rows 24 true (.arr 4 tI)]⟩
def slices_Compact_SA4_A4_'o_o : RSh := ⟨(.own 1), [.gone, .rows 24 true (.arr 4 tI)]⟩
theorem slices_Compact_SA4_A4_'o_ev (n : Nat) (x : TupT slices_Compact_SA4_A4_'o_i.tys) : evF ⟨tab, [], n, [(14, ⟨[(0, (.own 0)), (3, (.data true tI))], [.rows 24 true (.arr 4 tI)], 1⟩), (32, ⟨[(0, (.own 0)), (3, (.data true tI)), (4, (.ownp 0)), (5, (.data true tI))], [.rows 24 true (.arr 4 tI)], 1⟩)]⟩ Try.f225 slices_Compact_SA4_A4_'o_i slices_Compact_SA4_A4_'o_o x = slices_Compact_SA4_A4_'o n x := by kernel_rfl
noncomputable def slices_Compact_SA4_A4_'o_e (n : Nat) : Ent := ⟨225, slices_Compact_SA4_A4_'o_i, slices_Compact_SA4_A4_'o_o, fun x => slices_Compact_SA4_A4_'o n x⟩
theorem slices_Compact_SA4_A4_'o_ok (n : Nat) : EntOK Try.prog (slices_Compact_SA4_A4_'o_e n) ∧ Own Try.prog 225 := ent_ok tabOK0 .nil Try.func225 rfl (by kernel_rfl) (slices_Compact_SA4_A4_'o_ev n)
def i_sorted_i : CSh := ⟨[(.data false (.sl (.arr 4 tI)))], []⟩
def i_sorted_o : RSh := ⟨(.own 0), [.rows 24 true (.arr 4 tI)]⟩
theorem i_sorted_ev (n : Nat) (x : TupT i_sorted_i.tys) : evF ⟨tab, [slices_Clone_SA4_A4__e n, slices_SortFunc_SA4_A4_'o_i_compareCards_e n, slices_Compact_SA4_A4_'o_e n], n, []⟩ Try.f151 i_sorted_i i_sorted_o x = i_sorted n x := by kernel_rfl
noncomputable def i_sorted_e (n : Nat) : Ent := ⟨151, i_sorted_i, i_sorted_o, fun x => i_sorted n x⟩
theorem i_sorted_ok (n : Nat) : EntOK Try.prog (i_sorted_e n) ∧ Own Try.prog 151 := ent_ok tabOK0 (.cons (slices_Clone_SA4_A4__ok n) (.cons (slices_SortFunc_SA4_A4_'o_i_compareCards_ok n) (.cons (slices_Compact_SA4_A4_'o_ok n) .nil))) Try.func151 rfl (by kernel_rfl) (i_sorted_ev n)
def i_codewords_i : CSh := ⟨[], []⟩
def i_codewords_o : RSh := ⟨(.own 0), [.rows 24 true (.arr 4 tI)]⟩
theorem i_codewords_ev (n : Nat) (x : TupT i_codewords_i.tys) : evF ⟨tab, [i_codeword_e n, i_sorted_e n], n, [(8, ⟨[(1, (.own 0)), (4, (.data true tI))], [.rows 24 true (.arr 4 tI)], 0⟩)]⟩ Try.f128 i_codewords_i i_codewords_o x = i_codewords n := by kernel_rfl
noncomputable def i_codewords_e (n : Nat) : Ent := ⟨128, i_codewords_i, i_codewords_o, fun x => i_codewords n⟩
theorem i_codewords_ok (n : Nat) : EntOK Try.prog (i_codewords_e n) ∧ Own Try.prog 128 := ent_ok tabOK0 (.cons (i_codeword_ok n) (.cons (i_sorted_ok n) .nil)) Try.func128 rfl (by kernel_rfl) (i_codewords_ev n)
def i_differ_i : CSh := ⟨[(.data true (.arr 4 tI)), (.data true (.arr 4 tI))], []⟩
def i_differ_o : RSh := ⟨(.data true tI), []⟩
theorem i_differ_ev (n : Nat) (x : TupT i_differ_i.tys) : evF ⟨tab, [], n, [(8, ⟨[(2, (.ptr 0 [])), (3, (.ptr 1 [])), (5, (.data true tI)), (7, (.data true tI))], [.var 24 (.data true (.arr 4 tI)), .var 24 (.data true (.arr 4 tI))], 0⟩)]⟩ Try.f139 i_differ_i i_differ_o x = i_differ n x.1 x.2 := by kernel_rfl
noncomputable def i_differ_e (n : Nat) : Ent := ⟨139, i_differ_i, i_differ_o, fun x => i_differ n x.1 x.2⟩
theorem i_differ_ok (n : Nat) : EntOK Try.prog (i_differ_e n) ∧ Own Try.prog 139 := ent_ok tabOK0 .nil Try.func139 rfl (by kernel_rfl) (i_differ_ev n)
def i_nearest_i : CSh := ⟨[(.data true (.arr 4 tI))], []⟩
def i_nearest_o : RSh := ⟨(.tcons (.data true (.arr 4 tI)) (.tcons (.data true tI) .tnil)), []⟩
theorem i_nearest_ev (n : Nat) (x : TupT i_nearest_i.tys) : evF ⟨tab, [i_codewords_e n, i_differ_e n], n, [(6, ⟨[(1, (.ptr 0 [])), (2, (.ptr 1 [])), (7, (.own 2)), (8, (.data true tI)), (9, (.data true tI))], [.var 24 (.data true (.arr 4 tI)), .var 24 (.data true (.arr 4 tI)), .rows 24 true (.arr 4 tI)], 0⟩), (27, ⟨[(1, (.ptr 0 [])), (2, (.ptr 1 [])), (5, (.ptr 2 [])), (17, (.data true tI))], [.var 24 (.data true (.arr 4 tI)), .var 24 (.data true (.arr 4 tI)), .var 24 (.data true (.arr 4 tI))], 0⟩)]⟩ Try.f122 i_nearest_i i_nearest_o x = i_nearest n x := by kernel_rfl
noncomputable def i_nearest_e (n : Nat) : Ent := ⟨122, i_nearest_i, i_nearest_o, fun x => i_nearest n x⟩
theorem i_nearest_ok (n : Nat) : EntOK Try.prog (i_nearest_e n) ∧ Own Try.prog 122 := ent_ok tabOK0 (.cons (i_codewords_ok n) (.cons (i_differ_ok n) .nil)) Try.func122 rfl (by kernel_rfl) (i_nearest_ev n)
def i_NearestCodeword_i : CSh := ⟨[(.data true (.arr 4 tI))], []⟩
def i_NearestCodeword_o : RSh := ⟨(.tcons (.data true (.arr 4 tI)) (.tcons (.data true tI) (.tcons (.data true .bool) .tnil))), []⟩
theorem i_NearestCodeword_ev (n : Nat) (x : TupT i_NearestCodeword_i.tys) : evF ⟨tab, [i_IsCard_e n, i_nearest_e n], n, []⟩ Try.f12 i_NearestCodeword_i i_NearestCodeword_o x = i_NearestCodeword n x := by kernel_rfl
noncomputable def i_NearestCodeword_e (n : Nat) : Ent := ⟨12, i_NearestCodeword_i, i_NearestCodeword_o, fun x => i_NearestCodeword n x⟩
theorem i_NearestCodeword_ok (n : Nat) : EntOK Try.prog (i_NearestCodeword_e n) ∧ Own Try.prog 12 := ent_ok tabOK0 (.cons (i_IsCard_ok n) (.cons (i_nearest_ok n) .nil)) Try.func12 rfl (by kernel_rfl) (i_NearestCodeword_ev n)
def s_l1In_i : CSh := ⟨[(.data true tI), (.data true tI), (.data true tI)], []⟩
def s_l1In_o : RSh := ⟨(.data true .bool), []⟩
theorem s_l1In_ev (n : Nat) (x : TupT s_l1In_i.tys) : evF ⟨tab, [], n, []⟩ Try.f175 s_l1In_i s_l1In_o x = s_l1In n x.1 x.2.1 x.2.2 := by kernel_rfl
noncomputable def s_l1In_e (n : Nat) : Ent := ⟨175, s_l1In_i, s_l1In_o, fun x => s_l1In n x.1 x.2.1 x.2.2⟩
theorem s_l1In_ok (n : Nat) : EntOK Try.prog (s_l1In_e n) ∧ Own Try.prog 175 := ent_ok tabOK0 .nil Try.func175 rfl (by kernel_rfl) (s_l1In_ev n)
def s_l2Card_i : CSh := ⟨[(.data true (.arr 4 tI))], []⟩
def s_l2Card_o : RSh := ⟨(.data true .bool), []⟩
theorem s_l2Card_ev (n : Nat) (x : TupT s_l2Card_i.tys) : evF ⟨tab, [s_l1In_e n], n, [(6, ⟨[(1, (.ptr 0 [])), (3, (.data true tI))], [.var 24 (.data true (.arr 4 tI))], 0⟩)]⟩ Try.f123 s_l2Card_i s_l2Card_o x = s_l2Card n x := by kernel_rfl
noncomputable def s_l2Card_e (n : Nat) : Ent := ⟨123, s_l2Card_i, s_l2Card_o, fun x => s_l2Card n x⟩
theorem s_l2Card_ok (n : Nat) : EntOK Try.prog (s_l2Card_e n) ∧ Own Try.prog 123 := ent_ok tabOK0 (.cons (s_l1In_ok n) .nil) Try.func123 rfl (by kernel_rfl) (s_l2Card_ev n)
def s_l2Differ_i : CSh := ⟨[(.data true (.arr 4 tI)), (.data true (.arr 4 tI))], []⟩
def s_l2Differ_o : RSh := ⟨(.data true tI), []⟩
theorem s_l2Differ_ev (n : Nat) (x : TupT s_l2Differ_i.tys) : evF ⟨tab, [], n, [(8, ⟨[(2, (.ptr 0 [])), (3, (.ptr 1 [])), (5, (.data true tI)), (6, (.data true tI))], [.var 24 (.data true (.arr 4 tI)), .var 24 (.data true (.arr 4 tI))], 0⟩)]⟩ Try.f140 s_l2Differ_i s_l2Differ_o x = s_l2Differ n x.1 x.2 := by kernel_rfl
noncomputable def s_l2Differ_e (n : Nat) : Ent := ⟨140, s_l2Differ_i, s_l2Differ_o, fun x => s_l2Differ n x.1 x.2⟩
theorem s_l2Differ_ok (n : Nat) : EntOK Try.prog (s_l2Differ_e n) ∧ Own Try.prog 140 := ent_ok tabOK0 .nil Try.func140 rfl (by kernel_rfl) (s_l2Differ_ev n)
def s_l11Nearest_i : CSh := ⟨[(.data true (.arr 4 tI))], []⟩
def s_l11Nearest_o : RSh := ⟨(.tcons (.data true (.arr 4 tI)) (.tcons (.data true tI) .tnil)), []⟩
theorem s_l11Nearest_ev (n : Nat) (x : TupT s_l11Nearest_i.tys) : evF ⟨tab, [s_l11Word_e n, s_l2Differ_e n], n, [(6, ⟨[(1, (.ptr 0 [])), (2, (.ptr 1 [])), (4, (.data true tI))], [.var 24 (.data true (.arr 4 tI)), .var 24 (.data true (.arr 4 tI))], 0⟩), (26, ⟨[(1, (.ptr 0 [])), (2, (.ptr 1 [])), (4, (.data true tI)), (5, (.ptr 2 [])), (6, (.data true tI))], [.var 24 (.data true (.arr 4 tI)), .var 24 (.data true (.arr 4 tI)), .var 24 (.data true (.arr 4 tI))], 0⟩)]⟩ Try.f124 s_l11Nearest_i s_l11Nearest_o x = s_l11Nearest n x := by kernel_rfl
noncomputable def s_l11Nearest_e (n : Nat) : Ent := ⟨124, s_l11Nearest_i, s_l11Nearest_o, fun x => s_l11Nearest n x⟩
theorem s_l11Nearest_ok (n : Nat) : EntOK Try.prog (s_l11Nearest_e n) ∧ Own Try.prog 124 := ent_ok tabOK0 (.cons (s_l11Word_ok n) (.cons (s_l2Differ_ok n) .nil)) Try.func124 rfl (by kernel_rfl) (s_l11Nearest_ev n)
def s_NearestCodeword_i : CSh := ⟨[(.data true (.arr 4 tI))], []⟩
def s_NearestCodeword_o : RSh := ⟨(.tcons (.data true (.arr 4 tI)) (.tcons (.data true tI) (.tcons (.data true .bool) .tnil))), []⟩
theorem s_NearestCodeword_ev (n : Nat) (x : TupT s_NearestCodeword_i.tys) : evF ⟨tab, [s_l2Card_e n, s_l11Nearest_e n], n, []⟩ Try.f13 s_NearestCodeword_i s_NearestCodeword_o x = s_NearestCodeword n x := by kernel_rfl
noncomputable def s_NearestCodeword_e (n : Nat) : Ent := ⟨13, s_NearestCodeword_i, s_NearestCodeword_o, fun x => s_NearestCodeword n x⟩
theorem s_NearestCodeword_ok (n : Nat) : EntOK Try.prog (s_NearestCodeword_e n) ∧ Own Try.prog 13 := ent_ok tabOK0 (.cons (s_l2Card_ok n) (.cons (s_l11Nearest_ok n) .nil)) Try.func13 rfl (by kernel_rfl) (s_NearestCodeword_ev n)
def i_IsCodeword_i : CSh := ⟨[(.data true (.arr 4 tI))], []⟩
def i_IsCodeword_o : RSh := ⟨(.tcons (.data true .bool) (.tcons (.data true .bool) .tnil)), []⟩
theorem i_IsCodeword_ev (n : Nat) (x : TupT i_IsCodeword_i.tys) : evF ⟨tab, [i_IsCard_e n, i_codeword_e n], n, []⟩ Try.f15 i_IsCodeword_i i_IsCodeword_o x = i_IsCodeword n x := by kernel_rfl
noncomputable def i_IsCodeword_e (n : Nat) : Ent := ⟨15, i_IsCodeword_i, i_IsCodeword_o, fun x => i_IsCodeword n x⟩
theorem i_IsCodeword_ok (n : Nat) : EntOK Try.prog (i_IsCodeword_e n) ∧ Own Try.prog 15 := ent_ok tabOK0 (.cons (i_IsCard_ok n) (.cons (i_codeword_ok n) .nil)) Try.func15 rfl (by kernel_rfl) (i_IsCodeword_ev n)
def s_IsCodeword_i : CSh := ⟨[(.data true (.arr 4 tI))], []⟩
def s_IsCodeword_o : RSh := ⟨(.tcons (.data true .bool) (.tcons (.data true .bool) .tnil)), []⟩
theorem s_IsCodeword_ev (n : Nat) (x : TupT s_IsCodeword_i.tys) : evF ⟨tab, [s_l2Card_e n, s_l11Word_e n], n, []⟩ Try.f16 s_IsCodeword_i s_IsCodeword_o x = s_IsCodeword n x := by kernel_rfl
noncomputable def s_IsCodeword_e (n : Nat) : Ent := ⟨16, s_IsCodeword_i, s_IsCodeword_o, fun x => s_IsCodeword n x⟩
theorem s_IsCodeword_ok (n : Nat) : EntOK Try.prog (s_IsCodeword_e n) ∧ Own Try.prog 16 := ent_ok tabOK0 (.cons (s_l2Card_ok n) (.cons (s_l11Word_ok n) .nil)) Try.func16 rfl (by kernel_rfl) (s_IsCodeword_ev n)
def i_Codewords_i : CSh := ⟨[], []⟩
def i_Codewords_o : RSh := ⟨(.own 0), [.rows 24 true (.arr 4 tI)]⟩
theorem i_Codewords_ev (n : Nat) (x : TupT i_Codewords_i.tys) : evF ⟨tab, [i_codewords_e n], n, []⟩ Try.f17 i_Codewords_i i_Codewords_o x = i_Codewords n := by kernel_rfl
noncomputable def i_Codewords_e (n : Nat) : Ent := ⟨17, i_Codewords_i, i_Codewords_o, fun x => i_Codewords n⟩
theorem i_Codewords_ok (n : Nat) : EntOK Try.prog (i_Codewords_e n) ∧ Own Try.prog 17 := ent_ok tabOK0 (.cons (i_codewords_ok n) .nil) Try.func17 rfl (by kernel_rfl) (i_Codewords_ev n)
def s_l2Number_i : CSh := ⟨[(.data true (.arr 4 tI))], []⟩
def s_l2Number_o : RSh := ⟨(.data true tI), []⟩
theorem s_l2Number_ev (n : Nat) (x : TupT s_l2Number_i.tys) : evF ⟨tab, [], n, []⟩ Try.f236 s_l2Number_i s_l2Number_o x = s_l2Number n x := by kernel_rfl
noncomputable def s_l2Number_e (n : Nat) : Ent := ⟨236, s_l2Number_i, s_l2Number_o, fun x => s_l2Number n x⟩
theorem s_l2Number_ok (n : Nat) : EntOK Try.prog (s_l2Number_e n) ∧ Own Try.prog 236 := ent_ok tabOK0 .nil Try.func236 rfl (by kernel_rfl) (s_l2Number_ev n)
def s_l2Less_i : CSh := ⟨[(.data true (.arr 4 tI)), (.data true (.arr 4 tI))], []⟩
def s_l2Less_o : RSh := ⟨(.data true .bool), []⟩
theorem s_l2Less_ev (n : Nat) (x : TupT s_l2Less_i.tys) : evF ⟨tab, [s_l2Number_e n], n, []⟩ Try.f216 s_l2Less_i s_l2Less_o x = s_l2Less n x.1 x.2 := by kernel_rfl
noncomputable def s_l2Less_e (n : Nat) : Ent := ⟨216, s_l2Less_i, s_l2Less_o, fun x => s_l2Less n x.1 x.2⟩
theorem s_l2Less_ok (n : Nat) : EntOK Try.prog (s_l2Less_e n) ∧ Own Try.prog 216 := ent_ok tabOK0 (.cons (s_l2Number_ok n) .nil) Try.func216 rfl (by kernel_rfl) (s_l2Less_ev n)
def s_l2Own_i : CSh := ⟨[(.data false (.sl (.arr 4 tI)))], []⟩
def s_l2Own_o : RSh := ⟨(.own 0), [.rows 24 true (.arr 4 tI)]⟩
theorem s_l2Own_ev (n : Nat) (x : TupT s_l2Own_i.tys) : evF ⟨tab, [], n, []⟩ Try.f137 s_l2Own_i s_l2Own_o x = s_l2Own n x := by kernel_rfl
noncomputable def s_l2Own_e (n : Nat) : Ent := ⟨137, s_l2Own_i, s_l2Own_o, fun x => s_l2Own n x⟩
theorem s_l2Own_ok (n : Nat) : EntOK Try.prog (s_l2Own_e n) ∧ Own Try.prog 137 := ent_ok tabOK0 .nil Try.func137 rfl (by kernel_rfl) (s_l2Own_ev n)
def s_l2Put_i : CSh := ⟨[(.data false (.sl (.arr 4 tI))), (.data true (.arr 4 tI))], []⟩
def s_l2Put_o : RSh := ⟨(.own 0), [.rows 24 true (.arr 4 tI)]⟩
theorem s_l2Put_ev (n : Nat) (x : TupT s_l2Put_i.tys) : evF ⟨tab, [s_l2Less_e n, s_l2Own_e n], n, [(6, ⟨[(0, (.data false (.sl (.arr 4 tI)))), (3, (.ptr 0 [])), (5, (.data true tI))], [.var 24 (.data true (.arr 4 tI))], 0⟩)]⟩ Try.f129 s_l2Put_i s_l2Put_o x = s_l2Put n x.1 x.2 := by kernel_rfl
noncomputable def s_l2Put_e (n : Nat) : Ent := ⟨129, s_l2Put_i, s_l2Put_o, fun x => s_l2Put n x.1 x.2⟩
theorem s_l2Put_ok (n : Nat) : EntOK Try.prog (s_l2Put_e n) ∧ Own Try.prog 129 := ent_ok tabOK0 (.cons (s_l2Less_ok n) (.cons (s_l2Own_ok n) .nil)) Try.func129 rfl (by kernel_rfl) (s_l2Put_ev n)
def s_Codewords_i : CSh := ⟨[], []⟩
def s_Codewords_o : RSh := ⟨(.own 0), [.rows 24 true (.arr 4 tI)]⟩
theorem s_Codewords_ev (n : Nat) (x : TupT s_Codewords_i.tys) : evF ⟨tab, [s_l11Word_e n, s_l2Put_e n], n, [(8, ⟨[(1, (.own 0)), (2, (.data true tI))], [.rows 24 true (.arr 4 tI)], 0⟩)]⟩ Try.f19 s_Codewords_i s_Codewords_o x = s_Codewords n := by kernel_rfl
noncomputable def s_Codewords_e (n : Nat) : Ent := ⟨19, s_Codewords_i, s_Codewords_o, fun x => s_Codewords n⟩
theorem s_Codewords_ok (n : Nat) : EntOK Try.prog (s_Codewords_e n) ∧ Own Try.prog 19 := ent_ok tabOK0 (.cons (s_l11Word_ok n) (.cons (s_l2Put_ok n) .nil)) Try.func19 rfl (by kernel_rfl) (s_Codewords_ev n)
def v_rHand_i : CSh := ⟨[(.data false (.sl (.arr 4 tI))), (.data false (.sl (.arr 4 tI)))], []⟩
def v_rHand_o : RSh := ⟨(.data true .bool), []⟩
theorem v_rHand_ev (n : Nat) (x : TupT v_rHand_i.tys) : evF ⟨tab, [], n, [(14, ⟨[(0, (.data false (.sl (.arr 4 tI)))), (1, (.data false (.sl (.arr 4 tI)))), (5, (.data true tI))], [], 0⟩)]⟩ Try.f18 v_rHand_i v_rHand_o x = v_rHand n x.1 x.2 := by kernel_rfl
noncomputable def v_rHand_e (n : Nat) : Ent := ⟨18, v_rHand_i, v_rHand_o, fun x => v_rHand n x.1 x.2⟩
theorem v_rHand_ok (n : Nat) : EntOK Try.prog (v_rHand_e n) ∧ Own Try.prog 18 := ent_ok tabOK0 .nil Try.func18 rfl (by kernel_rfl) (v_rHand_ev n)
def s_DrawSendMessage_i : CSh := ⟨[(.data false (.sl (.int .u8)))], []⟩
def s_DrawSendMessage_o : RSh := ⟨(.own 0), [.rows 3 true tI]⟩
theorem s_DrawSendMessage_ev (n : Nat) (x : TupT s_DrawSendMessage_i.tys) : evF ⟨tab, [s_Cur_among'pl_e n, s_Cur_pick'p_e n, s_Cur_one'p_e n], n, [(10, ⟨[(3, (.ptr 0 [])), (4, (.own 1)), (5, (.data true tI))], [.var 113 (.data false (.pair (.sl (.int .u8)) (.pair tI (.int .u64)))), .rows 3 true tI], 0⟩), (5000023, ⟨[(3, (.ptr 0 [])), (4, (.own 1)), (28, (.data true .bool))], [.var 113 (.data false (.pair (.sl (.int .u8)) (.pair tI (.int .u64)))), .rows 3 true tI], 0⟩)]⟩ Try.f20 s_DrawSendMessage_i s_DrawSendMessage_o x = s_DrawSendMessage n x := by kernel_rfl
noncomputable def s_DrawSendMessage_e (n : Nat) : Ent := ⟨20, s_DrawSendMessage_i, s_DrawSendMessage_o, fun x => s_DrawSendMessage n x⟩
theorem s_DrawSendMessage_ok (n : Nat) : EntOK Try.prog (s_DrawSendMessage_e n) ∧ Own Try.prog 20 := ent_ok tabOK0 (.cons (s_Cur_among'pl_ok n) (.cons (s_Cur_pick'p_ok n) (.cons (s_Cur_one'p_ok n) .nil))) Try.func20 rfl (by kernel_rfl) (s_DrawSendMessage_ev n)
def i_SendMessage_i : CSh := ⟨[(.data false (.sl tI))], []⟩
def i_SendMessage_o : RSh := ⟨(.tcons (.own 0) (.tcons (.data true .bool) .tnil)), [.rows 24 true (.arr 4 tI)]⟩
theorem i_SendMessage_ev (n : Nat) (x : TupT i_SendMessage_i.tys) : evF ⟨tab, [i_allWithin_e n, i_codeword_e n], n, [(16, ⟨[(4, (.own 0)), (16, (.data false (.sl tI))), (17, (.data true tI)), (18, (.data true tI))], [.rows 24 true (.arr 4 tI)], 0⟩)]⟩ Try.f21 i_SendMessage_i i_SendMessage_o x = i_SendMessage n x := by kernel_rfl
noncomputable def i_SendMessage_e (n : Nat) : Ent := ⟨21, i_SendMessage_i, i_SendMessage_o, fun x => i_SendMessage n x⟩
theorem i_SendMessage_ok (n : Nat) : EntOK Try.prog (i_SendMessage_e n) ∧ Own Try.prog 21 := ent_ok tabOK0 (.cons (i_allWithin_ok n) (.cons (i_codeword_ok n) .nil)) Try.func21 rfl (by kernel_rfl) (i_SendMessage_ev n)
def s_l11Message_i : CSh := ⟨[(.data false (.sl tI))], []⟩
def s_l11Message_o : RSh := ⟨(.data true .bool), []⟩
theorem s_l11Message_ev (n : Nat) (x : TupT s_l11Message_i.tys) : evF ⟨tab, [s_l1In_e n], n, [(6, ⟨[(0, (.data false (.sl tI))), (3, (.data true tI))], [], 0⟩)]⟩ Try.f133 s_l11Message_i s_l11Message_o x = s_l11Message n x := by kernel_rfl
noncomputable def s_l11Message_e (n : Nat) : Ent := ⟨133, s_l11Message_i, s_l11Message_o, fun x => s_l11Message n x⟩
theorem s_l11Message_ok (n : Nat) : EntOK Try.prog (s_l11Message_e n) ∧ Own Try.prog 133 := ent_ok tabOK0 (.cons (s_l1In_ok n) .nil) Try.func133 rfl (by kernel_rfl) (s_l11Message_ev n)
def s_SendMessage_i : CSh := ⟨[(.data false (.sl tI))], []⟩
def s_SendMessage_o : RSh := ⟨(.tcons (.own 0) (.tcons (.data true .bool) .tnil)), [.rows 24 true (.arr 4 tI)]⟩
theorem s_SendMessage_ev (n : Nat) (x : TupT s_SendMessage_i.tys) : evF ⟨tab, [s_l11Message_e n, s_l11Word_e n], n, [(16, ⟨[(0, (.data false (.sl tI))), (4, (.own 0)), (5, (.data true tI))], [.rows 24 true (.arr 4 tI)], 0⟩)]⟩ Try.f22 s_SendMessage_i s_SendMessage_o x = s_SendMessage n x := by kernel_rfl
noncomputable def s_SendMessage_e (n : Nat) : Ent := ⟨22, s_SendMessage_i, s_SendMessage_o, fun x => s_SendMessage n x⟩
theorem s_SendMessage_ok (n : Nat) : EntOK Try.prog (s_SendMessage_e n) ∧ Own Try.prog 22 := ent_ok tabOK0 (.cons (s_l11Message_ok n) (.cons (s_l11Word_ok n) .nil)) Try.func22 rfl (by kernel_rfl) (s_SendMessage_ev n)
def s_Cur_sent'p_i : CSh := ⟨[(.ptr 0 [])], [.var 113 (.data true (.pair (.sl (.int .u8)) (.pair tI (.int .u64))))]⟩
def s_Cur_sent'p_o : RSh := ⟨(.own 1), [.var 113 (.data true (.pair (.sl (.int .u8)) (.pair tI (.int .u64)))), .rows 24 true (.arr 4 tI)]⟩
theorem s_Cur_sent'p_ev (n : Nat) (x : TupT s_Cur_sent'p_i.tys) : evF ⟨tab, [s_Cur_among'pl_e n, s_Cur_pick'p_e n, s_l11Word_e n, s_Cur_one'p_e n, s_Cur_card'p_e n], n, [(8, ⟨[(0, (.ptr 0 [])), (3, (.own 1)), (4, (.data true tI))], [.var 113 (.data true (.pair (.sl (.int .u8)) (.pair tI (.int .u64)))), .rows 24 true (.arr 4 tI)], 1⟩), (19, ⟨[(0, (.ptr 0 [])), (3, (.own 1)), (4, (.data true tI)), (5, (.ptr 2 []))], [.var 113 (.data true (.pair (.sl (.int .u8)) (.pair tI (.int .u64)))), .rows 24 true (.arr 4 tI), .var 24 (.data true (.arr 4 tI))], 1⟩)]⟩ Try.f134 s_Cur_sent'p_i s_Cur_sent'p_o x = s_Cur_sent'p n x := by kernel_rfl
noncomputable def s_Cur_sent'p_e (n : Nat) : Ent := ⟨134, s_Cur_sent'p_i, s_Cur_sent'p_o, fun x => s_Cur_sent'p n x⟩
theorem s_Cur_sent'p_ok (n : Nat) : EntOK Try.prog (s_Cur_sent'p_e n) ∧ Own Try.prog 134 := ent_ok tabOK0 (.cons (s_Cur_among'pl_ok n) (.cons (s_Cur_pick'p_ok n) (.cons (s_l11Word_ok n) (.cons (s_Cur_one'p_ok n) (.cons (s_Cur_card'p_ok n) .nil))))) Try.func134 rfl (by kernel_rfl) (s_Cur_sent'p_ev n)
def s_DrawReadMessage_i : CSh := ⟨[(.data false (.sl (.int .u8)))], []⟩
def s_DrawReadMessage_o : RSh := ⟨(.own 0), [.rows 24 true (.arr 4 tI)]⟩
theorem s_DrawReadMessage_ev (n : Nat) (x : TupT s_DrawReadMessage_i.tys) : evF ⟨tab, [s_Cur_sent'p_e n], n, []⟩ Try.f23 s_DrawReadMessage_i s_DrawReadMessage_o x = s_DrawReadMessage n x := by kernel_rfl
noncomputable def s_DrawReadMessage_e (n : Nat) : Ent := ⟨23, s_DrawReadMessage_i, s_DrawReadMessage_o, fun x => s_DrawReadMessage n x⟩
theorem s_DrawReadMessage_ok (n : Nat) : EntOK Try.prog (s_DrawReadMessage_e n) ∧ Own Try.prog 23 := ent_ok tabOK0 (.cons (s_Cur_sent'p_ok n) .nil) Try.func23 rfl (by kernel_rfl) (s_DrawReadMessage_ev n)
def i_areCards_1_i : CSh := ⟨[(.data true (.arr 4 tI))], []⟩
def i_areCards_1_o : RSh := ⟨(.data true .bool), []⟩
theorem i_areCards_1_ev (n : Nat) (x : TupT i_areCards_1_i.tys) : evF ⟨tab, [i_IsCard_e n], n, []⟩ Try.f219 i_areCards_1_i i_areCards_1_o x = i_areCards_1 n x := by kernel_rfl
noncomputable def i_areCards_1_e (n : Nat) : Ent := ⟨219, i_areCards_1_i, i_areCards_1_o, fun x => i_areCards_1 n x⟩
theorem i_areCards_1_ok (n : Nat) : EntOK Try.prog (i_areCards_1_e n) ∧ Own Try.prog 219 := ent_ok tabOK0 (.cons (i_IsCard_ok n) .nil) Try.func219 rfl (by kernel_rfl) (i_areCards_1_ev n)
def slices_IndexFunc_SA4_A4_'l_i_areCards_1_i : CSh := ⟨[(.data false (.sl (.arr 4 tI))), (.clo 219 .tnil)], []⟩
def slices_IndexFunc_SA4_A4_'l_i_areCards_1_o : RSh := ⟨(.data true tI), []⟩
theorem slices_IndexFunc_SA4_A4_'l_i_areCards_1_ev (n : Nat) (x : TupT slices_IndexFunc_SA4_A4_'l_i_areCards_1_i.tys) : evF ⟨tab, [i_areCards_1_e n], n, [(6, ⟨[(0, (.data false (.sl (.arr 4 tI)))), (1, (.clo 219 .tnil)), (7, (.data true tI)), (8, (.data true tI))], [], 0⟩)]⟩ Try.f237 slices_IndexFunc_SA4_A4_'l_i_areCards_1_i slices_IndexFunc_SA4_A4_'l_i_areCards_1_o x = slices_IndexFunc_SA4_A4_'l_i_areCards_1 n x := by kernel_rfl
noncomputable def slices_IndexFunc_SA4_A4_'l_i_areCards_1_e (n : Nat) : Ent := ⟨237, slices_IndexFunc_SA4_A4_'l_i_areCards_1_i, slices_IndexFunc_SA4_A4_'l_i_areCards_1_o, fun x => slices_IndexFunc_SA4_A4_'l_i_areCards_1 n x⟩
theorem slices_IndexFunc_SA4_A4_'l_i_areCards_1_ok (n : Nat) : EntOK Try.prog (slices_IndexFunc_SA4_A4_'l_i_areCards_1_e n) ∧ Own Try.prog 237 := ent_ok tabOK0 (.cons (i_areCards_1_ok n) .nil) Try.func237 rfl (by kernel_rfl) (slices_IndexFunc_SA4_A4_'l_i_areCards_1_ev n)
def slices_ContainsFunc_SA4_A4_'l_i_areCards_1_i : CSh := ⟨[(.data false (.sl (.arr 4 tI))), (.clo 219 .tnil)], []⟩
def slices_ContainsFunc_SA4_A4_'l_i_areCards_1_o : RSh := ⟨(.data true .bool), []⟩
theorem slices_ContainsFunc_SA4_A4_'l_i_areCards_1_ev (n : Nat) (x : TupT slices_ContainsFunc_SA4_A4_'l_i_areCards_1_i.tys) : evF ⟨tab, [slices_IndexFunc_SA4_A4_'l_i_areCards_1_e n], n, []⟩ Try.f218 slices_ContainsFunc_SA4_A4_'l_i_areCards_1_i slices_ContainsFunc_SA4_A4_'l_i_areCards_1_o x = slices_ContainsFunc_SA4_A4_'l_i_areCards_1 n x := by kernel_rfl
noncomputable def slices_ContainsFunc_SA4_A4_'l_i_areCards_1_e (n : Nat) : Ent := ⟨218, slices_ContainsFunc_SA4_A4_'l_i_areCards_1_i, slices_ContainsFunc_SA4_A4_'l_i_areCards_1_o, fun x => slices_ContainsFunc_SA4_A4_'l_i_areCards_1 n x⟩
theorem slices_ContainsFunc_SA4_A4_'l_i_areCards_1_ok (n : Nat) : EntOK Try.prog (slices_ContainsFunc_SA4_A4_'l_i_areCards_1_e n) ∧ Own Try.prog 218 := ent_ok tabOK0 (.cons (slices_IndexFunc_SA4_A4_'l_i_areCards_1_ok n) .nil) Try.func218 rfl (by kernel_rfl) (slices_ContainsFunc_SA4_A4_'l_i_areCards_1_ev n)
def i_areCards_i : CSh := ⟨[(.data false (.sl (.arr 4 tI)))], []⟩
def i_areCards_o : RSh := ⟨(.data true .bool), []⟩
theorem i_areCards_ev (n : Nat) (x : TupT i_areCards_i.tys) : evF ⟨tab, [slices_ContainsFunc_SA4_A4_'l_i_areCards_1_e n], n, []⟩ Try.f135 i_areCards_i i_areCards_o x = i_areCards n x := by kernel_rfl
noncomputable def i_areCards_e (n : Nat) : Ent := ⟨135, i_areCards_i, i_areCards_o, fun x => i_areCards n x⟩
theorem i_areCards_ok (n : Nat) : EntOK Try.prog (i_areCards_e n) ∧ Own Try.prog 135 := ent_ok tabOK0 (.cons (slices_ContainsFunc_SA4_A4_'l_i_areCards_1_ok n) .nil) Try.func135 rfl (by kernel_rfl) (i_areCards_ev n)
def i_ReadMessage_i : CSh := ⟨[(.data false (.sl (.arr 4 tI)))], []⟩
def i_ReadMessage_o : RSh := ⟨(.tcons (.own 0) (.tcons (.data true tI) (.tcons (.data true .bool) .tnil))), [.rows 3 true tI]⟩
theorem i_ReadMessage_ev (n : Nat) (x : TupT i_ReadMessage_i.tys) : evF ⟨tab, [i_areCards_e n, i_nearest_e n], n, [(16, ⟨[(5, (.own 0)), (6, (.data true tI)), (20, (.data false (.sl (.arr 4 tI)))), (21, (.data true tI)), (22, (.data true tI))], [.rows 3 true tI], 0⟩), (29, ⟨[(5, (.own 0)), (6, (.data true tI)), (9, (.ptr 1 [])), (20, (.data false (.sl (.arr 4 tI)))), (21, (.data true tI)), (22, (.data true tI))], [.rows 3 true tI, .var 24 (.data true (.arr 4 tI))], 0⟩)]⟩ Try.f24 i_ReadMessage_i i_ReadMessage_o x = i_ReadMessage n x := by kernel_rfl
noncomputable def i_ReadMessage_e (n : Nat) : Ent := ⟨24, i_ReadMessage_i, i_ReadMessage_o, fun x => i_ReadMessage n x⟩
theorem i_ReadMessage_ok (n : Nat) : EntOK Try.prog (i_ReadMessage_e n) ∧ Own Try.prog 24 := ent_ok tabOK0 (.cons (i_areCards_ok n) (.cons (i_nearest_ok n) .nil)) Try.func24 rfl (by kernel_rfl) (i_ReadMessage_ev n)
def s_l11Cards_i : CSh := ⟨[(.data false (.sl (.arr 4 tI)))], []⟩
def s_l11Cards_o : RSh := ⟨(.data true .bool), []⟩
theorem s_l11Cards_ev (n : Nat) (x : TupT s_l11Cards_i.tys) : evF ⟨tab, [s_l2Card_e n], n, [(6, ⟨[(0, (.data false (.sl (.arr 4 tI)))), (3, (.data true tI))], [], 0⟩)]⟩ Try.f136 s_l11Cards_i s_l11Cards_o x = s_l11Cards n x := by kernel_rfl
noncomputable def s_l11Cards_e (n : Nat) : Ent := ⟨136, s_l11Cards_i, s_l11Cards_o, fun x => s_l11Cards n x⟩
theorem s_l11Cards_ok (n : Nat) : EntOK Try.prog (s_l11Cards_e n) ∧ Own Try.prog 136 := ent_ok tabOK0 (.cons (s_l2Card_ok n) .nil) Try.func136 rfl (by kernel_rfl) (s_l11Cards_ev n)
def s_ReadMessage_i : CSh := ⟨[(.data false (.sl (.arr 4 tI)))], []⟩
def s_ReadMessage_o : RSh := ⟨(.tcons (.own 0) (.tcons (.data true tI) (.tcons (.data true .bool) .tnil))), [.rows 3 true tI]⟩
theorem s_ReadMessage_ev (n : Nat) (x : TupT s_ReadMessage_i.tys) : evF ⟨tab, [s_l11Cards_e n, s_l11Nearest_e n], n, [(16, ⟨[(0, (.data false (.sl (.arr 4 tI)))), (5, (.own 0)), (6, (.data true tI)), (7, (.data true tI))], [.rows 3 true tI], 0⟩)]⟩ Try.f25 s_ReadMessage_i s_ReadMessage_o x = s_ReadMessage n x := by kernel_rfl
noncomputable def s_ReadMessage_e (n : Nat) : Ent := ⟨25, s_ReadMessage_i, s_ReadMessage_o, fun x => s_ReadMessage n x⟩
theorem s_ReadMessage_ok (n : Nat) : EntOK Try.prog (s_ReadMessage_e n) ∧ Own Try.prog 25 := ent_ok tabOK0 (.cons (s_l11Cards_ok n) (.cons (s_l11Nearest_ok n) .nil)) Try.func25 rfl (by kernel_rfl) (s_ReadMessage_ev n)
def v_rInts_i : CSh := ⟨[(.data false (.sl tI)), (.data false (.sl tI))], []⟩
def v_rInts_o : RSh := ⟨(.data true .bool), []⟩
theorem v_rInts_ev (n : Nat) (x : TupT v_rInts_i.tys) : evF ⟨tab, [], n, [(14, ⟨[(0, (.data false (.sl tI))), (1, (.data false (.sl tI))), (5, (.data true tI))], [], 0⟩)]⟩ Try.f26 v_rInts_i v_rInts_o x = v_rInts n x.1 x.2 := by kernel_rfl
noncomputable def v_rInts_e (n : Nat) : Ent := ⟨26, v_rInts_i, v_rInts_o, fun x => v_rInts n x.1 x.2⟩
theorem v_rInts_ok (n : Nat) : EntOK Try.prog (v_rInts_e n) ∧ Own Try.prog 26 := ent_ok tabOK0 .nil Try.func26 rfl (by kernel_rfl) (v_rInts_ev n)
def s_Cur_near'p_i : CSh := ⟨[(.ptr 0 []), (.data true (.arr 4 tI))], [.var 113 (.data true (.pair (.sl (.int .u8)) (.pair tI (.int .u64))))]⟩
def s_Cur_near'p_o : RSh := ⟨(.data true (.arr 4 tI)), [.var 113 (.data true (.pair (.sl (.int .u8)) (.pair tI (.int .u64))))]⟩
theorem s_Cur_near'p_ev (n : Nat) (x : TupT s_Cur_near'p_i.tys) : evF ⟨tab, [s_Cur_one'p_e n, s_Cur_card'p_e n, s_Cur_pick'p_e n], n, []⟩ Try.f138 s_Cur_near'p_i s_Cur_near'p_o x = s_Cur_near'p n x.1 x.2 := by kernel_rfl
noncomputable def s_Cur_near'p_e (n : Nat) : Ent := ⟨138, s_Cur_near'p_i, s_Cur_near'p_o, fun x => s_Cur_near'p n x.1 x.2⟩
theorem s_Cur_near'p_ok (n : Nat) : EntOK Try.prog (s_Cur_near'p_e n) ∧ Own Try.prog 138 := ent_ok tabOK0 (.cons (s_Cur_one'p_ok n) (.cons (s_Cur_card'p_ok n) (.cons (s_Cur_pick'p_ok n) .nil))) Try.func138 rfl (by kernel_rfl) (s_Cur_near'p_ev n)
def s_DrawCodeDistance_i : CSh := ⟨[(.data false (.sl (.int .u8)))], []⟩
def s_DrawCodeDistance_o : RSh := ⟨(.tcons (.own 0) (.tcons (.data true (.sl (.arr 4 tI))) .tnil)), [.rows 24 true (.arr 4 tI)]⟩
theorem s_DrawCodeDistance_ev (n : Nat) (x : TupT s_DrawCodeDistance_i.tys) : evF ⟨tab, [s_Cur_sent'p_e n, s_l2Own_e n, s_Cur_one'p_e n, s_Cur_near'p_e n], n, [(12, ⟨[(4, (.ptr 0 [])), (5, (.own 1)), (6, (.own 2)), (7, (.data true tI))], [.var 113 (.data false (.pair (.sl (.int .u8)) (.pair tI (.int .u64)))), .rows 24 true (.arr 4 tI), .rows 24 true (.arr 4 tI)], 0⟩), (5000029, ⟨[(5, (.own 0)), (6, (.own 1)), (38, (.data true .bool))], [.rows 24 true (.arr 4 tI), .rows 24 true (.arr 4 tI)], 0⟩)]⟩ Try.f27 s_DrawCodeDistance_i s_DrawCodeDistance_o x = s_DrawCodeDistance n x := by kernel_rfl
noncomputable def s_DrawCodeDistance_e (n : Nat) : Ent := ⟨27, s_DrawCodeDistance_i, s_DrawCodeDistance_o, fun x => s_DrawCodeDistance n x⟩
theorem s_DrawCodeDistance_ok (n : Nat) : EntOK Try.prog (s_DrawCodeDistance_e n) ∧ Own Try.prog 27 := ent_ok tabOK0 (.cons (s_Cur_sent'p_ok n) (.cons (s_l2Own_ok n) (.cons (s_Cur_one'p_ok n) (.cons (s_Cur_near'p_ok n) .nil)))) Try.func27 rfl (by kernel_rfl) (s_DrawCodeDistance_ev n)
def i_CodeDistance_i : CSh := ⟨[(.data false (.sl (.arr 4 tI))), (.data false (.sl (.arr 4 tI)))], []⟩
def i_CodeDistance_o : RSh := ⟨(.tcons (.data true tI) (.tcons (.data true .bool) .tnil)), []⟩
theorem i_CodeDistance_ev (n : Nat) (x : TupT i_CodeDistance_i.tys) : evF ⟨tab, [i_areCards_e n, i_differ_e n], n, [(16, ⟨[(1, (.data false (.sl (.arr 4 tI)))), (6, (.data true tI)), (29, (.data false (.sl (.arr 4 tI)))), (30, (.data true tI)), (31, (.data true tI))], [], 0⟩)]⟩ Try.f28 i_CodeDistance_i i_CodeDistance_o x = i_CodeDistance n x.1 x.2 := by kernel_rfl
noncomputable def i_CodeDistance_e (n : Nat) : Ent := ⟨28, i_CodeDistance_i, i_CodeDistance_o, fun x => i_CodeDistance n x.1 x.2⟩
theorem i_CodeDistance_ok (n : Nat) : EntOK Try.prog (i_CodeDistance_e n) ∧ Own Try.prog 28 := ent_ok tabOK0 (.cons (i_areCards_ok n) (.cons (i_differ_ok n) .nil)) Try.func28 rfl (by kernel_rfl) (i_CodeDistance_ev n)
def s_CodeDistance_i : CSh := ⟨[(.data false (.sl (.arr 4 tI))), (.data false (.sl (.arr 4 tI)))], []⟩
def s_CodeDistance_o : RSh := ⟨(.tcons (.data true tI) (.tcons (.data true .bool) .tnil)), []⟩
theorem s_CodeDistance_ev (n : Nat) (x : TupT s_CodeDistance_i.tys) : evF ⟨tab, [s_l11Cards_e n, s_l2Differ_e n], n, [(16, ⟨[(0, (.data false (.sl (.arr 4 tI)))), (1, (.data false (.sl (.arr 4 tI)))), (6, (.data true tI)), (7, (.data true tI))], [], 0⟩)]⟩ Try.f29 s_CodeDistance_i s_CodeDistance_o x = s_CodeDistance n x.1 x.2 := by kernel_rfl
noncomputable def s_CodeDistance_e (n : Nat) : Ent := ⟨29, s_CodeDistance_i, s_CodeDistance_o, fun x => s_CodeDistance n x.1 x.2⟩
theorem s_CodeDistance_ok (n : Nat) : EntOK Try.prog (s_CodeDistance_e n) ∧ Own Try.prog 29 := ent_ok tabOK0 (.cons (s_l11Cards_ok n) (.cons (s_l2Differ_ok n) .nil)) Try.func29 rfl (by kernel_rfl) (s_CodeDistance_ev n)
def i_DifferIn_i : CSh := ⟨[(.data true (.arr 4 tI)), (.data true (.arr 4 tI))], []⟩
def i_DifferIn_o : RSh := ⟨(.tcons (.data true tI) (.tcons (.data true .bool) .tnil)), []⟩
theorem i_DifferIn_ev (n : Nat) (x : TupT i_DifferIn_i.tys) : evF ⟨tab, [i_areCards_e n, i_differ_e n], n, []⟩ Try.f30 i_DifferIn_i i_DifferIn_o x = i_DifferIn n x.1 x.2 := by kernel_rfl
noncomputable def i_DifferIn_e (n : Nat) : Ent := ⟨30, i_DifferIn_i, i_DifferIn_o, fun x => i_DifferIn n x.1 x.2⟩
theorem i_DifferIn_ok (n : Nat) : EntOK Try.prog (i_DifferIn_e n) ∧ Own Try.prog 30 := ent_ok tabOK0 (.cons (i_areCards_ok n) (.cons (i_differ_ok n) .nil)) Try.func30 rfl (by kernel_rfl) (i_DifferIn_ev n)
def v_FnCodes_i : CSh := ⟨[(.data false (.sl (.int .u8)))], []⟩
def v_FnCodes_o : RSh := ⟨(.data true .bool), []⟩
theorem v_FnCodes_ev (n : Nat) (x : TupT v_FnCodes_i.tys) : evF ⟨tab, [v_rBig_e n, s_DrawNearestCodeword_e n, i_NearestCodeword_e n, s_NearestCodeword_e n, i_IsCard_e n, i_IsCodeword_e n, s_IsCodeword_e n, i_Codewords_e n, s_Codewords_e n, v_rHand_e n, s_DrawSendMessage_e n, i_SendMessage_e n, s_SendMessage_e n, s_DrawReadMessage_e n, i_ReadMessage_e n, s_ReadMessage_e n, v_rInts_e n, s_DrawCodeDistance_e n, i_CodeDistance_e n, s_CodeDistance_e n, i_DifferIn_e n], n, [(88, ⟨[(3, (.ptr 0 [])), (4, (.ptr 1 [])), (6, (.data true .bool)), (14, (.own 2)), (20, (.own 3)), (21, (.own 4)), (22, (.data true tI)), (23, (.data true .bool))], [.var 24 (.data true (.arr 4 tI)), .var 24 (.data true (.arr 4 tI)), .rows 24 true (.arr 4 tI), .rows 24 true (.arr 4 tI), .rows 3 true tI], 0⟩), (98, ⟨[(3, (.ptr 0 [])), (4, (.ptr 1 [])), (6, (.data true .bool)), (14, (.own 2)), (15, (.own 3)), (16, (.own 4)), (20, (.own 5)), (21, (.own 6)), (22, (.data true tI)), (23, (.data true .bool)), (33, (.own 7)), (34, (.data true tI))], [.var 24 (.data true (.arr 4 tI)), .var 24 (.data true (.arr 4 tI)), .rows 24 true (.arr 4 tI), .rows 3 true tI, .rows 24 true (.arr 4 tI), .rows 24 true (.arr 4 tI), .rows 3 true tI, .rows 24 true (.arr 4 tI)], 0⟩), (121, ⟨[(3, (.ptr 0 [])), (4, (.ptr 1 [])), (6, (.data true .bool)), (14, (.own 2))], [.var 24 (.data true (.arr 4 tI)), .var 24 (.data true (.arr 4 tI)), .rows 24 true (.arr 4 tI)], 0⟩), (151, ⟨[(3, (.ptr 0 [])), (4, (.ptr 1 [])), (14, (.own 2)), (45, (.data true tI)), (46, (.data true tI))], [.var 24 (.data true (.arr 4 tI)), .var 24 (.data true (.arr 4 tI)), .rows 24 true (.arr 4 tI)], 0⟩)]⟩ Try.f3 v_FnCodes_i v_FnCodes_o x = v_FnCodes n x := by kernel_rfl
noncomputable def v_FnCodes_e (n : Nat) : Ent := ⟨3, v_FnCodes_i, v_FnCodes_o, fun x => v_FnCodes n x⟩
theorem v_FnCodes_ok (n : Nat) : EntOK Try.prog (v_FnCodes_e n) ∧ Own Try.prog 3 := ent_ok tabOK0 (.cons (v_rBig_ok n) (.cons (s_DrawNearestCodeword_ok n) (.cons (i_NearestCodeword_ok n) (.cons (s_NearestCodeword_ok n) (.cons (i_IsCard_ok n) (.cons (i_IsCodeword_ok n) (.cons (s_IsCodeword_ok n) (.cons (i_Codewords_ok n) (.cons (s_Codewords_ok n) (.cons (v_rHand_ok n) (.cons (s_DrawSendMessage_ok n) (.cons (i_SendMessage_ok n) (.cons (s_SendMessage_ok n) (.cons (s_DrawReadMessage_ok n) (.cons (i_ReadMessage_ok n) (.cons (s_ReadMessage_ok n) (.cons (v_rInts_ok n) (.cons (s_DrawCodeDistance_ok n) (.cons (i_CodeDistance_ok n) (.cons (s_CodeDistance_ok n) (.cons (i_DifferIn_ok n) .nil))))))))))))))))))))) Try.func3 rfl (by kernel_rfl) (v_FnCodes_ev n)
end Go.Proofs.Ytbkbkaonjhlplaa
