/- Printed by a program of the session: the contracts of the seat's functions. -/
import Derived.Test.YtbkbkaonjhlplaaZ7
import Derived.Test.YtbkbkaonjhlplaaPL
import Derived.Test.YtbkbkaonjhlplaaRows
import Derived.KernelRfl
namespace Go.Proofs.Ytbkbkaonjhlplaa
open Go Go.Tv Go.Pl Go.RowKit
set_option linter.unusedVariables false
abbrev tI : Ty := .int .i64
def tab : Tab := ⟨[(2, ⟨tI, 0, 8⟩), (3, ⟨tI, 0, 8⟩), (4, ⟨.bool, 0, 1⟩), (5, ⟨(.int .u8), 0, 1⟩), (6, ⟨(.int .u8), 0, 1⟩), (7, ⟨(.pair tI (.pair tI (.pair .bool (.int .u8)))), 4, 24⟩), (8, ⟨(.pair tI (.pair tI (.pair .bool (.int .u8)))), 4, 24⟩), (9, ⟨.str, 0, 16⟩), (10, ⟨.str, 0, 16⟩), (11, ⟨.str, 0, 16⟩), (12, ⟨(.int .u64), 0, 8⟩), (13, ⟨(.pair .str (.int .u64)), 2, 24⟩), (14, ⟨(.pair .str (.int .u64)), 2, 24⟩), (21, ⟨(.int .i32), 0, 4⟩), (22, ⟨(.sl (.int .u8)), 5, 1⟩), (24, ⟨(.arr 4 tI), 3, 8⟩), (31, ⟨(.sl (.arr 4 tI)), 24, 32⟩), (34, ⟨(.sl tI), 3, 8⟩), (58, ⟨(.arr 3 tI), 3, 8⟩), (70, ⟨(.arr 9 (.arr 4 tI)), 24, 32⟩), (80, ⟨(.pair tI (.pair tI (.sl (.arr 4 tI)))), 3, 40⟩), (81, ⟨(.pair tI (.pair tI (.sl (.arr 4 tI)))), 3, 40⟩), (90, ⟨(.sl (.arr 3 tI)), 58, 24⟩), (93, ⟨(.sl (.arr 2 tI)), 99, 16⟩), (99, ⟨(.arr 2 tI), 3, 8⟩), (111, ⟨(.int .u64), 0, 8⟩), (112, ⟨(.pair (.sl (.int .u8)) (.pair tI (.int .u64))), 3, 40⟩), (113, ⟨(.pair (.sl (.int .u8)) (.pair tI (.int .u64))), 3, 40⟩), (132, ⟨(.arr 81 .bool), 4, 1⟩), (135, ⟨(.arr 5 tI), 3, 8⟩), (147, ⟨(.arr 4 (.arr 4 tI)), 24, 32⟩), (155, ⟨(.arr 81 tI), 3, 8⟩), (167, ⟨(.int .u64), 0, 8⟩), (173, ⟨tI, 0, 8⟩), (180, ⟨(.int .u32), 0, 4⟩), (182, ⟨(.sl (.sl (.arr 4 tI))), 31, 24⟩), (183, ⟨(.int .u64), 0, 8⟩), (198, ⟨(.int .u8), 0, 1⟩), (199, ⟨(.int .u8), 0, 1⟩), (202, ⟨(.int .i32), 0, 4⟩), (203, ⟨(.int .i32), 0, 4⟩)], [7, 8, 24, 58, 70, 99, 132, 135, 147, 155], [1, 23, 25, 27, 28, 30, 32, 33, 35, 37, 38, 40, 41, 43, 45, 46, 48, 49, 50, 51, 53, 54, 55, 57, 60, 62, 63, 65, 66, 68, 69, 72, 73, 74, 75, 76, 78, 79, 83, 84, 86, 87, 88, 89, 92, 95, 96, 97, 98, 101, 102, 103, 104, 106, 107, 108, 109, 114, 115, 116, 117, 118, 119, 120, 121, 122, 123, 124, 125, 126, 127, 128, 129, 130, 131, 133, 134, 136, 137, 138, 139, 140, 141, 142, 143, 144, 145, 146, 148, 149, 150, 151, 152, 153, 154, 156, 157, 158, 159, 160, 161, 162, 163, 164, 165, 166, 168, 169, 170, 171, 172, 175, 176, 177, 178, 179, 181, 184, 185, 186, 188, 191, 192, 200]⟩
theorem tabOK0 : TabOK Try.prog tab := ⟨by kernel_rfl, by kernel_rfl⟩
def v_rBig_i : CSh := ⟨[(.data false (.sl (.int .u8)))], []⟩
def v_rBig_o : RSh := ⟨(.data true .bool), []⟩
theorem v_rBig_ev (n : Nat) (x : TupT v_rBig_i.tys) : evF ⟨tab, [], n, []⟩ Try.f10 v_rBig_i v_rBig_o x = v_rBig n x := by kernel_rfl
noncomputable def v_rBig_e (n : Nat) : Ent := ⟨10, v_rBig_i, v_rBig_o, fun x => v_rBig n x⟩
theorem v_rBig_ok (n : Nat) : EntOK Try.prog (v_rBig_e n) ∧ Own Try.prog 10 := ent_ok tabOK0 .nil Try.func10 rfl (by kernel_rfl) (v_rBig_ev n)
def s_Cur_next'p_i : CSh := ⟨[(.ptr 0 [])], [.var 113 (.data true (.pair (.sl (.int .u8)) (.pair tI (.int .u64))))]⟩
def s_Cur_next'p_o : RSh := ⟨(.data true tI), [.var 113 (.data true (.pair (.sl (.int .u8)) (.pair tI (.int .u64))))]⟩
theorem s_Cur_next'p_ev (n : Nat) (x : TupT s_Cur_next'p_i.tys) : evF ⟨tab, [], n, [(4, ⟨[(0, (.ptr 0 [])), (3, (.data true tI))], [.var 113 (.data true (.pair (.sl (.int .u8)) (.pair tI (.int .u64))))], 1⟩)]⟩ Try.f217 s_Cur_next'p_i s_Cur_next'p_o x = s_Cur_next'p n x := by kernel_rfl
noncomputable def s_Cur_next'p_e (n : Nat) : Ent := ⟨217, s_Cur_next'p_i, s_Cur_next'p_o, fun x => s_Cur_next'p n x⟩
theorem s_Cur_next'p_ok (n : Nat) : EntOK Try.prog (s_Cur_next'p_e n) ∧ Own Try.prog 217 := ent_ok tabOK0 .nil Try.func217 rfl (by kernel_rfl) (s_Cur_next'p_ev n)
def s_Cur_pick'p_i : CSh := ⟨[(.ptr 0 []), (.data true tI)], [.var 113 (.data true (.pair (.sl (.int .u8)) (.pair tI (.int .u64))))]⟩
def s_Cur_pick'p_o : RSh := ⟨(.data true tI), [.var 113 (.data true (.pair (.sl (.int .u8)) (.pair tI (.int .u64))))]⟩
theorem s_Cur_pick'p_ev (n : Nat) (x : TupT s_Cur_pick'p_i.tys) : evF ⟨tab, [s_Cur_next'p_e n], n, []⟩ Try.f131 s_Cur_pick'p_i s_Cur_pick'p_o x = s_Cur_pick'p n x.1 x.2 := by kernel_rfl
noncomputable def s_Cur_pick'p_e (n : Nat) : Ent := ⟨131, s_Cur_pick'p_i, s_Cur_pick'p_o, fun x => s_Cur_pick'p n x.1 x.2⟩
theorem s_Cur_pick'p_ok (n : Nat) : EntOK Try.prog (s_Cur_pick'p_e n) ∧ Own Try.prog 131 := ent_ok tabOK0 (.cons (s_Cur_next'p_ok n) .nil) Try.func131 rfl (by kernel_rfl) (s_Cur_pick'p_ev n)
def s_Cur_one'p_i : CSh := ⟨[(.ptr 0 []), (.data true tI)], [.var 113 (.data true (.pair (.sl (.int .u8)) (.pair tI (.int .u64))))]⟩
def s_Cur_one'p_o : RSh := ⟨(.data true .bool), [.var 113 (.data true (.pair (.sl (.int .u8)) (.pair tI (.int .u64))))]⟩
theorem s_Cur_one'p_ev (n : Nat) (x : TupT s_Cur_one'p_i.tys) : evF ⟨tab, [s_Cur_pick'p_e n], n, []⟩ Try.f132 s_Cur_one'p_i s_Cur_one'p_o x = s_Cur_one'p n x.1 x.2 := by kernel_rfl
noncomputable def s_Cur_one'p_e (n : Nat) : Ent := ⟨132, s_Cur_one'p_i, s_Cur_one'p_o, fun x => s_Cur_one'p n x.1 x.2⟩
theorem s_Cur_one'p_ok (n : Nat) : EntOK Try.prog (s_Cur_one'p_e n) ∧ Own Try.prog 132 := ent_ok tabOK0 (.cons (s_Cur_pick'p_ok n) .nil) Try.func132 rfl (by kernel_rfl) (s_Cur_one'p_ev n)
def s_Cur_among'pl_i : CSh := ⟨[(.ptr 0 []), (.data false (.sl tI))], [.var 113 (.data true (.pair (.sl (.int .u8)) (.pair tI (.int .u64))))]⟩
def s_Cur_among'pl_o : RSh := ⟨(.data true tI), [.var 113 (.data true (.pair (.sl (.int .u8)) (.pair tI (.int .u64))))]⟩
theorem s_Cur_among'pl_ev (n : Nat) (x : TupT s_Cur_among'pl_i.tys) : evF ⟨tab, [s_Cur_pick'p_e n], n, []⟩ Try.f130 s_Cur_among'pl_i s_Cur_among'pl_o x = s_Cur_among'pl n x.1 x.2 := by kernel_rfl
noncomputable def s_Cur_among'pl_e (n : Nat) : Ent := ⟨130, s_Cur_among'pl_i, s_Cur_among'pl_o, fun x => s_Cur_among'pl n x.1 x.2⟩
theorem s_Cur_among'pl_ok (n : Nat) : EntOK Try.prog (s_Cur_among'pl_e n) ∧ Own Try.prog 130 := ent_ok tabOK0 (.cons (s_Cur_pick'p_ok n) .nil) Try.func130 rfl (by kernel_rfl) (s_Cur_among'pl_ev n)
def s_Cur_seedOf'p_i : CSh := ⟨[(.ptr 0 [])], [.var 113 (.data true (.pair (.sl (.int .u8)) (.pair tI (.int .u64))))]⟩
def s_Cur_seedOf'p_o : RSh := ⟨(.data true tI), [.var 113 (.data true (.pair (.sl (.int .u8)) (.pair tI (.int .u64))))]⟩
theorem s_Cur_seedOf'p_ev (n : Nat) (x : TupT s_Cur_seedOf'p_i.tys) : evF ⟨tab, [s_Cur_one'p_e n, s_Cur_among'pl_e n, s_Cur_pick'p_e n], n, []⟩ Try.f190 s_Cur_seedOf'p_i s_Cur_seedOf'p_o x = s_Cur_seedOf'p n x := by kernel_rfl
noncomputable def s_Cur_seedOf'p_e (n : Nat) : Ent := ⟨190, s_Cur_seedOf'p_i, s_Cur_seedOf'p_o, fun x => s_Cur_seedOf'p n x⟩
theorem s_Cur_seedOf'p_ok (n : Nat) : EntOK Try.prog (s_Cur_seedOf'p_e n) ∧ Own Try.prog 190 := ent_ok tabOK0 (.cons (s_Cur_one'p_ok n) (.cons (s_Cur_among'pl_ok n) (.cons (s_Cur_pick'p_ok n) .nil))) Try.func190 rfl (by kernel_rfl) (s_Cur_seedOf'p_ev n)
def s_DrawNextSeed_i : CSh := ⟨[(.data false (.sl (.int .u8)))], []⟩
def s_DrawNextSeed_o : RSh := ⟨(.data true tI), []⟩
theorem s_DrawNextSeed_ev (n : Nat) (x : TupT s_DrawNextSeed_i.tys) : evF ⟨tab, [s_Cur_seedOf'p_e n], n, []⟩ Try.f177 s_DrawNextSeed_i s_DrawNextSeed_o x = s_DrawNextSeed n x := by kernel_rfl
noncomputable def s_DrawNextSeed_e (n : Nat) : Ent := ⟨177, s_DrawNextSeed_i, s_DrawNextSeed_o, fun x => s_DrawNextSeed n x⟩
theorem s_DrawNextSeed_ok (n : Nat) : EntOK Try.prog (s_DrawNextSeed_e n) ∧ Own Try.prog 177 := ent_ok tabOK0 (.cons (s_Cur_seedOf'p_ok n) .nil) Try.func177 rfl (by kernel_rfl) (s_DrawNextSeed_ev n)
def s_DrawPlayDeal_i : CSh := ⟨[(.data false (.sl (.int .u8)))], []⟩
def s_DrawPlayDeal_o : RSh := ⟨(.data true tI), []⟩
theorem s_DrawPlayDeal_ev (n : Nat) (x : TupT s_DrawPlayDeal_i.tys) : evF ⟨tab, [s_DrawNextSeed_e n], n, []⟩ Try.f77 s_DrawPlayDeal_i s_DrawPlayDeal_o x = s_DrawPlayDeal n x := by kernel_rfl
noncomputable def s_DrawPlayDeal_e (n : Nat) : Ent := ⟨77, s_DrawPlayDeal_i, s_DrawPlayDeal_o, fun x => s_DrawPlayDeal n x⟩
theorem s_DrawPlayDeal_ok (n : Nat) : EntOK Try.prog (s_DrawPlayDeal_e n) ∧ Own Try.prog 77 := ent_ok tabOK0 (.cons (s_DrawNextSeed_ok n) .nil) Try.func77 rfl (by kernel_rfl) (s_DrawPlayDeal_ev n)
def i_within_i : CSh := ⟨[(.data true tI), (.data true tI), (.data true tI)], []⟩
def i_within_o : RSh := ⟨(.data true .bool), []⟩
theorem i_within_ev (n : Nat) (x : TupT i_within_i.tys) : evF ⟨tab, [], n, []⟩ Try.f153 i_within_i i_within_o x = i_within n x.1 x.2.1 x.2.2 := by kernel_rfl
noncomputable def i_within_e (n : Nat) : Ent := ⟨153, i_within_i, i_within_o, fun x => i_within n x.1 x.2.1 x.2.2⟩
theorem i_within_ok (n : Nat) : EntOK Try.prog (i_within_e n) ∧ Own Try.prog 153 := ent_ok tabOK0 .nil Try.func153 rfl (by kernel_rfl) (i_within_ev n)
def i_isSeed_i : CSh := ⟨[(.data true tI)], []⟩
def i_isSeed_o : RSh := ⟨(.data true .bool), []⟩
theorem i_isSeed_ev (n : Nat) (x : TupT i_isSeed_i.tys) : evF ⟨tab, [i_within_e n], n, []⟩ Try.f178 i_isSeed_i i_isSeed_o x = i_isSeed n x := by kernel_rfl
noncomputable def i_isSeed_e (n : Nat) : Ent := ⟨178, i_isSeed_i, i_isSeed_o, fun x => i_isSeed n x⟩
theorem i_isSeed_ok (n : Nat) : EntOK Try.prog (i_isSeed_e n) ∧ Own Try.prog 178 := ent_ok tabOK0 (.cons (i_within_ok n) .nil) Try.func178 rfl (by kernel_rfl) (i_isSeed_ev n)
def i_card_i : CSh := ⟨[(.data true tI)], []⟩
def i_card_o : RSh := ⟨(.data true (.arr 4 tI)), []⟩
theorem i_card_ev (n : Nat) (x : TupT i_card_i.tys) : evF ⟨tab, [], n, []⟩ Try.f147 i_card_i i_card_o x = i_card n x := by kernel_rfl
noncomputable def i_card_e (n : Nat) : Ent := ⟨147, i_card_i, i_card_o, fun x => i_card n x⟩
theorem i_card_ok (n : Nat) : EntOK Try.prog (i_card_e n) ∧ Own Try.prog 147 := ent_ok tabOK0 .nil Try.func147 rfl (by kernel_rfl) (i_card_ev n)
def i_behind_i : CSh := ⟨[(.data true tI)], []⟩
def i_behind_o : RSh := ⟨(.data true tI), []⟩
theorem i_behind_ev (n : Nat) (x : TupT i_behind_i.tys) : evF ⟨tab, [], n, []⟩ Try.f188 i_behind_i i_behind_o x = i_behind n x := by kernel_rfl
noncomputable def i_behind_e (n : Nat) : Ent := ⟨188, i_behind_i, i_behind_o, fun x => i_behind n x⟩
theorem i_behind_ok (n : Nat) : EntOK Try.prog (i_behind_e n) ∧ Own Try.prog 188 := ent_ok tabOK0 .nil Try.func188 rfl (by kernel_rfl) (i_behind_ev n)
def i_pile_i : CSh := ⟨[(.data true tI)], []⟩
def i_pile_o : RSh := ⟨(.own 0), [.rows 24 true (.arr 4 tI)]⟩
theorem i_pile_ev (n : Nat) (x : TupT i_pile_i.tys) : evF ⟨tab, [i_card_e n, i_behind_e n], n, [(8, ⟨[(0, (.data true tI)), (3, (.own 0)), (8, (.data true tI))], [.rows 24 true (.arr 4 tI)], 0⟩), (25, ⟨[(0, (.data true tI)), (3, (.own 0)), (5, (.data true tI))], [.rows 24 true (.arr 4 tI)], 0⟩)]⟩ Try.f192 i_pile_i i_pile_o x = i_pile n x := by kernel_rfl
noncomputable def i_pile_e (n : Nat) : Ent := ⟨192, i_pile_i, i_pile_o, fun x => i_pile n x⟩
theorem i_pile_ok (n : Nat) : EntOK Try.prog (i_pile_e n) ∧ Own Try.prog 192 := ent_ok tabOK0 (.cons (i_card_ok n) (.cons (i_behind_ok n) .nil)) Try.func192 rfl (by kernel_rfl) (i_pile_ev n)
def slices_Clone_SA4_A4__i : CSh := ⟨[(.data false (.sl (.arr 4 tI)))], []⟩
def slices_Clone_SA4_A4__o : RSh := ⟨(.own 0), [.rows 24 true (.arr 4 tI)]⟩
theorem slices_Clone_SA4_A4__ev (n : Nat) (x : TupT slices_Clone_SA4_A4__i.tys) : evF ⟨tab, [], n, []⟩ Try.f222 slices_Clone_SA4_A4__i slices_Clone_SA4_A4__o x = slices_Clone_SA4_A4_ n x := by kernel_rfl
noncomputable def slices_Clone_SA4_A4__e (n : Nat) : Ent := ⟨222, slices_Clone_SA4_A4__i, slices_Clone_SA4_A4__o, fun x => slices_Clone_SA4_A4_ n x⟩
theorem slices_Clone_SA4_A4__ok (n : Nat) : EntOK Try.prog (slices_Clone_SA4_A4__e n) ∧ Own Try.prog 222 := ent_ok tabOK0 .nil Try.func222 rfl (by kernel_rfl) (slices_Clone_SA4_A4__ev n)
def i_newDeal_i : CSh := ⟨[(.data true tI)], []⟩
def i_newDeal_o : RSh := ⟨(.pr (.data true tI) (.pr (.data true tI) (.own 0))), [.rows 24 true (.arr 4 tI)]⟩
theorem i_newDeal_ev (n : Nat) (x : TupT i_newDeal_i.tys) : evF ⟨tab, [i_pile_e n, slices_Clone_SA4_A4__e n], n, []⟩ Try.f179 i_newDeal_i i_newDeal_o x = i_newDeal n x := by kernel_rfl
noncomputable def i_newDeal_e (n : Nat) : Ent := ⟨179, i_newDeal_i, i_newDeal_o, fun x => i_newDeal n x⟩
theorem i_newDeal_ok (n : Nat) : EntOK Try.prog (i_newDeal_e n) ∧ Own Try.prog 179 := ent_ok tabOK0 (.cons (i_pile_ok n) (.cons (slices_Clone_SA4_A4__ok n) .nil)) Try.func179 rfl (by kernel_rfl) (i_newDeal_ev n)
def i_number_i : CSh := ⟨[(.data true (.arr 4 tI))], []⟩
def i_number_o : RSh := ⟨(.data true tI), []⟩
theorem i_number_ev (n : Nat) (x : TupT i_number_i.tys) : evF ⟨tab, [], n, [(8, ⟨[(3, (.data true tI)), (6, (.data true (.arr 4 tI))), (7, (.data true tI))], [], 0⟩)]⟩ Try.f172 i_number_i i_number_o x = i_number n x := by kernel_rfl
noncomputable def i_number_e (n : Nat) : Ent := ⟨172, i_number_i, i_number_o, fun x => i_number n x⟩
theorem i_number_ok (n : Nat) : EntOK Try.prog (i_number_e n) ∧ Own Try.prog 172 := ent_ok tabOK0 .nil Try.func172 rfl (by kernel_rfl) (i_number_ev n)
def i_third_i : CSh := ⟨[(.data true (.arr 4 tI)), (.data true (.arr 4 tI))], []⟩
def i_third_o : RSh := ⟨(.data true (.arr 4 tI)), []⟩
theorem i_third_ev (n : Nat) (x : TupT i_third_i.tys) : evF ⟨tab, [], n, [(8, ⟨[(2, (.ptr 0 [])), (3, (.ptr 1 [])), (4, (.ptr 2 [])), (5, (.ptr 3 [])), (8, (.data true tI))], [.var 24 (.data true (.arr 4 tI)), .var 24 (.data true (.arr 4 tI)), .var 24 (.data true (.arr 4 tI)), .var 24 (.data true (.arr 4 tI))], 0⟩)]⟩ Try.f155 i_third_i i_third_o x = i_third n x.1 x.2 := by kernel_rfl
noncomputable def i_third_e (n : Nat) : Ent := ⟨155, i_third_i, i_third_o, fun x => i_third n x.1 x.2⟩
theorem i_third_ok (n : Nat) : EntOK Try.prog (i_third_e n) ∧ Own Try.prog 155 := ent_ok tabOK0 .nil Try.func155 rfl (by kernel_rfl) (i_third_ev n)
def i_linesIn_i : CSh := ⟨[(.data false (.sl (.arr 4 tI)))], []⟩
def i_linesIn_o : RSh := ⟨(.own 0), [.rows 58 true (.arr 3 tI)]⟩
theorem i_linesIn_ev (n : Nat) (x : TupT i_linesIn_i.tys) : evF ⟨tab, [i_number_e n, i_third_e n], n, [(8, ⟨[(0, (.data false (.sl (.arr 4 tI)))), (3, (.ptr 0 [])), (12, (.data false (.sl (.arr 4 tI)))), (13, (.data true tI)), (14, (.data true tI))], [.var 155 (.data true (.arr 81 tI))], 0⟩), (27, ⟨[(0, (.data false (.sl (.arr 4 tI)))), (3, (.ptr 0 [])), (6, (.own 1)), (26, (.data false (.sl (.arr 4 tI)))), (27, (.data true tI)), (28, (.data true tI))], [.var 155 (.data true (.arr 81 tI)), .rows 58 true (.arr 3 tI)], 0⟩), (41, ⟨[(0, (.data false (.sl (.arr 4 tI)))), (3, (.ptr 0 [])), (6, (.own 1)), (7, (.data true tI)), (8, (.ptr 2 [])), (9, (.data true tI)), (26, (.data false (.sl (.arr 4 tI)))), (27, (.data true tI)), (28, (.data true tI))], [.var 155 (.data true (.arr 81 tI)), .rows 58 true (.arr 3 tI), .var 24 (.data true (.arr 4 tI))], 0⟩)]⟩ Try.f195 i_linesIn_i i_linesIn_o x = i_linesIn n x := by kernel_rfl
noncomputable def i_linesIn_e (n : Nat) : Ent := ⟨195, i_linesIn_i, i_linesIn_o, fun x => i_linesIn n x⟩
theorem i_linesIn_ok (n : Nat) : EntOK Try.prog (i_linesIn_e n) ∧ Own Try.prog 195 := ent_ok tabOK0 (.cons (i_number_ok n) (.cons (i_third_ok n) .nil)) Try.func195 rfl (by kernel_rfl) (i_linesIn_ev n)
def _impl_Deal__isStuck_i : CSh := ⟨[(.data false (.pair tI (.pair tI (.sl (.arr 4 tI)))))], []⟩
def _impl_Deal__isStuck_o : RSh := ⟨(.data true .bool), []⟩
theorem _impl_Deal__isStuck_ev (n : Nat) (x : TupT _impl_Deal__isStuck_i.tys) : evF ⟨tab, [i_linesIn_e n], n, []⟩ Try.f229 _impl_Deal__isStuck_i _impl_Deal__isStuck_o x = _impl_Deal__isStuck n x := by kernel_rfl
noncomputable def _impl_Deal__isStuck_e (n : Nat) : Ent := ⟨229, _impl_Deal__isStuck_i, _impl_Deal__isStuck_o, fun x => _impl_Deal__isStuck n x⟩
theorem _impl_Deal__isStuck_ok (n : Nat) : EntOK Try.prog (_impl_Deal__isStuck_e n) ∧ Own Try.prog 229 := ent_ok tabOK0 (.cons (i_linesIn_ok n) .nil) Try.func229 rfl (by kernel_rfl) (_impl_Deal__isStuck_ev n)
def _impl_Deal__isOver_i : CSh := ⟨[(.data false (.pair tI (.pair tI (.sl (.arr 4 tI)))))], []⟩
def _impl_Deal__isOver_o : RSh := ⟨(.data true .bool), []⟩
theorem _impl_Deal__isOver_ev (n : Nat) (x : TupT _impl_Deal__isOver_i.tys) : evF ⟨tab, [_impl_Deal__isStuck_e n], n, []⟩ Try.f180 _impl_Deal__isOver_i _impl_Deal__isOver_o x = _impl_Deal__isOver n x := by kernel_rfl
noncomputable def _impl_Deal__isOver_e (n : Nat) : Ent := ⟨180, _impl_Deal__isOver_i, _impl_Deal__isOver_o, fun x => _impl_Deal__isOver n x⟩
theorem _impl_Deal__isOver_ok (n : Nat) : EntOK Try.prog (_impl_Deal__isOver_e n) ∧ Own Try.prog 180 := ent_ok tabOK0 (.cons (_impl_Deal__isStuck_ok n) .nil) Try.func180 rfl (by kernel_rfl) (_impl_Deal__isOver_ev n)
def slices_Index_Sint_int__i : CSh := ⟨[(.data false (.sl tI)), (.data true tI)], []⟩
def slices_Index_Sint_int__o : RSh := ⟨(.data true tI), []⟩
theorem slices_Index_Sint_int__ev (n : Nat) (x : TupT slices_Index_Sint_int__i.tys) : evF ⟨tab, [], n, [(6, ⟨[(0, (.data false (.sl tI))), (1, (.data true tI)), (7, (.data true tI)), (8, (.data true tI))], [], 0⟩)]⟩ Try.f213 slices_Index_Sint_int__i slices_Index_Sint_int__o x = slices_Index_Sint_int_ n x.1 x.2 := by kernel_rfl
noncomputable def slices_Index_Sint_int__e (n : Nat) : Ent := ⟨213, slices_Index_Sint_int__i, slices_Index_Sint_int__o, fun x => slices_Index_Sint_int_ n x.1 x.2⟩
theorem slices_Index_Sint_int__ok (n : Nat) : EntOK Try.prog (slices_Index_Sint_int__e n) ∧ Own Try.prog 213 := ent_ok tabOK0 .nil Try.func213 rfl (by kernel_rfl) (slices_Index_Sint_int__ev n)
def slices_Contains_Sint_int__i : CSh := ⟨[(.data false (.sl tI)), (.data true tI)], []⟩
def slices_Contains_Sint_int__o : RSh := ⟨(.data true .bool), []⟩
theorem slices_Contains_Sint_int__ev (n : Nat) (x : TupT slices_Contains_Sint_int__i.tys) : evF ⟨tab, [slices_Index_Sint_int__e n], n, []⟩ Try.f240 slices_Contains_Sint_int__i slices_Contains_Sint_int__o x = slices_Contains_Sint_int_ n x.1 x.2 := by kernel_rfl
noncomputable def slices_Contains_Sint_int__e (n : Nat) : Ent := ⟨240, slices_Contains_Sint_int__i, slices_Contains_Sint_int__o, fun x => slices_Contains_Sint_int_ n x.1 x.2⟩
theorem slices_Contains_Sint_int__ok (n : Nat) : EntOK Try.prog (slices_Contains_Sint_int__e n) ∧ Own Try.prog 240 := ent_ok tabOK0 (.cons (slices_Index_Sint_int__ok n) .nil) Try.func240 rfl (by kernel_rfl) (slices_Contains_Sint_int__ev n)
def slices_Grow_SA4_A4__i : CSh := ⟨[.nil, (.data true tI)], []⟩
def slices_Grow_SA4_A4__o : RSh := ⟨(.own 0), [.rows 24 true (.arr 4 tI)]⟩
theorem slices_Grow_SA4_A4__ev (n : Nat) (x : TupT slices_Grow_SA4_A4__i.tys) : evF ⟨tab, [], n, []⟩ Try.f253 slices_Grow_SA4_A4__i slices_Grow_SA4_A4__o x = slices_Grow_SA4_A4_ n x := by kernel_rfl
noncomputable def slices_Grow_SA4_A4__e (n : Nat) : Ent := ⟨253, slices_Grow_SA4_A4__i, slices_Grow_SA4_A4__o, fun x => slices_Grow_SA4_A4_ n x⟩
theorem slices_Grow_SA4_A4__ok (n : Nat) : EntOK Try.prog (slices_Grow_SA4_A4__e n) ∧ Own Try.prog 253 := ent_ok tabOK0 .nil Try.func253 rfl (by kernel_rfl) (slices_Grow_SA4_A4__ev n)
def slices_Concat_SA4_A4__i : CSh := ⟨[(.data false (.sl (.sl (.arr 4 tI))))], []⟩
def slices_Concat_SA4_A4__o : RSh := ⟨(.own 0), [.rows 24 true (.arr 4 tI)]⟩
theorem slices_Concat_SA4_A4__ev (n : Nat) (x : TupT slices_Concat_SA4_A4__i.tys) : evF ⟨tab, [slices_Grow_SA4_A4__e n], n, [(8, ⟨[(0, (.data false (.sl (.sl (.arr 4 tI))))), (3, (.data true tI)), (9, (.data false (.sl (.sl (.arr 4 tI))))), (10, (.data true tI)), (11, (.data true tI))], [], 0⟩), (33, ⟨[(6, (.own 0)), (25, (.data false (.sl (.sl (.arr 4 tI))))), (26, (.data true tI)), (27, (.data true tI))], [.rows 24 true (.arr 4 tI)], 0⟩)]⟩ Try.f241 slices_Concat_SA4_A4__i slices_Concat_SA4_A4__o x = slices_Concat_SA4_A4_ n x := by kernel_rfl
noncomputable def slices_Concat_SA4_A4__e (n : Nat) : Ent := ⟨241, slices_Concat_SA4_A4__i, slices_Concat_SA4_A4__o, fun x => slices_Concat_SA4_A4_ n x⟩
theorem slices_Concat_SA4_A4__ok (n : Nat) : EntOK Try.prog (slices_Concat_SA4_A4__e n) ∧ Own Try.prog 241 := ent_ok tabOK0 (.cons (slices_Grow_SA4_A4__ok n) .nil) Try.func241 rfl (by kernel_rfl) (slices_Concat_SA4_A4__ev n)
def _impl_Deal__lay_i : CSh := ⟨[(.data false (.pair tI (.pair tI (.sl (.arr 4 tI))))), (.data true tI)], []⟩
def _impl_Deal__lay_o : RSh := ⟨(.pr (.data true tI) (.pr (.data true tI) (.own 0))), [.rows 24 true (.arr 4 tI)]⟩
theorem _impl_Deal__lay_ev (n : Nat) (x : TupT _impl_Deal__lay_i.tys) : evF ⟨tab, [i_pile_e n, slices_Concat_SA4_A4__e n], n, []⟩ Try.f231 _impl_Deal__lay_i _impl_Deal__lay_o x = _impl_Deal__lay n x.1 x.2 := by kernel_rfl
noncomputable def _impl_Deal__lay_e (n : Nat) : Ent := ⟨231, _impl_Deal__lay_i, _impl_Deal__lay_o, fun x => _impl_Deal__lay n x.1 x.2⟩
theorem _impl_Deal__lay_ok (n : Nat) : EntOK Try.prog (_impl_Deal__lay_e n) ∧ Own Try.prog 231 := ent_ok tabOK0 (.cons (i_pile_ok n) (.cons (slices_Concat_SA4_A4__ok n) .nil)) Try.func231 rfl (by kernel_rfl) (_impl_Deal__lay_ev n)
def _impl_Deal__take_i : CSh := ⟨[(.data false (.pair tI (.pair tI (.sl (.arr 4 tI))))), (.data true (.arr 3 tI))], []⟩
def _impl_Deal__take_o : RSh := ⟨(.pr (.data true tI) (.pr (.data true tI) (.own 0))), [.rows 24 true (.arr 4 tI)]⟩
theorem _impl_Deal__take_ev (n : Nat) (x : TupT _impl_Deal__take_i.tys) : evF ⟨tab, [slices_Contains_Sint_int__e n, _impl_Deal__lay_e n], n, [(8, ⟨[(2, (.ptr 0 [])), (3, (.ptr 1 [])), (4, (.ptr 2 [])), (5, (.own 3)), (10, (.data false (.sl (.arr 4 tI)))), (11, (.data true tI)), (12, (.data true tI))], [.var 81 (.data false (.pair tI (.pair tI (.sl (.arr 4 tI))))), .var 58 (.data true (.arr 3 tI)), .var 81 (.pr (.data true tI) (.pr (.data true tI) .nil)), .rows 24 true (.arr 4 tI)], 0⟩)]⟩ Try.f230 _impl_Deal__take_i _impl_Deal__take_o x = _impl_Deal__take n x.1 x.2 := by kernel_rfl
noncomputable def _impl_Deal__take_e (n : Nat) : Ent := ⟨230, _impl_Deal__take_i, _impl_Deal__take_o, fun x => _impl_Deal__take n x.1 x.2⟩
theorem _impl_Deal__take_ok (n : Nat) : EntOK Try.prog (_impl_Deal__take_e n) ∧ Own Try.prog 230 := ent_ok tabOK0 (.cons (slices_Contains_Sint_int__ok n) (.cons (_impl_Deal__lay_ok n) .nil)) Try.func230 rfl (by kernel_rfl) (_impl_Deal__take_ev n)
def _impl_Deal__step_i : CSh := ⟨[(.data false (.pair tI (.pair tI (.sl (.arr 4 tI)))))], []⟩
def _impl_Deal__step_o : RSh := ⟨(.tcons (.pr (.data true tI) (.pr (.data true tI) (.own 0))) (.tcons (.data true .bool) .tnil)), [.rows 24 true (.arr 4 tI)]⟩
theorem _impl_Deal__step_ev (n : Nat) (x : TupT _impl_Deal__step_i.tys) : evF ⟨tab, [i_linesIn_e n, _impl_Deal__take_e n, _impl_Deal__lay_e n], n, []⟩ Try.f181 _impl_Deal__step_i _impl_Deal__step_o x = _impl_Deal__step n x := by kernel_rfl
noncomputable def _impl_Deal__step_e (n : Nat) : Ent := ⟨181, _impl_Deal__step_i, _impl_Deal__step_o, fun x => _impl_Deal__step n x⟩
theorem _impl_Deal__step_ok (n : Nat) : EntOK Try.prog (_impl_Deal__step_e n) ∧ Own Try.prog 181 := ent_ok tabOK0 (.cons (i_linesIn_ok n) (.cons (_impl_Deal__take_ok n) (.cons (_impl_Deal__lay_ok n) .nil))) Try.func181 rfl (by kernel_rfl) (_impl_Deal__step_ev n)
def math_bits_Len64_i : CSh := ⟨[(.data true (.int .u64))], []⟩
def math_bits_Len64_o : RSh := ⟨(.data true tI), []⟩
theorem math_bits_Len64_ev (n : Nat) (x : TupT math_bits_Len64_i.tys) : evF ⟨tab, [], n, [(2, ⟨[(0, (.data true (.int .u64))), (2, (.data true tI))], [], 0⟩), (10, ⟨[(0, (.data true (.int .u64))), (2, (.data true tI))], [], 0⟩), (18, ⟨[(0, (.data true (.int .u64))), (2, (.data true tI))], [], 0⟩)]⟩ Try.f252 math_bits_Len64_i math_bits_Len64_o x = math_bits_Len64 n x := by kernel_rfl
noncomputable def math_bits_Len64_e (n : Nat) : Ent := ⟨252, math_bits_Len64_i, math_bits_Len64_o, fun x => math_bits_Len64 n x⟩
theorem math_bits_Len64_ok (n : Nat) : EntOK Try.prog (math_bits_Len64_e n) ∧ Own Try.prog 252 := ent_ok tabOK0 .nil Try.func252 rfl (by kernel_rfl) (math_bits_Len64_ev n)
def math_bits_Len_i : CSh := ⟨[(.data true (.int .u64))], []⟩
def math_bits_Len_o : RSh := ⟨(.data true tI), []⟩
theorem math_bits_Len_ev (n : Nat) (x : TupT math_bits_Len_i.tys) : evF ⟨tab, [math_bits_Len64_e n], n, []⟩ Try.f239 math_bits_Len_i math_bits_Len_o x = math_bits_Len n x := by kernel_rfl
noncomputable def math_bits_Len_e (n : Nat) : Ent := ⟨239, math_bits_Len_i, math_bits_Len_o, fun x => math_bits_Len n x⟩
theorem math_bits_Len_ok (n : Nat) : EntOK Try.prog (math_bits_Len_e n) ∧ Own Try.prog 239 := ent_ok tabOK0 (.cons (math_bits_Len64_ok n) .nil) Try.func239 rfl (by kernel_rfl) (math_bits_Len_ev n)
def i_compareCards_i : CSh := ⟨[(.data true (.arr 4 tI)), (.data true (.arr 4 tI))], []⟩
def i_compareCards_o : RSh := ⟨(.data true tI), []⟩
theorem i_compareCards_ev (n : Nat) (x : TupT i_compareCards_i.tys) : evF ⟨tab, [i_number_e n], n, []⟩ Try.f224 i_compareCards_i i_compareCards_o x = i_compareCards n x.1 x.2 := by kernel_rfl
noncomputable def i_compareCards_e (n : Nat) : Ent := ⟨224, i_compareCards_i, i_compareCards_o, fun x => i_compareCards n x.1 x.2⟩
theorem i_compareCards_ok (n : Nat) : EntOK Try.prog (i_compareCards_e n) ∧ Own Try.prog 224 := ent_ok tabOK0 (.cons (i_number_ok n) .nil) Try.func224 rfl (by kernel_rfl) (i_compareCards_ev n)
def slices_insertionSortCmpFunc_A4_'o_i_compareCards_i : CSh := ⟨[(.own 0), (.data true tI), (.data true tI), (.clo 224 .tnil)], [.rows 24 true (.arr 4 tI)]⟩
def slices_insertionSortCmpFunc_A4_'o_i_compareCards_o : RSh := ⟨.tnil, [.rows 24 true (.arr 4 tI)]⟩
theorem slices_insertionSortCmpFunc_A4_'o_i_compareCards_ev (n : Nat) (x : TupT slices_insertionSortCmpFunc_A4_'o_i_compareCards_i.tys) : evF ⟨tab, [i_compareCards_e n], n, [(3, ⟨[(0, (.own 0)), (1, (.data true tI)), (2, (.data true tI)), (3, (.clo 224 .tnil)), (8, (.data true tI))], [.rows 24 true (.arr 4 tI)], 1⟩), (15, ⟨[(0, (.own 0)), (1, (.data true tI)), (2, (.data true tI)), (3, (.clo 224 .tnil)), (8, (.data true tI)), (9, (.data true tI))], [.rows 24 true (.arr 4 tI)], 1⟩)]⟩ Try.f243 slices_insertionSortCmpFunc_A4_'o_i_compareCards_i slices_insertionSortCmpFunc_A4_'o_i_compareCards_o x = slices_insertionSortCmpFunc_A4_'o_i_compareCards n x.1 x.2.1 x.2.2 := by kernel_rfl
noncomputable def slices_insertionSortCmpFunc_A4_'o_i_compareCards_e (n : Nat) : Ent := ⟨243, slices_insertionSortCmpFunc_A4_'o_i_compareCards_i, slices_insertionSortCmpFunc_A4_'o_i_compareCards_o, fun x => slices_insertionSortCmpFunc_A4_'o_i_compareCards n x.1 x.2.1 x.2.2⟩
theorem slices_insertionSortCmpFunc_A4_'o_i_compareCards_ok (n : Nat) : EntOK Try.prog (slices_insertionSortCmpFunc_A4_'o_i_compareCards_e n) ∧ Own Try.prog 243 := ent_ok tabOK0 (.cons (i_compareCards_ok n) .nil) Try.func243 rfl (by kernel_rfl) (slices_insertionSortCmpFunc_A4_'o_i_compareCards_ev n)
def slices_siftDownCmpFunc_A4_'o_i_compareCards_i : CSh := ⟨[(.own 0), (.data true tI), (.data true tI), (.data true tI), (.clo 224 .tnil)], [.rows 24 true (.arr 4 tI)]⟩
def slices_siftDownCmpFunc_A4_'o_i_compareCards_o : RSh := ⟨.tnil, [.rows 24 true (.arr 4 tI)]⟩
theorem slices_siftDownCmpFunc_A4_'o_i_compareCards_ev (n : Nat) (x : TupT slices_siftDownCmpFunc_A4_'o_i_compareCards_i.tys) : evF ⟨tab, [i_compareCards_e n], n, [(3, ⟨[(0, (.own 0)), (2, (.data true tI)), (3, (.data true tI)), (4, (.clo 224 .tnil)), (10, (.data true tI))], [.rows 24 true (.arr 4 tI)], 1⟩), (13, ⟨[(0, (.own 0)), (2, (.data true tI)), (3, (.data true tI)), (4, (.clo 224 .tnil)), (10, (.data true tI)), (11, (.data true tI))], [.rows 24 true (.arr 4 tI)], 1⟩)]⟩ Try.f254 slices_siftDownCmpFunc_A4_'o_i_compareCards_i slices_siftDownCmpFunc_A4_'o_i_compareCards_o x = slices_siftDownCmpFunc_A4_'o_i_compareCards n x.1 x.2.1 x.2.2.1 x.2.2.2 := by kernel_rfl
noncomputable def slices_siftDownCmpFunc_A4_'o_i_compareCards_e (n : Nat) : Ent := ⟨254, slices_siftDownCmpFunc_A4_'o_i_compareCards_i, slices_siftDownCmpFunc_A4_'o_i_compareCards_o, fun x => slices_siftDownCmpFunc_A4_'o_i_compareCards n x.1 x.2.1 x.2.2.1 x.2.2.2⟩
theorem slices_siftDownCmpFunc_A4_'o_i_compareCards_ok (n : Nat) : EntOK Try.prog (slices_siftDownCmpFunc_A4_'o_i_compareCards_e n) ∧ Own Try.prog 254 := ent_ok tabOK0 (.cons (i_compareCards_ok n) .nil) Try.func254 rfl (by kernel_rfl) (slices_siftDownCmpFunc_A4_'o_i_compareCards_ev n)
def slices_heapSortCmpFunc_A4_'o_i_compareCards_i : CSh := ⟨[(.own 0), (.data true tI), (.data true tI), (.clo 224 .tnil)], [.rows 24 true (.arr 4 tI)]⟩
def slices_heapSortCmpFunc_A4_'o_i_compareCards_o : RSh := ⟨.tnil, [.rows 24 true (.arr 4 tI)]⟩
theorem slices_heapSortCmpFunc_A4_'o_i_compareCards_ev (n : Nat) (x : TupT slices_heapSortCmpFunc_A4_'o_i_compareCards_i.tys) : evF ⟨tab, [slices_siftDownCmpFunc_A4_'o_i_compareCards_e n], n, [(10, ⟨[(0, (.own 0)), (3, (.clo 224 .tnil)), (8, (.data true tI)), (9, (.data true tI)), (10, (.data true tI)), (11, (.data true tI))], [.rows 24 true (.arr 4 tI)], 1⟩), (24, ⟨[(0, (.own 0)), (3, (.clo 224 .tnil)), (8, (.data true tI)), (9, (.data true tI)), (12, (.data true tI))], [.rows 24 true (.arr 4 tI)], 1⟩)]⟩ Try.f244 slices_heapSortCmpFunc_A4_'o_i_compareCards_i slices_heapSortCmpFunc_A4_'o_i_compareCards_o x = slices_heapSortCmpFunc_A4_'o_i_compareCards n x.1 x.2.1 x.2.2 := by kernel_rfl
noncomputable def slices_heapSortCmpFunc_A4_'o_i_compareCards_e (n : Nat) : Ent := ⟨244, slices_heapSortCmpFunc_A4_'o_i_compareCards_i, slices_heapSortCmpFunc_A4_'o_i_compareCards_o, fun x => slices_heapSortCmpFunc_A4_'o_i_compareCards n x.1 x.2.1 x.2.2⟩
theorem slices_heapSortCmpFunc_A4_'o_i_compareCards_ok (n : Nat) : EntOK Try.prog (slices_heapSortCmpFunc_A4_'o_i_compareCards_e n) ∧ Own Try.prog 244 := ent_ok tabOK0 (.cons (slices_siftDownCmpFunc_A4_'o_i_compareCards_ok n) .nil) Try.func244 rfl (by kernel_rfl) (slices_heapSortCmpFunc_A4_'o_i_compareCards_ev n)
def slices_order2CmpFunc_A4_'lp_i_compareCards_i : CSh := ⟨[(.data false (.sl (.arr 4 tI))), (.data true tI), (.data true tI), (.ptr 0 []), (.clo 224 .tnil)], [.var 3 (.data true tI)]⟩
def slices_order2CmpFunc_A4_'lp_i_compareCards_o : RSh := ⟨(.tcons (.data true tI) (.tcons (.data true tI) .tnil)), [.var 3 (.data true tI)]⟩
theorem slices_order2CmpFunc_A4_'lp_i_compareCards_ev (n : Nat) (x : TupT slices_order2CmpFunc_A4_'lp_i_compareCards_i.tys) : evF ⟨tab, [i_compareCards_e n], n, []⟩ Try.f259 slices_order2CmpFunc_A4_'lp_i_compareCards_i slices_order2CmpFunc_A4_'lp_i_compareCards_o x = slices_order2CmpFunc_A4_'lp_i_compareCards n x.1 x.2.1 x.2.2.1 x.2.2.2 := by kernel_rfl
noncomputable def slices_order2CmpFunc_A4_'lp_i_compareCards_e (n : Nat) : Ent := ⟨259, slices_order2CmpFunc_A4_'lp_i_compareCards_i, slices_order2CmpFunc_A4_'lp_i_compareCards_o, fun x => slices_order2CmpFunc_A4_'lp_i_compareCards n x.1 x.2.1 x.2.2.1 x.2.2.2⟩
theorem slices_order2CmpFunc_A4_'lp_i_compareCards_ok (n : Nat) : EntOK Try.prog (slices_order2CmpFunc_A4_'lp_i_compareCards_e n) ∧ Own Try.prog 259 := ent_ok tabOK0 (.cons (i_compareCards_ok n) .nil) Try.func259 rfl (by kernel_rfl) (slices_order2CmpFunc_A4_'lp_i_compareCards_ev n)
def slices_medianCmpFunc_A4_'lp_i_compareCards_i : CSh := ⟨[(.data false (.sl (.arr 4 tI))), (.data true tI), (.data true tI), (.data true tI), (.ptr 0 []), (.clo 224 .tnil)], [.var 3 (.data true tI)]⟩
def slices_medianCmpFunc_A4_'lp_i_compareCards_o : RSh := ⟨(.data true tI), [.var 3 (.data true tI)]⟩
theorem slices_medianCmpFunc_A4_'lp_i_compareCards_ev (n : Nat) (x : TupT slices_medianCmpFunc_A4_'lp_i_compareCards_i.tys) : evF ⟨tab, [slices_order2CmpFunc_A4_'lp_i_compareCards_e n], n, []⟩ Try.f258 slices_medianCmpFunc_A4_'lp_i_compareCards_i slices_medianCmpFunc_A4_'lp_i_compareCards_o x = slices_medianCmpFunc_A4_'lp_i_compareCards n x.1 x.2.1 x.2.2.1 x.2.2.2.1 x.2.2.2.2 := by kernel_rfl
noncomputable def slices_medianCmpFunc_A4_'lp_i_compareCards_e (n : Nat) : Ent := ⟨258, slices_medianCmpFunc_A4_'lp_i_compareCards_i, slices_medianCmpFunc_A4_'lp_i_compareCards_o, fun x => slices_medianCmpFunc_A4_'lp_i_compareCards n x.1 x.2.1 x.2.2.1 x.2.2.2.1 x.2.2.2.2⟩
theorem slices_medianCmpFunc_A4_'lp_i_compareCards_ok (n : Nat) : EntOK Try.prog (slices_medianCmpFunc_A4_'lp_i_compareCards_e n) ∧ Own Try.prog 258 := ent_ok tabOK0 (.cons (slices_order2CmpFunc_A4_'lp_i_compareCards_ok n) .nil) Try.func258 rfl (by kernel_rfl) (slices_medianCmpFunc_A4_'lp_i_compareCards_ev n)
def slices_medianAdjacentCmpFunc_A4_'lp_i_compareCards_i : CSh := ⟨[(.data false (.sl (.arr 4 tI))), (.data true tI), (.ptr 0 []), (.clo 224 .tnil)], [.var 3 (.data true tI)]⟩
def slices_medianAdjacentCmpFunc_A4_'lp_i_compareCards_o : RSh := ⟨(.data true tI), [.var 3 (.data true tI)]⟩
theorem slices_medianAdjacentCmpFunc_A4_'lp_i_compareCards_ev (n : Nat) (x : TupT slices_medianAdjacentCmpFunc_A4_'lp_i_compareCards_i.tys) : evF ⟨tab, [slices_medianCmpFunc_A4_'lp_i_compareCards_e n], n, []⟩ Try.f257 slices_medianAdjacentCmpFunc_A4_'lp_i_compareCards_i slices_medianAdjacentCmpFunc_A4_'lp_i_compareCards_o x = slices_medianAdjacentCmpFunc_A4_'lp_i_compareCards n x.1 x.2.1 x.2.2 := by kernel_rfl
noncomputable def slices_medianAdjacentCmpFunc_A4_'lp_i_compareCards_e (n : Nat) : Ent := ⟨257, slices_medianAdjacentCmpFunc_A4_'lp_i_compareCards_i, slices_medianAdjacentCmpFunc_A4_'lp_i_compareCards_o, fun x => slices_medianAdjacentCmpFunc_A4_'lp_i_compareCards n x.1 x.2.1 x.2.2⟩
theorem slices_medianAdjacentCmpFunc_A4_'lp_i_compareCards_ok (n : Nat) : EntOK Try.prog (slices_medianAdjacentCmpFunc_A4_'lp_i_compareCards_e n) ∧ Own Try.prog 257 := ent_ok tabOK0 (.cons (slices_medianCmpFunc_A4_'lp_i_compareCards_ok n) .nil) Try.func257 rfl (by kernel_rfl) (slices_medianAdjacentCmpFunc_A4_'lp_i_compareCards_ev n)
def slices_choosePivotCmpFunc_A4_'l_i_compareCards_i : CSh := ⟨[(.data false (.sl (.arr 4 tI))), (.data true tI), (.data true tI), (.clo 224 .tnil)], []⟩
def slices_choosePivotCmpFunc_A4_'l_i_compareCards_o : RSh := ⟨(.tcons (.data true tI) (.tcons (.data true tI) .tnil)), []⟩
theorem slices_choosePivotCmpFunc_A4_'l_i_compareCards_ev (n : Nat) (x : TupT slices_choosePivotCmpFunc_A4_'l_i_compareCards_i.tys) : evF ⟨tab, [slices_medianCmpFunc_A4_'lp_i_compareCards_e n, slices_medianAdjacentCmpFunc_A4_'lp_i_compareCards_e n], n, [(12, ⟨[(11, (.ptr 0 [])), (13, (.data true tI))], [.var 3 (.data true tI)], 0⟩), (16, ⟨[(0, (.data false (.sl (.arr 4 tI)))), (3, (.clo 224 .tnil)), (11, (.ptr 0 [])), (12, (.data true tI)), (13, (.data true tI)), (14, (.data true tI))], [.var 3 (.data true tI)], 0⟩)]⟩ Try.f246 slices_choosePivotCmpFunc_A4_'l_i_compareCards_i slices_choosePivotCmpFunc_A4_'l_i_compareCards_o x = slices_choosePivotCmpFunc_A4_'l_i_compareCards n x.1 x.2.1 x.2.2 := by kernel_rfl
noncomputable def slices_choosePivotCmpFunc_A4_'l_i_compareCards_e (n : Nat) : Ent := ⟨246, slices_choosePivotCmpFunc_A4_'l_i_compareCards_i, slices_choosePivotCmpFunc_A4_'l_i_compareCards_o, fun x => slices_choosePivotCmpFunc_A4_'l_i_compareCards n x.1 x.2.1 x.2.2⟩
theorem slices_choosePivotCmpFunc_A4_'l_i_compareCards_ok (n : Nat) : EntOK Try.prog (slices_choosePivotCmpFunc_A4_'l_i_compareCards_e n) ∧ Own Try.prog 246 := ent_ok tabOK0 (.cons (slices_medianCmpFunc_A4_'lp_i_compareCards_ok n) (.cons (slices_medianAdjacentCmpFunc_A4_'lp_i_compareCards_ok n) .nil)) Try.func246 rfl (by kernel_rfl) (slices_choosePivotCmpFunc_A4_'l_i_compareCards_ev n)
def slices_partitionEqualCmpFunc_A4_'o_i_compareCards_i : CSh := ⟨[(.own 0), (.data true tI), (.data true tI), (.data true tI), (.clo 224 .tnil)], [.rows 24 true (.arr 4 tI)]⟩
def slices_partitionEqualCmpFunc_A4_'o_i_compareCards_o : RSh := ⟨(.data true tI), [.rows 24 true (.arr 4 tI)]⟩
theorem slices_partitionEqualCmpFunc_A4_'o_i_compareCards_ev (n : Nat) (x : TupT slices_partitionEqualCmpFunc_A4_'o_i_compareCards_i.tys) : evF ⟨tab, [i_compareCards_e n], n, [(8, ⟨[(0, (.own 0)), (1, (.data true tI)), (4, (.clo 224 .tnil)), (11, (.data true tI)), (12, (.data true tI))], [.rows 24 true (.arr 4 tI)], 1⟩), (12, ⟨[(0, (.own 0)), (1, (.data true tI)), (4, (.clo 224 .tnil)), (11, (.data true tI)), (12, (.data true tI))], [.rows 24 true (.arr 4 tI)], 1⟩), (23, ⟨[(0, (.own 0)), (1, (.data true tI)), (4, (.clo 224 .tnil)), (11, (.data true tI)), (12, (.data true tI))], [.rows 24 true (.arr 4 tI)], 1⟩)]⟩ Try.f249 slices_partitionEqualCmpFunc_A4_'o_i_compareCards_i slices_partitionEqualCmpFunc_A4_'o_i_compareCards_o x = slices_partitionEqualCmpFunc_A4_'o_i_compareCards n x.1 x.2.1 x.2.2.1 x.2.2.2 := by kernel_rfl
noncomputable def slices_partitionEqualCmpFunc_A4_'o_i_compareCards_e (n : Nat) : Ent := ⟨249, slices_partitionEqualCmpFunc_A4_'o_i_compareCards_i, slices_partitionEqualCmpFunc_A4_'o_i_compareCards_o, fun x => slices_partitionEqualCmpFunc_A4_'o_i_compareCards n x.1 x.2.1 x.2.2.1 x.2.2.2⟩
theorem slices_partitionEqualCmpFunc_A4_'o_i_compareCards_ok (n : Nat) : EntOK Try.prog (slices_partitionEqualCmpFunc_A4_'o_i_compareCards_e n) ∧ Own Try.prog 249 := ent_ok tabOK0 (.cons (i_compareCards_ok n) .nil) Try.func249 rfl (by kernel_rfl) (slices_partitionEqualCmpFunc_A4_'o_i_compareCards_ev n)
def slices_partitionCmpFunc_A4_'o_i_compareCards_i : CSh := ⟨[(.own 0), (.data true tI), (.data true tI), (.data true tI), (.clo 224 .tnil)], [.rows 24 true (.arr 4 tI)]⟩
def slices_partitionCmpFunc_A4_'o_i_compareCards_o : RSh := ⟨(.tcons (.data true tI) (.tcons (.data true .bool) .tnil)), [.rows 24 true (.arr 4 tI)]⟩
theorem slices_partitionCmpFunc_A4_'o_i_compareCards_ev (n : Nat) (x : TupT slices_partitionCmpFunc_A4_'o_i_compareCards_i.tys) : evF ⟨tab, [i_compareCards_e n], n, [(8, ⟨[(0, (.own 0)), (1, (.data true tI)), (4, (.clo 224 .tnil)), (12, (.data true tI)), (13, (.data true tI))], [.rows 24 true (.arr 4 tI)], 1⟩), (19, ⟨[(0, (.own 0)), (1, (.data true tI)), (4, (.clo 224 .tnil)), (12, (.data true tI)), (13, (.data true tI))], [.rows 24 true (.arr 4 tI)], 1⟩), (46, ⟨[(0, (.own 0)), (1, (.data true tI)), (4, (.clo 224 .tnil)), (12, (.data true tI)), (13, (.data true tI))], [.rows 24 true (.arr 4 tI)], 1⟩), (50, ⟨[(0, (.own 0)), (1, (.data true tI)), (4, (.clo 224 .tnil)), (12, (.data true tI)), (13, (.data true tI))], [.rows 24 true (.arr 4 tI)], 1⟩), (61, ⟨[(0, (.own 0)), (1, (.data true tI)), (4, (.clo 224 .tnil)), (12, (.data true tI)), (13, (.data true tI))], [.rows 24 true (.arr 4 tI)], 1⟩)]⟩ Try.f250 slices_partitionCmpFunc_A4_'o_i_compareCards_i slices_partitionCmpFunc_A4_'o_i_compareCards_o x = slices_partitionCmpFunc_A4_'o_i_compareCards n x.1 x.2.1 x.2.2.1 x.2.2.2 := by kernel_rfl
noncomputable def slices_partitionCmpFunc_A4_'o_i_compareCards_e (n : Nat) : Ent := ⟨250, slices_partitionCmpFunc_A4_'o_i_compareCards_i, slices_partitionCmpFunc_A4_'o_i_compareCards_o, fun x => slices_partitionCmpFunc_A4_'o_i_compareCards n x.1 x.2.1 x.2.2.1 x.2.2.2⟩
theorem slices_partitionCmpFunc_A4_'o_i_compareCards_ok (n : Nat) : EntOK Try.prog (slices_partitionCmpFunc_A4_'o_i_compareCards_e n) ∧ Own Try.prog 250 := ent_ok tabOK0 (.cons (i_compareCards_ok n) .nil) Try.func250 rfl (by kernel_rfl) (slices_partitionCmpFunc_A4_'o_i_compareCards_ev n)
def slices_partialInsertionSortCmpFunc_A4_'o_i_compareCards_i : CSh := ⟨[(.own 0), (.data true tI), (.data true tI), (.clo 224 .tnil)], [.rows 24 true (.arr 4 tI)]⟩
def slices_partialInsertionSortCmpFunc_A4_'o_i_compareCards_o : RSh := ⟨(.data true .bool), [.rows 24 true (.arr 4 tI)]⟩
theorem slices_partialInsertionSortCmpFunc_A4_'o_i_compareCards_ev (n : Nat) (x : TupT slices_partialInsertionSortCmpFunc_A4_'o_i_compareCards_i.tys) : evF ⟨tab, [i_compareCards_e n], n, [(8, ⟨[(0, (.own 0)), (1, (.data true tI)), (2, (.data true tI)), (3, (.clo 224 .tnil)), (9, (.data true tI)), (10, (.data true tI))], [.rows 24 true (.arr 4 tI)], 1⟩), (19, ⟨[(0, (.own 0)), (1, (.data true tI)), (2, (.data true tI)), (3, (.clo 224 .tnil)), (9, (.data true tI)), (10, (.data true tI))], [.rows 24 true (.arr 4 tI)], 1⟩), (46, ⟨[(0, (.own 0)), (1, (.data true tI)), (2, (.data true tI)), (3, (.clo 224 .tnil)), (9, (.data true tI)), (10, (.data true tI))], [.rows 24 true (.arr 4 tI)], 1⟩), (53, ⟨[(0, (.own 0)), (1, (.data true tI)), (2, (.data true tI)), (3, (.clo 224 .tnil)), (9, (.data true tI)), (10, (.data true tI)), (11, (.data true tI))], [.rows 24 true (.arr 4 tI)], 1⟩), (77, ⟨[(0, (.own 0)), (1, (.data true tI)), (2, (.data true tI)), (3, (.clo 224 .tnil)), (9, (.data true tI)), (10, (.data true tI)), (12, (.data true tI))], [.rows 24 true (.arr 4 tI)], 1⟩)]⟩ Try.f248 slices_partialInsertionSortCmpFunc_A4_'o_i_compareCards_i slices_partialInsertionSortCmpFunc_A4_'o_i_compareCards_o x = slices_partialInsertionSortCmpFunc_A4_'o_i_compareCards n x.1 x.2.1 x.2.2 := by kernel_rfl
noncomputable def slices_partialInsertionSortCmpFunc_A4_'o_i_compareCards_e (n : Nat) : Ent := ⟨248, slices_partialInsertionSortCmpFunc_A4_'o_i_compareCards_i, slices_partialInsertionSortCmpFunc_A4_'o_i_compareCards_o, fun x => slices_partialInsertionSortCmpFunc_A4_'o_i_compareCards n x.1 x.2.1 x.2.2⟩
theorem slices_partialInsertionSortCmpFunc_A4_'o_i_compareCards_ok (n : Nat) : EntOK Try.prog (slices_partialInsertionSortCmpFunc_A4_'o_i_compareCards_e n) ∧ Own Try.prog 248 := ent_ok tabOK0 (.cons (i_compareCards_ok n) .nil) Try.func248 rfl (by kernel_rfl) (slices_partialInsertionSortCmpFunc_A4_'o_i_compareCards_ev n)
def slices_reverseRangeCmpFunc_A4_'o_i_compareCards_i : CSh := ⟨[(.own 0), (.data true tI), (.data true tI), (.clo 224 .tnil)], [.rows 24 true (.arr 4 tI)]⟩
def slices_reverseRangeCmpFunc_A4_'o_i_compareCards_o : RSh := ⟨.tnil, [.rows 24 true (.arr 4 tI)]⟩
theorem slices_reverseRangeCmpFunc_A4_'o_i_compareCards_ev (n : Nat) (x : TupT slices_reverseRangeCmpFunc_A4_'o_i_compareCards_i.tys) : evF ⟨tab, [], n, [(5, ⟨[(0, (.own 0)), (8, (.data true tI)), (9, (.data true tI))], [.rows 24 true (.arr 4 tI)], 1⟩)]⟩ Try.f247 slices_reverseRangeCmpFunc_A4_'o_i_compareCards_i slices_reverseRangeCmpFunc_A4_'o_i_compareCards_o x = slices_reverseRangeCmpFunc_A4_'o_i_compareCards n x.1 x.2.1 x.2.2 := by kernel_rfl
noncomputable def slices_reverseRangeCmpFunc_A4_'o_i_compareCards_e (n : Nat) : Ent := ⟨247, slices_reverseRangeCmpFunc_A4_'o_i_compareCards_i, slices_reverseRangeCmpFunc_A4_'o_i_compareCards_o, fun x => slices_reverseRangeCmpFunc_A4_'o_i_compareCards n x.1 x.2.1 x.2.2⟩
theorem slices_reverseRangeCmpFunc_A4_'o_i_compareCards_ok (n : Nat) : EntOK Try.prog (slices_reverseRangeCmpFunc_A4_'o_i_compareCards_e n) ∧ Own Try.prog 247 := ent_ok tabOK0 .nil Try.func247 rfl (by kernel_rfl) (slices_reverseRangeCmpFunc_A4_'o_i_compareCards_ev n)
def slices_nextPowerOfTwo_i : CSh := ⟨[(.data true tI)], []⟩
def slices_nextPowerOfTwo_o : RSh := ⟨(.data true (.int .u64)), []⟩
theorem slices_nextPowerOfTwo_ev (n : Nat) (x : TupT slices_nextPowerOfTwo_i.tys) : evF ⟨tab, [math_bits_Len_e n], n, []⟩ Try.f255 slices_nextPowerOfTwo_i slices_nextPowerOfTwo_o x = slices_nextPowerOfTwo n x := by kernel_rfl
noncomputable def slices_nextPowerOfTwo_e (n : Nat) : Ent := ⟨255, slices_nextPowerOfTwo_i, slices_nextPowerOfTwo_o, fun x => slices_nextPowerOfTwo n x⟩
theorem slices_nextPowerOfTwo_ok (n : Nat) : EntOK Try.prog (slices_nextPowerOfTwo_e n) ∧ Own Try.prog 255 := ent_ok tabOK0 (.cons (math_bits_Len_ok n) .nil) Try.func255 rfl (by kernel_rfl) (slices_nextPowerOfTwo_ev n)
def __slices_xorshift__Next'p_i : CSh := ⟨[(.ptr 0 [])], [.var 183 (.data true (.int .u64))]⟩
def __slices_xorshift__Next'p_o : RSh := ⟨(.data true (.int .u64)), [.var 183 (.data true (.int .u64))]⟩
theorem __slices_xorshift__Next'p_ev (n : Nat) (x : TupT __slices_xorshift__Next'p_i.tys) : evF ⟨tab, [], n, []⟩ Try.f256 __slices_xorshift__Next'p_i __slices_xorshift__Next'p_o x = __slices_xorshift__Next'p n x := by kernel_rfl
noncomputable def __slices_xorshift__Next'p_e (n : Nat) : Ent := ⟨256, __slices_xorshift__Next'p_i, __slices_xorshift__Next'p_o, fun x => __slices_xorshift__Next'p n x⟩
theorem __slices_xorshift__Next'p_ok (n : Nat) : EntOK Try.prog (__slices_xorshift__Next'p_e n) ∧ Own Try.prog 256 := ent_ok tabOK0 .nil Try.func256 rfl (by kernel_rfl) (__slices_xorshift__Next'p_ev n)
def slices_breakPatternsCmpFunc_A4_'o_i_compareCards_i : CSh := ⟨[(.own 0), (.data true tI), (.data true tI), (.clo 224 .tnil)], [.rows 24 true (.arr 4 tI)]⟩
def slices_breakPatternsCmpFunc_A4_'o_i_compareCards_o : RSh := ⟨.tnil, [.rows 24 true (.arr 4 tI)]⟩
theorem slices_breakPatternsCmpFunc_A4_'o_i_compareCards_ev (n : Nat) (x : TupT slices_breakPatternsCmpFunc_A4_'o_i_compareCards_i.tys) : evF ⟨tab, [slices_nextPowerOfTwo_e n, __slices_xorshift__Next'p_e n], n, [(12, ⟨[(0, (.own 0)), (1, (.data true tI)), (8, (.data true tI)), (9, (.ptr 1 [])), (10, (.data true (.int .u64))), (11, (.data true tI))], [.rows 24 true (.arr 4 tI), .var 183 (.data true (.int .u64))], 1⟩), (23, ⟨[(0, (.own 0)), (1, (.data true tI)), (8, (.data true tI)), (9, (.ptr 1 [])), (10, (.data true (.int .u64))), (11, (.data true tI)), (12, (.data true tI))], [.rows 24 true (.arr 4 tI), .var 183 (.data true (.int .u64))], 1⟩)]⟩ Try.f245 slices_breakPatternsCmpFunc_A4_'o_i_compareCards_i slices_breakPatternsCmpFunc_A4_'o_i_compareCards_o x = slices_breakPatternsCmpFunc_A4_'o_i_compareCards n x.1 x.2.1 x.2.2 := by kernel_rfl
noncomputable def slices_breakPatternsCmpFunc_A4_'o_i_compareCards_e (n : Nat) : Ent := ⟨245, slices_breakPatternsCmpFunc_A4_'o_i_compareCards_i, slices_breakPatternsCmpFunc_A4_'o_i_compareCards_o, fun x => slices_breakPatternsCmpFunc_A4_'o_i_compareCards n x.1 x.2.1 x.2.2⟩
theorem slices_breakPatternsCmpFunc_A4_'o_i_compareCards_ok (n : Nat) : EntOK Try.prog (slices_breakPatternsCmpFunc_A4_'o_i_compareCards_e n) ∧ Own Try.prog 245 := ent_ok tabOK0 (.cons (slices_nextPowerOfTwo_ok n) (.cons (__slices_xorshift__Next'p_ok n) .nil)) Try.func245 rfl (by kernel_rfl) (slices_breakPatternsCmpFunc_A4_'o_i_compareCards_ev n)
def slices_pdqsortCmpFunc_A4_'o_i_compareCards_i : CSh := ⟨[(.own 0), (.data true tI), (.data true tI), (.data true tI), (.clo 224 .tnil)], [.rows 24 true (.arr 4 tI)]⟩
def slices_pdqsortCmpFunc_A4_'o_i_compareCards_o : RSh := ⟨.tnil, [.rows 24 true (.arr 4 tI)]⟩
theorem slices_pdqsortCmpFunc_A4_'o_i_compareCards_ev (n : Nat) (go : TupT slices_pdqsortCmpFunc_A4_'o_i_compareCards_i.tys → Option (TupT slices_pdqsortCmpFunc_A4_'o_i_compareCards_o.tys)) (x : TupT slices_pdqsortCmpFunc_A4_'o_i_compareCards_i.tys) : evF ⟨tab, [⟨238, slices_pdqsortCmpFunc_A4_'o_i_compareCards_i, slices_pdqsortCmpFunc_A4_'o_i_compareCards_o, go⟩, slices_insertionSortCmpFunc_A4_'o_i_compareCards_e n, slices_heapSortCmpFunc_A4_'o_i_compareCards_e n, slices_choosePivotCmpFunc_A4_'l_i_compareCards_e n, i_compareCards_e n, slices_partitionEqualCmpFunc_A4_'o_i_compareCards_e n, slices_partitionCmpFunc_A4_'o_i_compareCards_e n, slices_partialInsertionSortCmpFunc_A4_'o_i_compareCards_e n, slices_reverseRangeCmpFunc_A4_'o_i_compareCards_e n, slices_breakPatternsCmpFunc_A4_'o_i_compareCards_e n], n, [(5, ⟨[(0, (.own 0)), (1, (.data true tI)), (2, (.data true tI)), (3, (.data true tI)), (4, (.clo 224 .tnil)), (10, (.data true .bool)), (11, (.data true .bool))], [.rows 24 true (.arr 4 tI)], 1⟩), (25, ⟨[(0, (.own 0)), (1, (.data true tI)), (2, (.data true tI)), (3, (.data true tI)), (4, (.clo 224 .tnil)), (10, (.data true .bool)), (11, (.data true .bool)), (12, (.data true tI))], [.rows 24 true (.arr 4 tI)], 1⟩), (35, ⟨[(0, (.own 0)), (1, (.data true tI)), (2, (.data true tI)), (3, (.data true tI)), (4, (.clo 224 .tnil)), (10, (.data true .bool)), (11, (.data true .bool)), (12, (.data true tI)), (13, (.data true tI)), (14, (.data true tI))], [.rows 24 true (.arr 4 tI)], 1⟩), (45, ⟨[(0, (.own 0)), (1, (.data true tI)), (2, (.data true tI)), (3, (.data true tI)), (4, (.clo 224 .tnil)), (10, (.data true .bool)), (11, (.data true .bool)), (12, (.data true tI)), (13, (.data true tI))], [.rows 24 true (.arr 4 tI)], 1⟩)]⟩ Try.f238 slices_pdqsortCmpFunc_A4_'o_i_compareCards_i slices_pdqsortCmpFunc_A4_'o_i_compareCards_o x = slices_pdqsortCmpFunc_A4_'o_i_compareCards_R n go x := by kernel_rfl
noncomputable def slices_pdqsortCmpFunc_A4_'o_i_compareCards_e (n : Nat) : Ent := ⟨238, slices_pdqsortCmpFunc_A4_'o_i_compareCards_i, slices_pdqsortCmpFunc_A4_'o_i_compareCards_o, fun x => slices_pdqsortCmpFunc_A4_'o_i_compareCards n x.1 x.2.1 x.2.2.1 x.2.2.2⟩
theorem slices_pdqsortCmpFunc_A4_'o_i_compareCards_ok (n : Nat) : EntOK Try.prog (slices_pdqsortCmpFunc_A4_'o_i_compareCards_e n) ∧ Own Try.prog 238 := ent_rec tabOK0 (.cons (slices_insertionSortCmpFunc_A4_'o_i_compareCards_ok n) (.cons (slices_heapSortCmpFunc_A4_'o_i_compareCards_ok n) (.cons (slices_choosePivotCmpFunc_A4_'l_i_compareCards_ok n) (.cons (i_compareCards_ok n) (.cons (slices_partitionEqualCmpFunc_A4_'o_i_compareCards_ok n) (.cons (slices_partitionCmpFunc_A4_'o_i_compareCards_ok n) (.cons (slices_partialInsertionSortCmpFunc_A4_'o_i_compareCards_ok n) (.cons (slices_reverseRangeCmpFunc_A4_'o_i_compareCards_ok n) (.cons (slices_breakPatternsCmpFunc_A4_'o_i_compareCards_ok n) .nil))))))))) Try.func238 rfl (by kernel_rfl) (slices_pdqsortCmpFunc_A4_'o_i_compareCards_ev n) n
def slices_SortFunc_SA4_A4_'o_i_compareCards_i : CSh := ⟨[(.own 0), (.clo 224 .tnil)], [.rows 24 true (.arr 4 tI)]⟩
def slices_SortFunc_SA4_A4_'o_i_compareCards_o : RSh := ⟨.tnil, [.rows 24 true (.arr 4 tI)]⟩
theorem slices_SortFunc_SA4_A4_'o_i_compareCards_ev (n : Nat) (x : TupT slices_SortFunc_SA4_A4_'o_i_compareCards_i.tys) : evF ⟨tab, [math_bits_Len_e n, slices_pdqsortCmpFunc_A4_'o_i_compareCards_e n], n, []⟩ Try.f223 slices_SortFunc_SA4_A4_'o_i_compareCards_i slices_SortFunc_SA4_A4_'o_i_compareCards_o x = slices_SortFunc_SA4_A4_'o_i_compareCards n x := by kernel_rfl
noncomputable def slices_SortFunc_SA4_A4_'o_i_compareCards_e (n : Nat) : Ent := ⟨223, slices_SortFunc_SA4_A4_'o_i_compareCards_i, slices_SortFunc_SA4_A4_'o_i_compareCards_o, fun x => slices_SortFunc_SA4_A4_'o_i_compareCards n x⟩
theorem slices_SortFunc_SA4_A4_'o_i_compareCards_ok (n : Nat) : EntOK Try.prog (slices_SortFunc_SA4_A4_'o_i_compareCards_e n) ∧ Own Try.prog 223 := ent_ok tabOK0 (.cons (math_bits_Len_ok n) (.cons (slices_pdqsortCmpFunc_A4_'o_i_compareCards_ok n) .nil)) Try.func223 rfl (by kernel_rfl) (slices_SortFunc_SA4_A4_'o_i_compareCards_ev n)
def slices_Compact_SA4_A4_'o_i : CSh := ⟨[(.own 0)], [.rows 24 true (.arr 4 tI)]⟩
def slices_Compact_SA4_A4_'o_o : RSh := ⟨(.own 1), [.gone, .rows 24 true (.arr 4 tI)]⟩
theorem slices_Compact_SA4_A4_'o_ev (n : Nat) (x : TupT slices_Compact_SA4_A4_'o_i.tys) : evF ⟨tab, [], n, [(14, ⟨[(0, (.own 0)), (3, (.data true tI))], [.rows 24 true (.arr 4 tI)], 1⟩), (32, ⟨[(0, (.own 0)), (3, (.data true tI)), (4, (.ownp 0)), (5, (.data true tI))], [.rows 24 true (.arr 4 tI)], 1⟩)]⟩ Try.f225 slices_Compact_SA4_A4_'o_i slices_Compact_SA4_A4_'o_o x = slices_Compact_SA4_A4_'o n x := by kernel_rfl
noncomputable def slices_Compact_SA4_A4_'o_e (n : Nat) : Ent := ⟨225, slices_Compact_SA4_A4_'o_i, slices_Compact_SA4_A4_'o_o, fun x => slices_Compact_SA4_A4_'o n x⟩
theorem slices_Compact_SA4_A4_'o_ok (n : Nat) : EntOK Try.prog (slices_Compact_SA4_A4_'o_e n) ∧ Own Try.prog 225 := ent_ok tabOK0 .nil Try.func225 rfl (by kernel_rfl) (slices_Compact_SA4_A4_'o_ev n)
def i_sorted_i : CSh := ⟨[(.data false (.sl (.arr 4 tI)))], []⟩
def i_sorted_o : RSh := ⟨(.own 0), [.rows 24 true (.arr 4 tI)]⟩
theorem i_sorted_ev (n : Nat) (x : TupT i_sorted_i.tys) : evF ⟨tab, [slices_Clone_SA4_A4__e n, slices_SortFunc_SA4_A4_'o_i_compareCards_e n, slices_Compact_SA4_A4_'o_e n], n, []⟩ Try.f151 i_sorted_i i_sorted_o x = i_sorted n x := by kernel_rfl
noncomputable def i_sorted_e (n : Nat) : Ent := ⟨151, i_sorted_i, i_sorted_o, fun x => i_sorted n x⟩
theorem i_sorted_ok (n : Nat) : EntOK Try.prog (i_sorted_e n) ∧ Own Try.prog 151 := ent_ok tabOK0 (.cons (slices_Clone_SA4_A4__ok n) (.cons (slices_SortFunc_SA4_A4_'o_i_compareCards_ok n) (.cons (slices_Compact_SA4_A4_'o_ok n) .nil))) Try.func151 rfl (by kernel_rfl) (i_sorted_ev n)
def i_PlayDeal_i : CSh := ⟨[(.data true tI)], []⟩
def i_PlayDeal_o : RSh := ⟨(.tcons (.data true tI) (.tcons (.data true tI) (.tcons (.own 0) (.tcons (.data true .bool) .tnil)))), [.rows 24 true (.arr 4 tI)]⟩
theorem i_PlayDeal_ev (n : Nat) (x : TupT i_PlayDeal_i.tys) : evF ⟨tab, [i_isSeed_e n, i_newDeal_e n, _impl_Deal__isOver_e n, _impl_Deal__step_e n, i_sorted_e n], n, [(14, ⟨[(6, (.ptr 0 [])), (7, (.data true tI)), (8, (.data true tI))], [.var 81 (.pr (.data true tI) (.pr (.data true tI) (.own 1))), .rows 24 true (.arr 4 tI)], 0⟩)]⟩ Try.f78 i_PlayDeal_i i_PlayDeal_o x = i_PlayDeal n x := by kernel_rfl
noncomputable def i_PlayDeal_e (n : Nat) : Ent := ⟨78, i_PlayDeal_i, i_PlayDeal_o, fun x => i_PlayDeal n x⟩
theorem i_PlayDeal_ok (n : Nat) : EntOK Try.prog (i_PlayDeal_e n) ∧ Own Try.prog 78 := ent_ok tabOK0 (.cons (i_isSeed_ok n) (.cons (i_newDeal_ok n) (.cons (_impl_Deal__isOver_ok n) (.cons (_impl_Deal__step_ok n) (.cons (i_sorted_ok n) .nil))))) Try.func78 rfl (by kernel_rfl) (i_PlayDeal_ev n)
def s_l1In_i : CSh := ⟨[(.data true tI), (.data true tI), (.data true tI)], []⟩
def s_l1In_o : RSh := ⟨(.data true .bool), []⟩
theorem s_l1In_ev (n : Nat) (x : TupT s_l1In_i.tys) : evF ⟨tab, [], n, []⟩ Try.f175 s_l1In_i s_l1In_o x = s_l1In n x.1 x.2.1 x.2.2 := by kernel_rfl
noncomputable def s_l1In_e (n : Nat) : Ent := ⟨175, s_l1In_i, s_l1In_o, fun x => s_l1In n x.1 x.2.1 x.2.2⟩
theorem s_l1In_ok (n : Nat) : EntOK Try.prog (s_l1In_e n) ∧ Own Try.prog 175 := ent_ok tabOK0 .nil Try.func175 rfl (by kernel_rfl) (s_l1In_ev n)
def s_l4Seed_i : CSh := ⟨[(.data true tI)], []⟩
def s_l4Seed_o : RSh := ⟨(.data true .bool), []⟩
theorem s_l4Seed_ev (n : Nat) (x : TupT s_l4Seed_i.tys) : evF ⟨tab, [s_l1In_e n], n, []⟩ Try.f186 s_l4Seed_i s_l4Seed_o x = s_l4Seed n x := by kernel_rfl
noncomputable def s_l4Seed_e (n : Nat) : Ent := ⟨186, s_l4Seed_i, s_l4Seed_o, fun x => s_l4Seed n x⟩
theorem s_l4Seed_ok (n : Nat) : EntOK Try.prog (s_l4Seed_e n) ∧ Own Try.prog 186 := ent_ok tabOK0 (.cons (s_l1In_ok n) .nil) Try.func186 rfl (by kernel_rfl) (s_l4Seed_ev n)
def s_l2At_i : CSh := ⟨[(.data true tI)], []⟩
def s_l2At_o : RSh := ⟨(.data true (.arr 4 tI)), []⟩
theorem s_l2At_ev (n : Nat) (x : TupT s_l2At_i.tys) : evF ⟨tab, [], n, []⟩ Try.f143 s_l2At_i s_l2At_o x = s_l2At n x := by kernel_rfl
noncomputable def s_l2At_e (n : Nat) : Ent := ⟨143, s_l2At_i, s_l2At_o, fun x => s_l2At n x⟩
theorem s_l2At_ok (n : Nat) : EntOK Try.prog (s_l2At_e n) ∧ Own Try.prog 143 := ent_ok tabOK0 .nil Try.func143 rfl (by kernel_rfl) (s_l2At_ev n)
def s_l4Behind_i : CSh := ⟨[(.data true tI)], []⟩
def s_l4Behind_o : RSh := ⟨(.data true tI), []⟩
theorem s_l4Behind_ev (n : Nat) (x : TupT s_l4Behind_i.tys) : evF ⟨tab, [], n, []⟩ Try.f189 s_l4Behind_i s_l4Behind_o x = s_l4Behind n x := by kernel_rfl
noncomputable def s_l4Behind_e (n : Nat) : Ent := ⟨189, s_l4Behind_i, s_l4Behind_o, fun x => s_l4Behind n x⟩
theorem s_l4Behind_ok (n : Nat) : EntOK Try.prog (s_l4Behind_e n) ∧ Own Try.prog 189 := ent_ok tabOK0 .nil Try.func189 rfl (by kernel_rfl) (s_l4Behind_ev n)
def s_l4Pile_i : CSh := ⟨[(.data true tI)], []⟩
def s_l4Pile_o : RSh := ⟨(.own 0), [.rows 24 true (.arr 4 tI)]⟩
theorem s_l4Pile_ev (n : Nat) (x : TupT s_l4Pile_i.tys) : evF ⟨tab, [s_l2At_e n, s_l4Behind_e n], n, [(8, ⟨[(0, (.data true tI)), (3, (.own 0)), (4, (.data true tI))], [.rows 24 true (.arr 4 tI)], 0⟩), (23, ⟨[(0, (.data true tI)), (3, (.own 0)), (5, (.data true tI))], [.rows 24 true (.arr 4 tI)], 0⟩)]⟩ Try.f187 s_l4Pile_i s_l4Pile_o x = s_l4Pile n x := by kernel_rfl
noncomputable def s_l4Pile_e (n : Nat) : Ent := ⟨187, s_l4Pile_i, s_l4Pile_o, fun x => s_l4Pile n x⟩
theorem s_l4Pile_ok (n : Nat) : EntOK Try.prog (s_l4Pile_e n) ∧ Own Try.prog 187 := ent_ok tabOK0 (.cons (s_l2At_ok n) (.cons (s_l4Behind_ok n) .nil)) Try.func187 rfl (by kernel_rfl) (s_l4Pile_ev n)
def s_l2Own_i : CSh := ⟨[(.data false (.sl (.arr 4 tI)))], []⟩
def s_l2Own_o : RSh := ⟨(.own 0), [.rows 24 true (.arr 4 tI)]⟩
theorem s_l2Own_ev (n : Nat) (x : TupT s_l2Own_i.tys) : evF ⟨tab, [], n, []⟩ Try.f137 s_l2Own_i s_l2Own_o x = s_l2Own n x := by kernel_rfl
noncomputable def s_l2Own_e (n : Nat) : Ent := ⟨137, s_l2Own_i, s_l2Own_o, fun x => s_l2Own n x⟩
theorem s_l2Own_ok (n : Nat) : EntOK Try.prog (s_l2Own_e n) ∧ Own Try.prog 137 := ent_ok tabOK0 .nil Try.func137 rfl (by kernel_rfl) (s_l2Own_ev n)
def s_NewDeal_i : CSh := ⟨[(.data true tI)], []⟩
def s_NewDeal_o : RSh := ⟨(.tcons (.pr (.data true tI) (.pr (.data true tI) (.own 0))) (.tcons (.data true .bool) .tnil)), [.rows 24 true (.arr 4 tI)]⟩
theorem s_NewDeal_ev (n : Nat) (x : TupT s_NewDeal_i.tys) : evF ⟨tab, [s_l4Seed_e n, s_l4Pile_e n, s_l2Own_e n], n, []⟩ Try.f83 s_NewDeal_i s_NewDeal_o x = s_NewDeal n x := by kernel_rfl
noncomputable def s_NewDeal_e (n : Nat) : Ent := ⟨83, s_NewDeal_i, s_NewDeal_o, fun x => s_NewDeal n x⟩
theorem s_NewDeal_ok (n : Nat) : EntOK Try.prog (s_NewDeal_e n) ∧ Own Try.prog 83 := ent_ok tabOK0 (.cons (s_l4Seed_ok n) (.cons (s_l4Pile_ok n) (.cons (s_l2Own_ok n) .nil))) Try.func83 rfl (by kernel_rfl) (s_NewDeal_ev n)
def s_l2Third_i : CSh := ⟨[(.data true (.arr 4 tI)), (.data true (.arr 4 tI))], []⟩
def s_l2Third_o : RSh := ⟨(.data true (.arr 4 tI)), []⟩
theorem s_l2Third_ev (n : Nat) (x : TupT s_l2Third_i.tys) : evF ⟨tab, [], n, [(8, ⟨[(2, (.ptr 0 [])), (3, (.ptr 1 [])), (4, (.ptr 2 [])), (5, (.ptr 3 [])), (6, (.data true tI))], [.var 24 (.data true (.arr 4 tI)), .var 24 (.data true (.arr 4 tI)), .var 24 (.data true (.arr 4 tI)), .var 24 (.data true (.arr 4 tI))], 0⟩)]⟩ Try.f144 s_l2Third_i s_l2Third_o x = s_l2Third n x.1 x.2 := by kernel_rfl
noncomputable def s_l2Third_e (n : Nat) : Ent := ⟨144, s_l2Third_i, s_l2Third_o, fun x => s_l2Third n x.1 x.2⟩
theorem s_l2Third_ok (n : Nat) : EntOK Try.prog (s_l2Third_e n) ∧ Own Try.prog 144 := ent_ok tabOK0 .nil Try.func144 rfl (by kernel_rfl) (s_l2Third_ev n)
def s_l2Line_i : CSh := ⟨[(.data true (.arr 4 tI)), (.data true (.arr 4 tI)), (.data true (.arr 4 tI))], []⟩
def s_l2Line_o : RSh := ⟨(.data true .bool), []⟩
theorem s_l2Line_ev (n : Nat) (x : TupT s_l2Line_i.tys) : evF ⟨tab, [s_l2Third_e n], n, []⟩ Try.f201 s_l2Line_i s_l2Line_o x = s_l2Line n x.1 x.2.1 x.2.2 := by kernel_rfl
noncomputable def s_l2Line_e (n : Nat) : Ent := ⟨201, s_l2Line_i, s_l2Line_o, fun x => s_l2Line n x.1 x.2.1 x.2.2⟩
theorem s_l2Line_ok (n : Nat) : EntOK Try.prog (s_l2Line_e n) ∧ Own Try.prog 201 := ent_ok tabOK0 (.cons (s_l2Third_ok n) .nil) Try.func201 rfl (by kernel_rfl) (s_l2Line_ev n)
def s_l4Lines_i : CSh := ⟨[(.data false (.sl (.arr 4 tI)))], []⟩
def s_l4Lines_o : RSh := ⟨(.own 0), [.rows 58 true (.arr 3 tI)]⟩
theorem s_l4Lines_ev (n : Nat) (x : TupT s_l4Lines_i.tys) : evF ⟨tab, [s_l2Line_e n], n, [(8, ⟨[(0, (.data false (.sl (.arr 4 tI)))), (3, (.own 0)), (4, (.data true tI))], [.rows 58 true (.arr 3 tI)], 0⟩), (20, ⟨[(0, (.data false (.sl (.arr 4 tI)))), (3, (.own 0)), (4, (.data true tI)), (5, (.data true tI))], [.rows 58 true (.arr 3 tI)], 0⟩), (32, ⟨[(0, (.data false (.sl (.arr 4 tI)))), (3, (.own 0)), (4, (.data true tI)), (5, (.data true tI)), (6, (.data true tI))], [.rows 58 true (.arr 3 tI)], 0⟩)]⟩ Try.f183 s_l4Lines_i s_l4Lines_o x = s_l4Lines n x := by kernel_rfl
noncomputable def s_l4Lines_e (n : Nat) : Ent := ⟨183, s_l4Lines_i, s_l4Lines_o, fun x => s_l4Lines n x⟩
theorem s_l4Lines_ok (n : Nat) : EntOK Try.prog (s_l4Lines_e n) ∧ Own Try.prog 183 := ent_ok tabOK0 (.cons (s_l2Line_ok n) .nil) Try.func183 rfl (by kernel_rfl) (s_l4Lines_ev n)
def s_l4Over_i : CSh := ⟨[(.data false (.pair tI (.pair tI (.sl (.arr 4 tI)))))], []⟩
def s_l4Over_o : RSh := ⟨(.data true .bool), []⟩
theorem s_l4Over_ev (n : Nat) (x : TupT s_l4Over_i.tys) : evF ⟨tab, [s_l4Lines_e n], n, []⟩ Try.f182 s_l4Over_i s_l4Over_o x = s_l4Over n x := by kernel_rfl
noncomputable def s_l4Over_e (n : Nat) : Ent := ⟨182, s_l4Over_i, s_l4Over_o, fun x => s_l4Over n x⟩
theorem s_l4Over_ok (n : Nat) : EntOK Try.prog (s_l4Over_e n) ∧ Own Try.prog 182 := ent_ok tabOK0 (.cons (s_l4Lines_ok n) .nil) Try.func182 rfl (by kernel_rfl) (s_l4Over_ev n)
def s_l1Least_i : CSh := ⟨[(.data true tI), (.data true tI)], []⟩
def s_l1Least_o : RSh := ⟨(.data true tI), []⟩
theorem s_l1Least_ev (n : Nat) (x : TupT s_l1Least_i.tys) : evF ⟨tab, [], n, []⟩ Try.f242 s_l1Least_i s_l1Least_o x = s_l1Least n x.1 x.2 := by kernel_rfl
noncomputable def s_l1Least_e (n : Nat) : Ent := ⟨242, s_l1Least_i, s_l1Least_o, fun x => s_l1Least n x.1 x.2⟩
theorem s_l1Least_ok (n : Nat) : EntOK Try.prog (s_l1Least_e n) ∧ Own Try.prog 242 := ent_ok tabOK0 .nil Try.func242 rfl (by kernel_rfl) (s_l1Least_ev n)
def s_l4Lay_i : CSh := ⟨[(.data false (.pair tI (.pair tI (.sl (.arr 4 tI))))), (.data true tI)], []⟩
def s_l4Lay_o : RSh := ⟨(.pr (.data true tI) (.pr (.data true tI) (.own 0))), [.rows 24 true (.arr 4 tI)]⟩
theorem s_l4Lay_ev (n : Nat) (x : TupT s_l4Lay_i.tys) : evF ⟨tab, [s_l4Pile_e n, s_l1Least_e n, s_l2Own_e n], n, []⟩ Try.f232 s_l4Lay_i s_l4Lay_o x = s_l4Lay n x.1 x.2 := by kernel_rfl
noncomputable def s_l4Lay_e (n : Nat) : Ent := ⟨232, s_l4Lay_i, s_l4Lay_o, fun x => s_l4Lay n x.1 x.2⟩
theorem s_l4Lay_ok (n : Nat) : EntOK Try.prog (s_l4Lay_e n) ∧ Own Try.prog 232 := ent_ok tabOK0 (.cons (s_l4Pile_ok n) (.cons (s_l1Least_ok n) (.cons (s_l2Own_ok n) .nil))) Try.func232 rfl (by kernel_rfl) (s_l4Lay_ev n)
def s_l1Most_i : CSh := ⟨[(.data true tI), (.data true tI)], []⟩
def s_l1Most_o : RSh := ⟨(.data true tI), []⟩
theorem s_l1Most_ev (n : Nat) (x : TupT s_l1Most_i.tys) : evF ⟨tab, [], n, []⟩ Try.f162 s_l1Most_i s_l1Most_o x = s_l1Most n x.1 x.2 := by kernel_rfl
noncomputable def s_l1Most_e (n : Nat) : Ent := ⟨162, s_l1Most_i, s_l1Most_o, fun x => s_l1Most n x.1 x.2⟩
theorem s_l1Most_ok (n : Nat) : EntOK Try.prog (s_l1Most_e n) ∧ Own Try.prog 162 := ent_ok tabOK0 .nil Try.func162 rfl (by kernel_rfl) (s_l1Most_ev n)
def s_l4Take_i : CSh := ⟨[(.data false (.pair tI (.pair tI (.sl (.arr 4 tI))))), (.data true (.arr 3 tI))], []⟩
def s_l4Take_o : RSh := ⟨(.pr (.data true tI) (.pr (.data true tI) (.own 0))), [.rows 24 true (.arr 4 tI)]⟩
theorem s_l4Take_ev (n : Nat) (x : TupT s_l4Take_i.tys) : evF ⟨tab, [s_l1Most_e n, s_l4Lay_e n], n, [(8, ⟨[(2, (.ptr 0 [])), (3, (.ptr 1 [])), (4, (.ptr 2 [])), (5, (.ptr 3 [])), (6, (.data true tI))], [.var 81 (.data false (.pair tI (.pair tI (.sl (.arr 4 tI))))), .var 58 (.data true (.arr 3 tI)), .var 81 (.pr (.data true tI) (.pr (.data true tI) .nil)), .var 81 (.pr (.data true tI) (.pr (.data true tI) (.own 4))), .rows 24 true (.arr 4 tI)], 0⟩)]⟩ Try.f233 s_l4Take_i s_l4Take_o x = s_l4Take n x.1 x.2 := by kernel_rfl
noncomputable def s_l4Take_e (n : Nat) : Ent := ⟨233, s_l4Take_i, s_l4Take_o, fun x => s_l4Take n x.1 x.2⟩
theorem s_l4Take_ok (n : Nat) : EntOK Try.prog (s_l4Take_e n) ∧ Own Try.prog 233 := ent_ok tabOK0 (.cons (s_l1Most_ok n) (.cons (s_l4Lay_ok n) .nil)) Try.func233 rfl (by kernel_rfl) (s_l4Take_ev n)
def s_l4Step_i : CSh := ⟨[(.data false (.pair tI (.pair tI (.sl (.arr 4 tI)))))], []⟩
def s_l4Step_o : RSh := ⟨(.pr (.data true tI) (.pr (.data true tI) (.own 0))), [.rows 24 true (.arr 4 tI)]⟩
theorem s_l4Step_ev (n : Nat) (x : TupT s_l4Step_i.tys) : evF ⟨tab, [s_l4Lines_e n, s_l4Lay_e n, s_l4Take_e n], n, []⟩ Try.f184 s_l4Step_i s_l4Step_o x = s_l4Step n x := by kernel_rfl
noncomputable def s_l4Step_e (n : Nat) : Ent := ⟨184, s_l4Step_i, s_l4Step_o, fun x => s_l4Step n x⟩
theorem s_l4Step_ok (n : Nat) : EntOK Try.prog (s_l4Step_e n) ∧ Own Try.prog 184 := ent_ok tabOK0 (.cons (s_l4Lines_ok n) (.cons (s_l4Lay_ok n) (.cons (s_l4Take_ok n) .nil))) Try.func184 rfl (by kernel_rfl) (s_l4Step_ev n)
def s_l2Number_i : CSh := ⟨[(.data true (.arr 4 tI))], []⟩
def s_l2Number_o : RSh := ⟨(.data true tI), []⟩
theorem s_l2Number_ev (n : Nat) (x : TupT s_l2Number_i.tys) : evF ⟨tab, [], n, []⟩ Try.f236 s_l2Number_i s_l2Number_o x = s_l2Number n x := by kernel_rfl
noncomputable def s_l2Number_e (n : Nat) : Ent := ⟨236, s_l2Number_i, s_l2Number_o, fun x => s_l2Number n x⟩
theorem s_l2Number_ok (n : Nat) : EntOK Try.prog (s_l2Number_e n) ∧ Own Try.prog 236 := ent_ok tabOK0 .nil Try.func236 rfl (by kernel_rfl) (s_l2Number_ev n)
def s_l2Less_i : CSh := ⟨[(.data true (.arr 4 tI)), (.data true (.arr 4 tI))], []⟩
def s_l2Less_o : RSh := ⟨(.data true .bool), []⟩
theorem s_l2Less_ev (n : Nat) (x : TupT s_l2Less_i.tys) : evF ⟨tab, [s_l2Number_e n], n, []⟩ Try.f216 s_l2Less_i s_l2Less_o x = s_l2Less n x.1 x.2 := by kernel_rfl
noncomputable def s_l2Less_e (n : Nat) : Ent := ⟨216, s_l2Less_i, s_l2Less_o, fun x => s_l2Less n x.1 x.2⟩
theorem s_l2Less_ok (n : Nat) : EntOK Try.prog (s_l2Less_e n) ∧ Own Try.prog 216 := ent_ok tabOK0 (.cons (s_l2Number_ok n) .nil) Try.func216 rfl (by kernel_rfl) (s_l2Less_ev n)
def s_l2Put_i : CSh := ⟨[(.data false (.sl (.arr 4 tI))), (.data true (.arr 4 tI))], []⟩
def s_l2Put_o : RSh := ⟨(.own 0), [.rows 24 true (.arr 4 tI)]⟩
theorem s_l2Put_ev (n : Nat) (x : TupT s_l2Put_i.tys) : evF ⟨tab, [s_l2Less_e n, s_l2Own_e n], n, [(6, ⟨[(0, (.data false (.sl (.arr 4 tI)))), (3, (.ptr 0 [])), (5, (.data true tI))], [.var 24 (.data true (.arr 4 tI))], 0⟩)]⟩ Try.f129 s_l2Put_i s_l2Put_o x = s_l2Put n x.1 x.2 := by kernel_rfl
noncomputable def s_l2Put_e (n : Nat) : Ent := ⟨129, s_l2Put_i, s_l2Put_o, fun x => s_l2Put n x.1 x.2⟩
theorem s_l2Put_ok (n : Nat) : EntOK Try.prog (s_l2Put_e n) ∧ Own Try.prog 129 := ent_ok tabOK0 (.cons (s_l2Less_ok n) (.cons (s_l2Own_ok n) .nil)) Try.func129 rfl (by kernel_rfl) (s_l2Put_ev n)
def s_l2Sorted_i : CSh := ⟨[(.data false (.sl (.arr 4 tI)))], []⟩
def s_l2Sorted_o : RSh := ⟨(.own 0), [.rows 24 true (.arr 4 tI)]⟩
theorem s_l2Sorted_ev (n : Nat) (x : TupT s_l2Sorted_i.tys) : evF ⟨tab, [s_l2Put_e n], n, [(8, ⟨[(0, (.data false (.sl (.arr 4 tI)))), (3, (.own 0)), (4, (.data true tI))], [.rows 24 true (.arr 4 tI)], 0⟩)]⟩ Try.f185 s_l2Sorted_i s_l2Sorted_o x = s_l2Sorted n x := by kernel_rfl
noncomputable def s_l2Sorted_e (n : Nat) : Ent := ⟨185, s_l2Sorted_i, s_l2Sorted_o, fun x => s_l2Sorted n x⟩
theorem s_l2Sorted_ok (n : Nat) : EntOK Try.prog (s_l2Sorted_e n) ∧ Own Try.prog 185 := ent_ok tabOK0 (.cons (s_l2Put_ok n) .nil) Try.func185 rfl (by kernel_rfl) (s_l2Sorted_ev n)
def s_PlayDeal_i : CSh := ⟨[(.data true tI)], []⟩
def s_PlayDeal_o : RSh := ⟨(.tcons (.data true tI) (.tcons (.data true tI) (.tcons (.own 0) (.tcons (.data true .bool) .tnil)))), [.rows 24 true (.arr 4 tI)]⟩
theorem s_PlayDeal_ev (n : Nat) (x : TupT s_PlayDeal_i.tys) : evF ⟨tab, [s_NewDeal_e n, s_l4Over_e n, s_l4Lines_e n, s_l4Step_e n, s_l2Sorted_e n], n, [(16, ⟨[(6, (.ptr 0 [])), (8, (.data true tI)), (9, (.data true tI))], [.var 81 (.pr (.data true tI) (.pr (.data true tI) (.own 1))), .rows 24 true (.arr 4 tI)], 0⟩)]⟩ Try.f79 s_PlayDeal_i s_PlayDeal_o x = s_PlayDeal n x := by kernel_rfl
noncomputable def s_PlayDeal_e (n : Nat) : Ent := ⟨79, s_PlayDeal_i, s_PlayDeal_o, fun x => s_PlayDeal n x⟩
theorem s_PlayDeal_ok (n : Nat) : EntOK Try.prog (s_PlayDeal_e n) ∧ Own Try.prog 79 := ent_ok tabOK0 (.cons (s_NewDeal_ok n) (.cons (s_l4Over_ok n) (.cons (s_l4Lines_ok n) (.cons (s_l4Step_ok n) (.cons (s_l2Sorted_ok n) .nil))))) Try.func79 rfl (by kernel_rfl) (s_PlayDeal_ev n)
def v_rHand_i : CSh := ⟨[(.data false (.sl (.arr 4 tI))), (.data false (.sl (.arr 4 tI)))], []⟩
def v_rHand_o : RSh := ⟨(.data true .bool), []⟩
theorem v_rHand_ev (n : Nat) (x : TupT v_rHand_i.tys) : evF ⟨tab, [], n, [(14, ⟨[(0, (.data false (.sl (.arr 4 tI)))), (1, (.data false (.sl (.arr 4 tI)))), (5, (.data true tI))], [], 0⟩)]⟩ Try.f18 v_rHand_i v_rHand_o x = v_rHand n x.1 x.2 := by kernel_rfl
noncomputable def v_rHand_e (n : Nat) : Ent := ⟨18, v_rHand_i, v_rHand_o, fun x => v_rHand n x.1 x.2⟩
theorem v_rHand_ok (n : Nat) : EntOK Try.prog (v_rHand_e n) ∧ Own Try.prog 18 := ent_ok tabOK0 .nil Try.func18 rfl (by kernel_rfl) (v_rHand_ev n)
def i_DealSizes_i : CSh := ⟨[(.data true tI)], []⟩
def i_DealSizes_o : RSh := ⟨(.tcons (.own 0) (.tcons (.data true .bool) .tnil)), [.rows 3 true tI]⟩
theorem i_DealSizes_ev (n : Nat) (x : TupT i_DealSizes_i.tys) : evF ⟨tab, [i_isSeed_e n, i_newDeal_e n, _impl_Deal__isOver_e n, _impl_Deal__step_e n], n, [(16, ⟨[(4, (.ptr 0 [])), (5, (.own 1))], [.var 81 (.pr (.data true tI) (.pr (.data true tI) (.own 2))), .rows 3 true tI, .rows 24 true (.arr 4 tI)], 0⟩)]⟩ Try.f80 i_DealSizes_i i_DealSizes_o x = i_DealSizes n x := by kernel_rfl
noncomputable def i_DealSizes_e (n : Nat) : Ent := ⟨80, i_DealSizes_i, i_DealSizes_o, fun x => i_DealSizes n x⟩
theorem i_DealSizes_ok (n : Nat) : EntOK Try.prog (i_DealSizes_e n) ∧ Own Try.prog 80 := ent_ok tabOK0 (.cons (i_isSeed_ok n) (.cons (i_newDeal_ok n) (.cons (_impl_Deal__isOver_ok n) (.cons (_impl_Deal__step_ok n) .nil)))) Try.func80 rfl (by kernel_rfl) (i_DealSizes_ev n)
def s_DealSizes_i : CSh := ⟨[(.data true tI)], []⟩
def s_DealSizes_o : RSh := ⟨(.tcons (.own 0) (.tcons (.data true .bool) .tnil)), [.rows 3 true tI]⟩
theorem s_DealSizes_ev (n : Nat) (x : TupT s_DealSizes_i.tys) : evF ⟨tab, [s_NewDeal_e n, s_l4Over_e n, s_l4Step_e n], n, [(16, ⟨[(4, (.own 0)), (5, (.ptr 1 []))], [.rows 3 true tI, .var 81 (.pr (.data true tI) (.pr (.data true tI) (.own 2))), .rows 24 true (.arr 4 tI)], 0⟩)]⟩ Try.f81 s_DealSizes_i s_DealSizes_o x = s_DealSizes n x := by kernel_rfl
noncomputable def s_DealSizes_e (n : Nat) : Ent := ⟨81, s_DealSizes_i, s_DealSizes_o, fun x => s_DealSizes n x⟩
theorem s_DealSizes_ok (n : Nat) : EntOK Try.prog (s_DealSizes_e n) ∧ Own Try.prog 81 := ent_ok tabOK0 (.cons (s_NewDeal_ok n) (.cons (s_l4Over_ok n) (.cons (s_l4Step_ok n) .nil))) Try.func81 rfl (by kernel_rfl) (s_DealSizes_ev n)
def v_rInts_i : CSh := ⟨[(.data false (.sl tI)), (.data false (.sl tI))], []⟩
def v_rInts_o : RSh := ⟨(.data true .bool), []⟩
theorem v_rInts_ev (n : Nat) (x : TupT v_rInts_i.tys) : evF ⟨tab, [], n, [(14, ⟨[(0, (.data false (.sl tI))), (1, (.data false (.sl tI))), (5, (.data true tI))], [], 0⟩)]⟩ Try.f26 v_rInts_i v_rInts_o x = v_rInts n x.1 x.2 := by kernel_rfl
noncomputable def v_rInts_e (n : Nat) : Ent := ⟨26, v_rInts_i, v_rInts_o, fun x => v_rInts n x.1 x.2⟩
theorem v_rInts_ok (n : Nat) : EntOK Try.prog (v_rInts_e n) ∧ Own Try.prog 26 := ent_ok tabOK0 .nil Try.func26 rfl (by kernel_rfl) (v_rInts_ev n)
def i_NewDeal_i : CSh := ⟨[(.data true tI)], []⟩
def i_NewDeal_o : RSh := ⟨(.tcons (.pr (.data true tI) (.pr (.data true tI) (.own 0))) (.tcons (.data true .bool) .tnil)), [.rows 24 true (.arr 4 tI)]⟩
theorem i_NewDeal_ev (n : Nat) (x : TupT i_NewDeal_i.tys) : evF ⟨tab, [i_isSeed_e n, i_newDeal_e n], n, []⟩ Try.f82 i_NewDeal_i i_NewDeal_o x = i_NewDeal n x := by kernel_rfl
noncomputable def i_NewDeal_e (n : Nat) : Ent := ⟨82, i_NewDeal_i, i_NewDeal_o, fun x => i_NewDeal n x⟩
theorem i_NewDeal_ok (n : Nat) : EntOK Try.prog (i_NewDeal_e n) ∧ Own Try.prog 82 := ent_ok tabOK0 (.cons (i_isSeed_ok n) (.cons (i_newDeal_ok n) .nil)) Try.func82 rfl (by kernel_rfl) (i_NewDeal_ev n)
def v_rDeal_i : CSh := ⟨[(.data false (.pair tI (.pair tI (.sl (.arr 4 tI))))), (.data false (.pair tI (.pair tI (.sl (.arr 4 tI)))))], []⟩
def v_rDeal_o : RSh := ⟨(.data true .bool), []⟩
theorem v_rDeal_ev (n : Nat) (x : TupT v_rDeal_i.tys) : evF ⟨tab, [v_rHand_e n], n, []⟩ Try.f84 v_rDeal_i v_rDeal_o x = v_rDeal n x.1 x.2 := by kernel_rfl
noncomputable def v_rDeal_e (n : Nat) : Ent := ⟨84, v_rDeal_i, v_rDeal_o, fun x => v_rDeal n x.1 x.2⟩
theorem v_rDeal_ok (n : Nat) : EntOK Try.prog (v_rDeal_e n) ∧ Own Try.prog 84 := ent_ok tabOK0 (.cons (v_rHand_ok n) .nil) Try.func84 rfl (by kernel_rfl) (v_rDeal_ev n)
def i_NextSeed_i : CSh := ⟨[(.data true tI)], []⟩
def i_NextSeed_o : RSh := ⟨(.tcons (.data true tI) (.tcons (.data true .bool) .tnil)), []⟩
theorem i_NextSeed_ev (n : Nat) (x : TupT i_NextSeed_i.tys) : evF ⟨tab, [i_isSeed_e n, i_behind_e n], n, []⟩ Try.f85 i_NextSeed_i i_NextSeed_o x = i_NextSeed n x := by kernel_rfl
noncomputable def i_NextSeed_e (n : Nat) : Ent := ⟨85, i_NextSeed_i, i_NextSeed_o, fun x => i_NextSeed n x⟩
theorem i_NextSeed_ok (n : Nat) : EntOK Try.prog (i_NextSeed_e n) ∧ Own Try.prog 85 := ent_ok tabOK0 (.cons (i_isSeed_ok n) (.cons (i_behind_ok n) .nil)) Try.func85 rfl (by kernel_rfl) (i_NextSeed_ev n)
def s_NextSeed_i : CSh := ⟨[(.data true tI)], []⟩
def s_NextSeed_o : RSh := ⟨(.tcons (.data true tI) (.tcons (.data true .bool) .tnil)), []⟩
theorem s_NextSeed_ev (n : Nat) (x : TupT s_NextSeed_i.tys) : evF ⟨tab, [s_l4Seed_e n, s_l4Behind_e n], n, []⟩ Try.f86 s_NextSeed_i s_NextSeed_o x = s_NextSeed n x := by kernel_rfl
noncomputable def s_NextSeed_e (n : Nat) : Ent := ⟨86, s_NextSeed_i, s_NextSeed_o, fun x => s_NextSeed n x⟩
theorem s_NextSeed_ok (n : Nat) : EntOK Try.prog (s_NextSeed_e n) ∧ Own Try.prog 86 := ent_ok tabOK0 (.cons (s_l4Seed_ok n) (.cons (s_l4Behind_ok n) .nil)) Try.func86 rfl (by kernel_rfl) (s_NextSeed_ev n)
def s_Cur_card'p_i : CSh := ⟨[(.ptr 0 [])], [.var 113 (.data true (.pair (.sl (.int .u8)) (.pair tI (.int .u64))))]⟩
def s_Cur_card'p_o : RSh := ⟨(.data true (.arr 4 tI)), [.var 113 (.data true (.pair (.sl (.int .u8)) (.pair tI (.int .u64))))]⟩
theorem s_Cur_card'p_ev (n : Nat) (x : TupT s_Cur_card'p_i.tys) : evF ⟨tab, [s_Cur_pick'p_e n, s_l2At_e n, s_Cur_one'p_e n, s_Cur_among'pl_e n], n, []⟩ Try.f163 s_Cur_card'p_i s_Cur_card'p_o x = s_Cur_card'p n x := by kernel_rfl
noncomputable def s_Cur_card'p_e (n : Nat) : Ent := ⟨163, s_Cur_card'p_i, s_Cur_card'p_o, fun x => s_Cur_card'p n x⟩
theorem s_Cur_card'p_ok (n : Nat) : EntOK Try.prog (s_Cur_card'p_e n) ∧ Own Try.prog 163 := ent_ok tabOK0 (.cons (s_Cur_pick'p_ok n) (.cons (s_l2At_ok n) (.cons (s_Cur_one'p_ok n) (.cons (s_Cur_among'pl_ok n) .nil)))) Try.func163 rfl (by kernel_rfl) (s_Cur_card'p_ev n)
def s_DrawCardPlace_i : CSh := ⟨[(.data false (.sl (.int .u8)))], []⟩
def s_DrawCardPlace_o : RSh := ⟨(.tcons (.data true tI) (.tcons (.data true (.arr 4 tI)) .tnil)), []⟩
theorem s_DrawCardPlace_ev (n : Nat) (x : TupT s_DrawCardPlace_i.tys) : evF ⟨tab, [s_Cur_seedOf'p_e n, s_Cur_card'p_e n], n, []⟩ Try.f87 s_DrawCardPlace_i s_DrawCardPlace_o x = s_DrawCardPlace n x := by kernel_rfl
noncomputable def s_DrawCardPlace_e (n : Nat) : Ent := ⟨87, s_DrawCardPlace_i, s_DrawCardPlace_o, fun x => s_DrawCardPlace n x⟩
theorem s_DrawCardPlace_ok (n : Nat) : EntOK Try.prog (s_DrawCardPlace_e n) ∧ Own Try.prog 87 := ent_ok tabOK0 (.cons (s_Cur_seedOf'p_ok n) (.cons (s_Cur_card'p_ok n) .nil)) Try.func87 rfl (by kernel_rfl) (s_DrawCardPlace_ev n)
def i_allWithin_1'pp_i : CSh := ⟨[(.data true tI), (.ptr 0 []), (.ptr 1 [])], [.var 3 (.data true tI), .var 3 (.data true tI)]⟩
def i_allWithin_1'pp_o : RSh := ⟨(.data true .bool), [.var 3 (.data true tI), .var 3 (.data true tI)]⟩
theorem i_allWithin_1'pp_ev (n : Nat) (x : TupT i_allWithin_1'pp_i.tys) : evF ⟨tab, [i_within_e n], n, []⟩ Try.f215 i_allWithin_1'pp_i i_allWithin_1'pp_o x = i_allWithin_1'pp n x.1 x.2.1 x.2.2 := by kernel_rfl
noncomputable def i_allWithin_1'pp_e (n : Nat) : Ent := ⟨215, i_allWithin_1'pp_i, i_allWithin_1'pp_o, fun x => i_allWithin_1'pp n x.1 x.2.1 x.2.2⟩
theorem i_allWithin_1'pp_ok (n : Nat) : EntOK Try.prog (i_allWithin_1'pp_e n) ∧ Own Try.prog 215 := ent_ok tabOK0 (.cons (i_within_ok n) .nil) Try.func215 rfl (by kernel_rfl) (i_allWithin_1'pp_ev n)
def slices_IndexFunc_Sint_int_'l_i_allWithin_1pp_i : CSh := ⟨[(.data false (.sl tI)), (.clo 215 (.tcons (.ptr 0 []) (.tcons (.ptr 1 []) .tnil)))], [.var 3 (.data true tI), .var 3 (.data true tI)]⟩
def slices_IndexFunc_Sint_int_'l_i_allWithin_1pp_o : RSh := ⟨(.data true tI), [.var 3 (.data true tI), .var 3 (.data true tI)]⟩
theorem slices_IndexFunc_Sint_int_'l_i_allWithin_1pp_ev (n : Nat) (x : TupT slices_IndexFunc_Sint_int_'l_i_allWithin_1pp_i.tys) : evF ⟨tab, [i_allWithin_1'pp_e n], n, [(6, ⟨[(0, (.data false (.sl tI))), (1, (.clo 215 (.tcons (.ptr 0 []) (.tcons (.ptr 1 []) .tnil)))), (7, (.data true tI)), (8, (.data true tI))], [.var 3 (.data true tI), .var 3 (.data true tI)], 2⟩)]⟩ Try.f235 slices_IndexFunc_Sint_int_'l_i_allWithin_1pp_i slices_IndexFunc_Sint_int_'l_i_allWithin_1pp_o x = slices_IndexFunc_Sint_int_'l_i_allWithin_1pp n x.1 x.2.1 x.2.2 := by kernel_rfl
noncomputable def slices_IndexFunc_Sint_int_'l_i_allWithin_1pp_e (n : Nat) : Ent := ⟨235, slices_IndexFunc_Sint_int_'l_i_allWithin_1pp_i, slices_IndexFunc_Sint_int_'l_i_allWithin_1pp_o, fun x => slices_IndexFunc_Sint_int_'l_i_allWithin_1pp n x.1 x.2.1 x.2.2⟩
theorem slices_IndexFunc_Sint_int_'l_i_allWithin_1pp_ok (n : Nat) : EntOK Try.prog (slices_IndexFunc_Sint_int_'l_i_allWithin_1pp_e n) ∧ Own Try.prog 235 := ent_ok tabOK0 (.cons (i_allWithin_1'pp_ok n) .nil) Try.func235 rfl (by kernel_rfl) (slices_IndexFunc_Sint_int_'l_i_allWithin_1pp_ev n)
def slices_ContainsFunc_Sint_int_'l_i_allWithin_1pp_i : CSh := ⟨[(.data false (.sl tI)), (.clo 215 (.tcons (.ptr 0 []) (.tcons (.ptr 1 []) .tnil)))], [.var 3 (.data true tI), .var 3 (.data true tI)]⟩
def slices_ContainsFunc_Sint_int_'l_i_allWithin_1pp_o : RSh := ⟨(.data true .bool), [.var 3 (.data true tI), .var 3 (.data true tI)]⟩
theorem slices_ContainsFunc_Sint_int_'l_i_allWithin_1pp_ev (n : Nat) (x : TupT slices_ContainsFunc_Sint_int_'l_i_allWithin_1pp_i.tys) : evF ⟨tab, [slices_IndexFunc_Sint_int_'l_i_allWithin_1pp_e n], n, []⟩ Try.f214 slices_ContainsFunc_Sint_int_'l_i_allWithin_1pp_i slices_ContainsFunc_Sint_int_'l_i_allWithin_1pp_o x = slices_ContainsFunc_Sint_int_'l_i_allWithin_1pp n x.1 x.2.1 x.2.2 := by kernel_rfl
noncomputable def slices_ContainsFunc_Sint_int_'l_i_allWithin_1pp_e (n : Nat) : Ent := ⟨214, slices_ContainsFunc_Sint_int_'l_i_allWithin_1pp_i, slices_ContainsFunc_Sint_int_'l_i_allWithin_1pp_o, fun x => slices_ContainsFunc_Sint_int_'l_i_allWithin_1pp n x.1 x.2.1 x.2.2⟩
theorem slices_ContainsFunc_Sint_int_'l_i_allWithin_1pp_ok (n : Nat) : EntOK Try.prog (slices_ContainsFunc_Sint_int_'l_i_allWithin_1pp_e n) ∧ Own Try.prog 214 := ent_ok tabOK0 (.cons (slices_IndexFunc_Sint_int_'l_i_allWithin_1pp_ok n) .nil) Try.func214 rfl (by kernel_rfl) (slices_ContainsFunc_Sint_int_'l_i_allWithin_1pp_ev n)
def i_allWithin_i : CSh := ⟨[(.data false (.sl tI)), (.data true tI), (.data true tI)], []⟩
def i_allWithin_o : RSh := ⟨(.data true .bool), []⟩
theorem i_allWithin_ev (n : Nat) (x : TupT i_allWithin_i.tys) : evF ⟨tab, [slices_ContainsFunc_Sint_int_'l_i_allWithin_1pp_e n], n, []⟩ Try.f125 i_allWithin_i i_allWithin_o x = i_allWithin n x.1 x.2.1 x.2.2 := by kernel_rfl
noncomputable def i_allWithin_e (n : Nat) : Ent := ⟨125, i_allWithin_i, i_allWithin_o, fun x => i_allWithin n x.1 x.2.1 x.2.2⟩
theorem i_allWithin_ok (n : Nat) : EntOK Try.prog (i_allWithin_e n) ∧ Own Try.prog 125 := ent_ok tabOK0 (.cons (slices_ContainsFunc_Sint_int_'l_i_allWithin_1pp_ok n) .nil) Try.func125 rfl (by kernel_rfl) (i_allWithin_ev n)
def i_IsCard_i : CSh := ⟨[(.data true (.arr 4 tI))], []⟩
def i_IsCard_o : RSh := ⟨(.data true .bool), []⟩
theorem i_IsCard_ev (n : Nat) (x : TupT i_IsCard_i.tys) : evF ⟨tab, [i_allWithin_e n], n, []⟩ Try.f14 i_IsCard_i i_IsCard_o x = i_IsCard n x := by kernel_rfl
noncomputable def i_IsCard_e (n : Nat) : Ent := ⟨14, i_IsCard_i, i_IsCard_o, fun x => i_IsCard n x⟩
theorem i_IsCard_ok (n : Nat) : EntOK Try.prog (i_IsCard_e n) ∧ Own Try.prog 14 := ent_ok tabOK0 (.cons (i_allWithin_ok n) .nil) Try.func14 rfl (by kernel_rfl) (i_IsCard_ev n)
def slices_Index_SA4_A4__i : CSh := ⟨[(.data false (.sl (.arr 4 tI))), (.data true (.arr 4 tI))], []⟩
def slices_Index_SA4_A4__o : RSh := ⟨(.data true tI), []⟩
theorem slices_Index_SA4_A4__ev (n : Nat) (x : TupT slices_Index_SA4_A4__i.tys) : evF ⟨tab, [], n, [(6, ⟨[(0, (.data false (.sl (.arr 4 tI)))), (3, (.ptr 0 [])), (7, (.data true tI)), (8, (.data true tI))], [.var 24 (.data true (.arr 4 tI))], 0⟩)]⟩ Try.f191 slices_Index_SA4_A4__i slices_Index_SA4_A4__o x = slices_Index_SA4_A4_ n x.1 x.2 := by kernel_rfl
noncomputable def slices_Index_SA4_A4__e (n : Nat) : Ent := ⟨191, slices_Index_SA4_A4__i, slices_Index_SA4_A4__o, fun x => slices_Index_SA4_A4_ n x.1 x.2⟩
theorem slices_Index_SA4_A4__ok (n : Nat) : EntOK Try.prog (slices_Index_SA4_A4__e n) ∧ Own Try.prog 191 := ent_ok tabOK0 .nil Try.func191 rfl (by kernel_rfl) (slices_Index_SA4_A4__ev n)
def i_CardPlace_i : CSh := ⟨[(.data true tI), (.data true (.arr 4 tI))], []⟩
def i_CardPlace_o : RSh := ⟨(.tcons (.data true tI) (.tcons (.data true .bool) .tnil)), []⟩
theorem i_CardPlace_ev (n : Nat) (x : TupT i_CardPlace_i.tys) : evF ⟨tab, [i_isSeed_e n, i_IsCard_e n, i_pile_e n, slices_Index_SA4_A4__e n], n, []⟩ Try.f88 i_CardPlace_i i_CardPlace_o x = i_CardPlace n x.1 x.2 := by kernel_rfl
noncomputable def i_CardPlace_e (n : Nat) : Ent := ⟨88, i_CardPlace_i, i_CardPlace_o, fun x => i_CardPlace n x.1 x.2⟩
theorem i_CardPlace_ok (n : Nat) : EntOK Try.prog (i_CardPlace_e n) ∧ Own Try.prog 88 := ent_ok tabOK0 (.cons (i_isSeed_ok n) (.cons (i_IsCard_ok n) (.cons (i_pile_ok n) (.cons (slices_Index_SA4_A4__ok n) .nil)))) Try.func88 rfl (by kernel_rfl) (i_CardPlace_ev n)
def s_l2Card_i : CSh := ⟨[(.data true (.arr 4 tI))], []⟩
def s_l2Card_o : RSh := ⟨(.data true .bool), []⟩
theorem s_l2Card_ev (n : Nat) (x : TupT s_l2Card_i.tys) : evF ⟨tab, [s_l1In_e n], n, [(6, ⟨[(1, (.ptr 0 [])), (3, (.data true tI))], [.var 24 (.data true (.arr 4 tI))], 0⟩)]⟩ Try.f123 s_l2Card_i s_l2Card_o x = s_l2Card n x := by kernel_rfl
noncomputable def s_l2Card_e (n : Nat) : Ent := ⟨123, s_l2Card_i, s_l2Card_o, fun x => s_l2Card n x⟩
theorem s_l2Card_ok (n : Nat) : EntOK Try.prog (s_l2Card_e n) ∧ Own Try.prog 123 := ent_ok tabOK0 (.cons (s_l1In_ok n) .nil) Try.func123 rfl (by kernel_rfl) (s_l2Card_ev n)
def s_l2Place_i : CSh := ⟨[(.data false (.sl (.arr 4 tI))), (.data true (.arr 4 tI))], []⟩
def s_l2Place_o : RSh := ⟨(.data true tI), []⟩
theorem s_l2Place_ev (n : Nat) (x : TupT s_l2Place_i.tys) : evF ⟨tab, [], n, [(6, ⟨[(0, (.data false (.sl (.arr 4 tI)))), (3, (.ptr 0 [])), (5, (.data true tI))], [.var 24 (.data true (.arr 4 tI))], 0⟩)]⟩ Try.f193 s_l2Place_i s_l2Place_o x = s_l2Place n x.1 x.2 := by kernel_rfl
noncomputable def s_l2Place_e (n : Nat) : Ent := ⟨193, s_l2Place_i, s_l2Place_o, fun x => s_l2Place n x.1 x.2⟩
theorem s_l2Place_ok (n : Nat) : EntOK Try.prog (s_l2Place_e n) ∧ Own Try.prog 193 := ent_ok tabOK0 .nil Try.func193 rfl (by kernel_rfl) (s_l2Place_ev n)
def s_CardPlace_i : CSh := ⟨[(.data true tI), (.data true (.arr 4 tI))], []⟩
def s_CardPlace_o : RSh := ⟨(.tcons (.data true tI) (.tcons (.data true .bool) .tnil)), []⟩
theorem s_CardPlace_ev (n : Nat) (x : TupT s_CardPlace_i.tys) : evF ⟨tab, [s_l4Seed_e n, s_l2Card_e n, s_l4Pile_e n, s_l2Place_e n], n, []⟩ Try.f89 s_CardPlace_i s_CardPlace_o x = s_CardPlace n x.1 x.2 := by kernel_rfl
noncomputable def s_CardPlace_e (n : Nat) : Ent := ⟨89, s_CardPlace_i, s_CardPlace_o, fun x => s_CardPlace n x.1 x.2⟩
theorem s_CardPlace_ok (n : Nat) : EntOK Try.prog (s_CardPlace_e n) ∧ Own Try.prog 89 := ent_ok tabOK0 (.cons (s_l4Seed_ok n) (.cons (s_l2Card_ok n) (.cons (s_l4Pile_ok n) (.cons (s_l2Place_ok n) .nil)))) Try.func89 rfl (by kernel_rfl) (s_CardPlace_ev n)
def i_IsHand_i : CSh := ⟨[(.data false (.sl (.arr 4 tI)))], []⟩
def i_IsHand_o : RSh := ⟨(.data true .bool), []⟩
theorem i_IsHand_ev (n : Nat) (x : TupT i_IsHand_i.tys) : evF ⟨tab, [i_IsCard_e n, i_number_e n], n, [(6, ⟨[(0, (.data false (.sl (.arr 4 tI)))), (5, (.data false (.sl (.arr 4 tI)))), (6, (.data true tI)), (7, (.data true tI))], [], 0⟩)]⟩ Try.f117 i_IsHand_i i_IsHand_o x = i_IsHand n x := by kernel_rfl
noncomputable def i_IsHand_e (n : Nat) : Ent := ⟨117, i_IsHand_i, i_IsHand_o, fun x => i_IsHand n x⟩
theorem i_IsHand_ok (n : Nat) : EntOK Try.prog (i_IsHand_e n) ∧ Own Try.prog 117 := ent_ok tabOK0 (.cons (i_IsCard_ok n) (.cons (i_number_ok n) .nil)) Try.func117 rfl (by kernel_rfl) (i_IsHand_ev n)
def i_sum_i : CSh := ⟨[(.data false (.sl (.arr 4 tI)))], []⟩
def i_sum_o : RSh := ⟨(.data true (.arr 4 tI)), []⟩
theorem i_sum_ev (n : Nat) (x : TupT i_sum_i.tys) : evF ⟨tab, [], n, [(8, ⟨[(2, (.ptr 0 [])), (3, (.ptr 1 [])), (9, (.data false (.sl (.arr 4 tI)))), (10, (.data true tI)), (11, (.data true tI))], [.var 24 (.data true (.arr 4 tI)), .var 24 (.data true (.arr 4 tI))], 0⟩), (22, ⟨[(2, (.ptr 0 [])), (3, (.ptr 1 [])), (9, (.data false (.sl (.arr 4 tI)))), (10, (.data true tI)), (11, (.data true tI)), (15, (.data true (.arr 4 tI))), (16, (.data true tI))], [.var 24 (.data true (.arr 4 tI)), .var 24 (.data true (.arr 4 tI))], 0⟩)]⟩ Try.f194 i_sum_i i_sum_o x = i_sum n x := by kernel_rfl
noncomputable def i_sum_e (n : Nat) : Ent := ⟨194, i_sum_i, i_sum_o, fun x => i_sum n x⟩
theorem i_sum_ok (n : Nat) : EntOK Try.prog (i_sum_e n) ∧ Own Try.prog 194 := ent_ok tabOK0 .nil Try.func194 rfl (by kernel_rfl) (i_sum_ev n)
def i_SumCards_i : CSh := ⟨[(.data false (.sl (.arr 4 tI)))], []⟩
def i_SumCards_o : RSh := ⟨(.tcons (.data true (.arr 4 tI)) (.tcons (.data true .bool) .tnil)), []⟩
theorem i_SumCards_ev (n : Nat) (x : TupT i_SumCards_i.tys) : evF ⟨tab, [i_IsHand_e n, i_sum_e n], n, []⟩ Try.f91 i_SumCards_i i_SumCards_o x = i_SumCards n x := by kernel_rfl
noncomputable def i_SumCards_e (n : Nat) : Ent := ⟨91, i_SumCards_i, i_SumCards_o, fun x => i_SumCards n x⟩
theorem i_SumCards_ok (n : Nat) : EntOK Try.prog (i_SumCards_e n) ∧ Own Try.prog 91 := ent_ok tabOK0 (.cons (i_IsHand_ok n) (.cons (i_sum_ok n) .nil)) Try.func91 rfl (by kernel_rfl) (i_SumCards_ev n)
def i_LinesIn_i : CSh := ⟨[(.data false (.sl (.arr 4 tI)))], []⟩
def i_LinesIn_o : RSh := ⟨(.tcons (.own 0) (.tcons (.data true .bool) .tnil)), [.rows 58 true (.arr 3 tI)]⟩
theorem i_LinesIn_ev (n : Nat) (x : TupT i_LinesIn_i.tys) : evF ⟨tab, [i_IsHand_e n, i_linesIn_e n], n, []⟩ Try.f92 i_LinesIn_i i_LinesIn_o x = i_LinesIn n x := by kernel_rfl
noncomputable def i_LinesIn_e (n : Nat) : Ent := ⟨92, i_LinesIn_i, i_LinesIn_o, fun x => i_LinesIn n x⟩
theorem i_LinesIn_ok (n : Nat) : EntOK Try.prog (i_LinesIn_e n) ∧ Own Try.prog 92 := ent_ok tabOK0 (.cons (i_IsHand_ok n) (.cons (i_linesIn_ok n) .nil)) Try.func92 rfl (by kernel_rfl) (i_LinesIn_ev n)
def i_PileOf_i : CSh := ⟨[(.data true tI)], []⟩
def i_PileOf_o : RSh := ⟨(.tcons (.own 0) (.tcons (.data true .bool) .tnil)), [.rows 24 true (.arr 4 tI)]⟩
theorem i_PileOf_ev (n : Nat) (x : TupT i_PileOf_i.tys) : evF ⟨tab, [i_isSeed_e n, i_pile_e n], n, []⟩ Try.f90 i_PileOf_i i_PileOf_o x = i_PileOf n x := by kernel_rfl
noncomputable def i_PileOf_e (n : Nat) : Ent := ⟨90, i_PileOf_i, i_PileOf_o, fun x => i_PileOf n x⟩
theorem i_PileOf_ok (n : Nat) : EntOK Try.prog (i_PileOf_e n) ∧ Own Try.prog 90 := ent_ok tabOK0 (.cons (i_isSeed_ok n) (.cons (i_pile_ok n) .nil)) Try.func90 rfl (by kernel_rfl) (i_PileOf_ev n)
def v_FnPlays_i : CSh := ⟨[(.data false (.sl (.int .u8)))], []⟩
def v_FnPlays_o : RSh := ⟨(.data true .bool), []⟩
theorem v_FnPlays_ev (n : Nat) (x : TupT v_FnPlays_i.tys) : evF ⟨tab, [v_rBig_e n, s_DrawPlayDeal_e n, i_PlayDeal_e n, s_PlayDeal_e n, v_rHand_e n, i_DealSizes_e n, s_DealSizes_e n, v_rInts_e n, i_NewDeal_e n, s_NewDeal_e n, v_rDeal_e n, i_NextSeed_e n, s_NextSeed_e n, s_DrawCardPlace_e n, i_CardPlace_e n, s_CardPlace_e n, i_SumCards_e n, i_LinesIn_e n, i_PileOf_e n], n, [(74, ⟨[(4, (.data true tI)), (5, (.data true tI)), (6, (.own 0)), (7, (.data true .bool)), (12, (.own 1))], [.rows 24 true (.arr 4 tI), .rows 3 true tI], 0⟩), (112, ⟨[(12, (.own 0)), (36, (.data true tI))], [.rows 3 true tI], 0⟩)]⟩ Try.f7 v_FnPlays_i v_FnPlays_o x = v_FnPlays n x := by kernel_rfl
noncomputable def v_FnPlays_e (n : Nat) : Ent := ⟨7, v_FnPlays_i, v_FnPlays_o, fun x => v_FnPlays n x⟩
theorem v_FnPlays_ok (n : Nat) : EntOK Try.prog (v_FnPlays_e n) ∧ Own Try.prog 7 := ent_ok tabOK0 (.cons (v_rBig_ok n) (.cons (s_DrawPlayDeal_ok n) (.cons (i_PlayDeal_ok n) (.cons (s_PlayDeal_ok n) (.cons (v_rHand_ok n) (.cons (i_DealSizes_ok n) (.cons (s_DealSizes_ok n) (.cons (v_rInts_ok n) (.cons (i_NewDeal_ok n) (.cons (s_NewDeal_ok n) (.cons (v_rDeal_ok n) (.cons (i_NextSeed_ok n) (.cons (s_NextSeed_ok n) (.cons (s_DrawCardPlace_ok n) (.cons (i_CardPlace_ok n) (.cons (s_CardPlace_ok n) (.cons (i_SumCards_ok n) (.cons (i_LinesIn_ok n) (.cons (i_PileOf_ok n) .nil))))))))))))))))))) Try.func7 rfl (by kernel_rfl) (v_FnPlays_ev n)
end Go.Proofs.Ytbkbkaonjhlplaa
