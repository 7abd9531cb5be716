/- Printed by a program of the session: the contracts of the seat's functions. -/
import Derived.Test.YtbkbkaonjhlplaaZ7
import Derived.Test.YtbkbkaonjhlplaaPL
import Derived.Test.YtbkbkaonjhlplaaRows
import Derived.KernelRfl
namespace Go.Proofs.Ytbkbkaonjhlplaa
open Go Go.Tv Go.Pl Go.RowKit
set_option linter.unusedVariables false
abbrev tI : Ty := .int .i64
def tab : Tab := ⟨[(2, ⟨tI, 0, 8⟩), (3, ⟨tI, 0, 8⟩), (4, ⟨.bool, 0, 1⟩), (5, ⟨(.int .u8), 0, 1⟩), (6, ⟨(.int .u8), 0, 1⟩), (7, ⟨(.pair tI (.pair tI (.pair .bool (.int .u8)))), 4, 24⟩), (8, ⟨(.pair tI (.pair tI (.pair .bool (.int .u8)))), 4, 24⟩), (9, ⟨.str, 0, 16⟩), (10, ⟨.str, 0, 16⟩), (11, ⟨.str, 0, 16⟩), (12, ⟨(.int .u64), 0, 8⟩), (13, ⟨(.pair .str (.int .u64)), 2, 24⟩), (14, ⟨(.pair .str (.int .u64)), 2, 24⟩), (21, ⟨(.int .i32), 0, 4⟩), (22, ⟨(.sl (.int .u8)), 5, 1⟩), (24, ⟨(.arr 4 tI), 3, 8⟩), (31, ⟨(.sl (.arr 4 tI)), 24, 32⟩), (34, ⟨(.sl tI), 3, 8⟩), (58, ⟨(.arr 3 tI), 3, 8⟩), (70, ⟨(.arr 9 (.arr 4 tI)), 24, 32⟩), (80, ⟨(.pair tI (.pair tI (.sl (.arr 4 tI)))), 3, 40⟩), (81, ⟨(.pair tI (.pair tI (.sl (.arr 4 tI)))), 3, 40⟩), (90, ⟨(.sl (.arr 3 tI)), 58, 24⟩), (93, ⟨(.sl (.arr 2 tI)), 99, 16⟩), (99, ⟨(.arr 2 tI), 3, 8⟩), (111, ⟨(.int .u64), 0, 8⟩), (112, ⟨(.pair (.sl (.int .u8)) (.pair tI (.int .u64))), 3, 40⟩), (113, ⟨(.pair (.sl (.int .u8)) (.pair tI (.int .u64))), 3, 40⟩), (132, ⟨(.arr 81 .bool), 4, 1⟩), (135, ⟨(.arr 5 tI), 3, 8⟩), (147, ⟨(.arr 4 (.arr 4 tI)), 24, 32⟩), (155, ⟨(.arr 81 tI), 3, 8⟩), (167, ⟨(.int .u64), 0, 8⟩), (173, ⟨tI, 0, 8⟩), (180, ⟨(.int .u32), 0, 4⟩), (182, ⟨(.sl (.sl (.arr 4 tI))), 31, 24⟩), (183, ⟨(.int .u64), 0, 8⟩), (198, ⟨(.int .u8), 0, 1⟩), (199, ⟨(.int .u8), 0, 1⟩), (202, ⟨(.int .i32), 0, 4⟩), (203, ⟨(.int .i32), 0, 4⟩)], [7, 8, 24, 58, 70, 99, 132, 135, 147, 155], [1, 23, 25, 27, 28, 30, 32, 33, 35, 37, 38, 40, 41, 43, 45, 46, 48, 49, 50, 51, 53, 54, 55, 57, 60, 62, 63, 65, 66, 68, 69, 72, 73, 74, 75, 76, 78, 79, 83, 84, 86, 87, 88, 89, 92, 95, 96, 97, 98, 101, 102, 103, 104, 106, 107, 108, 109, 114, 115, 116, 117, 118, 119, 120, 121, 122, 123, 124, 125, 126, 127, 128, 129, 130, 131, 133, 134, 136, 137, 138, 139, 140, 141, 142, 143, 144, 145, 146, 148, 149, 150, 151, 152, 153, 154, 156, 157, 158, 159, 160, 161, 162, 163, 164, 165, 166, 168, 169, 170, 171, 172, 175, 176, 177, 178, 179, 181, 184, 185, 186, 188, 191, 192, 200]⟩
theorem tabOK0 : TabOK Try.prog tab := ⟨by kernel_rfl, by kernel_rfl⟩
def v_vBig_i : CSh := ⟨[(.data false (.sl (.int .u8)))], []⟩
def v_vBig_o : RSh := ⟨(.data true .bool), []⟩
theorem v_vBig_ev (n : Nat) (x : TupT v_vBig_i.tys) : evF ⟨tab, [], n, []⟩ Try.f31 v_vBig_i v_vBig_o x = v_vBig n x := by kernel_rfl
noncomputable def v_vBig_e (n : Nat) : Ent := ⟨31, v_vBig_i, v_vBig_o, fun x => v_vBig n x⟩
theorem v_vBig_ok (n : Nat) : EntOK Try.prog (v_vBig_e n) ∧ Own Try.prog 31 := ent_ok tabOK0 .nil Try.func31 rfl (by kernel_rfl) (v_vBig_ev n)
def s_Cur_next'p_i : CSh := ⟨[(.ptr 0 [])], [.var 113 (.data true (.pair (.sl (.int .u8)) (.pair tI (.int .u64))))]⟩
def s_Cur_next'p_o : RSh := ⟨(.data true tI), [.var 113 (.data true (.pair (.sl (.int .u8)) (.pair tI (.int .u64))))]⟩
theorem s_Cur_next'p_ev (n : Nat) (x : TupT s_Cur_next'p_i.tys) : evF ⟨tab, [], n, [(4, ⟨[(0, (.ptr 0 [])), (3, (.data true tI))], [.var 113 (.data true (.pair (.sl (.int .u8)) (.pair tI (.int .u64))))], 1⟩)]⟩ Try.f217 s_Cur_next'p_i s_Cur_next'p_o x = s_Cur_next'p n x := by kernel_rfl
noncomputable def s_Cur_next'p_e (n : Nat) : Ent := ⟨217, s_Cur_next'p_i, s_Cur_next'p_o, fun x => s_Cur_next'p n x⟩
theorem s_Cur_next'p_ok (n : Nat) : EntOK Try.prog (s_Cur_next'p_e n) ∧ Own Try.prog 217 := ent_ok tabOK0 .nil Try.func217 rfl (by kernel_rfl) (s_Cur_next'p_ev n)
def s_Cur_pick'p_i : CSh := ⟨[(.ptr 0 []), (.data true tI)], [.var 113 (.data true (.pair (.sl (.int .u8)) (.pair tI (.int .u64))))]⟩
def s_Cur_pick'p_o : RSh := ⟨(.data true tI), [.var 113 (.data true (.pair (.sl (.int .u8)) (.pair tI (.int .u64))))]⟩
theorem s_Cur_pick'p_ev (n : Nat) (x : TupT s_Cur_pick'p_i.tys) : evF ⟨tab, [s_Cur_next'p_e n], n, []⟩ Try.f131 s_Cur_pick'p_i s_Cur_pick'p_o x = s_Cur_pick'p n x.1 x.2 := by kernel_rfl
noncomputable def s_Cur_pick'p_e (n : Nat) : Ent := ⟨131, s_Cur_pick'p_i, s_Cur_pick'p_o, fun x => s_Cur_pick'p n x.1 x.2⟩
theorem s_Cur_pick'p_ok (n : Nat) : EntOK Try.prog (s_Cur_pick'p_e n) ∧ Own Try.prog 131 := ent_ok tabOK0 (.cons (s_Cur_next'p_ok n) .nil) Try.func131 rfl (by kernel_rfl) (s_Cur_pick'p_ev n)
def s_Cur_among'pl_i : CSh := ⟨[(.ptr 0 []), (.data false (.sl tI))], [.var 113 (.data true (.pair (.sl (.int .u8)) (.pair tI (.int .u64))))]⟩
def s_Cur_among'pl_o : RSh := ⟨(.data true tI), [.var 113 (.data true (.pair (.sl (.int .u8)) (.pair tI (.int .u64))))]⟩
theorem s_Cur_among'pl_ev (n : Nat) (x : TupT s_Cur_among'pl_i.tys) : evF ⟨tab, [s_Cur_pick'p_e n], n, []⟩ Try.f130 s_Cur_among'pl_i s_Cur_among'pl_o x = s_Cur_among'pl n x.1 x.2 := by kernel_rfl
noncomputable def s_Cur_among'pl_e (n : Nat) : Ent := ⟨130, s_Cur_among'pl_i, s_Cur_among'pl_o, fun x => s_Cur_among'pl n x.1 x.2⟩
theorem s_Cur_among'pl_ok (n : Nat) : EntOK Try.prog (s_Cur_among'pl_e n) ∧ Own Try.prog 130 := ent_ok tabOK0 (.cons (s_Cur_pick'p_ok n) .nil) Try.func130 rfl (by kernel_rfl) (s_Cur_among'pl_ev n)
def s_l2At_i : CSh := ⟨[(.data true tI)], []⟩
def s_l2At_o : RSh := ⟨(.data true (.arr 4 tI)), []⟩
theorem s_l2At_ev (n : Nat) (x : TupT s_l2At_i.tys) : evF ⟨tab, [], n, []⟩ Try.f143 s_l2At_i s_l2At_o x = s_l2At n x := by kernel_rfl
noncomputable def s_l2At_e (n : Nat) : Ent := ⟨143, s_l2At_i, s_l2At_o, fun x => s_l2At n x⟩
theorem s_l2At_ok (n : Nat) : EntOK Try.prog (s_l2At_e n) ∧ Own Try.prog 143 := ent_ok tabOK0 .nil Try.func143 rfl (by kernel_rfl) (s_l2At_ev n)
def s_l2Number_i : CSh := ⟨[(.data true (.arr 4 tI))], []⟩
def s_l2Number_o : RSh := ⟨(.data true tI), []⟩
theorem s_l2Number_ev (n : Nat) (x : TupT s_l2Number_i.tys) : evF ⟨tab, [], n, []⟩ Try.f236 s_l2Number_i s_l2Number_o x = s_l2Number n x := by kernel_rfl
noncomputable def s_l2Number_e (n : Nat) : Ent := ⟨236, s_l2Number_i, s_l2Number_o, fun x => s_l2Number n x⟩
theorem s_l2Number_ok (n : Nat) : EntOK Try.prog (s_l2Number_e n) ∧ Own Try.prog 236 := ent_ok tabOK0 .nil Try.func236 rfl (by kernel_rfl) (s_l2Number_ev n)
def s_l2Less_i : CSh := ⟨[(.data true (.arr 4 tI)), (.data true (.arr 4 tI))], []⟩
def s_l2Less_o : RSh := ⟨(.data true .bool), []⟩
theorem s_l2Less_ev (n : Nat) (x : TupT s_l2Less_i.tys) : evF ⟨tab, [s_l2Number_e n], n, []⟩ Try.f216 s_l2Less_i s_l2Less_o x = s_l2Less n x.1 x.2 := by kernel_rfl
noncomputable def s_l2Less_e (n : Nat) : Ent := ⟨216, s_l2Less_i, s_l2Less_o, fun x => s_l2Less n x.1 x.2⟩
theorem s_l2Less_ok (n : Nat) : EntOK Try.prog (s_l2Less_e n) ∧ Own Try.prog 216 := ent_ok tabOK0 (.cons (s_l2Number_ok n) .nil) Try.func216 rfl (by kernel_rfl) (s_l2Less_ev n)
def s_l2Own_i : CSh := ⟨[(.data false (.sl (.arr 4 tI)))], []⟩
def s_l2Own_o : RSh := ⟨(.own 0), [.rows 24 true (.arr 4 tI)]⟩
theorem s_l2Own_ev (n : Nat) (x : TupT s_l2Own_i.tys) : evF ⟨tab, [], n, []⟩ Try.f137 s_l2Own_i s_l2Own_o x = s_l2Own n x := by kernel_rfl
noncomputable def s_l2Own_e (n : Nat) : Ent := ⟨137, s_l2Own_i, s_l2Own_o, fun x => s_l2Own n x⟩
theorem s_l2Own_ok (n : Nat) : EntOK Try.prog (s_l2Own_e n) ∧ Own Try.prog 137 := ent_ok tabOK0 .nil Try.func137 rfl (by kernel_rfl) (s_l2Own_ev n)
def s_l2Put_i : CSh := ⟨[(.data false (.sl (.arr 4 tI))), (.data true (.arr 4 tI))], []⟩
def s_l2Put_o : RSh := ⟨(.own 0), [.rows 24 true (.arr 4 tI)]⟩
theorem s_l2Put_ev (n : Nat) (x : TupT s_l2Put_i.tys) : evF ⟨tab, [s_l2Less_e n, s_l2Own_e n], n, [(6, ⟨[(0, (.data false (.sl (.arr 4 tI)))), (3, (.ptr 0 [])), (5, (.data true tI))], [.var 24 (.data true (.arr 4 tI))], 0⟩)]⟩ Try.f129 s_l2Put_i s_l2Put_o x = s_l2Put n x.1 x.2 := by kernel_rfl
noncomputable def s_l2Put_e (n : Nat) : Ent := ⟨129, s_l2Put_i, s_l2Put_o, fun x => s_l2Put n x.1 x.2⟩
theorem s_l2Put_ok (n : Nat) : EntOK Try.prog (s_l2Put_e n) ∧ Own Try.prog 129 := ent_ok tabOK0 (.cons (s_l2Less_ok n) (.cons (s_l2Own_ok n) .nil)) Try.func129 rfl (by kernel_rfl) (s_l2Put_ev n)
def s_Cur_one'p_i : CSh := ⟨[(.ptr 0 []), (.data true tI)], [.var 113 (.data true (.pair (.sl (.int .u8)) (.pair tI (.int .u64))))]⟩
def s_Cur_one'p_o : RSh := ⟨(.data true .bool), [.var 113 (.data true (.pair (.sl (.int .u8)) (.pair tI (.int .u64))))]⟩
theorem s_Cur_one'p_ev (n : Nat) (x : TupT s_Cur_one'p_i.tys) : evF ⟨tab, [s_Cur_pick'p_e n], n, []⟩ Try.f132 s_Cur_one'p_i s_Cur_one'p_o x = s_Cur_one'p n x.1 x.2 := by kernel_rfl
noncomputable def s_Cur_one'p_e (n : Nat) : Ent := ⟨132, s_Cur_one'p_i, s_Cur_one'p_o, fun x => s_Cur_one'p n x.1 x.2⟩
theorem s_Cur_one'p_ok (n : Nat) : EntOK Try.prog (s_Cur_one'p_e n) ∧ Own Try.prog 132 := ent_ok tabOK0 (.cons (s_Cur_pick'p_ok n) .nil) Try.func132 rfl (by kernel_rfl) (s_Cur_one'p_ev n)
def s_Cur_hand'p_i : CSh := ⟨[(.ptr 0 [])], [.var 113 (.data true (.pair (.sl (.int .u8)) (.pair tI (.int .u64))))]⟩
def s_Cur_hand'p_o : RSh := ⟨(.own 1), [.var 113 (.data true (.pair (.sl (.int .u8)) (.pair tI (.int .u64)))), .rows 24 true (.arr 4 tI)]⟩
theorem s_Cur_hand'p_ev (n : Nat) (x : TupT s_Cur_hand'p_i.tys) : evF ⟨tab, [s_Cur_among'pl_e n, s_Cur_pick'p_e n, s_l2At_e n, s_l2Put_e n, s_Cur_one'p_e n], n, [(8, ⟨[(0, (.ptr 0 [])), (3, (.own 1)), (4, (.data true tI)), (5, (.data true tI))], [.var 113 (.data true (.pair (.sl (.int .u8)) (.pair tI (.int .u64)))), .rows 24 true (.arr 4 tI)], 1⟩), (23, ⟨[(0, (.ptr 0 [])), (3, (.own 1)), (4, (.data true tI)), (5, (.data true tI)), (6, (.ptr 2 [])), (7, (.data true tI))], [.var 113 (.data true (.pair (.sl (.int .u8)) (.pair tI (.int .u64)))), .rows 24 true (.arr 4 tI), .var 24 (.data true (.arr 4 tI))], 1⟩), (5000038, ⟨[(0, (.ptr 0 [])), (3, (.own 1)), (39, (.data true .bool))], [.var 113 (.data true (.pair (.sl (.int .u8)) (.pair tI (.int .u64)))), .rows 24 true (.arr 4 tI)], 1⟩)]⟩ Try.f141 s_Cur_hand'p_i s_Cur_hand'p_o x = s_Cur_hand'p n x := by kernel_rfl
noncomputable def s_Cur_hand'p_e (n : Nat) : Ent := ⟨141, s_Cur_hand'p_i, s_Cur_hand'p_o, fun x => s_Cur_hand'p n x⟩
theorem s_Cur_hand'p_ok (n : Nat) : EntOK Try.prog (s_Cur_hand'p_e n) ∧ Own Try.prog 141 := ent_ok tabOK0 (.cons (s_Cur_among'pl_ok n) (.cons (s_Cur_pick'p_ok n) (.cons (s_l2At_ok n) (.cons (s_l2Put_ok n) (.cons (s_Cur_one'p_ok n) .nil))))) Try.func141 rfl (by kernel_rfl) (s_Cur_hand'p_ev n)
def s_l1In_i : CSh := ⟨[(.data true tI), (.data true tI), (.data true tI)], []⟩
def s_l1In_o : RSh := ⟨(.data true .bool), []⟩
theorem s_l1In_ev (n : Nat) (x : TupT s_l1In_i.tys) : evF ⟨tab, [], n, []⟩ Try.f175 s_l1In_i s_l1In_o x = s_l1In n x.1 x.2.1 x.2.2 := by kernel_rfl
noncomputable def s_l1In_e (n : Nat) : Ent := ⟨175, s_l1In_i, s_l1In_o, fun x => s_l1In n x.1 x.2.1 x.2.2⟩
theorem s_l1In_ok (n : Nat) : EntOK Try.prog (s_l1In_e n) ∧ Own Try.prog 175 := ent_ok tabOK0 .nil Try.func175 rfl (by kernel_rfl) (s_l1In_ev n)
def s_l2Card_i : CSh := ⟨[(.data true (.arr 4 tI))], []⟩
def s_l2Card_o : RSh := ⟨(.data true .bool), []⟩
theorem s_l2Card_ev (n : Nat) (x : TupT s_l2Card_i.tys) : evF ⟨tab, [s_l1In_e n], n, [(6, ⟨[(1, (.ptr 0 [])), (3, (.data true tI))], [.var 24 (.data true (.arr 4 tI))], 0⟩)]⟩ Try.f123 s_l2Card_i s_l2Card_o x = s_l2Card n x := by kernel_rfl
noncomputable def s_l2Card_e (n : Nat) : Ent := ⟨123, s_l2Card_i, s_l2Card_o, fun x => s_l2Card n x⟩
theorem s_l2Card_ok (n : Nat) : EntOK Try.prog (s_l2Card_e n) ∧ Own Try.prog 123 := ent_ok tabOK0 (.cons (s_l1In_ok n) .nil) Try.func123 rfl (by kernel_rfl) (s_l2Card_ev n)
def s_l2Hand_i : CSh := ⟨[(.data false (.sl (.arr 4 tI)))], []⟩
def s_l2Hand_o : RSh := ⟨(.data true .bool), []⟩
theorem s_l2Hand_ev (n : Nat) (x : TupT s_l2Hand_i.tys) : evF ⟨tab, [s_l2Card_e n, s_l2Less_e n], n, [(6, ⟨[(0, (.data false (.sl (.arr 4 tI)))), (3, (.data true tI))], [], 0⟩)]⟩ Try.f142 s_l2Hand_i s_l2Hand_o x = s_l2Hand n x := by kernel_rfl
noncomputable def s_l2Hand_e (n : Nat) : Ent := ⟨142, s_l2Hand_i, s_l2Hand_o, fun x => s_l2Hand n x⟩
theorem s_l2Hand_ok (n : Nat) : EntOK Try.prog (s_l2Hand_e n) ∧ Own Try.prog 142 := ent_ok tabOK0 (.cons (s_l2Card_ok n) (.cons (s_l2Less_ok n) .nil)) Try.func142 rfl (by kernel_rfl) (s_l2Hand_ev n)
def s_l2Third_i : CSh := ⟨[(.data true (.arr 4 tI)), (.data true (.arr 4 tI))], []⟩
def s_l2Third_o : RSh := ⟨(.data true (.arr 4 tI)), []⟩
theorem s_l2Third_ev (n : Nat) (x : TupT s_l2Third_i.tys) : evF ⟨tab, [], n, [(8, ⟨[(2, (.ptr 0 [])), (3, (.ptr 1 [])), (4, (.ptr 2 [])), (5, (.ptr 3 [])), (6, (.data true tI))], [.var 24 (.data true (.arr 4 tI)), .var 24 (.data true (.arr 4 tI)), .var 24 (.data true (.arr 4 tI)), .var 24 (.data true (.arr 4 tI))], 0⟩)]⟩ Try.f144 s_l2Third_i s_l2Third_o x = s_l2Third n x.1 x.2 := by kernel_rfl
noncomputable def s_l2Third_e (n : Nat) : Ent := ⟨144, s_l2Third_i, s_l2Third_o, fun x => s_l2Third n x.1 x.2⟩
theorem s_l2Third_ok (n : Nat) : EntOK Try.prog (s_l2Third_e n) ∧ Own Try.prog 144 := ent_ok tabOK0 .nil Try.func144 rfl (by kernel_rfl) (s_l2Third_ev n)
def s_l2Drop_i : CSh := ⟨[(.data false (.sl (.arr 4 tI))), (.data true tI)], []⟩
def s_l2Drop_o : RSh := ⟨(.own 0), [.rows 24 true (.arr 4 tI)]⟩
theorem s_l2Drop_ev (n : Nat) (x : TupT s_l2Drop_i.tys) : evF ⟨tab, [s_l2Own_e n], n, []⟩ Try.f145 s_l2Drop_i s_l2Drop_o x = s_l2Drop n x.1 x.2 := by kernel_rfl
noncomputable def s_l2Drop_e (n : Nat) : Ent := ⟨145, s_l2Drop_i, s_l2Drop_o, fun x => s_l2Drop n x.1 x.2⟩
theorem s_l2Drop_ok (n : Nat) : EntOK Try.prog (s_l2Drop_e n) ∧ Own Try.prog 145 := ent_ok tabOK0 (.cons (s_l2Own_ok n) .nil) Try.func145 rfl (by kernel_rfl) (s_l2Drop_ev n)
def s_DrawAnchorsOf_i : CSh := ⟨[(.data false (.sl (.int .u8)))], []⟩
def s_DrawAnchorsOf_o : RSh := ⟨(.own 0), [.rows 24 true (.arr 4 tI)]⟩
theorem s_DrawAnchorsOf_ev (n : Nat) (x : TupT s_DrawAnchorsOf_i.tys) : evF ⟨tab, [s_Cur_hand'p_e n, s_l2Hand_e n, s_Cur_pick'p_e n, s_l2At_e n, s_l2Put_e n, s_l2Third_e n, s_l2Drop_e n, s_Cur_one'p_e n], n, [(20, ⟨[(3, (.ptr 0 [])), (4, (.own 1)), (5, (.ptr 2 [])), (6, (.own 3)), (7, (.data true tI))], [.var 113 (.data false (.pair (.sl (.int .u8)) (.pair tI (.int .u64)))), .rows 24 true (.arr 4 tI), .var 24 (.data true (.arr 4 tI)), .rows 24 true (.arr 4 tI)], 0⟩), (5000008, ⟨[(3, (.ptr 0 [])), (4, (.own 1)), (19, (.data true .bool))], [.var 113 (.data false (.pair (.sl (.int .u8)) (.pair tI (.int .u64)))), .rows 24 true (.arr 4 tI)], 0⟩), (5000037, ⟨[(3, (.ptr 0 [])), (6, (.own 1)), (61, (.data true .bool))], [.var 113 (.data false (.pair (.sl (.int .u8)) (.pair tI (.int .u64)))), .rows 24 true (.arr 4 tI)], 0⟩)]⟩ Try.f32 s_DrawAnchorsOf_i s_DrawAnchorsOf_o x = s_DrawAnchorsOf n x := by kernel_rfl
noncomputable def s_DrawAnchorsOf_e (n : Nat) : Ent := ⟨32, s_DrawAnchorsOf_i, s_DrawAnchorsOf_o, fun x => s_DrawAnchorsOf n x⟩
theorem s_DrawAnchorsOf_ok (n : Nat) : EntOK Try.prog (s_DrawAnchorsOf_e n) ∧ Own Try.prog 32 := ent_ok tabOK0 (.cons (s_Cur_hand'p_ok n) (.cons (s_l2Hand_ok n) (.cons (s_Cur_pick'p_ok n) (.cons (s_l2At_ok n) (.cons (s_l2Put_ok n) (.cons (s_l2Third_ok n) (.cons (s_l2Drop_ok n) (.cons (s_Cur_one'p_ok n) .nil)))))))) Try.func32 rfl (by kernel_rfl) (s_DrawAnchorsOf_ev n)
def i_within_i : CSh := ⟨[(.data true tI), (.data true tI), (.data true tI)], []⟩
def i_within_o : RSh := ⟨(.data true .bool), []⟩
theorem i_within_ev (n : Nat) (x : TupT i_within_i.tys) : evF ⟨tab, [], n, []⟩ Try.f153 i_within_i i_within_o x = i_within n x.1 x.2.1 x.2.2 := by kernel_rfl
noncomputable def i_within_e (n : Nat) : Ent := ⟨153, i_within_i, i_within_o, fun x => i_within n x.1 x.2.1 x.2.2⟩
theorem i_within_ok (n : Nat) : EntOK Try.prog (i_within_e n) ∧ Own Try.prog 153 := ent_ok tabOK0 .nil Try.func153 rfl (by kernel_rfl) (i_within_ev n)
def i_allWithin_1'pp_i : CSh := ⟨[(.data true tI), (.ptr 0 []), (.ptr 1 [])], [.var 3 (.data true tI), .var 3 (.data true tI)]⟩
def i_allWithin_1'pp_o : RSh := ⟨(.data true .bool), [.var 3 (.data true tI), .var 3 (.data true tI)]⟩
theorem i_allWithin_1'pp_ev (n : Nat) (x : TupT i_allWithin_1'pp_i.tys) : evF ⟨tab, [i_within_e n], n, []⟩ Try.f215 i_allWithin_1'pp_i i_allWithin_1'pp_o x = i_allWithin_1'pp n x.1 x.2.1 x.2.2 := by kernel_rfl
noncomputable def i_allWithin_1'pp_e (n : Nat) : Ent := ⟨215, i_allWithin_1'pp_i, i_allWithin_1'pp_o, fun x => i_allWithin_1'pp n x.1 x.2.1 x.2.2⟩
theorem i_allWithin_1'pp_ok (n : Nat) : EntOK Try.prog (i_allWithin_1'pp_e n) ∧ Own Try.prog 215 := ent_ok tabOK0 (.cons (i_within_ok n) .nil) Try.func215 rfl (by kernel_rfl) (i_allWithin_1'pp_ev n)
def slices_IndexFunc_Sint_int_'l_i_allWithin_1pp_i : CSh := ⟨[(.data false (.sl tI)), (.clo 215 (.tcons (.ptr 0 []) (.tcons (.ptr 1 []) .tnil)))], [.var 3 (.data true tI), .var 3 (.data true tI)]⟩
def slices_IndexFunc_Sint_int_'l_i_allWithin_1pp_o : RSh := ⟨(.data true tI), [.var 3 (.data true tI), .var 3 (.data true tI)]⟩
theorem slices_IndexFunc_Sint_int_'l_i_allWithin_1pp_ev (n : Nat) (x : TupT slices_IndexFunc_Sint_int_'l_i_allWithin_1pp_i.tys) : evF ⟨tab, [i_allWithin_1'pp_e n], n, [(6, ⟨[(0, (.data false (.sl tI))), (1, (.clo 215 (.tcons (.ptr 0 []) (.tcons (.ptr 1 []) .tnil)))), (7, (.data true tI)), (8, (.data true tI))], [.var 3 (.data true tI), .var 3 (.data true tI)], 2⟩)]⟩ Try.f235 slices_IndexFunc_Sint_int_'l_i_allWithin_1pp_i slices_IndexFunc_Sint_int_'l_i_allWithin_1pp_o x = slices_IndexFunc_Sint_int_'l_i_allWithin_1pp n x.1 x.2.1 x.2.2 := by kernel_rfl
noncomputable def slices_IndexFunc_Sint_int_'l_i_allWithin_1pp_e (n : Nat) : Ent := ⟨235, slices_IndexFunc_Sint_int_'l_i_allWithin_1pp_i, slices_IndexFunc_Sint_int_'l_i_allWithin_1pp_o, fun x => slices_IndexFunc_Sint_int_'l_i_allWithin_1pp n x.1 x.2.1 x.2.2⟩
theorem slices_IndexFunc_Sint_int_'l_i_allWithin_1pp_ok (n : Nat) : EntOK Try.prog (slices_IndexFunc_Sint_int_'l_i_allWithin_1pp_e n) ∧ Own Try.prog 235 := ent_ok tabOK0 (.cons (i_allWithin_1'pp_ok n) .nil) Try.func235 rfl (by kernel_rfl) (slices_IndexFunc_Sint_int_'l_i_allWithin_1pp_ev n)
def slices_ContainsFunc_Sint_int_'l_i_allWithin_1pp_i : CSh := ⟨[(.data false (.sl tI)), (.clo 215 (.tcons (.ptr 0 []) (.tcons (.ptr 1 []) .tnil)))], [.var 3 (.data true tI), .var 3 (.data true tI)]⟩
def slices_ContainsFunc_Sint_int_'l_i_allWithin_1pp_o : RSh := ⟨(.data true .bool), [.var 3 (.data true tI), .var 3 (.data true tI)]⟩
theorem slices_ContainsFunc_Sint_int_'l_i_allWithin_1pp_ev (n : Nat) (x : TupT slices_ContainsFunc_Sint_int_'l_i_allWithin_1pp_i.tys) : evF ⟨tab, [slices_IndexFunc_Sint_int_'l_i_allWithin_1pp_e n], n, []⟩ Try.f214 slices_ContainsFunc_Sint_int_'l_i_allWithin_1pp_i slices_ContainsFunc_Sint_int_'l_i_allWithin_1pp_o x = slices_ContainsFunc_Sint_int_'l_i_allWithin_1pp n x.1 x.2.1 x.2.2 := by kernel_rfl
noncomputable def slices_ContainsFunc_Sint_int_'l_i_allWithin_1pp_e (n : Nat) : Ent := ⟨214, slices_ContainsFunc_Sint_int_'l_i_allWithin_1pp_i, slices_ContainsFunc_Sint_int_'l_i_allWithin_1pp_o, fun x => slices_ContainsFunc_Sint_int_'l_i_allWithin_1pp n x.1 x.2.1 x.2.2⟩
theorem slices_ContainsFunc_Sint_int_'l_i_allWithin_1pp_ok (n : Nat) : EntOK Try.prog (slices_ContainsFunc_Sint_int_'l_i_allWithin_1pp_e n) ∧ Own Try.prog 214 := ent_ok tabOK0 (.cons (slices_IndexFunc_Sint_int_'l_i_allWithin_1pp_ok n) .nil) Try.func214 rfl (by kernel_rfl) (slices_ContainsFunc_Sint_int_'l_i_allWithin_1pp_ev n)
def i_allWithin_i : CSh := ⟨[(.data false (.sl tI)), (.data true tI), (.data true tI)], []⟩
def i_allWithin_o : RSh := ⟨(.data true .bool), []⟩
theorem i_allWithin_ev (n : Nat) (x : TupT i_allWithin_i.tys) : evF ⟨tab, [slices_ContainsFunc_Sint_int_'l_i_allWithin_1pp_e n], n, []⟩ Try.f125 i_allWithin_i i_allWithin_o x = i_allWithin n x.1 x.2.1 x.2.2 := by kernel_rfl
noncomputable def i_allWithin_e (n : Nat) : Ent := ⟨125, i_allWithin_i, i_allWithin_o, fun x => i_allWithin n x.1 x.2.1 x.2.2⟩
theorem i_allWithin_ok (n : Nat) : EntOK Try.prog (i_allWithin_e n) ∧ Own Try.prog 125 := ent_ok tabOK0 (.cons (slices_ContainsFunc_Sint_int_'l_i_allWithin_1pp_ok n) .nil) Try.func125 rfl (by kernel_rfl) (i_allWithin_ev n)
def i_IsCard_i : CSh := ⟨[(.data true (.arr 4 tI))], []⟩
def i_IsCard_o : RSh := ⟨(.data true .bool), []⟩
theorem i_IsCard_ev (n : Nat) (x : TupT i_IsCard_i.tys) : evF ⟨tab, [i_allWithin_e n], n, []⟩ Try.f14 i_IsCard_i i_IsCard_o x = i_IsCard n x := by kernel_rfl
noncomputable def i_IsCard_e (n : Nat) : Ent := ⟨14, i_IsCard_i, i_IsCard_o, fun x => i_IsCard n x⟩
theorem i_IsCard_ok (n : Nat) : EntOK Try.prog (i_IsCard_e n) ∧ Own Try.prog 14 := ent_ok tabOK0 (.cons (i_allWithin_ok n) .nil) Try.func14 rfl (by kernel_rfl) (i_IsCard_ev n)
def i_number_i : CSh := ⟨[(.data true (.arr 4 tI))], []⟩
def i_number_o : RSh := ⟨(.data true tI), []⟩
theorem i_number_ev (n : Nat) (x : TupT i_number_i.tys) : evF ⟨tab, [], n, [(8, ⟨[(3, (.data true tI)), (6, (.data true (.arr 4 tI))), (7, (.data true tI))], [], 0⟩)]⟩ Try.f172 i_number_i i_number_o x = i_number n x := by kernel_rfl
noncomputable def i_number_e (n : Nat) : Ent := ⟨172, i_number_i, i_number_o, fun x => i_number n x⟩
theorem i_number_ok (n : Nat) : EntOK Try.prog (i_number_e n) ∧ Own Try.prog 172 := ent_ok tabOK0 .nil Try.func172 rfl (by kernel_rfl) (i_number_ev n)
def i_IsHand_i : CSh := ⟨[(.data false (.sl (.arr 4 tI)))], []⟩
def i_IsHand_o : RSh := ⟨(.data true .bool), []⟩
theorem i_IsHand_ev (n : Nat) (x : TupT i_IsHand_i.tys) : evF ⟨tab, [i_IsCard_e n, i_number_e n], n, [(6, ⟨[(0, (.data false (.sl (.arr 4 tI)))), (5, (.data false (.sl (.arr 4 tI)))), (6, (.data true tI)), (7, (.data true tI))], [], 0⟩)]⟩ Try.f117 i_IsHand_i i_IsHand_o x = i_IsHand n x := by kernel_rfl
noncomputable def i_IsHand_e (n : Nat) : Ent := ⟨117, i_IsHand_i, i_IsHand_o, fun x => i_IsHand n x⟩
theorem i_IsHand_ok (n : Nat) : EntOK Try.prog (i_IsHand_e n) ∧ Own Try.prog 117 := ent_ok tabOK0 (.cons (i_IsCard_ok n) (.cons (i_number_ok n) .nil)) Try.func117 rfl (by kernel_rfl) (i_IsHand_ev n)
def i_card_i : CSh := ⟨[(.data true tI)], []⟩
def i_card_o : RSh := ⟨(.data true (.arr 4 tI)), []⟩
theorem i_card_ev (n : Nat) (x : TupT i_card_i.tys) : evF ⟨tab, [], n, []⟩ Try.f147 i_card_i i_card_o x = i_card n x := by kernel_rfl
noncomputable def i_card_e (n : Nat) : Ent := ⟨147, i_card_i, i_card_o, fun x => i_card n x⟩
theorem i_card_ok (n : Nat) : EntOK Try.prog (i_card_e n) ∧ Own Try.prog 147 := ent_ok tabOK0 .nil Try.func147 rfl (by kernel_rfl) (i_card_ev n)
def i_third_i : CSh := ⟨[(.data true (.arr 4 tI)), (.data true (.arr 4 tI))], []⟩
def i_third_o : RSh := ⟨(.data true (.arr 4 tI)), []⟩
theorem i_third_ev (n : Nat) (x : TupT i_third_i.tys) : evF ⟨tab, [], n, [(8, ⟨[(2, (.ptr 0 [])), (3, (.ptr 1 [])), (4, (.ptr 2 [])), (5, (.ptr 3 [])), (8, (.data true tI))], [.var 24 (.data true (.arr 4 tI)), .var 24 (.data true (.arr 4 tI)), .var 24 (.data true (.arr 4 tI)), .var 24 (.data true (.arr 4 tI))], 0⟩)]⟩ Try.f155 i_third_i i_third_o x = i_third n x.1 x.2 := by kernel_rfl
noncomputable def i_third_e (n : Nat) : Ent := ⟨155, i_third_i, i_third_o, fun x => i_third n x.1 x.2⟩
theorem i_third_ok (n : Nat) : EntOK Try.prog (i_third_e n) ∧ Own Try.prog 155 := ent_ok tabOK0 .nil Try.func155 rfl (by kernel_rfl) (i_third_ev n)
def slices_Index_SA4_A4__i : CSh := ⟨[(.data false (.sl (.arr 4 tI))), (.data true (.arr 4 tI))], []⟩
def slices_Index_SA4_A4__o : RSh := ⟨(.data true tI), []⟩
theorem slices_Index_SA4_A4__ev (n : Nat) (x : TupT slices_Index_SA4_A4__i.tys) : evF ⟨tab, [], n, [(6, ⟨[(0, (.data false (.sl (.arr 4 tI)))), (3, (.ptr 0 [])), (7, (.data true tI)), (8, (.data true tI))], [.var 24 (.data true (.arr 4 tI))], 0⟩)]⟩ Try.f191 slices_Index_SA4_A4__i slices_Index_SA4_A4__o x = slices_Index_SA4_A4_ n x.1 x.2 := by kernel_rfl
noncomputable def slices_Index_SA4_A4__e (n : Nat) : Ent := ⟨191, slices_Index_SA4_A4__i, slices_Index_SA4_A4__o, fun x => slices_Index_SA4_A4_ n x.1 x.2⟩
theorem slices_Index_SA4_A4__ok (n : Nat) : EntOK Try.prog (slices_Index_SA4_A4__e n) ∧ Own Try.prog 191 := ent_ok tabOK0 .nil Try.func191 rfl (by kernel_rfl) (slices_Index_SA4_A4__ev n)
def slices_Contains_SA4_A4__i : CSh := ⟨[(.data false (.sl (.arr 4 tI))), (.data true (.arr 4 tI))], []⟩
def slices_Contains_SA4_A4__o : RSh := ⟨(.data true .bool), []⟩
theorem slices_Contains_SA4_A4__ev (n : Nat) (x : TupT slices_Contains_SA4_A4__i.tys) : evF ⟨tab, [slices_Index_SA4_A4__e n], n, []⟩ Try.f234 slices_Contains_SA4_A4__i slices_Contains_SA4_A4__o x = slices_Contains_SA4_A4_ n x.1 x.2 := by kernel_rfl
noncomputable def slices_Contains_SA4_A4__e (n : Nat) : Ent := ⟨234, slices_Contains_SA4_A4__i, slices_Contains_SA4_A4__o, fun x => slices_Contains_SA4_A4_ n x.1 x.2⟩
theorem slices_Contains_SA4_A4__ok (n : Nat) : EntOK Try.prog (slices_Contains_SA4_A4__e n) ∧ Own Try.prog 234 := ent_ok tabOK0 (.cons (slices_Index_SA4_A4__ok n) .nil) Try.func234 rfl (by kernel_rfl) (slices_Contains_SA4_A4__ev n)
def i_has_i : CSh := ⟨[(.data false (.sl (.arr 4 tI))), (.data true (.arr 4 tI))], []⟩
def i_has_o : RSh := ⟨(.data true .bool), []⟩
theorem i_has_ev (n : Nat) (x : TupT i_has_i.tys) : evF ⟨tab, [slices_Contains_SA4_A4__e n], n, []⟩ Try.f198 i_has_i i_has_o x = i_has n x.1 x.2 := by kernel_rfl
noncomputable def i_has_e (n : Nat) : Ent := ⟨198, i_has_i, i_has_o, fun x => i_has n x.1 x.2⟩
theorem i_has_ok (n : Nat) : EntOK Try.prog (i_has_e n) ∧ Own Try.prog 198 := ent_ok tabOK0 (.cons (slices_Contains_SA4_A4__ok n) .nil) Try.func198 rfl (by kernel_rfl) (i_has_ev n)
def i_isAnchor_i : CSh := ⟨[(.data false (.sl (.arr 4 tI))), (.data true (.arr 4 tI))], []⟩
def i_isAnchor_o : RSh := ⟨(.data true .bool), []⟩
theorem i_isAnchor_ev (n : Nat) (x : TupT i_isAnchor_i.tys) : evF ⟨tab, [i_third_e n, i_has_e n], n, [(6, ⟨[(0, (.data false (.sl (.arr 4 tI)))), (3, (.ptr 0 [])), (7, (.data false (.sl (.arr 4 tI)))), (8, (.data true tI)), (9, (.data true tI))], [.var 24 (.data true (.arr 4 tI))], 0⟩)]⟩ Try.f146 i_isAnchor_i i_isAnchor_o x = i_isAnchor n x.1 x.2 := by kernel_rfl
noncomputable def i_isAnchor_e (n : Nat) : Ent := ⟨146, i_isAnchor_i, i_isAnchor_o, fun x => i_isAnchor n x.1 x.2⟩
theorem i_isAnchor_ok (n : Nat) : EntOK Try.prog (i_isAnchor_e n) ∧ Own Try.prog 146 := ent_ok tabOK0 (.cons (i_third_ok n) (.cons (i_has_ok n) .nil)) Try.func146 rfl (by kernel_rfl) (i_isAnchor_ev n)
def i_AnchorsOf_i : CSh := ⟨[(.data false (.sl (.arr 4 tI)))], []⟩
def i_AnchorsOf_o : RSh := ⟨(.tcons (.own 0) (.tcons (.data true .bool) .tnil)), [.rows 3 true tI]⟩
theorem i_AnchorsOf_ev (n : Nat) (x : TupT i_AnchorsOf_i.tys) : evF ⟨tab, [i_IsHand_e n, i_card_e n, i_isAnchor_e n], n, [(16, ⟨[(0, (.data false (.sl (.arr 4 tI)))), (4, (.own 0)), (15, (.data true tI))], [.rows 3 true tI], 0⟩)]⟩ Try.f33 i_AnchorsOf_i i_AnchorsOf_o x = i_AnchorsOf n x := by kernel_rfl
noncomputable def i_AnchorsOf_e (n : Nat) : Ent := ⟨33, i_AnchorsOf_i, i_AnchorsOf_o, fun x => i_AnchorsOf n x⟩
theorem i_AnchorsOf_ok (n : Nat) : EntOK Try.prog (i_AnchorsOf_e n) ∧ Own Try.prog 33 := ent_ok tabOK0 (.cons (i_IsHand_ok n) (.cons (i_card_ok n) (.cons (i_isAnchor_ok n) .nil))) Try.func33 rfl (by kernel_rfl) (i_AnchorsOf_ev n)
def s_l2Place_i : CSh := ⟨[(.data false (.sl (.arr 4 tI))), (.data true (.arr 4 tI))], []⟩
def s_l2Place_o : RSh := ⟨(.data true tI), []⟩
theorem s_l2Place_ev (n : Nat) (x : TupT s_l2Place_i.tys) : evF ⟨tab, [], n, [(6, ⟨[(0, (.data false (.sl (.arr 4 tI)))), (3, (.ptr 0 [])), (5, (.data true tI))], [.var 24 (.data true (.arr 4 tI))], 0⟩)]⟩ Try.f193 s_l2Place_i s_l2Place_o x = s_l2Place n x.1 x.2 := by kernel_rfl
noncomputable def s_l2Place_e (n : Nat) : Ent := ⟨193, s_l2Place_i, s_l2Place_o, fun x => s_l2Place n x.1 x.2⟩
theorem s_l2Place_ok (n : Nat) : EntOK Try.prog (s_l2Place_e n) ∧ Own Try.prog 193 := ent_ok tabOK0 .nil Try.func193 rfl (by kernel_rfl) (s_l2Place_ev n)
def s_l2Has_i : CSh := ⟨[(.data false (.sl (.arr 4 tI))), (.data true (.arr 4 tI))], []⟩
def s_l2Has_o : RSh := ⟨(.data true .bool), []⟩
theorem s_l2Has_ev (n : Nat) (x : TupT s_l2Has_i.tys) : evF ⟨tab, [s_l2Place_e n], n, []⟩ Try.f173 s_l2Has_i s_l2Has_o x = s_l2Has n x.1 x.2 := by kernel_rfl
noncomputable def s_l2Has_e (n : Nat) : Ent := ⟨173, s_l2Has_i, s_l2Has_o, fun x => s_l2Has n x.1 x.2⟩
theorem s_l2Has_ok (n : Nat) : EntOK Try.prog (s_l2Has_e n) ∧ Own Try.prog 173 := ent_ok tabOK0 (.cons (s_l2Place_ok n) .nil) Try.func173 rfl (by kernel_rfl) (s_l2Has_ev n)
def s_l3Anchor_i : CSh := ⟨[(.data false (.sl (.arr 4 tI))), (.data true (.arr 4 tI))], []⟩
def s_l3Anchor_o : RSh := ⟨(.data true .bool), []⟩
theorem s_l3Anchor_ev (n : Nat) (x : TupT s_l3Anchor_i.tys) : evF ⟨tab, [s_l2Third_e n, s_l2Has_e n], n, [(6, ⟨[(0, (.data false (.sl (.arr 4 tI)))), (3, (.ptr 0 [])), (5, (.data true tI))], [.var 24 (.data true (.arr 4 tI))], 0⟩)]⟩ Try.f148 s_l3Anchor_i s_l3Anchor_o x = s_l3Anchor n x.1 x.2 := by kernel_rfl
noncomputable def s_l3Anchor_e (n : Nat) : Ent := ⟨148, s_l3Anchor_i, s_l3Anchor_o, fun x => s_l3Anchor n x.1 x.2⟩
theorem s_l3Anchor_ok (n : Nat) : EntOK Try.prog (s_l3Anchor_e n) ∧ Own Try.prog 148 := ent_ok tabOK0 (.cons (s_l2Third_ok n) (.cons (s_l2Has_ok n) .nil)) Try.func148 rfl (by kernel_rfl) (s_l3Anchor_ev n)
def s_AnchorsOf_i : CSh := ⟨[(.data false (.sl (.arr 4 tI)))], []⟩
def s_AnchorsOf_o : RSh := ⟨(.tcons (.own 0) (.tcons (.data true .bool) .tnil)), [.rows 3 true tI]⟩
theorem s_AnchorsOf_ev (n : Nat) (x : TupT s_AnchorsOf_i.tys) : evF ⟨tab, [s_l2Hand_e n, s_l2At_e n, s_l3Anchor_e n], n, [(16, ⟨[(0, (.data false (.sl (.arr 4 tI)))), (4, (.own 0)), (5, (.data true tI))], [.rows 3 true tI], 0⟩)]⟩ Try.f34 s_AnchorsOf_i s_AnchorsOf_o x = s_AnchorsOf n x := by kernel_rfl
noncomputable def s_AnchorsOf_e (n : Nat) : Ent := ⟨34, s_AnchorsOf_i, s_AnchorsOf_o, fun x => s_AnchorsOf n x⟩
theorem s_AnchorsOf_ok (n : Nat) : EntOK Try.prog (s_AnchorsOf_e n) ∧ Own Try.prog 34 := ent_ok tabOK0 (.cons (s_l2Hand_ok n) (.cons (s_l2At_ok n) (.cons (s_l3Anchor_ok n) .nil))) Try.func34 rfl (by kernel_rfl) (s_AnchorsOf_ev n)
def v_vCut_i : CSh := ⟨[(.data false (.sl (.int .u8))), (.data true tI)], []⟩
def v_vCut_o : RSh := ⟨(.own 0), [.rows 5 true (.int .u8)]⟩
theorem v_vCut_ev (n : Nat) (x : TupT v_vCut_i.tys) : evF ⟨tab, [], n, [(2, ⟨[(0, (.data false (.sl (.int .u8)))), (1, (.data true tI))], [], 0⟩)]⟩ Try.f36 v_vCut_i v_vCut_o x = v_vCut n x.1 x.2 := by kernel_rfl
noncomputable def v_vCut_e (n : Nat) : Ent := ⟨36, v_vCut_i, v_vCut_o, fun x => v_vCut n x.1 x.2⟩
theorem v_vCut_ok (n : Nat) : EntOK Try.prog (v_vCut_e n) ∧ Own Try.prog 36 := ent_ok tabOK0 .nil Try.func36 rfl (by kernel_rfl) (v_vCut_ev n)
def s_l3Picked_i : CSh := ⟨[(.data false (.sl (.arr 4 tI))), (.data false (.sl tI))], []⟩
def s_l3Picked_o : RSh := ⟨(.own 0), [.rows 24 true (.arr 4 tI)]⟩
theorem s_l3Picked_ev (n : Nat) (x : TupT s_l3Picked_i.tys) : evF ⟨tab, [], n, [(8, ⟨[(0, (.data false (.sl (.arr 4 tI)))), (1, (.data false (.sl tI))), (5, (.own 0)), (6, (.data true tI))], [.rows 24 true (.arr 4 tI)], 0⟩)]⟩ Try.f221 s_l3Picked_i s_l3Picked_o x = s_l3Picked n x.1 x.2 := by kernel_rfl
noncomputable def s_l3Picked_e (n : Nat) : Ent := ⟨221, s_l3Picked_i, s_l3Picked_o, fun x => s_l3Picked n x.1 x.2⟩
theorem s_l3Picked_ok (n : Nat) : EntOK Try.prog (s_l3Picked_e n) ∧ Own Try.prog 221 := ent_ok tabOK0 .nil Try.func221 rfl (by kernel_rfl) (s_l3Picked_ev n)
def s_l2Line_i : CSh := ⟨[(.data true (.arr 4 tI)), (.data true (.arr 4 tI)), (.data true (.arr 4 tI))], []⟩
def s_l2Line_o : RSh := ⟨(.data true .bool), []⟩
theorem s_l2Line_ev (n : Nat) (x : TupT s_l2Line_i.tys) : evF ⟨tab, [s_l2Third_e n], n, []⟩ Try.f201 s_l2Line_i s_l2Line_o x = s_l2Line n x.1 x.2.1 x.2.2 := by kernel_rfl
noncomputable def s_l2Line_e (n : Nat) : Ent := ⟨201, s_l2Line_i, s_l2Line_o, fun x => s_l2Line n x.1 x.2.1 x.2.2⟩
theorem s_l2Line_ok (n : Nat) : EntOK Try.prog (s_l2Line_e n) ∧ Own Try.prog 201 := ent_ok tabOK0 (.cons (s_l2Third_ok n) .nil) Try.func201 rfl (by kernel_rfl) (s_l2Line_ev n)
def s_l2Through_i : CSh := ⟨[(.data false (.sl (.arr 4 tI))), (.data true (.arr 4 tI))], []⟩
def s_l2Through_o : RSh := ⟨(.data true tI), []⟩
theorem s_l2Through_ev (n : Nat) (x : TupT s_l2Through_i.tys) : evF ⟨tab, [s_l2Line_e n], n, [(8, ⟨[(0, (.data false (.sl (.arr 4 tI)))), (3, (.ptr 0 [])), (5, (.data true tI)), (6, (.data true tI))], [.var 24 (.data true (.arr 4 tI))], 0⟩), (20, ⟨[(0, (.data false (.sl (.arr 4 tI)))), (3, (.ptr 0 [])), (5, (.data true tI)), (6, (.data true tI)), (7, (.data true tI))], [.var 24 (.data true (.arr 4 tI))], 0⟩)]⟩ Try.f212 s_l2Through_i s_l2Through_o x = s_l2Through n x.1 x.2 := by kernel_rfl
noncomputable def s_l2Through_e (n : Nat) : Ent := ⟨212, s_l2Through_i, s_l2Through_o, fun x => s_l2Through n x.1 x.2⟩
theorem s_l2Through_ok (n : Nat) : EntOK Try.prog (s_l2Through_e n) ∧ Own Try.prog 212 := ent_ok tabOK0 (.cons (s_l2Line_ok n) .nil) Try.func212 rfl (by kernel_rfl) (s_l2Through_ev n)
def s_GreedyCap_i : CSh := ⟨[(.data false (.sl (.arr 4 tI)))], []⟩
def s_GreedyCap_o : RSh := ⟨(.tcons (.own 0) (.tcons (.data true .bool) .tnil)), [.rows 3 true tI]⟩
theorem s_GreedyCap_ev (n : Nat) (x : TupT s_GreedyCap_i.tys) : evF ⟨tab, [s_l2Hand_e n, s_l3Picked_e n, s_l2Through_e n], n, [(16, ⟨[(0, (.data false (.sl (.arr 4 tI)))), (4, (.own 0)), (5, (.data true tI))], [.rows 3 true tI], 0⟩)]⟩ Try.f220 s_GreedyCap_i s_GreedyCap_o x = s_GreedyCap n x := by kernel_rfl
noncomputable def s_GreedyCap_e (n : Nat) : Ent := ⟨220, s_GreedyCap_i, s_GreedyCap_o, fun x => s_GreedyCap n x⟩
theorem s_GreedyCap_ok (n : Nat) : EntOK Try.prog (s_GreedyCap_e n) ∧ Own Try.prog 220 := ent_ok tabOK0 (.cons (s_l2Hand_ok n) (.cons (s_l3Picked_ok n) (.cons (s_l2Through_ok n) .nil))) Try.func220 rfl (by kernel_rfl) (s_GreedyCap_ev n)
def s_l2Lines_i : CSh := ⟨[(.data false (.sl (.arr 4 tI)))], []⟩
def s_l2Lines_o : RSh := ⟨(.own 0), [.rows 58 true (.arr 3 tI)]⟩
theorem s_l2Lines_ev (n : Nat) (x : TupT s_l2Lines_i.tys) : evF ⟨tab, [s_l2Third_e n, s_l2Place_e n], n, [(8, ⟨[(0, (.data false (.sl (.arr 4 tI)))), (3, (.own 0)), (4, (.data true tI))], [.rows 58 true (.arr 3 tI)], 0⟩), (20, ⟨[(0, (.data false (.sl (.arr 4 tI)))), (3, (.own 0)), (4, (.data true tI)), (5, (.data true tI))], [.rows 58 true (.arr 3 tI)], 0⟩)]⟩ Try.f226 s_l2Lines_i s_l2Lines_o x = s_l2Lines n x := by kernel_rfl
noncomputable def s_l2Lines_e (n : Nat) : Ent := ⟨226, s_l2Lines_i, s_l2Lines_o, fun x => s_l2Lines n x⟩
theorem s_l2Lines_ok (n : Nat) : EntOK Try.prog (s_l2Lines_e n) ∧ Own Try.prog 226 := ent_ok tabOK0 (.cons (s_l2Third_ok n) (.cons (s_l2Place_ok n) .nil)) Try.func226 rfl (by kernel_rfl) (s_l2Lines_ev n)
def s_l3Cap_i : CSh := ⟨[(.data false (.sl (.arr 4 tI)))], []⟩
def s_l3Cap_o : RSh := ⟨(.data true .bool), []⟩
theorem s_l3Cap_ev (n : Nat) (x : TupT s_l3Cap_i.tys) : evF ⟨tab, [s_l2Lines_e n], n, []⟩ Try.f152 s_l3Cap_i s_l3Cap_o x = s_l3Cap n x := by kernel_rfl
noncomputable def s_l3Cap_e (n : Nat) : Ent := ⟨152, s_l3Cap_i, s_l3Cap_o, fun x => s_l3Cap n x⟩
theorem s_l3Cap_ok (n : Nat) : EntOK Try.prog (s_l3Cap_e n) ∧ Own Try.prog 152 := ent_ok tabOK0 (.cons (s_l2Lines_ok n) .nil) Try.func152 rfl (by kernel_rfl) (s_l3Cap_ev n)
def s_l3Cards_i : CSh := ⟨[(.data false (.sl (.arr 4 tI))), (.data true .bool)], []⟩
def s_l3Cards_o : RSh := ⟨(.own 0), [.rows 3 true tI]⟩
theorem s_l3Cards_ev (n : Nat) (x : TupT s_l3Cards_i.tys) : evF ⟨tab, [s_l2At_e n, s_l2Has_e n, s_l2Through_e n], n, [(8, ⟨[(0, (.data false (.sl (.arr 4 tI)))), (1, (.data true .bool)), (5, (.own 0)), (6, (.data true tI))], [.rows 3 true tI], 0⟩)]⟩ Try.f197 s_l3Cards_i s_l3Cards_o x = s_l3Cards n x.1 x.2 := by kernel_rfl
noncomputable def s_l3Cards_e (n : Nat) : Ent := ⟨197, s_l3Cards_i, s_l3Cards_o, fun x => s_l3Cards n x.1 x.2⟩
theorem s_l3Cards_ok (n : Nat) : EntOK Try.prog (s_l3Cards_e n) ∧ Own Try.prog 197 := ent_ok tabOK0 (.cons (s_l2At_ok n) (.cons (s_l2Has_ok n) (.cons (s_l2Through_ok n) .nil))) Try.func197 rfl (by kernel_rfl) (s_l3Cards_ev n)
def s_FillCap_i : CSh := ⟨[(.data false (.sl (.arr 4 tI)))], []⟩
def s_FillCap_o : RSh := ⟨(.tcons (.own 0) (.tcons (.data true .bool) .tnil)), [.rows 24 true (.arr 4 tI)]⟩
theorem s_FillCap_ev (n : Nat) (x : TupT s_FillCap_i.tys) : evF ⟨tab, [s_l2Hand_e n, s_l3Cap_e n, s_l2Own_e n, s_l3Cards_e n, s_l2At_e n, s_l2Put_e n], n, [(16, ⟨[(4, (.own 0)), (5, (.own 1))], [.rows 24 true (.arr 4 tI), .rows 3 true tI], 0⟩)]⟩ Try.f102 s_FillCap_i s_FillCap_o x = s_FillCap n x := by kernel_rfl
noncomputable def s_FillCap_e (n : Nat) : Ent := ⟨102, s_FillCap_i, s_FillCap_o, fun x => s_FillCap n x⟩
theorem s_FillCap_ok (n : Nat) : EntOK Try.prog (s_FillCap_e n) ∧ Own Try.prog 102 := ent_ok tabOK0 (.cons (s_l2Hand_ok n) (.cons (s_l3Cap_ok n) (.cons (s_l2Own_ok n) (.cons (s_l3Cards_ok n) (.cons (s_l2At_ok n) (.cons (s_l2Put_ok n) .nil)))))) Try.func102 rfl (by kernel_rfl) (s_FillCap_ev n)
def s_Cur_cap3'p_i : CSh := ⟨[(.ptr 0 [])], [.var 113 (.data true (.pair (.sl (.int .u8)) (.pair tI (.int .u64))))]⟩
def s_Cur_cap3'p_o : RSh := ⟨(.own 1), [.var 113 (.data true (.pair (.sl (.int .u8)) (.pair tI (.int .u64)))), .rows 24 true (.arr 4 tI)]⟩
theorem s_Cur_cap3'p_ev (n : Nat) (x : TupT s_Cur_cap3'p_i.tys) : evF ⟨tab, [s_Cur_hand'p_e n, s_l2Hand_e n, s_GreedyCap_e n, s_l3Picked_e n, s_Cur_one'p_e n, s_FillCap_e n, s_Cur_pick'p_e n, s_l2Drop_e n], n, [(5000006, ⟨[(0, (.ptr 0 [])), (3, (.own 1)), (15, (.data true .bool))], [.var 113 (.data true (.pair (.sl (.int .u8)) (.pair tI (.int .u64)))), .rows 24 true (.arr 4 tI)], 1⟩)]⟩ Try.f149 s_Cur_cap3'p_i s_Cur_cap3'p_o x = s_Cur_cap3'p n x := by kernel_rfl
noncomputable def s_Cur_cap3'p_e (n : Nat) : Ent := ⟨149, s_Cur_cap3'p_i, s_Cur_cap3'p_o, fun x => s_Cur_cap3'p n x⟩
theorem s_Cur_cap3'p_ok (n : Nat) : EntOK Try.prog (s_Cur_cap3'p_e n) ∧ Own Try.prog 149 := ent_ok tabOK0 (.cons (s_Cur_hand'p_ok n) (.cons (s_l2Hand_ok n) (.cons (s_GreedyCap_ok n) (.cons (s_l3Picked_ok n) (.cons (s_Cur_one'p_ok n) (.cons (s_FillCap_ok n) (.cons (s_Cur_pick'p_ok n) (.cons (s_l2Drop_ok n) .nil)))))))) Try.func149 rfl (by kernel_rfl) (s_Cur_cap3'p_ev n)
def s_DrawJoinCaps_i : CSh := ⟨[(.data false (.sl (.int .u8)))], []⟩
def s_DrawJoinCaps_o : RSh := ⟨(.tcons (.own 0) (.tcons (.own 1) .tnil)), [.rows 24 true (.arr 4 tI), .rows 24 true (.arr 4 tI)]⟩
theorem s_DrawJoinCaps_ev (n : Nat) (x : TupT s_DrawJoinCaps_i.tys) : evF ⟨tab, [s_Cur_cap3'p_e n, s_l2Hand_e n, s_Cur_pick'p_e n, s_l2Own_e n, s_Cur_one'p_e n], n, [(4000010, ⟨[(4, (.ptr 0 [])), (5, (.own 1)), (6, (.own 2)), (21, (.data true .bool))], [.var 113 (.data false (.pair (.sl (.int .u8)) (.pair tI (.int .u64)))), .rows 24 true (.arr 4 tI), .rows 24 true (.arr 4 tI)], 0⟩), (9000010, ⟨[(4, (.ptr 0 [])), (5, (.own 1)), (6, (.own 2)), (26, (.data true .bool))], [.var 113 (.data false (.pair (.sl (.int .u8)) (.pair tI (.int .u64)))), .rows 24 true (.arr 4 tI), .rows 24 true (.arr 4 tI)], 0⟩)]⟩ Try.f35 s_DrawJoinCaps_i s_DrawJoinCaps_o x = s_DrawJoinCaps n x := by kernel_rfl
noncomputable def s_DrawJoinCaps_e (n : Nat) : Ent := ⟨35, s_DrawJoinCaps_i, s_DrawJoinCaps_o, fun x => s_DrawJoinCaps n x⟩
theorem s_DrawJoinCaps_ok (n : Nat) : EntOK Try.prog (s_DrawJoinCaps_e n) ∧ Own Try.prog 35 := ent_ok tabOK0 (.cons (s_Cur_cap3'p_ok n) (.cons (s_l2Hand_ok n) (.cons (s_Cur_pick'p_ok n) (.cons (s_l2Own_ok n) (.cons (s_Cur_one'p_ok n) .nil))))) Try.func35 rfl (by kernel_rfl) (s_DrawJoinCaps_ev n)
def i_linesIn_i : CSh := ⟨[(.data false (.sl (.arr 4 tI)))], []⟩
def i_linesIn_o : RSh := ⟨(.own 0), [.rows 58 true (.arr 3 tI)]⟩
theorem i_linesIn_ev (n : Nat) (x : TupT i_linesIn_i.tys) : evF ⟨tab, [i_number_e n, i_third_e n], n, [(8, ⟨[(0, (.data false (.sl (.arr 4 tI)))), (3, (.ptr 0 [])), (12, (.data false (.sl (.arr 4 tI)))), (13, (.data true tI)), (14, (.data true tI))], [.var 155 (.data true (.arr 81 tI))], 0⟩), (27, ⟨[(0, (.data false (.sl (.arr 4 tI)))), (3, (.ptr 0 [])), (6, (.own 1)), (26, (.data false (.sl (.arr 4 tI)))), (27, (.data true tI)), (28, (.data true tI))], [.var 155 (.data true (.arr 81 tI)), .rows 58 true (.arr 3 tI)], 0⟩), (41, ⟨[(0, (.data false (.sl (.arr 4 tI)))), (3, (.ptr 0 [])), (6, (.own 1)), (7, (.data true tI)), (8, (.ptr 2 [])), (9, (.data true tI)), (26, (.data false (.sl (.arr 4 tI)))), (27, (.data true tI)), (28, (.data true tI))], [.var 155 (.data true (.arr 81 tI)), .rows 58 true (.arr 3 tI), .var 24 (.data true (.arr 4 tI))], 0⟩)]⟩ Try.f195 i_linesIn_i i_linesIn_o x = i_linesIn n x := by kernel_rfl
noncomputable def i_linesIn_e (n : Nat) : Ent := ⟨195, i_linesIn_i, i_linesIn_o, fun x => i_linesIn n x⟩
theorem i_linesIn_ok (n : Nat) : EntOK Try.prog (i_linesIn_e n) ∧ Own Try.prog 195 := ent_ok tabOK0 (.cons (i_number_ok n) (.cons (i_third_ok n) .nil)) Try.func195 rfl (by kernel_rfl) (i_linesIn_ev n)
def i_isCap_i : CSh := ⟨[(.data false (.sl (.arr 4 tI)))], []⟩
def i_isCap_o : RSh := ⟨(.data true .bool), []⟩
theorem i_isCap_ev (n : Nat) (x : TupT i_isCap_i.tys) : evF ⟨tab, [i_linesIn_e n], n, []⟩ Try.f150 i_isCap_i i_isCap_o x = i_isCap n x := by kernel_rfl
noncomputable def i_isCap_e (n : Nat) : Ent := ⟨150, i_isCap_i, i_isCap_o, fun x => i_isCap n x⟩
theorem i_isCap_ok (n : Nat) : EntOK Try.prog (i_isCap_e n) ∧ Own Try.prog 150 := ent_ok tabOK0 (.cons (i_linesIn_ok n) .nil) Try.func150 rfl (by kernel_rfl) (i_isCap_ev n)
def slices_Clone_SA4_A4__i : CSh := ⟨[(.data false (.sl (.arr 4 tI)))], []⟩
def slices_Clone_SA4_A4__o : RSh := ⟨(.own 0), [.rows 24 true (.arr 4 tI)]⟩
theorem slices_Clone_SA4_A4__ev (n : Nat) (x : TupT slices_Clone_SA4_A4__i.tys) : evF ⟨tab, [], n, []⟩ Try.f222 slices_Clone_SA4_A4__i slices_Clone_SA4_A4__o x = slices_Clone_SA4_A4_ n x := by kernel_rfl
noncomputable def slices_Clone_SA4_A4__e (n : Nat) : Ent := ⟨222, slices_Clone_SA4_A4__i, slices_Clone_SA4_A4__o, fun x => slices_Clone_SA4_A4_ n x⟩
theorem slices_Clone_SA4_A4__ok (n : Nat) : EntOK Try.prog (slices_Clone_SA4_A4__e n) ∧ Own Try.prog 222 := ent_ok tabOK0 .nil Try.func222 rfl (by kernel_rfl) (slices_Clone_SA4_A4__ev n)
def math_bits_Len64_i : CSh := ⟨[(.data true (.int .u64))], []⟩
def math_bits_Len64_o : RSh := ⟨(.data true tI), []⟩
theorem math_bits_Len64_ev (n : Nat) (x : TupT math_bits_Len64_i.tys) : evF ⟨tab, [], n, [(2, ⟨[(0, (.data true (.int .u64))), (2, (.data true tI))], [], 0⟩), (10, ⟨[(0, (.data true (.int .u64))), (2, (.data true tI))], [], 0⟩), (18, ⟨[(0, (.data true (.int .u64))), (2, (.data true tI))], [], 0⟩)]⟩ Try.f252 math_bits_Len64_i math_bits_Len64_o x = math_bits_Len64 n x := by kernel_rfl
noncomputable def math_bits_Len64_e (n : Nat) : Ent := ⟨252, math_bits_Len64_i, math_bits_Len64_o, fun x => math_bits_Len64 n x⟩
theorem math_bits_Len64_ok (n : Nat) : EntOK Try.prog (math_bits_Len64_e n) ∧ Own Try.prog 252 := ent_ok tabOK0 .nil Try.func252 rfl (by kernel_rfl) (math_bits_Len64_ev n)
def math_bits_Len_i : CSh := ⟨[(.data true (.int .u64))], []⟩
def math_bits_Len_o : RSh := ⟨(.data true tI), []⟩
theorem math_bits_Len_ev (n : Nat) (x : TupT math_bits_Len_i.tys) : evF ⟨tab, [math_bits_Len64_e n], n, []⟩ Try.f239 math_bits_Len_i math_bits_Len_o x = math_bits_Len n x := by kernel_rfl
noncomputable def math_bits_Len_e (n : Nat) : Ent := ⟨239, math_bits_Len_i, math_bits_Len_o, fun x => math_bits_Len n x⟩
theorem math_bits_Len_ok (n : Nat) : EntOK Try.prog (math_bits_Len_e n) ∧ Own Try.prog 239 := ent_ok tabOK0 (.cons (math_bits_Len64_ok n) .nil) Try.func239 rfl (by kernel_rfl) (math_bits_Len_ev n)
def i_compareCards_i : CSh := ⟨[(.data true (.arr 4 tI)), (.data true (.arr 4 tI))], []⟩
def i_compareCards_o : RSh := ⟨(.data true tI), []⟩
theorem i_compareCards_ev (n : Nat) (x : TupT i_compareCards_i.tys) : evF ⟨tab, [i_number_e n], n, []⟩ Try.f224 i_compareCards_i i_compareCards_o x = i_compareCards n x.1 x.2 := by kernel_rfl
noncomputable def i_compareCards_e (n : Nat) : Ent := ⟨224, i_compareCards_i, i_compareCards_o, fun x => i_compareCards n x.1 x.2⟩
theorem i_compareCards_ok (n : Nat) : EntOK Try.prog (i_compareCards_e n) ∧ Own Try.prog 224 := ent_ok tabOK0 (.cons (i_number_ok n) .nil) Try.func224 rfl (by kernel_rfl) (i_compareCards_ev n)
def slices_insertionSortCmpFunc_A4_'o_i_compareCards_i : CSh := ⟨[(.own 0), (.data true tI), (.data true tI), (.clo 224 .tnil)], [.rows 24 true (.arr 4 tI)]⟩
def slices_insertionSortCmpFunc_A4_'o_i_compareCards_o : RSh := ⟨.tnil, [.rows 24 true (.arr 4 tI)]⟩
theorem slices_insertionSortCmpFunc_A4_'o_i_compareCards_ev (n : Nat) (x : TupT slices_insertionSortCmpFunc_A4_'o_i_compareCards_i.tys) : evF ⟨tab, [i_compareCards_e n], n, [(3, ⟨[(0, (.own 0)), (1, (.data true tI)), (2, (.data true tI)), (3, (.clo 224 .tnil)), (8, (.data true tI))], [.rows 24 true (.arr 4 tI)], 1⟩), (15, ⟨[(0, (.own 0)), (1, (.data true tI)), (2, (.data true tI)), (3, (.clo 224 .tnil)), (8, (.data true tI)), (9, (.data true tI))], [.rows 24 true (.arr 4 tI)], 1⟩)]⟩ Try.f243 slices_insertionSortCmpFunc_A4_'o_i_compareCards_i slices_insertionSortCmpFunc_A4_'o_i_compareCards_o x = slices_insertionSortCmpFunc_A4_'o_i_compareCards n x.1 x.2.1 x.2.2 := by kernel_rfl
noncomputable def slices_insertionSortCmpFunc_A4_'o_i_compareCards_e (n : Nat) : Ent := ⟨243, slices_insertionSortCmpFunc_A4_'o_i_compareCards_i, slices_insertionSortCmpFunc_A4_'o_i_compareCards_o, fun x => slices_insertionSortCmpFunc_A4_'o_i_compareCards n x.1 x.2.1 x.2.2⟩
theorem slices_insertionSortCmpFunc_A4_'o_i_compareCards_ok (n : Nat) : EntOK Try.prog (slices_insertionSortCmpFunc_A4_'o_i_compareCards_e n) ∧ Own Try.prog 243 := ent_ok tabOK0 (.cons (i_compareCards_ok n) .nil) Try.func243 rfl (by kernel_rfl) (slices_insertionSortCmpFunc_A4_'o_i_compareCards_ev n)
def slices_siftDownCmpFunc_A4_'o_i_compareCards_i : CSh := ⟨[(.own 0), (.data true tI), (.data true tI), (.data true tI), (.clo 224 .tnil)], [.rows 24 true (.arr 4 tI)]⟩
def slices_siftDownCmpFunc_A4_'o_i_compareCards_o : RSh := ⟨.tnil, [.rows 24 true (.arr 4 tI)]⟩
theorem slices_siftDownCmpFunc_A4_'o_i_compareCards_ev (n : Nat) (x : TupT slices_siftDownCmpFunc_A4_'o_i_compareCards_i.tys) : evF ⟨tab, [i_compareCards_e n], n, [(3, ⟨[(0, (.own 0)), (2, (.data true tI)), (3, (.data true tI)), (4, (.clo 224 .tnil)), (10, (.data true tI))], [.rows 24 true (.arr 4 tI)], 1⟩), (13, ⟨[(0, (.own 0)), (2, (.data true tI)), (3, (.data true tI)), (4, (.clo 224 .tnil)), (10, (.data true tI)), (11, (.data true tI))], [.rows 24 true (.arr 4 tI)], 1⟩)]⟩ Try.f254 slices_siftDownCmpFunc_A4_'o_i_compareCards_i slices_siftDownCmpFunc_A4_'o_i_compareCards_o x = slices_siftDownCmpFunc_A4_'o_i_compareCards n x.1 x.2.1 x.2.2.1 x.2.2.2 := by kernel_rfl
noncomputable def slices_siftDownCmpFunc_A4_'o_i_compareCards_e (n : Nat) : Ent := ⟨254, slices_siftDownCmpFunc_A4_'o_i_compareCards_i, slices_siftDownCmpFunc_A4_'o_i_compareCards_o, fun x => slices_siftDownCmpFunc_A4_'o_i_compareCards n x.1 x.2.1 x.2.2.1 x.2.2.2⟩
theorem slices_siftDownCmpFunc_A4_'o_i_compareCards_ok (n : Nat) : EntOK Try.prog (slices_siftDownCmpFunc_A4_'o_i_compareCards_e n) ∧ Own Try.prog 254 := ent_ok tabOK0 (.cons (i_compareCards_ok n) .nil) Try.func254 rfl (by kernel_rfl) (slices_siftDownCmpFunc_A4_'o_i_compareCards_ev n)
def slices_heapSortCmpFunc_A4_'o_i_compareCards_i : CSh := ⟨[(.own 0), (.data true tI), (.data true tI), (.clo 224 .tnil)], [.rows 24 true (.arr 4 tI)]⟩
def slices_heapSortCmpFunc_A4_'o_i_compareCards_o : RSh := ⟨.tnil, [.rows 24 true (.arr 4 tI)]⟩
theorem slices_heapSortCmpFunc_A4_'o_i_compareCards_ev (n : Nat) (x : TupT slices_heapSortCmpFunc_A4_'o_i_compareCards_i.tys) : evF ⟨tab, [slices_siftDownCmpFunc_A4_'o_i_compareCards_e n], n, [(10, ⟨[(0, (.own 0)), (3, (.clo 224 .tnil)), (8, (.data true tI)), (9, (.data true tI)), (10, (.data true tI)), (11, (.data true tI))], [.rows 24 true (.arr 4 tI)], 1⟩), (24, ⟨[(0, (.own 0)), (3, (.clo 224 .tnil)), (8, (.data true tI)), (9, (.data true tI)), (12, (.data true tI))], [.rows 24 true (.arr 4 tI)], 1⟩)]⟩ Try.f244 slices_heapSortCmpFunc_A4_'o_i_compareCards_i slices_heapSortCmpFunc_A4_'o_i_compareCards_o x = slices_heapSortCmpFunc_A4_'o_i_compareCards n x.1 x.2.1 x.2.2 := by kernel_rfl
noncomputable def slices_heapSortCmpFunc_A4_'o_i_compareCards_e (n : Nat) : Ent := ⟨244, slices_heapSortCmpFunc_A4_'o_i_compareCards_i, slices_heapSortCmpFunc_A4_'o_i_compareCards_o, fun x => slices_heapSortCmpFunc_A4_'o_i_compareCards n x.1 x.2.1 x.2.2⟩
theorem slices_heapSortCmpFunc_A4_'o_i_compareCards_ok (n : Nat) : EntOK Try.prog (slices_heapSortCmpFunc_A4_'o_i_compareCards_e n) ∧ Own Try.prog 244 := ent_ok tabOK0 (.cons (slices_siftDownCmpFunc_A4_'o_i_compareCards_ok n) .nil) Try.func244 rfl (by kernel_rfl) (slices_heapSortCmpFunc_A4_'o_i_compareCards_ev n)
def slices_order2CmpFunc_A4_'lp_i_compareCards_i : CSh := ⟨[(.data false (.sl (.arr 4 tI))), (.data true tI), (.data true tI), (.ptr 0 []), (.clo 224 .tnil)], [.var 3 (.data true tI)]⟩
def slices_order2CmpFunc_A4_'lp_i_compareCards_o : RSh := ⟨(.tcons (.data true tI) (.tcons (.data true tI) .tnil)), [.var 3 (.data true tI)]⟩
theorem slices_order2CmpFunc_A4_'lp_i_compareCards_ev (n : Nat) (x : TupT slices_order2CmpFunc_A4_'lp_i_compareCards_i.tys) : evF ⟨tab, [i_compareCards_e n], n, []⟩ Try.f259 slices_order2CmpFunc_A4_'lp_i_compareCards_i slices_order2CmpFunc_A4_'lp_i_compareCards_o x = slices_order2CmpFunc_A4_'lp_i_compareCards n x.1 x.2.1 x.2.2.1 x.2.2.2 := by kernel_rfl
noncomputable def slices_order2CmpFunc_A4_'lp_i_compareCards_e (n : Nat) : Ent := ⟨259, slices_order2CmpFunc_A4_'lp_i_compareCards_i, slices_order2CmpFunc_A4_'lp_i_compareCards_o, fun x => slices_order2CmpFunc_A4_'lp_i_compareCards n x.1 x.2.1 x.2.2.1 x.2.2.2⟩
theorem slices_order2CmpFunc_A4_'lp_i_compareCards_ok (n : Nat) : EntOK Try.prog (slices_order2CmpFunc_A4_'lp_i_compareCards_e n) ∧ Own Try.prog 259 := ent_ok tabOK0 (.cons (i_compareCards_ok n) .nil) Try.func259 rfl (by kernel_rfl) (slices_order2CmpFunc_A4_'lp_i_compareCards_ev n)
def slices_medianCmpFunc_A4_'lp_i_compareCards_i : CSh := ⟨[(.data false (.sl (.arr 4 tI))), (.data true tI), (.data true tI), (.data true tI), (.ptr 0 []), (.clo 224 .tnil)], [.var 3 (.data true tI)]⟩
def slices_medianCmpFunc_A4_'lp_i_compareCards_o : RSh := ⟨(.data true tI), [.var 3 (.data true tI)]⟩
theorem slices_medianCmpFunc_A4_'lp_i_compareCards_ev (n : Nat) (x : TupT slices_medianCmpFunc_A4_'lp_i_compareCards_i.tys) : evF ⟨tab, [slices_order2CmpFunc_A4_'lp_i_compareCards_e n], n, []⟩ Try.f258 slices_medianCmpFunc_A4_'lp_i_compareCards_i slices_medianCmpFunc_A4_'lp_i_compareCards_o x = slices_medianCmpFunc_A4_'lp_i_compareCards n x.1 x.2.1 x.2.2.1 x.2.2.2.1 x.2.2.2.2 := by kernel_rfl
noncomputable def slices_medianCmpFunc_A4_'lp_i_compareCards_e (n : Nat) : Ent := ⟨258, slices_medianCmpFunc_A4_'lp_i_compareCards_i, slices_medianCmpFunc_A4_'lp_i_compareCards_o, fun x => slices_medianCmpFunc_A4_'lp_i_compareCards n x.1 x.2.1 x.2.2.1 x.2.2.2.1 x.2.2.2.2⟩
theorem slices_medianCmpFunc_A4_'lp_i_compareCards_ok (n : Nat) : EntOK Try.prog (slices_medianCmpFunc_A4_'lp_i_compareCards_e n) ∧ Own Try.prog 258 := ent_ok tabOK0 (.cons (slices_order2CmpFunc_A4_'lp_i_compareCards_ok n) .nil) Try.func258 rfl (by kernel_rfl) (slices_medianCmpFunc_A4_'lp_i_compareCards_ev n)
def slices_medianAdjacentCmpFunc_A4_'lp_i_compareCards_i : CSh := ⟨[(.data false (.sl (.arr 4 tI))), (.data true tI), (.ptr 0 []), (.clo 224 .tnil)], [.var 3 (.data true tI)]⟩
def slices_medianAdjacentCmpFunc_A4_'lp_i_compareCards_o : RSh := ⟨(.data true tI), [.var 3 (.data true tI)]⟩
theorem slices_medianAdjacentCmpFunc_A4_'lp_i_compareCards_ev (n : Nat) (x : TupT slices_medianAdjacentCmpFunc_A4_'lp_i_compareCards_i.tys) : evF ⟨tab, [slices_medianCmpFunc_A4_'lp_i_compareCards_e n], n, []⟩ Try.f257 slices_medianAdjacentCmpFunc_A4_'lp_i_compareCards_i slices_medianAdjacentCmpFunc_A4_'lp_i_compareCards_o x = slices_medianAdjacentCmpFunc_A4_'lp_i_compareCards n x.1 x.2.1 x.2.2 := by kernel_rfl
noncomputable def slices_medianAdjacentCmpFunc_A4_'lp_i_compareCards_e (n : Nat) : Ent := ⟨257, slices_medianAdjacentCmpFunc_A4_'lp_i_compareCards_i, slices_medianAdjacentCmpFunc_A4_'lp_i_compareCards_o, fun x => slices_medianAdjacentCmpFunc_A4_'lp_i_compareCards n x.1 x.2.1 x.2.2⟩
theorem slices_medianAdjacentCmpFunc_A4_'lp_i_compareCards_ok (n : Nat) : EntOK Try.prog (slices_medianAdjacentCmpFunc_A4_'lp_i_compareCards_e n) ∧ Own Try.prog 257 := ent_ok tabOK0 (.cons (slices_medianCmpFunc_A4_'lp_i_compareCards_ok n) .nil) Try.func257 rfl (by kernel_rfl) (slices_medianAdjacentCmpFunc_A4_'lp_i_compareCards_ev n)
def slices_choosePivotCmpFunc_A4_'l_i_compareCards_i : CSh := ⟨[(.data false (.sl (.arr 4 tI))), (.data true tI), (.data true tI), (.clo 224 .tnil)], []⟩
def slices_choosePivotCmpFunc_A4_'l_i_compareCards_o : RSh := ⟨(.tcons (.data true tI) (.tcons (.data true tI) .tnil)), []⟩
theorem slices_choosePivotCmpFunc_A4_'l_i_compareCards_ev (n : Nat) (x : TupT slices_choosePivotCmpFunc_A4_'l_i_compareCards_i.tys) : evF ⟨tab, [slices_medianCmpFunc_A4_'lp_i_compareCards_e n, slices_medianAdjacentCmpFunc_A4_'lp_i_compareCards_e n], n, [(12, ⟨[(11, (.ptr 0 [])), (13, (.data true tI))], [.var 3 (.data true tI)], 0⟩), (16, ⟨[(0, (.data false (.sl (.arr 4 tI)))), (3, (.clo 224 .tnil)), (11, (.ptr 0 [])), (12, (.data true tI)), (13, (.data true tI)), (14, (.data true tI))], [.var 3 (.data true tI)], 0⟩)]⟩ Try.f246 slices_choosePivotCmpFunc_A4_'l_i_compareCards_i slices_choosePivotCmpFunc_A4_'l_i_compareCards_o x = slices_choosePivotCmpFunc_A4_'l_i_compareCards n x.1 x.2.1 x.2.2 := by kernel_rfl
noncomputable def slices_choosePivotCmpFunc_A4_'l_i_compareCards_e (n : Nat) : Ent := ⟨246, slices_choosePivotCmpFunc_A4_'l_i_compareCards_i, slices_choosePivotCmpFunc_A4_'l_i_compareCards_o, fun x => slices_choosePivotCmpFunc_A4_'l_i_compareCards n x.1 x.2.1 x.2.2⟩
theorem slices_choosePivotCmpFunc_A4_'l_i_compareCards_ok (n : Nat) : EntOK Try.prog (slices_choosePivotCmpFunc_A4_'l_i_compareCards_e n) ∧ Own Try.prog 246 := ent_ok tabOK0 (.cons (slices_medianCmpFunc_A4_'lp_i_compareCards_ok n) (.cons (slices_medianAdjacentCmpFunc_A4_'lp_i_compareCards_ok n) .nil)) Try.func246 rfl (by kernel_rfl) (slices_choosePivotCmpFunc_A4_'l_i_compareCards_ev n)
def slices_partitionEqualCmpFunc_A4_'o_i_compareCards_i : CSh := ⟨[(.own 0), (.data true tI), (.data true tI), (.data true tI), (.clo 224 .tnil)], [.rows 24 true (.arr 4 tI)]⟩
def slices_partitionEqualCmpFunc_A4_'o_i_compareCards_o : RSh := ⟨(.data true tI), [.rows 24 true (.arr 4 tI)]⟩
theorem slices_partitionEqualCmpFunc_A4_'o_i_compareCards_ev (n : Nat) (x : TupT slices_partitionEqualCmpFunc_A4_'o_i_compareCards_i.tys) : evF ⟨tab, [i_compareCards_e n], n, [(8, ⟨[(0, (.own 0)), (1, (.data true tI)), (4, (.clo 224 .tnil)), (11, (.data true tI)), (12, (.data true tI))], [.rows 24 true (.arr 4 tI)], 1⟩), (12, ⟨[(0, (.own 0)), (1, (.data true tI)), (4, (.clo 224 .tnil)), (11, (.data true tI)), (12, (.data true tI))], [.rows 24 true (.arr 4 tI)], 1⟩), (23, ⟨[(0, (.own 0)), (1, (.data true tI)), (4, (.clo 224 .tnil)), (11, (.data true tI)), (12, (.data true tI))], [.rows 24 true (.arr 4 tI)], 1⟩)]⟩ Try.f249 slices_partitionEqualCmpFunc_A4_'o_i_compareCards_i slices_partitionEqualCmpFunc_A4_'o_i_compareCards_o x = slices_partitionEqualCmpFunc_A4_'o_i_compareCards n x.1 x.2.1 x.2.2.1 x.2.2.2 := by kernel_rfl
noncomputable def slices_partitionEqualCmpFunc_A4_'o_i_compareCards_e (n : Nat) : Ent := ⟨249, slices_partitionEqualCmpFunc_A4_'o_i_compareCards_i, slices_partitionEqualCmpFunc_A4_'o_i_compareCards_o, fun x => slices_partitionEqualCmpFunc_A4_'o_i_compareCards n x.1 x.2.1 x.2.2.1 x.2.2.2⟩
theorem slices_partitionEqualCmpFunc_A4_'o_i_compareCards_ok (n : Nat) : EntOK Try.prog (slices_partitionEqualCmpFunc_A4_'o_i_compareCards_e n) ∧ Own Try.prog 249 := ent_ok tabOK0 (.cons (i_compareCards_ok n) .nil) Try.func249 rfl (by kernel_rfl) (slices_partitionEqualCmpFunc_A4_'o_i_compareCards_ev n)
def slices_partitionCmpFunc_A4_'o_i_compareCards_i : CSh := ⟨[(.own 0), (.data true tI), (.data true tI), (.data true tI), (.clo 224 .tnil)], [.rows 24 true (.arr 4 tI)]⟩
def slices_partitionCmpFunc_A4_'o_i_compareCards_o : RSh := ⟨(.tcons (.data true tI) (.tcons (.data true .bool) .tnil)), [.rows 24 true (.arr 4 tI)]⟩
theorem slices_partitionCmpFunc_A4_'o_i_compareCards_ev (n : Nat) (x : TupT slices_partitionCmpFunc_A4_'o_i_compareCards_i.tys) : evF ⟨tab, [i_compareCards_e n], n, [(8, ⟨[(0, (.own 0)), (1, (.data true tI)), (4, (.clo 224 .tnil)), (12, (.data true tI)), (13, (.data true tI))], [.rows 24 true (.arr 4 tI)], 1⟩), (19, ⟨[(0, (.own 0)), (1, (.data true tI)), (4, (.clo 224 .tnil)), (12, (.data true tI)), (13, (.data true tI))], [.rows 24 true (.arr 4 tI)], 1⟩), (46, ⟨[(0, (.own 0)), (1, (.data true tI)), (4, (.clo 224 .tnil)), (12, (.data true tI)), (13, (.data true tI))], [.rows 24 true (.arr 4 tI)], 1⟩), (50, ⟨[(0, (.own 0)), (1, (.data true tI)), (4, (.clo 224 .tnil)), (12, (.data true tI)), (13, (.data true tI))], [.rows 24 true (.arr 4 tI)], 1⟩), (61, ⟨[(0, (.own 0)), (1, (.data true tI)), (4, (.clo 224 .tnil)), (12, (.data true tI)), (13, (.data true tI))], [.rows 24 true (.arr 4 tI)], 1⟩)]⟩ Try.f250 slices_partitionCmpFunc_A4_'o_i_compareCards_i slices_partitionCmpFunc_A4_'o_i_compareCards_o x = slices_partitionCmpFunc_A4_'o_i_compareCards n x.1 x.2.1 x.2.2.1 x.2.2.2 := by kernel_rfl
noncomputable def slices_partitionCmpFunc_A4_'o_i_compareCards_e (n : Nat) : Ent := ⟨250, slices_partitionCmpFunc_A4_'o_i_compareCards_i, slices_partitionCmpFunc_A4_'o_i_compareCards_o, fun x => slices_partitionCmpFunc_A4_'o_i_compareCards n x.1 x.2.1 x.2.2.1 x.2.2.2⟩
theorem slices_partitionCmpFunc_A4_'o_i_compareCards_ok (n : Nat) : EntOK Try.prog (slices_partitionCmpFunc_A4_'o_i_compareCards_e n) ∧ Own Try.prog 250 := ent_ok tabOK0 (.cons (i_compareCards_ok n) .nil) Try.func250 rfl (by kernel_rfl) (slices_partitionCmpFunc_A4_'o_i_compareCards_ev n)
def slices_partialInsertionSortCmpFunc_A4_'o_i_compareCards_i : CSh := ⟨[(.own 0), (.data true tI), (.data true tI), (.clo 224 .tnil)], [.rows 24 true (.arr 4 tI)]⟩
def slices_partialInsertionSortCmpFunc_A4_'o_i_compareCards_o : RSh := ⟨(.data true .bool), [.rows 24 true (.arr 4 tI)]⟩
theorem slices_partialInsertionSortCmpFunc_A4_'o_i_compareCards_ev (n : Nat) (x : TupT slices_partialInsertionSortCmpFunc_A4_'o_i_compareCards_i.tys) : evF ⟨tab, [i_compareCards_e n], n, [(8, ⟨[(0, (.own 0)), (1, (.data true tI)), (2, (.data true tI)), (3, (.clo 224 .tnil)), (9, (.data true tI)), (10, (.data true tI))], [.rows 24 true (.arr 4 tI)], 1⟩), (19, ⟨[(0, (.own 0)), (1, (.data true tI)), (2, (.data true tI)), (3, (.clo 224 .tnil)), (9, (.data true tI)), (10, (.data true tI))], [.rows 24 true (.arr 4 tI)], 1⟩), (46, ⟨[(0, (.own 0)), (1, (.data true tI)), (2, (.data true tI)), (3, (.clo 224 .tnil)), (9, (.data true tI)), (10, (.data true tI))], [.rows 24 true (.arr 4 tI)], 1⟩), (53, ⟨[(0, (.own 0)), (1, (.data true tI)), (2, (.data true tI)), (3, (.clo 224 .tnil)), (9, (.data true tI)), (10, (.data true tI)), (11, (.data true tI))], [.rows 24 true (.arr 4 tI)], 1⟩), (77, ⟨[(0, (.own 0)), (1, (.data true tI)), (2, (.data true tI)), (3, (.clo 224 .tnil)), (9, (.data true tI)), (10, (.data true tI)), (12, (.data true tI))], [.rows 24 true (.arr 4 tI)], 1⟩)]⟩ Try.f248 slices_partialInsertionSortCmpFunc_A4_'o_i_compareCards_i slices_partialInsertionSortCmpFunc_A4_'o_i_compareCards_o x = slices_partialInsertionSortCmpFunc_A4_'o_i_compareCards n x.1 x.2.1 x.2.2 := by kernel_rfl
noncomputable def slices_partialInsertionSortCmpFunc_A4_'o_i_compareCards_e (n : Nat) : Ent := ⟨248, slices_partialInsertionSortCmpFunc_A4_'o_i_compareCards_i, slices_partialInsertionSortCmpFunc_A4_'o_i_compareCards_o, fun x => slices_partialInsertionSortCmpFunc_A4_'o_i_compareCards n x.1 x.2.1 x.2.2⟩
theorem slices_partialInsertionSortCmpFunc_A4_'o_i_compareCards_ok (n : Nat) : EntOK Try.prog (slices_partialInsertionSortCmpFunc_A4_'o_i_compareCards_e n) ∧ Own Try.prog 248 := ent_ok tabOK0 (.cons (i_compareCards_ok n) .nil) Try.func248 rfl (by kernel_rfl) (slices_partialInsertionSortCmpFunc_A4_'o_i_compareCards_ev n)
def slices_reverseRangeCmpFunc_A4_'o_i_compareCards_i : CSh := ⟨[(.own 0), (.data true tI), (.data true tI), (.clo 224 .tnil)], [.rows 24 true (.arr 4 tI)]⟩
def slices_reverseRangeCmpFunc_A4_'o_i_compareCards_o : RSh := ⟨.tnil, [.rows 24 true (.arr 4 tI)]⟩
theorem slices_reverseRangeCmpFunc_A4_'o_i_compareCards_ev (n : Nat) (x : TupT slices_reverseRangeCmpFunc_A4_'o_i_compareCards_i.tys) : evF ⟨tab, [], n, [(5, ⟨[(0, (.own 0)), (8, (.data true tI)), (9, (.data true tI))], [.rows 24 true (.arr 4 tI)], 1⟩)]⟩ Try.f247 slices_reverseRangeCmpFunc_A4_'o_i_compareCards_i slices_reverseRangeCmpFunc_A4_'o_i_compareCards_o x = slices_reverseRangeCmpFunc_A4_'o_i_compareCards n x.1 x.2.1 x.2.2 := by kernel_rfl
noncomputable def slices_reverseRangeCmpFunc_A4_'o_i_compareCards_e (n : Nat) : Ent := ⟨247, slices_reverseRangeCmpFunc_A4_'o_i_compareCards_i, slices_reverseRangeCmpFunc_A4_'o_i_compareCards_o, fun x => slices_reverseRangeCmpFunc_A4_'o_i_compareCards n x.1 x.2.1 x.2.2⟩
theorem slices_reverseRangeCmpFunc_A4_'o_i_compareCards_ok (n : Nat) : EntOK Try.prog (slices_reverseRangeCmpFunc_A4_'o_i_compareCards_e n) ∧ Own Try.prog 247 := ent_ok tabOK0 .nil Try.func247 rfl (by kernel_rfl) (slices_reverseRangeCmpFunc_A4_'o_i_compareCards_ev n)
def slices_nextPowerOfTwo_i : CSh := ⟨[(.data true tI)], []⟩
def slices_nextPowerOfTwo_o : RSh := ⟨(.data true (.int .u64)), []⟩
theorem slices_nextPowerOfTwo_ev (n : Nat) (x : TupT slices_nextPowerOfTwo_i.tys) : evF ⟨tab, [math_bits_Len_e n], n, []⟩ Try.f255 slices_nextPowerOfTwo_i slices_nextPowerOfTwo_o x = slices_nextPowerOfTwo n x := by kernel_rfl
noncomputable def slices_nextPowerOfTwo_e (n : Nat) : Ent := ⟨255, slices_nextPowerOfTwo_i, slices_nextPowerOfTwo_o, fun x => slices_nextPowerOfTwo n x⟩
theorem slices_nextPowerOfTwo_ok (n : Nat) : EntOK Try.prog (slices_nextPowerOfTwo_e n) ∧ Own Try.prog 255 := ent_ok tabOK0 (.cons (math_bits_Len_ok n) .nil) Try.func255 rfl (by kernel_rfl) (slices_nextPowerOfTwo_ev n)
def __slices_xorshift__Next'p_i : CSh := ⟨[(.ptr 0 [])], [.var 183 (.data true (.int .u64))]⟩
def __slices_xorshift__Next'p_o : RSh := ⟨(.data true (.int .u64)), [.var 183 (.data true (.int .u64))]⟩
theorem __slices_xorshift__Next'p_ev (n : Nat) (x : TupT __slices_xorshift__Next'p_i.tys) : evF ⟨tab, [], n, []⟩ Try.f256 __slices_xorshift__Next'p_i __slices_xorshift__Next'p_o x = __slices_xorshift__Next'p n x := by kernel_rfl
noncomputable def __slices_xorshift__Next'p_e (n : Nat) : Ent := ⟨256, __slices_xorshift__Next'p_i, __slices_xorshift__Next'p_o, fun x => __slices_xorshift__Next'p n x⟩
theorem __slices_xorshift__Next'p_ok (n : Nat) : EntOK Try.prog (__slices_xorshift__Next'p_e n) ∧ Own Try.prog 256 := ent_ok tabOK0 .nil Try.func256 rfl (by kernel_rfl) (__slices_xorshift__Next'p_ev n)
def slices_breakPatternsCmpFunc_A4_'o_i_compareCards_i : CSh := ⟨[(.own 0), (.data true tI), (.data true tI), (.clo 224 .tnil)], [.rows 24 true (.arr 4 tI)]⟩
def slices_breakPatternsCmpFunc_A4_'o_i_compareCards_o : RSh := ⟨.tnil, [.rows 24 true (.arr 4 tI)]⟩
theorem slices_breakPatternsCmpFunc_A4_'o_i_compareCards_ev (n : Nat) (x : TupT slices_breakPatternsCmpFunc_A4_'o_i_compareCards_i.tys) : evF ⟨tab, [slices_nextPowerOfTwo_e n, __slices_xorshift__Next'p_e n], n, [(12, ⟨[(0, (.own 0)), (1, (.data true tI)), (8, (.data true tI)), (9, (.ptr 1 [])), (10, (.data true (.int .u64))), (11, (.data true tI))], [.rows 24 true (.arr 4 tI), .var 183 (.data true (.int .u64))], 1⟩), (23, ⟨[(0, (.own 0)), (1, (.data true tI)), (8, (.data true tI)), (9, (.ptr 1 [])), (10, (.data true (.int .u64))), (11, (.data true tI)), (12, (.data true tI))], [.rows 24 true (.arr 4 tI), .var 183 (.data true (.int .u64))], 1⟩)]⟩ Try.f245 slices_breakPatternsCmpFunc_A4_'o_i_compareCards_i slices_breakPatternsCmpFunc_A4_'o_i_compareCards_o x = slices_breakPatternsCmpFunc_A4_'o_i_compareCards n x.1 x.2.1 x.2.2 := by kernel_rfl
noncomputable def slices_breakPatternsCmpFunc_A4_'o_i_compareCards_e (n : Nat) : Ent := ⟨245, slices_breakPatternsCmpFunc_A4_'o_i_compareCards_i, slices_breakPatternsCmpFunc_A4_'o_i_compareCards_o, fun x => slices_breakPatternsCmpFunc_A4_'o_i_compareCards n x.1 x.2.1 x.2.2⟩
theorem slices_breakPatternsCmpFunc_A4_'o_i_compareCards_ok (n : Nat) : EntOK Try.prog (slices_breakPatternsCmpFunc_A4_'o_i_compareCards_e n) ∧ Own Try.prog 245 := ent_ok tabOK0 (.cons (slices_nextPowerOfTwo_ok n) (.cons (__slices_xorshift__Next'p_ok n) .nil)) Try.func245 rfl (by kernel_rfl) (slices_breakPatternsCmpFunc_A4_'o_i_compareCards_ev n)
def slices_pdqsortCmpFunc_A4_'o_i_compareCards_i : CSh := ⟨[(.own 0), (.data true tI), (.data true tI), (.data true tI), (.clo 224 .tnil)], [.rows 24 true (.arr 4 tI)]⟩
def slices_pdqsortCmpFunc_A4_'o_i_compareCards_o : RSh := ⟨.tnil, [.rows 24 true (.arr 4 tI)]⟩
theorem slices_pdqsortCmpFunc_A4_'o_i_compareCards_ev (n : Nat) (go : TupT slices_pdqsortCmpFunc_A4_'o_i_compareCards_i.tys → Option (TupT slices_pdqsortCmpFunc_A4_'o_i_compareCards_o.tys)) (x : TupT slices_pdqsortCmpFunc_A4_'o_i_compareCards_i.tys) : evF ⟨tab, [⟨238, slices_pdqsortCmpFunc_A4_'o_i_compareCards_i, slices_pdqsortCmpFunc_A4_'o_i_compareCards_o, go⟩, slices_insertionSortCmpFunc_A4_'o_i_compareCards_e n, slices_heapSortCmpFunc_A4_'o_i_compareCards_e n, slices_choosePivotCmpFunc_A4_'l_i_compareCards_e n, i_compareCards_e n, slices_partitionEqualCmpFunc_A4_'o_i_compareCards_e n, slices_partitionCmpFunc_A4_'o_i_compareCards_e n, slices_partialInsertionSortCmpFunc_A4_'o_i_compareCards_e n, slices_reverseRangeCmpFunc_A4_'o_i_compareCards_e n, slices_breakPatternsCmpFunc_A4_'o_i_compareCards_e n], n, [(5, ⟨[(0, (.own 0)), (1, (.data true tI)), (2, (.data true tI)), (3, (.data true tI)), (4, (.clo 224 .tnil)), (10, (.data true .bool)), (11, (.data true .bool))], [.rows 24 true (.arr 4 tI)], 1⟩), (25, ⟨[(0, (.own 0)), (1, (.data true tI)), (2, (.data true tI)), (3, (.data true tI)), (4, (.clo 224 .tnil)), (10, (.data true .bool)), (11, (.data true .bool)), (12, (.data true tI))], [.rows 24 true (.arr 4 tI)], 1⟩), (35, ⟨[(0, (.own 0)), (1, (.data true tI)), (2, (.data true tI)), (3, (.data true tI)), (4, (.clo 224 .tnil)), (10, (.data true .bool)), (11, (.data true .bool)), (12, (.data true tI)), (13, (.data true tI)), (14, (.data true tI))], [.rows 24 true (.arr 4 tI)], 1⟩), (45, ⟨[(0, (.own 0)), (1, (.data true tI)), (2, (.data true tI)), (3, (.data true tI)), (4, (.clo 224 .tnil)), (10, (.data true .bool)), (11, (.data true .bool)), (12, (.data true tI)), (13, (.data true tI))], [.rows 24 true (.arr 4 tI)], 1⟩)]⟩ Try.f238 slices_pdqsortCmpFunc_A4_'o_i_compareCards_i slices_pdqsortCmpFunc_A4_'o_i_compareCards_o x = slices_pdqsortCmpFunc_A4_'o_i_compareCards_R n go x := by kernel_rfl
noncomputable def slices_pdqsortCmpFunc_A4_'o_i_compareCards_e (n : Nat) : Ent := ⟨238, slices_pdqsortCmpFunc_A4_'o_i_compareCards_i, slices_pdqsortCmpFunc_A4_'o_i_compareCards_o, fun x => slices_pdqsortCmpFunc_A4_'o_i_compareCards n x.1 x.2.1 x.2.2.1 x.2.2.2⟩
theorem slices_pdqsortCmpFunc_A4_'o_i_compareCards_ok (n : Nat) : EntOK Try.prog (slices_pdqsortCmpFunc_A4_'o_i_compareCards_e n) ∧ Own Try.prog 238 := ent_rec tabOK0 (.cons (slices_insertionSortCmpFunc_A4_'o_i_compareCards_ok n) (.cons (slices_heapSortCmpFunc_A4_'o_i_compareCards_ok n) (.cons (slices_choosePivotCmpFunc_A4_'l_i_compareCards_ok n) (.cons (i_compareCards_ok n) (.cons (slices_partitionEqualCmpFunc_A4_'o_i_compareCards_ok n) (.cons (slices_partitionCmpFunc_A4_'o_i_compareCards_ok n) (.cons (slices_partialInsertionSortCmpFunc_A4_'o_i_compareCards_ok n) (.cons (slices_reverseRangeCmpFunc_A4_'o_i_compareCards_ok n) (.cons (slices_breakPatternsCmpFunc_A4_'o_i_compareCards_ok n) .nil))))))))) Try.func238 rfl (by kernel_rfl) (slices_pdqsortCmpFunc_A4_'o_i_compareCards_ev n) n
def slices_SortFunc_SA4_A4_'o_i_compareCards_i : CSh := ⟨[(.own 0), (.clo 224 .tnil)], [.rows 24 true (.arr 4 tI)]⟩
def slices_SortFunc_SA4_A4_'o_i_compareCards_o : RSh := ⟨.tnil, [.rows 24 true (.arr 4 tI)]⟩
theorem slices_SortFunc_SA4_A4_'o_i_compareCards_ev (n : Nat) (x : TupT slices_SortFunc_SA4_A4_'o_i_compareCards_i.tys) : evF ⟨tab, [math_bits_Len_e n, slices_pdqsortCmpFunc_A4_'o_i_compareCards_e n], n, []⟩ Try.f223 slices_SortFunc_SA4_A4_'o_i_compareCards_i slices_SortFunc_SA4_A4_'o_i_compareCards_o x = slices_SortFunc_SA4_A4_'o_i_compareCards n x := by kernel_rfl
noncomputable def slices_SortFunc_SA4_A4_'o_i_compareCards_e (n : Nat) : Ent := ⟨223, slices_SortFunc_SA4_A4_'o_i_compareCards_i, slices_SortFunc_SA4_A4_'o_i_compareCards_o, fun x => slices_SortFunc_SA4_A4_'o_i_compareCards n x⟩
theorem slices_SortFunc_SA4_A4_'o_i_compareCards_ok (n : Nat) : EntOK Try.prog (slices_SortFunc_SA4_A4_'o_i_compareCards_e n) ∧ Own Try.prog 223 := ent_ok tabOK0 (.cons (math_bits_Len_ok n) (.cons (slices_pdqsortCmpFunc_A4_'o_i_compareCards_ok n) .nil)) Try.func223 rfl (by kernel_rfl) (slices_SortFunc_SA4_A4_'o_i_compareCards_ev n)
def slices_Compact_SA4_A4_'o_i : CSh := ⟨[(.own 0)], [.rows 24 true (.arr 4 tI)]⟩
def slices_Compact_SA4_A4_'o_o : RSh := ⟨(.own 1), [.gone, .rows 24 true (.arr 4 tI)]⟩
theorem slices_Compact_SA4_A4_'o_ev (n : Nat) (x : TupT slices_Compact_SA4_A4_'o_i.tys) : evF ⟨tab, [], n, [(14, ⟨[(0, (.own 0)), (3, (.data true tI))], [.rows 24 true (.arr 4 tI)], 1⟩), (32, ⟨[(0, (.own 0)), (3, (.data true tI)), (4, (.ownp 0)), (5, (.data true tI))], [.rows 24 true (.arr 4 tI)], 1⟩)]⟩ Try.f225 slices_Compact_SA4_A4_'o_i slices_Compact_SA4_A4_'o_o x = slices_Compact_SA4_A4_'o n x := by kernel_rfl
noncomputable def slices_Compact_SA4_A4_'o_e (n : Nat) : Ent := ⟨225, slices_Compact_SA4_A4_'o_i, slices_Compact_SA4_A4_'o_o, fun x => slices_Compact_SA4_A4_'o n x⟩
theorem slices_Compact_SA4_A4_'o_ok (n : Nat) : EntOK Try.prog (slices_Compact_SA4_A4_'o_e n) ∧ Own Try.prog 225 := ent_ok tabOK0 .nil Try.func225 rfl (by kernel_rfl) (slices_Compact_SA4_A4_'o_ev n)
def i_sorted_i : CSh := ⟨[(.data false (.sl (.arr 4 tI)))], []⟩
def i_sorted_o : RSh := ⟨(.own 0), [.rows 24 true (.arr 4 tI)]⟩
theorem i_sorted_ev (n : Nat) (x : TupT i_sorted_i.tys) : evF ⟨tab, [slices_Clone_SA4_A4__e n, slices_SortFunc_SA4_A4_'o_i_compareCards_e n, slices_Compact_SA4_A4_'o_e n], n, []⟩ Try.f151 i_sorted_i i_sorted_o x = i_sorted n x := by kernel_rfl
noncomputable def i_sorted_e (n : Nat) : Ent := ⟨151, i_sorted_i, i_sorted_o, fun x => i_sorted n x⟩
theorem i_sorted_ok (n : Nat) : EntOK Try.prog (i_sorted_e n) ∧ Own Try.prog 151 := ent_ok tabOK0 (.cons (slices_Clone_SA4_A4__ok n) (.cons (slices_SortFunc_SA4_A4_'o_i_compareCards_ok n) (.cons (slices_Compact_SA4_A4_'o_ok n) .nil))) Try.func151 rfl (by kernel_rfl) (i_sorted_ev n)
def i_JoinCaps_i : CSh := ⟨[(.data false (.sl (.arr 4 tI))), (.data false (.sl (.arr 4 tI)))], []⟩
def i_JoinCaps_o : RSh := ⟨(.tcons (.own 0) (.tcons (.data true .bool) .tnil)), [.rows 24 true (.arr 4 tI)]⟩
theorem i_JoinCaps_ev (n : Nat) (x : TupT i_JoinCaps_i.tys) : evF ⟨tab, [i_IsHand_e n, i_isCap_e n, i_sorted_e n], n, []⟩ Try.f37 i_JoinCaps_i i_JoinCaps_o x = i_JoinCaps n x.1 x.2 := by kernel_rfl
noncomputable def i_JoinCaps_e (n : Nat) : Ent := ⟨37, i_JoinCaps_i, i_JoinCaps_o, fun x => i_JoinCaps n x.1 x.2⟩
theorem i_JoinCaps_ok (n : Nat) : EntOK Try.prog (i_JoinCaps_e n) ∧ Own Try.prog 37 := ent_ok tabOK0 (.cons (i_IsHand_ok n) (.cons (i_isCap_ok n) (.cons (i_sorted_ok n) .nil))) Try.func37 rfl (by kernel_rfl) (i_JoinCaps_ev n)
def s_JoinCaps_i : CSh := ⟨[(.data false (.sl (.arr 4 tI))), (.data false (.sl (.arr 4 tI)))], []⟩
def s_JoinCaps_o : RSh := ⟨(.tcons (.own 0) (.tcons (.data true .bool) .tnil)), [.rows 24 true (.arr 4 tI)]⟩
theorem s_JoinCaps_ev (n : Nat) (x : TupT s_JoinCaps_i.tys) : evF ⟨tab, [s_l2Hand_e n, s_l3Cap_e n, s_l2Own_e n, s_l2Put_e n], n, [(16, ⟨[(1, (.data false (.sl (.arr 4 tI)))), (6, (.own 0)), (7, (.data true tI))], [.rows 24 true (.arr 4 tI)], 0⟩)]⟩ Try.f38 s_JoinCaps_i s_JoinCaps_o x = s_JoinCaps n x.1 x.2 := by kernel_rfl
noncomputable def s_JoinCaps_e (n : Nat) : Ent := ⟨38, s_JoinCaps_i, s_JoinCaps_o, fun x => s_JoinCaps n x.1 x.2⟩
theorem s_JoinCaps_ok (n : Nat) : EntOK Try.prog (s_JoinCaps_e n) ∧ Own Try.prog 38 := ent_ok tabOK0 (.cons (s_l2Hand_ok n) (.cons (s_l3Cap_ok n) (.cons (s_l2Own_ok n) (.cons (s_l2Put_ok n) .nil)))) Try.func38 rfl (by kernel_rfl) (s_JoinCaps_ev n)
def v_vInts_i : CSh := ⟨[(.data false (.sl tI)), (.data false (.sl tI))], []⟩
def v_vInts_o : RSh := ⟨(.data true .bool), []⟩
theorem v_vInts_ev (n : Nat) (x : TupT v_vInts_i.tys) : evF ⟨tab, [], n, [(14, ⟨[(0, (.data false (.sl tI))), (1, (.data false (.sl tI))), (5, (.data true tI))], [], 0⟩)]⟩ Try.f39 v_vInts_i v_vInts_o x = v_vInts n x.1 x.2 := by kernel_rfl
noncomputable def v_vInts_e (n : Nat) : Ent := ⟨39, v_vInts_i, v_vInts_o, fun x => v_vInts n x.1 x.2⟩
theorem v_vInts_ok (n : Nat) : EntOK Try.prog (v_vInts_e n) ∧ Own Try.prog 39 := ent_ok tabOK0 .nil Try.func39 rfl (by kernel_rfl) (v_vInts_ev n)
def v_vHands_i : CSh := ⟨[(.data false (.sl (.arr 4 tI))), (.data false (.sl (.arr 4 tI)))], []⟩
def v_vHands_o : RSh := ⟨(.data true .bool), []⟩
theorem v_vHands_ev (n : Nat) (x : TupT v_vHands_i.tys) : evF ⟨tab, [], n, [(14, ⟨[(0, (.data false (.sl (.arr 4 tI)))), (1, (.data false (.sl (.arr 4 tI)))), (5, (.data true tI))], [], 0⟩)]⟩ Try.f40 v_vHands_i v_vHands_o x = v_vHands n x.1 x.2 := by kernel_rfl
noncomputable def v_vHands_e (n : Nat) : Ent := ⟨40, v_vHands_i, v_vHands_o, fun x => v_vHands n x.1 x.2⟩
theorem v_vHands_ok (n : Nat) : EntOK Try.prog (v_vHands_e n) ∧ Own Try.prog 40 := ent_ok tabOK0 .nil Try.func40 rfl (by kernel_rfl) (v_vHands_ev n)
def i_CardAt_i : CSh := ⟨[(.data true tI)], []⟩
def i_CardAt_o : RSh := ⟨(.tcons (.data true (.arr 4 tI)) (.tcons (.data true .bool) .tnil)), []⟩
theorem i_CardAt_ev (n : Nat) (x : TupT i_CardAt_i.tys) : evF ⟨tab, [i_within_e n, i_card_e n], n, []⟩ Try.f42 i_CardAt_i i_CardAt_o x = i_CardAt n x := by kernel_rfl
noncomputable def i_CardAt_e (n : Nat) : Ent := ⟨42, i_CardAt_i, i_CardAt_o, fun x => i_CardAt n x⟩
theorem i_CardAt_ok (n : Nat) : EntOK Try.prog (i_CardAt_e n) ∧ Own Try.prog 42 := ent_ok tabOK0 (.cons (i_within_ok n) (.cons (i_card_ok n) .nil)) Try.func42 rfl (by kernel_rfl) (i_CardAt_ev n)
def i_pairsFor_i : CSh := ⟨[(.data false (.sl (.arr 4 tI))), (.data true (.arr 4 tI))], []⟩
def i_pairsFor_o : RSh := ⟨(.own 0), [.rows 99 true (.arr 2 tI)]⟩
theorem i_pairsFor_ev (n : Nat) (x : TupT i_pairsFor_i.tys) : evF ⟨tab, [i_third_e n], n, [(8, ⟨[(0, (.data false (.sl (.arr 4 tI)))), (3, (.ptr 0 [])), (5, (.own 1)), (10, (.data false (.sl (.arr 4 tI)))), (11, (.data true tI)), (12, (.data true tI))], [.var 24 (.data true (.arr 4 tI)), .rows 99 true (.arr 2 tI)], 0⟩), (22, ⟨[(0, (.data false (.sl (.arr 4 tI)))), (3, (.ptr 0 [])), (5, (.own 1)), (6, (.data true tI)), (7, (.ptr 2 [])), (8, (.data true tI)), (10, (.data false (.sl (.arr 4 tI)))), (11, (.data true tI)), (12, (.data true tI))], [.var 24 (.data true (.arr 4 tI)), .rows 99 true (.arr 2 tI), .var 24 (.data true (.arr 4 tI))], 0⟩)]⟩ Try.f154 i_pairsFor_i i_pairsFor_o x = i_pairsFor n x.1 x.2 := by kernel_rfl
noncomputable def i_pairsFor_e (n : Nat) : Ent := ⟨154, i_pairsFor_i, i_pairsFor_o, fun x => i_pairsFor n x.1 x.2⟩
theorem i_pairsFor_ok (n : Nat) : EntOK Try.prog (i_pairsFor_e n) ∧ Own Try.prog 154 := ent_ok tabOK0 (.cons (i_third_ok n) .nil) Try.func154 rfl (by kernel_rfl) (i_pairsFor_ev n)
def i_LinesThrough_i : CSh := ⟨[(.data false (.sl (.arr 4 tI))), (.data true (.arr 4 tI))], []⟩
def i_LinesThrough_o : RSh := ⟨(.tcons (.data true tI) (.tcons (.data true .bool) .tnil)), []⟩
theorem i_LinesThrough_ev (n : Nat) (x : TupT i_LinesThrough_i.tys) : evF ⟨tab, [i_IsHand_e n, i_IsCard_e n, i_pairsFor_e n], n, []⟩ Try.f43 i_LinesThrough_i i_LinesThrough_o x = i_LinesThrough n x.1 x.2 := by kernel_rfl
noncomputable def i_LinesThrough_e (n : Nat) : Ent := ⟨43, i_LinesThrough_i, i_LinesThrough_o, fun x => i_LinesThrough n x.1 x.2⟩
theorem i_LinesThrough_ok (n : Nat) : EntOK Try.prog (i_LinesThrough_e n) ∧ Own Try.prog 43 := ent_ok tabOK0 (.cons (i_IsHand_ok n) (.cons (i_IsCard_ok n) (.cons (i_pairsFor_ok n) .nil))) Try.func43 rfl (by kernel_rfl) (i_LinesThrough_ev n)
def i_ThirdCard_i : CSh := ⟨[(.data true (.arr 4 tI)), (.data true (.arr 4 tI))], []⟩
def i_ThirdCard_o : RSh := ⟨(.tcons (.data true (.arr 4 tI)) (.tcons (.data true .bool) .tnil)), []⟩
theorem i_ThirdCard_ev (n : Nat) (x : TupT i_ThirdCard_i.tys) : evF ⟨tab, [i_IsCard_e n, i_third_e n], n, []⟩ Try.f44 i_ThirdCard_i i_ThirdCard_o x = i_ThirdCard n x.1 x.2 := by kernel_rfl
noncomputable def i_ThirdCard_e (n : Nat) : Ent := ⟨44, i_ThirdCard_i, i_ThirdCard_o, fun x => i_ThirdCard n x.1 x.2⟩
theorem i_ThirdCard_ok (n : Nat) : EntOK Try.prog (i_ThirdCard_e n) ∧ Own Try.prog 44 := ent_ok tabOK0 (.cons (i_IsCard_ok n) (.cons (i_third_ok n) .nil)) Try.func44 rfl (by kernel_rfl) (i_ThirdCard_ev n)
def i_IsCap_i : CSh := ⟨[(.data false (.sl (.arr 4 tI)))], []⟩
def i_IsCap_o : RSh := ⟨(.tcons (.data true .bool) (.tcons (.data true .bool) .tnil)), []⟩
theorem i_IsCap_ev (n : Nat) (x : TupT i_IsCap_i.tys) : evF ⟨tab, [i_IsHand_e n, i_isCap_e n], n, []⟩ Try.f41 i_IsCap_i i_IsCap_o x = i_IsCap n x := by kernel_rfl
noncomputable def i_IsCap_e (n : Nat) : Ent := ⟨41, i_IsCap_i, i_IsCap_o, fun x => i_IsCap n x⟩
theorem i_IsCap_ok (n : Nat) : EntOK Try.prog (i_IsCap_e n) ∧ Own Try.prog 41 := ent_ok tabOK0 (.cons (i_IsHand_ok n) (.cons (i_isCap_ok n) .nil)) Try.func41 rfl (by kernel_rfl) (i_IsCap_ev n)
def v_FnAnchors_i : CSh := ⟨[(.data false (.sl (.int .u8)))], []⟩
def v_FnAnchors_o : RSh := ⟨(.data true .bool), []⟩
theorem v_FnAnchors_ev (n : Nat) (x : TupT v_FnAnchors_i.tys) : evF ⟨tab, [v_vBig_e n, s_DrawAnchorsOf_e n, i_AnchorsOf_e n, s_AnchorsOf_e n, v_vCut_e n, s_DrawJoinCaps_e n, i_JoinCaps_e n, s_JoinCaps_e n, v_vInts_e n, v_vHands_e n, i_CardAt_e n, i_LinesThrough_e n, i_ThirdCard_e n, i_IsCap_e n], n, [(30, ⟨[(3, (.own 0)), (4, (.own 1)), (5, (.data true .bool))], [.rows 24 true (.arr 4 tI), .rows 3 true tI], 0⟩), (58, ⟨[(3, (.own 0)), (4, (.own 1)), (18, (.data true tI))], [.rows 24 true (.arr 4 tI), .rows 3 true tI], 0⟩), (82, ⟨[(3, (.own 0)), (4, (.own 1)), (18, (.data true tI)), (19, (.ptr 2 [])), (23, (.data true tI))], [.rows 24 true (.arr 4 tI), .rows 3 true tI, .var 24 (.data true (.arr 4 tI))], 0⟩), (99, ⟨[(3, (.own 0)), (4, (.own 1)), (18, (.data true tI)), (19, (.ptr 2 [])), (23, (.data true tI)), (24, (.ptr 3 [])), (25, (.data true .bool)), (26, (.data true .bool)), (27, (.data true tI))], [.rows 24 true (.arr 4 tI), .rows 3 true tI, .var 24 (.data true (.arr 4 tI)), .var 24 (.data true (.arr 4 tI))], 0⟩)]⟩ Try.f4 v_FnAnchors_i v_FnAnchors_o x = v_FnAnchors n x := by kernel_rfl
noncomputable def v_FnAnchors_e (n : Nat) : Ent := ⟨4, v_FnAnchors_i, v_FnAnchors_o, fun x => v_FnAnchors n x⟩
theorem v_FnAnchors_ok (n : Nat) : EntOK Try.prog (v_FnAnchors_e n) ∧ Own Try.prog 4 := ent_ok tabOK0 (.cons (v_vBig_ok n) (.cons (s_DrawAnchorsOf_ok n) (.cons (i_AnchorsOf_ok n) (.cons (s_AnchorsOf_ok n) (.cons (v_vCut_ok n) (.cons (s_DrawJoinCaps_ok n) (.cons (i_JoinCaps_ok n) (.cons (s_JoinCaps_ok n) (.cons (v_vInts_ok n) (.cons (v_vHands_ok n) (.cons (i_CardAt_ok n) (.cons (i_LinesThrough_ok n) (.cons (i_ThirdCard_ok n) (.cons (i_IsCap_ok n) .nil)))))))))))))) Try.func4 rfl (by kernel_rfl) (v_FnAnchors_ev n)
end Go.Proofs.Ytbkbkaonjhlplaa
