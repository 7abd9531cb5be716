/- Printed by a program of the session: the contracts of the seat's functions. -/
import Derived.Test.YtfoielhhflbbfaaZ7
import Derived.Test.YtfoielhhflbbfaaPL
import Derived.Test.YtfoielhhflbbfaaRows
import Derived.KernelRfl
namespace Go.Proofs.Ytfoielhhflbbfaa
open Go Go.Tv Go.Pl Go.RowKit
set_option linter.unusedVariables false
abbrev tI : Ty := .int .i64
def tab : Tab := ⟨[(2, ⟨tI, 0, 8⟩), (3, ⟨tI, 0, 8⟩), (4, ⟨.bool, 0, 1⟩), (5, ⟨(.int .u8), 0, 1⟩), (6, ⟨(.int .u8), 0, 1⟩), (7, ⟨(.pair tI (.pair tI (.pair .bool (.int .u8)))), 4, 24⟩), (8, ⟨(.pair tI (.pair tI (.pair .bool (.int .u8)))), 4, 24⟩), (9, ⟨.str, 0, 16⟩), (10, ⟨.str, 0, 16⟩), (11, ⟨.str, 0, 16⟩), (12, ⟨(.int .u64), 0, 8⟩), (13, ⟨(.pair .str (.int .u64)), 2, 24⟩), (14, ⟨(.pair .str (.int .u64)), 2, 24⟩), (21, ⟨(.int .i32), 0, 4⟩), (22, ⟨(.sl (.int .u8)), 5, 1⟩), (24, ⟨(.sl (.arr 4 tI)), 54, 32⟩), (26, ⟨(.arr 2 tI), 3, 8⟩), (38, ⟨(.sl (.arr 3 tI)), 62, 24⟩), (42, ⟨(.sl tI), 3, 8⟩), (50, ⟨(.sl (.arr 6 tI)), 53, 48⟩), (53, ⟨(.arr 6 tI), 3, 8⟩), (54, ⟨(.arr 4 tI), 3, 8⟩), (57, ⟨(.arr 5 tI), 3, 8⟩), (62, ⟨(.arr 3 tI), 3, 8⟩), (63, ⟨(.pair tI (.pair tI (.sl (.arr 4 tI)))), 3, 40⟩), (64, ⟨(.pair tI (.pair tI (.sl (.arr 4 tI)))), 3, 40⟩), (65, ⟨(.pair (.pair tI (.pair tI (.sl (.arr 4 tI)))) (.pair (.sl tI) (.sl tI))), 3, 88⟩), (66, ⟨(.pair (.pair tI (.pair tI (.sl (.arr 4 tI)))) (.pair (.sl tI) (.sl tI))), 3, 88⟩), (76, ⟨(.pair tI (.arr 3 tI)), 2, 32⟩), (77, ⟨(.pair tI (.arr 3 tI)), 2, 32⟩), (84, ⟨(.sl (.pair tI (.arr 3 tI))), 77, 32⟩), (116, ⟨(.arr 9 (.arr 4 tI)), 54, 32⟩), (123, ⟨(.int .u64), 0, 8⟩), (124, ⟨(.pair (.sl (.int .u8)) (.pair tI (.int .u64))), 3, 40⟩), (125, ⟨(.pair (.sl (.int .u8)) (.pair tI (.int .u64))), 3, 40⟩), (150, ⟨(.sl (.sl tI)), 42, 24⟩), (185, ⟨(.arr 81 .bool), 4, 1⟩), (187, ⟨(.arr 81 tI), 3, 8⟩), (194, ⟨(.arr 3 (.arr 4 tI)), 54, 32⟩), (207, ⟨(.int .u64), 0, 8⟩), (208, ⟨(.sl (.arr 2 tI)), 26, 16⟩), (221, ⟨(.sl (.sl (.arr 4 tI))), 24, 24⟩), (225, ⟨tI, 0, 8⟩), (232, ⟨(.int .u32), 0, 4⟩), (234, ⟨(.int .u64), 0, 8⟩), (248, ⟨(.int .u8), 0, 1⟩), (249, ⟨(.int .u8), 0, 1⟩), (252, ⟨(.int .i32), 0, 4⟩), (253, ⟨(.int .i32), 0, 4⟩)], [7, 8, 26, 53, 54, 57, 62, 76, 77, 116, 185, 187, 194], [1, 23, 25, 28, 29, 30, 31, 33, 34, 36, 37, 40, 41, 44, 46, 47, 49, 52, 55, 56, 59, 60, 61, 67, 68, 69, 70, 71, 73, 74, 75, 79, 81, 82, 83, 86, 88, 89, 91, 92, 94, 96, 98, 99, 101, 103, 105, 106, 107, 109, 110, 111, 112, 114, 115, 118, 119, 121, 126, 127, 128, 129, 130, 131, 132, 133, 134, 135, 136, 137, 138, 139, 140, 141, 142, 143, 144, 145, 146, 147, 148, 149, 151, 152, 153, 154, 155, 156, 157, 158, 159, 160, 161, 162, 163, 164, 165, 166, 167, 168, 169, 170, 171, 172, 173, 174, 175, 176, 177, 179, 180, 181, 182, 183, 184, 186, 188, 189, 190, 191, 192, 193, 195, 196, 197, 198, 199, 201, 202, 203, 204, 205, 206, 209, 210, 211, 212, 213, 214, 215, 216, 217, 218, 219, 220, 222, 223, 224, 227, 228, 229, 230, 231, 233, 235, 236, 237, 239, 241, 242, 250]⟩
theorem tabOK0 : TabOK Try.prog tab := ⟨by kernel_rfl, by kernel_rfl⟩
def v_rBig_i : CSh := ⟨[(.data false (.sl (.int .u8)))], []⟩
def v_rBig_o : RSh := ⟨(.data true .bool), []⟩
theorem v_rBig_ev (n : Nat) (x : TupT v_rBig_i.tys) : evF ⟨tab, [], n, []⟩ Try.f32 v_rBig_i v_rBig_o x = v_rBig n x := by kernel_rfl
noncomputable def v_rBig_e (n : Nat) : Ent := ⟨32, v_rBig_i, v_rBig_o, fun x => v_rBig n x⟩
theorem v_rBig_ok (n : Nat) : EntOK Try.prog (v_rBig_e n) ∧ Own Try.prog 32 := ent_ok tabOK0 .nil Try.func32 rfl (by kernel_rfl) (v_rBig_ev n)
def s_Cur_next'p_i : CSh := ⟨[(.ptr 0 [])], [.var 125 (.data true (.pair (.sl (.int .u8)) (.pair tI (.int .u64))))]⟩
def s_Cur_next'p_o : RSh := ⟨(.data true tI), [.var 125 (.data true (.pair (.sl (.int .u8)) (.pair tI (.int .u64))))]⟩
theorem s_Cur_next'p_ev (n : Nat) (x : TupT s_Cur_next'p_i.tys) : evF ⟨tab, [], n, [(4, ⟨[(0, (.ptr 0 [])), (3, (.data true tI))], [.var 125 (.data true (.pair (.sl (.int .u8)) (.pair tI (.int .u64))))], 1⟩)]⟩ Try.f228 s_Cur_next'p_i s_Cur_next'p_o x = s_Cur_next'p n x := by kernel_rfl
noncomputable def s_Cur_next'p_e (n : Nat) : Ent := ⟨228, s_Cur_next'p_i, s_Cur_next'p_o, fun x => s_Cur_next'p n x⟩
theorem s_Cur_next'p_ok (n : Nat) : EntOK Try.prog (s_Cur_next'p_e n) ∧ Own Try.prog 228 := ent_ok tabOK0 .nil Try.func228 rfl (by kernel_rfl) (s_Cur_next'p_ev n)
def s_Cur_pick'p_i : CSh := ⟨[(.ptr 0 []), (.data true tI)], [.var 125 (.data true (.pair (.sl (.int .u8)) (.pair tI (.int .u64))))]⟩
def s_Cur_pick'p_o : RSh := ⟨(.data true tI), [.var 125 (.data true (.pair (.sl (.int .u8)) (.pair tI (.int .u64))))]⟩
theorem s_Cur_pick'p_ev (n : Nat) (x : TupT s_Cur_pick'p_i.tys) : evF ⟨tab, [s_Cur_next'p_e n], n, []⟩ Try.f132 s_Cur_pick'p_i s_Cur_pick'p_o x = s_Cur_pick'p n x.1 x.2 := by kernel_rfl
noncomputable def s_Cur_pick'p_e (n : Nat) : Ent := ⟨132, s_Cur_pick'p_i, s_Cur_pick'p_o, fun x => s_Cur_pick'p n x.1 x.2⟩
theorem s_Cur_pick'p_ok (n : Nat) : EntOK Try.prog (s_Cur_pick'p_e n) ∧ Own Try.prog 132 := ent_ok tabOK0 (.cons (s_Cur_next'p_ok n) .nil) Try.func132 rfl (by kernel_rfl) (s_Cur_pick'p_ev n)
def s_l2At_i : CSh := ⟨[(.data true tI)], []⟩
def s_l2At_o : RSh := ⟨(.data true (.arr 4 tI)), []⟩
theorem s_l2At_ev (n : Nat) (x : TupT s_l2At_i.tys) : evF ⟨tab, [], n, []⟩ Try.f151 s_l2At_i s_l2At_o x = s_l2At n x := by kernel_rfl
noncomputable def s_l2At_e (n : Nat) : Ent := ⟨151, s_l2At_i, s_l2At_o, fun x => s_l2At n x⟩
theorem s_l2At_ok (n : Nat) : EntOK Try.prog (s_l2At_e n) ∧ Own Try.prog 151 := ent_ok tabOK0 .nil Try.func151 rfl (by kernel_rfl) (s_l2At_ev n)
def s_l2Third_i : CSh := ⟨[(.data true (.arr 4 tI)), (.data true (.arr 4 tI))], []⟩
def s_l2Third_o : RSh := ⟨(.data true (.arr 4 tI)), []⟩
theorem s_l2Third_ev (n : Nat) (x : TupT s_l2Third_i.tys) : evF ⟨tab, [], n, [(8, ⟨[(2, (.ptr 0 [])), (3, (.ptr 1 [])), (4, (.ptr 2 [])), (5, (.ptr 3 [])), (6, (.data true tI))], [.var 54 (.data true (.arr 4 tI)), .var 54 (.data true (.arr 4 tI)), .var 54 (.data true (.arr 4 tI)), .var 54 (.data true (.arr 4 tI))], 0⟩)]⟩ Try.f223 s_l2Third_i s_l2Third_o x = s_l2Third n x.1 x.2 := by kernel_rfl
noncomputable def s_l2Third_e (n : Nat) : Ent := ⟨223, s_l2Third_i, s_l2Third_o, fun x => s_l2Third n x.1 x.2⟩
theorem s_l2Third_ok (n : Nat) : EntOK Try.prog (s_l2Third_e n) ∧ Own Try.prog 223 := ent_ok tabOK0 .nil Try.func223 rfl (by kernel_rfl) (s_l2Third_ev n)
def s_l2Number_i : CSh := ⟨[(.data true (.arr 4 tI))], []⟩
def s_l2Number_o : RSh := ⟨(.data true tI), []⟩
theorem s_l2Number_ev (n : Nat) (x : TupT s_l2Number_i.tys) : evF ⟨tab, [], n, []⟩ Try.f269 s_l2Number_i s_l2Number_o x = s_l2Number n x := by kernel_rfl
noncomputable def s_l2Number_e (n : Nat) : Ent := ⟨269, s_l2Number_i, s_l2Number_o, fun x => s_l2Number n x⟩
theorem s_l2Number_ok (n : Nat) : EntOK Try.prog (s_l2Number_e n) ∧ Own Try.prog 269 := ent_ok tabOK0 .nil Try.func269 rfl (by kernel_rfl) (s_l2Number_ev n)
def s_l2Less_i : CSh := ⟨[(.data true (.arr 4 tI)), (.data true (.arr 4 tI))], []⟩
def s_l2Less_o : RSh := ⟨(.data true .bool), []⟩
theorem s_l2Less_ev (n : Nat) (x : TupT s_l2Less_i.tys) : evF ⟨tab, [s_l2Number_e n], n, []⟩ Try.f226 s_l2Less_i s_l2Less_o x = s_l2Less n x.1 x.2 := by kernel_rfl
noncomputable def s_l2Less_e (n : Nat) : Ent := ⟨226, s_l2Less_i, s_l2Less_o, fun x => s_l2Less n x.1 x.2⟩
theorem s_l2Less_ok (n : Nat) : EntOK Try.prog (s_l2Less_e n) ∧ Own Try.prog 226 := ent_ok tabOK0 (.cons (s_l2Number_ok n) .nil) Try.func226 rfl (by kernel_rfl) (s_l2Less_ev n)
def s_l2Own_i : CSh := ⟨[(.data false (.sl (.arr 4 tI)))], []⟩
def s_l2Own_o : RSh := ⟨(.own 0), [.rows 54 true (.arr 4 tI)]⟩
theorem s_l2Own_ev (n : Nat) (x : TupT s_l2Own_i.tys) : evF ⟨tab, [], n, []⟩ Try.f233 s_l2Own_i s_l2Own_o x = s_l2Own n x := by kernel_rfl
noncomputable def s_l2Own_e (n : Nat) : Ent := ⟨233, s_l2Own_i, s_l2Own_o, fun x => s_l2Own n x⟩
theorem s_l2Own_ok (n : Nat) : EntOK Try.prog (s_l2Own_e n) ∧ Own Try.prog 233 := ent_ok tabOK0 .nil Try.func233 rfl (by kernel_rfl) (s_l2Own_ev n)
def s_l2Put_i : CSh := ⟨[(.data false (.sl (.arr 4 tI))), (.data true (.arr 4 tI))], []⟩
def s_l2Put_o : RSh := ⟨(.own 0), [.rows 54 true (.arr 4 tI)]⟩
theorem s_l2Put_ev (n : Nat) (x : TupT s_l2Put_i.tys) : evF ⟨tab, [s_l2Less_e n, s_l2Own_e n], n, [(6, ⟨[(0, (.data false (.sl (.arr 4 tI)))), (3, (.ptr 0 [])), (5, (.data true tI))], [.var 54 (.data true (.arr 4 tI))], 0⟩)]⟩ Try.f149 s_l2Put_i s_l2Put_o x = s_l2Put n x.1 x.2 := by kernel_rfl
noncomputable def s_l2Put_e (n : Nat) : Ent := ⟨149, s_l2Put_i, s_l2Put_o, fun x => s_l2Put n x.1 x.2⟩
theorem s_l2Put_ok (n : Nat) : EntOK Try.prog (s_l2Put_e n) ∧ Own Try.prog 149 := ent_ok tabOK0 (.cons (s_l2Less_ok n) (.cons (s_l2Own_ok n) .nil)) Try.func149 rfl (by kernel_rfl) (s_l2Put_ev n)
def s_Cur_ghost'p_i : CSh := ⟨[(.ptr 0 []), (.data true tI)], [.var 125 (.data true (.pair (.sl (.int .u8)) (.pair tI (.int .u64))))]⟩
def s_Cur_ghost'p_o : RSh := ⟨(.own 1), [.var 125 (.data true (.pair (.sl (.int .u8)) (.pair tI (.int .u64)))), .rows 54 true (.arr 4 tI)]⟩
theorem s_Cur_ghost'p_ev (n : Nat) (x : TupT s_Cur_ghost'p_i.tys) : evF ⟨tab, [s_Cur_pick'p_e n, s_l2At_e n, s_l2Third_e n, s_l2Put_e n], n, [(12, ⟨[(0, (.ptr 0 [])), (1, (.data true tI)), (5, (.own 1)), (8, (.ptr 2 [])), (9, (.data true tI))], [.var 125 (.data true (.pair (.sl (.int .u8)) (.pair tI (.int .u64)))), .rows 54 true (.arr 4 tI), .var 194 (.data true (.arr 3 (.arr 4 tI)))], 1⟩), (27, ⟨[(0, (.ptr 0 [])), (1, (.data true tI)), (5, (.own 1))], [.var 125 (.data true (.pair (.sl (.int .u8)) (.pair tI (.int .u64)))), .rows 54 true (.arr 4 tI)], 1⟩)]⟩ Try.f147 s_Cur_ghost'p_i s_Cur_ghost'p_o x = s_Cur_ghost'p n x.1 x.2 := by kernel_rfl
noncomputable def s_Cur_ghost'p_e (n : Nat) : Ent := ⟨147, s_Cur_ghost'p_i, s_Cur_ghost'p_o, fun x => s_Cur_ghost'p n x.1 x.2⟩
theorem s_Cur_ghost'p_ok (n : Nat) : EntOK Try.prog (s_Cur_ghost'p_e n) ∧ Own Try.prog 147 := ent_ok tabOK0 (.cons (s_Cur_pick'p_ok n) (.cons (s_l2At_ok n) (.cons (s_l2Third_ok n) (.cons (s_l2Put_ok n) .nil)))) Try.func147 rfl (by kernel_rfl) (s_Cur_ghost'p_ev n)
def s_Cur_one'p_i : CSh := ⟨[(.ptr 0 []), (.data true tI)], [.var 125 (.data true (.pair (.sl (.int .u8)) (.pair tI (.int .u64))))]⟩
def s_Cur_one'p_o : RSh := ⟨(.data true .bool), [.var 125 (.data true (.pair (.sl (.int .u8)) (.pair tI (.int .u64))))]⟩
theorem s_Cur_one'p_ev (n : Nat) (x : TupT s_Cur_one'p_i.tys) : evF ⟨tab, [s_Cur_pick'p_e n], n, []⟩ Try.f148 s_Cur_one'p_i s_Cur_one'p_o x = s_Cur_one'p n x.1 x.2 := by kernel_rfl
noncomputable def s_Cur_one'p_e (n : Nat) : Ent := ⟨148, s_Cur_one'p_i, s_Cur_one'p_o, fun x => s_Cur_one'p n x.1 x.2⟩
theorem s_Cur_one'p_ok (n : Nat) : EntOK Try.prog (s_Cur_one'p_e n) ∧ Own Try.prog 148 := ent_ok tabOK0 (.cons (s_Cur_pick'p_ok n) .nil) Try.func148 rfl (by kernel_rfl) (s_Cur_one'p_ev n)
def s_Cur_among'pl_i : CSh := ⟨[(.ptr 0 []), (.data false (.sl tI))], [.var 125 (.data true (.pair (.sl (.int .u8)) (.pair tI (.int .u64))))]⟩
def s_Cur_among'pl_o : RSh := ⟨(.data true tI), [.var 125 (.data true (.pair (.sl (.int .u8)) (.pair tI (.int .u64))))]⟩
theorem s_Cur_among'pl_ev (n : Nat) (x : TupT s_Cur_among'pl_i.tys) : evF ⟨tab, [s_Cur_pick'p_e n], n, []⟩ Try.f131 s_Cur_among'pl_i s_Cur_among'pl_o x = s_Cur_among'pl n x.1 x.2 := by kernel_rfl
noncomputable def s_Cur_among'pl_e (n : Nat) : Ent := ⟨131, s_Cur_among'pl_i, s_Cur_among'pl_o, fun x => s_Cur_among'pl n x.1 x.2⟩
theorem s_Cur_among'pl_ok (n : Nat) : EntOK Try.prog (s_Cur_among'pl_e n) ∧ Own Try.prog 131 := ent_ok tabOK0 (.cons (s_Cur_pick'p_ok n) .nil) Try.func131 rfl (by kernel_rfl) (s_Cur_among'pl_ev n)
def s_Cur_hand'p_i : CSh := ⟨[(.ptr 0 [])], [.var 125 (.data true (.pair (.sl (.int .u8)) (.pair tI (.int .u64))))]⟩
def s_Cur_hand'p_o : RSh := ⟨(.own 1), [.var 125 (.data true (.pair (.sl (.int .u8)) (.pair tI (.int .u64)))), .rows 54 true (.arr 4 tI)]⟩
theorem s_Cur_hand'p_ev (n : Nat) (x : TupT s_Cur_hand'p_i.tys) : evF ⟨tab, [s_Cur_among'pl_e n, s_Cur_pick'p_e n, s_l2At_e n, s_l2Put_e n, s_Cur_one'p_e n], n, [(8, ⟨[(0, (.ptr 0 [])), (3, (.own 1)), (4, (.data true tI)), (5, (.data true tI))], [.var 125 (.data true (.pair (.sl (.int .u8)) (.pair tI (.int .u64)))), .rows 54 true (.arr 4 tI)], 1⟩), (23, ⟨[(0, (.ptr 0 [])), (3, (.own 1)), (4, (.data true tI)), (5, (.data true tI)), (6, (.ptr 2 [])), (7, (.data true tI))], [.var 125 (.data true (.pair (.sl (.int .u8)) (.pair tI (.int .u64)))), .rows 54 true (.arr 4 tI), .var 54 (.data true (.arr 4 tI))], 1⟩), (5000038, ⟨[(0, (.ptr 0 [])), (3, (.own 1)), (39, (.data true .bool))], [.var 125 (.data true (.pair (.sl (.int .u8)) (.pair tI (.int .u64)))), .rows 54 true (.arr 4 tI)], 1⟩)]⟩ Try.f141 s_Cur_hand'p_i s_Cur_hand'p_o x = s_Cur_hand'p n x := by kernel_rfl
noncomputable def s_Cur_hand'p_e (n : Nat) : Ent := ⟨141, s_Cur_hand'p_i, s_Cur_hand'p_o, fun x => s_Cur_hand'p n x⟩
theorem s_Cur_hand'p_ok (n : Nat) : EntOK Try.prog (s_Cur_hand'p_e n) ∧ Own Try.prog 141 := ent_ok tabOK0 (.cons (s_Cur_among'pl_ok n) (.cons (s_Cur_pick'p_ok n) (.cons (s_l2At_ok n) (.cons (s_l2Put_ok n) (.cons (s_Cur_one'p_ok n) .nil))))) Try.func141 rfl (by kernel_rfl) (s_Cur_hand'p_ev n)
def s_l2Drop_i : CSh := ⟨[(.data false (.sl (.arr 4 tI))), (.data true tI)], []⟩
def s_l2Drop_o : RSh := ⟨(.own 0), [.rows 54 true (.arr 4 tI)]⟩
theorem s_l2Drop_ev (n : Nat) (x : TupT s_l2Drop_i.tys) : evF ⟨tab, [s_l2Own_e n], n, []⟩ Try.f150 s_l2Drop_i s_l2Drop_o x = s_l2Drop n x.1 x.2 := by kernel_rfl
noncomputable def s_l2Drop_e (n : Nat) : Ent := ⟨150, s_l2Drop_i, s_l2Drop_o, fun x => s_l2Drop n x.1 x.2⟩
theorem s_l2Drop_ok (n : Nat) : EntOK Try.prog (s_l2Drop_e n) ∧ Own Try.prog 150 := ent_ok tabOK0 (.cons (s_l2Own_ok n) .nil) Try.func150 rfl (by kernel_rfl) (s_l2Drop_ev n)
def s_DrawIsGhost_i : CSh := ⟨[(.data false (.sl (.int .u8)))], []⟩
def s_DrawIsGhost_o : RSh := ⟨(.own 0), [.rows 54 true (.arr 4 tI)]⟩
theorem s_DrawIsGhost_ev (n : Nat) (x : TupT s_DrawIsGhost_i.tys) : evF ⟨tab, [s_Cur_ghost'p_e n, s_Cur_one'p_e n, s_Cur_hand'p_e n, s_Cur_pick'p_e n, s_l2Drop_e n, s_l2At_e n, s_l2Put_e n], n, [(5000016, ⟨[(3, (.ptr 0 [])), (4, (.own 1)), (20, (.data true .bool))], [.var 125 (.data false (.pair (.sl (.int .u8)) (.pair tI (.int .u64)))), .rows 54 true (.arr 4 tI)], 0⟩)]⟩ Try.f33 s_DrawIsGhost_i s_DrawIsGhost_o x = s_DrawIsGhost n x := by kernel_rfl
noncomputable def s_DrawIsGhost_e (n : Nat) : Ent := ⟨33, s_DrawIsGhost_i, s_DrawIsGhost_o, fun x => s_DrawIsGhost n x⟩
theorem s_DrawIsGhost_ok (n : Nat) : EntOK Try.prog (s_DrawIsGhost_e n) ∧ Own Try.prog 33 := ent_ok tabOK0 (.cons (s_Cur_ghost'p_ok n) (.cons (s_Cur_one'p_ok n) (.cons (s_Cur_hand'p_ok n) (.cons (s_Cur_pick'p_ok n) (.cons (s_l2Drop_ok n) (.cons (s_l2At_ok n) (.cons (s_l2Put_ok n) .nil))))))) Try.func33 rfl (by kernel_rfl) (s_DrawIsGhost_ev n)
def i_within_i : CSh := ⟨[(.data true tI), (.data true tI), (.data true tI)], []⟩
def i_within_o : RSh := ⟨(.data true .bool), []⟩
theorem i_within_ev (n : Nat) (x : TupT i_within_i.tys) : evF ⟨tab, [], n, []⟩ Try.f133 i_within_i i_within_o x = i_within n x.1 x.2.1 x.2.2 := by kernel_rfl
noncomputable def i_within_e (n : Nat) : Ent := ⟨133, i_within_i, i_within_o, fun x => i_within n x.1 x.2.1 x.2.2⟩
theorem i_within_ok (n : Nat) : EntOK Try.prog (i_within_e n) ∧ Own Try.prog 133 := ent_ok tabOK0 .nil Try.func133 rfl (by kernel_rfl) (i_within_ev n)
def i_allWithin_1'pp_i : CSh := ⟨[(.data true tI), (.ptr 0 []), (.ptr 1 [])], [.var 3 (.data true tI), .var 3 (.data true tI)]⟩
def i_allWithin_1'pp_o : RSh := ⟨(.data true .bool), [.var 3 (.data true tI), .var 3 (.data true tI)]⟩
theorem i_allWithin_1'pp_ev (n : Nat) (x : TupT i_allWithin_1'pp_i.tys) : evF ⟨tab, [i_within_e n], n, []⟩ Try.f250 i_allWithin_1'pp_i i_allWithin_1'pp_o x = i_allWithin_1'pp n x.1 x.2.1 x.2.2 := by kernel_rfl
noncomputable def i_allWithin_1'pp_e (n : Nat) : Ent := ⟨250, i_allWithin_1'pp_i, i_allWithin_1'pp_o, fun x => i_allWithin_1'pp n x.1 x.2.1 x.2.2⟩
theorem i_allWithin_1'pp_ok (n : Nat) : EntOK Try.prog (i_allWithin_1'pp_e n) ∧ Own Try.prog 250 := ent_ok tabOK0 (.cons (i_within_ok n) .nil) Try.func250 rfl (by kernel_rfl) (i_allWithin_1'pp_ev n)
def slices_IndexFunc_Sint_int_'l_i_allWithin_1pp_i : CSh := ⟨[(.data false (.sl tI)), (.clo 250 (.tcons (.ptr 0 []) (.tcons (.ptr 1 []) .tnil)))], [.var 3 (.data true tI), .var 3 (.data true tI)]⟩
def slices_IndexFunc_Sint_int_'l_i_allWithin_1pp_o : RSh := ⟨(.data true tI), [.var 3 (.data true tI), .var 3 (.data true tI)]⟩
theorem slices_IndexFunc_Sint_int_'l_i_allWithin_1pp_ev (n : Nat) (x : TupT slices_IndexFunc_Sint_int_'l_i_allWithin_1pp_i.tys) : evF ⟨tab, [i_allWithin_1'pp_e n], n, [(6, ⟨[(0, (.data false (.sl tI))), (1, (.clo 250 (.tcons (.ptr 0 []) (.tcons (.ptr 1 []) .tnil)))), (7, (.data true tI)), (8, (.data true tI))], [.var 3 (.data true tI), .var 3 (.data true tI)], 2⟩)]⟩ Try.f279 slices_IndexFunc_Sint_int_'l_i_allWithin_1pp_i slices_IndexFunc_Sint_int_'l_i_allWithin_1pp_o x = slices_IndexFunc_Sint_int_'l_i_allWithin_1pp n x.1 x.2.1 x.2.2 := by kernel_rfl
noncomputable def slices_IndexFunc_Sint_int_'l_i_allWithin_1pp_e (n : Nat) : Ent := ⟨279, slices_IndexFunc_Sint_int_'l_i_allWithin_1pp_i, slices_IndexFunc_Sint_int_'l_i_allWithin_1pp_o, fun x => slices_IndexFunc_Sint_int_'l_i_allWithin_1pp n x.1 x.2.1 x.2.2⟩
theorem slices_IndexFunc_Sint_int_'l_i_allWithin_1pp_ok (n : Nat) : EntOK Try.prog (slices_IndexFunc_Sint_int_'l_i_allWithin_1pp_e n) ∧ Own Try.prog 279 := ent_ok tabOK0 (.cons (i_allWithin_1'pp_ok n) .nil) Try.func279 rfl (by kernel_rfl) (slices_IndexFunc_Sint_int_'l_i_allWithin_1pp_ev n)
def slices_ContainsFunc_Sint_int_'l_i_allWithin_1pp_i : CSh := ⟨[(.data false (.sl tI)), (.clo 250 (.tcons (.ptr 0 []) (.tcons (.ptr 1 []) .tnil)))], [.var 3 (.data true tI), .var 3 (.data true tI)]⟩
def slices_ContainsFunc_Sint_int_'l_i_allWithin_1pp_o : RSh := ⟨(.data true .bool), [.var 3 (.data true tI), .var 3 (.data true tI)]⟩
theorem slices_ContainsFunc_Sint_int_'l_i_allWithin_1pp_ev (n : Nat) (x : TupT slices_ContainsFunc_Sint_int_'l_i_allWithin_1pp_i.tys) : evF ⟨tab, [slices_IndexFunc_Sint_int_'l_i_allWithin_1pp_e n], n, []⟩ Try.f249 slices_ContainsFunc_Sint_int_'l_i_allWithin_1pp_i slices_ContainsFunc_Sint_int_'l_i_allWithin_1pp_o x = slices_ContainsFunc_Sint_int_'l_i_allWithin_1pp n x.1 x.2.1 x.2.2 := by kernel_rfl
noncomputable def slices_ContainsFunc_Sint_int_'l_i_allWithin_1pp_e (n : Nat) : Ent := ⟨249, slices_ContainsFunc_Sint_int_'l_i_allWithin_1pp_i, slices_ContainsFunc_Sint_int_'l_i_allWithin_1pp_o, fun x => slices_ContainsFunc_Sint_int_'l_i_allWithin_1pp n x.1 x.2.1 x.2.2⟩
theorem slices_ContainsFunc_Sint_int_'l_i_allWithin_1pp_ok (n : Nat) : EntOK Try.prog (slices_ContainsFunc_Sint_int_'l_i_allWithin_1pp_e n) ∧ Own Try.prog 249 := ent_ok tabOK0 (.cons (slices_IndexFunc_Sint_int_'l_i_allWithin_1pp_ok n) .nil) Try.func249 rfl (by kernel_rfl) (slices_ContainsFunc_Sint_int_'l_i_allWithin_1pp_ev n)
def i_allWithin_i : CSh := ⟨[(.data false (.sl tI)), (.data true tI), (.data true tI)], []⟩
def i_allWithin_o : RSh := ⟨(.data true .bool), []⟩
theorem i_allWithin_ev (n : Nat) (x : TupT i_allWithin_i.tys) : evF ⟨tab, [slices_ContainsFunc_Sint_int_'l_i_allWithin_1pp_e n], n, []⟩ Try.f179 i_allWithin_i i_allWithin_o x = i_allWithin n x.1 x.2.1 x.2.2 := by kernel_rfl
noncomputable def i_allWithin_e (n : Nat) : Ent := ⟨179, i_allWithin_i, i_allWithin_o, fun x => i_allWithin n x.1 x.2.1 x.2.2⟩
theorem i_allWithin_ok (n : Nat) : EntOK Try.prog (i_allWithin_e n) ∧ Own Try.prog 179 := ent_ok tabOK0 (.cons (slices_ContainsFunc_Sint_int_'l_i_allWithin_1pp_ok n) .nil) Try.func179 rfl (by kernel_rfl) (i_allWithin_ev n)
def i_IsCard_i : CSh := ⟨[(.data true (.arr 4 tI))], []⟩
def i_IsCard_o : RSh := ⟨(.data true .bool), []⟩
theorem i_IsCard_ev (n : Nat) (x : TupT i_IsCard_i.tys) : evF ⟨tab, [i_allWithin_e n], n, []⟩ Try.f99 i_IsCard_i i_IsCard_o x = i_IsCard n x := by kernel_rfl
noncomputable def i_IsCard_e (n : Nat) : Ent := ⟨99, i_IsCard_i, i_IsCard_o, fun x => i_IsCard n x⟩
theorem i_IsCard_ok (n : Nat) : EntOK Try.prog (i_IsCard_e n) ∧ Own Try.prog 99 := ent_ok tabOK0 (.cons (i_allWithin_ok n) .nil) Try.func99 rfl (by kernel_rfl) (i_IsCard_ev n)
def i_number_i : CSh := ⟨[(.data true (.arr 4 tI))], []⟩
def i_number_o : RSh := ⟨(.data true tI), []⟩
theorem i_number_ev (n : Nat) (x : TupT i_number_i.tys) : evF ⟨tab, [], n, [(8, ⟨[(3, (.data true tI)), (6, (.data true (.arr 4 tI))), (7, (.data true tI))], [], 0⟩)]⟩ Try.f155 i_number_i i_number_o x = i_number n x := by kernel_rfl
noncomputable def i_number_e (n : Nat) : Ent := ⟨155, i_number_i, i_number_o, fun x => i_number n x⟩
theorem i_number_ok (n : Nat) : EntOK Try.prog (i_number_e n) ∧ Own Try.prog 155 := ent_ok tabOK0 .nil Try.func155 rfl (by kernel_rfl) (i_number_ev n)
def i_IsHand_i : CSh := ⟨[(.data false (.sl (.arr 4 tI)))], []⟩
def i_IsHand_o : RSh := ⟨(.data true .bool), []⟩
theorem i_IsHand_ev (n : Nat) (x : TupT i_IsHand_i.tys) : evF ⟨tab, [i_IsCard_e n, i_number_e n], n, [(6, ⟨[(0, (.data false (.sl (.arr 4 tI)))), (5, (.data false (.sl (.arr 4 tI)))), (6, (.data true tI)), (7, (.data true tI))], [], 0⟩)]⟩ Try.f123 i_IsHand_i i_IsHand_o x = i_IsHand n x := by kernel_rfl
noncomputable def i_IsHand_e (n : Nat) : Ent := ⟨123, i_IsHand_i, i_IsHand_o, fun x => i_IsHand n x⟩
theorem i_IsHand_ok (n : Nat) : EntOK Try.prog (i_IsHand_e n) ∧ Own Try.prog 123 := ent_ok tabOK0 (.cons (i_IsCard_ok n) (.cons (i_number_ok n) .nil)) Try.func123 rfl (by kernel_rfl) (i_IsHand_ev n)
def i_areSix_i : CSh := ⟨[(.data false (.sl (.arr 4 tI)))], []⟩
def i_areSix_o : RSh := ⟨(.data true .bool), []⟩
theorem i_areSix_ev (n : Nat) (x : TupT i_areSix_i.tys) : evF ⟨tab, [i_IsHand_e n], n, []⟩ Try.f152 i_areSix_i i_areSix_o x = i_areSix n x := by kernel_rfl
noncomputable def i_areSix_e (n : Nat) : Ent := ⟨152, i_areSix_i, i_areSix_o, fun x => i_areSix n x⟩
theorem i_areSix_ok (n : Nat) : EntOK Try.prog (i_areSix_e n) ∧ Own Try.prog 152 := ent_ok tabOK0 (.cons (i_IsHand_ok n) .nil) Try.func152 rfl (by kernel_rfl) (i_areSix_ev n)
def i_third_i : CSh := ⟨[(.data true (.arr 4 tI)), (.data true (.arr 4 tI))], []⟩
def i_third_o : RSh := ⟨(.data true (.arr 4 tI)), []⟩
theorem i_third_ev (n : Nat) (x : TupT i_third_i.tys) : evF ⟨tab, [], n, [(8, ⟨[(2, (.ptr 0 [])), (3, (.ptr 1 [])), (4, (.ptr 2 [])), (5, (.ptr 3 [])), (8, (.data true tI))], [.var 54 (.data true (.arr 4 tI)), .var 54 (.data true (.arr 4 tI)), .var 54 (.data true (.arr 4 tI)), .var 54 (.data true (.arr 4 tI))], 0⟩)]⟩ Try.f166 i_third_i i_third_o x = i_third n x.1 x.2 := by kernel_rfl
noncomputable def i_third_e (n : Nat) : Ent := ⟨166, i_third_i, i_third_o, fun x => i_third n x.1 x.2⟩
theorem i_third_ok (n : Nat) : EntOK Try.prog (i_third_e n) ∧ Own Try.prog 166 := ent_ok tabOK0 .nil Try.func166 rfl (by kernel_rfl) (i_third_ev n)
def slices_Clone_SA4_A4__i : CSh := ⟨[(.data false (.sl (.arr 4 tI)))], []⟩
def slices_Clone_SA4_A4__o : RSh := ⟨(.own 0), [.rows 54 true (.arr 4 tI)]⟩
theorem slices_Clone_SA4_A4__ev (n : Nat) (x : TupT slices_Clone_SA4_A4__i.tys) : evF ⟨tab, [], n, []⟩ Try.f255 slices_Clone_SA4_A4__i slices_Clone_SA4_A4__o x = slices_Clone_SA4_A4_ n x := by kernel_rfl
noncomputable def slices_Clone_SA4_A4__e (n : Nat) : Ent := ⟨255, slices_Clone_SA4_A4__i, slices_Clone_SA4_A4__o, fun x => slices_Clone_SA4_A4_ n x⟩
theorem slices_Clone_SA4_A4__ok (n : Nat) : EntOK Try.prog (slices_Clone_SA4_A4__e n) ∧ Own Try.prog 255 := ent_ok tabOK0 .nil Try.func255 rfl (by kernel_rfl) (slices_Clone_SA4_A4__ev n)
def i_without_1'p_i : CSh := ⟨[(.data true (.arr 4 tI)), (.ptr 0 [])], [.var 54 (.data true (.arr 4 tI))]⟩
def i_without_1'p_o : RSh := ⟨(.data true .bool), [.var 54 (.data true (.arr 4 tI))]⟩
theorem i_without_1'p_ev (n : Nat) (x : TupT i_without_1'p_i.tys) : evF ⟨tab, [], n, []⟩ Try.f275 i_without_1'p_i i_without_1'p_o x = i_without_1'p n x.1 x.2 := by kernel_rfl
noncomputable def i_without_1'p_e (n : Nat) : Ent := ⟨275, i_without_1'p_i, i_without_1'p_o, fun x => i_without_1'p n x.1 x.2⟩
theorem i_without_1'p_ok (n : Nat) : EntOK Try.prog (i_without_1'p_e n) ∧ Own Try.prog 275 := ent_ok tabOK0 .nil Try.func275 rfl (by kernel_rfl) (i_without_1'p_ev n)
def slices_IndexFunc_SA4_A4_'l_i_without_1p_i : CSh := ⟨[(.data false (.sl (.arr 4 tI))), (.clo 275 (.tcons (.ptr 0 []) .tnil))], [.var 54 (.data true (.arr 4 tI))]⟩
def slices_IndexFunc_SA4_A4_'l_i_without_1p_o : RSh := ⟨(.data true tI), [.var 54 (.data true (.arr 4 tI))]⟩
theorem slices_IndexFunc_SA4_A4_'l_i_without_1p_ev (n : Nat) (x : TupT slices_IndexFunc_SA4_A4_'l_i_without_1p_i.tys) : evF ⟨tab, [i_without_1'p_e n], n, [(6, ⟨[(0, (.data false (.sl (.arr 4 tI)))), (1, (.clo 275 (.tcons (.ptr 0 []) .tnil))), (7, (.data true tI)), (8, (.data true tI))], [.var 54 (.data true (.arr 4 tI))], 1⟩)]⟩ Try.f276 slices_IndexFunc_SA4_A4_'l_i_without_1p_i slices_IndexFunc_SA4_A4_'l_i_without_1p_o x = slices_IndexFunc_SA4_A4_'l_i_without_1p n x.1 x.2 := by kernel_rfl
noncomputable def slices_IndexFunc_SA4_A4_'l_i_without_1p_e (n : Nat) : Ent := ⟨276, slices_IndexFunc_SA4_A4_'l_i_without_1p_i, slices_IndexFunc_SA4_A4_'l_i_without_1p_o, fun x => slices_IndexFunc_SA4_A4_'l_i_without_1p n x.1 x.2⟩
theorem slices_IndexFunc_SA4_A4_'l_i_without_1p_ok (n : Nat) : EntOK Try.prog (slices_IndexFunc_SA4_A4_'l_i_without_1p_e n) ∧ Own Try.prog 276 := ent_ok tabOK0 (.cons (i_without_1'p_ok n) .nil) Try.func276 rfl (by kernel_rfl) (slices_IndexFunc_SA4_A4_'l_i_without_1p_ev n)
def slices_DeleteFunc_SA4_A4_'o_i_without_1p_i : CSh := ⟨[(.own 0), (.clo 275 (.tcons (.ptr 1 []) .tnil))], [.rows 54 true (.arr 4 tI), .var 54 (.data true (.arr 4 tI))]⟩
def slices_DeleteFunc_SA4_A4_'o_i_without_1p_o : RSh := ⟨(.own 2), [.gone, .var 54 (.data true (.arr 4 tI)), .rows 54 true (.arr 4 tI)]⟩
theorem slices_DeleteFunc_SA4_A4_'o_i_without_1p_ev (n : Nat) (x : TupT slices_DeleteFunc_SA4_A4_'o_i_without_1p_i.tys) : evF ⟨tab, [slices_IndexFunc_SA4_A4_'l_i_without_1p_e n, i_without_1'p_e n], n, [(16, ⟨[(0, (.own 0)), (1, (.clo 275 (.tcons (.ptr 1 []) .tnil))), (5, (.data true tI)), (6, (.data true tI))], [.rows 54 true (.arr 4 tI), .var 54 (.data true (.arr 4 tI))], 2⟩)]⟩ Try.f274 slices_DeleteFunc_SA4_A4_'o_i_without_1p_i slices_DeleteFunc_SA4_A4_'o_i_without_1p_o x = slices_DeleteFunc_SA4_A4_'o_i_without_1p n x.1 x.2 := by kernel_rfl
noncomputable def slices_DeleteFunc_SA4_A4_'o_i_without_1p_e (n : Nat) : Ent := ⟨274, slices_DeleteFunc_SA4_A4_'o_i_without_1p_i, slices_DeleteFunc_SA4_A4_'o_i_without_1p_o, fun x => slices_DeleteFunc_SA4_A4_'o_i_without_1p n x.1 x.2⟩
theorem slices_DeleteFunc_SA4_A4_'o_i_without_1p_ok (n : Nat) : EntOK Try.prog (slices_DeleteFunc_SA4_A4_'o_i_without_1p_e n) ∧ Own Try.prog 274 := ent_ok tabOK0 (.cons (slices_IndexFunc_SA4_A4_'l_i_without_1p_ok n) (.cons (i_without_1'p_ok n) .nil)) Try.func274 rfl (by kernel_rfl) (slices_DeleteFunc_SA4_A4_'o_i_without_1p_ev n)
def i_without_i : CSh := ⟨[(.data false (.sl (.arr 4 tI))), (.data true (.arr 4 tI))], []⟩
def i_without_o : RSh := ⟨(.own 0), [.rows 54 true (.arr 4 tI)]⟩
theorem i_without_ev (n : Nat) (x : TupT i_without_i.tys) : evF ⟨tab, [slices_Clone_SA4_A4__e n, slices_DeleteFunc_SA4_A4_'o_i_without_1p_e n], n, []⟩ Try.f242 i_without_i i_without_o x = i_without n x.1 x.2 := by kernel_rfl
noncomputable def i_without_e (n : Nat) : Ent := ⟨242, i_without_i, i_without_o, fun x => i_without n x.1 x.2⟩
theorem i_without_ok (n : Nat) : EntOK Try.prog (i_without_e n) ∧ Own Try.prog 242 := ent_ok tabOK0 (.cons (slices_Clone_SA4_A4__ok n) (.cons (slices_DeleteFunc_SA4_A4_'o_i_without_1p_ok n) .nil)) Try.func242 rfl (by kernel_rfl) (i_without_ev n)
def i_isLine_i : CSh := ⟨[(.data true (.arr 4 tI)), (.data true (.arr 4 tI)), (.data true (.arr 4 tI))], []⟩
def i_isLine_o : RSh := ⟨(.data true .bool), []⟩
theorem i_isLine_ev (n : Nat) (x : TupT i_isLine_i.tys) : evF ⟨tab, [i_third_e n], n, []⟩ Try.f169 i_isLine_i i_isLine_o x = i_isLine n x.1 x.2.1 x.2.2 := by kernel_rfl
noncomputable def i_isLine_e (n : Nat) : Ent := ⟨169, i_isLine_i, i_isLine_o, fun x => i_isLine n x.1 x.2.1 x.2.2⟩
theorem i_isLine_ok (n : Nat) : EntOK Try.prog (i_isLine_e n) ∧ Own Try.prog 169 := ent_ok tabOK0 (.cons (i_third_ok n) .nil) Try.func169 rfl (by kernel_rfl) (i_isLine_ev n)
def i_isGhost_i : CSh := ⟨[(.data false (.sl (.arr 4 tI)))], []⟩
def i_isGhost_o : RSh := ⟨(.data true .bool), []⟩
theorem i_isGhost_ev (n : Nat) (x : TupT i_isGhost_i.tys) : evF ⟨tab, [i_third_e n, i_without_e n, i_isLine_e n], n, [(8, ⟨[(0, (.data false (.sl (.arr 4 tI)))), (3, (.data true .bool)), (4, (.data true tI))], [], 0⟩), (23, ⟨[(0, (.data false (.sl (.arr 4 tI)))), (3, (.data true .bool)), (4, (.data true tI)), (5, (.own 0)), (6, (.data true tI))], [.rows 54 true (.arr 4 tI)], 0⟩), (43, ⟨[(0, (.data false (.sl (.arr 4 tI)))), (3, (.data true .bool)), (4, (.data true tI)), (5, (.own 0)), (7, (.ptr 1 [])), (8, (.data true tI))], [.rows 54 true (.arr 4 tI), .var 54 (.data true (.arr 4 tI))], 0⟩)]⟩ Try.f153 i_isGhost_i i_isGhost_o x = i_isGhost n x := by kernel_rfl
noncomputable def i_isGhost_e (n : Nat) : Ent := ⟨153, i_isGhost_i, i_isGhost_o, fun x => i_isGhost n x⟩
theorem i_isGhost_ok (n : Nat) : EntOK Try.prog (i_isGhost_e n) ∧ Own Try.prog 153 := ent_ok tabOK0 (.cons (i_third_ok n) (.cons (i_without_ok n) (.cons (i_isLine_ok n) .nil))) Try.func153 rfl (by kernel_rfl) (i_isGhost_ev n)
def i_IsGhost_i : CSh := ⟨[(.data false (.sl (.arr 4 tI)))], []⟩
def i_IsGhost_o : RSh := ⟨(.tcons (.data true .bool) (.tcons (.data true .bool) .tnil)), []⟩
theorem i_IsGhost_ev (n : Nat) (x : TupT i_IsGhost_i.tys) : evF ⟨tab, [i_areSix_e n, i_isGhost_e n], n, []⟩ Try.f34 i_IsGhost_i i_IsGhost_o x = i_IsGhost n x := by kernel_rfl
noncomputable def i_IsGhost_e (n : Nat) : Ent := ⟨34, i_IsGhost_i, i_IsGhost_o, fun x => i_IsGhost n x⟩
theorem i_IsGhost_ok (n : Nat) : EntOK Try.prog (i_IsGhost_e n) ∧ Own Try.prog 34 := ent_ok tabOK0 (.cons (i_areSix_ok n) (.cons (i_isGhost_ok n) .nil)) Try.func34 rfl (by kernel_rfl) (i_IsGhost_ev n)
def s_l1In_i : CSh := ⟨[(.data true tI), (.data true tI), (.data true tI)], []⟩
def s_l1In_o : RSh := ⟨(.data true .bool), []⟩
theorem s_l1In_ev (n : Nat) (x : TupT s_l1In_i.tys) : evF ⟨tab, [], n, []⟩ Try.f134 s_l1In_i s_l1In_o x = s_l1In n x.1 x.2.1 x.2.2 := by kernel_rfl
noncomputable def s_l1In_e (n : Nat) : Ent := ⟨134, s_l1In_i, s_l1In_o, fun x => s_l1In n x.1 x.2.1 x.2.2⟩
theorem s_l1In_ok (n : Nat) : EntOK Try.prog (s_l1In_e n) ∧ Own Try.prog 134 := ent_ok tabOK0 .nil Try.func134 rfl (by kernel_rfl) (s_l1In_ev n)
def s_l2Card_i : CSh := ⟨[(.data true (.arr 4 tI))], []⟩
def s_l2Card_o : RSh := ⟨(.data true .bool), []⟩
theorem s_l2Card_ev (n : Nat) (x : TupT s_l2Card_i.tys) : evF ⟨tab, [s_l1In_e n], n, [(6, ⟨[(1, (.ptr 0 [])), (3, (.data true tI))], [.var 54 (.data true (.arr 4 tI))], 0⟩)]⟩ Try.f214 s_l2Card_i s_l2Card_o x = s_l2Card n x := by kernel_rfl
noncomputable def s_l2Card_e (n : Nat) : Ent := ⟨214, s_l2Card_i, s_l2Card_o, fun x => s_l2Card n x⟩
theorem s_l2Card_ok (n : Nat) : EntOK Try.prog (s_l2Card_e n) ∧ Own Try.prog 214 := ent_ok tabOK0 (.cons (s_l1In_ok n) .nil) Try.func214 rfl (by kernel_rfl) (s_l2Card_ev n)
def s_l2Hand_i : CSh := ⟨[(.data false (.sl (.arr 4 tI)))], []⟩
def s_l2Hand_o : RSh := ⟨(.data true .bool), []⟩
theorem s_l2Hand_ev (n : Nat) (x : TupT s_l2Hand_i.tys) : evF ⟨tab, [s_l2Card_e n, s_l2Less_e n], n, [(6, ⟨[(0, (.data false (.sl (.arr 4 tI)))), (3, (.data true tI))], [], 0⟩)]⟩ Try.f127 s_l2Hand_i s_l2Hand_o x = s_l2Hand n x := by kernel_rfl
noncomputable def s_l2Hand_e (n : Nat) : Ent := ⟨127, s_l2Hand_i, s_l2Hand_o, fun x => s_l2Hand n x⟩
theorem s_l2Hand_ok (n : Nat) : EntOK Try.prog (s_l2Hand_e n) ∧ Own Try.prog 127 := ent_ok tabOK0 (.cons (s_l2Card_ok n) (.cons (s_l2Less_ok n) .nil)) Try.func127 rfl (by kernel_rfl) (s_l2Hand_ev n)
def s_l2Line_i : CSh := ⟨[(.data true (.arr 4 tI)), (.data true (.arr 4 tI)), (.data true (.arr 4 tI))], []⟩
def s_l2Line_o : RSh := ⟨(.data true .bool), []⟩
theorem s_l2Line_ev (n : Nat) (x : TupT s_l2Line_i.tys) : evF ⟨tab, [s_l2Third_e n], n, []⟩ Try.f243 s_l2Line_i s_l2Line_o x = s_l2Line n x.1 x.2.1 x.2.2 := by kernel_rfl
noncomputable def s_l2Line_e (n : Nat) : Ent := ⟨243, s_l2Line_i, s_l2Line_o, fun x => s_l2Line n x.1 x.2.1 x.2.2⟩
theorem s_l2Line_ok (n : Nat) : EntOK Try.prog (s_l2Line_e n) ∧ Own Try.prog 243 := ent_ok tabOK0 (.cons (s_l2Third_ok n) .nil) Try.func243 rfl (by kernel_rfl) (s_l2Line_ev n)
def s_l10Thirds_i : CSh := ⟨[(.data false (.sl (.arr 4 tI))), (.data false (.sl (.arr 4 tI)))], []⟩
def s_l10Thirds_o : RSh := ⟨(.data true .bool), []⟩
theorem s_l10Thirds_ev (n : Nat) (go : TupT s_l10Thirds_i.tys → Option (TupT s_l10Thirds_o.tys)) (x : TupT s_l10Thirds_i.tys) : evF ⟨tab, [⟨154, s_l10Thirds_i, s_l10Thirds_o, go⟩, s_l2Line_e n, s_l2Drop_e n, s_l2Own_e n, s_l2Third_e n], n, [(14, ⟨[(0, (.data false (.sl (.arr 4 tI)))), (1, (.data false (.sl (.arr 4 tI)))), (5, (.data true tI))], [], 0⟩)]⟩ Try.f154 s_l10Thirds_i s_l10Thirds_o x = s_l10Thirds_R n go x := by kernel_rfl
noncomputable def s_l10Thirds_e (n : Nat) : Ent := ⟨154, s_l10Thirds_i, s_l10Thirds_o, fun x => s_l10Thirds n x.1 x.2⟩
theorem s_l10Thirds_ok (n : Nat) : EntOK Try.prog (s_l10Thirds_e n) ∧ Own Try.prog 154 := ent_rec tabOK0 (.cons (s_l2Line_ok n) (.cons (s_l2Drop_ok n) (.cons (s_l2Own_ok n) (.cons (s_l2Third_ok n) .nil)))) Try.func154 rfl (by kernel_rfl) (s_l10Thirds_ev n) n
def s_IsGhost_i : CSh := ⟨[(.data false (.sl (.arr 4 tI)))], []⟩
def s_IsGhost_o : RSh := ⟨(.tcons (.data true .bool) (.tcons (.data true .bool) .tnil)), []⟩
theorem s_IsGhost_ev (n : Nat) (x : TupT s_IsGhost_i.tys) : evF ⟨tab, [s_l2Hand_e n, s_l10Thirds_e n], n, []⟩ Try.f35 s_IsGhost_i s_IsGhost_o x = s_IsGhost n x := by kernel_rfl
noncomputable def s_IsGhost_e (n : Nat) : Ent := ⟨35, s_IsGhost_i, s_IsGhost_o, fun x => s_IsGhost n x⟩
theorem s_IsGhost_ok (n : Nat) : EntOK Try.prog (s_IsGhost_e n) ∧ Own Try.prog 35 := ent_ok tabOK0 (.cons (s_l2Hand_ok n) (.cons (s_l10Thirds_ok n) .nil)) Try.func35 rfl (by kernel_rfl) (s_IsGhost_ev n)
def i_sum_i : CSh := ⟨[(.data false (.sl (.arr 4 tI)))], []⟩
def i_sum_o : RSh := ⟨(.data true (.arr 4 tI)), []⟩
theorem i_sum_ev (n : Nat) (x : TupT i_sum_i.tys) : evF ⟨tab, [], n, [(8, ⟨[(2, (.ptr 0 [])), (3, (.ptr 1 [])), (9, (.data false (.sl (.arr 4 tI)))), (10, (.data true tI)), (11, (.data true tI))], [.var 54 (.data true (.arr 4 tI)), .var 54 (.data true (.arr 4 tI))], 0⟩), (22, ⟨[(2, (.ptr 0 [])), (3, (.ptr 1 [])), (9, (.data false (.sl (.arr 4 tI)))), (10, (.data true tI)), (11, (.data true tI)), (15, (.data true (.arr 4 tI))), (16, (.data true tI))], [.var 54 (.data true (.arr 4 tI)), .var 54 (.data true (.arr 4 tI))], 0⟩)]⟩ Try.f156 i_sum_i i_sum_o x = i_sum n x := by kernel_rfl
noncomputable def i_sum_e (n : Nat) : Ent := ⟨156, i_sum_i, i_sum_o, fun x => i_sum n x⟩
theorem i_sum_ok (n : Nat) : EntOK Try.prog (i_sum_e n) ∧ Own Try.prog 156 := ent_ok tabOK0 .nil Try.func156 rfl (by kernel_rfl) (i_sum_ev n)
def i_SumGhost_i : CSh := ⟨[(.data false (.sl (.arr 4 tI)))], []⟩
def i_SumGhost_o : RSh := ⟨(.tcons (.data true .bool) (.tcons (.data true .bool) .tnil)), []⟩
theorem i_SumGhost_ev (n : Nat) (x : TupT i_SumGhost_i.tys) : evF ⟨tab, [i_areSix_e n, i_sum_e n, i_number_e n], n, []⟩ Try.f36 i_SumGhost_i i_SumGhost_o x = i_SumGhost n x := by kernel_rfl
noncomputable def i_SumGhost_e (n : Nat) : Ent := ⟨36, i_SumGhost_i, i_SumGhost_o, fun x => i_SumGhost n x⟩
theorem i_SumGhost_ok (n : Nat) : EntOK Try.prog (i_SumGhost_e n) ∧ Own Try.prog 36 := ent_ok tabOK0 (.cons (i_areSix_ok n) (.cons (i_sum_ok n) (.cons (i_number_ok n) .nil))) Try.func36 rfl (by kernel_rfl) (i_SumGhost_ev n)
def s_l2Sum_i : CSh := ⟨[(.data false (.sl (.arr 4 tI)))], []⟩
def s_l2Sum_o : RSh := ⟨(.data true (.arr 4 tI)), []⟩
theorem s_l2Sum_ev (n : Nat) (x : TupT s_l2Sum_i.tys) : evF ⟨tab, [], n, [(8, ⟨[(0, (.data false (.sl (.arr 4 tI)))), (2, (.ptr 0 [])), (3, (.ptr 1 [])), (4, (.data true tI))], [.var 54 (.data true (.arr 4 tI)), .var 54 (.data true (.arr 4 tI))], 0⟩), (20, ⟨[(0, (.data false (.sl (.arr 4 tI)))), (2, (.ptr 0 [])), (3, (.ptr 1 [])), (4, (.data true tI)), (5, (.data true tI))], [.var 54 (.data true (.arr 4 tI)), .var 54 (.data true (.arr 4 tI))], 0⟩)]⟩ Try.f157 s_l2Sum_i s_l2Sum_o x = s_l2Sum n x := by kernel_rfl
noncomputable def s_l2Sum_e (n : Nat) : Ent := ⟨157, s_l2Sum_i, s_l2Sum_o, fun x => s_l2Sum n x⟩
theorem s_l2Sum_ok (n : Nat) : EntOK Try.prog (s_l2Sum_e n) ∧ Own Try.prog 157 := ent_ok tabOK0 .nil Try.func157 rfl (by kernel_rfl) (s_l2Sum_ev n)
def s_SumGhost_i : CSh := ⟨[(.data false (.sl (.arr 4 tI)))], []⟩
def s_SumGhost_o : RSh := ⟨(.tcons (.data true .bool) (.tcons (.data true .bool) .tnil)), []⟩
theorem s_SumGhost_ev (n : Nat) (x : TupT s_SumGhost_i.tys) : evF ⟨tab, [s_l2Hand_e n, s_l2Sum_e n], n, []⟩ Try.f37 s_SumGhost_i s_SumGhost_o x = s_SumGhost n x := by kernel_rfl
noncomputable def s_SumGhost_e (n : Nat) : Ent := ⟨37, s_SumGhost_i, s_SumGhost_o, fun x => s_SumGhost n x⟩
theorem s_SumGhost_ok (n : Nat) : EntOK Try.prog (s_SumGhost_e n) ∧ Own Try.prog 37 := ent_ok tabOK0 (.cons (s_l2Hand_ok n) (.cons (s_l2Sum_ok n) .nil)) Try.func37 rfl (by kernel_rfl) (s_SumGhost_ev n)
def s_DrawGhostsIn_i : CSh := ⟨[(.data false (.sl (.int .u8)))], []⟩
def s_DrawGhostsIn_o : RSh := ⟨(.own 0), [.rows 54 true (.arr 4 tI)]⟩
theorem s_DrawGhostsIn_ev (n : Nat) (x : TupT s_DrawGhostsIn_i.tys) : evF ⟨tab, [s_Cur_among'pl_e n, s_Cur_one'p_e n, s_Cur_hand'p_e n, s_Cur_ghost'p_e n], n, []⟩ Try.f38 s_DrawGhostsIn_i s_DrawGhostsIn_o x = s_DrawGhostsIn n x := by kernel_rfl
noncomputable def s_DrawGhostsIn_e (n : Nat) : Ent := ⟨38, s_DrawGhostsIn_i, s_DrawGhostsIn_o, fun x => s_DrawGhostsIn n x⟩
theorem s_DrawGhostsIn_ok (n : Nat) : EntOK Try.prog (s_DrawGhostsIn_e n) ∧ Own Try.prog 38 := ent_ok tabOK0 (.cons (s_Cur_among'pl_ok n) (.cons (s_Cur_one'p_ok n) (.cons (s_Cur_hand'p_ok n) (.cons (s_Cur_ghost'p_ok n) .nil)))) Try.func38 rfl (by kernel_rfl) (s_DrawGhostsIn_ev n)
def i_at_i : CSh := ⟨[(.data false (.sl (.arr 4 tI))), (.data false (.sl tI))], []⟩
def i_at_o : RSh := ⟨(.own 0), [.rows 54 true (.arr 4 tI)]⟩
theorem i_at_ev (n : Nat) (x : TupT i_at_i.tys) : evF ⟨tab, [], n, [(8, ⟨[(0, (.data false (.sl (.arr 4 tI)))), (5, (.own 0)), (9, (.data false (.sl tI))), (10, (.data true tI)), (11, (.data true tI))], [.rows 54 true (.arr 4 tI)], 0⟩)]⟩ Try.f160 i_at_i i_at_o x = i_at n x.1 x.2 := by kernel_rfl
noncomputable def i_at_e (n : Nat) : Ent := ⟨160, i_at_i, i_at_o, fun x => i_at n x.1 x.2⟩
theorem i_at_ok (n : Nat) : EntOK Try.prog (i_at_e n) ∧ Own Try.prog 160 := ent_ok tabOK0 .nil Try.func160 rfl (by kernel_rfl) (i_at_ev n)
def i_GhostsIn_1'lpp_ko_i : CSh := ⟨[(.data false (.sl tI)), (.ptr 0 []), (.ptr 1 [])], [.var 24 (.data true (.sl (.arr 4 tI))), .var 50 (.own 2), .rows 53 true (.arr 6 tI)]⟩
def i_GhostsIn_1'lpp_ko_o : RSh := ⟨.tnil, [.var 24 (.data true (.sl (.arr 4 tI))), .var 50 (.own 3), .gone, .rows 53 true (.arr 6 tI)]⟩
theorem i_GhostsIn_1'lpp_ko_ev (n : Nat) (x : TupT i_GhostsIn_1'lpp_ko_i.tys) : evF ⟨tab, [i_at_e n, i_isGhost_e n], n, []⟩ Try.f159 i_GhostsIn_1'lpp_ko_i i_GhostsIn_1'lpp_ko_o x = i_GhostsIn_1'lpp_ko n x.1 x.2.1 x.2.2 := by kernel_rfl
noncomputable def i_GhostsIn_1'lpp_ko_e (n : Nat) : Ent := ⟨159, i_GhostsIn_1'lpp_ko_i, i_GhostsIn_1'lpp_ko_o, fun x => i_GhostsIn_1'lpp_ko n x.1 x.2.1 x.2.2⟩
theorem i_GhostsIn_1'lpp_ko_ok (n : Nat) : EntOK Try.prog (i_GhostsIn_1'lpp_ko_e n) ∧ Own Try.prog 159 := ent_ok tabOK0 (.cons (i_at_ok n) (.cons (i_isGhost_ok n) .nil)) Try.func159 rfl (by kernel_rfl) (i_GhostsIn_1'lpp_ko_ev n)
def i_choices'l_i_GhostsIn_1pp_ko_i : CSh := ⟨[(.data false (.sl tI)), (.data true tI), (.data true tI), (.clo 159 (.tcons (.ptr 0 []) (.tcons (.ptr 1 []) .tnil)))], [.var 24 (.data true (.sl (.arr 4 tI))), .var 50 (.own 2), .rows 53 true (.arr 6 tI)]⟩
def i_choices'l_i_GhostsIn_1pp_ko_o : RSh := ⟨.tnil, [.var 24 (.data true (.sl (.arr 4 tI))), .var 50 (.own 3), .gone, .rows 53 true (.arr 6 tI)]⟩
theorem i_choices'l_i_GhostsIn_1pp_ko_ev (n : Nat) (go : TupT i_choices'l_i_GhostsIn_1pp_ko_i.tys → Option (TupT i_choices'l_i_GhostsIn_1pp_ko_o.tys)) (x : TupT i_choices'l_i_GhostsIn_1pp_ko_i.tys) : evF ⟨tab, [⟨158, i_choices'l_i_GhostsIn_1pp_ko_i, i_choices'l_i_GhostsIn_1pp_ko_o, go⟩, i_GhostsIn_1'lpp_ko_e n], n, [(10, ⟨[(0, (.data false (.sl tI))), (1, (.data true tI)), (2, (.data true tI)), (3, (.clo 159 (.tcons (.ptr 0 []) (.tcons (.ptr 1 []) .tnil)))), (8, (.data true tI))], [.var 24 (.data true (.sl (.arr 4 tI))), .var 50 (.own 2), .rows 53 true (.arr 6 tI)], 3⟩), (19, ⟨[(0, (.data false (.sl tI))), (1, (.data true tI)), (2, (.data true tI)), (3, (.clo 159 (.tcons (.ptr 0 []) (.tcons (.ptr 1 []) .tnil)))), (9, (.data true tI))], [.var 24 (.data true (.sl (.arr 4 tI))), .var 50 (.own 3), .gone, .rows 53 true (.arr 6 tI)], 3⟩)]⟩ Try.f158 i_choices'l_i_GhostsIn_1pp_ko_i i_choices'l_i_GhostsIn_1pp_ko_o x = i_choices'l_i_GhostsIn_1pp_ko_R n go x := by kernel_rfl
noncomputable def i_choices'l_i_GhostsIn_1pp_ko_e (n : Nat) : Ent := ⟨158, i_choices'l_i_GhostsIn_1pp_ko_i, i_choices'l_i_GhostsIn_1pp_ko_o, fun x => i_choices'l_i_GhostsIn_1pp_ko n x.1 x.2.1 x.2.2.1 x.2.2.2.1 x.2.2.2.2⟩
theorem i_choices'l_i_GhostsIn_1pp_ko_ok (n : Nat) : EntOK Try.prog (i_choices'l_i_GhostsIn_1pp_ko_e n) ∧ Own Try.prog 158 := ent_rec tabOK0 (.cons (i_GhostsIn_1'lpp_ko_ok n) .nil) Try.func158 rfl (by kernel_rfl) (i_choices'l_i_GhostsIn_1pp_ko_ev n) n
def i_GhostsIn_i : CSh := ⟨[(.data false (.sl (.arr 4 tI)))], []⟩
def i_GhostsIn_o : RSh := ⟨(.tcons (.own 0) (.tcons (.data true .bool) .tnil)), [.rows 53 true (.arr 6 tI)]⟩
theorem i_GhostsIn_ev (n : Nat) (x : TupT i_GhostsIn_i.tys) : evF ⟨tab, [i_IsHand_e n, i_choices'l_i_GhostsIn_1pp_ko_e n], n, []⟩ Try.f39 i_GhostsIn_i i_GhostsIn_o x = i_GhostsIn n x := by kernel_rfl
noncomputable def i_GhostsIn_e (n : Nat) : Ent := ⟨39, i_GhostsIn_i, i_GhostsIn_o, fun x => i_GhostsIn n x⟩
theorem i_GhostsIn_ok (n : Nat) : EntOK Try.prog (i_GhostsIn_e n) ∧ Own Try.prog 39 := ent_ok tabOK0 (.cons (i_IsHand_ok n) (.cons (i_choices'l_i_GhostsIn_1pp_ko_ok n) .nil)) Try.func39 rfl (by kernel_rfl) (i_GhostsIn_ev n)
def s_l1Own_i : CSh := ⟨[(.data false (.sl tI))], []⟩
def s_l1Own_o : RSh := ⟨(.own 0), [.rows 3 true tI]⟩
theorem s_l1Own_ev (n : Nat) (x : TupT s_l1Own_i.tys) : evF ⟨tab, [], n, []⟩ Try.f178 s_l1Own_i s_l1Own_o x = s_l1Own n x := by kernel_rfl
noncomputable def s_l1Own_e (n : Nat) : Ent := ⟨178, s_l1Own_i, s_l1Own_o, fun x => s_l1Own n x⟩
theorem s_l1Own_ok (n : Nat) : EntOK Try.prog (s_l1Own_e n) ∧ Own Try.prog 178 := ent_ok tabOK0 .nil Try.func178 rfl (by kernel_rfl) (s_l1Own_ev n)
def s_l10Choose_i : CSh := ⟨[(.data true tI), (.data true tI), (.data true tI), (.data false (.sl tI))], []⟩
def s_l10Choose_o : RSh := ⟨(.own 0), [.rows 42 true (.sl tI)]⟩
theorem s_l10Choose_ev (n : Nat) (go : TupT s_l10Choose_i.tys → Option (TupT s_l10Choose_o.tys)) (x : TupT s_l10Choose_i.tys) : evF ⟨tab, [⟨161, s_l10Choose_i, s_l10Choose_o, go⟩, s_l1Own_e n], n, [(16, ⟨[(0, (.data true tI)), (2, (.data true tI)), (3, (.data false (.sl tI))), (9, (.own 0)), (10, (.data true tI))], [.rows 42 true (.sl tI)], 0⟩)]⟩ Try.f161 s_l10Choose_i s_l10Choose_o x = s_l10Choose_R n go x := by kernel_rfl
noncomputable def s_l10Choose_e (n : Nat) : Ent := ⟨161, s_l10Choose_i, s_l10Choose_o, fun x => s_l10Choose n x.1 x.2.1 x.2.2.1 x.2.2.2⟩
theorem s_l10Choose_ok (n : Nat) : EntOK Try.prog (s_l10Choose_e n) ∧ Own Try.prog 161 := ent_rec tabOK0 (.cons (s_l1Own_ok n) .nil) Try.func161 rfl (by kernel_rfl) (s_l10Choose_ev n) n
def s_GhostsIn_i : CSh := ⟨[(.data false (.sl (.arr 4 tI)))], []⟩
def s_GhostsIn_o : RSh := ⟨(.tcons (.own 0) (.tcons (.data true .bool) .tnil)), [.rows 53 true (.arr 6 tI)]⟩
theorem s_GhostsIn_ev (n : Nat) (x : TupT s_GhostsIn_i.tys) : evF ⟨tab, [s_l2Hand_e n, s_l10Choose_e n, s_l10Thirds_e n], n, [(18, ⟨[(0, (.data false (.sl (.arr 4 tI)))), (4, (.own 0)), (5, (.own 1)), (6, (.data true tI))], [.rows 53 true (.arr 6 tI), .rows 42 true (.sl tI)], 0⟩), (33, ⟨[(0, (.data false (.sl (.arr 4 tI)))), (4, (.own 0)), (5, (.own 1)), (6, (.data true tI)), (7, (.own 2)), (8, (.ptr 3 [])), (9, (.data true tI))], [.rows 53 true (.arr 6 tI), .rows 42 true (.sl tI), .rows 54 true (.arr 4 tI), .var 53 (.data true (.arr 6 tI))], 0⟩)]⟩ Try.f40 s_GhostsIn_i s_GhostsIn_o x = s_GhostsIn n x := by kernel_rfl
noncomputable def s_GhostsIn_e (n : Nat) : Ent := ⟨40, s_GhostsIn_i, s_GhostsIn_o, fun x => s_GhostsIn n x⟩
theorem s_GhostsIn_ok (n : Nat) : EntOK Try.prog (s_GhostsIn_e n) ∧ Own Try.prog 40 := ent_ok tabOK0 (.cons (s_l2Hand_ok n) (.cons (s_l10Choose_ok n) (.cons (s_l10Thirds_ok n) .nil))) Try.func40 rfl (by kernel_rfl) (s_GhostsIn_ev n)
def s_l2Sorted_i : CSh := ⟨[(.data false (.sl (.arr 4 tI)))], []⟩
def s_l2Sorted_o : RSh := ⟨(.own 0), [.rows 54 true (.arr 4 tI)]⟩
theorem s_l2Sorted_ev (n : Nat) (x : TupT s_l2Sorted_i.tys) : evF ⟨tab, [s_l2Put_e n], n, [(8, ⟨[(0, (.data false (.sl (.arr 4 tI)))), (3, (.own 0)), (4, (.data true tI))], [.rows 54 true (.arr 4 tI)], 0⟩)]⟩ Try.f268 s_l2Sorted_i s_l2Sorted_o x = s_l2Sorted n x := by kernel_rfl
noncomputable def s_l2Sorted_e (n : Nat) : Ent := ⟨268, s_l2Sorted_i, s_l2Sorted_o, fun x => s_l2Sorted n x⟩
theorem s_l2Sorted_ok (n : Nat) : EntOK Try.prog (s_l2Sorted_e n) ∧ Own Try.prog 268 := ent_ok tabOK0 (.cons (s_l2Put_ok n) .nil) Try.func268 rfl (by kernel_rfl) (s_l2Sorted_ev n)
def s_l2Place_i : CSh := ⟨[(.data false (.sl (.arr 4 tI))), (.data true (.arr 4 tI))], []⟩
def s_l2Place_o : RSh := ⟨(.data true tI), []⟩
theorem s_l2Place_ev (n : Nat) (x : TupT s_l2Place_i.tys) : evF ⟨tab, [], n, [(6, ⟨[(0, (.data false (.sl (.arr 4 tI)))), (3, (.ptr 0 [])), (5, (.data true tI))], [.var 54 (.data true (.arr 4 tI))], 0⟩)]⟩ Try.f227 s_l2Place_i s_l2Place_o x = s_l2Place n x.1 x.2 := by kernel_rfl
noncomputable def s_l2Place_e (n : Nat) : Ent := ⟨227, s_l2Place_i, s_l2Place_o, fun x => s_l2Place n x.1 x.2⟩
theorem s_l2Place_ok (n : Nat) : EntOK Try.prog (s_l2Place_e n) ∧ Own Try.prog 227 := ent_ok tabOK0 .nil Try.func227 rfl (by kernel_rfl) (s_l2Place_ev n)
def s_l2Has_i : CSh := ⟨[(.data false (.sl (.arr 4 tI))), (.data true (.arr 4 tI))], []⟩
def s_l2Has_o : RSh := ⟨(.data true .bool), []⟩
theorem s_l2Has_ev (n : Nat) (x : TupT s_l2Has_i.tys) : evF ⟨tab, [s_l2Place_e n], n, []⟩ Try.f224 s_l2Has_i s_l2Has_o x = s_l2Has n x.1 x.2 := by kernel_rfl
noncomputable def s_l2Has_e (n : Nat) : Ent := ⟨224, s_l2Has_i, s_l2Has_o, fun x => s_l2Has n x.1 x.2⟩
theorem s_l2Has_ok (n : Nat) : EntOK Try.prog (s_l2Has_e n) ∧ Own Try.prog 224 := ent_ok tabOK0 (.cons (s_l2Place_ok n) .nil) Try.func224 rfl (by kernel_rfl) (s_l2Has_ev n)
def s_l6Span_i : CSh := ⟨[(.data false (.sl (.arr 4 tI)))], []⟩
def s_l6Span_o : RSh := ⟨(.own 0), [.rows 54 true (.arr 4 tI)]⟩
theorem s_l6Span_ev (n : Nat) (x : TupT s_l6Span_i.tys) : evF ⟨tab, [s_l2Sorted_e n, s_l2Third_e n, s_l2Has_e n, s_l2Put_e n], n, [(8, ⟨[(3, (.own 0)), (4, (.data true tI))], [.rows 54 true (.arr 4 tI)], 0⟩), (20, ⟨[(3, (.own 0)), (4, (.data true tI)), (5, (.data true tI))], [.rows 54 true (.arr 4 tI)], 0⟩)]⟩ Try.f217 s_l6Span_i s_l6Span_o x = s_l6Span n x := by kernel_rfl
noncomputable def s_l6Span_e (n : Nat) : Ent := ⟨217, s_l6Span_i, s_l6Span_o, fun x => s_l6Span n x⟩
theorem s_l6Span_ok (n : Nat) : EntOK Try.prog (s_l6Span_e n) ∧ Own Try.prog 217 := ent_ok tabOK0 (.cons (s_l2Sorted_ok n) (.cons (s_l2Third_ok n) (.cons (s_l2Has_ok n) (.cons (s_l2Put_ok n) .nil)))) Try.func217 rfl (by kernel_rfl) (s_l6Span_ev n)
def s_Cur_flat'p_i : CSh := ⟨[(.ptr 0 [])], [.var 125 (.data true (.pair (.sl (.int .u8)) (.pair tI (.int .u64))))]⟩
def s_Cur_flat'p_o : RSh := ⟨(.own 1), [.var 125 (.data true (.pair (.sl (.int .u8)) (.pair tI (.int .u64)))), .rows 54 true (.arr 4 tI)]⟩
theorem s_Cur_flat'p_ev (n : Nat) (x : TupT s_Cur_flat'p_i.tys) : evF ⟨tab, [s_Cur_among'pl_e n, s_Cur_pick'p_e n, s_l2At_e n, s_l2Put_e n, s_l6Span_e n, s_l2Drop_e n, s_Cur_one'p_e n], n, [(8, ⟨[(0, (.ptr 0 [])), (3, (.own 1)), (4, (.data true tI))], [.var 125 (.data true (.pair (.sl (.int .u8)) (.pair tI (.int .u64)))), .rows 54 true (.arr 4 tI)], 1⟩), (23, ⟨[(0, (.ptr 0 [])), (3, (.own 1))], [.var 125 (.data true (.pair (.sl (.int .u8)) (.pair tI (.int .u64)))), .rows 54 true (.arr 4 tI)], 1⟩), (5000034, ⟨[(0, (.ptr 0 [])), (3, (.own 1)), (35, (.data true .bool))], [.var 125 (.data true (.pair (.sl (.int .u8)) (.pair tI (.int .u64)))), .rows 54 true (.arr 4 tI)], 1⟩)]⟩ Try.f244 s_Cur_flat'p_i s_Cur_flat'p_o x = s_Cur_flat'p n x := by kernel_rfl
noncomputable def s_Cur_flat'p_e (n : Nat) : Ent := ⟨244, s_Cur_flat'p_i, s_Cur_flat'p_o, fun x => s_Cur_flat'p n x⟩
theorem s_Cur_flat'p_ok (n : Nat) : EntOK Try.prog (s_Cur_flat'p_e n) ∧ Own Try.prog 244 := ent_ok tabOK0 (.cons (s_Cur_among'pl_ok n) (.cons (s_Cur_pick'p_ok n) (.cons (s_l2At_ok n) (.cons (s_l2Put_ok n) (.cons (s_l6Span_ok n) (.cons (s_l2Drop_ok n) (.cons (s_Cur_one'p_ok n) .nil))))))) Try.func244 rfl (by kernel_rfl) (s_Cur_flat'p_ev n)
def s_Cur_someHand'p_i : CSh := ⟨[(.ptr 0 [])], [.var 125 (.data true (.pair (.sl (.int .u8)) (.pair tI (.int .u64))))]⟩
def s_Cur_someHand'p_o : RSh := ⟨(.own 1), [.var 125 (.data true (.pair (.sl (.int .u8)) (.pair tI (.int .u64)))), .rows 54 true (.arr 4 tI)]⟩
theorem s_Cur_someHand'p_ev (n : Nat) (x : TupT s_Cur_someHand'p_i.tys) : evF ⟨tab, [s_Cur_one'p_e n, s_Cur_flat'p_e n, s_Cur_hand'p_e n], n, []⟩ Try.f162 s_Cur_someHand'p_i s_Cur_someHand'p_o x = s_Cur_someHand'p n x := by kernel_rfl
noncomputable def s_Cur_someHand'p_e (n : Nat) : Ent := ⟨162, s_Cur_someHand'p_i, s_Cur_someHand'p_o, fun x => s_Cur_someHand'p n x⟩
theorem s_Cur_someHand'p_ok (n : Nat) : EntOK Try.prog (s_Cur_someHand'p_e n) ∧ Own Try.prog 162 := ent_ok tabOK0 (.cons (s_Cur_one'p_ok n) (.cons (s_Cur_flat'p_ok n) (.cons (s_Cur_hand'p_ok n) .nil))) Try.func162 rfl (by kernel_rfl) (s_Cur_someHand'p_ev n)
def s_DrawLinesOfKind_i : CSh := ⟨[(.data false (.sl (.int .u8)))], []⟩
def s_DrawLinesOfKind_o : RSh := ⟨(.tcons (.own 0) (.tcons (.data true tI) .tnil)), [.rows 54 true (.arr 4 tI)]⟩
theorem s_DrawLinesOfKind_ev (n : Nat) (x : TupT s_DrawLinesOfKind_i.tys) : evF ⟨tab, [s_Cur_pick'p_e n, s_Cur_someHand'p_e n], n, []⟩ Try.f41 s_DrawLinesOfKind_i s_DrawLinesOfKind_o x = s_DrawLinesOfKind n x := by kernel_rfl
noncomputable def s_DrawLinesOfKind_e (n : Nat) : Ent := ⟨41, s_DrawLinesOfKind_i, s_DrawLinesOfKind_o, fun x => s_DrawLinesOfKind n x⟩
theorem s_DrawLinesOfKind_ok (n : Nat) : EntOK Try.prog (s_DrawLinesOfKind_e n) ∧ Own Try.prog 41 := ent_ok tabOK0 (.cons (s_Cur_pick'p_ok n) (.cons (s_Cur_someHand'p_ok n) .nil)) Try.func41 rfl (by kernel_rfl) (s_DrawLinesOfKind_ev n)
def i_linesIn_i : CSh := ⟨[(.data false (.sl (.arr 4 tI)))], []⟩
def i_linesIn_o : RSh := ⟨(.own 0), [.rows 62 true (.arr 3 tI)]⟩
theorem i_linesIn_ev (n : Nat) (x : TupT i_linesIn_i.tys) : evF ⟨tab, [i_number_e n, i_third_e n], n, [(8, ⟨[(0, (.data false (.sl (.arr 4 tI)))), (3, (.ptr 0 [])), (12, (.data false (.sl (.arr 4 tI)))), (13, (.data true tI)), (14, (.data true tI))], [.var 187 (.data true (.arr 81 tI))], 0⟩), (27, ⟨[(0, (.data false (.sl (.arr 4 tI)))), (3, (.ptr 0 [])), (6, (.own 1)), (26, (.data false (.sl (.arr 4 tI)))), (27, (.data true tI)), (28, (.data true tI))], [.var 187 (.data true (.arr 81 tI)), .rows 62 true (.arr 3 tI)], 0⟩), (41, ⟨[(0, (.data false (.sl (.arr 4 tI)))), (3, (.ptr 0 [])), (6, (.own 1)), (7, (.data true tI)), (8, (.ptr 2 [])), (9, (.data true tI)), (26, (.data false (.sl (.arr 4 tI)))), (27, (.data true tI)), (28, (.data true tI))], [.var 187 (.data true (.arr 81 tI)), .rows 62 true (.arr 3 tI), .var 54 (.data true (.arr 4 tI))], 0⟩)]⟩ Try.f125 i_linesIn_i i_linesIn_o x = i_linesIn n x := by kernel_rfl
noncomputable def i_linesIn_e (n : Nat) : Ent := ⟨125, i_linesIn_i, i_linesIn_o, fun x => i_linesIn n x⟩
theorem i_linesIn_ok (n : Nat) : EntOK Try.prog (i_linesIn_e n) ∧ Own Try.prog 125 := ent_ok tabOK0 (.cons (i_number_ok n) (.cons (i_third_ok n) .nil)) Try.func125 rfl (by kernel_rfl) (i_linesIn_ev n)
def i_differ_i : CSh := ⟨[(.data true (.arr 4 tI)), (.data true (.arr 4 tI))], []⟩
def i_differ_o : RSh := ⟨(.data true tI), []⟩
theorem i_differ_ev (n : Nat) (x : TupT i_differ_i.tys) : evF ⟨tab, [], n, [(8, ⟨[(2, (.ptr 0 [])), (3, (.ptr 1 [])), (5, (.data true tI)), (7, (.data true tI))], [.var 54 (.data true (.arr 4 tI)), .var 54 (.data true (.arr 4 tI))], 0⟩)]⟩ Try.f163 i_differ_i i_differ_o x = i_differ n x.1 x.2 := by kernel_rfl
noncomputable def i_differ_e (n : Nat) : Ent := ⟨163, i_differ_i, i_differ_o, fun x => i_differ n x.1 x.2⟩
theorem i_differ_ok (n : Nat) : EntOK Try.prog (i_differ_e n) ∧ Own Try.prog 163 := ent_ok tabOK0 .nil Try.func163 rfl (by kernel_rfl) (i_differ_ev n)
def i_LinesOfKind_i : CSh := ⟨[(.data false (.sl (.arr 4 tI))), (.data true tI)], []⟩
def i_LinesOfKind_o : RSh := ⟨(.tcons (.own 0) (.tcons (.data true .bool) .tnil)), [.rows 62 true (.arr 3 tI)]⟩
theorem i_LinesOfKind_ev (n : Nat) (x : TupT i_LinesOfKind_i.tys) : evF ⟨tab, [i_IsHand_e n, i_within_e n, i_linesIn_e n, i_differ_e n], n, [(16, ⟨[(0, (.data false (.sl (.arr 4 tI)))), (1, (.data true tI)), (6, (.own 0)), (19, (.own 1)), (20, (.data true tI)), (21, (.data true tI))], [.rows 62 true (.arr 3 tI), .rows 62 true (.arr 3 tI)], 0⟩)]⟩ Try.f42 i_LinesOfKind_i i_LinesOfKind_o x = i_LinesOfKind n x.1 x.2 := by kernel_rfl
noncomputable def i_LinesOfKind_e (n : Nat) : Ent := ⟨42, i_LinesOfKind_i, i_LinesOfKind_o, fun x => i_LinesOfKind n x.1 x.2⟩
theorem i_LinesOfKind_ok (n : Nat) : EntOK Try.prog (i_LinesOfKind_e n) ∧ Own Try.prog 42 := ent_ok tabOK0 (.cons (i_IsHand_ok n) (.cons (i_within_ok n) (.cons (i_linesIn_ok n) (.cons (i_differ_ok n) .nil)))) Try.func42 rfl (by kernel_rfl) (i_LinesOfKind_ev n)
def s_l2Lines_i : CSh := ⟨[(.data false (.sl (.arr 4 tI)))], []⟩
def s_l2Lines_o : RSh := ⟨(.own 0), [.rows 62 true (.arr 3 tI)]⟩
theorem s_l2Lines_ev (n : Nat) (x : TupT s_l2Lines_i.tys) : evF ⟨tab, [s_l2Third_e n, s_l2Place_e n], n, [(8, ⟨[(0, (.data false (.sl (.arr 4 tI)))), (3, (.own 0)), (4, (.data true tI))], [.rows 62 true (.arr 3 tI)], 0⟩), (20, ⟨[(0, (.data false (.sl (.arr 4 tI)))), (3, (.own 0)), (4, (.data true tI)), (5, (.data true tI))], [.rows 62 true (.arr 3 tI)], 0⟩)]⟩ Try.f129 s_l2Lines_i s_l2Lines_o x = s_l2Lines n x := by kernel_rfl
noncomputable def s_l2Lines_e (n : Nat) : Ent := ⟨129, s_l2Lines_i, s_l2Lines_o, fun x => s_l2Lines n x⟩
theorem s_l2Lines_ok (n : Nat) : EntOK Try.prog (s_l2Lines_e n) ∧ Own Try.prog 129 := ent_ok tabOK0 (.cons (s_l2Third_ok n) (.cons (s_l2Place_ok n) .nil)) Try.func129 rfl (by kernel_rfl) (s_l2Lines_ev n)
def s_l2Differ_i : CSh := ⟨[(.data true (.arr 4 tI)), (.data true (.arr 4 tI))], []⟩
def s_l2Differ_o : RSh := ⟨(.data true tI), []⟩
theorem s_l2Differ_ev (n : Nat) (x : TupT s_l2Differ_i.tys) : evF ⟨tab, [], n, [(8, ⟨[(2, (.ptr 0 [])), (3, (.ptr 1 [])), (5, (.data true tI)), (6, (.data true tI))], [.var 54 (.data true (.arr 4 tI)), .var 54 (.data true (.arr 4 tI))], 0⟩)]⟩ Try.f164 s_l2Differ_i s_l2Differ_o x = s_l2Differ n x.1 x.2 := by kernel_rfl
noncomputable def s_l2Differ_e (n : Nat) : Ent := ⟨164, s_l2Differ_i, s_l2Differ_o, fun x => s_l2Differ n x.1 x.2⟩
theorem s_l2Differ_ok (n : Nat) : EntOK Try.prog (s_l2Differ_e n) ∧ Own Try.prog 164 := ent_ok tabOK0 .nil Try.func164 rfl (by kernel_rfl) (s_l2Differ_ev n)
def s_LinesOfKind_i : CSh := ⟨[(.data false (.sl (.arr 4 tI))), (.data true tI)], []⟩
def s_LinesOfKind_o : RSh := ⟨(.tcons (.own 0) (.tcons (.data true .bool) .tnil)), [.rows 62 true (.arr 3 tI)]⟩
theorem s_LinesOfKind_ev (n : Nat) (x : TupT s_LinesOfKind_i.tys) : evF ⟨tab, [s_l2Hand_e n, s_l1In_e n, s_l2Lines_e n, s_l2Differ_e n], n, [(18, ⟨[(0, (.data false (.sl (.arr 4 tI)))), (1, (.data true tI)), (6, (.own 0)), (7, (.own 1)), (8, (.data true tI))], [.rows 62 true (.arr 3 tI), .rows 62 true (.arr 3 tI)], 0⟩)]⟩ Try.f43 s_LinesOfKind_i s_LinesOfKind_o x = s_LinesOfKind n x.1 x.2 := by kernel_rfl
noncomputable def s_LinesOfKind_e (n : Nat) : Ent := ⟨43, s_LinesOfKind_i, s_LinesOfKind_o, fun x => s_LinesOfKind n x.1 x.2⟩
theorem s_LinesOfKind_ok (n : Nat) : EntOK Try.prog (s_LinesOfKind_e n) ∧ Own Try.prog 43 := ent_ok tabOK0 (.cons (s_l2Hand_ok n) (.cons (s_l1In_ok n) (.cons (s_l2Lines_ok n) (.cons (s_l2Differ_ok n) .nil)))) Try.func43 rfl (by kernel_rfl) (s_LinesOfKind_ev n)
def v_rThrees_i : CSh := ⟨[(.data false (.sl (.arr 3 tI))), (.data false (.sl (.arr 3 tI)))], []⟩
def v_rThrees_o : RSh := ⟨(.data true .bool), []⟩
theorem v_rThrees_ev (n : Nat) (x : TupT v_rThrees_i.tys) : evF ⟨tab, [], n, [(14, ⟨[(0, (.data false (.sl (.arr 3 tI)))), (1, (.data false (.sl (.arr 3 tI)))), (5, (.data true tI))], [], 0⟩)]⟩ Try.f44 v_rThrees_i v_rThrees_o x = v_rThrees n x.1 x.2 := by kernel_rfl
noncomputable def v_rThrees_e (n : Nat) : Ent := ⟨44, v_rThrees_i, v_rThrees_o, fun x => v_rThrees n x.1 x.2⟩
theorem v_rThrees_ok (n : Nat) : EntOK Try.prog (v_rThrees_e n) ∧ Own Try.prog 44 := ent_ok tabOK0 .nil Try.func44 rfl (by kernel_rfl) (v_rThrees_ev n)
def i_CountKinds_i : CSh := ⟨[(.data false (.sl (.arr 4 tI)))], []⟩
def i_CountKinds_o : RSh := ⟨(.tcons (.data true (.arr 5 tI)) (.tcons (.data true .bool) .tnil)), []⟩
theorem i_CountKinds_ev (n : Nat) (x : TupT i_CountKinds_i.tys) : evF ⟨tab, [i_IsHand_e n, i_linesIn_e n, i_differ_e n], n, [(16, ⟨[(0, (.data false (.sl (.arr 4 tI)))), (2, (.ptr 0 [])), (4, (.ptr 1 [])), (13, (.own 2)), (14, (.data true tI)), (15, (.data true tI))], [.var 57 (.data true (.arr 5 tI)), .var 57 (.data true (.arr 5 tI)), .rows 62 true (.arr 3 tI)], 0⟩)]⟩ Try.f45 i_CountKinds_i i_CountKinds_o x = i_CountKinds n x := by kernel_rfl
noncomputable def i_CountKinds_e (n : Nat) : Ent := ⟨45, i_CountKinds_i, i_CountKinds_o, fun x => i_CountKinds n x⟩
theorem i_CountKinds_ok (n : Nat) : EntOK Try.prog (i_CountKinds_e n) ∧ Own Try.prog 45 := ent_ok tabOK0 (.cons (i_IsHand_ok n) (.cons (i_linesIn_ok n) (.cons (i_differ_ok n) .nil))) Try.func45 rfl (by kernel_rfl) (i_CountKinds_ev n)
def s_CountKinds_i : CSh := ⟨[(.data false (.sl (.arr 4 tI)))], []⟩
def s_CountKinds_o : RSh := ⟨(.tcons (.data true (.arr 5 tI)) (.tcons (.data true .bool) .tnil)), []⟩
theorem s_CountKinds_ev (n : Nat) (x : TupT s_CountKinds_i.tys) : evF ⟨tab, [s_l2Hand_e n, s_l2Lines_e n, s_l2Differ_e n], n, [(18, ⟨[(0, (.data false (.sl (.arr 4 tI)))), (2, (.ptr 0 [])), (4, (.ptr 1 [])), (5, (.own 2)), (6, (.data true tI))], [.var 57 (.data true (.arr 5 tI)), .var 57 (.data true (.arr 5 tI)), .rows 62 true (.arr 3 tI)], 0⟩)]⟩ Try.f46 s_CountKinds_i s_CountKinds_o x = s_CountKinds n x := by kernel_rfl
noncomputable def s_CountKinds_e (n : Nat) : Ent := ⟨46, s_CountKinds_i, s_CountKinds_o, fun x => s_CountKinds n x⟩
theorem s_CountKinds_ok (n : Nat) : EntOK Try.prog (s_CountKinds_e n) ∧ Own Try.prog 46 := ent_ok tabOK0 (.cons (s_l2Hand_ok n) (.cons (s_l2Lines_ok n) (.cons (s_l2Differ_ok n) .nil))) Try.func46 rfl (by kernel_rfl) (s_CountKinds_ev n)
def s_DrawAllOfKind_i : CSh := ⟨[(.data false (.sl (.int .u8)))], []⟩
def s_DrawAllOfKind_o : RSh := ⟨(.data true tI), []⟩
theorem s_DrawAllOfKind_ev (n : Nat) (x : TupT s_DrawAllOfKind_i.tys) : evF ⟨tab, [s_Cur_pick'p_e n], n, []⟩ Try.f47 s_DrawAllOfKind_i s_DrawAllOfKind_o x = s_DrawAllOfKind n x := by kernel_rfl
noncomputable def s_DrawAllOfKind_e (n : Nat) : Ent := ⟨47, s_DrawAllOfKind_i, s_DrawAllOfKind_o, fun x => s_DrawAllOfKind n x⟩
theorem s_DrawAllOfKind_ok (n : Nat) : EntOK Try.prog (s_DrawAllOfKind_e n) ∧ Own Try.prog 47 := ent_ok tabOK0 (.cons (s_Cur_pick'p_ok n) .nil) Try.func47 rfl (by kernel_rfl) (s_DrawAllOfKind_ev n)
def i_AllOfKind_i : CSh := ⟨[(.data true tI)], []⟩
def i_AllOfKind_o : RSh := ⟨(.tcons (.data true tI) (.tcons (.data true .bool) .tnil)), []⟩
theorem i_AllOfKind_ev (n : Nat) (x : TupT i_AllOfKind_i.tys) : evF ⟨tab, [i_within_e n], n, []⟩ Try.f48 i_AllOfKind_i i_AllOfKind_o x = i_AllOfKind n x := by kernel_rfl
noncomputable def i_AllOfKind_e (n : Nat) : Ent := ⟨48, i_AllOfKind_i, i_AllOfKind_o, fun x => i_AllOfKind n x⟩
theorem i_AllOfKind_ok (n : Nat) : EntOK Try.prog (i_AllOfKind_e n) ∧ Own Try.prog 48 := ent_ok tabOK0 (.cons (i_within_ok n) .nil) Try.func48 rfl (by kernel_rfl) (i_AllOfKind_ev n)
def s_AllOfKind_i : CSh := ⟨[(.data true tI)], []⟩
def s_AllOfKind_o : RSh := ⟨(.tcons (.data true tI) (.tcons (.data true .bool) .tnil)), []⟩
theorem s_AllOfKind_ev (n : Nat) (x : TupT s_AllOfKind_i.tys) : evF ⟨tab, [s_l1In_e n], n, []⟩ Try.f49 s_AllOfKind_i s_AllOfKind_o x = s_AllOfKind n x := by kernel_rfl
noncomputable def s_AllOfKind_e (n : Nat) : Ent := ⟨49, s_AllOfKind_i, s_AllOfKind_o, fun x => s_AllOfKind n x⟩
theorem s_AllOfKind_ok (n : Nat) : EntOK Try.prog (s_AllOfKind_e n) ∧ Own Try.prog 49 := ent_ok tabOK0 (.cons (s_l1In_ok n) .nil) Try.func49 rfl (by kernel_rfl) (s_AllOfKind_ev n)
def i_NearLines_1'lpp_ko_i : CSh := ⟨[(.data false (.sl tI)), (.ptr 0 []), (.ptr 1 [])], [.var 24 (.data true (.sl (.arr 4 tI))), .var 38 (.own 2), .rows 62 true (.arr 3 tI)]⟩
def i_NearLines_1'lpp_ko_o : RSh := ⟨.tnil, [.var 24 (.data true (.sl (.arr 4 tI))), .var 38 (.own 3), .gone, .rows 62 true (.arr 3 tI)]⟩
theorem i_NearLines_1'lpp_ko_ev (n : Nat) (x : TupT i_NearLines_1'lpp_ko_i.tys) : evF ⟨tab, [i_third_e n, i_differ_e n], n, []⟩ Try.f165 i_NearLines_1'lpp_ko_i i_NearLines_1'lpp_ko_o x = i_NearLines_1'lpp_ko n x.1 x.2.1 x.2.2 := by kernel_rfl
noncomputable def i_NearLines_1'lpp_ko_e (n : Nat) : Ent := ⟨165, i_NearLines_1'lpp_ko_i, i_NearLines_1'lpp_ko_o, fun x => i_NearLines_1'lpp_ko n x.1 x.2.1 x.2.2⟩
theorem i_NearLines_1'lpp_ko_ok (n : Nat) : EntOK Try.prog (i_NearLines_1'lpp_ko_e n) ∧ Own Try.prog 165 := ent_ok tabOK0 (.cons (i_third_ok n) (.cons (i_differ_ok n) .nil)) Try.func165 rfl (by kernel_rfl) (i_NearLines_1'lpp_ko_ev n)
def i_choices'l_i_NearLines_1pp_ko_i : CSh := ⟨[(.data false (.sl tI)), (.data true tI), (.data true tI), (.clo 165 (.tcons (.ptr 0 []) (.tcons (.ptr 1 []) .tnil)))], [.var 24 (.data true (.sl (.arr 4 tI))), .var 38 (.own 2), .rows 62 true (.arr 3 tI)]⟩
def i_choices'l_i_NearLines_1pp_ko_o : RSh := ⟨.tnil, [.var 24 (.data true (.sl (.arr 4 tI))), .var 38 (.own 3), .gone, .rows 62 true (.arr 3 tI)]⟩
theorem i_choices'l_i_NearLines_1pp_ko_ev (n : Nat) (go : TupT i_choices'l_i_NearLines_1pp_ko_i.tys → Option (TupT i_choices'l_i_NearLines_1pp_ko_o.tys)) (x : TupT i_choices'l_i_NearLines_1pp_ko_i.tys) : evF ⟨tab, [⟨158, i_choices'l_i_NearLines_1pp_ko_i, i_choices'l_i_NearLines_1pp_ko_o, go⟩, i_NearLines_1'lpp_ko_e n], n, [(10, ⟨[(0, (.data false (.sl tI))), (1, (.data true tI)), (2, (.data true tI)), (3, (.clo 165 (.tcons (.ptr 0 []) (.tcons (.ptr 1 []) .tnil)))), (8, (.data true tI))], [.var 24 (.data true (.sl (.arr 4 tI))), .var 38 (.own 2), .rows 62 true (.arr 3 tI)], 3⟩), (19, ⟨[(0, (.data false (.sl tI))), (1, (.data true tI)), (2, (.data true tI)), (3, (.clo 165 (.tcons (.ptr 0 []) (.tcons (.ptr 1 []) .tnil)))), (9, (.data true tI))], [.var 24 (.data true (.sl (.arr 4 tI))), .var 38 (.own 3), .gone, .rows 62 true (.arr 3 tI)], 3⟩)]⟩ Try.f158 i_choices'l_i_NearLines_1pp_ko_i i_choices'l_i_NearLines_1pp_ko_o x = i_choices'l_i_NearLines_1pp_ko_R n go x := by kernel_rfl
noncomputable def i_choices'l_i_NearLines_1pp_ko_e (n : Nat) : Ent := ⟨158, i_choices'l_i_NearLines_1pp_ko_i, i_choices'l_i_NearLines_1pp_ko_o, fun x => i_choices'l_i_NearLines_1pp_ko n x.1 x.2.1 x.2.2.1 x.2.2.2.1 x.2.2.2.2⟩
theorem i_choices'l_i_NearLines_1pp_ko_ok (n : Nat) : EntOK Try.prog (i_choices'l_i_NearLines_1pp_ko_e n) ∧ Own Try.prog 158 := ent_rec tabOK0 (.cons (i_NearLines_1'lpp_ko_ok n) .nil) Try.func158 rfl (by kernel_rfl) (i_choices'l_i_NearLines_1pp_ko_ev n) n
def i_NearLines_i : CSh := ⟨[(.data false (.sl (.arr 4 tI)))], []⟩
def i_NearLines_o : RSh := ⟨(.tcons (.own 0) (.tcons (.data true .bool) .tnil)), [.rows 62 true (.arr 3 tI)]⟩
theorem i_NearLines_ev (n : Nat) (x : TupT i_NearLines_i.tys) : evF ⟨tab, [i_IsHand_e n, i_choices'l_i_NearLines_1pp_ko_e n], n, []⟩ Try.f50 i_NearLines_i i_NearLines_o x = i_NearLines n x := by kernel_rfl
noncomputable def i_NearLines_e (n : Nat) : Ent := ⟨50, i_NearLines_i, i_NearLines_o, fun x => i_NearLines n x⟩
theorem i_NearLines_ok (n : Nat) : EntOK Try.prog (i_NearLines_e n) ∧ Own Try.prog 50 := ent_ok tabOK0 (.cons (i_IsHand_ok n) (.cons (i_choices'l_i_NearLines_1pp_ko_ok n) .nil)) Try.func50 rfl (by kernel_rfl) (i_NearLines_ev n)
def s_l10Good_i : CSh := ⟨[(.data true (.arr 4 tI)), (.data true (.arr 4 tI)), (.data true (.arr 4 tI))], []⟩
def s_l10Good_o : RSh := ⟨(.data true tI), []⟩
theorem s_l10Good_ev (n : Nat) (x : TupT s_l10Good_i.tys) : evF ⟨tab, [], n, [(8, ⟨[(3, (.ptr 0 [])), (4, (.ptr 1 [])), (5, (.ptr 2 [])), (7, (.data true tI)), (8, (.data true tI))], [.var 54 (.data true (.arr 4 tI)), .var 54 (.data true (.arr 4 tI)), .var 54 (.data true (.arr 4 tI))], 0⟩)]⟩ Try.f167 s_l10Good_i s_l10Good_o x = s_l10Good n x.1 x.2.1 x.2.2 := by kernel_rfl
noncomputable def s_l10Good_e (n : Nat) : Ent := ⟨167, s_l10Good_i, s_l10Good_o, fun x => s_l10Good n x.1 x.2.1 x.2.2⟩
theorem s_l10Good_ok (n : Nat) : EntOK Try.prog (s_l10Good_e n) ∧ Own Try.prog 167 := ent_ok tabOK0 .nil Try.func167 rfl (by kernel_rfl) (s_l10Good_ev n)
def s_NearLines_i : CSh := ⟨[(.data false (.sl (.arr 4 tI)))], []⟩
def s_NearLines_o : RSh := ⟨(.tcons (.own 0) (.tcons (.data true .bool) .tnil)), [.rows 62 true (.arr 3 tI)]⟩
theorem s_NearLines_ev (n : Nat) (x : TupT s_NearLines_i.tys) : evF ⟨tab, [s_l2Hand_e n, s_l10Good_e n], n, [(16, ⟨[(0, (.data false (.sl (.arr 4 tI)))), (4, (.own 0)), (5, (.data true tI))], [.rows 62 true (.arr 3 tI)], 0⟩), (28, ⟨[(0, (.data false (.sl (.arr 4 tI)))), (4, (.own 0)), (5, (.data true tI)), (6, (.data true tI))], [.rows 62 true (.arr 3 tI)], 0⟩), (40, ⟨[(0, (.data false (.sl (.arr 4 tI)))), (4, (.own 0)), (5, (.data true tI)), (6, (.data true tI)), (7, (.data true tI))], [.rows 62 true (.arr 3 tI)], 0⟩)]⟩ Try.f51 s_NearLines_i s_NearLines_o x = s_NearLines n x := by kernel_rfl
noncomputable def s_NearLines_e (n : Nat) : Ent := ⟨51, s_NearLines_i, s_NearLines_o, fun x => s_NearLines n x⟩
theorem s_NearLines_ok (n : Nat) : EntOK Try.prog (s_NearLines_e n) ∧ Own Try.prog 51 := ent_ok tabOK0 (.cons (s_l2Hand_ok n) (.cons (s_l10Good_ok n) .nil)) Try.func51 rfl (by kernel_rfl) (s_NearLines_ev n)
def i_areCards_1_i : CSh := ⟨[(.data true (.arr 4 tI))], []⟩
def i_areCards_1_o : RSh := ⟨(.data true .bool), []⟩
theorem i_areCards_1_ev (n : Nat) (x : TupT i_areCards_1_i.tys) : evF ⟨tab, [i_IsCard_e n], n, []⟩ Try.f246 i_areCards_1_i i_areCards_1_o x = i_areCards_1 n x := by kernel_rfl
noncomputable def i_areCards_1_e (n : Nat) : Ent := ⟨246, i_areCards_1_i, i_areCards_1_o, fun x => i_areCards_1 n x⟩
theorem i_areCards_1_ok (n : Nat) : EntOK Try.prog (i_areCards_1_e n) ∧ Own Try.prog 246 := ent_ok tabOK0 (.cons (i_IsCard_ok n) .nil) Try.func246 rfl (by kernel_rfl) (i_areCards_1_ev n)
def slices_IndexFunc_SA4_A4_'l_i_areCards_1_i : CSh := ⟨[(.data false (.sl (.arr 4 tI))), (.clo 246 .tnil)], []⟩
def slices_IndexFunc_SA4_A4_'l_i_areCards_1_o : RSh := ⟨(.data true tI), []⟩
theorem slices_IndexFunc_SA4_A4_'l_i_areCards_1_ev (n : Nat) (x : TupT slices_IndexFunc_SA4_A4_'l_i_areCards_1_i.tys) : evF ⟨tab, [i_areCards_1_e n], n, [(6, ⟨[(0, (.data false (.sl (.arr 4 tI)))), (1, (.clo 246 .tnil)), (7, (.data true tI)), (8, (.data true tI))], [], 0⟩)]⟩ Try.f276 slices_IndexFunc_SA4_A4_'l_i_areCards_1_i slices_IndexFunc_SA4_A4_'l_i_areCards_1_o x = slices_IndexFunc_SA4_A4_'l_i_areCards_1 n x := by kernel_rfl
noncomputable def slices_IndexFunc_SA4_A4_'l_i_areCards_1_e (n : Nat) : Ent := ⟨276, slices_IndexFunc_SA4_A4_'l_i_areCards_1_i, slices_IndexFunc_SA4_A4_'l_i_areCards_1_o, fun x => slices_IndexFunc_SA4_A4_'l_i_areCards_1 n x⟩
theorem slices_IndexFunc_SA4_A4_'l_i_areCards_1_ok (n : Nat) : EntOK Try.prog (slices_IndexFunc_SA4_A4_'l_i_areCards_1_e n) ∧ Own Try.prog 276 := ent_ok tabOK0 (.cons (i_areCards_1_ok n) .nil) Try.func276 rfl (by kernel_rfl) (slices_IndexFunc_SA4_A4_'l_i_areCards_1_ev n)
def slices_ContainsFunc_SA4_A4_'l_i_areCards_1_i : CSh := ⟨[(.data false (.sl (.arr 4 tI))), (.clo 246 .tnil)], []⟩
def slices_ContainsFunc_SA4_A4_'l_i_areCards_1_o : RSh := ⟨(.data true .bool), []⟩
theorem slices_ContainsFunc_SA4_A4_'l_i_areCards_1_ev (n : Nat) (x : TupT slices_ContainsFunc_SA4_A4_'l_i_areCards_1_i.tys) : evF ⟨tab, [slices_IndexFunc_SA4_A4_'l_i_areCards_1_e n], n, []⟩ Try.f245 slices_ContainsFunc_SA4_A4_'l_i_areCards_1_i slices_ContainsFunc_SA4_A4_'l_i_areCards_1_o x = slices_ContainsFunc_SA4_A4_'l_i_areCards_1 n x := by kernel_rfl
noncomputable def slices_ContainsFunc_SA4_A4_'l_i_areCards_1_e (n : Nat) : Ent := ⟨245, slices_ContainsFunc_SA4_A4_'l_i_areCards_1_i, slices_ContainsFunc_SA4_A4_'l_i_areCards_1_o, fun x => slices_ContainsFunc_SA4_A4_'l_i_areCards_1 n x⟩
theorem slices_ContainsFunc_SA4_A4_'l_i_areCards_1_ok (n : Nat) : EntOK Try.prog (slices_ContainsFunc_SA4_A4_'l_i_areCards_1_e n) ∧ Own Try.prog 245 := ent_ok tabOK0 (.cons (slices_IndexFunc_SA4_A4_'l_i_areCards_1_ok n) .nil) Try.func245 rfl (by kernel_rfl) (slices_ContainsFunc_SA4_A4_'l_i_areCards_1_ev n)
def i_areCards_i : CSh := ⟨[(.data false (.sl (.arr 4 tI)))], []⟩
def i_areCards_o : RSh := ⟨(.data true .bool), []⟩
theorem i_areCards_ev (n : Nat) (x : TupT i_areCards_i.tys) : evF ⟨tab, [slices_ContainsFunc_SA4_A4_'l_i_areCards_1_e n], n, []⟩ Try.f168 i_areCards_i i_areCards_o x = i_areCards n x := by kernel_rfl
noncomputable def i_areCards_e (n : Nat) : Ent := ⟨168, i_areCards_i, i_areCards_o, fun x => i_areCards n x⟩
theorem i_areCards_ok (n : Nat) : EntOK Try.prog (i_areCards_e n) ∧ Own Try.prog 168 := ent_ok tabOK0 (.cons (slices_ContainsFunc_SA4_A4_'l_i_areCards_1_ok n) .nil) Try.func168 rfl (by kernel_rfl) (i_areCards_ev n)
def i_IsLine_i : CSh := ⟨[(.data true (.arr 4 tI)), (.data true (.arr 4 tI)), (.data true (.arr 4 tI))], []⟩
def i_IsLine_o : RSh := ⟨(.tcons (.data true .bool) (.tcons (.data true .bool) .tnil)), []⟩
theorem i_IsLine_ev (n : Nat) (x : TupT i_IsLine_i.tys) : evF ⟨tab, [i_areCards_e n, i_isLine_e n], n, []⟩ Try.f52 i_IsLine_i i_IsLine_o x = i_IsLine n x.1 x.2.1 x.2.2 := by kernel_rfl
noncomputable def i_IsLine_e (n : Nat) : Ent := ⟨52, i_IsLine_i, i_IsLine_o, fun x => i_IsLine n x.1 x.2.1 x.2.2⟩
theorem i_IsLine_ok (n : Nat) : EntOK Try.prog (i_IsLine_e n) ∧ Own Try.prog 52 := ent_ok tabOK0 (.cons (i_areCards_ok n) (.cons (i_isLine_ok n) .nil)) Try.func52 rfl (by kernel_rfl) (i_IsLine_ev n)
def i_LinesIn_i : CSh := ⟨[(.data false (.sl (.arr 4 tI)))], []⟩
def i_LinesIn_o : RSh := ⟨(.tcons (.own 0) (.tcons (.data true .bool) .tnil)), [.rows 62 true (.arr 3 tI)]⟩
theorem i_LinesIn_ev (n : Nat) (x : TupT i_LinesIn_i.tys) : evF ⟨tab, [i_IsHand_e n, i_linesIn_e n], n, []⟩ Try.f27 i_LinesIn_i i_LinesIn_o x = i_LinesIn n x := by kernel_rfl
noncomputable def i_LinesIn_e (n : Nat) : Ent := ⟨27, i_LinesIn_i, i_LinesIn_o, fun x => i_LinesIn n x⟩
theorem i_LinesIn_ok (n : Nat) : EntOK Try.prog (i_LinesIn_e n) ∧ Own Try.prog 27 := ent_ok tabOK0 (.cons (i_IsHand_ok n) (.cons (i_linesIn_ok n) .nil)) Try.func27 rfl (by kernel_rfl) (i_LinesIn_ev n)
def v_FnGhosts_i : CSh := ⟨[(.data false (.sl (.int .u8)))], []⟩
def v_FnGhosts_o : RSh := ⟨(.data true .bool), []⟩
theorem v_FnGhosts_ev (n : Nat) (x : TupT v_FnGhosts_i.tys) : evF ⟨tab, [v_rBig_e n, s_DrawIsGhost_e n, i_IsGhost_e n, s_IsGhost_e n, i_SumGhost_e n, s_SumGhost_e n, s_DrawGhostsIn_e n, i_GhostsIn_e n, s_GhostsIn_e n, s_DrawLinesOfKind_e n, i_LinesOfKind_e n, s_LinesOfKind_e n, v_rThrees_e n, i_CountKinds_e n, s_CountKinds_e n, s_DrawAllOfKind_e n, i_AllOfKind_e n, s_AllOfKind_e n, i_NearLines_e n, s_NearLines_e n, i_IsLine_e n, i_LinesIn_e n], n, [(54, ⟨[(0, (.data false (.sl (.int .u8)))), (12, (.own 0)), (13, (.own 1)), (15, (.own 2)), (17, (.data true tI))], [.rows 54 true (.arr 4 tI), .rows 53 true (.arr 6 tI), .rows 53 true (.arr 6 tI)], 0⟩), (77, ⟨[(0, (.data false (.sl (.int .u8)))), (12, (.own 0)), (13, (.own 1)), (15, (.own 2)), (17, (.data true tI)), (18, (.own 3)), (19, (.data true tI))], [.rows 54 true (.arr 4 tI), .rows 53 true (.arr 6 tI), .rows 53 true (.arr 6 tI), .rows 54 true (.arr 4 tI)], 0⟩), (150, ⟨[(22, (.own 0)), (37, (.own 1))], [.rows 54 true (.arr 4 tI), .rows 62 true (.arr 3 tI)], 0⟩), (168, ⟨[(22, (.own 0)), (37, (.own 1)), (43, (.data true tI))], [.rows 54 true (.arr 4 tI), .rows 62 true (.arr 3 tI)], 0⟩)]⟩ Try.f4 v_FnGhosts_i v_FnGhosts_o x = v_FnGhosts n x := by kernel_rfl
noncomputable def v_FnGhosts_e (n : Nat) : Ent := ⟨4, v_FnGhosts_i, v_FnGhosts_o, fun x => v_FnGhosts n x⟩
theorem v_FnGhosts_ok (n : Nat) : EntOK Try.prog (v_FnGhosts_e n) ∧ Own Try.prog 4 := ent_ok tabOK0 (.cons (v_rBig_ok n) (.cons (s_DrawIsGhost_ok n) (.cons (i_IsGhost_ok n) (.cons (s_IsGhost_ok n) (.cons (i_SumGhost_ok n) (.cons (s_SumGhost_ok n) (.cons (s_DrawGhostsIn_ok n) (.cons (i_GhostsIn_ok n) (.cons (s_GhostsIn_ok n) (.cons (s_DrawLinesOfKind_ok n) (.cons (i_LinesOfKind_ok n) (.cons (s_LinesOfKind_ok n) (.cons (v_rThrees_ok n) (.cons (i_CountKinds_ok n) (.cons (s_CountKinds_ok n) (.cons (s_DrawAllOfKind_ok n) (.cons (i_AllOfKind_ok n) (.cons (s_AllOfKind_ok n) (.cons (i_NearLines_ok n) (.cons (s_NearLines_ok n) (.cons (i_IsLine_ok n) (.cons (i_LinesIn_ok n) .nil)))))))))))))))))))))) Try.func4 rfl (by kernel_rfl) (v_FnGhosts_ev n)
end Go.Proofs.Ytfoielhhflbbfaa
