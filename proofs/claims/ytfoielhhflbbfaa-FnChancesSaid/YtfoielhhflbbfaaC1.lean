/- Printed by a program of the session: the contracts of the seat's functions. -/
import Derived.Test.YtfoielhhflbbfaaZ7
import Derived.Test.YtfoielhhflbbfaaPL
import Derived.Test.YtfoielhhflbbfaaRows
import Derived.KernelRfl
namespace Go.Proofs.Ytfoielhhflbbfaa
open Go Go.Tv Go.Pl Go.RowKit
set_option linter.unusedVariables false
abbrev tI : Ty := .int .i64
def tab : Tab := ⟨[(2, ⟨tI, 0, 8⟩), (3, ⟨tI, 0, 8⟩), (4, ⟨.bool, 0, 1⟩), (5, ⟨(.int .u8), 0, 1⟩), (6, ⟨(.int .u8), 0, 1⟩), (7, ⟨(.pair tI (.pair tI (.pair .bool (.int .u8)))), 4, 24⟩), (8, ⟨(.pair tI (.pair tI (.pair .bool (.int .u8)))), 4, 24⟩), (9, ⟨.str, 0, 16⟩), (10, ⟨.str, 0, 16⟩), (11, ⟨.str, 0, 16⟩), (12, ⟨(.int .u64), 0, 8⟩), (13, ⟨(.pair .str (.int .u64)), 2, 24⟩), (14, ⟨(.pair .str (.int .u64)), 2, 24⟩), (21, ⟨(.int .i32), 0, 4⟩), (22, ⟨(.sl (.int .u8)), 5, 1⟩), (24, ⟨(.sl (.arr 4 tI)), 54, 32⟩), (26, ⟨(.arr 2 tI), 3, 8⟩), (38, ⟨(.sl (.arr 3 tI)), 62, 24⟩), (42, ⟨(.sl tI), 3, 8⟩), (50, ⟨(.sl (.arr 6 tI)), 53, 48⟩), (53, ⟨(.arr 6 tI), 3, 8⟩), (54, ⟨(.arr 4 tI), 3, 8⟩), (57, ⟨(.arr 5 tI), 3, 8⟩), (62, ⟨(.arr 3 tI), 3, 8⟩), (63, ⟨(.pair tI (.pair tI (.sl (.arr 4 tI)))), 3, 40⟩), (64, ⟨(.pair tI (.pair tI (.sl (.arr 4 tI)))), 3, 40⟩), (65, ⟨(.pair (.pair tI (.pair tI (.sl (.arr 4 tI)))) (.pair (.sl tI) (.sl tI))), 3, 88⟩), (66, ⟨(.pair (.pair tI (.pair tI (.sl (.arr 4 tI)))) (.pair (.sl tI) (.sl tI))), 3, 88⟩), (76, ⟨(.pair tI (.arr 3 tI)), 2, 32⟩), (77, ⟨(.pair tI (.arr 3 tI)), 2, 32⟩), (84, ⟨(.sl (.pair tI (.arr 3 tI))), 77, 32⟩), (116, ⟨(.arr 9 (.arr 4 tI)), 54, 32⟩), (123, ⟨(.int .u64), 0, 8⟩), (124, ⟨(.pair (.sl (.int .u8)) (.pair tI (.int .u64))), 3, 40⟩), (125, ⟨(.pair (.sl (.int .u8)) (.pair tI (.int .u64))), 3, 40⟩), (150, ⟨(.sl (.sl tI)), 42, 24⟩), (185, ⟨(.arr 81 .bool), 4, 1⟩), (187, ⟨(.arr 81 tI), 3, 8⟩), (194, ⟨(.arr 3 (.arr 4 tI)), 54, 32⟩), (207, ⟨(.int .u64), 0, 8⟩), (208, ⟨(.sl (.arr 2 tI)), 26, 16⟩), (221, ⟨(.sl (.sl (.arr 4 tI))), 24, 24⟩), (225, ⟨tI, 0, 8⟩), (232, ⟨(.int .u32), 0, 4⟩), (234, ⟨(.int .u64), 0, 8⟩), (248, ⟨(.int .u8), 0, 1⟩), (249, ⟨(.int .u8), 0, 1⟩), (252, ⟨(.int .i32), 0, 4⟩), (253, ⟨(.int .i32), 0, 4⟩)], [7, 8, 26, 53, 54, 57, 62, 76, 77, 116, 185, 187, 194], [1, 23, 25, 28, 29, 30, 31, 33, 34, 36, 37, 40, 41, 44, 46, 47, 49, 52, 55, 56, 59, 60, 61, 67, 68, 69, 70, 71, 73, 74, 75, 79, 81, 82, 83, 86, 88, 89, 91, 92, 94, 96, 98, 99, 101, 103, 105, 106, 107, 109, 110, 111, 112, 114, 115, 118, 119, 121, 126, 127, 128, 129, 130, 131, 132, 133, 134, 135, 136, 137, 138, 139, 140, 141, 142, 143, 144, 145, 146, 147, 148, 149, 151, 152, 153, 154, 155, 156, 157, 158, 159, 160, 161, 162, 163, 164, 165, 166, 167, 168, 169, 170, 171, 172, 173, 174, 175, 176, 177, 179, 180, 181, 182, 183, 184, 186, 188, 189, 190, 191, 192, 193, 195, 196, 197, 198, 199, 201, 202, 203, 204, 205, 206, 209, 210, 211, 212, 213, 214, 215, 216, 217, 218, 219, 220, 222, 223, 224, 227, 228, 229, 230, 231, 233, 235, 236, 237, 239, 241, 242, 250]⟩
theorem tabOK0 : TabOK Try.prog tab := ⟨by kernel_rfl, by kernel_rfl⟩
def v_vBig_i : CSh := ⟨[(.data false (.sl (.int .u8)))], []⟩
def v_vBig_o : RSh := ⟨(.data true .bool), []⟩
theorem v_vBig_ev (n : Nat) (x : TupT v_vBig_i.tys) : evF ⟨tab, [], n, []⟩ Try.f9 v_vBig_i v_vBig_o x = v_vBig n x := by kernel_rfl
noncomputable def v_vBig_e (n : Nat) : Ent := ⟨9, v_vBig_i, v_vBig_o, fun x => v_vBig n x⟩
theorem v_vBig_ok (n : Nat) : EntOK Try.prog (v_vBig_e n) ∧ Own Try.prog 9 := ent_ok tabOK0 .nil Try.func9 rfl (by kernel_rfl) (v_vBig_ev n)
def s_Cur_next'p_i : CSh := ⟨[(.ptr 0 [])], [.var 125 (.data true (.pair (.sl (.int .u8)) (.pair tI (.int .u64))))]⟩
def s_Cur_next'p_o : RSh := ⟨(.data true tI), [.var 125 (.data true (.pair (.sl (.int .u8)) (.pair tI (.int .u64))))]⟩
theorem s_Cur_next'p_ev (n : Nat) (x : TupT s_Cur_next'p_i.tys) : evF ⟨tab, [], n, [(4, ⟨[(0, (.ptr 0 [])), (3, (.data true tI))], [.var 125 (.data true (.pair (.sl (.int .u8)) (.pair tI (.int .u64))))], 1⟩)]⟩ Try.f228 s_Cur_next'p_i s_Cur_next'p_o x = s_Cur_next'p n x := by kernel_rfl
noncomputable def s_Cur_next'p_e (n : Nat) : Ent := ⟨228, s_Cur_next'p_i, s_Cur_next'p_o, fun x => s_Cur_next'p n x⟩
theorem s_Cur_next'p_ok (n : Nat) : EntOK Try.prog (s_Cur_next'p_e n) ∧ Own Try.prog 228 := ent_ok tabOK0 .nil Try.func228 rfl (by kernel_rfl) (s_Cur_next'p_ev n)
def s_Cur_pick'p_i : CSh := ⟨[(.ptr 0 []), (.data true tI)], [.var 125 (.data true (.pair (.sl (.int .u8)) (.pair tI (.int .u64))))]⟩
def s_Cur_pick'p_o : RSh := ⟨(.data true tI), [.var 125 (.data true (.pair (.sl (.int .u8)) (.pair tI (.int .u64))))]⟩
theorem s_Cur_pick'p_ev (n : Nat) (x : TupT s_Cur_pick'p_i.tys) : evF ⟨tab, [s_Cur_next'p_e n], n, []⟩ Try.f132 s_Cur_pick'p_i s_Cur_pick'p_o x = s_Cur_pick'p n x.1 x.2 := by kernel_rfl
noncomputable def s_Cur_pick'p_e (n : Nat) : Ent := ⟨132, s_Cur_pick'p_i, s_Cur_pick'p_o, fun x => s_Cur_pick'p n x.1 x.2⟩
theorem s_Cur_pick'p_ok (n : Nat) : EntOK Try.prog (s_Cur_pick'p_e n) ∧ Own Try.prog 132 := ent_ok tabOK0 (.cons (s_Cur_next'p_ok n) .nil) Try.func132 rfl (by kernel_rfl) (s_Cur_pick'p_ev n)
def s_Cur_among'pl_i : CSh := ⟨[(.ptr 0 []), (.data false (.sl tI))], [.var 125 (.data true (.pair (.sl (.int .u8)) (.pair tI (.int .u64))))]⟩
def s_Cur_among'pl_o : RSh := ⟨(.data true tI), [.var 125 (.data true (.pair (.sl (.int .u8)) (.pair tI (.int .u64))))]⟩
theorem s_Cur_among'pl_ev (n : Nat) (x : TupT s_Cur_among'pl_i.tys) : evF ⟨tab, [s_Cur_pick'p_e n], n, []⟩ Try.f131 s_Cur_among'pl_i s_Cur_among'pl_o x = s_Cur_among'pl n x.1 x.2 := by kernel_rfl
noncomputable def s_Cur_among'pl_e (n : Nat) : Ent := ⟨131, s_Cur_among'pl_i, s_Cur_among'pl_o, fun x => s_Cur_among'pl n x.1 x.2⟩
theorem s_Cur_among'pl_ok (n : Nat) : EntOK Try.prog (s_Cur_among'pl_e n) ∧ Own Try.prog 131 := ent_ok tabOK0 (.cons (s_Cur_pick'p_ok n) .nil) Try.func131 rfl (by kernel_rfl) (s_Cur_among'pl_ev n)
def s_l2At_i : CSh := ⟨[(.data true tI)], []⟩
def s_l2At_o : RSh := ⟨(.data true (.arr 4 tI)), []⟩
theorem s_l2At_ev (n : Nat) (x : TupT s_l2At_i.tys) : evF ⟨tab, [], n, []⟩ Try.f151 s_l2At_i s_l2At_o x = s_l2At n x := by kernel_rfl
noncomputable def s_l2At_e (n : Nat) : Ent := ⟨151, s_l2At_i, s_l2At_o, fun x => s_l2At n x⟩
theorem s_l2At_ok (n : Nat) : EntOK Try.prog (s_l2At_e n) ∧ Own Try.prog 151 := ent_ok tabOK0 .nil Try.func151 rfl (by kernel_rfl) (s_l2At_ev n)
def s_l2Number_i : CSh := ⟨[(.data true (.arr 4 tI))], []⟩
def s_l2Number_o : RSh := ⟨(.data true tI), []⟩
theorem s_l2Number_ev (n : Nat) (x : TupT s_l2Number_i.tys) : evF ⟨tab, [], n, []⟩ Try.f269 s_l2Number_i s_l2Number_o x = s_l2Number n x := by kernel_rfl
noncomputable def s_l2Number_e (n : Nat) : Ent := ⟨269, s_l2Number_i, s_l2Number_o, fun x => s_l2Number n x⟩
theorem s_l2Number_ok (n : Nat) : EntOK Try.prog (s_l2Number_e n) ∧ Own Try.prog 269 := ent_ok tabOK0 .nil Try.func269 rfl (by kernel_rfl) (s_l2Number_ev n)
def s_l2Less_i : CSh := ⟨[(.data true (.arr 4 tI)), (.data true (.arr 4 tI))], []⟩
def s_l2Less_o : RSh := ⟨(.data true .bool), []⟩
theorem s_l2Less_ev (n : Nat) (x : TupT s_l2Less_i.tys) : evF ⟨tab, [s_l2Number_e n], n, []⟩ Try.f226 s_l2Less_i s_l2Less_o x = s_l2Less n x.1 x.2 := by kernel_rfl
noncomputable def s_l2Less_e (n : Nat) : Ent := ⟨226, s_l2Less_i, s_l2Less_o, fun x => s_l2Less n x.1 x.2⟩
theorem s_l2Less_ok (n : Nat) : EntOK Try.prog (s_l2Less_e n) ∧ Own Try.prog 226 := ent_ok tabOK0 (.cons (s_l2Number_ok n) .nil) Try.func226 rfl (by kernel_rfl) (s_l2Less_ev n)
def s_l2Own_i : CSh := ⟨[(.data false (.sl (.arr 4 tI)))], []⟩
def s_l2Own_o : RSh := ⟨(.own 0), [.rows 54 true (.arr 4 tI)]⟩
theorem s_l2Own_ev (n : Nat) (x : TupT s_l2Own_i.tys) : evF ⟨tab, [], n, []⟩ Try.f233 s_l2Own_i s_l2Own_o x = s_l2Own n x := by kernel_rfl
noncomputable def s_l2Own_e (n : Nat) : Ent := ⟨233, s_l2Own_i, s_l2Own_o, fun x => s_l2Own n x⟩
theorem s_l2Own_ok (n : Nat) : EntOK Try.prog (s_l2Own_e n) ∧ Own Try.prog 233 := ent_ok tabOK0 .nil Try.func233 rfl (by kernel_rfl) (s_l2Own_ev n)
def s_l2Put_i : CSh := ⟨[(.data false (.sl (.arr 4 tI))), (.data true (.arr 4 tI))], []⟩
def s_l2Put_o : RSh := ⟨(.own 0), [.rows 54 true (.arr 4 tI)]⟩
theorem s_l2Put_ev (n : Nat) (x : TupT s_l2Put_i.tys) : evF ⟨tab, [s_l2Less_e n, s_l2Own_e n], n, [(6, ⟨[(0, (.data false (.sl (.arr 4 tI)))), (3, (.ptr 0 [])), (5, (.data true tI))], [.var 54 (.data true (.arr 4 tI))], 0⟩)]⟩ Try.f149 s_l2Put_i s_l2Put_o x = s_l2Put n x.1 x.2 := by kernel_rfl
noncomputable def s_l2Put_e (n : Nat) : Ent := ⟨149, s_l2Put_i, s_l2Put_o, fun x => s_l2Put n x.1 x.2⟩
theorem s_l2Put_ok (n : Nat) : EntOK Try.prog (s_l2Put_e n) ∧ Own Try.prog 149 := ent_ok tabOK0 (.cons (s_l2Less_ok n) (.cons (s_l2Own_ok n) .nil)) Try.func149 rfl (by kernel_rfl) (s_l2Put_ev n)
def s_Cur_one'p_i : CSh := ⟨[(.ptr 0 []), (.data true tI)], [.var 125 (.data true (.pair (.sl (.int .u8)) (.pair tI (.int .u64))))]⟩
def s_Cur_one'p_o : RSh := ⟨(.data true .bool), [.var 125 (.data true (.pair (.sl (.int .u8)) (.pair tI (.int .u64))))]⟩
theorem s_Cur_one'p_ev (n : Nat) (x : TupT s_Cur_one'p_i.tys) : evF ⟨tab, [s_Cur_pick'p_e n], n, []⟩ Try.f148 s_Cur_one'p_i s_Cur_one'p_o x = s_Cur_one'p n x.1 x.2 := by kernel_rfl
noncomputable def s_Cur_one'p_e (n : Nat) : Ent := ⟨148, s_Cur_one'p_i, s_Cur_one'p_o, fun x => s_Cur_one'p n x.1 x.2⟩
theorem s_Cur_one'p_ok (n : Nat) : EntOK Try.prog (s_Cur_one'p_e n) ∧ Own Try.prog 148 := ent_ok tabOK0 (.cons (s_Cur_pick'p_ok n) .nil) Try.func148 rfl (by kernel_rfl) (s_Cur_one'p_ev n)
def s_Cur_hand'p_i : CSh := ⟨[(.ptr 0 [])], [.var 125 (.data true (.pair (.sl (.int .u8)) (.pair tI (.int .u64))))]⟩
def s_Cur_hand'p_o : RSh := ⟨(.own 1), [.var 125 (.data true (.pair (.sl (.int .u8)) (.pair tI (.int .u64)))), .rows 54 true (.arr 4 tI)]⟩
theorem s_Cur_hand'p_ev (n : Nat) (x : TupT s_Cur_hand'p_i.tys) : evF ⟨tab, [s_Cur_among'pl_e n, s_Cur_pick'p_e n, s_l2At_e n, s_l2Put_e n, s_Cur_one'p_e n], n, [(8, ⟨[(0, (.ptr 0 [])), (3, (.own 1)), (4, (.data true tI)), (5, (.data true tI))], [.var 125 (.data true (.pair (.sl (.int .u8)) (.pair tI (.int .u64)))), .rows 54 true (.arr 4 tI)], 1⟩), (23, ⟨[(0, (.ptr 0 [])), (3, (.own 1)), (4, (.data true tI)), (5, (.data true tI)), (6, (.ptr 2 [])), (7, (.data true tI))], [.var 125 (.data true (.pair (.sl (.int .u8)) (.pair tI (.int .u64)))), .rows 54 true (.arr 4 tI), .var 54 (.data true (.arr 4 tI))], 1⟩), (5000038, ⟨[(0, (.ptr 0 [])), (3, (.own 1)), (39, (.data true .bool))], [.var 125 (.data true (.pair (.sl (.int .u8)) (.pair tI (.int .u64)))), .rows 54 true (.arr 4 tI)], 1⟩)]⟩ Try.f141 s_Cur_hand'p_i s_Cur_hand'p_o x = s_Cur_hand'p n x := by kernel_rfl
noncomputable def s_Cur_hand'p_e (n : Nat) : Ent := ⟨141, s_Cur_hand'p_i, s_Cur_hand'p_o, fun x => s_Cur_hand'p n x⟩
theorem s_Cur_hand'p_ok (n : Nat) : EntOK Try.prog (s_Cur_hand'p_e n) ∧ Own Try.prog 141 := ent_ok tabOK0 (.cons (s_Cur_among'pl_ok n) (.cons (s_Cur_pick'p_ok n) (.cons (s_l2At_ok n) (.cons (s_l2Put_ok n) (.cons (s_Cur_one'p_ok n) .nil))))) Try.func141 rfl (by kernel_rfl) (s_Cur_hand'p_ev n)
def s_l1In_i : CSh := ⟨[(.data true tI), (.data true tI), (.data true tI)], []⟩
def s_l1In_o : RSh := ⟨(.data true .bool), []⟩
theorem s_l1In_ev (n : Nat) (x : TupT s_l1In_i.tys) : evF ⟨tab, [], n, []⟩ Try.f134 s_l1In_i s_l1In_o x = s_l1In n x.1 x.2.1 x.2.2 := by kernel_rfl
noncomputable def s_l1In_e (n : Nat) : Ent := ⟨134, s_l1In_i, s_l1In_o, fun x => s_l1In n x.1 x.2.1 x.2.2⟩
theorem s_l1In_ok (n : Nat) : EntOK Try.prog (s_l1In_e n) ∧ Own Try.prog 134 := ent_ok tabOK0 .nil Try.func134 rfl (by kernel_rfl) (s_l1In_ev n)
def s_l2Card_i : CSh := ⟨[(.data true (.arr 4 tI))], []⟩
def s_l2Card_o : RSh := ⟨(.data true .bool), []⟩
theorem s_l2Card_ev (n : Nat) (x : TupT s_l2Card_i.tys) : evF ⟨tab, [s_l1In_e n], n, [(6, ⟨[(1, (.ptr 0 [])), (3, (.data true tI))], [.var 54 (.data true (.arr 4 tI))], 0⟩)]⟩ Try.f214 s_l2Card_i s_l2Card_o x = s_l2Card n x := by kernel_rfl
noncomputable def s_l2Card_e (n : Nat) : Ent := ⟨214, s_l2Card_i, s_l2Card_o, fun x => s_l2Card n x⟩
theorem s_l2Card_ok (n : Nat) : EntOK Try.prog (s_l2Card_e n) ∧ Own Try.prog 214 := ent_ok tabOK0 (.cons (s_l1In_ok n) .nil) Try.func214 rfl (by kernel_rfl) (s_l2Card_ev n)
def s_l2Hand_i : CSh := ⟨[(.data false (.sl (.arr 4 tI)))], []⟩
def s_l2Hand_o : RSh := ⟨(.data true .bool), []⟩
theorem s_l2Hand_ev (n : Nat) (x : TupT s_l2Hand_i.tys) : evF ⟨tab, [s_l2Card_e n, s_l2Less_e n], n, [(6, ⟨[(0, (.data false (.sl (.arr 4 tI)))), (3, (.data true tI))], [], 0⟩)]⟩ Try.f127 s_l2Hand_i s_l2Hand_o x = s_l2Hand n x := by kernel_rfl
noncomputable def s_l2Hand_e (n : Nat) : Ent := ⟨127, s_l2Hand_i, s_l2Hand_o, fun x => s_l2Hand n x⟩
theorem s_l2Hand_ok (n : Nat) : EntOK Try.prog (s_l2Hand_e n) ∧ Own Try.prog 127 := ent_ok tabOK0 (.cons (s_l2Card_ok n) (.cons (s_l2Less_ok n) .nil)) Try.func127 rfl (by kernel_rfl) (s_l2Hand_ev n)
def s_l2Third_i : CSh := ⟨[(.data true (.arr 4 tI)), (.data true (.arr 4 tI))], []⟩
def s_l2Third_o : RSh := ⟨(.data true (.arr 4 tI)), []⟩
theorem s_l2Third_ev (n : Nat) (x : TupT s_l2Third_i.tys) : evF ⟨tab, [], n, [(8, ⟨[(2, (.ptr 0 [])), (3, (.ptr 1 [])), (4, (.ptr 2 [])), (5, (.ptr 3 [])), (6, (.data true tI))], [.var 54 (.data true (.arr 4 tI)), .var 54 (.data true (.arr 4 tI)), .var 54 (.data true (.arr 4 tI)), .var 54 (.data true (.arr 4 tI))], 0⟩)]⟩ Try.f223 s_l2Third_i s_l2Third_o x = s_l2Third n x.1 x.2 := by kernel_rfl
noncomputable def s_l2Third_e (n : Nat) : Ent := ⟨223, s_l2Third_i, s_l2Third_o, fun x => s_l2Third n x.1 x.2⟩
theorem s_l2Third_ok (n : Nat) : EntOK Try.prog (s_l2Third_e n) ∧ Own Try.prog 223 := ent_ok tabOK0 .nil Try.func223 rfl (by kernel_rfl) (s_l2Third_ev n)
def s_Cur_dense7'p_i : CSh := ⟨[(.ptr 0 [])], [.var 125 (.data true (.pair (.sl (.int .u8)) (.pair tI (.int .u64))))]⟩
def s_Cur_dense7'p_o : RSh := ⟨(.own 1), [.var 125 (.data true (.pair (.sl (.int .u8)) (.pair tI (.int .u64)))), .rows 54 true (.arr 4 tI)]⟩
theorem s_Cur_dense7'p_ev (n : Nat) (x : TupT s_Cur_dense7'p_i.tys) : evF ⟨tab, [s_Cur_hand'p_e n, s_l2Hand_e n, s_Cur_among'pl_e n, s_Cur_pick'p_e n, s_l2At_e n, s_l2Put_e n, s_l2Third_e n, s_Cur_one'p_e n], n, [(18, ⟨[(0, (.ptr 0 [])), (4, (.own 1)), (5, (.data true tI))], [.var 125 (.data true (.pair (.sl (.int .u8)) (.pair tI (.int .u64)))), .rows 54 true (.arr 4 tI)], 1⟩), (29, ⟨[(0, (.ptr 0 [])), (4, (.own 1)), (5, (.data true tI)), (6, (.ptr 2 [])), (7, (.ptr 3 []))], [.var 125 (.data true (.pair (.sl (.int .u8)) (.pair tI (.int .u64)))), .rows 54 true (.arr 4 tI), .var 54 (.data true (.arr 4 tI)), .var 54 (.data true (.arr 4 tI))], 1⟩), (5000006, ⟨[(0, (.ptr 0 [])), (3, (.own 1)), (16, (.data true .bool))], [.var 125 (.data true (.pair (.sl (.int .u8)) (.pair tI (.int .u64)))), .rows 54 true (.arr 4 tI)], 1⟩), (5000031, ⟨[(0, (.ptr 0 [])), (4, (.own 1)), (5, (.data true tI)), (6, (.ptr 2 [])), (7, (.ptr 3 [])), (38, (.data true .bool))], [.var 125 (.data true (.pair (.sl (.int .u8)) (.pair tI (.int .u64)))), .rows 54 true (.arr 4 tI), .var 54 (.data true (.arr 4 tI)), .var 54 (.data true (.arr 4 tI))], 1⟩)]⟩ Try.f122 s_Cur_dense7'p_i s_Cur_dense7'p_o x = s_Cur_dense7'p n x := by kernel_rfl
noncomputable def s_Cur_dense7'p_e (n : Nat) : Ent := ⟨122, s_Cur_dense7'p_i, s_Cur_dense7'p_o, fun x => s_Cur_dense7'p n x⟩
theorem s_Cur_dense7'p_ok (n : Nat) : EntOK Try.prog (s_Cur_dense7'p_e n) ∧ Own Try.prog 122 := ent_ok tabOK0 (.cons (s_Cur_hand'p_ok n) (.cons (s_l2Hand_ok n) (.cons (s_Cur_among'pl_ok n) (.cons (s_Cur_pick'p_ok n) (.cons (s_l2At_ok n) (.cons (s_l2Put_ok n) (.cons (s_l2Third_ok n) (.cons (s_Cur_one'p_ok n) .nil)))))))) Try.func122 rfl (by kernel_rfl) (s_Cur_dense7'p_ev n)
def s_DrawChanceLine_i : CSh := ⟨[(.data false (.sl (.int .u8)))], []⟩
def s_DrawChanceLine_o : RSh := ⟨(.own 0), [.rows 54 true (.arr 4 tI)]⟩
theorem s_DrawChanceLine_ev (n : Nat) (x : TupT s_DrawChanceLine_i.tys) : evF ⟨tab, [s_Cur_dense7'p_e n], n, []⟩ Try.f10 s_DrawChanceLine_i s_DrawChanceLine_o x = s_DrawChanceLine n x := by kernel_rfl
noncomputable def s_DrawChanceLine_e (n : Nat) : Ent := ⟨10, s_DrawChanceLine_i, s_DrawChanceLine_o, fun x => s_DrawChanceLine n x⟩
theorem s_DrawChanceLine_ok (n : Nat) : EntOK Try.prog (s_DrawChanceLine_e n) ∧ Own Try.prog 10 := ent_ok tabOK0 (.cons (s_Cur_dense7'p_ok n) .nil) Try.func10 rfl (by kernel_rfl) (s_DrawChanceLine_ev n)
def i_within_i : CSh := ⟨[(.data true tI), (.data true tI), (.data true tI)], []⟩
def i_within_o : RSh := ⟨(.data true .bool), []⟩
theorem i_within_ev (n : Nat) (x : TupT i_within_i.tys) : evF ⟨tab, [], n, []⟩ Try.f133 i_within_i i_within_o x = i_within n x.1 x.2.1 x.2.2 := by kernel_rfl
noncomputable def i_within_e (n : Nat) : Ent := ⟨133, i_within_i, i_within_o, fun x => i_within n x.1 x.2.1 x.2.2⟩
theorem i_within_ok (n : Nat) : EntOK Try.prog (i_within_e n) ∧ Own Try.prog 133 := ent_ok tabOK0 .nil Try.func133 rfl (by kernel_rfl) (i_within_ev n)
def i_allWithin_1'pp_i : CSh := ⟨[(.data true tI), (.ptr 0 []), (.ptr 1 [])], [.var 3 (.data true tI), .var 3 (.data true tI)]⟩
def i_allWithin_1'pp_o : RSh := ⟨(.data true .bool), [.var 3 (.data true tI), .var 3 (.data true tI)]⟩
theorem i_allWithin_1'pp_ev (n : Nat) (x : TupT i_allWithin_1'pp_i.tys) : evF ⟨tab, [i_within_e n], n, []⟩ Try.f250 i_allWithin_1'pp_i i_allWithin_1'pp_o x = i_allWithin_1'pp n x.1 x.2.1 x.2.2 := by kernel_rfl
noncomputable def i_allWithin_1'pp_e (n : Nat) : Ent := ⟨250, i_allWithin_1'pp_i, i_allWithin_1'pp_o, fun x => i_allWithin_1'pp n x.1 x.2.1 x.2.2⟩
theorem i_allWithin_1'pp_ok (n : Nat) : EntOK Try.prog (i_allWithin_1'pp_e n) ∧ Own Try.prog 250 := ent_ok tabOK0 (.cons (i_within_ok n) .nil) Try.func250 rfl (by kernel_rfl) (i_allWithin_1'pp_ev n)
def slices_IndexFunc_Sint_int_'l_i_allWithin_1pp_i : CSh := ⟨[(.data false (.sl tI)), (.clo 250 (.tcons (.ptr 0 []) (.tcons (.ptr 1 []) .tnil)))], [.var 3 (.data true tI), .var 3 (.data true tI)]⟩
def slices_IndexFunc_Sint_int_'l_i_allWithin_1pp_o : RSh := ⟨(.data true tI), [.var 3 (.data true tI), .var 3 (.data true tI)]⟩
theorem slices_IndexFunc_Sint_int_'l_i_allWithin_1pp_ev (n : Nat) (x : TupT slices_IndexFunc_Sint_int_'l_i_allWithin_1pp_i.tys) : evF ⟨tab, [i_allWithin_1'pp_e n], n, [(6, ⟨[(0, (.data false (.sl tI))), (1, (.clo 250 (.tcons (.ptr 0 []) (.tcons (.ptr 1 []) .tnil)))), (7, (.data true tI)), (8, (.data true tI))], [.var 3 (.data true tI), .var 3 (.data true tI)], 2⟩)]⟩ Try.f279 slices_IndexFunc_Sint_int_'l_i_allWithin_1pp_i slices_IndexFunc_Sint_int_'l_i_allWithin_1pp_o x = slices_IndexFunc_Sint_int_'l_i_allWithin_1pp n x.1 x.2.1 x.2.2 := by kernel_rfl
noncomputable def slices_IndexFunc_Sint_int_'l_i_allWithin_1pp_e (n : Nat) : Ent := ⟨279, slices_IndexFunc_Sint_int_'l_i_allWithin_1pp_i, slices_IndexFunc_Sint_int_'l_i_allWithin_1pp_o, fun x => slices_IndexFunc_Sint_int_'l_i_allWithin_1pp n x.1 x.2.1 x.2.2⟩
theorem slices_IndexFunc_Sint_int_'l_i_allWithin_1pp_ok (n : Nat) : EntOK Try.prog (slices_IndexFunc_Sint_int_'l_i_allWithin_1pp_e n) ∧ Own Try.prog 279 := ent_ok tabOK0 (.cons (i_allWithin_1'pp_ok n) .nil) Try.func279 rfl (by kernel_rfl) (slices_IndexFunc_Sint_int_'l_i_allWithin_1pp_ev n)
def slices_ContainsFunc_Sint_int_'l_i_allWithin_1pp_i : CSh := ⟨[(.data false (.sl tI)), (.clo 250 (.tcons (.ptr 0 []) (.tcons (.ptr 1 []) .tnil)))], [.var 3 (.data true tI), .var 3 (.data true tI)]⟩
def slices_ContainsFunc_Sint_int_'l_i_allWithin_1pp_o : RSh := ⟨(.data true .bool), [.var 3 (.data true tI), .var 3 (.data true tI)]⟩
theorem slices_ContainsFunc_Sint_int_'l_i_allWithin_1pp_ev (n : Nat) (x : TupT slices_ContainsFunc_Sint_int_'l_i_allWithin_1pp_i.tys) : evF ⟨tab, [slices_IndexFunc_Sint_int_'l_i_allWithin_1pp_e n], n, []⟩ Try.f249 slices_ContainsFunc_Sint_int_'l_i_allWithin_1pp_i slices_ContainsFunc_Sint_int_'l_i_allWithin_1pp_o x = slices_ContainsFunc_Sint_int_'l_i_allWithin_1pp n x.1 x.2.1 x.2.2 := by kernel_rfl
noncomputable def slices_ContainsFunc_Sint_int_'l_i_allWithin_1pp_e (n : Nat) : Ent := ⟨249, slices_ContainsFunc_Sint_int_'l_i_allWithin_1pp_i, slices_ContainsFunc_Sint_int_'l_i_allWithin_1pp_o, fun x => slices_ContainsFunc_Sint_int_'l_i_allWithin_1pp n x.1 x.2.1 x.2.2⟩
theorem slices_ContainsFunc_Sint_int_'l_i_allWithin_1pp_ok (n : Nat) : EntOK Try.prog (slices_ContainsFunc_Sint_int_'l_i_allWithin_1pp_e n) ∧ Own Try.prog 249 := ent_ok tabOK0 (.cons (slices_IndexFunc_Sint_int_'l_i_allWithin_1pp_ok n) .nil) Try.func249 rfl (by kernel_rfl) (slices_ContainsFunc_Sint_int_'l_i_allWithin_1pp_ev n)
def i_allWithin_i : CSh := ⟨[(.data false (.sl tI)), (.data true tI), (.data true tI)], []⟩
def i_allWithin_o : RSh := ⟨(.data true .bool), []⟩
theorem i_allWithin_ev (n : Nat) (x : TupT i_allWithin_i.tys) : evF ⟨tab, [slices_ContainsFunc_Sint_int_'l_i_allWithin_1pp_e n], n, []⟩ Try.f179 i_allWithin_i i_allWithin_o x = i_allWithin n x.1 x.2.1 x.2.2 := by kernel_rfl
noncomputable def i_allWithin_e (n : Nat) : Ent := ⟨179, i_allWithin_i, i_allWithin_o, fun x => i_allWithin n x.1 x.2.1 x.2.2⟩
theorem i_allWithin_ok (n : Nat) : EntOK Try.prog (i_allWithin_e n) ∧ Own Try.prog 179 := ent_ok tabOK0 (.cons (slices_ContainsFunc_Sint_int_'l_i_allWithin_1pp_ok n) .nil) Try.func179 rfl (by kernel_rfl) (i_allWithin_ev n)
def i_IsCard_i : CSh := ⟨[(.data true (.arr 4 tI))], []⟩
def i_IsCard_o : RSh := ⟨(.data true .bool), []⟩
theorem i_IsCard_ev (n : Nat) (x : TupT i_IsCard_i.tys) : evF ⟨tab, [i_allWithin_e n], n, []⟩ Try.f99 i_IsCard_i i_IsCard_o x = i_IsCard n x := by kernel_rfl
noncomputable def i_IsCard_e (n : Nat) : Ent := ⟨99, i_IsCard_i, i_IsCard_o, fun x => i_IsCard n x⟩
theorem i_IsCard_ok (n : Nat) : EntOK Try.prog (i_IsCard_e n) ∧ Own Try.prog 99 := ent_ok tabOK0 (.cons (i_allWithin_ok n) .nil) Try.func99 rfl (by kernel_rfl) (i_IsCard_ev n)
def i_number_i : CSh := ⟨[(.data true (.arr 4 tI))], []⟩
def i_number_o : RSh := ⟨(.data true tI), []⟩
theorem i_number_ev (n : Nat) (x : TupT i_number_i.tys) : evF ⟨tab, [], n, [(8, ⟨[(3, (.data true tI)), (6, (.data true (.arr 4 tI))), (7, (.data true tI))], [], 0⟩)]⟩ Try.f155 i_number_i i_number_o x = i_number n x := by kernel_rfl
noncomputable def i_number_e (n : Nat) : Ent := ⟨155, i_number_i, i_number_o, fun x => i_number n x⟩
theorem i_number_ok (n : Nat) : EntOK Try.prog (i_number_e n) ∧ Own Try.prog 155 := ent_ok tabOK0 .nil Try.func155 rfl (by kernel_rfl) (i_number_ev n)
def i_IsHand_i : CSh := ⟨[(.data false (.sl (.arr 4 tI)))], []⟩
def i_IsHand_o : RSh := ⟨(.data true .bool), []⟩
theorem i_IsHand_ev (n : Nat) (x : TupT i_IsHand_i.tys) : evF ⟨tab, [i_IsCard_e n, i_number_e n], n, [(6, ⟨[(0, (.data false (.sl (.arr 4 tI)))), (5, (.data false (.sl (.arr 4 tI)))), (6, (.data true tI)), (7, (.data true tI))], [], 0⟩)]⟩ Try.f123 i_IsHand_i i_IsHand_o x = i_IsHand n x := by kernel_rfl
noncomputable def i_IsHand_e (n : Nat) : Ent := ⟨123, i_IsHand_i, i_IsHand_o, fun x => i_IsHand n x⟩
theorem i_IsHand_ok (n : Nat) : EntOK Try.prog (i_IsHand_e n) ∧ Own Try.prog 123 := ent_ok tabOK0 (.cons (i_IsCard_ok n) (.cons (i_number_ok n) .nil)) Try.func123 rfl (by kernel_rfl) (i_IsHand_ev n)
def i_third_i : CSh := ⟨[(.data true (.arr 4 tI)), (.data true (.arr 4 tI))], []⟩
def i_third_o : RSh := ⟨(.data true (.arr 4 tI)), []⟩
theorem i_third_ev (n : Nat) (x : TupT i_third_i.tys) : evF ⟨tab, [], n, [(8, ⟨[(2, (.ptr 0 [])), (3, (.ptr 1 [])), (4, (.ptr 2 [])), (5, (.ptr 3 [])), (8, (.data true tI))], [.var 54 (.data true (.arr 4 tI)), .var 54 (.data true (.arr 4 tI)), .var 54 (.data true (.arr 4 tI)), .var 54 (.data true (.arr 4 tI))], 0⟩)]⟩ Try.f166 i_third_i i_third_o x = i_third n x.1 x.2 := by kernel_rfl
noncomputable def i_third_e (n : Nat) : Ent := ⟨166, i_third_i, i_third_o, fun x => i_third n x.1 x.2⟩
theorem i_third_ok (n : Nat) : EntOK Try.prog (i_third_e n) ∧ Own Try.prog 166 := ent_ok tabOK0 .nil Try.func166 rfl (by kernel_rfl) (i_third_ev n)
def i_linesIn_i : CSh := ⟨[(.data false (.sl (.arr 4 tI)))], []⟩
def i_linesIn_o : RSh := ⟨(.own 0), [.rows 62 true (.arr 3 tI)]⟩
theorem i_linesIn_ev (n : Nat) (x : TupT i_linesIn_i.tys) : evF ⟨tab, [i_number_e n, i_third_e n], n, [(8, ⟨[(0, (.data false (.sl (.arr 4 tI)))), (3, (.ptr 0 [])), (12, (.data false (.sl (.arr 4 tI)))), (13, (.data true tI)), (14, (.data true tI))], [.var 187 (.data true (.arr 81 tI))], 0⟩), (27, ⟨[(0, (.data false (.sl (.arr 4 tI)))), (3, (.ptr 0 [])), (6, (.own 1)), (26, (.data false (.sl (.arr 4 tI)))), (27, (.data true tI)), (28, (.data true tI))], [.var 187 (.data true (.arr 81 tI)), .rows 62 true (.arr 3 tI)], 0⟩), (41, ⟨[(0, (.data false (.sl (.arr 4 tI)))), (3, (.ptr 0 [])), (6, (.own 1)), (7, (.data true tI)), (8, (.ptr 2 [])), (9, (.data true tI)), (26, (.data false (.sl (.arr 4 tI)))), (27, (.data true tI)), (28, (.data true tI))], [.var 187 (.data true (.arr 81 tI)), .rows 62 true (.arr 3 tI), .var 54 (.data true (.arr 4 tI))], 0⟩)]⟩ Try.f125 i_linesIn_i i_linesIn_o x = i_linesIn n x := by kernel_rfl
noncomputable def i_linesIn_e (n : Nat) : Ent := ⟨125, i_linesIn_i, i_linesIn_o, fun x => i_linesIn n x⟩
theorem i_linesIn_ok (n : Nat) : EntOK Try.prog (i_linesIn_e n) ∧ Own Try.prog 125 := ent_ok tabOK0 (.cons (i_number_ok n) (.cons (i_third_ok n) .nil)) Try.func125 rfl (by kernel_rfl) (i_linesIn_ev n)
def i_choose_i : CSh := ⟨[(.data true tI), (.data true tI)], []⟩
def i_choose_o : RSh := ⟨(.data true tI), []⟩
theorem i_choose_ev (n : Nat) (x : TupT i_choose_i.tys) : evF ⟨tab, [], n, [(8, ⟨[(0, (.data true tI)), (5, (.data true tI)), (7, (.data true tI)), (8, (.data true tI))], [], 0⟩)]⟩ Try.f126 i_choose_i i_choose_o x = i_choose n x.1 x.2 := by kernel_rfl
noncomputable def i_choose_e (n : Nat) : Ent := ⟨126, i_choose_i, i_choose_o, fun x => i_choose n x.1 x.2⟩
theorem i_choose_ok (n : Nat) : EntOK Try.prog (i_choose_e n) ∧ Own Try.prog 126 := ent_ok tabOK0 .nil Try.func126 rfl (by kernel_rfl) (i_choose_ev n)
def i_fraction_i : CSh := ⟨[(.data true tI), (.data true tI)], []⟩
def i_fraction_o : RSh := ⟨(.tcons (.data true (.arr 2 tI)) (.tcons (.data true .bool) .tnil)), []⟩
theorem i_fraction_ev (n : Nat) (x : TupT i_fraction_i.tys) : evF ⟨tab, [], n, [(6, ⟨[(0, (.data true tI)), (1, (.data true tI)), (4, (.ptr 0 [])), (6, (.data true tI)), (7, (.data true tI))], [.var 26 (.data true (.arr 2 tI))], 0⟩)]⟩ Try.f124 i_fraction_i i_fraction_o x = i_fraction n x.1 x.2 := by kernel_rfl
noncomputable def i_fraction_e (n : Nat) : Ent := ⟨124, i_fraction_i, i_fraction_o, fun x => i_fraction n x.1 x.2⟩
theorem i_fraction_ok (n : Nat) : EntOK Try.prog (i_fraction_e n) ∧ Own Try.prog 124 := ent_ok tabOK0 .nil Try.func124 rfl (by kernel_rfl) (i_fraction_ev n)
def i_ChanceLine_i : CSh := ⟨[(.data false (.sl (.arr 4 tI)))], []⟩
def i_ChanceLine_o : RSh := ⟨(.tcons (.data true (.arr 2 tI)) (.tcons (.data true .bool) .tnil)), []⟩
theorem i_ChanceLine_ev (n : Nat) (x : TupT i_ChanceLine_i.tys) : evF ⟨tab, [i_IsHand_e n, i_linesIn_e n, i_choose_e n, i_fraction_e n], n, []⟩ Try.f11 i_ChanceLine_i i_ChanceLine_o x = i_ChanceLine n x := by kernel_rfl
noncomputable def i_ChanceLine_e (n : Nat) : Ent := ⟨11, i_ChanceLine_i, i_ChanceLine_o, fun x => i_ChanceLine n x⟩
theorem i_ChanceLine_ok (n : Nat) : EntOK Try.prog (i_ChanceLine_e n) ∧ Own Try.prog 11 := ent_ok tabOK0 (.cons (i_IsHand_ok n) (.cons (i_linesIn_ok n) (.cons (i_choose_ok n) (.cons (i_fraction_ok n) .nil)))) Try.func11 rfl (by kernel_rfl) (i_ChanceLine_ev n)
def s_l2Place_i : CSh := ⟨[(.data false (.sl (.arr 4 tI))), (.data true (.arr 4 tI))], []⟩
def s_l2Place_o : RSh := ⟨(.data true tI), []⟩
theorem s_l2Place_ev (n : Nat) (x : TupT s_l2Place_i.tys) : evF ⟨tab, [], n, [(6, ⟨[(0, (.data false (.sl (.arr 4 tI)))), (3, (.ptr 0 [])), (5, (.data true tI))], [.var 54 (.data true (.arr 4 tI))], 0⟩)]⟩ Try.f227 s_l2Place_i s_l2Place_o x = s_l2Place n x.1 x.2 := by kernel_rfl
noncomputable def s_l2Place_e (n : Nat) : Ent := ⟨227, s_l2Place_i, s_l2Place_o, fun x => s_l2Place n x.1 x.2⟩
theorem s_l2Place_ok (n : Nat) : EntOK Try.prog (s_l2Place_e n) ∧ Own Try.prog 227 := ent_ok tabOK0 .nil Try.func227 rfl (by kernel_rfl) (s_l2Place_ev n)
def s_l2Lines_i : CSh := ⟨[(.data false (.sl (.arr 4 tI)))], []⟩
def s_l2Lines_o : RSh := ⟨(.own 0), [.rows 62 true (.arr 3 tI)]⟩
theorem s_l2Lines_ev (n : Nat) (x : TupT s_l2Lines_i.tys) : evF ⟨tab, [s_l2Third_e n, s_l2Place_e n], n, [(8, ⟨[(0, (.data false (.sl (.arr 4 tI)))), (3, (.own 0)), (4, (.data true tI))], [.rows 62 true (.arr 3 tI)], 0⟩), (20, ⟨[(0, (.data false (.sl (.arr 4 tI)))), (3, (.own 0)), (4, (.data true tI)), (5, (.data true tI))], [.rows 62 true (.arr 3 tI)], 0⟩)]⟩ Try.f129 s_l2Lines_i s_l2Lines_o x = s_l2Lines n x := by kernel_rfl
noncomputable def s_l2Lines_e (n : Nat) : Ent := ⟨129, s_l2Lines_i, s_l2Lines_o, fun x => s_l2Lines n x⟩
theorem s_l2Lines_ok (n : Nat) : EntOK Try.prog (s_l2Lines_e n) ∧ Own Try.prog 129 := ent_ok tabOK0 (.cons (s_l2Third_ok n) (.cons (s_l2Place_ok n) .nil)) Try.func129 rfl (by kernel_rfl) (s_l2Lines_ev n)
def s_l9Choose_i : CSh := ⟨[(.data true tI), (.data true tI)], []⟩
def s_l9Choose_o : RSh := ⟨(.data true tI), []⟩
theorem s_l9Choose_ev (n : Nat) (x : TupT s_l9Choose_i.tys) : evF ⟨tab, [], n, [(8, ⟨[(0, (.data true tI)), (1, (.data true tI)), (5, (.data true tI)), (6, (.data true tI))], [], 0⟩)]⟩ Try.f130 s_l9Choose_i s_l9Choose_o x = s_l9Choose n x.1 x.2 := by kernel_rfl
noncomputable def s_l9Choose_e (n : Nat) : Ent := ⟨130, s_l9Choose_i, s_l9Choose_o, fun x => s_l9Choose n x.1 x.2⟩
theorem s_l9Choose_ok (n : Nat) : EntOK Try.prog (s_l9Choose_e n) ∧ Own Try.prog 130 := ent_ok tabOK0 .nil Try.func130 rfl (by kernel_rfl) (s_l9Choose_ev n)
def s_l1Most_i : CSh := ⟨[(.data true tI), (.data true tI)], []⟩
def s_l1Most_o : RSh := ⟨(.data true tI), []⟩
theorem s_l1Most_ev (n : Nat) (x : TupT s_l1Most_i.tys) : evF ⟨tab, [], n, []⟩ Try.f211 s_l1Most_i s_l1Most_o x = s_l1Most n x.1 x.2 := by kernel_rfl
noncomputable def s_l1Most_e (n : Nat) : Ent := ⟨211, s_l1Most_i, s_l1Most_o, fun x => s_l1Most n x.1 x.2⟩
theorem s_l1Most_ok (n : Nat) : EntOK Try.prog (s_l1Most_e n) ∧ Own Try.prog 211 := ent_ok tabOK0 .nil Try.func211 rfl (by kernel_rfl) (s_l1Most_ev n)
def s_l9Cut_i : CSh := ⟨[(.data true tI), (.data true tI)], []⟩
def s_l9Cut_o : RSh := ⟨(.data true (.arr 2 tI)), []⟩
theorem s_l9Cut_ev (n : Nat) (x : TupT s_l9Cut_i.tys) : evF ⟨tab, [s_l1Most_e n], n, [(6, ⟨[(0, (.data true tI)), (1, (.data true tI)), (4, (.ptr 0 [])), (5, (.data true tI)), (6, (.data true tI))], [.var 26 (.data true (.arr 2 tI))], 0⟩)]⟩ Try.f128 s_l9Cut_i s_l9Cut_o x = s_l9Cut n x.1 x.2 := by kernel_rfl
noncomputable def s_l9Cut_e (n : Nat) : Ent := ⟨128, s_l9Cut_i, s_l9Cut_o, fun x => s_l9Cut n x.1 x.2⟩
theorem s_l9Cut_ok (n : Nat) : EntOK Try.prog (s_l9Cut_e n) ∧ Own Try.prog 128 := ent_ok tabOK0 (.cons (s_l1Most_ok n) .nil) Try.func128 rfl (by kernel_rfl) (s_l9Cut_ev n)
def s_ChanceLine_i : CSh := ⟨[(.data false (.sl (.arr 4 tI)))], []⟩
def s_ChanceLine_o : RSh := ⟨(.tcons (.data true (.arr 2 tI)) (.tcons (.data true .bool) .tnil)), []⟩
theorem s_ChanceLine_ev (n : Nat) (x : TupT s_ChanceLine_i.tys) : evF ⟨tab, [s_l2Hand_e n, s_l2Lines_e n, s_l9Choose_e n, s_l9Cut_e n], n, []⟩ Try.f12 s_ChanceLine_i s_ChanceLine_o x = s_ChanceLine n x := by kernel_rfl
noncomputable def s_ChanceLine_e (n : Nat) : Ent := ⟨12, s_ChanceLine_i, s_ChanceLine_o, fun x => s_ChanceLine n x⟩
theorem s_ChanceLine_ok (n : Nat) : EntOK Try.prog (s_ChanceLine_e n) ∧ Own Try.prog 12 := ent_ok tabOK0 (.cons (s_l2Hand_ok n) (.cons (s_l2Lines_ok n) (.cons (s_l9Choose_ok n) (.cons (s_l9Cut_ok n) .nil)))) Try.func12 rfl (by kernel_rfl) (s_ChanceLine_ev n)
def v_vCut_i : CSh := ⟨[(.data false (.sl (.int .u8))), (.data true tI)], []⟩
def v_vCut_o : RSh := ⟨(.own 0), [.rows 5 true (.int .u8)]⟩
theorem v_vCut_ev (n : Nat) (x : TupT v_vCut_i.tys) : evF ⟨tab, [], n, [(2, ⟨[(0, (.data false (.sl (.int .u8)))), (1, (.data true tI))], [], 0⟩)]⟩ Try.f14 v_vCut_i v_vCut_o x = v_vCut n x.1 x.2 := by kernel_rfl
noncomputable def v_vCut_e (n : Nat) : Ent := ⟨14, v_vCut_i, v_vCut_o, fun x => v_vCut n x.1 x.2⟩
theorem v_vCut_ok (n : Nat) : EntOK Try.prog (v_vCut_e n) ∧ Own Try.prog 14 := ent_ok tabOK0 .nil Try.func14 rfl (by kernel_rfl) (v_vCut_ev n)
def s_DrawChanceKind_i : CSh := ⟨[(.data false (.sl (.int .u8)))], []⟩
def s_DrawChanceKind_o : RSh := ⟨(.data true tI), []⟩
theorem s_DrawChanceKind_ev (n : Nat) (x : TupT s_DrawChanceKind_i.tys) : evF ⟨tab, [s_Cur_pick'p_e n, s_Cur_among'pl_e n], n, []⟩ Try.f13 s_DrawChanceKind_i s_DrawChanceKind_o x = s_DrawChanceKind n x := by kernel_rfl
noncomputable def s_DrawChanceKind_e (n : Nat) : Ent := ⟨13, s_DrawChanceKind_i, s_DrawChanceKind_o, fun x => s_DrawChanceKind n x⟩
theorem s_DrawChanceKind_ok (n : Nat) : EntOK Try.prog (s_DrawChanceKind_e n) ∧ Own Try.prog 13 := ent_ok tabOK0 (.cons (s_Cur_pick'p_ok n) (.cons (s_Cur_among'pl_ok n) .nil)) Try.func13 rfl (by kernel_rfl) (s_DrawChanceKind_ev n)
def i_ChanceKind_i : CSh := ⟨[(.data true tI)], []⟩
def i_ChanceKind_o : RSh := ⟨(.tcons (.data true (.arr 2 tI)) (.tcons (.data true .bool) .tnil)), []⟩
theorem i_ChanceKind_ev (n : Nat) (x : TupT i_ChanceKind_i.tys) : evF ⟨tab, [i_within_e n, i_choose_e n, i_fraction_e n], n, []⟩ Try.f15 i_ChanceKind_i i_ChanceKind_o x = i_ChanceKind n x := by kernel_rfl
noncomputable def i_ChanceKind_e (n : Nat) : Ent := ⟨15, i_ChanceKind_i, i_ChanceKind_o, fun x => i_ChanceKind n x⟩
theorem i_ChanceKind_ok (n : Nat) : EntOK Try.prog (i_ChanceKind_e n) ∧ Own Try.prog 15 := ent_ok tabOK0 (.cons (i_within_ok n) (.cons (i_choose_ok n) (.cons (i_fraction_ok n) .nil))) Try.func15 rfl (by kernel_rfl) (i_ChanceKind_ev n)
def s_ChanceKind_i : CSh := ⟨[(.data true tI)], []⟩
def s_ChanceKind_o : RSh := ⟨(.tcons (.data true (.arr 2 tI)) (.tcons (.data true .bool) .tnil)), []⟩
theorem s_ChanceKind_ev (n : Nat) (x : TupT s_ChanceKind_i.tys) : evF ⟨tab, [s_l1In_e n, s_l9Choose_e n, s_l9Cut_e n], n, []⟩ Try.f16 s_ChanceKind_i s_ChanceKind_o x = s_ChanceKind n x := by kernel_rfl
noncomputable def s_ChanceKind_e (n : Nat) : Ent := ⟨16, s_ChanceKind_i, s_ChanceKind_o, fun x => s_ChanceKind n x⟩
theorem s_ChanceKind_ok (n : Nat) : EntOK Try.prog (s_ChanceKind_e n) ∧ Own Try.prog 16 := ent_ok tabOK0 (.cons (s_l1In_ok n) (.cons (s_l9Choose_ok n) (.cons (s_l9Cut_ok n) .nil))) Try.func16 rfl (by kernel_rfl) (s_ChanceKind_ev n)
def i_card_i : CSh := ⟨[(.data true tI)], []⟩
def i_card_o : RSh := ⟨(.data true (.arr 4 tI)), []⟩
theorem i_card_ev (n : Nat) (x : TupT i_card_i.tys) : evF ⟨tab, [], n, []⟩ Try.f229 i_card_i i_card_o x = i_card n x := by kernel_rfl
noncomputable def i_card_e (n : Nat) : Ent := ⟨229, i_card_i, i_card_o, fun x => i_card n x⟩
theorem i_card_ok (n : Nat) : EntOK Try.prog (i_card_e n) ∧ Own Try.prog 229 := ent_ok tabOK0 .nil Try.func229 rfl (by kernel_rfl) (i_card_ev n)
def slices_Index_SA4_A4__i : CSh := ⟨[(.data false (.sl (.arr 4 tI))), (.data true (.arr 4 tI))], []⟩
def slices_Index_SA4_A4__o : RSh := ⟨(.data true tI), []⟩
theorem slices_Index_SA4_A4__ev (n : Nat) (x : TupT slices_Index_SA4_A4__i.tys) : evF ⟨tab, [], n, [(6, ⟨[(0, (.data false (.sl (.arr 4 tI)))), (3, (.ptr 0 [])), (7, (.data true tI)), (8, (.data true tI))], [.var 54 (.data true (.arr 4 tI))], 0⟩)]⟩ Try.f287 slices_Index_SA4_A4__i slices_Index_SA4_A4__o x = slices_Index_SA4_A4_ n x.1 x.2 := by kernel_rfl
noncomputable def slices_Index_SA4_A4__e (n : Nat) : Ent := ⟨287, slices_Index_SA4_A4__i, slices_Index_SA4_A4__o, fun x => slices_Index_SA4_A4_ n x.1 x.2⟩
theorem slices_Index_SA4_A4__ok (n : Nat) : EntOK Try.prog (slices_Index_SA4_A4__e n) ∧ Own Try.prog 287 := ent_ok tabOK0 .nil Try.func287 rfl (by kernel_rfl) (slices_Index_SA4_A4__ev n)
def slices_Contains_SA4_A4__i : CSh := ⟨[(.data false (.sl (.arr 4 tI))), (.data true (.arr 4 tI))], []⟩
def slices_Contains_SA4_A4__o : RSh := ⟨(.data true .bool), []⟩
theorem slices_Contains_SA4_A4__ev (n : Nat) (x : TupT slices_Contains_SA4_A4__i.tys) : evF ⟨tab, [slices_Index_SA4_A4__e n], n, []⟩ Try.f270 slices_Contains_SA4_A4__i slices_Contains_SA4_A4__o x = slices_Contains_SA4_A4_ n x.1 x.2 := by kernel_rfl
noncomputable def slices_Contains_SA4_A4__e (n : Nat) : Ent := ⟨270, slices_Contains_SA4_A4__i, slices_Contains_SA4_A4__o, fun x => slices_Contains_SA4_A4_ n x.1 x.2⟩
theorem slices_Contains_SA4_A4__ok (n : Nat) : EntOK Try.prog (slices_Contains_SA4_A4__e n) ∧ Own Try.prog 270 := ent_ok tabOK0 (.cons (slices_Index_SA4_A4__ok n) .nil) Try.func270 rfl (by kernel_rfl) (slices_Contains_SA4_A4__ev n)
def i_has_i : CSh := ⟨[(.data false (.sl (.arr 4 tI))), (.data true (.arr 4 tI))], []⟩
def i_has_o : RSh := ⟨(.data true .bool), []⟩
theorem i_has_ev (n : Nat) (x : TupT i_has_i.tys) : evF ⟨tab, [slices_Contains_SA4_A4__e n], n, []⟩ Try.f230 i_has_i i_has_o x = i_has n x.1 x.2 := by kernel_rfl
noncomputable def i_has_e (n : Nat) : Ent := ⟨230, i_has_i, i_has_o, fun x => i_has n x.1 x.2⟩
theorem i_has_ok (n : Nat) : EntOK Try.prog (i_has_e n) ∧ Own Try.prog 230 := ent_ok tabOK0 (.cons (slices_Contains_SA4_A4__ok n) .nil) Try.func230 rfl (by kernel_rfl) (i_has_ev n)
def i_pairsFor_i : CSh := ⟨[(.data false (.sl (.arr 4 tI))), (.data true (.arr 4 tI))], []⟩
def i_pairsFor_o : RSh := ⟨(.own 0), [.rows 26 true (.arr 2 tI)]⟩
theorem i_pairsFor_ev (n : Nat) (x : TupT i_pairsFor_i.tys) : evF ⟨tab, [i_third_e n], n, [(8, ⟨[(0, (.data false (.sl (.arr 4 tI)))), (3, (.ptr 0 [])), (5, (.own 1)), (10, (.data false (.sl (.arr 4 tI)))), (11, (.data true tI)), (12, (.data true tI))], [.var 54 (.data true (.arr 4 tI)), .rows 26 true (.arr 2 tI)], 0⟩), (22, ⟨[(0, (.data false (.sl (.arr 4 tI)))), (3, (.ptr 0 [])), (5, (.own 1)), (6, (.data true tI)), (7, (.ptr 2 [])), (8, (.data true tI)), (10, (.data false (.sl (.arr 4 tI)))), (11, (.data true tI)), (12, (.data true tI))], [.var 54 (.data true (.arr 4 tI)), .rows 26 true (.arr 2 tI), .var 54 (.data true (.arr 4 tI))], 0⟩)]⟩ Try.f271 i_pairsFor_i i_pairsFor_o x = i_pairsFor n x.1 x.2 := by kernel_rfl
noncomputable def i_pairsFor_e (n : Nat) : Ent := ⟨271, i_pairsFor_i, i_pairsFor_o, fun x => i_pairsFor n x.1 x.2⟩
theorem i_pairsFor_ok (n : Nat) : EntOK Try.prog (i_pairsFor_e n) ∧ Own Try.prog 271 := ent_ok tabOK0 (.cons (i_third_ok n) .nil) Try.func271 rfl (by kernel_rfl) (i_pairsFor_ev n)
def i_isBlocked_i : CSh := ⟨[(.data false (.sl (.arr 4 tI))), (.data true (.arr 4 tI))], []⟩
def i_isBlocked_o : RSh := ⟨(.data true .bool), []⟩
theorem i_isBlocked_ev (n : Nat) (x : TupT i_isBlocked_i.tys) : evF ⟨tab, [i_pairsFor_e n], n, []⟩ Try.f231 i_isBlocked_i i_isBlocked_o x = i_isBlocked n x.1 x.2 := by kernel_rfl
noncomputable def i_isBlocked_e (n : Nat) : Ent := ⟨231, i_isBlocked_i, i_isBlocked_o, fun x => i_isBlocked n x.1 x.2⟩
theorem i_isBlocked_ok (n : Nat) : EntOK Try.prog (i_isBlocked_e n) ∧ Own Try.prog 231 := ent_ok tabOK0 (.cons (i_pairsFor_ok n) .nil) Try.func231 rfl (by kernel_rfl) (i_isBlocked_ev n)
def i_outside_i : CSh := ⟨[(.data false (.sl (.arr 4 tI))), (.data true .bool)], []⟩
def i_outside_o : RSh := ⟨(.own 0), [.rows 3 true tI]⟩
theorem i_outside_ev (n : Nat) (x : TupT i_outside_i.tys) : evF ⟨tab, [i_card_e n, i_has_e n, i_isBlocked_e n], n, [(8, ⟨[(0, (.data false (.sl (.arr 4 tI)))), (1, (.data true .bool)), (5, (.own 0)), (9, (.data true tI))], [.rows 3 true tI], 0⟩)]⟩ Try.f135 i_outside_i i_outside_o x = i_outside n x.1 x.2 := by kernel_rfl
noncomputable def i_outside_e (n : Nat) : Ent := ⟨135, i_outside_i, i_outside_o, fun x => i_outside n x.1 x.2⟩
theorem i_outside_ok (n : Nat) : EntOK Try.prog (i_outside_e n) ∧ Own Try.prog 135 := ent_ok tabOK0 (.cons (i_card_ok n) (.cons (i_has_ok n) (.cons (i_isBlocked_ok n) .nil))) Try.func135 rfl (by kernel_rfl) (i_outside_ev n)
def i_ChanceBlocked_i : CSh := ⟨[(.data false (.sl (.arr 4 tI)))], []⟩
def i_ChanceBlocked_o : RSh := ⟨(.tcons (.data true (.arr 2 tI)) (.tcons (.data true .bool) .tnil)), []⟩
theorem i_ChanceBlocked_ev (n : Nat) (x : TupT i_ChanceBlocked_i.tys) : evF ⟨tab, [i_IsHand_e n, i_outside_e n, i_fraction_e n], n, []⟩ Try.f17 i_ChanceBlocked_i i_ChanceBlocked_o x = i_ChanceBlocked n x := by kernel_rfl
noncomputable def i_ChanceBlocked_e (n : Nat) : Ent := ⟨17, i_ChanceBlocked_i, i_ChanceBlocked_o, fun x => i_ChanceBlocked n x⟩
theorem i_ChanceBlocked_ok (n : Nat) : EntOK Try.prog (i_ChanceBlocked_e n) ∧ Own Try.prog 17 := ent_ok tabOK0 (.cons (i_IsHand_ok n) (.cons (i_outside_ok n) (.cons (i_fraction_ok n) .nil))) Try.func17 rfl (by kernel_rfl) (i_ChanceBlocked_ev n)
def s_l2Has_i : CSh := ⟨[(.data false (.sl (.arr 4 tI))), (.data true (.arr 4 tI))], []⟩
def s_l2Has_o : RSh := ⟨(.data true .bool), []⟩
theorem s_l2Has_ev (n : Nat) (x : TupT s_l2Has_i.tys) : evF ⟨tab, [s_l2Place_e n], n, []⟩ Try.f224 s_l2Has_i s_l2Has_o x = s_l2Has n x.1 x.2 := by kernel_rfl
noncomputable def s_l2Has_e (n : Nat) : Ent := ⟨224, s_l2Has_i, s_l2Has_o, fun x => s_l2Has n x.1 x.2⟩
theorem s_l2Has_ok (n : Nat) : EntOK Try.prog (s_l2Has_e n) ∧ Own Try.prog 224 := ent_ok tabOK0 (.cons (s_l2Place_ok n) .nil) Try.func224 rfl (by kernel_rfl) (s_l2Has_ev n)
def s_l2Line_i : CSh := ⟨[(.data true (.arr 4 tI)), (.data true (.arr 4 tI)), (.data true (.arr 4 tI))], []⟩
def s_l2Line_o : RSh := ⟨(.data true .bool), []⟩
theorem s_l2Line_ev (n : Nat) (x : TupT s_l2Line_i.tys) : evF ⟨tab, [s_l2Third_e n], n, []⟩ Try.f243 s_l2Line_i s_l2Line_o x = s_l2Line n x.1 x.2.1 x.2.2 := by kernel_rfl
noncomputable def s_l2Line_e (n : Nat) : Ent := ⟨243, s_l2Line_i, s_l2Line_o, fun x => s_l2Line n x.1 x.2.1 x.2.2⟩
theorem s_l2Line_ok (n : Nat) : EntOK Try.prog (s_l2Line_e n) ∧ Own Try.prog 243 := ent_ok tabOK0 (.cons (s_l2Third_ok n) .nil) Try.func243 rfl (by kernel_rfl) (s_l2Line_ev n)
def s_l2Through_i : CSh := ⟨[(.data false (.sl (.arr 4 tI))), (.data true (.arr 4 tI))], []⟩
def s_l2Through_o : RSh := ⟨(.data true tI), []⟩
theorem s_l2Through_ev (n : Nat) (x : TupT s_l2Through_i.tys) : evF ⟨tab, [s_l2Line_e n], n, [(8, ⟨[(0, (.data false (.sl (.arr 4 tI)))), (3, (.ptr 0 [])), (5, (.data true tI)), (6, (.data true tI))], [.var 54 (.data true (.arr 4 tI))], 0⟩), (20, ⟨[(0, (.data false (.sl (.arr 4 tI)))), (3, (.ptr 0 [])), (5, (.data true tI)), (6, (.data true tI)), (7, (.data true tI))], [.var 54 (.data true (.arr 4 tI))], 0⟩)]⟩ Try.f232 s_l2Through_i s_l2Through_o x = s_l2Through n x.1 x.2 := by kernel_rfl
noncomputable def s_l2Through_e (n : Nat) : Ent := ⟨232, s_l2Through_i, s_l2Through_o, fun x => s_l2Through n x.1 x.2⟩
theorem s_l2Through_ok (n : Nat) : EntOK Try.prog (s_l2Through_e n) ∧ Own Try.prog 232 := ent_ok tabOK0 (.cons (s_l2Line_ok n) .nil) Try.func232 rfl (by kernel_rfl) (s_l2Through_ev n)
def s_l3Cards_i : CSh := ⟨[(.data false (.sl (.arr 4 tI))), (.data true .bool)], []⟩
def s_l3Cards_o : RSh := ⟨(.own 0), [.rows 3 true tI]⟩
theorem s_l3Cards_ev (n : Nat) (x : TupT s_l3Cards_i.tys) : evF ⟨tab, [s_l2At_e n, s_l2Has_e n, s_l2Through_e n], n, [(8, ⟨[(0, (.data false (.sl (.arr 4 tI)))), (1, (.data true .bool)), (5, (.own 0)), (6, (.data true tI))], [.rows 3 true tI], 0⟩)]⟩ Try.f136 s_l3Cards_i s_l3Cards_o x = s_l3Cards n x.1 x.2 := by kernel_rfl
noncomputable def s_l3Cards_e (n : Nat) : Ent := ⟨136, s_l3Cards_i, s_l3Cards_o, fun x => s_l3Cards n x.1 x.2⟩
theorem s_l3Cards_ok (n : Nat) : EntOK Try.prog (s_l3Cards_e n) ∧ Own Try.prog 136 := ent_ok tabOK0 (.cons (s_l2At_ok n) (.cons (s_l2Has_ok n) (.cons (s_l2Through_ok n) .nil))) Try.func136 rfl (by kernel_rfl) (s_l3Cards_ev n)
def s_ChanceBlocked_i : CSh := ⟨[(.data false (.sl (.arr 4 tI)))], []⟩
def s_ChanceBlocked_o : RSh := ⟨(.tcons (.data true (.arr 2 tI)) (.tcons (.data true .bool) .tnil)), []⟩
theorem s_ChanceBlocked_ev (n : Nat) (x : TupT s_ChanceBlocked_i.tys) : evF ⟨tab, [s_l2Hand_e n, s_l3Cards_e n, s_l9Cut_e n], n, []⟩ Try.f18 s_ChanceBlocked_i s_ChanceBlocked_o x = s_ChanceBlocked n x := by kernel_rfl
noncomputable def s_ChanceBlocked_e (n : Nat) : Ent := ⟨18, s_ChanceBlocked_i, s_ChanceBlocked_o, fun x => s_ChanceBlocked n x⟩
theorem s_ChanceBlocked_ok (n : Nat) : EntOK Try.prog (s_ChanceBlocked_e n) ∧ Own Try.prog 18 := ent_ok tabOK0 (.cons (s_l2Hand_ok n) (.cons (s_l3Cards_ok n) (.cons (s_l9Cut_ok n) .nil))) Try.func18 rfl (by kernel_rfl) (s_ChanceBlocked_ev n)
def s_Cur_pool3'p_i : CSh := ⟨[(.ptr 0 [])], [.var 125 (.data true (.pair (.sl (.int .u8)) (.pair tI (.int .u64))))]⟩
def s_Cur_pool3'p_o : RSh := ⟨(.own 1), [.var 125 (.data true (.pair (.sl (.int .u8)) (.pair tI (.int .u64)))), .rows 54 true (.arr 4 tI)]⟩
theorem s_Cur_pool3'p_ev (n : Nat) (x : TupT s_Cur_pool3'p_i.tys) : evF ⟨tab, [s_Cur_hand'p_e n, s_Cur_pick'p_e n, s_l2Own_e n, s_Cur_one'p_e n], n, [(5000006, ⟨[(0, (.ptr 0 [])), (3, (.own 1)), (13, (.data true .bool))], [.var 125 (.data true (.pair (.sl (.int .u8)) (.pair tI (.int .u64)))), .rows 54 true (.arr 4 tI)], 1⟩)]⟩ Try.f137 s_Cur_pool3'p_i s_Cur_pool3'p_o x = s_Cur_pool3'p n x := by kernel_rfl
noncomputable def s_Cur_pool3'p_e (n : Nat) : Ent := ⟨137, s_Cur_pool3'p_i, s_Cur_pool3'p_o, fun x => s_Cur_pool3'p n x⟩
theorem s_Cur_pool3'p_ok (n : Nat) : EntOK Try.prog (s_Cur_pool3'p_e n) ∧ Own Try.prog 137 := ent_ok tabOK0 (.cons (s_Cur_hand'p_ok n) (.cons (s_Cur_pick'p_ok n) (.cons (s_l2Own_ok n) (.cons (s_Cur_one'p_ok n) .nil)))) Try.func137 rfl (by kernel_rfl) (s_Cur_pool3'p_ev n)
def s_DrawChanceCap_i : CSh := ⟨[(.data false (.sl (.int .u8)))], []⟩
def s_DrawChanceCap_o : RSh := ⟨(.tcons (.own 0) (.tcons (.data true tI) .tnil)), [.rows 54 true (.arr 4 tI)]⟩
theorem s_DrawChanceCap_ev (n : Nat) (x : TupT s_DrawChanceCap_i.tys) : evF ⟨tab, [s_Cur_pool3'p_e n, s_Cur_pick'p_e n, s_Cur_among'pl_e n], n, []⟩ Try.f19 s_DrawChanceCap_i s_DrawChanceCap_o x = s_DrawChanceCap n x := by kernel_rfl
noncomputable def s_DrawChanceCap_e (n : Nat) : Ent := ⟨19, s_DrawChanceCap_i, s_DrawChanceCap_o, fun x => s_DrawChanceCap n x⟩
theorem s_DrawChanceCap_ok (n : Nat) : EntOK Try.prog (s_DrawChanceCap_e n) ∧ Own Try.prog 19 := ent_ok tabOK0 (.cons (s_Cur_pool3'p_ok n) (.cons (s_Cur_pick'p_ok n) (.cons (s_Cur_among'pl_ok n) .nil))) Try.func19 rfl (by kernel_rfl) (s_DrawChanceCap_ev n)
def i_isPool_i : CSh := ⟨[(.data false (.sl (.arr 4 tI)))], []⟩
def i_isPool_o : RSh := ⟨(.data true .bool), []⟩
theorem i_isPool_ev (n : Nat) (x : TupT i_isPool_i.tys) : evF ⟨tab, [i_IsHand_e n], n, []⟩ Try.f234 i_isPool_i i_isPool_o x = i_isPool n x := by kernel_rfl
noncomputable def i_isPool_e (n : Nat) : Ent := ⟨234, i_isPool_i, i_isPool_o, fun x => i_isPool n x⟩
theorem i_isPool_ok (n : Nat) : EntOK Try.prog (i_isPool_e n) ∧ Own Try.prog 234 := ent_ok tabOK0 (.cons (i_IsHand_ok n) .nil) Try.func234 rfl (by kernel_rfl) (i_isPool_ev n)
def i_CountCaps_1'lpp_i : CSh := ⟨[(.data false (.sl tI)), (.ptr 0 []), (.ptr 1 [])], [.var 3 (.data true tI), .var 3 (.data true tI)]⟩
def i_CountCaps_1'lpp_o : RSh := ⟨.tnil, [.var 3 (.data true tI), .var 3 (.data true tI)]⟩
theorem i_CountCaps_1'lpp_ev (n : Nat) (x : TupT i_CountCaps_1'lpp_i.tys) : evF ⟨tab, [], n, []⟩ Try.f236 i_CountCaps_1'lpp_i i_CountCaps_1'lpp_o x = i_CountCaps_1'lpp n x.1 x.2.1 x.2.2 := by kernel_rfl
noncomputable def i_CountCaps_1'lpp_e (n : Nat) : Ent := ⟨236, i_CountCaps_1'lpp_i, i_CountCaps_1'lpp_o, fun x => i_CountCaps_1'lpp n x.1 x.2.1 x.2.2⟩
theorem i_CountCaps_1'lpp_ok (n : Nat) : EntOK Try.prog (i_CountCaps_1'lpp_e n) ∧ Own Try.prog 236 := ent_ok tabOK0 .nil Try.func236 rfl (by kernel_rfl) (i_CountCaps_1'lpp_ev n)
def i_caps'll_i_CountCaps_1pp_i : CSh := ⟨[(.data false (.sl (.arr 4 tI))), (.data true tI), (.data false (.sl tI)), (.clo 236 (.tcons (.ptr 0 []) (.tcons (.ptr 1 []) .tnil)))], [.var 3 (.data true tI), .var 3 (.data true tI)]⟩
def i_caps'll_i_CountCaps_1pp_o : RSh := ⟨.tnil, [.var 3 (.data true tI), .var 3 (.data true tI)]⟩
theorem i_caps'll_i_CountCaps_1pp_ev (n : Nat) (go : TupT i_caps'll_i_CountCaps_1pp_i.tys → Option (TupT i_caps'll_i_CountCaps_1pp_o.tys)) (x : TupT i_caps'll_i_CountCaps_1pp_i.tys) : evF ⟨tab, [⟨235, i_caps'll_i_CountCaps_1pp_i, i_caps'll_i_CountCaps_1pp_o, go⟩, i_CountCaps_1'lpp_e n, i_third_e n], n, [(5, ⟨[(0, (.data false (.sl (.arr 4 tI)))), (2, (.data false (.sl tI))), (3, (.clo 236 (.tcons (.ptr 0 []) (.tcons (.ptr 1 []) .tnil)))), (8, (.data true tI))], [.var 3 (.data true tI), .var 3 (.data true tI)], 2⟩), (20, ⟨[(0, (.data false (.sl (.arr 4 tI)))), (2, (.data false (.sl tI))), (3, (.clo 236 (.tcons (.ptr 0 []) (.tcons (.ptr 1 []) .tnil)))), (8, (.data true tI)), (9, (.data true .bool)), (24, (.data false (.sl tI))), (25, (.data true tI)), (26, (.data true tI))], [.var 3 (.data true tI), .var 3 (.data true tI)], 2⟩), (34, ⟨[(0, (.data false (.sl (.arr 4 tI)))), (2, (.data false (.sl tI))), (3, (.clo 236 (.tcons (.ptr 0 []) (.tcons (.ptr 1 []) .tnil)))), (8, (.data true tI)), (9, (.data true .bool)), (11, (.data true tI)), (24, (.data false (.sl tI))), (25, (.data true tI)), (26, (.data true tI)), (34, (.data false (.sl tI))), (35, (.data true tI)), (36, (.data true tI))], [.var 3 (.data true tI), .var 3 (.data true tI)], 2⟩)]⟩ Try.f235 i_caps'll_i_CountCaps_1pp_i i_caps'll_i_CountCaps_1pp_o x = i_caps'll_i_CountCaps_1pp_R n go x := by kernel_rfl
noncomputable def i_caps'll_i_CountCaps_1pp_e (n : Nat) : Ent := ⟨235, i_caps'll_i_CountCaps_1pp_i, i_caps'll_i_CountCaps_1pp_o, fun x => i_caps'll_i_CountCaps_1pp n x.1 x.2.1 x.2.2.1 x.2.2.2.1 x.2.2.2.2⟩
theorem i_caps'll_i_CountCaps_1pp_ok (n : Nat) : EntOK Try.prog (i_caps'll_i_CountCaps_1pp_e n) ∧ Own Try.prog 235 := ent_rec tabOK0 (.cons (i_CountCaps_1'lpp_ok n) (.cons (i_third_ok n) .nil)) Try.func235 rfl (by kernel_rfl) (i_caps'll_i_CountCaps_1pp_ev n) n
def i_CountCaps_i : CSh := ⟨[(.data false (.sl (.arr 4 tI))), (.data true tI)], []⟩
def i_CountCaps_o : RSh := ⟨(.tcons (.data true tI) (.tcons (.data true .bool) .tnil)), []⟩
theorem i_CountCaps_ev (n : Nat) (x : TupT i_CountCaps_i.tys) : evF ⟨tab, [i_isPool_e n, i_within_e n, i_caps'll_i_CountCaps_1pp_e n], n, []⟩ Try.f138 i_CountCaps_i i_CountCaps_o x = i_CountCaps n x.1 x.2 := by kernel_rfl
noncomputable def i_CountCaps_e (n : Nat) : Ent := ⟨138, i_CountCaps_i, i_CountCaps_o, fun x => i_CountCaps n x.1 x.2⟩
theorem i_CountCaps_ok (n : Nat) : EntOK Try.prog (i_CountCaps_e n) ∧ Own Try.prog 138 := ent_ok tabOK0 (.cons (i_isPool_ok n) (.cons (i_within_ok n) (.cons (i_caps'll_i_CountCaps_1pp_ok n) .nil))) Try.func138 rfl (by kernel_rfl) (i_CountCaps_ev n)
def i_ChanceCap_i : CSh := ⟨[(.data false (.sl (.arr 4 tI))), (.data true tI)], []⟩
def i_ChanceCap_o : RSh := ⟨(.tcons (.data true (.arr 2 tI)) (.tcons (.data true .bool) .tnil)), []⟩
theorem i_ChanceCap_ev (n : Nat) (x : TupT i_ChanceCap_i.tys) : evF ⟨tab, [i_CountCaps_e n, i_choose_e n, i_fraction_e n], n, []⟩ Try.f20 i_ChanceCap_i i_ChanceCap_o x = i_ChanceCap n x.1 x.2 := by kernel_rfl
noncomputable def i_ChanceCap_e (n : Nat) : Ent := ⟨20, i_ChanceCap_i, i_ChanceCap_o, fun x => i_ChanceCap n x.1 x.2⟩
theorem i_ChanceCap_ok (n : Nat) : EntOK Try.prog (i_ChanceCap_e n) ∧ Own Try.prog 20 := ent_ok tabOK0 (.cons (i_CountCaps_ok n) (.cons (i_choose_ok n) (.cons (i_fraction_ok n) .nil))) Try.func20 rfl (by kernel_rfl) (i_ChanceCap_ev n)
def s_l3Pool_i : CSh := ⟨[(.data false (.sl (.arr 4 tI)))], []⟩
def s_l3Pool_o : RSh := ⟨(.data true .bool), []⟩
theorem s_l3Pool_ev (n : Nat) (x : TupT s_l3Pool_i.tys) : evF ⟨tab, [s_l2Hand_e n], n, []⟩ Try.f139 s_l3Pool_i s_l3Pool_o x = s_l3Pool n x := by kernel_rfl
noncomputable def s_l3Pool_e (n : Nat) : Ent := ⟨139, s_l3Pool_i, s_l3Pool_o, fun x => s_l3Pool n x⟩
theorem s_l3Pool_ok (n : Nat) : EntOK Try.prog (s_l3Pool_e n) ∧ Own Try.prog 139 := ent_ok tabOK0 (.cons (s_l2Hand_ok n) .nil) Try.func139 rfl (by kernel_rfl) (s_l3Pool_ev n)
def s_l3Picked_i : CSh := ⟨[(.data false (.sl (.arr 4 tI))), (.data false (.sl tI))], []⟩
def s_l3Picked_o : RSh := ⟨(.own 0), [.rows 54 true (.arr 4 tI)]⟩
theorem s_l3Picked_ev (n : Nat) (x : TupT s_l3Picked_i.tys) : evF ⟨tab, [], n, [(8, ⟨[(0, (.data false (.sl (.arr 4 tI)))), (1, (.data false (.sl tI))), (5, (.own 0)), (6, (.data true tI))], [.rows 54 true (.arr 4 tI)], 0⟩)]⟩ Try.f237 s_l3Picked_i s_l3Picked_o x = s_l3Picked n x.1 x.2 := by kernel_rfl
noncomputable def s_l3Picked_e (n : Nat) : Ent := ⟨237, s_l3Picked_i, s_l3Picked_o, fun x => s_l3Picked n x.1 x.2⟩
theorem s_l3Picked_ok (n : Nat) : EntOK Try.prog (s_l3Picked_e n) ∧ Own Try.prog 237 := ent_ok tabOK0 .nil Try.func237 rfl (by kernel_rfl) (s_l3Picked_ev n)
def s_l1Own_i : CSh := ⟨[(.data false (.sl tI))], []⟩
def s_l1Own_o : RSh := ⟨(.own 0), [.rows 3 true tI]⟩
theorem s_l1Own_ev (n : Nat) (x : TupT s_l1Own_i.tys) : evF ⟨tab, [], n, []⟩ Try.f178 s_l1Own_i s_l1Own_o x = s_l1Own n x := by kernel_rfl
noncomputable def s_l1Own_e (n : Nat) : Ent := ⟨178, s_l1Own_i, s_l1Own_o, fun x => s_l1Own n x⟩
theorem s_l1Own_ok (n : Nat) : EntOK Try.prog (s_l1Own_e n) ∧ Own Try.prog 178 := ent_ok tabOK0 .nil Try.func178 rfl (by kernel_rfl) (s_l1Own_ev n)
def s_l3Count_i : CSh := ⟨[(.data false (.sl (.arr 4 tI))), (.data false (.sl tI)), (.data true tI), (.data true tI)], []⟩
def s_l3Count_o : RSh := ⟨(.data true tI), []⟩
theorem s_l3Count_ev (n : Nat) (go : TupT s_l3Count_i.tys → Option (TupT s_l3Count_o.tys)) (x : TupT s_l3Count_i.tys) : evF ⟨tab, [⟨140, s_l3Count_i, s_l3Count_o, go⟩, s_l3Picked_e n, s_l2Through_e n, s_l1Own_e n], n, [(16, ⟨[(0, (.data false (.sl (.arr 4 tI)))), (1, (.data false (.sl tI))), (3, (.data true tI)), (9, (.data true tI)), (10, (.data true tI))], [], 0⟩)]⟩ Try.f140 s_l3Count_i s_l3Count_o x = s_l3Count_R n go x := by kernel_rfl
noncomputable def s_l3Count_e (n : Nat) : Ent := ⟨140, s_l3Count_i, s_l3Count_o, fun x => s_l3Count n x.1 x.2.1 x.2.2.1 x.2.2.2⟩
theorem s_l3Count_ok (n : Nat) : EntOK Try.prog (s_l3Count_e n) ∧ Own Try.prog 140 := ent_rec tabOK0 (.cons (s_l3Picked_ok n) (.cons (s_l2Through_ok n) (.cons (s_l1Own_ok n) .nil))) Try.func140 rfl (by kernel_rfl) (s_l3Count_ev n) n
def s_ChanceCap_i : CSh := ⟨[(.data false (.sl (.arr 4 tI))), (.data true tI)], []⟩
def s_ChanceCap_o : RSh := ⟨(.tcons (.data true (.arr 2 tI)) (.tcons (.data true .bool) .tnil)), []⟩
theorem s_ChanceCap_ev (n : Nat) (x : TupT s_ChanceCap_i.tys) : evF ⟨tab, [s_l3Pool_e n, s_l1In_e n, s_l3Count_e n, s_l9Choose_e n, s_l9Cut_e n], n, []⟩ Try.f21 s_ChanceCap_i s_ChanceCap_o x = s_ChanceCap n x.1 x.2 := by kernel_rfl
noncomputable def s_ChanceCap_e (n : Nat) : Ent := ⟨21, s_ChanceCap_i, s_ChanceCap_o, fun x => s_ChanceCap n x.1 x.2⟩
theorem s_ChanceCap_ok (n : Nat) : EntOK Try.prog (s_ChanceCap_e n) ∧ Own Try.prog 21 := ent_ok tabOK0 (.cons (s_l3Pool_ok n) (.cons (s_l1In_ok n) (.cons (s_l3Count_ok n) (.cons (s_l9Choose_ok n) (.cons (s_l9Cut_ok n) .nil))))) Try.func21 rfl (by kernel_rfl) (s_ChanceCap_ev n)
def s_DrawChanceTrait_i : CSh := ⟨[(.data false (.sl (.int .u8)))], []⟩
def s_DrawChanceTrait_o : RSh := ⟨(.tcons (.own 0) (.tcons (.data true tI) (.tcons (.data true tI) .tnil))), [.rows 54 true (.arr 4 tI)]⟩
theorem s_DrawChanceTrait_ev (n : Nat) (x : TupT s_DrawChanceTrait_i.tys) : evF ⟨tab, [s_Cur_hand'p_e n, s_Cur_pick'p_e n, s_Cur_among'pl_e n], n, []⟩ Try.f22 s_DrawChanceTrait_i s_DrawChanceTrait_o x = s_DrawChanceTrait n x := by kernel_rfl
noncomputable def s_DrawChanceTrait_e (n : Nat) : Ent := ⟨22, s_DrawChanceTrait_i, s_DrawChanceTrait_o, fun x => s_DrawChanceTrait n x⟩
theorem s_DrawChanceTrait_ok (n : Nat) : EntOK Try.prog (s_DrawChanceTrait_e n) ∧ Own Try.prog 22 := ent_ok tabOK0 (.cons (s_Cur_hand'p_ok n) (.cons (s_Cur_pick'p_ok n) (.cons (s_Cur_among'pl_ok n) .nil))) Try.func22 rfl (by kernel_rfl) (s_DrawChanceTrait_ev n)
def i_ChanceTrait_i : CSh := ⟨[(.data false (.sl (.arr 4 tI))), (.data true tI), (.data true tI)], []⟩
def i_ChanceTrait_o : RSh := ⟨(.tcons (.data true (.arr 2 tI)) (.tcons (.data true .bool) .tnil)), []⟩
theorem i_ChanceTrait_ev (n : Nat) (x : TupT i_ChanceTrait_i.tys) : evF ⟨tab, [i_IsHand_e n, i_within_e n, i_choose_e n, i_fraction_e n], n, [(16, ⟨[(0, (.data false (.sl (.arr 4 tI)))), (1, (.data true tI)), (2, (.data true tI)), (6, (.ptr 0 [])), (8, (.ptr 1 [])), (9, (.data true tI)), (35, (.data false (.sl (.arr 4 tI)))), (36, (.data true tI)), (37, (.data true tI))], [.var 26 (.data true (.arr 2 tI)), .var 62 (.data true (.arr 3 tI))], 0⟩), (33, ⟨[(0, (.data false (.sl (.arr 4 tI)))), (2, (.data true tI)), (6, (.ptr 0 [])), (9, (.data true tI)), (49, (.data true (.arr 3 tI))), (50, (.data true tI))], [.var 26 (.data true (.arr 2 tI))], 0⟩)]⟩ Try.f23 i_ChanceTrait_i i_ChanceTrait_o x = i_ChanceTrait n x.1 x.2.1 x.2.2 := by kernel_rfl
noncomputable def i_ChanceTrait_e (n : Nat) : Ent := ⟨23, i_ChanceTrait_i, i_ChanceTrait_o, fun x => i_ChanceTrait n x.1 x.2.1 x.2.2⟩
theorem i_ChanceTrait_ok (n : Nat) : EntOK Try.prog (i_ChanceTrait_e n) ∧ Own Try.prog 23 := ent_ok tabOK0 (.cons (i_IsHand_ok n) (.cons (i_within_ok n) (.cons (i_choose_ok n) (.cons (i_fraction_ok n) .nil)))) Try.func23 rfl (by kernel_rfl) (i_ChanceTrait_ev n)
def s_l5Column_i : CSh := ⟨[(.data false (.sl (.arr 4 tI))), (.data true tI)], []⟩
def s_l5Column_o : RSh := ⟨(.data true (.arr 3 tI)), []⟩
theorem s_l5Column_ev (n : Nat) (x : TupT s_l5Column_i.tys) : evF ⟨tab, [], n, [(8, ⟨[(0, (.data false (.sl (.arr 4 tI)))), (1, (.data true tI)), (4, (.ptr 0 [])), (5, (.ptr 1 [])), (6, (.data true tI))], [.var 62 (.data true (.arr 3 tI)), .var 62 (.data true (.arr 3 tI))], 0⟩)]⟩ Try.f142 s_l5Column_i s_l5Column_o x = s_l5Column n x.1 x.2 := by kernel_rfl
noncomputable def s_l5Column_e (n : Nat) : Ent := ⟨142, s_l5Column_i, s_l5Column_o, fun x => s_l5Column n x.1 x.2⟩
theorem s_l5Column_ok (n : Nat) : EntOK Try.prog (s_l5Column_e n) ∧ Own Try.prog 142 := ent_ok tabOK0 .nil Try.func142 rfl (by kernel_rfl) (s_l5Column_ev n)
def s_ChanceTrait_i : CSh := ⟨[(.data false (.sl (.arr 4 tI))), (.data true tI), (.data true tI)], []⟩
def s_ChanceTrait_o : RSh := ⟨(.tcons (.data true (.arr 2 tI)) (.tcons (.data true .bool) .tnil)), []⟩
theorem s_ChanceTrait_ev (n : Nat) (x : TupT s_ChanceTrait_i.tys) : evF ⟨tab, [s_l2Hand_e n, s_l1In_e n, s_l5Column_e n, s_l9Choose_e n, s_l9Cut_e n], n, [(16, ⟨[(0, (.data false (.sl (.arr 4 tI)))), (2, (.data true tI)), (6, (.ptr 0 [])), (8, (.ptr 1 [])), (9, (.data true tI)), (10, (.data true tI))], [.var 26 (.data true (.arr 2 tI)), .var 62 (.data true (.arr 3 tI))], 0⟩)]⟩ Try.f24 s_ChanceTrait_i s_ChanceTrait_o x = s_ChanceTrait n x.1 x.2.1 x.2.2 := by kernel_rfl
noncomputable def s_ChanceTrait_e (n : Nat) : Ent := ⟨24, s_ChanceTrait_i, s_ChanceTrait_o, fun x => s_ChanceTrait n x.1 x.2.1 x.2.2⟩
theorem s_ChanceTrait_ok (n : Nat) : EntOK Try.prog (s_ChanceTrait_e n) ∧ Own Try.prog 24 := ent_ok tabOK0 (.cons (s_l2Hand_ok n) (.cons (s_l1In_ok n) (.cons (s_l5Column_ok n) (.cons (s_l9Choose_ok n) (.cons (s_l9Cut_ok n) .nil))))) Try.func24 rfl (by kernel_rfl) (s_ChanceTrait_ev n)
def slices_Index_Sint_int__i : CSh := ⟨[(.data false (.sl tI)), (.data true tI)], []⟩
def slices_Index_Sint_int__o : RSh := ⟨(.data true tI), []⟩
theorem slices_Index_Sint_int__ev (n : Nat) (x : TupT slices_Index_Sint_int__i.tys) : evF ⟨tab, [], n, [(6, ⟨[(0, (.data false (.sl tI))), (1, (.data true tI)), (7, (.data true tI)), (8, (.data true tI))], [], 0⟩)]⟩ Try.f200 slices_Index_Sint_int__i slices_Index_Sint_int__o x = slices_Index_Sint_int_ n x.1 x.2 := by kernel_rfl
noncomputable def slices_Index_Sint_int__e (n : Nat) : Ent := ⟨200, slices_Index_Sint_int__i, slices_Index_Sint_int__o, fun x => slices_Index_Sint_int_ n x.1 x.2⟩
theorem slices_Index_Sint_int__ok (n : Nat) : EntOK Try.prog (slices_Index_Sint_int__e n) ∧ Own Try.prog 200 := ent_ok tabOK0 .nil Try.func200 rfl (by kernel_rfl) (slices_Index_Sint_int__ev n)
def slices_Contains_Sint_int__i : CSh := ⟨[(.data false (.sl tI)), (.data true tI)], []⟩
def slices_Contains_Sint_int__o : RSh := ⟨(.data true .bool), []⟩
theorem slices_Contains_Sint_int__ev (n : Nat) (x : TupT slices_Contains_Sint_int__i.tys) : evF ⟨tab, [slices_Index_Sint_int__e n], n, []⟩ Try.f238 slices_Contains_Sint_int__i slices_Contains_Sint_int__o x = slices_Contains_Sint_int_ n x.1 x.2 := by kernel_rfl
noncomputable def slices_Contains_Sint_int__e (n : Nat) : Ent := ⟨238, slices_Contains_Sint_int__i, slices_Contains_Sint_int__o, fun x => slices_Contains_Sint_int_ n x.1 x.2⟩
theorem slices_Contains_Sint_int__ok (n : Nat) : EntOK Try.prog (slices_Contains_Sint_int__e n) ∧ Own Try.prog 238 := ent_ok tabOK0 (.cons (slices_Index_Sint_int__ok n) .nil) Try.func238 rfl (by kernel_rfl) (slices_Contains_Sint_int__ev n)
def i_common_i : CSh := ⟨[(.data true (.arr 3 tI)), (.data true (.arr 3 tI))], []⟩
def i_common_o : RSh := ⟨(.data true tI), []⟩
theorem i_common_ev (n : Nat) (x : TupT i_common_i.tys) : evF ⟨tab, [slices_Contains_Sint_int__e n], n, [(8, ⟨[(3, (.ptr 0 [])), (5, (.data true tI)), (8, (.data true (.arr 3 tI))), (9, (.data true tI))], [.var 62 (.data true (.arr 3 tI))], 0⟩)]⟩ Try.f143 i_common_i i_common_o x = i_common n x.1 x.2 := by kernel_rfl
noncomputable def i_common_e (n : Nat) : Ent := ⟨143, i_common_i, i_common_o, fun x => i_common n x.1 x.2⟩
theorem i_common_ok (n : Nat) : EntOK Try.prog (i_common_e n) ∧ Own Try.prog 143 := ent_ok tabOK0 (.cons (slices_Contains_Sint_int__ok n) .nil) Try.func143 rfl (by kernel_rfl) (i_common_ev n)
def i_ChanceStays_i : CSh := ⟨[(.data false (.sl (.arr 4 tI)))], []⟩
def i_ChanceStays_o : RSh := ⟨(.tcons (.data true (.arr 2 tI)) (.tcons (.data true .bool) .tnil)), []⟩
theorem i_ChanceStays_ev (n : Nat) (x : TupT i_ChanceStays_i.tys) : evF ⟨tab, [i_IsHand_e n, i_linesIn_e n, i_common_e n, i_fraction_e n], n, [(24, ⟨[(2, (.ptr 0 [])), (4, (.own 1)), (5, (.data true tI)), (20, (.own 1)), (21, (.data true tI)), (22, (.data true tI))], [.var 26 (.data true (.arr 2 tI)), .rows 62 true (.arr 3 tI)], 0⟩), (38, ⟨[(2, (.ptr 0 [])), (4, (.own 1)), (5, (.data true tI)), (7, (.ptr 2 [])), (20, (.own 1)), (21, (.data true tI)), (22, (.data true tI)), (26, (.own 1)), (27, (.data true tI)), (28, (.data true tI))], [.var 26 (.data true (.arr 2 tI)), .rows 62 true (.arr 3 tI), .var 62 (.data true (.arr 3 tI))], 0⟩)]⟩ Try.f25 i_ChanceStays_i i_ChanceStays_o x = i_ChanceStays n x := by kernel_rfl
noncomputable def i_ChanceStays_e (n : Nat) : Ent := ⟨25, i_ChanceStays_i, i_ChanceStays_o, fun x => i_ChanceStays n x⟩
theorem i_ChanceStays_ok (n : Nat) : EntOK Try.prog (i_ChanceStays_e n) ∧ Own Try.prog 25 := ent_ok tabOK0 (.cons (i_IsHand_ok n) (.cons (i_linesIn_ok n) (.cons (i_common_ok n) (.cons (i_fraction_ok n) .nil)))) Try.func25 rfl (by kernel_rfl) (i_ChanceStays_ev n)
def s_l7Common_i : CSh := ⟨[(.data true (.arr 3 tI)), (.data true (.arr 3 tI))], []⟩
def s_l7Common_o : RSh := ⟨(.data true tI), []⟩
theorem s_l7Common_ev (n : Nat) (x : TupT s_l7Common_i.tys) : evF ⟨tab, [], n, [(8, ⟨[(2, (.ptr 0 [])), (3, (.ptr 1 [])), (5, (.data true tI)), (6, (.data true tI))], [.var 62 (.data true (.arr 3 tI)), .var 62 (.data true (.arr 3 tI))], 0⟩), (20, ⟨[(2, (.ptr 0 [])), (3, (.ptr 1 [])), (5, (.data true tI)), (6, (.data true tI)), (7, (.data true tI))], [.var 62 (.data true (.arr 3 tI)), .var 62 (.data true (.arr 3 tI))], 0⟩)]⟩ Try.f144 s_l7Common_i s_l7Common_o x = s_l7Common n x.1 x.2 := by kernel_rfl
noncomputable def s_l7Common_e (n : Nat) : Ent := ⟨144, s_l7Common_i, s_l7Common_o, fun x => s_l7Common n x.1 x.2⟩
theorem s_l7Common_ok (n : Nat) : EntOK Try.prog (s_l7Common_e n) ∧ Own Try.prog 144 := ent_ok tabOK0 .nil Try.func144 rfl (by kernel_rfl) (s_l7Common_ev n)
def s_ChanceStays_i : CSh := ⟨[(.data false (.sl (.arr 4 tI)))], []⟩
def s_ChanceStays_o : RSh := ⟨(.tcons (.data true (.arr 2 tI)) (.tcons (.data true .bool) .tnil)), []⟩
theorem s_ChanceStays_ev (n : Nat) (x : TupT s_ChanceStays_i.tys) : evF ⟨tab, [s_l2Hand_e n, s_l2Lines_e n, s_l7Common_e n, s_l9Cut_e n], n, [(16, ⟨[(2, (.ptr 0 [])), (4, (.own 1)), (5, (.data true tI)), (6, (.data true tI))], [.var 26 (.data true (.arr 2 tI)), .rows 62 true (.arr 3 tI)], 0⟩), (28, ⟨[(2, (.ptr 0 [])), (4, (.own 1)), (5, (.data true tI)), (6, (.data true tI)), (7, (.data true tI))], [.var 26 (.data true (.arr 2 tI)), .rows 62 true (.arr 3 tI)], 0⟩)]⟩ Try.f26 s_ChanceStays_i s_ChanceStays_o x = s_ChanceStays n x := by kernel_rfl
noncomputable def s_ChanceStays_e (n : Nat) : Ent := ⟨26, s_ChanceStays_i, s_ChanceStays_o, fun x => s_ChanceStays n x⟩
theorem s_ChanceStays_ok (n : Nat) : EntOK Try.prog (s_ChanceStays_e n) ∧ Own Try.prog 26 := ent_ok tabOK0 (.cons (s_l2Hand_ok n) (.cons (s_l2Lines_ok n) (.cons (s_l7Common_ok n) (.cons (s_l9Cut_ok n) .nil)))) Try.func26 rfl (by kernel_rfl) (s_ChanceStays_ev n)
def v_vLess_i : CSh := ⟨[(.data true (.arr 2 tI)), (.data true (.arr 2 tI))], []⟩
def v_vLess_o : RSh := ⟨(.data true .bool), []⟩
theorem v_vLess_ev (n : Nat) (x : TupT v_vLess_i.tys) : evF ⟨tab, [], n, []⟩ Try.f28 v_vLess_i v_vLess_o x = v_vLess n x.1 x.2 := by kernel_rfl
noncomputable def v_vLess_e (n : Nat) : Ent := ⟨28, v_vLess_i, v_vLess_o, fun x => v_vLess n x.1 x.2⟩
theorem v_vLess_ok (n : Nat) : EntOK Try.prog (v_vLess_e n) ∧ Own Try.prog 28 := ent_ok tabOK0 .nil Try.func28 rfl (by kernel_rfl) (v_vLess_ev n)
def i_BlockedCards_i : CSh := ⟨[(.data false (.sl (.arr 4 tI)))], []⟩
def i_BlockedCards_o : RSh := ⟨(.tcons (.own 0) (.tcons (.data true .bool) .tnil)), [.rows 3 true tI]⟩
theorem i_BlockedCards_ev (n : Nat) (x : TupT i_BlockedCards_i.tys) : evF ⟨tab, [i_IsHand_e n, i_outside_e n], n, []⟩ Try.f31 i_BlockedCards_i i_BlockedCards_o x = i_BlockedCards n x := by kernel_rfl
noncomputable def i_BlockedCards_e (n : Nat) : Ent := ⟨31, i_BlockedCards_i, i_BlockedCards_o, fun x => i_BlockedCards n x⟩
theorem i_BlockedCards_ok (n : Nat) : EntOK Try.prog (i_BlockedCards_e n) ∧ Own Try.prog 31 := ent_ok tabOK0 (.cons (i_IsHand_ok n) (.cons (i_outside_ok n) .nil)) Try.func31 rfl (by kernel_rfl) (i_BlockedCards_ev n)
def i_isParted_i : CSh := ⟨[(.data false (.sl (.arr 4 tI)))], []⟩
def i_isParted_o : RSh := ⟨(.data true .bool), []⟩
theorem i_isParted_ev (n : Nat) (x : TupT i_isParted_i.tys) : evF ⟨tab, [i_IsHand_e n], n, []⟩ Try.f145 i_isParted_i i_isParted_o x = i_isParted n x := by kernel_rfl
noncomputable def i_isParted_e (n : Nat) : Ent := ⟨145, i_isParted_i, i_isParted_o, fun x => i_isParted n x⟩
theorem i_isParted_ok (n : Nat) : EntOK Try.prog (i_isParted_e n) ∧ Own Try.prog 145 := ent_ok tabOK0 (.cons (i_IsHand_ok n) .nil) Try.func145 rfl (by kernel_rfl) (i_isParted_ev n)
def slices_Clone_SA3_A3__i : CSh := ⟨[(.data false (.sl (.arr 3 tI)))], []⟩
def slices_Clone_SA3_A3__o : RSh := ⟨(.own 0), [.rows 62 true (.arr 3 tI)]⟩
theorem slices_Clone_SA3_A3__ev (n : Nat) (x : TupT slices_Clone_SA3_A3__i.tys) : evF ⟨tab, [], n, []⟩ Try.f241 slices_Clone_SA3_A3__i slices_Clone_SA3_A3__o x = slices_Clone_SA3_A3_ n x := by kernel_rfl
noncomputable def slices_Clone_SA3_A3__e (n : Nat) : Ent := ⟨241, slices_Clone_SA3_A3__i, slices_Clone_SA3_A3__o, fun x => slices_Clone_SA3_A3_ n x⟩
theorem slices_Clone_SA3_A3__ok (n : Nat) : EntOK Try.prog (slices_Clone_SA3_A3__e n) ∧ Own Try.prog 241 := ent_ok tabOK0 .nil Try.func241 rfl (by kernel_rfl) (slices_Clone_SA3_A3__ev n)
def i_firstPicking_1'lp_o_i : CSh := ⟨[(.data false (.sl (.arr 3 tI))), (.ptr 0 [])], [.var 38 (.own 1), .rows 62 true (.arr 3 tI)]⟩
def i_firstPicking_1'lp_o_o : RSh := ⟨.tnil, [.var 38 (.own 2), .gone, .rows 62 true (.arr 3 tI)]⟩
theorem i_firstPicking_1'lp_o_ev (n : Nat) (x : TupT i_firstPicking_1'lp_o_i.tys) : evF ⟨tab, [slices_Clone_SA3_A3__e n], n, []⟩ Try.f240 i_firstPicking_1'lp_o_i i_firstPicking_1'lp_o_o x = i_firstPicking_1'lp_o n x.1 x.2 := by kernel_rfl
noncomputable def i_firstPicking_1'lp_o_e (n : Nat) : Ent := ⟨240, i_firstPicking_1'lp_o_i, i_firstPicking_1'lp_o_o, fun x => i_firstPicking_1'lp_o n x.1 x.2⟩
theorem i_firstPicking_1'lp_o_ok (n : Nat) : EntOK Try.prog (i_firstPicking_1'lp_o_e n) ∧ Own Try.prog 240 := ent_ok tabOK0 (.cons (slices_Clone_SA3_A3__ok n) .nil) Try.func240 rfl (by kernel_rfl) (i_firstPicking_1'lp_o_ev n)
def i_pickings_1'p_i : CSh := ⟨[(.data true (.arr 3 tI)), (.ptr 0 [])], [.var 62 (.data true (.arr 3 tI))]⟩
def i_pickings_1'p_o : RSh := ⟨(.data true .bool), [.var 62 (.data true (.arr 3 tI))]⟩
theorem i_pickings_1'p_ev (n : Nat) (x : TupT i_pickings_1'p_i.tys) : evF ⟨tab, [i_common_e n], n, []⟩ Try.f273 i_pickings_1'p_i i_pickings_1'p_o x = i_pickings_1'p n x.1 x.2 := by kernel_rfl
noncomputable def i_pickings_1'p_e (n : Nat) : Ent := ⟨273, i_pickings_1'p_i, i_pickings_1'p_o, fun x => i_pickings_1'p n x.1 x.2⟩
theorem i_pickings_1'p_ok (n : Nat) : EntOK Try.prog (i_pickings_1'p_e n) ∧ Own Try.prog 273 := ent_ok tabOK0 (.cons (i_common_ok n) .nil) Try.func273 rfl (by kernel_rfl) (i_pickings_1'p_ev n)
def slices_IndexFunc_SA3_A3_'l_i_pickings_1p_i : CSh := ⟨[(.data false (.sl (.arr 3 tI))), (.clo 273 (.tcons (.ptr 0 []) .tnil))], [.var 62 (.data true (.arr 3 tI))]⟩
def slices_IndexFunc_SA3_A3_'l_i_pickings_1p_o : RSh := ⟨(.data true tI), [.var 62 (.data true (.arr 3 tI))]⟩
theorem slices_IndexFunc_SA3_A3_'l_i_pickings_1p_ev (n : Nat) (x : TupT slices_IndexFunc_SA3_A3_'l_i_pickings_1p_i.tys) : evF ⟨tab, [i_pickings_1'p_e n], n, [(6, ⟨[(0, (.data false (.sl (.arr 3 tI)))), (1, (.clo 273 (.tcons (.ptr 0 []) .tnil))), (7, (.data true tI)), (8, (.data true tI))], [.var 62 (.data true (.arr 3 tI))], 1⟩)]⟩ Try.f288 slices_IndexFunc_SA3_A3_'l_i_pickings_1p_i slices_IndexFunc_SA3_A3_'l_i_pickings_1p_o x = slices_IndexFunc_SA3_A3_'l_i_pickings_1p n x.1 x.2 := by kernel_rfl
noncomputable def slices_IndexFunc_SA3_A3_'l_i_pickings_1p_e (n : Nat) : Ent := ⟨288, slices_IndexFunc_SA3_A3_'l_i_pickings_1p_i, slices_IndexFunc_SA3_A3_'l_i_pickings_1p_o, fun x => slices_IndexFunc_SA3_A3_'l_i_pickings_1p n x.1 x.2⟩
theorem slices_IndexFunc_SA3_A3_'l_i_pickings_1p_ok (n : Nat) : EntOK Try.prog (slices_IndexFunc_SA3_A3_'l_i_pickings_1p_e n) ∧ Own Try.prog 288 := ent_ok tabOK0 (.cons (i_pickings_1'p_ok n) .nil) Try.func288 rfl (by kernel_rfl) (slices_IndexFunc_SA3_A3_'l_i_pickings_1p_ev n)
def slices_ContainsFunc_SA3_A3_'l_i_pickings_1p_i : CSh := ⟨[(.data false (.sl (.arr 3 tI))), (.clo 273 (.tcons (.ptr 0 []) .tnil))], [.var 62 (.data true (.arr 3 tI))]⟩
def slices_ContainsFunc_SA3_A3_'l_i_pickings_1p_o : RSh := ⟨(.data true .bool), [.var 62 (.data true (.arr 3 tI))]⟩
theorem slices_ContainsFunc_SA3_A3_'l_i_pickings_1p_ev (n : Nat) (x : TupT slices_ContainsFunc_SA3_A3_'l_i_pickings_1p_i.tys) : evF ⟨tab, [slices_IndexFunc_SA3_A3_'l_i_pickings_1p_e n], n, []⟩ Try.f272 slices_ContainsFunc_SA3_A3_'l_i_pickings_1p_i slices_ContainsFunc_SA3_A3_'l_i_pickings_1p_o x = slices_ContainsFunc_SA3_A3_'l_i_pickings_1p n x.1 x.2 := by kernel_rfl
noncomputable def slices_ContainsFunc_SA3_A3_'l_i_pickings_1p_e (n : Nat) : Ent := ⟨272, slices_ContainsFunc_SA3_A3_'l_i_pickings_1p_i, slices_ContainsFunc_SA3_A3_'l_i_pickings_1p_o, fun x => slices_ContainsFunc_SA3_A3_'l_i_pickings_1p n x.1 x.2⟩
theorem slices_ContainsFunc_SA3_A3_'l_i_pickings_1p_ok (n : Nat) : EntOK Try.prog (slices_ContainsFunc_SA3_A3_'l_i_pickings_1p_e n) ∧ Own Try.prog 272 := ent_ok tabOK0 (.cons (slices_IndexFunc_SA3_A3_'l_i_pickings_1p_ok n) .nil) Try.func272 rfl (by kernel_rfl) (slices_ContainsFunc_SA3_A3_'l_i_pickings_1p_ev n)
def i_pickings'll_i_firstPicking_1p_o_i : CSh := ⟨[(.data false (.sl (.arr 3 tI))), (.data false (.sl (.arr 3 tI))), (.clo 240 (.tcons (.ptr 0 []) .tnil))], [.var 38 (.own 1), .rows 62 true (.arr 3 tI)]⟩
def i_pickings'll_i_firstPicking_1p_o_o : RSh := ⟨.tnil, [.var 38 (.own 2), .gone, .rows 62 true (.arr 3 tI)]⟩
theorem i_pickings'll_i_firstPicking_1p_o_ev (n : Nat) (go : TupT i_pickings'll_i_firstPicking_1p_o_i.tys → Option (TupT i_pickings'll_i_firstPicking_1p_o_o.tys)) (x : TupT i_pickings'll_i_firstPicking_1p_o_i.tys) : evF ⟨tab, [⟨239, i_pickings'll_i_firstPicking_1p_o_i, i_pickings'll_i_firstPicking_1p_o_o, go⟩, i_firstPicking_1'lp_o_e n, slices_ContainsFunc_SA3_A3_'l_i_pickings_1p_e n], n, [(5, ⟨[(0, (.data false (.sl (.arr 3 tI)))), (1, (.data false (.sl (.arr 3 tI)))), (2, (.clo 240 (.tcons (.ptr 0 []) .tnil))), (11, (.data false (.sl (.arr 3 tI)))), (12, (.data true tI)), (13, (.data true tI))], [.var 38 (.own 2), .gone, .rows 62 true (.arr 3 tI)], 2⟩)]⟩ Try.f239 i_pickings'll_i_firstPicking_1p_o_i i_pickings'll_i_firstPicking_1p_o_o x = i_pickings'll_i_firstPicking_1p_o_R n go x := by kernel_rfl
noncomputable def i_pickings'll_i_firstPicking_1p_o_e (n : Nat) : Ent := ⟨239, i_pickings'll_i_firstPicking_1p_o_i, i_pickings'll_i_firstPicking_1p_o_o, fun x => i_pickings'll_i_firstPicking_1p_o n x.1 x.2.1 x.2.2⟩
theorem i_pickings'll_i_firstPicking_1p_o_ok (n : Nat) : EntOK Try.prog (i_pickings'll_i_firstPicking_1p_o_e n) ∧ Own Try.prog 239 := ent_rec tabOK0 (.cons (i_firstPicking_1'lp_o_ok n) (.cons (slices_ContainsFunc_SA3_A3_'l_i_pickings_1p_ok n) .nil)) Try.func239 rfl (by kernel_rfl) (i_pickings'll_i_firstPicking_1p_o_ev n) n
def i_firstPicking_i : CSh := ⟨[(.data false (.sl (.arr 4 tI)))], []⟩
def i_firstPicking_o : RSh := ⟨(.own 0), [.rows 62 true (.arr 3 tI)]⟩
theorem i_firstPicking_ev (n : Nat) (x : TupT i_firstPicking_i.tys) : evF ⟨tab, [i_linesIn_e n, i_pickings'll_i_firstPicking_1p_o_e n], n, []⟩ Try.f146 i_firstPicking_i i_firstPicking_o x = i_firstPicking n x := by kernel_rfl
noncomputable def i_firstPicking_e (n : Nat) : Ent := ⟨146, i_firstPicking_i, i_firstPicking_o, fun x => i_firstPicking n x⟩
theorem i_firstPicking_ok (n : Nat) : EntOK Try.prog (i_firstPicking_e n) ∧ Own Try.prog 146 := ent_ok tabOK0 (.cons (i_linesIn_ok n) (.cons (i_pickings'll_i_firstPicking_1p_o_ok n) .nil)) Try.func146 rfl (by kernel_rfl) (i_firstPicking_ev n)
def i_MostDisjoint_i : CSh := ⟨[(.data false (.sl (.arr 4 tI)))], []⟩
def i_MostDisjoint_o : RSh := ⟨(.tcons (.data true tI) (.tcons (.data true .bool) .tnil)), []⟩
theorem i_MostDisjoint_ev (n : Nat) (x : TupT i_MostDisjoint_i.tys) : evF ⟨tab, [i_isParted_e n, i_firstPicking_e n], n, []⟩ Try.f30 i_MostDisjoint_i i_MostDisjoint_o x = i_MostDisjoint n x := by kernel_rfl
noncomputable def i_MostDisjoint_e (n : Nat) : Ent := ⟨30, i_MostDisjoint_i, i_MostDisjoint_o, fun x => i_MostDisjoint n x⟩
theorem i_MostDisjoint_ok (n : Nat) : EntOK Try.prog (i_MostDisjoint_e n) ∧ Own Try.prog 30 := ent_ok tabOK0 (.cons (i_isParted_ok n) (.cons (i_firstPicking_ok n) .nil)) Try.func30 rfl (by kernel_rfl) (i_MostDisjoint_ev n)
def i_WithTrait_i : CSh := ⟨[(.data false (.sl (.arr 4 tI))), (.data true tI), (.data true tI)], []⟩
def i_WithTrait_o : RSh := ⟨(.tcons (.own 0) (.tcons (.data true .bool) .tnil)), [.rows 3 true tI]⟩
theorem i_WithTrait_ev (n : Nat) (x : TupT i_WithTrait_i.tys) : evF ⟨tab, [i_IsHand_e n, i_within_e n], n, [(16, ⟨[(1, (.data true tI)), (2, (.data true tI)), (8, (.own 0)), (25, (.data false (.sl (.arr 4 tI)))), (26, (.data true tI)), (27, (.data true tI))], [.rows 3 true tI], 0⟩)]⟩ Try.f29 i_WithTrait_i i_WithTrait_o x = i_WithTrait n x.1 x.2.1 x.2.2 := by kernel_rfl
noncomputable def i_WithTrait_e (n : Nat) : Ent := ⟨29, i_WithTrait_i, i_WithTrait_o, fun x => i_WithTrait n x.1 x.2.1 x.2.2⟩
theorem i_WithTrait_ok (n : Nat) : EntOK Try.prog (i_WithTrait_e n) ∧ Own Try.prog 29 := ent_ok tabOK0 (.cons (i_IsHand_ok n) (.cons (i_within_ok n) .nil)) Try.func29 rfl (by kernel_rfl) (i_WithTrait_ev n)
def i_LinesIn_i : CSh := ⟨[(.data false (.sl (.arr 4 tI)))], []⟩
def i_LinesIn_o : RSh := ⟨(.tcons (.own 0) (.tcons (.data true .bool) .tnil)), [.rows 62 true (.arr 3 tI)]⟩
theorem i_LinesIn_ev (n : Nat) (x : TupT i_LinesIn_i.tys) : evF ⟨tab, [i_IsHand_e n, i_linesIn_e n], n, []⟩ Try.f27 i_LinesIn_i i_LinesIn_o x = i_LinesIn n x := by kernel_rfl
noncomputable def i_LinesIn_e (n : Nat) : Ent := ⟨27, i_LinesIn_i, i_LinesIn_o, fun x => i_LinesIn n x⟩
theorem i_LinesIn_ok (n : Nat) : EntOK Try.prog (i_LinesIn_e n) ∧ Own Try.prog 27 := ent_ok tabOK0 (.cons (i_IsHand_ok n) (.cons (i_linesIn_ok n) .nil)) Try.func27 rfl (by kernel_rfl) (i_LinesIn_ev n)
def v_FnChances_i : CSh := ⟨[(.data false (.sl (.int .u8)))], []⟩
def v_FnChances_o : RSh := ⟨(.data true .bool), []⟩
theorem v_FnChances_ev (n : Nat) (x : TupT v_FnChances_i.tys) : evF ⟨tab, [v_vBig_e n, s_DrawChanceLine_e n, i_ChanceLine_e n, s_ChanceLine_e n, v_vCut_e n, s_DrawChanceKind_e n, i_ChanceKind_e n, s_ChanceKind_e n, i_ChanceBlocked_e n, s_ChanceBlocked_e n, s_DrawChanceCap_e n, i_ChanceCap_e n, s_ChanceCap_e n, s_DrawChanceTrait_e n, i_ChanceTrait_e n, s_ChanceTrait_e n, i_ChanceStays_e n, s_ChanceStays_e n, v_vLess_e n, i_BlockedCards_e n, i_MostDisjoint_e n, i_WithTrait_e n, i_LinesIn_e n], n, [(50, ⟨[(3, (.own 0)), (9, (.ptr 1 [])), (10, (.data true .bool)), (13, (.ptr 2 [])), (14, (.data true .bool)), (17, (.own 3)), (18, (.data true tI)), (19, (.ptr 4 [])), (20, (.data true .bool)), (23, (.own 5)), (24, (.data true tI)), (25, (.data true tI)), (26, (.ptr 6 [])), (27, (.data true .bool)), (30, (.ptr 7 [])), (31, (.data true .bool))], [.rows 54 true (.arr 4 tI), .var 26 (.data true (.arr 2 tI)), .var 26 (.data true (.arr 2 tI)), .rows 54 true (.arr 4 tI), .var 26 (.data true (.arr 2 tI)), .rows 54 true (.arr 4 tI), .var 26 (.data true (.arr 2 tI)), .var 26 (.data true (.arr 2 tI))], 0⟩), (72, ⟨[(3, (.own 0)), (13, (.ptr 1 [])), (14, (.data true .bool)), (23, (.own 2)), (24, (.data true tI)), (25, (.data true tI)), (26, (.ptr 3 [])), (27, (.data true .bool)), (30, (.ptr 4 [])), (31, (.data true .bool))], [.rows 54 true (.arr 4 tI), .var 26 (.data true (.arr 2 tI)), .rows 54 true (.arr 4 tI), .var 26 (.data true (.arr 2 tI)), .var 26 (.data true (.arr 2 tI))], 0⟩), (86, ⟨[(3, (.own 0)), (13, (.ptr 1 [])), (14, (.data true .bool)), (30, (.ptr 2 [])), (31, (.data true .bool))], [.rows 54 true (.arr 4 tI), .var 26 (.data true (.arr 2 tI)), .var 26 (.data true (.arr 2 tI))], 0⟩), (96, ⟨[(3, (.own 0)), (13, (.ptr 1 [])), (14, (.data true .bool)), (23, (.own 2)), (24, (.data true tI)), (25, (.data true tI)), (26, (.ptr 3 [])), (30, (.ptr 4 [])), (31, (.data true .bool)), (38, (.data true tI)), (39, (.data true tI))], [.rows 54 true (.arr 4 tI), .var 26 (.data true (.arr 2 tI)), .rows 54 true (.arr 4 tI), .var 26 (.data true (.arr 2 tI)), .var 26 (.data true (.arr 2 tI))], 0⟩), (117, ⟨[(3, (.own 0)), (13, (.ptr 1 [])), (14, (.data true .bool)), (23, (.own 2)), (24, (.data true tI)), (25, (.data true tI)), (26, (.ptr 3 [])), (30, (.ptr 4 [])), (31, (.data true .bool)), (38, (.data true tI)), (39, (.data true tI)), (40, (.own 5)), (42, (.data true tI))], [.rows 54 true (.arr 4 tI), .var 26 (.data true (.arr 2 tI)), .rows 54 true (.arr 4 tI), .var 26 (.data true (.arr 2 tI)), .var 26 (.data true (.arr 2 tI)), .rows 3 true tI], 0⟩), (133, ⟨[(3, (.own 0)), (13, (.ptr 1 [])), (14, (.data true .bool)), (23, (.own 2)), (25, (.data true tI)), (26, (.ptr 3 [])), (30, (.ptr 4 [])), (31, (.data true .bool)), (38, (.data true tI)), (43, (.data true tI))], [.rows 54 true (.arr 4 tI), .var 26 (.data true (.arr 2 tI)), .rows 54 true (.arr 4 tI), .var 26 (.data true (.arr 2 tI)), .var 26 (.data true (.arr 2 tI))], 0⟩), (139, ⟨[(3, (.own 0)), (13, (.ptr 1 [])), (14, (.data true .bool)), (26, (.ptr 2 [])), (30, (.ptr 3 [])), (31, (.data true .bool)), (38, (.data true tI)), (43, (.data true tI))], [.rows 54 true (.arr 4 tI), .var 26 (.data true (.arr 2 tI)), .var 26 (.data true (.arr 2 tI)), .var 26 (.data true (.arr 2 tI))], 0⟩), (153, ⟨[(3, (.own 0)), (13, (.ptr 1 [])), (14, (.data true .bool))], [.rows 54 true (.arr 4 tI), .var 26 (.data true (.arr 2 tI))], 0⟩)]⟩ Try.f3 v_FnChances_i v_FnChances_o x = v_FnChances n x := by kernel_rfl
noncomputable def v_FnChances_e (n : Nat) : Ent := ⟨3, v_FnChances_i, v_FnChances_o, fun x => v_FnChances n x⟩
theorem v_FnChances_ok (n : Nat) : EntOK Try.prog (v_FnChances_e n) ∧ Own Try.prog 3 := ent_ok tabOK0 (.cons (v_vBig_ok n) (.cons (s_DrawChanceLine_ok n) (.cons (i_ChanceLine_ok n) (.cons (s_ChanceLine_ok n) (.cons (v_vCut_ok n) (.cons (s_DrawChanceKind_ok n) (.cons (i_ChanceKind_ok n) (.cons (s_ChanceKind_ok n) (.cons (i_ChanceBlocked_ok n) (.cons (s_ChanceBlocked_ok n) (.cons (s_DrawChanceCap_ok n) (.cons (i_ChanceCap_ok n) (.cons (s_ChanceCap_ok n) (.cons (s_DrawChanceTrait_ok n) (.cons (i_ChanceTrait_ok n) (.cons (s_ChanceTrait_ok n) (.cons (i_ChanceStays_ok n) (.cons (s_ChanceStays_ok n) (.cons (v_vLess_ok n) (.cons (i_BlockedCards_ok n) (.cons (i_MostDisjoint_ok n) (.cons (i_WithTrait_ok n) (.cons (i_LinesIn_ok n) .nil))))))))))))))))))))))) Try.func3 rfl (by kernel_rfl) (v_FnChances_ev n)
end Go.Proofs.Ytfoielhhflbbfaa
