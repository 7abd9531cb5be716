/- Printed by a program of the session: the contracts of the seat's functions. -/
import Derived.Test.YtfoielhhflbbfaaZ7
import Derived.Test.YtfoielhhflbbfaaPL
import Derived.Test.YtfoielhhflbbfaaRows
import Derived.KernelRfl
namespace Go.Proofs.Ytfoielhhflbbfaa
open Go Go.Tv Go.Pl Go.RowKit
set_option linter.unusedVariables false
abbrev tI : Ty := .int .i64
def tab : Tab := ⟨[(2, ⟨tI, 0, 8⟩), (3, ⟨tI, 0, 8⟩), (4, ⟨.bool, 0, 1⟩), (5, ⟨(.int .u8), 0, 1⟩), (6, ⟨(.int .u8), 0, 1⟩), (7, ⟨(.pair tI (.pair tI (.pair .bool (.int .u8)))), 4, 24⟩), (8, ⟨(.pair tI (.pair tI (.pair .bool (.int .u8)))), 4, 24⟩), (9, ⟨.str, 0, 16⟩), (10, ⟨.str, 0, 16⟩), (11, ⟨.str, 0, 16⟩), (12, ⟨(.int .u64), 0, 8⟩), (13, ⟨(.pair .str (.int .u64)), 2, 24⟩), (14, ⟨(.pair .str (.int .u64)), 2, 24⟩), (21, ⟨(.int .i32), 0, 4⟩), (22, ⟨(.sl (.int .u8)), 5, 1⟩), (24, ⟨(.sl (.arr 4 tI)), 54, 32⟩), (26, ⟨(.arr 2 tI), 3, 8⟩), (38, ⟨(.sl (.arr 3 tI)), 62, 24⟩), (42, ⟨(.sl tI), 3, 8⟩), (50, ⟨(.sl (.arr 6 tI)), 53, 48⟩), (53, ⟨(.arr 6 tI), 3, 8⟩), (54, ⟨(.arr 4 tI), 3, 8⟩), (57, ⟨(.arr 5 tI), 3, 8⟩), (62, ⟨(.arr 3 tI), 3, 8⟩), (63, ⟨(.pair tI (.pair tI (.sl (.arr 4 tI)))), 3, 40⟩), (64, ⟨(.pair tI (.pair tI (.sl (.arr 4 tI)))), 3, 40⟩), (65, ⟨(.pair (.pair tI (.pair tI (.sl (.arr 4 tI)))) (.pair (.sl tI) (.sl tI))), 3, 88⟩), (66, ⟨(.pair (.pair tI (.pair tI (.sl (.arr 4 tI)))) (.pair (.sl tI) (.sl tI))), 3, 88⟩), (76, ⟨(.pair tI (.arr 3 tI)), 2, 32⟩), (77, ⟨(.pair tI (.arr 3 tI)), 2, 32⟩), (84, ⟨(.sl (.pair tI (.arr 3 tI))), 77, 32⟩), (116, ⟨(.arr 9 (.arr 4 tI)), 54, 32⟩), (123, ⟨(.int .u64), 0, 8⟩), (124, ⟨(.pair (.sl (.int .u8)) (.pair tI (.int .u64))), 3, 40⟩), (125, ⟨(.pair (.sl (.int .u8)) (.pair tI (.int .u64))), 3, 40⟩), (150, ⟨(.sl (.sl tI)), 42, 24⟩), (185, ⟨(.arr 81 .bool), 4, 1⟩), (187, ⟨(.arr 81 tI), 3, 8⟩), (194, ⟨(.arr 3 (.arr 4 tI)), 54, 32⟩), (207, ⟨(.int .u64), 0, 8⟩), (208, ⟨(.sl (.arr 2 tI)), 26, 16⟩), (221, ⟨(.sl (.sl (.arr 4 tI))), 24, 24⟩), (225, ⟨tI, 0, 8⟩), (232, ⟨(.int .u32), 0, 4⟩), (234, ⟨(.int .u64), 0, 8⟩), (248, ⟨(.int .u8), 0, 1⟩), (249, ⟨(.int .u8), 0, 1⟩), (252, ⟨(.int .i32), 0, 4⟩), (253, ⟨(.int .i32), 0, 4⟩)], [7, 8, 26, 53, 54, 57, 62, 76, 77, 116, 185, 187, 194], [1, 23, 25, 28, 29, 30, 31, 33, 34, 36, 37, 40, 41, 44, 46, 47, 49, 52, 55, 56, 59, 60, 61, 67, 68, 69, 70, 71, 73, 74, 75, 79, 81, 82, 83, 86, 88, 89, 91, 92, 94, 96, 98, 99, 101, 103, 105, 106, 107, 109, 110, 111, 112, 114, 115, 118, 119, 121, 126, 127, 128, 129, 130, 131, 132, 133, 134, 135, 136, 137, 138, 139, 140, 141, 142, 143, 144, 145, 146, 147, 148, 149, 151, 152, 153, 154, 155, 156, 157, 158, 159, 160, 161, 162, 163, 164, 165, 166, 167, 168, 169, 170, 171, 172, 173, 174, 175, 176, 177, 179, 180, 181, 182, 183, 184, 186, 188, 189, 190, 191, 192, 193, 195, 196, 197, 198, 199, 201, 202, 203, 204, 205, 206, 209, 210, 211, 212, 213, 214, 215, 216, 217, 218, 219, 220, 222, 223, 224, 227, 228, 229, 230, 231, 233, 235, 236, 237, 239, 241, 242, 250]⟩
theorem tabOK0 : TabOK Try.prog tab := ⟨by kernel_rfl, by kernel_rfl⟩
def v_rBig_i : CSh := ⟨[(.data false (.sl (.int .u8)))], []⟩
def v_rBig_o : RSh := ⟨(.data true .bool), []⟩
theorem v_rBig_ev (n : Nat) (x : TupT v_rBig_i.tys) : evF ⟨tab, [], n, []⟩ Try.f32 v_rBig_i v_rBig_o x = v_rBig n x := by kernel_rfl
noncomputable def v_rBig_e (n : Nat) : Ent := ⟨32, v_rBig_i, v_rBig_o, fun x => v_rBig n x⟩
theorem v_rBig_ok (n : Nat) : EntOK Try.prog (v_rBig_e n) ∧ Own Try.prog 32 := ent_ok tabOK0 .nil Try.func32 rfl (by kernel_rfl) (v_rBig_ev n)
def s_Cur_next'p_i : CSh := ⟨[(.ptr 0 [])], [.var 125 (.data true (.pair (.sl (.int .u8)) (.pair tI (.int .u64))))]⟩
def s_Cur_next'p_o : RSh := ⟨(.data true tI), [.var 125 (.data true (.pair (.sl (.int .u8)) (.pair tI (.int .u64))))]⟩
theorem s_Cur_next'p_ev (n : Nat) (x : TupT s_Cur_next'p_i.tys) : evF ⟨tab, [], n, [(4, ⟨[(0, (.ptr 0 [])), (3, (.data true tI))], [.var 125 (.data true (.pair (.sl (.int .u8)) (.pair tI (.int .u64))))], 1⟩)]⟩ Try.f228 s_Cur_next'p_i s_Cur_next'p_o x = s_Cur_next'p n x := by kernel_rfl
noncomputable def s_Cur_next'p_e (n : Nat) : Ent := ⟨228, s_Cur_next'p_i, s_Cur_next'p_o, fun x => s_Cur_next'p n x⟩
theorem s_Cur_next'p_ok (n : Nat) : EntOK Try.prog (s_Cur_next'p_e n) ∧ Own Try.prog 228 := ent_ok tabOK0 .nil Try.func228 rfl (by kernel_rfl) (s_Cur_next'p_ev n)
def s_Cur_pick'p_i : CSh := ⟨[(.ptr 0 []), (.data true tI)], [.var 125 (.data true (.pair (.sl (.int .u8)) (.pair tI (.int .u64))))]⟩
def s_Cur_pick'p_o : RSh := ⟨(.data true tI), [.var 125 (.data true (.pair (.sl (.int .u8)) (.pair tI (.int .u64))))]⟩
theorem s_Cur_pick'p_ev (n : Nat) (x : TupT s_Cur_pick'p_i.tys) : evF ⟨tab, [s_Cur_next'p_e n], n, []⟩ Try.f132 s_Cur_pick'p_i s_Cur_pick'p_o x = s_Cur_pick'p n x.1 x.2 := by kernel_rfl
noncomputable def s_Cur_pick'p_e (n : Nat) : Ent := ⟨132, s_Cur_pick'p_i, s_Cur_pick'p_o, fun x => s_Cur_pick'p n x.1 x.2⟩
theorem s_Cur_pick'p_ok (n : Nat) : EntOK Try.prog (s_Cur_pick'p_e n) ∧ Own Try.prog 132 := ent_ok tabOK0 (.cons (s_Cur_next'p_ok n) .nil) Try.func132 rfl (by kernel_rfl) (s_Cur_pick'p_ev n)
def s_Cur_one'p_i : CSh := ⟨[(.ptr 0 []), (.data true tI)], [.var 125 (.data true (.pair (.sl (.int .u8)) (.pair tI (.int .u64))))]⟩
def s_Cur_one'p_o : RSh := ⟨(.data true .bool), [.var 125 (.data true (.pair (.sl (.int .u8)) (.pair tI (.int .u64))))]⟩
theorem s_Cur_one'p_ev (n : Nat) (x : TupT s_Cur_one'p_i.tys) : evF ⟨tab, [s_Cur_pick'p_e n], n, []⟩ Try.f148 s_Cur_one'p_i s_Cur_one'p_o x = s_Cur_one'p n x.1 x.2 := by kernel_rfl
noncomputable def s_Cur_one'p_e (n : Nat) : Ent := ⟨148, s_Cur_one'p_i, s_Cur_one'p_o, fun x => s_Cur_one'p n x.1 x.2⟩
theorem s_Cur_one'p_ok (n : Nat) : EntOK Try.prog (s_Cur_one'p_e n) ∧ Own Try.prog 148 := ent_ok tabOK0 (.cons (s_Cur_pick'p_ok n) .nil) Try.func148 rfl (by kernel_rfl) (s_Cur_one'p_ev n)
def s_Cur_among'pl_i : CSh := ⟨[(.ptr 0 []), (.data false (.sl tI))], [.var 125 (.data true (.pair (.sl (.int .u8)) (.pair tI (.int .u64))))]⟩
def s_Cur_among'pl_o : RSh := ⟨(.data true tI), [.var 125 (.data true (.pair (.sl (.int .u8)) (.pair tI (.int .u64))))]⟩
theorem s_Cur_among'pl_ev (n : Nat) (x : TupT s_Cur_among'pl_i.tys) : evF ⟨tab, [s_Cur_pick'p_e n], n, []⟩ Try.f131 s_Cur_among'pl_i s_Cur_among'pl_o x = s_Cur_among'pl n x.1 x.2 := by kernel_rfl
noncomputable def s_Cur_among'pl_e (n : Nat) : Ent := ⟨131, s_Cur_among'pl_i, s_Cur_among'pl_o, fun x => s_Cur_among'pl n x.1 x.2⟩
theorem s_Cur_among'pl_ok (n : Nat) : EntOK Try.prog (s_Cur_among'pl_e n) ∧ Own Try.prog 131 := ent_ok tabOK0 (.cons (s_Cur_pick'p_ok n) .nil) Try.func131 rfl (by kernel_rfl) (s_Cur_among'pl_ev n)
def s_l2At_i : CSh := ⟨[(.data true tI)], []⟩
def s_l2At_o : RSh := ⟨(.data true (.arr 4 tI)), []⟩
theorem s_l2At_ev (n : Nat) (x : TupT s_l2At_i.tys) : evF ⟨tab, [], n, []⟩ Try.f151 s_l2At_i s_l2At_o x = s_l2At n x := by kernel_rfl
noncomputable def s_l2At_e (n : Nat) : Ent := ⟨151, s_l2At_i, s_l2At_o, fun x => s_l2At n x⟩
theorem s_l2At_ok (n : Nat) : EntOK Try.prog (s_l2At_e n) ∧ Own Try.prog 151 := ent_ok tabOK0 .nil Try.func151 rfl (by kernel_rfl) (s_l2At_ev n)
def s_l2Number_i : CSh := ⟨[(.data true (.arr 4 tI))], []⟩
def s_l2Number_o : RSh := ⟨(.data true tI), []⟩
theorem s_l2Number_ev (n : Nat) (x : TupT s_l2Number_i.tys) : evF ⟨tab, [], n, []⟩ Try.f269 s_l2Number_i s_l2Number_o x = s_l2Number n x := by kernel_rfl
noncomputable def s_l2Number_e (n : Nat) : Ent := ⟨269, s_l2Number_i, s_l2Number_o, fun x => s_l2Number n x⟩
theorem s_l2Number_ok (n : Nat) : EntOK Try.prog (s_l2Number_e n) ∧ Own Try.prog 269 := ent_ok tabOK0 .nil Try.func269 rfl (by kernel_rfl) (s_l2Number_ev n)
def s_l2Less_i : CSh := ⟨[(.data true (.arr 4 tI)), (.data true (.arr 4 tI))], []⟩
def s_l2Less_o : RSh := ⟨(.data true .bool), []⟩
theorem s_l2Less_ev (n : Nat) (x : TupT s_l2Less_i.tys) : evF ⟨tab, [s_l2Number_e n], n, []⟩ Try.f226 s_l2Less_i s_l2Less_o x = s_l2Less n x.1 x.2 := by kernel_rfl
noncomputable def s_l2Less_e (n : Nat) : Ent := ⟨226, s_l2Less_i, s_l2Less_o, fun x => s_l2Less n x.1 x.2⟩
theorem s_l2Less_ok (n : Nat) : EntOK Try.prog (s_l2Less_e n) ∧ Own Try.prog 226 := ent_ok tabOK0 (.cons (s_l2Number_ok n) .nil) Try.func226 rfl (by kernel_rfl) (s_l2Less_ev n)
def s_l2Own_i : CSh := ⟨[(.data false (.sl (.arr 4 tI)))], []⟩
def s_l2Own_o : RSh := ⟨(.own 0), [.rows 54 true (.arr 4 tI)]⟩
theorem s_l2Own_ev (n : Nat) (x : TupT s_l2Own_i.tys) : evF ⟨tab, [], n, []⟩ Try.f233 s_l2Own_i s_l2Own_o x = s_l2Own n x := by kernel_rfl
noncomputable def s_l2Own_e (n : Nat) : Ent := ⟨233, s_l2Own_i, s_l2Own_o, fun x => s_l2Own n x⟩
theorem s_l2Own_ok (n : Nat) : EntOK Try.prog (s_l2Own_e n) ∧ Own Try.prog 233 := ent_ok tabOK0 .nil Try.func233 rfl (by kernel_rfl) (s_l2Own_ev n)
def s_l2Put_i : CSh := ⟨[(.data false (.sl (.arr 4 tI))), (.data true (.arr 4 tI))], []⟩
def s_l2Put_o : RSh := ⟨(.own 0), [.rows 54 true (.arr 4 tI)]⟩
theorem s_l2Put_ev (n : Nat) (x : TupT s_l2Put_i.tys) : evF ⟨tab, [s_l2Less_e n, s_l2Own_e n], n, [(6, ⟨[(0, (.data false (.sl (.arr 4 tI)))), (3, (.ptr 0 [])), (5, (.data true tI))], [.var 54 (.data true (.arr 4 tI))], 0⟩)]⟩ Try.f149 s_l2Put_i s_l2Put_o x = s_l2Put n x.1 x.2 := by kernel_rfl
noncomputable def s_l2Put_e (n : Nat) : Ent := ⟨149, s_l2Put_i, s_l2Put_o, fun x => s_l2Put n x.1 x.2⟩
theorem s_l2Put_ok (n : Nat) : EntOK Try.prog (s_l2Put_e n) ∧ Own Try.prog 149 := ent_ok tabOK0 (.cons (s_l2Less_ok n) (.cons (s_l2Own_ok n) .nil)) Try.func149 rfl (by kernel_rfl) (s_l2Put_ev n)
def s_l2Sorted_i : CSh := ⟨[(.data false (.sl (.arr 4 tI)))], []⟩
def s_l2Sorted_o : RSh := ⟨(.own 0), [.rows 54 true (.arr 4 tI)]⟩
theorem s_l2Sorted_ev (n : Nat) (x : TupT s_l2Sorted_i.tys) : evF ⟨tab, [s_l2Put_e n], n, [(8, ⟨[(0, (.data false (.sl (.arr 4 tI)))), (3, (.own 0)), (4, (.data true tI))], [.rows 54 true (.arr 4 tI)], 0⟩)]⟩ Try.f268 s_l2Sorted_i s_l2Sorted_o x = s_l2Sorted n x := by kernel_rfl
noncomputable def s_l2Sorted_e (n : Nat) : Ent := ⟨268, s_l2Sorted_i, s_l2Sorted_o, fun x => s_l2Sorted n x⟩
theorem s_l2Sorted_ok (n : Nat) : EntOK Try.prog (s_l2Sorted_e n) ∧ Own Try.prog 268 := ent_ok tabOK0 (.cons (s_l2Put_ok n) .nil) Try.func268 rfl (by kernel_rfl) (s_l2Sorted_ev n)
def s_l2Third_i : CSh := ⟨[(.data true (.arr 4 tI)), (.data true (.arr 4 tI))], []⟩
def s_l2Third_o : RSh := ⟨(.data true (.arr 4 tI)), []⟩
theorem s_l2Third_ev (n : Nat) (x : TupT s_l2Third_i.tys) : evF ⟨tab, [], n, [(8, ⟨[(2, (.ptr 0 [])), (3, (.ptr 1 [])), (4, (.ptr 2 [])), (5, (.ptr 3 [])), (6, (.data true tI))], [.var 54 (.data true (.arr 4 tI)), .var 54 (.data true (.arr 4 tI)), .var 54 (.data true (.arr 4 tI)), .var 54 (.data true (.arr 4 tI))], 0⟩)]⟩ Try.f223 s_l2Third_i s_l2Third_o x = s_l2Third n x.1 x.2 := by kernel_rfl
noncomputable def s_l2Third_e (n : Nat) : Ent := ⟨223, s_l2Third_i, s_l2Third_o, fun x => s_l2Third n x.1 x.2⟩
theorem s_l2Third_ok (n : Nat) : EntOK Try.prog (s_l2Third_e n) ∧ Own Try.prog 223 := ent_ok tabOK0 .nil Try.func223 rfl (by kernel_rfl) (s_l2Third_ev n)
def s_l2Place_i : CSh := ⟨[(.data false (.sl (.arr 4 tI))), (.data true (.arr 4 tI))], []⟩
def s_l2Place_o : RSh := ⟨(.data true tI), []⟩
theorem s_l2Place_ev (n : Nat) (x : TupT s_l2Place_i.tys) : evF ⟨tab, [], n, [(6, ⟨[(0, (.data false (.sl (.arr 4 tI)))), (3, (.ptr 0 [])), (5, (.data true tI))], [.var 54 (.data true (.arr 4 tI))], 0⟩)]⟩ Try.f227 s_l2Place_i s_l2Place_o x = s_l2Place n x.1 x.2 := by kernel_rfl
noncomputable def s_l2Place_e (n : Nat) : Ent := ⟨227, s_l2Place_i, s_l2Place_o, fun x => s_l2Place n x.1 x.2⟩
theorem s_l2Place_ok (n : Nat) : EntOK Try.prog (s_l2Place_e n) ∧ Own Try.prog 227 := ent_ok tabOK0 .nil Try.func227 rfl (by kernel_rfl) (s_l2Place_ev n)
def s_l2Has_i : CSh := ⟨[(.data false (.sl (.arr 4 tI))), (.data true (.arr 4 tI))], []⟩
def s_l2Has_o : RSh := ⟨(.data true .bool), []⟩
theorem s_l2Has_ev (n : Nat) (x : TupT s_l2Has_i.tys) : evF ⟨tab, [s_l2Place_e n], n, []⟩ Try.f224 s_l2Has_i s_l2Has_o x = s_l2Has n x.1 x.2 := by kernel_rfl
noncomputable def s_l2Has_e (n : Nat) : Ent := ⟨224, s_l2Has_i, s_l2Has_o, fun x => s_l2Has n x.1 x.2⟩
theorem s_l2Has_ok (n : Nat) : EntOK Try.prog (s_l2Has_e n) ∧ Own Try.prog 224 := ent_ok tabOK0 (.cons (s_l2Place_ok n) .nil) Try.func224 rfl (by kernel_rfl) (s_l2Has_ev n)
def s_l6Span_i : CSh := ⟨[(.data false (.sl (.arr 4 tI)))], []⟩
def s_l6Span_o : RSh := ⟨(.own 0), [.rows 54 true (.arr 4 tI)]⟩
theorem s_l6Span_ev (n : Nat) (x : TupT s_l6Span_i.tys) : evF ⟨tab, [s_l2Sorted_e n, s_l2Third_e n, s_l2Has_e n, s_l2Put_e n], n, [(8, ⟨[(3, (.own 0)), (4, (.data true tI))], [.rows 54 true (.arr 4 tI)], 0⟩), (20, ⟨[(3, (.own 0)), (4, (.data true tI)), (5, (.data true tI))], [.rows 54 true (.arr 4 tI)], 0⟩)]⟩ Try.f217 s_l6Span_i s_l6Span_o x = s_l6Span n x := by kernel_rfl
noncomputable def s_l6Span_e (n : Nat) : Ent := ⟨217, s_l6Span_i, s_l6Span_o, fun x => s_l6Span n x⟩
theorem s_l6Span_ok (n : Nat) : EntOK Try.prog (s_l6Span_e n) ∧ Own Try.prog 217 := ent_ok tabOK0 (.cons (s_l2Sorted_ok n) (.cons (s_l2Third_ok n) (.cons (s_l2Has_ok n) (.cons (s_l2Put_ok n) .nil)))) Try.func217 rfl (by kernel_rfl) (s_l6Span_ev n)
def s_l2Drop_i : CSh := ⟨[(.data false (.sl (.arr 4 tI))), (.data true tI)], []⟩
def s_l2Drop_o : RSh := ⟨(.own 0), [.rows 54 true (.arr 4 tI)]⟩
theorem s_l2Drop_ev (n : Nat) (x : TupT s_l2Drop_i.tys) : evF ⟨tab, [s_l2Own_e n], n, []⟩ Try.f150 s_l2Drop_i s_l2Drop_o x = s_l2Drop n x.1 x.2 := by kernel_rfl
noncomputable def s_l2Drop_e (n : Nat) : Ent := ⟨150, s_l2Drop_i, s_l2Drop_o, fun x => s_l2Drop n x.1 x.2⟩
theorem s_l2Drop_ok (n : Nat) : EntOK Try.prog (s_l2Drop_e n) ∧ Own Try.prog 150 := ent_ok tabOK0 (.cons (s_l2Own_ok n) .nil) Try.func150 rfl (by kernel_rfl) (s_l2Drop_ev n)
def s_Cur_flat'p_i : CSh := ⟨[(.ptr 0 [])], [.var 125 (.data true (.pair (.sl (.int .u8)) (.pair tI (.int .u64))))]⟩
def s_Cur_flat'p_o : RSh := ⟨(.own 1), [.var 125 (.data true (.pair (.sl (.int .u8)) (.pair tI (.int .u64)))), .rows 54 true (.arr 4 tI)]⟩
theorem s_Cur_flat'p_ev (n : Nat) (x : TupT s_Cur_flat'p_i.tys) : evF ⟨tab, [s_Cur_among'pl_e n, s_Cur_pick'p_e n, s_l2At_e n, s_l2Put_e n, s_l6Span_e n, s_l2Drop_e n, s_Cur_one'p_e n], n, [(8, ⟨[(0, (.ptr 0 [])), (3, (.own 1)), (4, (.data true tI))], [.var 125 (.data true (.pair (.sl (.int .u8)) (.pair tI (.int .u64)))), .rows 54 true (.arr 4 tI)], 1⟩), (23, ⟨[(0, (.ptr 0 [])), (3, (.own 1))], [.var 125 (.data true (.pair (.sl (.int .u8)) (.pair tI (.int .u64)))), .rows 54 true (.arr 4 tI)], 1⟩), (5000034, ⟨[(0, (.ptr 0 [])), (3, (.own 1)), (35, (.data true .bool))], [.var 125 (.data true (.pair (.sl (.int .u8)) (.pair tI (.int .u64)))), .rows 54 true (.arr 4 tI)], 1⟩)]⟩ Try.f244 s_Cur_flat'p_i s_Cur_flat'p_o x = s_Cur_flat'p n x := by kernel_rfl
noncomputable def s_Cur_flat'p_e (n : Nat) : Ent := ⟨244, s_Cur_flat'p_i, s_Cur_flat'p_o, fun x => s_Cur_flat'p n x⟩
theorem s_Cur_flat'p_ok (n : Nat) : EntOK Try.prog (s_Cur_flat'p_e n) ∧ Own Try.prog 244 := ent_ok tabOK0 (.cons (s_Cur_among'pl_ok n) (.cons (s_Cur_pick'p_ok n) (.cons (s_l2At_ok n) (.cons (s_l2Put_ok n) (.cons (s_l6Span_ok n) (.cons (s_l2Drop_ok n) (.cons (s_Cur_one'p_ok n) .nil))))))) Try.func244 rfl (by kernel_rfl) (s_Cur_flat'p_ev n)
def s_Cur_hand'p_i : CSh := ⟨[(.ptr 0 [])], [.var 125 (.data true (.pair (.sl (.int .u8)) (.pair tI (.int .u64))))]⟩
def s_Cur_hand'p_o : RSh := ⟨(.own 1), [.var 125 (.data true (.pair (.sl (.int .u8)) (.pair tI (.int .u64)))), .rows 54 true (.arr 4 tI)]⟩
theorem s_Cur_hand'p_ev (n : Nat) (x : TupT s_Cur_hand'p_i.tys) : evF ⟨tab, [s_Cur_among'pl_e n, s_Cur_pick'p_e n, s_l2At_e n, s_l2Put_e n, s_Cur_one'p_e n], n, [(8, ⟨[(0, (.ptr 0 [])), (3, (.own 1)), (4, (.data true tI)), (5, (.data true tI))], [.var 125 (.data true (.pair (.sl (.int .u8)) (.pair tI (.int .u64)))), .rows 54 true (.arr 4 tI)], 1⟩), (23, ⟨[(0, (.ptr 0 [])), (3, (.own 1)), (4, (.data true tI)), (5, (.data true tI)), (6, (.ptr 2 [])), (7, (.data true tI))], [.var 125 (.data true (.pair (.sl (.int .u8)) (.pair tI (.int .u64)))), .rows 54 true (.arr 4 tI), .var 54 (.data true (.arr 4 tI))], 1⟩), (5000038, ⟨[(0, (.ptr 0 [])), (3, (.own 1)), (39, (.data true .bool))], [.var 125 (.data true (.pair (.sl (.int .u8)) (.pair tI (.int .u64)))), .rows 54 true (.arr 4 tI)], 1⟩)]⟩ Try.f141 s_Cur_hand'p_i s_Cur_hand'p_o x = s_Cur_hand'p n x := by kernel_rfl
noncomputable def s_Cur_hand'p_e (n : Nat) : Ent := ⟨141, s_Cur_hand'p_i, s_Cur_hand'p_o, fun x => s_Cur_hand'p n x⟩
theorem s_Cur_hand'p_ok (n : Nat) : EntOK Try.prog (s_Cur_hand'p_e n) ∧ Own Try.prog 141 := ent_ok tabOK0 (.cons (s_Cur_among'pl_ok n) (.cons (s_Cur_pick'p_ok n) (.cons (s_l2At_ok n) (.cons (s_l2Put_ok n) (.cons (s_Cur_one'p_ok n) .nil))))) Try.func141 rfl (by kernel_rfl) (s_Cur_hand'p_ev n)
def s_Cur_someHand'p_i : CSh := ⟨[(.ptr 0 [])], [.var 125 (.data true (.pair (.sl (.int .u8)) (.pair tI (.int .u64))))]⟩
def s_Cur_someHand'p_o : RSh := ⟨(.own 1), [.var 125 (.data true (.pair (.sl (.int .u8)) (.pair tI (.int .u64)))), .rows 54 true (.arr 4 tI)]⟩
theorem s_Cur_someHand'p_ev (n : Nat) (x : TupT s_Cur_someHand'p_i.tys) : evF ⟨tab, [s_Cur_one'p_e n, s_Cur_flat'p_e n, s_Cur_hand'p_e n], n, []⟩ Try.f162 s_Cur_someHand'p_i s_Cur_someHand'p_o x = s_Cur_someHand'p n x := by kernel_rfl
noncomputable def s_Cur_someHand'p_e (n : Nat) : Ent := ⟨162, s_Cur_someHand'p_i, s_Cur_someHand'p_o, fun x => s_Cur_someHand'p n x⟩
theorem s_Cur_someHand'p_ok (n : Nat) : EntOK Try.prog (s_Cur_someHand'p_e n) ∧ Own Try.prog 162 := ent_ok tabOK0 (.cons (s_Cur_one'p_ok n) (.cons (s_Cur_flat'p_ok n) (.cons (s_Cur_hand'p_ok n) .nil))) Try.func162 rfl (by kernel_rfl) (s_Cur_someHand'p_ev n)
def s_DrawSpanOf_i : CSh := ⟨[(.data false (.sl (.int .u8)))], []⟩
def s_DrawSpanOf_o : RSh := ⟨(.own 0), [.rows 54 true (.arr 4 tI)]⟩
theorem s_DrawSpanOf_ev (n : Nat) (x : TupT s_DrawSpanOf_i.tys) : evF ⟨tab, [s_Cur_someHand'p_e n], n, []⟩ Try.f104 s_DrawSpanOf_i s_DrawSpanOf_o x = s_DrawSpanOf n x := by kernel_rfl
noncomputable def s_DrawSpanOf_e (n : Nat) : Ent := ⟨104, s_DrawSpanOf_i, s_DrawSpanOf_o, fun x => s_DrawSpanOf n x⟩
theorem s_DrawSpanOf_ok (n : Nat) : EntOK Try.prog (s_DrawSpanOf_e n) ∧ Own Try.prog 104 := ent_ok tabOK0 (.cons (s_Cur_someHand'p_ok n) .nil) Try.func104 rfl (by kernel_rfl) (s_DrawSpanOf_ev n)
def i_within_i : CSh := ⟨[(.data true tI), (.data true tI), (.data true tI)], []⟩
def i_within_o : RSh := ⟨(.data true .bool), []⟩
theorem i_within_ev (n : Nat) (x : TupT i_within_i.tys) : evF ⟨tab, [], n, []⟩ Try.f133 i_within_i i_within_o x = i_within n x.1 x.2.1 x.2.2 := by kernel_rfl
noncomputable def i_within_e (n : Nat) : Ent := ⟨133, i_within_i, i_within_o, fun x => i_within n x.1 x.2.1 x.2.2⟩
theorem i_within_ok (n : Nat) : EntOK Try.prog (i_within_e n) ∧ Own Try.prog 133 := ent_ok tabOK0 .nil Try.func133 rfl (by kernel_rfl) (i_within_ev n)
def i_allWithin_1'pp_i : CSh := ⟨[(.data true tI), (.ptr 0 []), (.ptr 1 [])], [.var 3 (.data true tI), .var 3 (.data true tI)]⟩
def i_allWithin_1'pp_o : RSh := ⟨(.data true .bool), [.var 3 (.data true tI), .var 3 (.data true tI)]⟩
theorem i_allWithin_1'pp_ev (n : Nat) (x : TupT i_allWithin_1'pp_i.tys) : evF ⟨tab, [i_within_e n], n, []⟩ Try.f250 i_allWithin_1'pp_i i_allWithin_1'pp_o x = i_allWithin_1'pp n x.1 x.2.1 x.2.2 := by kernel_rfl
noncomputable def i_allWithin_1'pp_e (n : Nat) : Ent := ⟨250, i_allWithin_1'pp_i, i_allWithin_1'pp_o, fun x => i_allWithin_1'pp n x.1 x.2.1 x.2.2⟩
theorem i_allWithin_1'pp_ok (n : Nat) : EntOK Try.prog (i_allWithin_1'pp_e n) ∧ Own Try.prog 250 := ent_ok tabOK0 (.cons (i_within_ok n) .nil) Try.func250 rfl (by kernel_rfl) (i_allWithin_1'pp_ev n)
def slices_IndexFunc_Sint_int_'l_i_allWithin_1pp_i : CSh := ⟨[(.data false (.sl tI)), (.clo 250 (.tcons (.ptr 0 []) (.tcons (.ptr 1 []) .tnil)))], [.var 3 (.data true tI), .var 3 (.data true tI)]⟩
def slices_IndexFunc_Sint_int_'l_i_allWithin_1pp_o : RSh := ⟨(.data true tI), [.var 3 (.data true tI), .var 3 (.data true tI)]⟩
theorem slices_IndexFunc_Sint_int_'l_i_allWithin_1pp_ev (n : Nat) (x : TupT slices_IndexFunc_Sint_int_'l_i_allWithin_1pp_i.tys) : evF ⟨tab, [i_allWithin_1'pp_e n], n, [(6, ⟨[(0, (.data false (.sl tI))), (1, (.clo 250 (.tcons (.ptr 0 []) (.tcons (.ptr 1 []) .tnil)))), (7, (.data true tI)), (8, (.data true tI))], [.var 3 (.data true tI), .var 3 (.data true tI)], 2⟩)]⟩ Try.f279 slices_IndexFunc_Sint_int_'l_i_allWithin_1pp_i slices_IndexFunc_Sint_int_'l_i_allWithin_1pp_o x = slices_IndexFunc_Sint_int_'l_i_allWithin_1pp n x.1 x.2.1 x.2.2 := by kernel_rfl
noncomputable def slices_IndexFunc_Sint_int_'l_i_allWithin_1pp_e (n : Nat) : Ent := ⟨279, slices_IndexFunc_Sint_int_'l_i_allWithin_1pp_i, slices_IndexFunc_Sint_int_'l_i_allWithin_1pp_o, fun x => slices_IndexFunc_Sint_int_'l_i_allWithin_1pp n x.1 x.2.1 x.2.2⟩
theorem slices_IndexFunc_Sint_int_'l_i_allWithin_1pp_ok (n : Nat) : EntOK Try.prog (slices_IndexFunc_Sint_int_'l_i_allWithin_1pp_e n) ∧ Own Try.prog 279 := ent_ok tabOK0 (.cons (i_allWithin_1'pp_ok n) .nil) Try.func279 rfl (by kernel_rfl) (slices_IndexFunc_Sint_int_'l_i_allWithin_1pp_ev n)
def slices_ContainsFunc_Sint_int_'l_i_allWithin_1pp_i : CSh := ⟨[(.data false (.sl tI)), (.clo 250 (.tcons (.ptr 0 []) (.tcons (.ptr 1 []) .tnil)))], [.var 3 (.data true tI), .var 3 (.data true tI)]⟩
def slices_ContainsFunc_Sint_int_'l_i_allWithin_1pp_o : RSh := ⟨(.data true .bool), [.var 3 (.data true tI), .var 3 (.data true tI)]⟩
theorem slices_ContainsFunc_Sint_int_'l_i_allWithin_1pp_ev (n : Nat) (x : TupT slices_ContainsFunc_Sint_int_'l_i_allWithin_1pp_i.tys) : evF ⟨tab, [slices_IndexFunc_Sint_int_'l_i_allWithin_1pp_e n], n, []⟩ Try.f249 slices_ContainsFunc_Sint_int_'l_i_allWithin_1pp_i slices_ContainsFunc_Sint_int_'l_i_allWithin_1pp_o x = slices_ContainsFunc_Sint_int_'l_i_allWithin_1pp n x.1 x.2.1 x.2.2 := by kernel_rfl
noncomputable def slices_ContainsFunc_Sint_int_'l_i_allWithin_1pp_e (n : Nat) : Ent := ⟨249, slices_ContainsFunc_Sint_int_'l_i_allWithin_1pp_i, slices_ContainsFunc_Sint_int_'l_i_allWithin_1pp_o, fun x => slices_ContainsFunc_Sint_int_'l_i_allWithin_1pp n x.1 x.2.1 x.2.2⟩
theorem slices_ContainsFunc_Sint_int_'l_i_allWithin_1pp_ok (n : Nat) : EntOK Try.prog (slices_ContainsFunc_Sint_int_'l_i_allWithin_1pp_e n) ∧ Own Try.prog 249 := ent_ok tabOK0 (.cons (slices_IndexFunc_Sint_int_'l_i_allWithin_1pp_ok n) .nil) Try.func249 rfl (by kernel_rfl) (slices_ContainsFunc_Sint_int_'l_i_allWithin_1pp_ev n)
def i_allWithin_i : CSh := ⟨[(.data false (.sl tI)), (.data true tI), (.data true tI)], []⟩
def i_allWithin_o : RSh := ⟨(.data true .bool), []⟩
theorem i_allWithin_ev (n : Nat) (x : TupT i_allWithin_i.tys) : evF ⟨tab, [slices_ContainsFunc_Sint_int_'l_i_allWithin_1pp_e n], n, []⟩ Try.f179 i_allWithin_i i_allWithin_o x = i_allWithin n x.1 x.2.1 x.2.2 := by kernel_rfl
noncomputable def i_allWithin_e (n : Nat) : Ent := ⟨179, i_allWithin_i, i_allWithin_o, fun x => i_allWithin n x.1 x.2.1 x.2.2⟩
theorem i_allWithin_ok (n : Nat) : EntOK Try.prog (i_allWithin_e n) ∧ Own Try.prog 179 := ent_ok tabOK0 (.cons (slices_ContainsFunc_Sint_int_'l_i_allWithin_1pp_ok n) .nil) Try.func179 rfl (by kernel_rfl) (i_allWithin_ev n)
def i_IsCard_i : CSh := ⟨[(.data true (.arr 4 tI))], []⟩
def i_IsCard_o : RSh := ⟨(.data true .bool), []⟩
theorem i_IsCard_ev (n : Nat) (x : TupT i_IsCard_i.tys) : evF ⟨tab, [i_allWithin_e n], n, []⟩ Try.f99 i_IsCard_i i_IsCard_o x = i_IsCard n x := by kernel_rfl
noncomputable def i_IsCard_e (n : Nat) : Ent := ⟨99, i_IsCard_i, i_IsCard_o, fun x => i_IsCard n x⟩
theorem i_IsCard_ok (n : Nat) : EntOK Try.prog (i_IsCard_e n) ∧ Own Try.prog 99 := ent_ok tabOK0 (.cons (i_allWithin_ok n) .nil) Try.func99 rfl (by kernel_rfl) (i_IsCard_ev n)
def i_number_i : CSh := ⟨[(.data true (.arr 4 tI))], []⟩
def i_number_o : RSh := ⟨(.data true tI), []⟩
theorem i_number_ev (n : Nat) (x : TupT i_number_i.tys) : evF ⟨tab, [], n, [(8, ⟨[(3, (.data true tI)), (6, (.data true (.arr 4 tI))), (7, (.data true tI))], [], 0⟩)]⟩ Try.f155 i_number_i i_number_o x = i_number n x := by kernel_rfl
noncomputable def i_number_e (n : Nat) : Ent := ⟨155, i_number_i, i_number_o, fun x => i_number n x⟩
theorem i_number_ok (n : Nat) : EntOK Try.prog (i_number_e n) ∧ Own Try.prog 155 := ent_ok tabOK0 .nil Try.func155 rfl (by kernel_rfl) (i_number_ev n)
def i_IsHand_i : CSh := ⟨[(.data false (.sl (.arr 4 tI)))], []⟩
def i_IsHand_o : RSh := ⟨(.data true .bool), []⟩
theorem i_IsHand_ev (n : Nat) (x : TupT i_IsHand_i.tys) : evF ⟨tab, [i_IsCard_e n, i_number_e n], n, [(6, ⟨[(0, (.data false (.sl (.arr 4 tI)))), (5, (.data false (.sl (.arr 4 tI)))), (6, (.data true tI)), (7, (.data true tI))], [], 0⟩)]⟩ Try.f123 i_IsHand_i i_IsHand_o x = i_IsHand n x := by kernel_rfl
noncomputable def i_IsHand_e (n : Nat) : Ent := ⟨123, i_IsHand_i, i_IsHand_o, fun x => i_IsHand n x⟩
theorem i_IsHand_ok (n : Nat) : EntOK Try.prog (i_IsHand_e n) ∧ Own Try.prog 123 := ent_ok tabOK0 (.cons (i_IsCard_ok n) (.cons (i_number_ok n) .nil)) Try.func123 rfl (by kernel_rfl) (i_IsHand_ev n)
def i_span_1'pp_o_i : CSh := ⟨[(.data true (.arr 4 tI)), (.ptr 0 []), (.ptr 1 [])], [.var 185 (.data true (.arr 81 .bool)), .var 24 (.own 2), .rows 54 true (.arr 4 tI)]⟩
def i_span_1'pp_o_o : RSh := ⟨.tnil, [.var 185 (.data true (.arr 81 .bool)), .var 24 (.own 3), .gone, .rows 54 true (.arr 4 tI)]⟩
theorem i_span_1'pp_o_ev (n : Nat) (x : TupT i_span_1'pp_o_i.tys) : evF ⟨tab, [i_number_e n], n, []⟩ Try.f266 i_span_1'pp_o_i i_span_1'pp_o_o x = i_span_1'pp_o n x.1 x.2.1 x.2.2 := by kernel_rfl
noncomputable def i_span_1'pp_o_e (n : Nat) : Ent := ⟨266, i_span_1'pp_o_i, i_span_1'pp_o_o, fun x => i_span_1'pp_o n x.1 x.2.1 x.2.2⟩
theorem i_span_1'pp_o_ok (n : Nat) : EntOK Try.prog (i_span_1'pp_o_e n) ∧ Own Try.prog 266 := ent_ok tabOK0 (.cons (i_number_ok n) .nil) Try.func266 rfl (by kernel_rfl) (i_span_1'pp_o_ev n)
def i_third_i : CSh := ⟨[(.data true (.arr 4 tI)), (.data true (.arr 4 tI))], []⟩
def i_third_o : RSh := ⟨(.data true (.arr 4 tI)), []⟩
theorem i_third_ev (n : Nat) (x : TupT i_third_i.tys) : evF ⟨tab, [], n, [(8, ⟨[(2, (.ptr 0 [])), (3, (.ptr 1 [])), (4, (.ptr 2 [])), (5, (.ptr 3 [])), (8, (.data true tI))], [.var 54 (.data true (.arr 4 tI)), .var 54 (.data true (.arr 4 tI)), .var 54 (.data true (.arr 4 tI)), .var 54 (.data true (.arr 4 tI))], 0⟩)]⟩ Try.f166 i_third_i i_third_o x = i_third n x.1 x.2 := by kernel_rfl
noncomputable def i_third_e (n : Nat) : Ent := ⟨166, i_third_i, i_third_o, fun x => i_third n x.1 x.2⟩
theorem i_third_ok (n : Nat) : EntOK Try.prog (i_third_e n) ∧ Own Try.prog 166 := ent_ok tabOK0 .nil Try.func166 rfl (by kernel_rfl) (i_third_ev n)
def slices_Clone_SA4_A4__i : CSh := ⟨[(.data false (.sl (.arr 4 tI)))], []⟩
def slices_Clone_SA4_A4__o : RSh := ⟨(.own 0), [.rows 54 true (.arr 4 tI)]⟩
theorem slices_Clone_SA4_A4__ev (n : Nat) (x : TupT slices_Clone_SA4_A4__i.tys) : evF ⟨tab, [], n, []⟩ Try.f255 slices_Clone_SA4_A4__i slices_Clone_SA4_A4__o x = slices_Clone_SA4_A4_ n x := by kernel_rfl
noncomputable def slices_Clone_SA4_A4__e (n : Nat) : Ent := ⟨255, slices_Clone_SA4_A4__i, slices_Clone_SA4_A4__o, fun x => slices_Clone_SA4_A4_ n x⟩
theorem slices_Clone_SA4_A4__ok (n : Nat) : EntOK Try.prog (slices_Clone_SA4_A4__e n) ∧ Own Try.prog 255 := ent_ok tabOK0 .nil Try.func255 rfl (by kernel_rfl) (slices_Clone_SA4_A4__ev n)
def math_bits_Len64_i : CSh := ⟨[(.data true (.int .u64))], []⟩
def math_bits_Len64_o : RSh := ⟨(.data true tI), []⟩
theorem math_bits_Len64_ev (n : Nat) (x : TupT math_bits_Len64_i.tys) : evF ⟨tab, [], n, [(2, ⟨[(0, (.data true (.int .u64))), (2, (.data true tI))], [], 0⟩), (10, ⟨[(0, (.data true (.int .u64))), (2, (.data true tI))], [], 0⟩), (18, ⟨[(0, (.data true (.int .u64))), (2, (.data true tI))], [], 0⟩)]⟩ Try.f303 math_bits_Len64_i math_bits_Len64_o x = math_bits_Len64 n x := by kernel_rfl
noncomputable def math_bits_Len64_e (n : Nat) : Ent := ⟨303, math_bits_Len64_i, math_bits_Len64_o, fun x => math_bits_Len64 n x⟩
theorem math_bits_Len64_ok (n : Nat) : EntOK Try.prog (math_bits_Len64_e n) ∧ Own Try.prog 303 := ent_ok tabOK0 .nil Try.func303 rfl (by kernel_rfl) (math_bits_Len64_ev n)
def math_bits_Len_i : CSh := ⟨[(.data true (.int .u64))], []⟩
def math_bits_Len_o : RSh := ⟨(.data true tI), []⟩
theorem math_bits_Len_ev (n : Nat) (x : TupT math_bits_Len_i.tys) : evF ⟨tab, [math_bits_Len64_e n], n, []⟩ Try.f292 math_bits_Len_i math_bits_Len_o x = math_bits_Len n x := by kernel_rfl
noncomputable def math_bits_Len_e (n : Nat) : Ent := ⟨292, math_bits_Len_i, math_bits_Len_o, fun x => math_bits_Len n x⟩
theorem math_bits_Len_ok (n : Nat) : EntOK Try.prog (math_bits_Len_e n) ∧ Own Try.prog 292 := ent_ok tabOK0 (.cons (math_bits_Len64_ok n) .nil) Try.func292 rfl (by kernel_rfl) (math_bits_Len_ev n)
def i_compareCards_i : CSh := ⟨[(.data true (.arr 4 tI)), (.data true (.arr 4 tI))], []⟩
def i_compareCards_o : RSh := ⟨(.data true tI), []⟩
theorem i_compareCards_ev (n : Nat) (x : TupT i_compareCards_i.tys) : evF ⟨tab, [i_number_e n], n, []⟩ Try.f285 i_compareCards_i i_compareCards_o x = i_compareCards n x.1 x.2 := by kernel_rfl
noncomputable def i_compareCards_e (n : Nat) : Ent := ⟨285, i_compareCards_i, i_compareCards_o, fun x => i_compareCards n x.1 x.2⟩
theorem i_compareCards_ok (n : Nat) : EntOK Try.prog (i_compareCards_e n) ∧ Own Try.prog 285 := ent_ok tabOK0 (.cons (i_number_ok n) .nil) Try.func285 rfl (by kernel_rfl) (i_compareCards_ev n)
def slices_insertionSortCmpFunc_A4_'o_i_compareCards_i : CSh := ⟨[(.own 0), (.data true tI), (.data true tI), (.clo 285 .tnil)], [.rows 54 true (.arr 4 tI)]⟩
def slices_insertionSortCmpFunc_A4_'o_i_compareCards_o : RSh := ⟨.tnil, [.rows 54 true (.arr 4 tI)]⟩
theorem slices_insertionSortCmpFunc_A4_'o_i_compareCards_ev (n : Nat) (x : TupT slices_insertionSortCmpFunc_A4_'o_i_compareCards_i.tys) : evF ⟨tab, [i_compareCards_e n], n, [(3, ⟨[(0, (.own 0)), (1, (.data true tI)), (2, (.data true tI)), (3, (.clo 285 .tnil)), (8, (.data true tI))], [.rows 54 true (.arr 4 tI)], 1⟩), (15, ⟨[(0, (.own 0)), (1, (.data true tI)), (2, (.data true tI)), (3, (.clo 285 .tnil)), (8, (.data true tI)), (9, (.data true tI))], [.rows 54 true (.arr 4 tI)], 1⟩)]⟩ Try.f294 slices_insertionSortCmpFunc_A4_'o_i_compareCards_i slices_insertionSortCmpFunc_A4_'o_i_compareCards_o x = slices_insertionSortCmpFunc_A4_'o_i_compareCards n x.1 x.2.1 x.2.2 := by kernel_rfl
noncomputable def slices_insertionSortCmpFunc_A4_'o_i_compareCards_e (n : Nat) : Ent := ⟨294, slices_insertionSortCmpFunc_A4_'o_i_compareCards_i, slices_insertionSortCmpFunc_A4_'o_i_compareCards_o, fun x => slices_insertionSortCmpFunc_A4_'o_i_compareCards n x.1 x.2.1 x.2.2⟩
theorem slices_insertionSortCmpFunc_A4_'o_i_compareCards_ok (n : Nat) : EntOK Try.prog (slices_insertionSortCmpFunc_A4_'o_i_compareCards_e n) ∧ Own Try.prog 294 := ent_ok tabOK0 (.cons (i_compareCards_ok n) .nil) Try.func294 rfl (by kernel_rfl) (slices_insertionSortCmpFunc_A4_'o_i_compareCards_ev n)
def slices_siftDownCmpFunc_A4_'o_i_compareCards_i : CSh := ⟨[(.own 0), (.data true tI), (.data true tI), (.data true tI), (.clo 285 .tnil)], [.rows 54 true (.arr 4 tI)]⟩
def slices_siftDownCmpFunc_A4_'o_i_compareCards_o : RSh := ⟨.tnil, [.rows 54 true (.arr 4 tI)]⟩
theorem slices_siftDownCmpFunc_A4_'o_i_compareCards_ev (n : Nat) (x : TupT slices_siftDownCmpFunc_A4_'o_i_compareCards_i.tys) : evF ⟨tab, [i_compareCards_e n], n, [(3, ⟨[(0, (.own 0)), (2, (.data true tI)), (3, (.data true tI)), (4, (.clo 285 .tnil)), (10, (.data true tI))], [.rows 54 true (.arr 4 tI)], 1⟩), (13, ⟨[(0, (.own 0)), (2, (.data true tI)), (3, (.data true tI)), (4, (.clo 285 .tnil)), (10, (.data true tI)), (11, (.data true tI))], [.rows 54 true (.arr 4 tI)], 1⟩)]⟩ Try.f304 slices_siftDownCmpFunc_A4_'o_i_compareCards_i slices_siftDownCmpFunc_A4_'o_i_compareCards_o x = slices_siftDownCmpFunc_A4_'o_i_compareCards n x.1 x.2.1 x.2.2.1 x.2.2.2 := by kernel_rfl
noncomputable def slices_siftDownCmpFunc_A4_'o_i_compareCards_e (n : Nat) : Ent := ⟨304, slices_siftDownCmpFunc_A4_'o_i_compareCards_i, slices_siftDownCmpFunc_A4_'o_i_compareCards_o, fun x => slices_siftDownCmpFunc_A4_'o_i_compareCards n x.1 x.2.1 x.2.2.1 x.2.2.2⟩
theorem slices_siftDownCmpFunc_A4_'o_i_compareCards_ok (n : Nat) : EntOK Try.prog (slices_siftDownCmpFunc_A4_'o_i_compareCards_e n) ∧ Own Try.prog 304 := ent_ok tabOK0 (.cons (i_compareCards_ok n) .nil) Try.func304 rfl (by kernel_rfl) (slices_siftDownCmpFunc_A4_'o_i_compareCards_ev n)
def slices_heapSortCmpFunc_A4_'o_i_compareCards_i : CSh := ⟨[(.own 0), (.data true tI), (.data true tI), (.clo 285 .tnil)], [.rows 54 true (.arr 4 tI)]⟩
def slices_heapSortCmpFunc_A4_'o_i_compareCards_o : RSh := ⟨.tnil, [.rows 54 true (.arr 4 tI)]⟩
theorem slices_heapSortCmpFunc_A4_'o_i_compareCards_ev (n : Nat) (x : TupT slices_heapSortCmpFunc_A4_'o_i_compareCards_i.tys) : evF ⟨tab, [slices_siftDownCmpFunc_A4_'o_i_compareCards_e n], n, [(10, ⟨[(0, (.own 0)), (3, (.clo 285 .tnil)), (8, (.data true tI)), (9, (.data true tI)), (10, (.data true tI)), (11, (.data true tI))], [.rows 54 true (.arr 4 tI)], 1⟩), (24, ⟨[(0, (.own 0)), (3, (.clo 285 .tnil)), (8, (.data true tI)), (9, (.data true tI)), (12, (.data true tI))], [.rows 54 true (.arr 4 tI)], 1⟩)]⟩ Try.f295 slices_heapSortCmpFunc_A4_'o_i_compareCards_i slices_heapSortCmpFunc_A4_'o_i_compareCards_o x = slices_heapSortCmpFunc_A4_'o_i_compareCards n x.1 x.2.1 x.2.2 := by kernel_rfl
noncomputable def slices_heapSortCmpFunc_A4_'o_i_compareCards_e (n : Nat) : Ent := ⟨295, slices_heapSortCmpFunc_A4_'o_i_compareCards_i, slices_heapSortCmpFunc_A4_'o_i_compareCards_o, fun x => slices_heapSortCmpFunc_A4_'o_i_compareCards n x.1 x.2.1 x.2.2⟩
theorem slices_heapSortCmpFunc_A4_'o_i_compareCards_ok (n : Nat) : EntOK Try.prog (slices_heapSortCmpFunc_A4_'o_i_compareCards_e n) ∧ Own Try.prog 295 := ent_ok tabOK0 (.cons (slices_siftDownCmpFunc_A4_'o_i_compareCards_ok n) .nil) Try.func295 rfl (by kernel_rfl) (slices_heapSortCmpFunc_A4_'o_i_compareCards_ev n)
def slices_order2CmpFunc_A4_'lp_i_compareCards_i : CSh := ⟨[(.data false (.sl (.arr 4 tI))), (.data true tI), (.data true tI), (.ptr 0 []), (.clo 285 .tnil)], [.var 3 (.data true tI)]⟩
def slices_order2CmpFunc_A4_'lp_i_compareCards_o : RSh := ⟨(.tcons (.data true tI) (.tcons (.data true tI) .tnil)), [.var 3 (.data true tI)]⟩
theorem slices_order2CmpFunc_A4_'lp_i_compareCards_ev (n : Nat) (x : TupT slices_order2CmpFunc_A4_'lp_i_compareCards_i.tys) : evF ⟨tab, [i_compareCards_e n], n, []⟩ Try.f309 slices_order2CmpFunc_A4_'lp_i_compareCards_i slices_order2CmpFunc_A4_'lp_i_compareCards_o x = slices_order2CmpFunc_A4_'lp_i_compareCards n x.1 x.2.1 x.2.2.1 x.2.2.2 := by kernel_rfl
noncomputable def slices_order2CmpFunc_A4_'lp_i_compareCards_e (n : Nat) : Ent := ⟨309, slices_order2CmpFunc_A4_'lp_i_compareCards_i, slices_order2CmpFunc_A4_'lp_i_compareCards_o, fun x => slices_order2CmpFunc_A4_'lp_i_compareCards n x.1 x.2.1 x.2.2.1 x.2.2.2⟩
theorem slices_order2CmpFunc_A4_'lp_i_compareCards_ok (n : Nat) : EntOK Try.prog (slices_order2CmpFunc_A4_'lp_i_compareCards_e n) ∧ Own Try.prog 309 := ent_ok tabOK0 (.cons (i_compareCards_ok n) .nil) Try.func309 rfl (by kernel_rfl) (slices_order2CmpFunc_A4_'lp_i_compareCards_ev n)
def slices_medianCmpFunc_A4_'lp_i_compareCards_i : CSh := ⟨[(.data false (.sl (.arr 4 tI))), (.data true tI), (.data true tI), (.data true tI), (.ptr 0 []), (.clo 285 .tnil)], [.var 3 (.data true tI)]⟩
def slices_medianCmpFunc_A4_'lp_i_compareCards_o : RSh := ⟨(.data true tI), [.var 3 (.data true tI)]⟩
theorem slices_medianCmpFunc_A4_'lp_i_compareCards_ev (n : Nat) (x : TupT slices_medianCmpFunc_A4_'lp_i_compareCards_i.tys) : evF ⟨tab, [slices_order2CmpFunc_A4_'lp_i_compareCards_e n], n, []⟩ Try.f308 slices_medianCmpFunc_A4_'lp_i_compareCards_i slices_medianCmpFunc_A4_'lp_i_compareCards_o x = slices_medianCmpFunc_A4_'lp_i_compareCards n x.1 x.2.1 x.2.2.1 x.2.2.2.1 x.2.2.2.2 := by kernel_rfl
noncomputable def slices_medianCmpFunc_A4_'lp_i_compareCards_e (n : Nat) : Ent := ⟨308, slices_medianCmpFunc_A4_'lp_i_compareCards_i, slices_medianCmpFunc_A4_'lp_i_compareCards_o, fun x => slices_medianCmpFunc_A4_'lp_i_compareCards n x.1 x.2.1 x.2.2.1 x.2.2.2.1 x.2.2.2.2⟩
theorem slices_medianCmpFunc_A4_'lp_i_compareCards_ok (n : Nat) : EntOK Try.prog (slices_medianCmpFunc_A4_'lp_i_compareCards_e n) ∧ Own Try.prog 308 := ent_ok tabOK0 (.cons (slices_order2CmpFunc_A4_'lp_i_compareCards_ok n) .nil) Try.func308 rfl (by kernel_rfl) (slices_medianCmpFunc_A4_'lp_i_compareCards_ev n)
def slices_medianAdjacentCmpFunc_A4_'lp_i_compareCards_i : CSh := ⟨[(.data false (.sl (.arr 4 tI))), (.data true tI), (.ptr 0 []), (.clo 285 .tnil)], [.var 3 (.data true tI)]⟩
def slices_medianAdjacentCmpFunc_A4_'lp_i_compareCards_o : RSh := ⟨(.data true tI), [.var 3 (.data true tI)]⟩
theorem slices_medianAdjacentCmpFunc_A4_'lp_i_compareCards_ev (n : Nat) (x : TupT slices_medianAdjacentCmpFunc_A4_'lp_i_compareCards_i.tys) : evF ⟨tab, [slices_medianCmpFunc_A4_'lp_i_compareCards_e n], n, []⟩ Try.f307 slices_medianAdjacentCmpFunc_A4_'lp_i_compareCards_i slices_medianAdjacentCmpFunc_A4_'lp_i_compareCards_o x = slices_medianAdjacentCmpFunc_A4_'lp_i_compareCards n x.1 x.2.1 x.2.2 := by kernel_rfl
noncomputable def slices_medianAdjacentCmpFunc_A4_'lp_i_compareCards_e (n : Nat) : Ent := ⟨307, slices_medianAdjacentCmpFunc_A4_'lp_i_compareCards_i, slices_medianAdjacentCmpFunc_A4_'lp_i_compareCards_o, fun x => slices_medianAdjacentCmpFunc_A4_'lp_i_compareCards n x.1 x.2.1 x.2.2⟩
theorem slices_medianAdjacentCmpFunc_A4_'lp_i_compareCards_ok (n : Nat) : EntOK Try.prog (slices_medianAdjacentCmpFunc_A4_'lp_i_compareCards_e n) ∧ Own Try.prog 307 := ent_ok tabOK0 (.cons (slices_medianCmpFunc_A4_'lp_i_compareCards_ok n) .nil) Try.func307 rfl (by kernel_rfl) (slices_medianAdjacentCmpFunc_A4_'lp_i_compareCards_ev n)
def slices_choosePivotCmpFunc_A4_'l_i_compareCards_i : CSh := ⟨[(.data false (.sl (.arr 4 tI))), (.data true tI), (.data true tI), (.clo 285 .tnil)], []⟩
def slices_choosePivotCmpFunc_A4_'l_i_compareCards_o : RSh := ⟨(.tcons (.data true tI) (.tcons (.data true tI) .tnil)), []⟩
theorem slices_choosePivotCmpFunc_A4_'l_i_compareCards_ev (n : Nat) (x : TupT slices_choosePivotCmpFunc_A4_'l_i_compareCards_i.tys) : evF ⟨tab, [slices_medianCmpFunc_A4_'lp_i_compareCards_e n, slices_medianAdjacentCmpFunc_A4_'lp_i_compareCards_e n], n, [(12, ⟨[(11, (.ptr 0 [])), (13, (.data true tI))], [.var 3 (.data true tI)], 0⟩), (16, ⟨[(0, (.data false (.sl (.arr 4 tI)))), (3, (.clo 285 .tnil)), (11, (.ptr 0 [])), (12, (.data true tI)), (13, (.data true tI)), (14, (.data true tI))], [.var 3 (.data true tI)], 0⟩)]⟩ Try.f297 slices_choosePivotCmpFunc_A4_'l_i_compareCards_i slices_choosePivotCmpFunc_A4_'l_i_compareCards_o x = slices_choosePivotCmpFunc_A4_'l_i_compareCards n x.1 x.2.1 x.2.2 := by kernel_rfl
noncomputable def slices_choosePivotCmpFunc_A4_'l_i_compareCards_e (n : Nat) : Ent := ⟨297, slices_choosePivotCmpFunc_A4_'l_i_compareCards_i, slices_choosePivotCmpFunc_A4_'l_i_compareCards_o, fun x => slices_choosePivotCmpFunc_A4_'l_i_compareCards n x.1 x.2.1 x.2.2⟩
theorem slices_choosePivotCmpFunc_A4_'l_i_compareCards_ok (n : Nat) : EntOK Try.prog (slices_choosePivotCmpFunc_A4_'l_i_compareCards_e n) ∧ Own Try.prog 297 := ent_ok tabOK0 (.cons (slices_medianCmpFunc_A4_'lp_i_compareCards_ok n) (.cons (slices_medianAdjacentCmpFunc_A4_'lp_i_compareCards_ok n) .nil)) Try.func297 rfl (by kernel_rfl) (slices_choosePivotCmpFunc_A4_'l_i_compareCards_ev n)
def slices_partitionEqualCmpFunc_A4_'o_i_compareCards_i : CSh := ⟨[(.own 0), (.data true tI), (.data true tI), (.data true tI), (.clo 285 .tnil)], [.rows 54 true (.arr 4 tI)]⟩
def slices_partitionEqualCmpFunc_A4_'o_i_compareCards_o : RSh := ⟨(.data true tI), [.rows 54 true (.arr 4 tI)]⟩
theorem slices_partitionEqualCmpFunc_A4_'o_i_compareCards_ev (n : Nat) (x : TupT slices_partitionEqualCmpFunc_A4_'o_i_compareCards_i.tys) : evF ⟨tab, [i_compareCards_e n], n, [(8, ⟨[(0, (.own 0)), (1, (.data true tI)), (4, (.clo 285 .tnil)), (11, (.data true tI)), (12, (.data true tI))], [.rows 54 true (.arr 4 tI)], 1⟩), (12, ⟨[(0, (.own 0)), (1, (.data true tI)), (4, (.clo 285 .tnil)), (11, (.data true tI)), (12, (.data true tI))], [.rows 54 true (.arr 4 tI)], 1⟩), (23, ⟨[(0, (.own 0)), (1, (.data true tI)), (4, (.clo 285 .tnil)), (11, (.data true tI)), (12, (.data true tI))], [.rows 54 true (.arr 4 tI)], 1⟩)]⟩ Try.f300 slices_partitionEqualCmpFunc_A4_'o_i_compareCards_i slices_partitionEqualCmpFunc_A4_'o_i_compareCards_o x = slices_partitionEqualCmpFunc_A4_'o_i_compareCards n x.1 x.2.1 x.2.2.1 x.2.2.2 := by kernel_rfl
noncomputable def slices_partitionEqualCmpFunc_A4_'o_i_compareCards_e (n : Nat) : Ent := ⟨300, slices_partitionEqualCmpFunc_A4_'o_i_compareCards_i, slices_partitionEqualCmpFunc_A4_'o_i_compareCards_o, fun x => slices_partitionEqualCmpFunc_A4_'o_i_compareCards n x.1 x.2.1 x.2.2.1 x.2.2.2⟩
theorem slices_partitionEqualCmpFunc_A4_'o_i_compareCards_ok (n : Nat) : EntOK Try.prog (slices_partitionEqualCmpFunc_A4_'o_i_compareCards_e n) ∧ Own Try.prog 300 := ent_ok tabOK0 (.cons (i_compareCards_ok n) .nil) Try.func300 rfl (by kernel_rfl) (slices_partitionEqualCmpFunc_A4_'o_i_compareCards_ev n)
def slices_partitionCmpFunc_A4_'o_i_compareCards_i : CSh := ⟨[(.own 0), (.data true tI), (.data true tI), (.data true tI), (.clo 285 .tnil)], [.rows 54 true (.arr 4 tI)]⟩
def slices_partitionCmpFunc_A4_'o_i_compareCards_o : RSh := ⟨(.tcons (.data true tI) (.tcons (.data true .bool) .tnil)), [.rows 54 true (.arr 4 tI)]⟩
theorem slices_partitionCmpFunc_A4_'o_i_compareCards_ev (n : Nat) (x : TupT slices_partitionCmpFunc_A4_'o_i_compareCards_i.tys) : evF ⟨tab, [i_compareCards_e n], n, [(8, ⟨[(0, (.own 0)), (1, (.data true tI)), (4, (.clo 285 .tnil)), (12, (.data true tI)), (13, (.data true tI))], [.rows 54 true (.arr 4 tI)], 1⟩), (19, ⟨[(0, (.own 0)), (1, (.data true tI)), (4, (.clo 285 .tnil)), (12, (.data true tI)), (13, (.data true tI))], [.rows 54 true (.arr 4 tI)], 1⟩), (46, ⟨[(0, (.own 0)), (1, (.data true tI)), (4, (.clo 285 .tnil)), (12, (.data true tI)), (13, (.data true tI))], [.rows 54 true (.arr 4 tI)], 1⟩), (50, ⟨[(0, (.own 0)), (1, (.data true tI)), (4, (.clo 285 .tnil)), (12, (.data true tI)), (13, (.data true tI))], [.rows 54 true (.arr 4 tI)], 1⟩), (61, ⟨[(0, (.own 0)), (1, (.data true tI)), (4, (.clo 285 .tnil)), (12, (.data true tI)), (13, (.data true tI))], [.rows 54 true (.arr 4 tI)], 1⟩)]⟩ Try.f301 slices_partitionCmpFunc_A4_'o_i_compareCards_i slices_partitionCmpFunc_A4_'o_i_compareCards_o x = slices_partitionCmpFunc_A4_'o_i_compareCards n x.1 x.2.1 x.2.2.1 x.2.2.2 := by kernel_rfl
noncomputable def slices_partitionCmpFunc_A4_'o_i_compareCards_e (n : Nat) : Ent := ⟨301, slices_partitionCmpFunc_A4_'o_i_compareCards_i, slices_partitionCmpFunc_A4_'o_i_compareCards_o, fun x => slices_partitionCmpFunc_A4_'o_i_compareCards n x.1 x.2.1 x.2.2.1 x.2.2.2⟩
theorem slices_partitionCmpFunc_A4_'o_i_compareCards_ok (n : Nat) : EntOK Try.prog (slices_partitionCmpFunc_A4_'o_i_compareCards_e n) ∧ Own Try.prog 301 := ent_ok tabOK0 (.cons (i_compareCards_ok n) .nil) Try.func301 rfl (by kernel_rfl) (slices_partitionCmpFunc_A4_'o_i_compareCards_ev n)
def slices_partialInsertionSortCmpFunc_A4_'o_i_compareCards_i : CSh := ⟨[(.own 0), (.data true tI), (.data true tI), (.clo 285 .tnil)], [.rows 54 true (.arr 4 tI)]⟩
def slices_partialInsertionSortCmpFunc_A4_'o_i_compareCards_o : RSh := ⟨(.data true .bool), [.rows 54 true (.arr 4 tI)]⟩
theorem slices_partialInsertionSortCmpFunc_A4_'o_i_compareCards_ev (n : Nat) (x : TupT slices_partialInsertionSortCmpFunc_A4_'o_i_compareCards_i.tys) : evF ⟨tab, [i_compareCards_e n], n, [(8, ⟨[(0, (.own 0)), (1, (.data true tI)), (2, (.data true tI)), (3, (.clo 285 .tnil)), (9, (.data true tI)), (10, (.data true tI))], [.rows 54 true (.arr 4 tI)], 1⟩), (19, ⟨[(0, (.own 0)), (1, (.data true tI)), (2, (.data true tI)), (3, (.clo 285 .tnil)), (9, (.data true tI)), (10, (.data true tI))], [.rows 54 true (.arr 4 tI)], 1⟩), (46, ⟨[(0, (.own 0)), (1, (.data true tI)), (2, (.data true tI)), (3, (.clo 285 .tnil)), (9, (.data true tI)), (10, (.data true tI))], [.rows 54 true (.arr 4 tI)], 1⟩), (53, ⟨[(0, (.own 0)), (1, (.data true tI)), (2, (.data true tI)), (3, (.clo 285 .tnil)), (9, (.data true tI)), (10, (.data true tI)), (11, (.data true tI))], [.rows 54 true (.arr 4 tI)], 1⟩), (77, ⟨[(0, (.own 0)), (1, (.data true tI)), (2, (.data true tI)), (3, (.clo 285 .tnil)), (9, (.data true tI)), (10, (.data true tI)), (12, (.data true tI))], [.rows 54 true (.arr 4 tI)], 1⟩)]⟩ Try.f299 slices_partialInsertionSortCmpFunc_A4_'o_i_compareCards_i slices_partialInsertionSortCmpFunc_A4_'o_i_compareCards_o x = slices_partialInsertionSortCmpFunc_A4_'o_i_compareCards n x.1 x.2.1 x.2.2 := by kernel_rfl
noncomputable def slices_partialInsertionSortCmpFunc_A4_'o_i_compareCards_e (n : Nat) : Ent := ⟨299, slices_partialInsertionSortCmpFunc_A4_'o_i_compareCards_i, slices_partialInsertionSortCmpFunc_A4_'o_i_compareCards_o, fun x => slices_partialInsertionSortCmpFunc_A4_'o_i_compareCards n x.1 x.2.1 x.2.2⟩
theorem slices_partialInsertionSortCmpFunc_A4_'o_i_compareCards_ok (n : Nat) : EntOK Try.prog (slices_partialInsertionSortCmpFunc_A4_'o_i_compareCards_e n) ∧ Own Try.prog 299 := ent_ok tabOK0 (.cons (i_compareCards_ok n) .nil) Try.func299 rfl (by kernel_rfl) (slices_partialInsertionSortCmpFunc_A4_'o_i_compareCards_ev n)
def slices_reverseRangeCmpFunc_A4_'o_i_compareCards_i : CSh := ⟨[(.own 0), (.data true tI), (.data true tI), (.clo 285 .tnil)], [.rows 54 true (.arr 4 tI)]⟩
def slices_reverseRangeCmpFunc_A4_'o_i_compareCards_o : RSh := ⟨.tnil, [.rows 54 true (.arr 4 tI)]⟩
theorem slices_reverseRangeCmpFunc_A4_'o_i_compareCards_ev (n : Nat) (x : TupT slices_reverseRangeCmpFunc_A4_'o_i_compareCards_i.tys) : evF ⟨tab, [], n, [(5, ⟨[(0, (.own 0)), (8, (.data true tI)), (9, (.data true tI))], [.rows 54 true (.arr 4 tI)], 1⟩)]⟩ Try.f298 slices_reverseRangeCmpFunc_A4_'o_i_compareCards_i slices_reverseRangeCmpFunc_A4_'o_i_compareCards_o x = slices_reverseRangeCmpFunc_A4_'o_i_compareCards n x.1 x.2.1 x.2.2 := by kernel_rfl
noncomputable def slices_reverseRangeCmpFunc_A4_'o_i_compareCards_e (n : Nat) : Ent := ⟨298, slices_reverseRangeCmpFunc_A4_'o_i_compareCards_i, slices_reverseRangeCmpFunc_A4_'o_i_compareCards_o, fun x => slices_reverseRangeCmpFunc_A4_'o_i_compareCards n x.1 x.2.1 x.2.2⟩
theorem slices_reverseRangeCmpFunc_A4_'o_i_compareCards_ok (n : Nat) : EntOK Try.prog (slices_reverseRangeCmpFunc_A4_'o_i_compareCards_e n) ∧ Own Try.prog 298 := ent_ok tabOK0 .nil Try.func298 rfl (by kernel_rfl) (slices_reverseRangeCmpFunc_A4_'o_i_compareCards_ev n)
def slices_nextPowerOfTwo_i : CSh := ⟨[(.data true tI)], []⟩
def slices_nextPowerOfTwo_o : RSh := ⟨(.data true (.int .u64)), []⟩
theorem slices_nextPowerOfTwo_ev (n : Nat) (x : TupT slices_nextPowerOfTwo_i.tys) : evF ⟨tab, [math_bits_Len_e n], n, []⟩ Try.f305 slices_nextPowerOfTwo_i slices_nextPowerOfTwo_o x = slices_nextPowerOfTwo n x := by kernel_rfl
noncomputable def slices_nextPowerOfTwo_e (n : Nat) : Ent := ⟨305, slices_nextPowerOfTwo_i, slices_nextPowerOfTwo_o, fun x => slices_nextPowerOfTwo n x⟩
theorem slices_nextPowerOfTwo_ok (n : Nat) : EntOK Try.prog (slices_nextPowerOfTwo_e n) ∧ Own Try.prog 305 := ent_ok tabOK0 (.cons (math_bits_Len_ok n) .nil) Try.func305 rfl (by kernel_rfl) (slices_nextPowerOfTwo_ev n)
def __slices_xorshift__Next'p_i : CSh := ⟨[(.ptr 0 [])], [.var 234 (.data true (.int .u64))]⟩
def __slices_xorshift__Next'p_o : RSh := ⟨(.data true (.int .u64)), [.var 234 (.data true (.int .u64))]⟩
theorem __slices_xorshift__Next'p_ev (n : Nat) (x : TupT __slices_xorshift__Next'p_i.tys) : evF ⟨tab, [], n, []⟩ Try.f306 __slices_xorshift__Next'p_i __slices_xorshift__Next'p_o x = __slices_xorshift__Next'p n x := by kernel_rfl
noncomputable def __slices_xorshift__Next'p_e (n : Nat) : Ent := ⟨306, __slices_xorshift__Next'p_i, __slices_xorshift__Next'p_o, fun x => __slices_xorshift__Next'p n x⟩
theorem __slices_xorshift__Next'p_ok (n : Nat) : EntOK Try.prog (__slices_xorshift__Next'p_e n) ∧ Own Try.prog 306 := ent_ok tabOK0 .nil Try.func306 rfl (by kernel_rfl) (__slices_xorshift__Next'p_ev n)
def slices_breakPatternsCmpFunc_A4_'o_i_compareCards_i : CSh := ⟨[(.own 0), (.data true tI), (.data true tI), (.clo 285 .tnil)], [.rows 54 true (.arr 4 tI)]⟩
def slices_breakPatternsCmpFunc_A4_'o_i_compareCards_o : RSh := ⟨.tnil, [.rows 54 true (.arr 4 tI)]⟩
theorem slices_breakPatternsCmpFunc_A4_'o_i_compareCards_ev (n : Nat) (x : TupT slices_breakPatternsCmpFunc_A4_'o_i_compareCards_i.tys) : evF ⟨tab, [slices_nextPowerOfTwo_e n, __slices_xorshift__Next'p_e n], n, [(12, ⟨[(0, (.own 0)), (1, (.data true tI)), (8, (.data true tI)), (9, (.ptr 1 [])), (10, (.data true (.int .u64))), (11, (.data true tI))], [.rows 54 true (.arr 4 tI), .var 234 (.data true (.int .u64))], 1⟩), (23, ⟨[(0, (.own 0)), (1, (.data true tI)), (8, (.data true tI)), (9, (.ptr 1 [])), (10, (.data true (.int .u64))), (11, (.data true tI)), (12, (.data true tI))], [.rows 54 true (.arr 4 tI), .var 234 (.data true (.int .u64))], 1⟩)]⟩ Try.f296 slices_breakPatternsCmpFunc_A4_'o_i_compareCards_i slices_breakPatternsCmpFunc_A4_'o_i_compareCards_o x = slices_breakPatternsCmpFunc_A4_'o_i_compareCards n x.1 x.2.1 x.2.2 := by kernel_rfl
noncomputable def slices_breakPatternsCmpFunc_A4_'o_i_compareCards_e (n : Nat) : Ent := ⟨296, slices_breakPatternsCmpFunc_A4_'o_i_compareCards_i, slices_breakPatternsCmpFunc_A4_'o_i_compareCards_o, fun x => slices_breakPatternsCmpFunc_A4_'o_i_compareCards n x.1 x.2.1 x.2.2⟩
theorem slices_breakPatternsCmpFunc_A4_'o_i_compareCards_ok (n : Nat) : EntOK Try.prog (slices_breakPatternsCmpFunc_A4_'o_i_compareCards_e n) ∧ Own Try.prog 296 := ent_ok tabOK0 (.cons (slices_nextPowerOfTwo_ok n) (.cons (__slices_xorshift__Next'p_ok n) .nil)) Try.func296 rfl (by kernel_rfl) (slices_breakPatternsCmpFunc_A4_'o_i_compareCards_ev n)
def slices_pdqsortCmpFunc_A4_'o_i_compareCards_i : CSh := ⟨[(.own 0), (.data true tI), (.data true tI), (.data true tI), (.clo 285 .tnil)], [.rows 54 true (.arr 4 tI)]⟩
def slices_pdqsortCmpFunc_A4_'o_i_compareCards_o : RSh := ⟨.tnil, [.rows 54 true (.arr 4 tI)]⟩
theorem slices_pdqsortCmpFunc_A4_'o_i_compareCards_ev (n : Nat) (go : TupT slices_pdqsortCmpFunc_A4_'o_i_compareCards_i.tys → Option (TupT slices_pdqsortCmpFunc_A4_'o_i_compareCards_o.tys)) (x : TupT slices_pdqsortCmpFunc_A4_'o_i_compareCards_i.tys) : evF ⟨tab, [⟨291, slices_pdqsortCmpFunc_A4_'o_i_compareCards_i, slices_pdqsortCmpFunc_A4_'o_i_compareCards_o, go⟩, slices_insertionSortCmpFunc_A4_'o_i_compareCards_e n, slices_heapSortCmpFunc_A4_'o_i_compareCards_e n, slices_choosePivotCmpFunc_A4_'l_i_compareCards_e n, i_compareCards_e n, slices_partitionEqualCmpFunc_A4_'o_i_compareCards_e n, slices_partitionCmpFunc_A4_'o_i_compareCards_e n, slices_partialInsertionSortCmpFunc_A4_'o_i_compareCards_e n, slices_reverseRangeCmpFunc_A4_'o_i_compareCards_e n, slices_breakPatternsCmpFunc_A4_'o_i_compareCards_e n], n, [(5, ⟨[(0, (.own 0)), (1, (.data true tI)), (2, (.data true tI)), (3, (.data true tI)), (4, (.clo 285 .tnil)), (10, (.data true .bool)), (11, (.data true .bool))], [.rows 54 true (.arr 4 tI)], 1⟩), (25, ⟨[(0, (.own 0)), (1, (.data true tI)), (2, (.data true tI)), (3, (.data true tI)), (4, (.clo 285 .tnil)), (10, (.data true .bool)), (11, (.data true .bool)), (12, (.data true tI))], [.rows 54 true (.arr 4 tI)], 1⟩), (35, ⟨[(0, (.own 0)), (1, (.data true tI)), (2, (.data true tI)), (3, (.data true tI)), (4, (.clo 285 .tnil)), (10, (.data true .bool)), (11, (.data true .bool)), (12, (.data true tI)), (13, (.data true tI)), (14, (.data true tI))], [.rows 54 true (.arr 4 tI)], 1⟩), (45, ⟨[(0, (.own 0)), (1, (.data true tI)), (2, (.data true tI)), (3, (.data true tI)), (4, (.clo 285 .tnil)), (10, (.data true .bool)), (11, (.data true .bool)), (12, (.data true tI)), (13, (.data true tI))], [.rows 54 true (.arr 4 tI)], 1⟩)]⟩ Try.f291 slices_pdqsortCmpFunc_A4_'o_i_compareCards_i slices_pdqsortCmpFunc_A4_'o_i_compareCards_o x = slices_pdqsortCmpFunc_A4_'o_i_compareCards_R n go x := by kernel_rfl
noncomputable def slices_pdqsortCmpFunc_A4_'o_i_compareCards_e (n : Nat) : Ent := ⟨291, slices_pdqsortCmpFunc_A4_'o_i_compareCards_i, slices_pdqsortCmpFunc_A4_'o_i_compareCards_o, fun x => slices_pdqsortCmpFunc_A4_'o_i_compareCards n x.1 x.2.1 x.2.2.1 x.2.2.2⟩
theorem slices_pdqsortCmpFunc_A4_'o_i_compareCards_ok (n : Nat) : EntOK Try.prog (slices_pdqsortCmpFunc_A4_'o_i_compareCards_e n) ∧ Own Try.prog 291 := ent_rec tabOK0 (.cons (slices_insertionSortCmpFunc_A4_'o_i_compareCards_ok n) (.cons (slices_heapSortCmpFunc_A4_'o_i_compareCards_ok n) (.cons (slices_choosePivotCmpFunc_A4_'l_i_compareCards_ok n) (.cons (i_compareCards_ok n) (.cons (slices_partitionEqualCmpFunc_A4_'o_i_compareCards_ok n) (.cons (slices_partitionCmpFunc_A4_'o_i_compareCards_ok n) (.cons (slices_partialInsertionSortCmpFunc_A4_'o_i_compareCards_ok n) (.cons (slices_reverseRangeCmpFunc_A4_'o_i_compareCards_ok n) (.cons (slices_breakPatternsCmpFunc_A4_'o_i_compareCards_ok n) .nil))))))))) Try.func291 rfl (by kernel_rfl) (slices_pdqsortCmpFunc_A4_'o_i_compareCards_ev n) n
def slices_SortFunc_SA4_A4_'o_i_compareCards_i : CSh := ⟨[(.own 0), (.clo 285 .tnil)], [.rows 54 true (.arr 4 tI)]⟩
def slices_SortFunc_SA4_A4_'o_i_compareCards_o : RSh := ⟨.tnil, [.rows 54 true (.arr 4 tI)]⟩
theorem slices_SortFunc_SA4_A4_'o_i_compareCards_ev (n : Nat) (x : TupT slices_SortFunc_SA4_A4_'o_i_compareCards_i.tys) : evF ⟨tab, [math_bits_Len_e n, slices_pdqsortCmpFunc_A4_'o_i_compareCards_e n], n, []⟩ Try.f284 slices_SortFunc_SA4_A4_'o_i_compareCards_i slices_SortFunc_SA4_A4_'o_i_compareCards_o x = slices_SortFunc_SA4_A4_'o_i_compareCards n x := by kernel_rfl
noncomputable def slices_SortFunc_SA4_A4_'o_i_compareCards_e (n : Nat) : Ent := ⟨284, slices_SortFunc_SA4_A4_'o_i_compareCards_i, slices_SortFunc_SA4_A4_'o_i_compareCards_o, fun x => slices_SortFunc_SA4_A4_'o_i_compareCards n x⟩
theorem slices_SortFunc_SA4_A4_'o_i_compareCards_ok (n : Nat) : EntOK Try.prog (slices_SortFunc_SA4_A4_'o_i_compareCards_e n) ∧ Own Try.prog 284 := ent_ok tabOK0 (.cons (math_bits_Len_ok n) (.cons (slices_pdqsortCmpFunc_A4_'o_i_compareCards_ok n) .nil)) Try.func284 rfl (by kernel_rfl) (slices_SortFunc_SA4_A4_'o_i_compareCards_ev n)
def slices_Compact_SA4_A4_'o_i : CSh := ⟨[(.own 0)], [.rows 54 true (.arr 4 tI)]⟩
def slices_Compact_SA4_A4_'o_o : RSh := ⟨(.own 1), [.gone, .rows 54 true (.arr 4 tI)]⟩
theorem slices_Compact_SA4_A4_'o_ev (n : Nat) (x : TupT slices_Compact_SA4_A4_'o_i.tys) : evF ⟨tab, [], n, [(14, ⟨[(0, (.own 0)), (3, (.data true tI))], [.rows 54 true (.arr 4 tI)], 1⟩), (32, ⟨[(0, (.own 0)), (3, (.data true tI)), (4, (.ownp 0)), (5, (.data true tI))], [.rows 54 true (.arr 4 tI)], 1⟩)]⟩ Try.f286 slices_Compact_SA4_A4_'o_i slices_Compact_SA4_A4_'o_o x = slices_Compact_SA4_A4_'o n x := by kernel_rfl
noncomputable def slices_Compact_SA4_A4_'o_e (n : Nat) : Ent := ⟨286, slices_Compact_SA4_A4_'o_i, slices_Compact_SA4_A4_'o_o, fun x => slices_Compact_SA4_A4_'o n x⟩
theorem slices_Compact_SA4_A4_'o_ok (n : Nat) : EntOK Try.prog (slices_Compact_SA4_A4_'o_e n) ∧ Own Try.prog 286 := ent_ok tabOK0 .nil Try.func286 rfl (by kernel_rfl) (slices_Compact_SA4_A4_'o_ev n)
def i_sorted_i : CSh := ⟨[(.data false (.sl (.arr 4 tI)))], []⟩
def i_sorted_o : RSh := ⟨(.own 0), [.rows 54 true (.arr 4 tI)]⟩
theorem i_sorted_ev (n : Nat) (x : TupT i_sorted_i.tys) : evF ⟨tab, [slices_Clone_SA4_A4__e n, slices_SortFunc_SA4_A4_'o_i_compareCards_e n, slices_Compact_SA4_A4_'o_e n], n, []⟩ Try.f267 i_sorted_i i_sorted_o x = i_sorted n x := by kernel_rfl
noncomputable def i_sorted_e (n : Nat) : Ent := ⟨267, i_sorted_i, i_sorted_o, fun x => i_sorted n x⟩
theorem i_sorted_ok (n : Nat) : EntOK Try.prog (i_sorted_e n) ∧ Own Try.prog 267 := ent_ok tabOK0 (.cons (slices_Clone_SA4_A4__ok n) (.cons (slices_SortFunc_SA4_A4_'o_i_compareCards_ok n) (.cons (slices_Compact_SA4_A4_'o_ok n) .nil))) Try.func267 rfl (by kernel_rfl) (i_sorted_ev n)
def i_span_i : CSh := ⟨[(.data false (.sl (.arr 4 tI)))], []⟩
def i_span_o : RSh := ⟨(.own 0), [.rows 54 true (.arr 4 tI)]⟩
theorem i_span_ev (n : Nat) (x : TupT i_span_i.tys) : evF ⟨tab, [i_span_1'pp_o_e n, i_third_e n, i_sorted_e n], n, [(12, ⟨[(4, (.ptr 0 [])), (5, (.clo 266 (.tcons (.ptr 1 []) (.tcons (.ptr 0 []) .tnil)))), (13, (.data false (.sl (.arr 4 tI)))), (14, (.data true tI)), (15, (.data true tI))], [.var 24 (.own 2), .var 185 (.data true (.arr 81 .bool)), .rows 54 true (.arr 4 tI)], 0⟩), (29, ⟨[(4, (.ptr 0 [])), (5, (.clo 266 (.tcons (.ptr 1 []) (.tcons (.ptr 0 []) .tnil)))), (8, (.data true tI))], [.var 24 (.own 2), .var 185 (.data true (.arr 81 .bool)), .rows 54 true (.arr 4 tI)], 0⟩), (41, ⟨[(4, (.ptr 0 [])), (5, (.clo 266 (.tcons (.ptr 1 []) (.tcons (.ptr 0 []) .tnil)))), (8, (.data true tI)), (29, (.data true tI)), (30, (.data true tI))], [.var 24 (.own 2), .var 185 (.data true (.arr 81 .bool)), .rows 54 true (.arr 4 tI)], 0⟩)]⟩ Try.f216 i_span_i i_span_o x = i_span n x := by kernel_rfl
noncomputable def i_span_e (n : Nat) : Ent := ⟨216, i_span_i, i_span_o, fun x => i_span n x⟩
theorem i_span_ok (n : Nat) : EntOK Try.prog (i_span_e n) ∧ Own Try.prog 216 := ent_ok tabOK0 (.cons (i_span_1'pp_o_ok n) (.cons (i_third_ok n) (.cons (i_sorted_ok n) .nil))) Try.func216 rfl (by kernel_rfl) (i_span_ev n)
def i_SpanOf_i : CSh := ⟨[(.data false (.sl (.arr 4 tI)))], []⟩
def i_SpanOf_o : RSh := ⟨(.tcons (.own 0) (.tcons (.data true .bool) .tnil)), [.rows 54 true (.arr 4 tI)]⟩
theorem i_SpanOf_ev (n : Nat) (x : TupT i_SpanOf_i.tys) : evF ⟨tab, [i_IsHand_e n, i_span_e n], n, []⟩ Try.f105 i_SpanOf_i i_SpanOf_o x = i_SpanOf n x := by kernel_rfl
noncomputable def i_SpanOf_e (n : Nat) : Ent := ⟨105, i_SpanOf_i, i_SpanOf_o, fun x => i_SpanOf n x⟩
theorem i_SpanOf_ok (n : Nat) : EntOK Try.prog (i_SpanOf_e n) ∧ Own Try.prog 105 := ent_ok tabOK0 (.cons (i_IsHand_ok n) (.cons (i_span_ok n) .nil)) Try.func105 rfl (by kernel_rfl) (i_SpanOf_ev n)
def s_l1In_i : CSh := ⟨[(.data true tI), (.data true tI), (.data true tI)], []⟩
def s_l1In_o : RSh := ⟨(.data true .bool), []⟩
theorem s_l1In_ev (n : Nat) (x : TupT s_l1In_i.tys) : evF ⟨tab, [], n, []⟩ Try.f134 s_l1In_i s_l1In_o x = s_l1In n x.1 x.2.1 x.2.2 := by kernel_rfl
noncomputable def s_l1In_e (n : Nat) : Ent := ⟨134, s_l1In_i, s_l1In_o, fun x => s_l1In n x.1 x.2.1 x.2.2⟩
theorem s_l1In_ok (n : Nat) : EntOK Try.prog (s_l1In_e n) ∧ Own Try.prog 134 := ent_ok tabOK0 .nil Try.func134 rfl (by kernel_rfl) (s_l1In_ev n)
def s_l2Card_i : CSh := ⟨[(.data true (.arr 4 tI))], []⟩
def s_l2Card_o : RSh := ⟨(.data true .bool), []⟩
theorem s_l2Card_ev (n : Nat) (x : TupT s_l2Card_i.tys) : evF ⟨tab, [s_l1In_e n], n, [(6, ⟨[(1, (.ptr 0 [])), (3, (.data true tI))], [.var 54 (.data true (.arr 4 tI))], 0⟩)]⟩ Try.f214 s_l2Card_i s_l2Card_o x = s_l2Card n x := by kernel_rfl
noncomputable def s_l2Card_e (n : Nat) : Ent := ⟨214, s_l2Card_i, s_l2Card_o, fun x => s_l2Card n x⟩
theorem s_l2Card_ok (n : Nat) : EntOK Try.prog (s_l2Card_e n) ∧ Own Try.prog 214 := ent_ok tabOK0 (.cons (s_l1In_ok n) .nil) Try.func214 rfl (by kernel_rfl) (s_l2Card_ev n)
def s_l2Hand_i : CSh := ⟨[(.data false (.sl (.arr 4 tI)))], []⟩
def s_l2Hand_o : RSh := ⟨(.data true .bool), []⟩
theorem s_l2Hand_ev (n : Nat) (x : TupT s_l2Hand_i.tys) : evF ⟨tab, [s_l2Card_e n, s_l2Less_e n], n, [(6, ⟨[(0, (.data false (.sl (.arr 4 tI)))), (3, (.data true tI))], [], 0⟩)]⟩ Try.f127 s_l2Hand_i s_l2Hand_o x = s_l2Hand n x := by kernel_rfl
noncomputable def s_l2Hand_e (n : Nat) : Ent := ⟨127, s_l2Hand_i, s_l2Hand_o, fun x => s_l2Hand n x⟩
theorem s_l2Hand_ok (n : Nat) : EntOK Try.prog (s_l2Hand_e n) ∧ Own Try.prog 127 := ent_ok tabOK0 (.cons (s_l2Card_ok n) (.cons (s_l2Less_ok n) .nil)) Try.func127 rfl (by kernel_rfl) (s_l2Hand_ev n)
def s_SpanOf_i : CSh := ⟨[(.data false (.sl (.arr 4 tI)))], []⟩
def s_SpanOf_o : RSh := ⟨(.tcons (.own 0) (.tcons (.data true .bool) .tnil)), [.rows 54 true (.arr 4 tI)]⟩
theorem s_SpanOf_ev (n : Nat) (x : TupT s_SpanOf_i.tys) : evF ⟨tab, [s_l2Hand_e n, s_l6Span_e n], n, []⟩ Try.f106 s_SpanOf_i s_SpanOf_o x = s_SpanOf n x := by kernel_rfl
noncomputable def s_SpanOf_e (n : Nat) : Ent := ⟨106, s_SpanOf_i, s_SpanOf_o, fun x => s_SpanOf n x⟩
theorem s_SpanOf_ok (n : Nat) : EntOK Try.prog (s_SpanOf_e n) ∧ Own Try.prog 106 := ent_ok tabOK0 (.cons (s_l2Hand_ok n) (.cons (s_l6Span_ok n) .nil)) Try.func106 rfl (by kernel_rfl) (s_SpanOf_ev n)
def v_rHand_i : CSh := ⟨[(.data false (.sl (.arr 4 tI))), (.data false (.sl (.arr 4 tI)))], []⟩
def v_rHand_o : RSh := ⟨(.data true .bool), []⟩
theorem v_rHand_ev (n : Nat) (x : TupT v_rHand_i.tys) : evF ⟨tab, [], n, [(14, ⟨[(0, (.data false (.sl (.arr 4 tI)))), (1, (.data false (.sl (.arr 4 tI)))), (5, (.data true tI))], [], 0⟩)]⟩ Try.f95 v_rHand_i v_rHand_o x = v_rHand n x.1 x.2 := by kernel_rfl
noncomputable def v_rHand_e (n : Nat) : Ent := ⟨95, v_rHand_i, v_rHand_o, fun x => v_rHand n x.1 x.2⟩
theorem v_rHand_ok (n : Nat) : EntOK Try.prog (v_rHand_e n) ∧ Own Try.prog 95 := ent_ok tabOK0 .nil Try.func95 rfl (by kernel_rfl) (v_rHand_ev n)
def i_DimensionOf_i : CSh := ⟨[(.data false (.sl (.arr 4 tI)))], []⟩
def i_DimensionOf_o : RSh := ⟨(.tcons (.data true tI) (.tcons (.data true .bool) .tnil)), []⟩
theorem i_DimensionOf_ev (n : Nat) (x : TupT i_DimensionOf_i.tys) : evF ⟨tab, [i_IsHand_e n, i_span_e n], n, [(16, ⟨[(4, (.data true tI)), (5, (.data true tI))], [], 0⟩)]⟩ Try.f103 i_DimensionOf_i i_DimensionOf_o x = i_DimensionOf n x := by kernel_rfl
noncomputable def i_DimensionOf_e (n : Nat) : Ent := ⟨103, i_DimensionOf_i, i_DimensionOf_o, fun x => i_DimensionOf n x⟩
theorem i_DimensionOf_ok (n : Nat) : EntOK Try.prog (i_DimensionOf_e n) ∧ Own Try.prog 103 := ent_ok tabOK0 (.cons (i_IsHand_ok n) (.cons (i_span_ok n) .nil)) Try.func103 rfl (by kernel_rfl) (i_DimensionOf_ev n)
def s_l6Dimension_i : CSh := ⟨[(.data false (.sl (.arr 4 tI)))], []⟩
def s_l6Dimension_o : RSh := ⟨(.data true tI), []⟩
theorem s_l6Dimension_ev (n : Nat) (x : TupT s_l6Dimension_i.tys) : evF ⟨tab, [s_l6Span_e n], n, [(6, ⟨[(3, (.data true tI)), (4, (.data true tI))], [], 0⟩)]⟩ Try.f218 s_l6Dimension_i s_l6Dimension_o x = s_l6Dimension n x := by kernel_rfl
noncomputable def s_l6Dimension_e (n : Nat) : Ent := ⟨218, s_l6Dimension_i, s_l6Dimension_o, fun x => s_l6Dimension n x⟩
theorem s_l6Dimension_ok (n : Nat) : EntOK Try.prog (s_l6Dimension_e n) ∧ Own Try.prog 218 := ent_ok tabOK0 (.cons (s_l6Span_ok n) .nil) Try.func218 rfl (by kernel_rfl) (s_l6Dimension_ev n)
def s_DimensionOf_i : CSh := ⟨[(.data false (.sl (.arr 4 tI)))], []⟩
def s_DimensionOf_o : RSh := ⟨(.tcons (.data true tI) (.tcons (.data true .bool) .tnil)), []⟩
theorem s_DimensionOf_ev (n : Nat) (x : TupT s_DimensionOf_i.tys) : evF ⟨tab, [s_l2Hand_e n, s_l6Dimension_e n], n, []⟩ Try.f107 s_DimensionOf_i s_DimensionOf_o x = s_DimensionOf n x := by kernel_rfl
noncomputable def s_DimensionOf_e (n : Nat) : Ent := ⟨107, s_DimensionOf_i, s_DimensionOf_o, fun x => s_DimensionOf n x⟩
theorem s_DimensionOf_ok (n : Nat) : EntOK Try.prog (s_DimensionOf_e n) ∧ Own Try.prog 107 := ent_ok tabOK0 (.cons (s_l2Hand_ok n) (.cons (s_l6Dimension_ok n) .nil)) Try.func107 rfl (by kernel_rfl) (s_DimensionOf_ev n)
def i_IsFlat_i : CSh := ⟨[(.data false (.sl (.arr 4 tI)))], []⟩
def i_IsFlat_o : RSh := ⟨(.tcons (.data true .bool) (.tcons (.data true .bool) .tnil)), []⟩
theorem i_IsFlat_ev (n : Nat) (x : TupT i_IsFlat_i.tys) : evF ⟨tab, [i_IsHand_e n, i_span_e n], n, []⟩ Try.f108 i_IsFlat_i i_IsFlat_o x = i_IsFlat n x := by kernel_rfl
noncomputable def i_IsFlat_e (n : Nat) : Ent := ⟨108, i_IsFlat_i, i_IsFlat_o, fun x => i_IsFlat n x⟩
theorem i_IsFlat_ok (n : Nat) : EntOK Try.prog (i_IsFlat_e n) ∧ Own Try.prog 108 := ent_ok tabOK0 (.cons (i_IsHand_ok n) (.cons (i_span_ok n) .nil)) Try.func108 rfl (by kernel_rfl) (i_IsFlat_ev n)
def s_l6Flat_i : CSh := ⟨[(.data false (.sl (.arr 4 tI)))], []⟩
def s_l6Flat_o : RSh := ⟨(.data true .bool), []⟩
theorem s_l6Flat_ev (n : Nat) (x : TupT s_l6Flat_i.tys) : evF ⟨tab, [s_l6Span_e n], n, []⟩ Try.f219 s_l6Flat_i s_l6Flat_o x = s_l6Flat n x := by kernel_rfl
noncomputable def s_l6Flat_e (n : Nat) : Ent := ⟨219, s_l6Flat_i, s_l6Flat_o, fun x => s_l6Flat n x⟩
theorem s_l6Flat_ok (n : Nat) : EntOK Try.prog (s_l6Flat_e n) ∧ Own Try.prog 219 := ent_ok tabOK0 (.cons (s_l6Span_ok n) .nil) Try.func219 rfl (by kernel_rfl) (s_l6Flat_ev n)
def s_IsFlat_i : CSh := ⟨[(.data false (.sl (.arr 4 tI)))], []⟩
def s_IsFlat_o : RSh := ⟨(.tcons (.data true .bool) (.tcons (.data true .bool) .tnil)), []⟩
theorem s_IsFlat_ev (n : Nat) (x : TupT s_IsFlat_i.tys) : evF ⟨tab, [s_l2Hand_e n, s_l6Flat_e n], n, []⟩ Try.f109 s_IsFlat_i s_IsFlat_o x = s_IsFlat n x := by kernel_rfl
noncomputable def s_IsFlat_e (n : Nat) : Ent := ⟨109, s_IsFlat_i, s_IsFlat_o, fun x => s_IsFlat n x⟩
theorem s_IsFlat_ok (n : Nat) : EntOK Try.prog (s_IsFlat_e n) ∧ Own Try.prog 109 := ent_ok tabOK0 (.cons (s_l2Hand_ok n) (.cons (s_l6Flat_ok n) .nil)) Try.func109 rfl (by kernel_rfl) (s_IsFlat_ev n)
def s_Cur_card'p_i : CSh := ⟨[(.ptr 0 [])], [.var 125 (.data true (.pair (.sl (.int .u8)) (.pair tI (.int .u64))))]⟩
def s_Cur_card'p_o : RSh := ⟨(.data true (.arr 4 tI)), [.var 125 (.data true (.pair (.sl (.int .u8)) (.pair tI (.int .u64))))]⟩
theorem s_Cur_card'p_ev (n : Nat) (x : TupT s_Cur_card'p_i.tys) : evF ⟨tab, [s_Cur_pick'p_e n, s_l2At_e n, s_Cur_one'p_e n, s_Cur_among'pl_e n], n, []⟩ Try.f212 s_Cur_card'p_i s_Cur_card'p_o x = s_Cur_card'p n x := by kernel_rfl
noncomputable def s_Cur_card'p_e (n : Nat) : Ent := ⟨212, s_Cur_card'p_i, s_Cur_card'p_o, fun x => s_Cur_card'p n x⟩
theorem s_Cur_card'p_ok (n : Nat) : EntOK Try.prog (s_Cur_card'p_e n) ∧ Own Try.prog 212 := ent_ok tabOK0 (.cons (s_Cur_pick'p_ok n) (.cons (s_l2At_ok n) (.cons (s_Cur_one'p_ok n) (.cons (s_Cur_among'pl_ok n) .nil)))) Try.func212 rfl (by kernel_rfl) (s_Cur_card'p_ev n)
def s_Cur_near'p_i : CSh := ⟨[(.ptr 0 []), (.data true (.arr 4 tI))], [.var 125 (.data true (.pair (.sl (.int .u8)) (.pair tI (.int .u64))))]⟩
def s_Cur_near'p_o : RSh := ⟨(.data true (.arr 4 tI)), [.var 125 (.data true (.pair (.sl (.int .u8)) (.pair tI (.int .u64))))]⟩
theorem s_Cur_near'p_ev (n : Nat) (x : TupT s_Cur_near'p_i.tys) : evF ⟨tab, [s_Cur_one'p_e n, s_Cur_card'p_e n, s_Cur_pick'p_e n], n, []⟩ Try.f220 s_Cur_near'p_i s_Cur_near'p_o x = s_Cur_near'p n x.1 x.2 := by kernel_rfl
noncomputable def s_Cur_near'p_e (n : Nat) : Ent := ⟨220, s_Cur_near'p_i, s_Cur_near'p_o, fun x => s_Cur_near'p n x.1 x.2⟩
theorem s_Cur_near'p_ok (n : Nat) : EntOK Try.prog (s_Cur_near'p_e n) ∧ Own Try.prog 220 := ent_ok tabOK0 (.cons (s_Cur_one'p_ok n) (.cons (s_Cur_card'p_ok n) (.cons (s_Cur_pick'p_ok n) .nil))) Try.func220 rfl (by kernel_rfl) (s_Cur_near'p_ev n)
def s_DrawPlaneOf_i : CSh := ⟨[(.data false (.sl (.int .u8)))], []⟩
def s_DrawPlaneOf_o : RSh := ⟨(.tcons (.data true (.arr 4 tI)) (.tcons (.data true (.arr 4 tI)) (.tcons (.data true (.arr 4 tI)) .tnil))), []⟩
theorem s_DrawPlaneOf_ev (n : Nat) (x : TupT s_DrawPlaneOf_i.tys) : evF ⟨tab, [s_Cur_card'p_e n, s_Cur_near'p_e n], n, []⟩ Try.f110 s_DrawPlaneOf_i s_DrawPlaneOf_o x = s_DrawPlaneOf n x := by kernel_rfl
noncomputable def s_DrawPlaneOf_e (n : Nat) : Ent := ⟨110, s_DrawPlaneOf_i, s_DrawPlaneOf_o, fun x => s_DrawPlaneOf n x⟩
theorem s_DrawPlaneOf_ok (n : Nat) : EntOK Try.prog (s_DrawPlaneOf_e n) ∧ Own Try.prog 110 := ent_ok tabOK0 (.cons (s_Cur_card'p_ok n) (.cons (s_Cur_near'p_ok n) .nil)) Try.func110 rfl (by kernel_rfl) (s_DrawPlaneOf_ev n)
def i_areCards_1_i : CSh := ⟨[(.data true (.arr 4 tI))], []⟩
def i_areCards_1_o : RSh := ⟨(.data true .bool), []⟩
theorem i_areCards_1_ev (n : Nat) (x : TupT i_areCards_1_i.tys) : evF ⟨tab, [i_IsCard_e n], n, []⟩ Try.f246 i_areCards_1_i i_areCards_1_o x = i_areCards_1 n x := by kernel_rfl
noncomputable def i_areCards_1_e (n : Nat) : Ent := ⟨246, i_areCards_1_i, i_areCards_1_o, fun x => i_areCards_1 n x⟩
theorem i_areCards_1_ok (n : Nat) : EntOK Try.prog (i_areCards_1_e n) ∧ Own Try.prog 246 := ent_ok tabOK0 (.cons (i_IsCard_ok n) .nil) Try.func246 rfl (by kernel_rfl) (i_areCards_1_ev n)
def slices_IndexFunc_SA4_A4_'l_i_areCards_1_i : CSh := ⟨[(.data false (.sl (.arr 4 tI))), (.clo 246 .tnil)], []⟩
def slices_IndexFunc_SA4_A4_'l_i_areCards_1_o : RSh := ⟨(.data true tI), []⟩
theorem slices_IndexFunc_SA4_A4_'l_i_areCards_1_ev (n : Nat) (x : TupT slices_IndexFunc_SA4_A4_'l_i_areCards_1_i.tys) : evF ⟨tab, [i_areCards_1_e n], n, [(6, ⟨[(0, (.data false (.sl (.arr 4 tI)))), (1, (.clo 246 .tnil)), (7, (.data true tI)), (8, (.data true tI))], [], 0⟩)]⟩ Try.f276 slices_IndexFunc_SA4_A4_'l_i_areCards_1_i slices_IndexFunc_SA4_A4_'l_i_areCards_1_o x = slices_IndexFunc_SA4_A4_'l_i_areCards_1 n x := by kernel_rfl
noncomputable def slices_IndexFunc_SA4_A4_'l_i_areCards_1_e (n : Nat) : Ent := ⟨276, slices_IndexFunc_SA4_A4_'l_i_areCards_1_i, slices_IndexFunc_SA4_A4_'l_i_areCards_1_o, fun x => slices_IndexFunc_SA4_A4_'l_i_areCards_1 n x⟩
theorem slices_IndexFunc_SA4_A4_'l_i_areCards_1_ok (n : Nat) : EntOK Try.prog (slices_IndexFunc_SA4_A4_'l_i_areCards_1_e n) ∧ Own Try.prog 276 := ent_ok tabOK0 (.cons (i_areCards_1_ok n) .nil) Try.func276 rfl (by kernel_rfl) (slices_IndexFunc_SA4_A4_'l_i_areCards_1_ev n)
def slices_ContainsFunc_SA4_A4_'l_i_areCards_1_i : CSh := ⟨[(.data false (.sl (.arr 4 tI))), (.clo 246 .tnil)], []⟩
def slices_ContainsFunc_SA4_A4_'l_i_areCards_1_o : RSh := ⟨(.data true .bool), []⟩
theorem slices_ContainsFunc_SA4_A4_'l_i_areCards_1_ev (n : Nat) (x : TupT slices_ContainsFunc_SA4_A4_'l_i_areCards_1_i.tys) : evF ⟨tab, [slices_IndexFunc_SA4_A4_'l_i_areCards_1_e n], n, []⟩ Try.f245 slices_ContainsFunc_SA4_A4_'l_i_areCards_1_i slices_ContainsFunc_SA4_A4_'l_i_areCards_1_o x = slices_ContainsFunc_SA4_A4_'l_i_areCards_1 n x := by kernel_rfl
noncomputable def slices_ContainsFunc_SA4_A4_'l_i_areCards_1_e (n : Nat) : Ent := ⟨245, slices_ContainsFunc_SA4_A4_'l_i_areCards_1_i, slices_ContainsFunc_SA4_A4_'l_i_areCards_1_o, fun x => slices_ContainsFunc_SA4_A4_'l_i_areCards_1 n x⟩
theorem slices_ContainsFunc_SA4_A4_'l_i_areCards_1_ok (n : Nat) : EntOK Try.prog (slices_ContainsFunc_SA4_A4_'l_i_areCards_1_e n) ∧ Own Try.prog 245 := ent_ok tabOK0 (.cons (slices_IndexFunc_SA4_A4_'l_i_areCards_1_ok n) .nil) Try.func245 rfl (by kernel_rfl) (slices_ContainsFunc_SA4_A4_'l_i_areCards_1_ev n)
def i_areCards_i : CSh := ⟨[(.data false (.sl (.arr 4 tI)))], []⟩
def i_areCards_o : RSh := ⟨(.data true .bool), []⟩
theorem i_areCards_ev (n : Nat) (x : TupT i_areCards_i.tys) : evF ⟨tab, [slices_ContainsFunc_SA4_A4_'l_i_areCards_1_e n], n, []⟩ Try.f168 i_areCards_i i_areCards_o x = i_areCards n x := by kernel_rfl
noncomputable def i_areCards_e (n : Nat) : Ent := ⟨168, i_areCards_i, i_areCards_o, fun x => i_areCards n x⟩
theorem i_areCards_ok (n : Nat) : EntOK Try.prog (i_areCards_e n) ∧ Own Try.prog 168 := ent_ok tabOK0 (.cons (slices_ContainsFunc_SA4_A4_'l_i_areCards_1_ok n) .nil) Try.func168 rfl (by kernel_rfl) (i_areCards_ev n)
def i_isLine_i : CSh := ⟨[(.data true (.arr 4 tI)), (.data true (.arr 4 tI)), (.data true (.arr 4 tI))], []⟩
def i_isLine_o : RSh := ⟨(.data true .bool), []⟩
theorem i_isLine_ev (n : Nat) (x : TupT i_isLine_i.tys) : evF ⟨tab, [i_third_e n], n, []⟩ Try.f169 i_isLine_i i_isLine_o x = i_isLine n x.1 x.2.1 x.2.2 := by kernel_rfl
noncomputable def i_isLine_e (n : Nat) : Ent := ⟨169, i_isLine_i, i_isLine_o, fun x => i_isLine n x.1 x.2.1 x.2.2⟩
theorem i_isLine_ok (n : Nat) : EntOK Try.prog (i_isLine_e n) ∧ Own Try.prog 169 := ent_ok tabOK0 (.cons (i_third_ok n) .nil) Try.func169 rfl (by kernel_rfl) (i_isLine_ev n)
def i_arePlane_i : CSh := ⟨[(.data true (.arr 4 tI)), (.data true (.arr 4 tI)), (.data true (.arr 4 tI))], []⟩
def i_arePlane_o : RSh := ⟨(.data true .bool), []⟩
theorem i_arePlane_ev (n : Nat) (x : TupT i_arePlane_i.tys) : evF ⟨tab, [i_areCards_e n, i_isLine_e n], n, []⟩ Try.f221 i_arePlane_i i_arePlane_o x = i_arePlane n x.1 x.2.1 x.2.2 := by kernel_rfl
noncomputable def i_arePlane_e (n : Nat) : Ent := ⟨221, i_arePlane_i, i_arePlane_o, fun x => i_arePlane n x.1 x.2.1 x.2.2⟩
theorem i_arePlane_ok (n : Nat) : EntOK Try.prog (i_arePlane_e n) ∧ Own Try.prog 221 := ent_ok tabOK0 (.cons (i_areCards_ok n) (.cons (i_isLine_ok n) .nil)) Try.func221 rfl (by kernel_rfl) (i_arePlane_ev n)
def i_PlaneOf_i : CSh := ⟨[(.data true (.arr 4 tI)), (.data true (.arr 4 tI)), (.data true (.arr 4 tI))], []⟩
def i_PlaneOf_o : RSh := ⟨(.tcons (.own 0) (.tcons (.data true .bool) .tnil)), [.rows 54 true (.arr 4 tI)]⟩
theorem i_PlaneOf_ev (n : Nat) (x : TupT i_PlaneOf_i.tys) : evF ⟨tab, [i_arePlane_e n, i_span_e n], n, []⟩ Try.f111 i_PlaneOf_i i_PlaneOf_o x = i_PlaneOf n x.1 x.2.1 x.2.2 := by kernel_rfl
noncomputable def i_PlaneOf_e (n : Nat) : Ent := ⟨111, i_PlaneOf_i, i_PlaneOf_o, fun x => i_PlaneOf n x.1 x.2.1 x.2.2⟩
theorem i_PlaneOf_ok (n : Nat) : EntOK Try.prog (i_PlaneOf_e n) ∧ Own Try.prog 111 := ent_ok tabOK0 (.cons (i_arePlane_ok n) (.cons (i_span_ok n) .nil)) Try.func111 rfl (by kernel_rfl) (i_PlaneOf_ev n)
def s_l2Line_i : CSh := ⟨[(.data true (.arr 4 tI)), (.data true (.arr 4 tI)), (.data true (.arr 4 tI))], []⟩
def s_l2Line_o : RSh := ⟨(.data true .bool), []⟩
theorem s_l2Line_ev (n : Nat) (x : TupT s_l2Line_i.tys) : evF ⟨tab, [s_l2Third_e n], n, []⟩ Try.f243 s_l2Line_i s_l2Line_o x = s_l2Line n x.1 x.2.1 x.2.2 := by kernel_rfl
noncomputable def s_l2Line_e (n : Nat) : Ent := ⟨243, s_l2Line_i, s_l2Line_o, fun x => s_l2Line n x.1 x.2.1 x.2.2⟩
theorem s_l2Line_ok (n : Nat) : EntOK Try.prog (s_l2Line_e n) ∧ Own Try.prog 243 := ent_ok tabOK0 (.cons (s_l2Third_ok n) .nil) Try.func243 rfl (by kernel_rfl) (s_l2Line_ev n)
def s_l6Open_i : CSh := ⟨[(.data true (.arr 4 tI)), (.data true (.arr 4 tI)), (.data true (.arr 4 tI))], []⟩
def s_l6Open_o : RSh := ⟨(.data true .bool), []⟩
theorem s_l6Open_ev (n : Nat) (x : TupT s_l6Open_i.tys) : evF ⟨tab, [s_l2Card_e n, s_l2Line_e n], n, []⟩ Try.f222 s_l6Open_i s_l6Open_o x = s_l6Open n x.1 x.2.1 x.2.2 := by kernel_rfl
noncomputable def s_l6Open_e (n : Nat) : Ent := ⟨222, s_l6Open_i, s_l6Open_o, fun x => s_l6Open n x.1 x.2.1 x.2.2⟩
theorem s_l6Open_ok (n : Nat) : EntOK Try.prog (s_l6Open_e n) ∧ Own Try.prog 222 := ent_ok tabOK0 (.cons (s_l2Card_ok n) (.cons (s_l2Line_ok n) .nil)) Try.func222 rfl (by kernel_rfl) (s_l6Open_ev n)
def s_PlaneOf_i : CSh := ⟨[(.data true (.arr 4 tI)), (.data true (.arr 4 tI)), (.data true (.arr 4 tI))], []⟩
def s_PlaneOf_o : RSh := ⟨(.tcons (.own 0) (.tcons (.data true .bool) .tnil)), [.rows 54 true (.arr 4 tI)]⟩
theorem s_PlaneOf_ev (n : Nat) (x : TupT s_PlaneOf_i.tys) : evF ⟨tab, [s_l6Open_e n, s_l6Span_e n], n, []⟩ Try.f112 s_PlaneOf_i s_PlaneOf_o x = s_PlaneOf n x.1 x.2.1 x.2.2 := by kernel_rfl
noncomputable def s_PlaneOf_e (n : Nat) : Ent := ⟨112, s_PlaneOf_i, s_PlaneOf_o, fun x => s_PlaneOf n x.1 x.2.1 x.2.2⟩
theorem s_PlaneOf_ok (n : Nat) : EntOK Try.prog (s_PlaneOf_e n) ∧ Own Try.prog 112 := ent_ok tabOK0 (.cons (s_l6Open_ok n) (.cons (s_l6Span_ok n) .nil)) Try.func112 rfl (by kernel_rfl) (s_PlaneOf_ev n)
def i_MagicSquare_i : CSh := ⟨[(.data true (.arr 4 tI)), (.data true (.arr 4 tI)), (.data true (.arr 4 tI))], []⟩
def i_MagicSquare_o : RSh := ⟨(.tcons (.data true (.arr 9 (.arr 4 tI))) (.tcons (.data true .bool) .tnil)), []⟩
theorem i_MagicSquare_ev (n : Nat) (x : TupT i_MagicSquare_i.tys) : evF ⟨tab, [i_arePlane_e n], n, [(16, ⟨[(3, (.ptr 0 [])), (4, (.ptr 1 [])), (5, (.ptr 2 [])), (6, (.ptr 3 [])), (8, (.ptr 4 [])), (18, (.data true tI))], [.var 54 (.data true (.arr 4 tI)), .var 54 (.data true (.arr 4 tI)), .var 54 (.data true (.arr 4 tI)), .var 116 (.data true (.arr 9 (.arr 4 tI))), .var 116 (.data true (.arr 9 (.arr 4 tI)))], 0⟩), (30, ⟨[(3, (.ptr 0 [])), (4, (.ptr 1 [])), (5, (.ptr 2 [])), (6, (.ptr 3 [])), (8, (.ptr 4 [])), (9, (.data true tI)), (18, (.data true tI)), (21, (.data true tI))], [.var 54 (.data true (.arr 4 tI)), .var 54 (.data true (.arr 4 tI)), .var 54 (.data true (.arr 4 tI)), .var 116 (.data true (.arr 9 (.arr 4 tI))), .var 116 (.data true (.arr 9 (.arr 4 tI)))], 0⟩)]⟩ Try.f113 i_MagicSquare_i i_MagicSquare_o x = i_MagicSquare n x.1 x.2.1 x.2.2 := by kernel_rfl
noncomputable def i_MagicSquare_e (n : Nat) : Ent := ⟨113, i_MagicSquare_i, i_MagicSquare_o, fun x => i_MagicSquare n x.1 x.2.1 x.2.2⟩
theorem i_MagicSquare_ok (n : Nat) : EntOK Try.prog (i_MagicSquare_e n) ∧ Own Try.prog 113 := ent_ok tabOK0 (.cons (i_arePlane_ok n) .nil) Try.func113 rfl (by kernel_rfl) (i_MagicSquare_ev n)
def s_MagicSquare_i : CSh := ⟨[(.data true (.arr 4 tI)), (.data true (.arr 4 tI)), (.data true (.arr 4 tI))], []⟩
def s_MagicSquare_o : RSh := ⟨(.tcons (.data true (.arr 9 (.arr 4 tI))) (.tcons (.data true .bool) .tnil)), []⟩
theorem s_MagicSquare_ev (n : Nat) (x : TupT s_MagicSquare_i.tys) : evF ⟨tab, [s_l6Open_e n], n, [(16, ⟨[(3, (.ptr 0 [])), (4, (.ptr 1 [])), (5, (.ptr 2 [])), (6, (.ptr 3 [])), (8, (.ptr 4 [])), (9, (.data true tI))], [.var 54 (.data true (.arr 4 tI)), .var 54 (.data true (.arr 4 tI)), .var 54 (.data true (.arr 4 tI)), .var 116 (.data true (.arr 9 (.arr 4 tI))), .var 116 (.data true (.arr 9 (.arr 4 tI)))], 0⟩), (28, ⟨[(3, (.ptr 0 [])), (4, (.ptr 1 [])), (5, (.ptr 2 [])), (6, (.ptr 3 [])), (8, (.ptr 4 [])), (9, (.data true tI)), (10, (.data true tI))], [.var 54 (.data true (.arr 4 tI)), .var 54 (.data true (.arr 4 tI)), .var 54 (.data true (.arr 4 tI)), .var 116 (.data true (.arr 9 (.arr 4 tI))), .var 116 (.data true (.arr 9 (.arr 4 tI)))], 0⟩)]⟩ Try.f114 s_MagicSquare_i s_MagicSquare_o x = s_MagicSquare n x.1 x.2.1 x.2.2 := by kernel_rfl
noncomputable def s_MagicSquare_e (n : Nat) : Ent := ⟨114, s_MagicSquare_i, s_MagicSquare_o, fun x => s_MagicSquare n x.1 x.2.1 x.2.2⟩
theorem s_MagicSquare_ok (n : Nat) : EntOK Try.prog (s_MagicSquare_e n) ∧ Own Try.prog 114 := ent_ok tabOK0 (.cons (s_l6Open_ok n) .nil) Try.func114 rfl (by kernel_rfl) (s_MagicSquare_ev n)
def i_CountPlanes_i : CSh := ⟨[(.data false (.sl (.arr 4 tI)))], []⟩
def i_CountPlanes_o : RSh := ⟨(.tcons (.data true tI) (.tcons (.data true .bool) .tnil)), []⟩
theorem i_CountPlanes_ev (n : Nat) (x : TupT i_CountPlanes_i.tys) : evF ⟨tab, [i_IsHand_e n, i_number_e n, i_MagicSquare_e n], n, [(16, ⟨[(0, (.data false (.sl (.arr 4 tI)))), (4, (.ptr 0 [])), (22, (.data false (.sl (.arr 4 tI)))), (23, (.data true tI)), (24, (.data true tI))], [.var 185 (.data true (.arr 81 .bool))], 0⟩), (35, ⟨[(0, (.data false (.sl (.arr 4 tI)))), (4, (.ptr 0 [])), (7, (.data true tI)), (32, (.data false (.sl (.arr 4 tI)))), (33, (.data true tI)), (34, (.data true tI))], [.var 185 (.data true (.arr 81 .bool))], 0⟩), (49, ⟨[(0, (.data false (.sl (.arr 4 tI)))), (4, (.ptr 0 [])), (7, (.data true tI)), (9, (.ptr 1 [])), (32, (.data false (.sl (.arr 4 tI)))), (33, (.data true tI)), (34, (.data true tI)), (41, (.data false (.sl (.arr 4 tI)))), (42, (.data true tI)), (43, (.data true tI))], [.var 185 (.data true (.arr 81 .bool)), .var 54 (.data true (.arr 4 tI))], 0⟩), (63, ⟨[(0, (.data false (.sl (.arr 4 tI)))), (4, (.ptr 0 [])), (7, (.data true tI)), (9, (.ptr 1 [])), (11, (.ptr 2 [])), (32, (.data false (.sl (.arr 4 tI)))), (33, (.data true tI)), (34, (.data true tI)), (41, (.data false (.sl (.arr 4 tI)))), (42, (.data true tI)), (43, (.data true tI)), (50, (.data false (.sl (.arr 4 tI)))), (51, (.data true tI)), (52, (.data true tI))], [.var 185 (.data true (.arr 81 .bool)), .var 54 (.data true (.arr 4 tI)), .var 54 (.data true (.arr 4 tI))], 0⟩), (80, ⟨[(0, (.data false (.sl (.arr 4 tI)))), (4, (.ptr 0 [])), (7, (.data true tI)), (9, (.ptr 1 [])), (11, (.ptr 2 [])), (15, (.data true .bool)), (32, (.data false (.sl (.arr 4 tI)))), (33, (.data true tI)), (34, (.data true tI)), (41, (.data false (.sl (.arr 4 tI)))), (42, (.data true tI)), (43, (.data true tI)), (50, (.data false (.sl (.arr 4 tI)))), (51, (.data true tI)), (52, (.data true tI)), (63, (.data true (.arr 9 (.arr 4 tI)))), (64, (.data true tI))], [.var 185 (.data true (.arr 81 .bool)), .var 54 (.data true (.arr 4 tI)), .var 54 (.data true (.arr 4 tI))], 0⟩)]⟩ Try.f115 i_CountPlanes_i i_CountPlanes_o x = i_CountPlanes n x := by kernel_rfl
noncomputable def i_CountPlanes_e (n : Nat) : Ent := ⟨115, i_CountPlanes_i, i_CountPlanes_o, fun x => i_CountPlanes n x⟩
theorem i_CountPlanes_ok (n : Nat) : EntOK Try.prog (i_CountPlanes_e n) ∧ Own Try.prog 115 := ent_ok tabOK0 (.cons (i_IsHand_ok n) (.cons (i_number_ok n) (.cons (i_MagicSquare_ok n) .nil))) Try.func115 rfl (by kernel_rfl) (i_CountPlanes_ev n)
def s_l6First_i : CSh := ⟨[(.data false (.sl (.arr 4 tI))), (.data true tI), (.data true tI), (.data true tI)], []⟩
def s_l6First_o : RSh := ⟨(.data true .bool), []⟩
theorem s_l6First_ev (n : Nat) (x : TupT s_l6First_i.tys) : evF ⟨tab, [s_l6Span_e n, s_l2Has_e n, s_l2Third_e n], n, [(8, ⟨[(0, (.data false (.sl (.arr 4 tI)))), (1, (.data true tI)), (2, (.data true tI)), (3, (.data true tI)), (9, (.own 0)), (10, (.data true tI))], [.rows 54 true (.arr 4 tI)], 0⟩), (29, ⟨[(0, (.data false (.sl (.arr 4 tI)))), (1, (.data true tI)), (2, (.data true tI)), (3, (.data true tI)), (9, (.own 0)), (12, (.data true tI))], [.rows 54 true (.arr 4 tI)], 0⟩)]⟩ Try.f225 s_l6First_i s_l6First_o x = s_l6First n x.1 x.2.1 x.2.2.1 x.2.2.2 := by kernel_rfl
noncomputable def s_l6First_e (n : Nat) : Ent := ⟨225, s_l6First_i, s_l6First_o, fun x => s_l6First n x.1 x.2.1 x.2.2.1 x.2.2.2⟩
theorem s_l6First_ok (n : Nat) : EntOK Try.prog (s_l6First_e n) ∧ Own Try.prog 225 := ent_ok tabOK0 (.cons (s_l6Span_ok n) (.cons (s_l2Has_ok n) (.cons (s_l2Third_ok n) .nil))) Try.func225 rfl (by kernel_rfl) (s_l6First_ev n)
def s_CountPlanes_i : CSh := ⟨[(.data false (.sl (.arr 4 tI)))], []⟩
def s_CountPlanes_o : RSh := ⟨(.tcons (.data true tI) (.tcons (.data true .bool) .tnil)), []⟩
theorem s_CountPlanes_ev (n : Nat) (x : TupT s_CountPlanes_i.tys) : evF ⟨tab, [s_l2Hand_e n, s_l2Third_e n, s_l2Has_e n, s_l6First_e n], n, [(16, ⟨[(0, (.data false (.sl (.arr 4 tI)))), (4, (.data true tI)), (5, (.data true tI))], [], 0⟩), (28, ⟨[(0, (.data false (.sl (.arr 4 tI)))), (4, (.data true tI)), (5, (.data true tI)), (6, (.data true tI))], [], 0⟩), (48, ⟨[(0, (.data false (.sl (.arr 4 tI)))), (4, (.data true tI)), (5, (.data true tI)), (6, (.data true tI)), (7, (.ptr 0 [])), (8, (.data true tI))], [.var 54 (.data true (.arr 4 tI))], 0⟩)]⟩ Try.f116 s_CountPlanes_i s_CountPlanes_o x = s_CountPlanes n x := by kernel_rfl
noncomputable def s_CountPlanes_e (n : Nat) : Ent := ⟨116, s_CountPlanes_i, s_CountPlanes_o, fun x => s_CountPlanes n x⟩
theorem s_CountPlanes_ok (n : Nat) : EntOK Try.prog (s_CountPlanes_e n) ∧ Own Try.prog 116 := ent_ok tabOK0 (.cons (s_l2Hand_ok n) (.cons (s_l2Third_ok n) (.cons (s_l2Has_ok n) (.cons (s_l6First_ok n) .nil)))) Try.func116 rfl (by kernel_rfl) (s_CountPlanes_ev n)
def s_DrawCountFlats_i : CSh := ⟨[(.data false (.sl (.int .u8)))], []⟩
def s_DrawCountFlats_o : RSh := ⟨(.data true tI), []⟩
theorem s_DrawCountFlats_ev (n : Nat) (x : TupT s_DrawCountFlats_i.tys) : evF ⟨tab, [s_Cur_pick'p_e n], n, []⟩ Try.f117 s_DrawCountFlats_i s_DrawCountFlats_o x = s_DrawCountFlats n x := by kernel_rfl
noncomputable def s_DrawCountFlats_e (n : Nat) : Ent := ⟨117, s_DrawCountFlats_i, s_DrawCountFlats_o, fun x => s_DrawCountFlats n x⟩
theorem s_DrawCountFlats_ok (n : Nat) : EntOK Try.prog (s_DrawCountFlats_e n) ∧ Own Try.prog 117 := ent_ok tabOK0 (.cons (s_Cur_pick'p_ok n) .nil) Try.func117 rfl (by kernel_rfl) (s_DrawCountFlats_ev n)
def i_CountFlats_i : CSh := ⟨[(.data true tI)], []⟩
def i_CountFlats_o : RSh := ⟨(.tcons (.data true tI) (.tcons (.data true .bool) .tnil)), []⟩
theorem i_CountFlats_ev (n : Nat) (x : TupT i_CountFlats_i.tys) : evF ⟨tab, [i_within_e n], n, []⟩ Try.f118 i_CountFlats_i i_CountFlats_o x = i_CountFlats n x := by kernel_rfl
noncomputable def i_CountFlats_e (n : Nat) : Ent := ⟨118, i_CountFlats_i, i_CountFlats_o, fun x => i_CountFlats n x⟩
theorem i_CountFlats_ok (n : Nat) : EntOK Try.prog (i_CountFlats_e n) ∧ Own Try.prog 118 := ent_ok tabOK0 (.cons (i_within_ok n) .nil) Try.func118 rfl (by kernel_rfl) (i_CountFlats_ev n)
def s_CountFlats_i : CSh := ⟨[(.data true tI)], []⟩
def s_CountFlats_o : RSh := ⟨(.tcons (.data true tI) (.tcons (.data true .bool) .tnil)), []⟩
theorem s_CountFlats_ev (n : Nat) (x : TupT s_CountFlats_i.tys) : evF ⟨tab, [s_l1In_e n], n, []⟩ Try.f119 s_CountFlats_i s_CountFlats_o x = s_CountFlats n x := by kernel_rfl
noncomputable def s_CountFlats_e (n : Nat) : Ent := ⟨119, s_CountFlats_i, s_CountFlats_o, fun x => s_CountFlats n x⟩
theorem s_CountFlats_ok (n : Nat) : EntOK Try.prog (s_CountFlats_e n) ∧ Own Try.prog 119 := ent_ok tabOK0 (.cons (s_l1In_ok n) .nil) Try.func119 rfl (by kernel_rfl) (s_CountFlats_ev n)
def i_ThirdCard_i : CSh := ⟨[(.data true (.arr 4 tI)), (.data true (.arr 4 tI))], []⟩
def i_ThirdCard_o : RSh := ⟨(.tcons (.data true (.arr 4 tI)) (.tcons (.data true .bool) .tnil)), []⟩
theorem i_ThirdCard_ev (n : Nat) (x : TupT i_ThirdCard_i.tys) : evF ⟨tab, [i_IsCard_e n, i_third_e n], n, []⟩ Try.f121 i_ThirdCard_i i_ThirdCard_o x = i_ThirdCard n x.1 x.2 := by kernel_rfl
noncomputable def i_ThirdCard_e (n : Nat) : Ent := ⟨121, i_ThirdCard_i, i_ThirdCard_o, fun x => i_ThirdCard n x.1 x.2⟩
theorem i_ThirdCard_ok (n : Nat) : EntOK Try.prog (i_ThirdCard_e n) ∧ Own Try.prog 121 := ent_ok tabOK0 (.cons (i_IsCard_ok n) (.cons (i_third_ok n) .nil)) Try.func121 rfl (by kernel_rfl) (i_ThirdCard_ev n)
def v_rIn_i : CSh := ⟨[(.data false (.sl (.arr 4 tI))), (.data true (.arr 4 tI))], []⟩
def v_rIn_o : RSh := ⟨(.data true .bool), []⟩
theorem v_rIn_ev (n : Nat) (x : TupT v_rIn_i.tys) : evF ⟨tab, [], n, [(6, ⟨[(0, (.data false (.sl (.arr 4 tI)))), (3, (.ptr 0 [])), (5, (.data true tI))], [.var 54 (.data true (.arr 4 tI))], 0⟩)]⟩ Try.f120 v_rIn_i v_rIn_o x = v_rIn n x.1 x.2 := by kernel_rfl
noncomputable def v_rIn_e (n : Nat) : Ent := ⟨120, v_rIn_i, v_rIn_o, fun x => v_rIn n x.1 x.2⟩
theorem v_rIn_ok (n : Nat) : EntOK Try.prog (v_rIn_e n) ∧ Own Try.prog 120 := ent_ok tabOK0 .nil Try.func120 rfl (by kernel_rfl) (v_rIn_ev n)
def i_IsLine_i : CSh := ⟨[(.data true (.arr 4 tI)), (.data true (.arr 4 tI)), (.data true (.arr 4 tI))], []⟩
def i_IsLine_o : RSh := ⟨(.tcons (.data true .bool) (.tcons (.data true .bool) .tnil)), []⟩
theorem i_IsLine_ev (n : Nat) (x : TupT i_IsLine_i.tys) : evF ⟨tab, [i_areCards_e n, i_isLine_e n], n, []⟩ Try.f52 i_IsLine_i i_IsLine_o x = i_IsLine n x.1 x.2.1 x.2.2 := by kernel_rfl
noncomputable def i_IsLine_e (n : Nat) : Ent := ⟨52, i_IsLine_i, i_IsLine_o, fun x => i_IsLine n x.1 x.2.1 x.2.2⟩
theorem i_IsLine_ok (n : Nat) : EntOK Try.prog (i_IsLine_e n) ∧ Own Try.prog 52 := ent_ok tabOK0 (.cons (i_areCards_ok n) (.cons (i_isLine_ok n) .nil)) Try.func52 rfl (by kernel_rfl) (i_IsLine_ev n)
def v_FnSpans_i : CSh := ⟨[(.data false (.sl (.int .u8)))], []⟩
def v_FnSpans_o : RSh := ⟨(.data true .bool), []⟩
theorem v_FnSpans_ev (n : Nat) (x : TupT v_FnSpans_i.tys) : evF ⟨tab, [v_rBig_e n, s_DrawSpanOf_e n, i_SpanOf_e n, s_SpanOf_e n, v_rHand_e n, i_DimensionOf_e n, s_DimensionOf_e n, i_IsFlat_e n, s_IsFlat_e n, s_DrawPlaneOf_e n, i_PlaneOf_e n, s_PlaneOf_e n, i_MagicSquare_e n, s_MagicSquare_e n, i_CountPlanes_e n, s_CountPlanes_e n, s_DrawCountFlats_e n, i_CountFlats_e n, s_CountFlats_e n, i_ThirdCard_e n, v_rIn_e n, i_IsLine_e n], n, [(100, ⟨[(4, (.own 0)), (5, (.data true .bool)), (8, (.data true tI))], [.rows 54 true (.arr 4 tI)], 0⟩), (107, ⟨[(4, (.own 0)), (5, (.data true .bool)), (8, (.data true tI)), (19, (.own 1)), (23, (.ptr 2 [])), (36, (.data true tI))], [.rows 54 true (.arr 4 tI), .rows 54 true (.arr 4 tI), .var 116 (.data true (.arr 9 (.arr 4 tI)))], 0⟩), (127, ⟨[(4, (.own 0)), (5, (.data true .bool)), (8, (.data true tI)), (19, (.own 1)), (23, (.ptr 2 [])), (36, (.data true tI)), (37, (.data true tI))], [.rows 54 true (.arr 4 tI), .rows 54 true (.arr 4 tI), .var 116 (.data true (.arr 9 (.arr 4 tI)))], 0⟩), (160, ⟨[(4, (.own 0)), (8, (.data true tI)), (42, (.data true tI)), (43, (.data true tI))], [.rows 54 true (.arr 4 tI)], 0⟩), (182, ⟨[(4, (.own 0)), (44, (.data true tI))], [.rows 54 true (.arr 4 tI)], 0⟩), (194, ⟨[(4, (.own 0)), (44, (.data true tI)), (45, (.data true tI))], [.rows 54 true (.arr 4 tI)], 0⟩)]⟩ Try.f8 v_FnSpans_i v_FnSpans_o x = v_FnSpans n x := by kernel_rfl
noncomputable def v_FnSpans_e (n : Nat) : Ent := ⟨8, v_FnSpans_i, v_FnSpans_o, fun x => v_FnSpans n x⟩
theorem v_FnSpans_ok (n : Nat) : EntOK Try.prog (v_FnSpans_e n) ∧ Own Try.prog 8 := ent_ok tabOK0 (.cons (v_rBig_ok n) (.cons (s_DrawSpanOf_ok n) (.cons (i_SpanOf_ok n) (.cons (s_SpanOf_ok n) (.cons (v_rHand_ok n) (.cons (i_DimensionOf_ok n) (.cons (s_DimensionOf_ok n) (.cons (i_IsFlat_ok n) (.cons (s_IsFlat_ok n) (.cons (s_DrawPlaneOf_ok n) (.cons (i_PlaneOf_ok n) (.cons (s_PlaneOf_ok n) (.cons (i_MagicSquare_ok n) (.cons (s_MagicSquare_ok n) (.cons (i_CountPlanes_ok n) (.cons (s_CountPlanes_ok n) (.cons (s_DrawCountFlats_ok n) (.cons (i_CountFlats_ok n) (.cons (s_CountFlats_ok n) (.cons (i_ThirdCard_ok n) (.cons (v_rIn_ok n) (.cons (i_IsLine_ok n) .nil)))))))))))))))))))))) Try.func8 rfl (by kernel_rfl) (v_FnSpans_ev n)
end Go.Proofs.Ytfoielhhflbbfaa
