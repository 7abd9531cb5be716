/- Printed by a program of the session: the contracts of the seat's functions. -/
import Derived.Test.YtbkbkaonjhlplaaGreatZ7
import Derived.Test.YtbkbkaonjhlplaaGreatPL
import Derived.Test.YtbkbkaonjhlplaaGreatRows
import Derived.KernelRfl
namespace Go.Proofs.YtbkbkaonjhlplaaGreat
open Go Go.Tv Go.Pl Go.RowKit
set_option linter.unusedVariables false
abbrev tI : Ty := .int .i64
def tab : Tab := ⟨[(2, ⟨tI, 0, 8⟩), (3, ⟨tI, 0, 8⟩), (4, ⟨.bool, 0, 1⟩), (5, ⟨(.int .u8), 0, 1⟩), (6, ⟨(.int .u8), 0, 1⟩), (7, ⟨(.pair tI (.pair tI (.pair .bool (.int .u8)))), 4, 24⟩), (8, ⟨(.pair tI (.pair tI (.pair .bool (.int .u8)))), 4, 24⟩), (9, ⟨.str, 0, 16⟩), (10, ⟨.str, 0, 16⟩), (11, ⟨.str, 0, 16⟩), (12, ⟨(.int .u64), 0, 8⟩), (13, ⟨(.pair .str (.int .u64)), 2, 24⟩), (14, ⟨(.pair .str (.int .u64)), 2, 24⟩), (21, ⟨(.int .i32), 0, 4⟩), (22, ⟨(.sl (.int .u8)), 5, 1⟩), (24, ⟨(.sl (.arr 4 tI)), 30, 32⟩), (30, ⟨(.arr 4 tI), 3, 8⟩), (49, ⟨(.sl (.arr 3 tI)), 52, 24⟩), (52, ⟨(.arr 3 tI), 3, 8⟩), (55, ⟨(.pair (.sl (.arr 4 tI)) (.pair tI tI)), 3, 40⟩), (56, ⟨(.pair (.sl (.arr 4 tI)) (.pair tI tI)), 3, 40⟩), (57, ⟨(.pair tI (.pair tI (.pair tI tI))), 4, 32⟩), (58, ⟨(.pair tI (.pair tI (.pair tI tI))), 4, 32⟩), (60, ⟨(.pair (.sl (.arr 4 tI)) (.pair tI tI)), 3, 40⟩), (64, ⟨(.pair tI (.pair tI (.pair tI tI))), 4, 32⟩), (69, ⟨(.sl (.pair tI (.pair tI (.pair tI tI)))), 58, 32⟩), (73, ⟨(.sl (.pair tI (.pair tI (.pair tI tI)))), 64, 32⟩), (88, ⟨(.int .u64), 0, 8⟩), (89, ⟨(.pair (.sl (.int .u8)) (.pair tI (.int .u64))), 3, 40⟩), (90, ⟨(.pair (.sl (.int .u8)) (.pair tI (.int .u64))), 3, 40⟩), (99, ⟨(.sl tI), 3, 8⟩), (110, ⟨(.int .u64), 0, 8⟩), (127, ⟨(.int .u32), 0, 4⟩), (130, ⟨(.arr 81 tI), 3, 8⟩), (146, ⟨(.arr 4 (.arr 3 tI)), 52, 24⟩), (147, ⟨(.pair (.arr 4 tI) (.arr 4 (.arr 3 tI))), 2, 128⟩), (148, ⟨(.pair (.arr 4 tI) (.arr 4 (.arr 3 tI))), 2, 128⟩), (156, ⟨(.sl (.arr 2 tI)), 169, 16⟩), (159, ⟨tI, 0, 8⟩), (169, ⟨(.arr 2 tI), 3, 8⟩), (170, ⟨(.int .u64), 0, 8⟩), (188, ⟨(.int .u8), 0, 1⟩), (189, ⟨(.int .u8), 0, 1⟩), (192, ⟨(.int .i32), 0, 4⟩), (193, ⟨(.int .i32), 0, 4⟩)], [7, 8, 30, 52, 57, 58, 64, 130, 146, 147, 148, 169], [1, 23, 26, 28, 29, 32, 34, 35, 36, 38, 40, 41, 42, 43, 45, 46, 47, 48, 51, 54, 59, 62, 63, 65, 66, 67, 68, 70, 72, 74, 75, 76, 77, 78, 80, 81, 83, 84, 85, 86, 91, 92, 93, 94, 95, 96, 97, 98, 100, 101, 102, 103, 104, 105, 106, 107, 108, 109, 111, 112, 113, 114, 115, 116, 117, 118, 119, 120, 121, 122, 123, 124, 125, 126, 128, 129, 131, 132, 133, 134, 135, 136, 137, 138, 139, 140, 141, 142, 143, 144, 145, 150, 151, 152, 153, 154, 155, 157, 158, 161, 162, 163, 164, 165, 166, 167, 168, 171, 172, 173, 175, 176, 177, 178, 181, 182, 190]⟩
theorem tabOK0 : TabOK Tryz.prog tab := ⟨by kernel_rfl, by kernel_rfl⟩
def v_rBig_i : CSh := ⟨[(.data false (.sl (.int .u8)))], []⟩
def v_rBig_o : RSh := ⟨(.data true .bool), []⟩
theorem v_rBig_ev (n : Nat) (x : TupT v_rBig_i.tys) : evF ⟨tab, [], n, []⟩ Tryz.f7 v_rBig_i v_rBig_o x = v_rBig n x := by kernel_rfl
noncomputable def v_rBig_e (n : Nat) : Ent := ⟨7, v_rBig_i, v_rBig_o, fun x => v_rBig n x⟩
theorem v_rBig_ok (n : Nat) : EntOK Tryz.prog (v_rBig_e n) ∧ Own Tryz.prog 7 := ent_ok tabOK0 .nil Tryz.func7 rfl (by kernel_rfl) (v_rBig_ev n)
def s_Cur_next'p_i : CSh := ⟨[(.ptr 0 [])], [.var 90 (.data true (.pair (.sl (.int .u8)) (.pair tI (.int .u64))))]⟩
def s_Cur_next'p_o : RSh := ⟨(.data true tI), [.var 90 (.data true (.pair (.sl (.int .u8)) (.pair tI (.int .u64))))]⟩
theorem s_Cur_next'p_ev (n : Nat) (x : TupT s_Cur_next'p_i.tys) : evF ⟨tab, [], n, [(4, ⟨[(0, (.ptr 0 [])), (3, (.data true tI))], [.var 90 (.data true (.pair (.sl (.int .u8)) (.pair tI (.int .u64))))], 1⟩)]⟩ Tryz.f124 s_Cur_next'p_i s_Cur_next'p_o x = s_Cur_next'p n x := by kernel_rfl
noncomputable def s_Cur_next'p_e (n : Nat) : Ent := ⟨124, s_Cur_next'p_i, s_Cur_next'p_o, fun x => s_Cur_next'p n x⟩
theorem s_Cur_next'p_ok (n : Nat) : EntOK Tryz.prog (s_Cur_next'p_e n) ∧ Own Tryz.prog 124 := ent_ok tabOK0 .nil Tryz.func124 rfl (by kernel_rfl) (s_Cur_next'p_ev n)
def s_Cur_pick'p_i : CSh := ⟨[(.ptr 0 []), (.data true tI)], [.var 90 (.data true (.pair (.sl (.int .u8)) (.pair tI (.int .u64))))]⟩
def s_Cur_pick'p_o : RSh := ⟨(.data true tI), [.var 90 (.data true (.pair (.sl (.int .u8)) (.pair tI (.int .u64))))]⟩
theorem s_Cur_pick'p_ev (n : Nat) (x : TupT s_Cur_pick'p_i.tys) : evF ⟨tab, [s_Cur_next'p_e n], n, []⟩ Tryz.f80 s_Cur_pick'p_i s_Cur_pick'p_o x = s_Cur_pick'p n x.1 x.2 := by kernel_rfl
noncomputable def s_Cur_pick'p_e (n : Nat) : Ent := ⟨80, s_Cur_pick'p_i, s_Cur_pick'p_o, fun x => s_Cur_pick'p n x.1 x.2⟩
theorem s_Cur_pick'p_ok (n : Nat) : EntOK Tryz.prog (s_Cur_pick'p_e n) ∧ Own Tryz.prog 80 := ent_ok tabOK0 (.cons (s_Cur_next'p_ok n) .nil) Tryz.func80 rfl (by kernel_rfl) (s_Cur_pick'p_ev n)
def s_Cur_one'p_i : CSh := ⟨[(.ptr 0 []), (.data true tI)], [.var 90 (.data true (.pair (.sl (.int .u8)) (.pair tI (.int .u64))))]⟩
def s_Cur_one'p_o : RSh := ⟨(.data true .bool), [.var 90 (.data true (.pair (.sl (.int .u8)) (.pair tI (.int .u64))))]⟩
theorem s_Cur_one'p_ev (n : Nat) (x : TupT s_Cur_one'p_i.tys) : evF ⟨tab, [s_Cur_pick'p_e n], n, []⟩ Tryz.f75 s_Cur_one'p_i s_Cur_one'p_o x = s_Cur_one'p n x.1 x.2 := by kernel_rfl
noncomputable def s_Cur_one'p_e (n : Nat) : Ent := ⟨75, s_Cur_one'p_i, s_Cur_one'p_o, fun x => s_Cur_one'p n x.1 x.2⟩
theorem s_Cur_one'p_ok (n : Nat) : EntOK Tryz.prog (s_Cur_one'p_e n) ∧ Own Tryz.prog 75 := ent_ok tabOK0 (.cons (s_Cur_pick'p_ok n) .nil) Tryz.func75 rfl (by kernel_rfl) (s_Cur_one'p_ev n)
def s_Cur_among'pl_i : CSh := ⟨[(.ptr 0 []), (.data false (.sl tI))], [.var 90 (.data true (.pair (.sl (.int .u8)) (.pair tI (.int .u64))))]⟩
def s_Cur_among'pl_o : RSh := ⟨(.data true tI), [.var 90 (.data true (.pair (.sl (.int .u8)) (.pair tI (.int .u64))))]⟩
theorem s_Cur_among'pl_ev (n : Nat) (x : TupT s_Cur_among'pl_i.tys) : evF ⟨tab, [s_Cur_pick'p_e n], n, []⟩ Tryz.f112 s_Cur_among'pl_i s_Cur_among'pl_o x = s_Cur_among'pl n x.1 x.2 := by kernel_rfl
noncomputable def s_Cur_among'pl_e (n : Nat) : Ent := ⟨112, s_Cur_among'pl_i, s_Cur_among'pl_o, fun x => s_Cur_among'pl n x.1 x.2⟩
theorem s_Cur_among'pl_ok (n : Nat) : EntOK Tryz.prog (s_Cur_among'pl_e n) ∧ Own Tryz.prog 112 := ent_ok tabOK0 (.cons (s_Cur_pick'p_ok n) .nil) Tryz.func112 rfl (by kernel_rfl) (s_Cur_among'pl_ev n)
def s_Cur_mask'p_i : CSh := ⟨[(.ptr 0 [])], [.var 90 (.data true (.pair (.sl (.int .u8)) (.pair tI (.int .u64))))]⟩
def s_Cur_mask'p_o : RSh := ⟨(.data true tI), [.var 90 (.data true (.pair (.sl (.int .u8)) (.pair tI (.int .u64))))]⟩
theorem s_Cur_mask'p_ev (n : Nat) (x : TupT s_Cur_mask'p_i.tys) : evF ⟨tab, [s_Cur_one'p_e n, s_Cur_among'pl_e n, s_Cur_pick'p_e n], n, []⟩ Tryz.f59 s_Cur_mask'p_i s_Cur_mask'p_o x = s_Cur_mask'p n x := by kernel_rfl
noncomputable def s_Cur_mask'p_e (n : Nat) : Ent := ⟨59, s_Cur_mask'p_i, s_Cur_mask'p_o, fun x => s_Cur_mask'p n x⟩
theorem s_Cur_mask'p_ok (n : Nat) : EntOK Tryz.prog (s_Cur_mask'p_e n) ∧ Own Tryz.prog 59 := ent_ok tabOK0 (.cons (s_Cur_one'p_ok n) (.cons (s_Cur_among'pl_ok n) (.cons (s_Cur_pick'p_ok n) .nil))) Tryz.func59 rfl (by kernel_rfl) (s_Cur_mask'p_ev n)
def s_l2At_i : CSh := ⟨[(.data true tI)], []⟩
def s_l2At_o : RSh := ⟨(.data true (.arr 4 tI)), []⟩
theorem s_l2At_ev (n : Nat) (x : TupT s_l2At_i.tys) : evF ⟨tab, [], n, []⟩ Tryz.f82 s_l2At_i s_l2At_o x = s_l2At n x := by kernel_rfl
noncomputable def s_l2At_e (n : Nat) : Ent := ⟨82, s_l2At_i, s_l2At_o, fun x => s_l2At n x⟩
theorem s_l2At_ok (n : Nat) : EntOK Tryz.prog (s_l2At_e n) ∧ Own Tryz.prog 82 := ent_ok tabOK0 .nil Tryz.func82 rfl (by kernel_rfl) (s_l2At_ev n)
def s_l2Number_i : CSh := ⟨[(.data true (.arr 4 tI))], []⟩
def s_l2Number_o : RSh := ⟨(.data true tI), []⟩
theorem s_l2Number_ev (n : Nat) (x : TupT s_l2Number_i.tys) : evF ⟨tab, [], n, []⟩ Tryz.f150 s_l2Number_i s_l2Number_o x = s_l2Number n x := by kernel_rfl
noncomputable def s_l2Number_e (n : Nat) : Ent := ⟨150, s_l2Number_i, s_l2Number_o, fun x => s_l2Number n x⟩
theorem s_l2Number_ok (n : Nat) : EntOK Tryz.prog (s_l2Number_e n) ∧ Own Tryz.prog 150 := ent_ok tabOK0 .nil Tryz.func150 rfl (by kernel_rfl) (s_l2Number_ev n)
def s_l2Less_i : CSh := ⟨[(.data true (.arr 4 tI)), (.data true (.arr 4 tI))], []⟩
def s_l2Less_o : RSh := ⟨(.data true .bool), []⟩
theorem s_l2Less_ev (n : Nat) (x : TupT s_l2Less_i.tys) : evF ⟨tab, [s_l2Number_e n], n, []⟩ Tryz.f118 s_l2Less_i s_l2Less_o x = s_l2Less n x.1 x.2 := by kernel_rfl
noncomputable def s_l2Less_e (n : Nat) : Ent := ⟨118, s_l2Less_i, s_l2Less_o, fun x => s_l2Less n x.1 x.2⟩
theorem s_l2Less_ok (n : Nat) : EntOK Tryz.prog (s_l2Less_e n) ∧ Own Tryz.prog 118 := ent_ok tabOK0 (.cons (s_l2Number_ok n) .nil) Tryz.func118 rfl (by kernel_rfl) (s_l2Less_ev n)
def s_l2Own_i : CSh := ⟨[(.data false (.sl (.arr 4 tI)))], []⟩
def s_l2Own_o : RSh := ⟨(.own 0), [.rows 30 true (.arr 4 tI)]⟩
theorem s_l2Own_ev (n : Nat) (x : TupT s_l2Own_i.tys) : evF ⟨tab, [], n, []⟩ Tryz.f104 s_l2Own_i s_l2Own_o x = s_l2Own n x := by kernel_rfl
noncomputable def s_l2Own_e (n : Nat) : Ent := ⟨104, s_l2Own_i, s_l2Own_o, fun x => s_l2Own n x⟩
theorem s_l2Own_ok (n : Nat) : EntOK Tryz.prog (s_l2Own_e n) ∧ Own Tryz.prog 104 := ent_ok tabOK0 .nil Tryz.func104 rfl (by kernel_rfl) (s_l2Own_ev n)
def s_l2Put_i : CSh := ⟨[(.data false (.sl (.arr 4 tI))), (.data true (.arr 4 tI))], []⟩
def s_l2Put_o : RSh := ⟨(.own 0), [.rows 30 true (.arr 4 tI)]⟩
theorem s_l2Put_ev (n : Nat) (x : TupT s_l2Put_i.tys) : evF ⟨tab, [s_l2Less_e n, s_l2Own_e n], n, [(6, ⟨[(0, (.data false (.sl (.arr 4 tI)))), (3, (.ptr 0 [])), (5, (.data true tI))], [.var 30 (.data true (.arr 4 tI))], 0⟩)]⟩ Tryz.f81 s_l2Put_i s_l2Put_o x = s_l2Put n x.1 x.2 := by kernel_rfl
noncomputable def s_l2Put_e (n : Nat) : Ent := ⟨81, s_l2Put_i, s_l2Put_o, fun x => s_l2Put n x.1 x.2⟩
theorem s_l2Put_ok (n : Nat) : EntOK Tryz.prog (s_l2Put_e n) ∧ Own Tryz.prog 81 := ent_ok tabOK0 (.cons (s_l2Less_ok n) (.cons (s_l2Own_ok n) .nil)) Tryz.func81 rfl (by kernel_rfl) (s_l2Put_ev n)
def s_l2Sorted_i : CSh := ⟨[(.data false (.sl (.arr 4 tI)))], []⟩
def s_l2Sorted_o : RSh := ⟨(.own 0), [.rows 30 true (.arr 4 tI)]⟩
theorem s_l2Sorted_ev (n : Nat) (x : TupT s_l2Sorted_i.tys) : evF ⟨tab, [s_l2Put_e n], n, [(8, ⟨[(0, (.data false (.sl (.arr 4 tI)))), (3, (.own 0)), (4, (.data true tI))], [.rows 30 true (.arr 4 tI)], 0⟩)]⟩ Tryz.f66 s_l2Sorted_i s_l2Sorted_o x = s_l2Sorted n x := by kernel_rfl
noncomputable def s_l2Sorted_e (n : Nat) : Ent := ⟨66, s_l2Sorted_i, s_l2Sorted_o, fun x => s_l2Sorted n x⟩
theorem s_l2Sorted_ok (n : Nat) : EntOK Tryz.prog (s_l2Sorted_e n) ∧ Own Tryz.prog 66 := ent_ok tabOK0 (.cons (s_l2Put_ok n) .nil) Tryz.func66 rfl (by kernel_rfl) (s_l2Sorted_ev n)
def s_l2Third_i : CSh := ⟨[(.data true (.arr 4 tI)), (.data true (.arr 4 tI))], []⟩
def s_l2Third_o : RSh := ⟨(.data true (.arr 4 tI)), []⟩
theorem s_l2Third_ev (n : Nat) (x : TupT s_l2Third_i.tys) : evF ⟨tab, [], n, [(8, ⟨[(2, (.ptr 0 [])), (3, (.ptr 1 [])), (4, (.ptr 2 [])), (5, (.ptr 3 [])), (6, (.data true tI))], [.var 30 (.data true (.arr 4 tI)), .var 30 (.data true (.arr 4 tI)), .var 30 (.data true (.arr 4 tI)), .var 30 (.data true (.arr 4 tI))], 0⟩)]⟩ Tryz.f152 s_l2Third_i s_l2Third_o x = s_l2Third n x.1 x.2 := by kernel_rfl
noncomputable def s_l2Third_e (n : Nat) : Ent := ⟨152, s_l2Third_i, s_l2Third_o, fun x => s_l2Third n x.1 x.2⟩
theorem s_l2Third_ok (n : Nat) : EntOK Tryz.prog (s_l2Third_e n) ∧ Own Tryz.prog 152 := ent_ok tabOK0 .nil Tryz.func152 rfl (by kernel_rfl) (s_l2Third_ev n)
def s_l2Place_i : CSh := ⟨[(.data false (.sl (.arr 4 tI))), (.data true (.arr 4 tI))], []⟩
def s_l2Place_o : RSh := ⟨(.data true tI), []⟩
theorem s_l2Place_ev (n : Nat) (x : TupT s_l2Place_i.tys) : evF ⟨tab, [], n, [(6, ⟨[(0, (.data false (.sl (.arr 4 tI)))), (3, (.ptr 0 [])), (5, (.data true tI))], [.var 30 (.data true (.arr 4 tI))], 0⟩)]⟩ Tryz.f128 s_l2Place_i s_l2Place_o x = s_l2Place n x.1 x.2 := by kernel_rfl
noncomputable def s_l2Place_e (n : Nat) : Ent := ⟨128, s_l2Place_i, s_l2Place_o, fun x => s_l2Place n x.1 x.2⟩
theorem s_l2Place_ok (n : Nat) : EntOK Tryz.prog (s_l2Place_e n) ∧ Own Tryz.prog 128 := ent_ok tabOK0 .nil Tryz.func128 rfl (by kernel_rfl) (s_l2Place_ev n)
def s_l2Has_i : CSh := ⟨[(.data false (.sl (.arr 4 tI))), (.data true (.arr 4 tI))], []⟩
def s_l2Has_o : RSh := ⟨(.data true .bool), []⟩
theorem s_l2Has_ev (n : Nat) (x : TupT s_l2Has_i.tys) : evF ⟨tab, [s_l2Place_e n], n, []⟩ Tryz.f89 s_l2Has_i s_l2Has_o x = s_l2Has n x.1 x.2 := by kernel_rfl
noncomputable def s_l2Has_e (n : Nat) : Ent := ⟨89, s_l2Has_i, s_l2Has_o, fun x => s_l2Has n x.1 x.2⟩
theorem s_l2Has_ok (n : Nat) : EntOK Tryz.prog (s_l2Has_e n) ∧ Own Tryz.prog 89 := ent_ok tabOK0 (.cons (s_l2Place_ok n) .nil) Tryz.func89 rfl (by kernel_rfl) (s_l2Has_ev n)
def s_l6Span_i : CSh := ⟨[(.data false (.sl (.arr 4 tI)))], []⟩
def s_l6Span_o : RSh := ⟨(.own 0), [.rows 30 true (.arr 4 tI)]⟩
theorem s_l6Span_ev (n : Nat) (x : TupT s_l6Span_i.tys) : evF ⟨tab, [s_l2Sorted_e n, s_l2Third_e n, s_l2Has_e n, s_l2Put_e n], n, [(8, ⟨[(3, (.own 0)), (4, (.data true tI))], [.rows 30 true (.arr 4 tI)], 0⟩), (20, ⟨[(3, (.own 0)), (4, (.data true tI)), (5, (.data true tI))], [.rows 30 true (.arr 4 tI)], 0⟩)]⟩ Tryz.f146 s_l6Span_i s_l6Span_o x = s_l6Span n x := by kernel_rfl
noncomputable def s_l6Span_e (n : Nat) : Ent := ⟨146, s_l6Span_i, s_l6Span_o, fun x => s_l6Span n x⟩
theorem s_l6Span_ok (n : Nat) : EntOK Tryz.prog (s_l6Span_e n) ∧ Own Tryz.prog 146 := ent_ok tabOK0 (.cons (s_l2Sorted_ok n) (.cons (s_l2Third_ok n) (.cons (s_l2Has_ok n) (.cons (s_l2Put_ok n) .nil)))) Tryz.func146 rfl (by kernel_rfl) (s_l6Span_ev n)
def s_l2Drop_i : CSh := ⟨[(.data false (.sl (.arr 4 tI))), (.data true tI)], []⟩
def s_l2Drop_o : RSh := ⟨(.own 0), [.rows 30 true (.arr 4 tI)]⟩
theorem s_l2Drop_ev (n : Nat) (x : TupT s_l2Drop_i.tys) : evF ⟨tab, [s_l2Own_e n], n, []⟩ Tryz.f147 s_l2Drop_i s_l2Drop_o x = s_l2Drop n x.1 x.2 := by kernel_rfl
noncomputable def s_l2Drop_e (n : Nat) : Ent := ⟨147, s_l2Drop_i, s_l2Drop_o, fun x => s_l2Drop n x.1 x.2⟩
theorem s_l2Drop_ok (n : Nat) : EntOK Tryz.prog (s_l2Drop_e n) ∧ Own Tryz.prog 147 := ent_ok tabOK0 (.cons (s_l2Own_ok n) .nil) Tryz.func147 rfl (by kernel_rfl) (s_l2Drop_ev n)
def s_Cur_flat'p_i : CSh := ⟨[(.ptr 0 [])], [.var 90 (.data true (.pair (.sl (.int .u8)) (.pair tI (.int .u64))))]⟩
def s_Cur_flat'p_o : RSh := ⟨(.own 1), [.var 90 (.data true (.pair (.sl (.int .u8)) (.pair tI (.int .u64)))), .rows 30 true (.arr 4 tI)]⟩
theorem s_Cur_flat'p_ev (n : Nat) (x : TupT s_Cur_flat'p_i.tys) : evF ⟨tab, [s_Cur_among'pl_e n, s_Cur_pick'p_e n, s_l2At_e n, s_l2Put_e n, s_l6Span_e n, s_l2Drop_e n, s_Cur_one'p_e n], n, [(8, ⟨[(0, (.ptr 0 [])), (3, (.own 1)), (4, (.data true tI))], [.var 90 (.data true (.pair (.sl (.int .u8)) (.pair tI (.int .u64)))), .rows 30 true (.arr 4 tI)], 1⟩), (23, ⟨[(0, (.ptr 0 [])), (3, (.own 1))], [.var 90 (.data true (.pair (.sl (.int .u8)) (.pair tI (.int .u64)))), .rows 30 true (.arr 4 tI)], 1⟩), (5000034, ⟨[(0, (.ptr 0 [])), (3, (.own 1)), (35, (.data true .bool))], [.var 90 (.data true (.pair (.sl (.int .u8)) (.pair tI (.int .u64)))), .rows 30 true (.arr 4 tI)], 1⟩)]⟩ Tryz.f113 s_Cur_flat'p_i s_Cur_flat'p_o x = s_Cur_flat'p n x := by kernel_rfl
noncomputable def s_Cur_flat'p_e (n : Nat) : Ent := ⟨113, s_Cur_flat'p_i, s_Cur_flat'p_o, fun x => s_Cur_flat'p n x⟩
theorem s_Cur_flat'p_ok (n : Nat) : EntOK Tryz.prog (s_Cur_flat'p_e n) ∧ Own Tryz.prog 113 := ent_ok tabOK0 (.cons (s_Cur_among'pl_ok n) (.cons (s_Cur_pick'p_ok n) (.cons (s_l2At_ok n) (.cons (s_l2Put_ok n) (.cons (s_l6Span_ok n) (.cons (s_l2Drop_ok n) (.cons (s_Cur_one'p_ok n) .nil))))))) Tryz.func113 rfl (by kernel_rfl) (s_Cur_flat'p_ev n)
def s_Cur_hand'p_i : CSh := ⟨[(.ptr 0 [])], [.var 90 (.data true (.pair (.sl (.int .u8)) (.pair tI (.int .u64))))]⟩
def s_Cur_hand'p_o : RSh := ⟨(.own 1), [.var 90 (.data true (.pair (.sl (.int .u8)) (.pair tI (.int .u64)))), .rows 30 true (.arr 4 tI)]⟩
theorem s_Cur_hand'p_ev (n : Nat) (x : TupT s_Cur_hand'p_i.tys) : evF ⟨tab, [s_Cur_among'pl_e n, s_Cur_pick'p_e n, s_l2At_e n, s_l2Put_e n, s_Cur_one'p_e n], n, [(8, ⟨[(0, (.ptr 0 [])), (3, (.own 1)), (4, (.data true tI)), (5, (.data true tI))], [.var 90 (.data true (.pair (.sl (.int .u8)) (.pair tI (.int .u64)))), .rows 30 true (.arr 4 tI)], 1⟩), (23, ⟨[(0, (.ptr 0 [])), (3, (.own 1)), (4, (.data true tI)), (5, (.data true tI)), (6, (.ptr 2 [])), (7, (.data true tI))], [.var 90 (.data true (.pair (.sl (.int .u8)) (.pair tI (.int .u64)))), .rows 30 true (.arr 4 tI), .var 30 (.data true (.arr 4 tI))], 1⟩), (5000038, ⟨[(0, (.ptr 0 [])), (3, (.own 1)), (39, (.data true .bool))], [.var 90 (.data true (.pair (.sl (.int .u8)) (.pair tI (.int .u64)))), .rows 30 true (.arr 4 tI)], 1⟩)]⟩ Tryz.f85 s_Cur_hand'p_i s_Cur_hand'p_o x = s_Cur_hand'p n x := by kernel_rfl
noncomputable def s_Cur_hand'p_e (n : Nat) : Ent := ⟨85, s_Cur_hand'p_i, s_Cur_hand'p_o, fun x => s_Cur_hand'p n x⟩
theorem s_Cur_hand'p_ok (n : Nat) : EntOK Tryz.prog (s_Cur_hand'p_e n) ∧ Own Tryz.prog 85 := ent_ok tabOK0 (.cons (s_Cur_among'pl_ok n) (.cons (s_Cur_pick'p_ok n) (.cons (s_l2At_ok n) (.cons (s_l2Put_ok n) (.cons (s_Cur_one'p_ok n) .nil))))) Tryz.func85 rfl (by kernel_rfl) (s_Cur_hand'p_ev n)
def s_Cur_someHand'p_i : CSh := ⟨[(.ptr 0 [])], [.var 90 (.data true (.pair (.sl (.int .u8)) (.pair tI (.int .u64))))]⟩
def s_Cur_someHand'p_o : RSh := ⟨(.own 1), [.var 90 (.data true (.pair (.sl (.int .u8)) (.pair tI (.int .u64)))), .rows 30 true (.arr 4 tI)]⟩
theorem s_Cur_someHand'p_ev (n : Nat) (x : TupT s_Cur_someHand'p_i.tys) : evF ⟨tab, [s_Cur_one'p_e n, s_Cur_flat'p_e n, s_Cur_hand'p_e n], n, []⟩ Tryz.f60 s_Cur_someHand'p_i s_Cur_someHand'p_o x = s_Cur_someHand'p n x := by kernel_rfl
noncomputable def s_Cur_someHand'p_e (n : Nat) : Ent := ⟨60, s_Cur_someHand'p_i, s_Cur_someHand'p_o, fun x => s_Cur_someHand'p n x⟩
theorem s_Cur_someHand'p_ok (n : Nat) : EntOK Tryz.prog (s_Cur_someHand'p_e n) ∧ Own Tryz.prog 60 := ent_ok tabOK0 (.cons (s_Cur_one'p_ok n) (.cons (s_Cur_flat'p_ok n) (.cons (s_Cur_hand'p_ok n) .nil))) Tryz.func60 rfl (by kernel_rfl) (s_Cur_someHand'p_ev n)
def s_DrawShadowHand_i : CSh := ⟨[(.data false (.sl (.int .u8)))], []⟩
def s_DrawShadowHand_o : RSh := ⟨(.tcons (.own 0) (.tcons (.data true tI) .tnil)), [.rows 30 true (.arr 4 tI)]⟩
theorem s_DrawShadowHand_ev (n : Nat) (x : TupT s_DrawShadowHand_i.tys) : evF ⟨tab, [s_Cur_mask'p_e n, s_Cur_someHand'p_e n], n, []⟩ Tryz.f8 s_DrawShadowHand_i s_DrawShadowHand_o x = s_DrawShadowHand n x := by kernel_rfl
noncomputable def s_DrawShadowHand_e (n : Nat) : Ent := ⟨8, s_DrawShadowHand_i, s_DrawShadowHand_o, fun x => s_DrawShadowHand n x⟩
theorem s_DrawShadowHand_ok (n : Nat) : EntOK Tryz.prog (s_DrawShadowHand_e n) ∧ Own Tryz.prog 8 := ent_ok tabOK0 (.cons (s_Cur_mask'p_ok n) (.cons (s_Cur_someHand'p_ok n) .nil)) Tryz.func8 rfl (by kernel_rfl) (s_DrawShadowHand_ev n)
def i_within_i : CSh := ⟨[(.data true tI), (.data true tI), (.data true tI)], []⟩
def i_within_o : RSh := ⟨(.data true .bool), []⟩
theorem i_within_ev (n : Nat) (x : TupT i_within_i.tys) : evF ⟨tab, [], n, []⟩ Tryz.f73 i_within_i i_within_o x = i_within n x.1 x.2.1 x.2.2 := by kernel_rfl
noncomputable def i_within_e (n : Nat) : Ent := ⟨73, i_within_i, i_within_o, fun x => i_within n x.1 x.2.1 x.2.2⟩
theorem i_within_ok (n : Nat) : EntOK Tryz.prog (i_within_e n) ∧ Own Tryz.prog 73 := ent_ok tabOK0 .nil Tryz.func73 rfl (by kernel_rfl) (i_within_ev n)
def i_allWithin_1'pp_i : CSh := ⟨[(.data true tI), (.ptr 0 []), (.ptr 1 [])], [.var 3 (.data true tI), .var 3 (.data true tI)]⟩
def i_allWithin_1'pp_o : RSh := ⟨(.data true .bool), [.var 3 (.data true tI), .var 3 (.data true tI)]⟩
theorem i_allWithin_1'pp_ev (n : Nat) (x : TupT i_allWithin_1'pp_i.tys) : evF ⟨tab, [i_within_e n], n, []⟩ Tryz.f121 i_allWithin_1'pp_i i_allWithin_1'pp_o x = i_allWithin_1'pp n x.1 x.2.1 x.2.2 := by kernel_rfl
noncomputable def i_allWithin_1'pp_e (n : Nat) : Ent := ⟨121, i_allWithin_1'pp_i, i_allWithin_1'pp_o, fun x => i_allWithin_1'pp n x.1 x.2.1 x.2.2⟩
theorem i_allWithin_1'pp_ok (n : Nat) : EntOK Tryz.prog (i_allWithin_1'pp_e n) ∧ Own Tryz.prog 121 := ent_ok tabOK0 (.cons (i_within_ok n) .nil) Tryz.func121 rfl (by kernel_rfl) (i_allWithin_1'pp_ev n)
def slices_IndexFunc_Sint_int_'l_i_allWithin_1pp_i : CSh := ⟨[(.data false (.sl tI)), (.clo 121 (.tcons (.ptr 0 []) (.tcons (.ptr 1 []) .tnil)))], [.var 3 (.data true tI), .var 3 (.data true tI)]⟩
def slices_IndexFunc_Sint_int_'l_i_allWithin_1pp_o : RSh := ⟨(.data true tI), [.var 3 (.data true tI), .var 3 (.data true tI)]⟩
theorem slices_IndexFunc_Sint_int_'l_i_allWithin_1pp_ev (n : Nat) (x : TupT slices_IndexFunc_Sint_int_'l_i_allWithin_1pp_i.tys) : evF ⟨tab, [i_allWithin_1'pp_e n], n, [(6, ⟨[(0, (.data false (.sl tI))), (1, (.clo 121 (.tcons (.ptr 0 []) (.tcons (.ptr 1 []) .tnil)))), (7, (.data true tI)), (8, (.data true tI))], [.var 3 (.data true tI), .var 3 (.data true tI)], 2⟩)]⟩ Tryz.f151 slices_IndexFunc_Sint_int_'l_i_allWithin_1pp_i slices_IndexFunc_Sint_int_'l_i_allWithin_1pp_o x = slices_IndexFunc_Sint_int_'l_i_allWithin_1pp n x.1 x.2.1 x.2.2 := by kernel_rfl
noncomputable def slices_IndexFunc_Sint_int_'l_i_allWithin_1pp_e (n : Nat) : Ent := ⟨151, slices_IndexFunc_Sint_int_'l_i_allWithin_1pp_i, slices_IndexFunc_Sint_int_'l_i_allWithin_1pp_o, fun x => slices_IndexFunc_Sint_int_'l_i_allWithin_1pp n x.1 x.2.1 x.2.2⟩
theorem slices_IndexFunc_Sint_int_'l_i_allWithin_1pp_ok (n : Nat) : EntOK Tryz.prog (slices_IndexFunc_Sint_int_'l_i_allWithin_1pp_e n) ∧ Own Tryz.prog 151 := ent_ok tabOK0 (.cons (i_allWithin_1'pp_ok n) .nil) Tryz.func151 rfl (by kernel_rfl) (slices_IndexFunc_Sint_int_'l_i_allWithin_1pp_ev n)
def slices_ContainsFunc_Sint_int_'l_i_allWithin_1pp_i : CSh := ⟨[(.data false (.sl tI)), (.clo 121 (.tcons (.ptr 0 []) (.tcons (.ptr 1 []) .tnil)))], [.var 3 (.data true tI), .var 3 (.data true tI)]⟩
def slices_ContainsFunc_Sint_int_'l_i_allWithin_1pp_o : RSh := ⟨(.data true .bool), [.var 3 (.data true tI), .var 3 (.data true tI)]⟩
theorem slices_ContainsFunc_Sint_int_'l_i_allWithin_1pp_ev (n : Nat) (x : TupT slices_ContainsFunc_Sint_int_'l_i_allWithin_1pp_i.tys) : evF ⟨tab, [slices_IndexFunc_Sint_int_'l_i_allWithin_1pp_e n], n, []⟩ Tryz.f120 slices_ContainsFunc_Sint_int_'l_i_allWithin_1pp_i slices_ContainsFunc_Sint_int_'l_i_allWithin_1pp_o x = slices_ContainsFunc_Sint_int_'l_i_allWithin_1pp n x.1 x.2.1 x.2.2 := by kernel_rfl
noncomputable def slices_ContainsFunc_Sint_int_'l_i_allWithin_1pp_e (n : Nat) : Ent := ⟨120, slices_ContainsFunc_Sint_int_'l_i_allWithin_1pp_i, slices_ContainsFunc_Sint_int_'l_i_allWithin_1pp_o, fun x => slices_ContainsFunc_Sint_int_'l_i_allWithin_1pp n x.1 x.2.1 x.2.2⟩
theorem slices_ContainsFunc_Sint_int_'l_i_allWithin_1pp_ok (n : Nat) : EntOK Tryz.prog (slices_ContainsFunc_Sint_int_'l_i_allWithin_1pp_e n) ∧ Own Tryz.prog 120 := ent_ok tabOK0 (.cons (slices_IndexFunc_Sint_int_'l_i_allWithin_1pp_ok n) .nil) Tryz.func120 rfl (by kernel_rfl) (slices_ContainsFunc_Sint_int_'l_i_allWithin_1pp_ev n)
def i_allWithin_i : CSh := ⟨[(.data false (.sl tI)), (.data true tI), (.data true tI)], []⟩
def i_allWithin_o : RSh := ⟨(.data true .bool), []⟩
theorem i_allWithin_ev (n : Nat) (x : TupT i_allWithin_i.tys) : evF ⟨tab, [slices_ContainsFunc_Sint_int_'l_i_allWithin_1pp_e n], n, []⟩ Tryz.f72 i_allWithin_i i_allWithin_o x = i_allWithin n x.1 x.2.1 x.2.2 := by kernel_rfl
noncomputable def i_allWithin_e (n : Nat) : Ent := ⟨72, i_allWithin_i, i_allWithin_o, fun x => i_allWithin n x.1 x.2.1 x.2.2⟩
theorem i_allWithin_ok (n : Nat) : EntOK Tryz.prog (i_allWithin_e n) ∧ Own Tryz.prog 72 := ent_ok tabOK0 (.cons (slices_ContainsFunc_Sint_int_'l_i_allWithin_1pp_ok n) .nil) Tryz.func72 rfl (by kernel_rfl) (i_allWithin_ev n)
def i_IsCard_i : CSh := ⟨[(.data true (.arr 4 tI))], []⟩
def i_IsCard_o : RSh := ⟨(.data true .bool), []⟩
theorem i_IsCard_ev (n : Nat) (x : TupT i_IsCard_i.tys) : evF ⟨tab, [i_allWithin_e n], n, []⟩ Tryz.f15 i_IsCard_i i_IsCard_o x = i_IsCard n x := by kernel_rfl
noncomputable def i_IsCard_e (n : Nat) : Ent := ⟨15, i_IsCard_i, i_IsCard_o, fun x => i_IsCard n x⟩
theorem i_IsCard_ok (n : Nat) : EntOK Tryz.prog (i_IsCard_e n) ∧ Own Tryz.prog 15 := ent_ok tabOK0 (.cons (i_allWithin_ok n) .nil) Tryz.func15 rfl (by kernel_rfl) (i_IsCard_ev n)
def i_number_i : CSh := ⟨[(.data true (.arr 4 tI))], []⟩
def i_number_o : RSh := ⟨(.data true tI), []⟩
theorem i_number_ev (n : Nat) (x : TupT i_number_i.tys) : evF ⟨tab, [], n, [(8, ⟨[(3, (.data true tI)), (6, (.data true (.arr 4 tI))), (7, (.data true tI))], [], 0⟩)]⟩ Tryz.f114 i_number_i i_number_o x = i_number n x := by kernel_rfl
noncomputable def i_number_e (n : Nat) : Ent := ⟨114, i_number_i, i_number_o, fun x => i_number n x⟩
theorem i_number_ok (n : Nat) : EntOK Tryz.prog (i_number_e n) ∧ Own Tryz.prog 114 := ent_ok tabOK0 .nil Tryz.func114 rfl (by kernel_rfl) (i_number_ev n)
def i_IsHand_i : CSh := ⟨[(.data false (.sl (.arr 4 tI)))], []⟩
def i_IsHand_o : RSh := ⟨(.data true .bool), []⟩
theorem i_IsHand_ev (n : Nat) (x : TupT i_IsHand_i.tys) : evF ⟨tab, [i_IsCard_e n, i_number_e n], n, [(6, ⟨[(0, (.data false (.sl (.arr 4 tI)))), (5, (.data false (.sl (.arr 4 tI)))), (6, (.data true tI)), (7, (.data true tI))], [], 0⟩)]⟩ Tryz.f61 i_IsHand_i i_IsHand_o x = i_IsHand n x := by kernel_rfl
noncomputable def i_IsHand_e (n : Nat) : Ent := ⟨61, i_IsHand_i, i_IsHand_o, fun x => i_IsHand n x⟩
theorem i_IsHand_ok (n : Nat) : EntOK Tryz.prog (i_IsHand_e n) ∧ Own Tryz.prog 61 := ent_ok tabOK0 (.cons (i_IsCard_ok n) (.cons (i_number_ok n) .nil)) Tryz.func61 rfl (by kernel_rfl) (i_IsHand_ev n)
def i_IsMask_i : CSh := ⟨[(.data true tI)], []⟩
def i_IsMask_o : RSh := ⟨(.data true .bool), []⟩
theorem i_IsMask_ev (n : Nat) (x : TupT i_IsMask_i.tys) : evF ⟨tab, [i_within_e n], n, []⟩ Tryz.f16 i_IsMask_i i_IsMask_o x = i_IsMask n x := by kernel_rfl
noncomputable def i_IsMask_e (n : Nat) : Ent := ⟨16, i_IsMask_i, i_IsMask_o, fun x => i_IsMask n x⟩
theorem i_IsMask_ok (n : Nat) : EntOK Tryz.prog (i_IsMask_e n) ∧ Own Tryz.prog 16 := ent_ok tabOK0 (.cons (i_within_ok n) .nil) Tryz.func16 rfl (by kernel_rfl) (i_IsMask_ev n)
def i_shadow_i : CSh := ⟨[(.data true (.arr 4 tI)), (.data true tI)], []⟩
def i_shadow_o : RSh := ⟨(.data true (.arr 4 tI)), []⟩
theorem i_shadow_ev (n : Nat) (x : TupT i_shadow_i.tys) : evF ⟨tab, [], n, [(6, ⟨[(1, (.data true tI)), (2, (.ptr 0 [])), (4, (.ptr 1 [])), (6, (.data true tI))], [.var 30 (.data true (.arr 4 tI)), .var 30 (.data true (.arr 4 tI))], 0⟩)]⟩ Tryz.f69 i_shadow_i i_shadow_o x = i_shadow n x.1 x.2 := by kernel_rfl
noncomputable def i_shadow_e (n : Nat) : Ent := ⟨69, i_shadow_i, i_shadow_o, fun x => i_shadow n x.1 x.2⟩
theorem i_shadow_ok (n : Nat) : EntOK Tryz.prog (i_shadow_e n) ∧ Own Tryz.prog 69 := ent_ok tabOK0 .nil Tryz.func69 rfl (by kernel_rfl) (i_shadow_ev n)
def i_shadows_i : CSh := ⟨[(.data false (.sl (.arr 4 tI))), (.data true tI)], []⟩
def i_shadows_o : RSh := ⟨(.own 0), [.rows 30 true (.arr 4 tI)]⟩
theorem i_shadows_ev (n : Nat) (x : TupT i_shadows_i.tys) : evF ⟨tab, [i_shadow_e n], n, [(8, ⟨[(1, (.data true tI)), (5, (.own 0)), (9, (.data false (.sl (.arr 4 tI)))), (10, (.data true tI)), (11, (.data true tI))], [.rows 30 true (.arr 4 tI)], 0⟩)]⟩ Tryz.f63 i_shadows_i i_shadows_o x = i_shadows n x.1 x.2 := by kernel_rfl
noncomputable def i_shadows_e (n : Nat) : Ent := ⟨63, i_shadows_i, i_shadows_o, fun x => i_shadows n x.1 x.2⟩
theorem i_shadows_ok (n : Nat) : EntOK Tryz.prog (i_shadows_e n) ∧ Own Tryz.prog 63 := ent_ok tabOK0 (.cons (i_shadow_ok n) .nil) Tryz.func63 rfl (by kernel_rfl) (i_shadows_ev n)
def slices_Clone_SA4_A4__i : CSh := ⟨[(.data false (.sl (.arr 4 tI)))], []⟩
def slices_Clone_SA4_A4__o : RSh := ⟨(.own 0), [.rows 30 true (.arr 4 tI)]⟩
theorem slices_Clone_SA4_A4__ev (n : Nat) (x : TupT slices_Clone_SA4_A4__i.tys) : evF ⟨tab, [], n, []⟩ Tryz.f103 slices_Clone_SA4_A4__i slices_Clone_SA4_A4__o x = slices_Clone_SA4_A4_ n x := by kernel_rfl
noncomputable def slices_Clone_SA4_A4__e (n : Nat) : Ent := ⟨103, slices_Clone_SA4_A4__i, slices_Clone_SA4_A4__o, fun x => slices_Clone_SA4_A4_ n x⟩
theorem slices_Clone_SA4_A4__ok (n : Nat) : EntOK Tryz.prog (slices_Clone_SA4_A4__e n) ∧ Own Tryz.prog 103 := ent_ok tabOK0 .nil Tryz.func103 rfl (by kernel_rfl) (slices_Clone_SA4_A4__ev n)
def math_bits_Len64_i : CSh := ⟨[(.data true (.int .u64))], []⟩
def math_bits_Len64_o : RSh := ⟨(.data true tI), []⟩
theorem math_bits_Len64_ev (n : Nat) (x : TupT math_bits_Len64_i.tys) : evF ⟨tab, [], n, [(2, ⟨[(0, (.data true (.int .u64))), (2, (.data true tI))], [], 0⟩), (10, ⟨[(0, (.data true (.int .u64))), (2, (.data true tI))], [], 0⟩), (18, ⟨[(0, (.data true (.int .u64))), (2, (.data true tI))], [], 0⟩)]⟩ Tryz.f180 math_bits_Len64_i math_bits_Len64_o x = math_bits_Len64 n x := by kernel_rfl
noncomputable def math_bits_Len64_e (n : Nat) : Ent := ⟨180, math_bits_Len64_i, math_bits_Len64_o, fun x => math_bits_Len64 n x⟩
theorem math_bits_Len64_ok (n : Nat) : EntOK Tryz.prog (math_bits_Len64_e n) ∧ Own Tryz.prog 180 := ent_ok tabOK0 .nil Tryz.func180 rfl (by kernel_rfl) (math_bits_Len64_ev n)
def math_bits_Len_i : CSh := ⟨[(.data true (.int .u64))], []⟩
def math_bits_Len_o : RSh := ⟨(.data true tI), []⟩
theorem math_bits_Len_ev (n : Nat) (x : TupT math_bits_Len_i.tys) : evF ⟨tab, [math_bits_Len64_e n], n, []⟩ Tryz.f149 math_bits_Len_i math_bits_Len_o x = math_bits_Len n x := by kernel_rfl
noncomputable def math_bits_Len_e (n : Nat) : Ent := ⟨149, math_bits_Len_i, math_bits_Len_o, fun x => math_bits_Len n x⟩
theorem math_bits_Len_ok (n : Nat) : EntOK Tryz.prog (math_bits_Len_e n) ∧ Own Tryz.prog 149 := ent_ok tabOK0 (.cons (math_bits_Len64_ok n) .nil) Tryz.func149 rfl (by kernel_rfl) (math_bits_Len_ev n)
def i_compareCards_i : CSh := ⟨[(.data true (.arr 4 tI)), (.data true (.arr 4 tI))], []⟩
def i_compareCards_o : RSh := ⟨(.data true tI), []⟩
theorem i_compareCards_ev (n : Nat) (x : TupT i_compareCards_i.tys) : evF ⟨tab, [i_number_e n], n, []⟩ Tryz.f116 i_compareCards_i i_compareCards_o x = i_compareCards n x.1 x.2 := by kernel_rfl
noncomputable def i_compareCards_e (n : Nat) : Ent := ⟨116, i_compareCards_i, i_compareCards_o, fun x => i_compareCards n x.1 x.2⟩
theorem i_compareCards_ok (n : Nat) : EntOK Tryz.prog (i_compareCards_e n) ∧ Own Tryz.prog 116 := ent_ok tabOK0 (.cons (i_number_ok n) .nil) Tryz.func116 rfl (by kernel_rfl) (i_compareCards_ev n)
def slices_insertionSortCmpFunc_A4_'o_i_compareCards_i : CSh := ⟨[(.own 0), (.data true tI), (.data true tI), (.clo 116 .tnil)], [.rows 30 true (.arr 4 tI)]⟩
def slices_insertionSortCmpFunc_A4_'o_i_compareCards_o : RSh := ⟨.tnil, [.rows 30 true (.arr 4 tI)]⟩
theorem slices_insertionSortCmpFunc_A4_'o_i_compareCards_ev (n : Nat) (x : TupT slices_insertionSortCmpFunc_A4_'o_i_compareCards_i.tys) : evF ⟨tab, [i_compareCards_e n], n, [(3, ⟨[(0, (.own 0)), (1, (.data true tI)), (2, (.data true tI)), (3, (.clo 116 .tnil)), (8, (.data true tI))], [.rows 30 true (.arr 4 tI)], 1⟩), (15, ⟨[(0, (.own 0)), (1, (.data true tI)), (2, (.data true tI)), (3, (.clo 116 .tnil)), (8, (.data true tI)), (9, (.data true tI))], [.rows 30 true (.arr 4 tI)], 1⟩)]⟩ Tryz.f171 slices_insertionSortCmpFunc_A4_'o_i_compareCards_i slices_insertionSortCmpFunc_A4_'o_i_compareCards_o x = slices_insertionSortCmpFunc_A4_'o_i_compareCards n x.1 x.2.1 x.2.2 := by kernel_rfl
noncomputable def slices_insertionSortCmpFunc_A4_'o_i_compareCards_e (n : Nat) : Ent := ⟨171, slices_insertionSortCmpFunc_A4_'o_i_compareCards_i, slices_insertionSortCmpFunc_A4_'o_i_compareCards_o, fun x => slices_insertionSortCmpFunc_A4_'o_i_compareCards n x.1 x.2.1 x.2.2⟩
theorem slices_insertionSortCmpFunc_A4_'o_i_compareCards_ok (n : Nat) : EntOK Tryz.prog (slices_insertionSortCmpFunc_A4_'o_i_compareCards_e n) ∧ Own Tryz.prog 171 := ent_ok tabOK0 (.cons (i_compareCards_ok n) .nil) Tryz.func171 rfl (by kernel_rfl) (slices_insertionSortCmpFunc_A4_'o_i_compareCards_ev n)
def slices_siftDownCmpFunc_A4_'o_i_compareCards_i : CSh := ⟨[(.own 0), (.data true tI), (.data true tI), (.data true tI), (.clo 116 .tnil)], [.rows 30 true (.arr 4 tI)]⟩
def slices_siftDownCmpFunc_A4_'o_i_compareCards_o : RSh := ⟨.tnil, [.rows 30 true (.arr 4 tI)]⟩
theorem slices_siftDownCmpFunc_A4_'o_i_compareCards_ev (n : Nat) (x : TupT slices_siftDownCmpFunc_A4_'o_i_compareCards_i.tys) : evF ⟨tab, [i_compareCards_e n], n, [(3, ⟨[(0, (.own 0)), (2, (.data true tI)), (3, (.data true tI)), (4, (.clo 116 .tnil)), (10, (.data true tI))], [.rows 30 true (.arr 4 tI)], 1⟩), (13, ⟨[(0, (.own 0)), (2, (.data true tI)), (3, (.data true tI)), (4, (.clo 116 .tnil)), (10, (.data true tI)), (11, (.data true tI))], [.rows 30 true (.arr 4 tI)], 1⟩)]⟩ Tryz.f190 slices_siftDownCmpFunc_A4_'o_i_compareCards_i slices_siftDownCmpFunc_A4_'o_i_compareCards_o x = slices_siftDownCmpFunc_A4_'o_i_compareCards n x.1 x.2.1 x.2.2.1 x.2.2.2 := by kernel_rfl
noncomputable def slices_siftDownCmpFunc_A4_'o_i_compareCards_e (n : Nat) : Ent := ⟨190, slices_siftDownCmpFunc_A4_'o_i_compareCards_i, slices_siftDownCmpFunc_A4_'o_i_compareCards_o, fun x => slices_siftDownCmpFunc_A4_'o_i_compareCards n x.1 x.2.1 x.2.2.1 x.2.2.2⟩
theorem slices_siftDownCmpFunc_A4_'o_i_compareCards_ok (n : Nat) : EntOK Tryz.prog (slices_siftDownCmpFunc_A4_'o_i_compareCards_e n) ∧ Own Tryz.prog 190 := ent_ok tabOK0 (.cons (i_compareCards_ok n) .nil) Tryz.func190 rfl (by kernel_rfl) (slices_siftDownCmpFunc_A4_'o_i_compareCards_ev n)
def slices_heapSortCmpFunc_A4_'o_i_compareCards_i : CSh := ⟨[(.own 0), (.data true tI), (.data true tI), (.clo 116 .tnil)], [.rows 30 true (.arr 4 tI)]⟩
def slices_heapSortCmpFunc_A4_'o_i_compareCards_o : RSh := ⟨.tnil, [.rows 30 true (.arr 4 tI)]⟩
theorem slices_heapSortCmpFunc_A4_'o_i_compareCards_ev (n : Nat) (x : TupT slices_heapSortCmpFunc_A4_'o_i_compareCards_i.tys) : evF ⟨tab, [slices_siftDownCmpFunc_A4_'o_i_compareCards_e n], n, [(10, ⟨[(0, (.own 0)), (3, (.clo 116 .tnil)), (8, (.data true tI)), (9, (.data true tI)), (10, (.data true tI)), (11, (.data true tI))], [.rows 30 true (.arr 4 tI)], 1⟩), (24, ⟨[(0, (.own 0)), (3, (.clo 116 .tnil)), (8, (.data true tI)), (9, (.data true tI)), (12, (.data true tI))], [.rows 30 true (.arr 4 tI)], 1⟩)]⟩ Tryz.f172 slices_heapSortCmpFunc_A4_'o_i_compareCards_i slices_heapSortCmpFunc_A4_'o_i_compareCards_o x = slices_heapSortCmpFunc_A4_'o_i_compareCards n x.1 x.2.1 x.2.2 := by kernel_rfl
noncomputable def slices_heapSortCmpFunc_A4_'o_i_compareCards_e (n : Nat) : Ent := ⟨172, slices_heapSortCmpFunc_A4_'o_i_compareCards_i, slices_heapSortCmpFunc_A4_'o_i_compareCards_o, fun x => slices_heapSortCmpFunc_A4_'o_i_compareCards n x.1 x.2.1 x.2.2⟩
theorem slices_heapSortCmpFunc_A4_'o_i_compareCards_ok (n : Nat) : EntOK Tryz.prog (slices_heapSortCmpFunc_A4_'o_i_compareCards_e n) ∧ Own Tryz.prog 172 := ent_ok tabOK0 (.cons (slices_siftDownCmpFunc_A4_'o_i_compareCards_ok n) .nil) Tryz.func172 rfl (by kernel_rfl) (slices_heapSortCmpFunc_A4_'o_i_compareCards_ev n)
def slices_order2CmpFunc_A4_'lp_i_compareCards_i : CSh := ⟨[(.data false (.sl (.arr 4 tI))), (.data true tI), (.data true tI), (.ptr 0 []), (.clo 116 .tnil)], [.var 3 (.data true tI)]⟩
def slices_order2CmpFunc_A4_'lp_i_compareCards_o : RSh := ⟨(.tcons (.data true tI) (.tcons (.data true tI) .tnil)), [.var 3 (.data true tI)]⟩
theorem slices_order2CmpFunc_A4_'lp_i_compareCards_ev (n : Nat) (x : TupT slices_order2CmpFunc_A4_'lp_i_compareCards_i.tys) : evF ⟨tab, [i_compareCards_e n], n, []⟩ Tryz.f199 slices_order2CmpFunc_A4_'lp_i_compareCards_i slices_order2CmpFunc_A4_'lp_i_compareCards_o x = slices_order2CmpFunc_A4_'lp_i_compareCards n x.1 x.2.1 x.2.2.1 x.2.2.2 := by kernel_rfl
noncomputable def slices_order2CmpFunc_A4_'lp_i_compareCards_e (n : Nat) : Ent := ⟨199, slices_order2CmpFunc_A4_'lp_i_compareCards_i, slices_order2CmpFunc_A4_'lp_i_compareCards_o, fun x => slices_order2CmpFunc_A4_'lp_i_compareCards n x.1 x.2.1 x.2.2.1 x.2.2.2⟩
theorem slices_order2CmpFunc_A4_'lp_i_compareCards_ok (n : Nat) : EntOK Tryz.prog (slices_order2CmpFunc_A4_'lp_i_compareCards_e n) ∧ Own Tryz.prog 199 := ent_ok tabOK0 (.cons (i_compareCards_ok n) .nil) Tryz.func199 rfl (by kernel_rfl) (slices_order2CmpFunc_A4_'lp_i_compareCards_ev n)
def slices_medianCmpFunc_A4_'lp_i_compareCards_i : CSh := ⟨[(.data false (.sl (.arr 4 tI))), (.data true tI), (.data true tI), (.data true tI), (.ptr 0 []), (.clo 116 .tnil)], [.var 3 (.data true tI)]⟩
def slices_medianCmpFunc_A4_'lp_i_compareCards_o : RSh := ⟨(.data true tI), [.var 3 (.data true tI)]⟩
theorem slices_medianCmpFunc_A4_'lp_i_compareCards_ev (n : Nat) (x : TupT slices_medianCmpFunc_A4_'lp_i_compareCards_i.tys) : evF ⟨tab, [slices_order2CmpFunc_A4_'lp_i_compareCards_e n], n, []⟩ Tryz.f194 slices_medianCmpFunc_A4_'lp_i_compareCards_i slices_medianCmpFunc_A4_'lp_i_compareCards_o x = slices_medianCmpFunc_A4_'lp_i_compareCards n x.1 x.2.1 x.2.2.1 x.2.2.2.1 x.2.2.2.2 := by kernel_rfl
noncomputable def slices_medianCmpFunc_A4_'lp_i_compareCards_e (n : Nat) : Ent := ⟨194, slices_medianCmpFunc_A4_'lp_i_compareCards_i, slices_medianCmpFunc_A4_'lp_i_compareCards_o, fun x => slices_medianCmpFunc_A4_'lp_i_compareCards n x.1 x.2.1 x.2.2.1 x.2.2.2.1 x.2.2.2.2⟩
theorem slices_medianCmpFunc_A4_'lp_i_compareCards_ok (n : Nat) : EntOK Tryz.prog (slices_medianCmpFunc_A4_'lp_i_compareCards_e n) ∧ Own Tryz.prog 194 := ent_ok tabOK0 (.cons (slices_order2CmpFunc_A4_'lp_i_compareCards_ok n) .nil) Tryz.func194 rfl (by kernel_rfl) (slices_medianCmpFunc_A4_'lp_i_compareCards_ev n)
def slices_medianAdjacentCmpFunc_A4_'lp_i_compareCards_i : CSh := ⟨[(.data false (.sl (.arr 4 tI))), (.data true tI), (.ptr 0 []), (.clo 116 .tnil)], [.var 3 (.data true tI)]⟩
def slices_medianAdjacentCmpFunc_A4_'lp_i_compareCards_o : RSh := ⟨(.data true tI), [.var 3 (.data true tI)]⟩
theorem slices_medianAdjacentCmpFunc_A4_'lp_i_compareCards_ev (n : Nat) (x : TupT slices_medianAdjacentCmpFunc_A4_'lp_i_compareCards_i.tys) : evF ⟨tab, [slices_medianCmpFunc_A4_'lp_i_compareCards_e n], n, []⟩ Tryz.f193 slices_medianAdjacentCmpFunc_A4_'lp_i_compareCards_i slices_medianAdjacentCmpFunc_A4_'lp_i_compareCards_o x = slices_medianAdjacentCmpFunc_A4_'lp_i_compareCards n x.1 x.2.1 x.2.2 := by kernel_rfl
noncomputable def slices_medianAdjacentCmpFunc_A4_'lp_i_compareCards_e (n : Nat) : Ent := ⟨193, slices_medianAdjacentCmpFunc_A4_'lp_i_compareCards_i, slices_medianAdjacentCmpFunc_A4_'lp_i_compareCards_o, fun x => slices_medianAdjacentCmpFunc_A4_'lp_i_compareCards n x.1 x.2.1 x.2.2⟩
theorem slices_medianAdjacentCmpFunc_A4_'lp_i_compareCards_ok (n : Nat) : EntOK Tryz.prog (slices_medianAdjacentCmpFunc_A4_'lp_i_compareCards_e n) ∧ Own Tryz.prog 193 := ent_ok tabOK0 (.cons (slices_medianCmpFunc_A4_'lp_i_compareCards_ok n) .nil) Tryz.func193 rfl (by kernel_rfl) (slices_medianAdjacentCmpFunc_A4_'lp_i_compareCards_ev n)
def slices_choosePivotCmpFunc_A4_'l_i_compareCards_i : CSh := ⟨[(.data false (.sl (.arr 4 tI))), (.data true tI), (.data true tI), (.clo 116 .tnil)], []⟩
def slices_choosePivotCmpFunc_A4_'l_i_compareCards_o : RSh := ⟨(.tcons (.data true tI) (.tcons (.data true tI) .tnil)), []⟩
theorem slices_choosePivotCmpFunc_A4_'l_i_compareCards_ev (n : Nat) (x : TupT slices_choosePivotCmpFunc_A4_'l_i_compareCards_i.tys) : evF ⟨tab, [slices_medianCmpFunc_A4_'lp_i_compareCards_e n, slices_medianAdjacentCmpFunc_A4_'lp_i_compareCards_e n], n, [(12, ⟨[(11, (.ptr 0 [])), (13, (.data true tI))], [.var 3 (.data true tI)], 0⟩), (16, ⟨[(0, (.data false (.sl (.arr 4 tI)))), (3, (.clo 116 .tnil)), (11, (.ptr 0 [])), (12, (.data true tI)), (13, (.data true tI)), (14, (.data true tI))], [.var 3 (.data true tI)], 0⟩)]⟩ Tryz.f174 slices_choosePivotCmpFunc_A4_'l_i_compareCards_i slices_choosePivotCmpFunc_A4_'l_i_compareCards_o x = slices_choosePivotCmpFunc_A4_'l_i_compareCards n x.1 x.2.1 x.2.2 := by kernel_rfl
noncomputable def slices_choosePivotCmpFunc_A4_'l_i_compareCards_e (n : Nat) : Ent := ⟨174, slices_choosePivotCmpFunc_A4_'l_i_compareCards_i, slices_choosePivotCmpFunc_A4_'l_i_compareCards_o, fun x => slices_choosePivotCmpFunc_A4_'l_i_compareCards n x.1 x.2.1 x.2.2⟩
theorem slices_choosePivotCmpFunc_A4_'l_i_compareCards_ok (n : Nat) : EntOK Tryz.prog (slices_choosePivotCmpFunc_A4_'l_i_compareCards_e n) ∧ Own Tryz.prog 174 := ent_ok tabOK0 (.cons (slices_medianCmpFunc_A4_'lp_i_compareCards_ok n) (.cons (slices_medianAdjacentCmpFunc_A4_'lp_i_compareCards_ok n) .nil)) Tryz.func174 rfl (by kernel_rfl) (slices_choosePivotCmpFunc_A4_'l_i_compareCards_ev n)
def slices_partitionEqualCmpFunc_A4_'o_i_compareCards_i : CSh := ⟨[(.own 0), (.data true tI), (.data true tI), (.data true tI), (.clo 116 .tnil)], [.rows 30 true (.arr 4 tI)]⟩
def slices_partitionEqualCmpFunc_A4_'o_i_compareCards_o : RSh := ⟨(.data true tI), [.rows 30 true (.arr 4 tI)]⟩
theorem slices_partitionEqualCmpFunc_A4_'o_i_compareCards_ev (n : Nat) (x : TupT slices_partitionEqualCmpFunc_A4_'o_i_compareCards_i.tys) : evF ⟨tab, [i_compareCards_e n], n, [(8, ⟨[(0, (.own 0)), (1, (.data true tI)), (4, (.clo 116 .tnil)), (11, (.data true tI)), (12, (.data true tI))], [.rows 30 true (.arr 4 tI)], 1⟩), (12, ⟨[(0, (.own 0)), (1, (.data true tI)), (4, (.clo 116 .tnil)), (11, (.data true tI)), (12, (.data true tI))], [.rows 30 true (.arr 4 tI)], 1⟩), (23, ⟨[(0, (.own 0)), (1, (.data true tI)), (4, (.clo 116 .tnil)), (11, (.data true tI)), (12, (.data true tI))], [.rows 30 true (.arr 4 tI)], 1⟩)]⟩ Tryz.f177 slices_partitionEqualCmpFunc_A4_'o_i_compareCards_i slices_partitionEqualCmpFunc_A4_'o_i_compareCards_o x = slices_partitionEqualCmpFunc_A4_'o_i_compareCards n x.1 x.2.1 x.2.2.1 x.2.2.2 := by kernel_rfl
noncomputable def slices_partitionEqualCmpFunc_A4_'o_i_compareCards_e (n : Nat) : Ent := ⟨177, slices_partitionEqualCmpFunc_A4_'o_i_compareCards_i, slices_partitionEqualCmpFunc_A4_'o_i_compareCards_o, fun x => slices_partitionEqualCmpFunc_A4_'o_i_compareCards n x.1 x.2.1 x.2.2.1 x.2.2.2⟩
theorem slices_partitionEqualCmpFunc_A4_'o_i_compareCards_ok (n : Nat) : EntOK Tryz.prog (slices_partitionEqualCmpFunc_A4_'o_i_compareCards_e n) ∧ Own Tryz.prog 177 := ent_ok tabOK0 (.cons (i_compareCards_ok n) .nil) Tryz.func177 rfl (by kernel_rfl) (slices_partitionEqualCmpFunc_A4_'o_i_compareCards_ev n)
def slices_partitionCmpFunc_A4_'o_i_compareCards_i : CSh := ⟨[(.own 0), (.data true tI), (.data true tI), (.data true tI), (.clo 116 .tnil)], [.rows 30 true (.arr 4 tI)]⟩
def slices_partitionCmpFunc_A4_'o_i_compareCards_o : RSh := ⟨(.tcons (.data true tI) (.tcons (.data true .bool) .tnil)), [.rows 30 true (.arr 4 tI)]⟩
theorem slices_partitionCmpFunc_A4_'o_i_compareCards_ev (n : Nat) (x : TupT slices_partitionCmpFunc_A4_'o_i_compareCards_i.tys) : evF ⟨tab, [i_compareCards_e n], n, [(8, ⟨[(0, (.own 0)), (1, (.data true tI)), (4, (.clo 116 .tnil)), (12, (.data true tI)), (13, (.data true tI))], [.rows 30 true (.arr 4 tI)], 1⟩), (19, ⟨[(0, (.own 0)), (1, (.data true tI)), (4, (.clo 116 .tnil)), (12, (.data true tI)), (13, (.data true tI))], [.rows 30 true (.arr 4 tI)], 1⟩), (46, ⟨[(0, (.own 0)), (1, (.data true tI)), (4, (.clo 116 .tnil)), (12, (.data true tI)), (13, (.data true tI))], [.rows 30 true (.arr 4 tI)], 1⟩), (50, ⟨[(0, (.own 0)), (1, (.data true tI)), (4, (.clo 116 .tnil)), (12, (.data true tI)), (13, (.data true tI))], [.rows 30 true (.arr 4 tI)], 1⟩), (61, ⟨[(0, (.own 0)), (1, (.data true tI)), (4, (.clo 116 .tnil)), (12, (.data true tI)), (13, (.data true tI))], [.rows 30 true (.arr 4 tI)], 1⟩)]⟩ Tryz.f178 slices_partitionCmpFunc_A4_'o_i_compareCards_i slices_partitionCmpFunc_A4_'o_i_compareCards_o x = slices_partitionCmpFunc_A4_'o_i_compareCards n x.1 x.2.1 x.2.2.1 x.2.2.2 := by kernel_rfl
noncomputable def slices_partitionCmpFunc_A4_'o_i_compareCards_e (n : Nat) : Ent := ⟨178, slices_partitionCmpFunc_A4_'o_i_compareCards_i, slices_partitionCmpFunc_A4_'o_i_compareCards_o, fun x => slices_partitionCmpFunc_A4_'o_i_compareCards n x.1 x.2.1 x.2.2.1 x.2.2.2⟩
theorem slices_partitionCmpFunc_A4_'o_i_compareCards_ok (n : Nat) : EntOK Tryz.prog (slices_partitionCmpFunc_A4_'o_i_compareCards_e n) ∧ Own Tryz.prog 178 := ent_ok tabOK0 (.cons (i_compareCards_ok n) .nil) Tryz.func178 rfl (by kernel_rfl) (slices_partitionCmpFunc_A4_'o_i_compareCards_ev n)
def slices_partialInsertionSortCmpFunc_A4_'o_i_compareCards_i : CSh := ⟨[(.own 0), (.data true tI), (.data true tI), (.clo 116 .tnil)], [.rows 30 true (.arr 4 tI)]⟩
def slices_partialInsertionSortCmpFunc_A4_'o_i_compareCards_o : RSh := ⟨(.data true .bool), [.rows 30 true (.arr 4 tI)]⟩
theorem slices_partialInsertionSortCmpFunc_A4_'o_i_compareCards_ev (n : Nat) (x : TupT slices_partialInsertionSortCmpFunc_A4_'o_i_compareCards_i.tys) : evF ⟨tab, [i_compareCards_e n], n, [(8, ⟨[(0, (.own 0)), (1, (.data true tI)), (2, (.data true tI)), (3, (.clo 116 .tnil)), (9, (.data true tI)), (10, (.data true tI))], [.rows 30 true (.arr 4 tI)], 1⟩), (19, ⟨[(0, (.own 0)), (1, (.data true tI)), (2, (.data true tI)), (3, (.clo 116 .tnil)), (9, (.data true tI)), (10, (.data true tI))], [.rows 30 true (.arr 4 tI)], 1⟩), (46, ⟨[(0, (.own 0)), (1, (.data true tI)), (2, (.data true tI)), (3, (.clo 116 .tnil)), (9, (.data true tI)), (10, (.data true tI))], [.rows 30 true (.arr 4 tI)], 1⟩), (53, ⟨[(0, (.own 0)), (1, (.data true tI)), (2, (.data true tI)), (3, (.clo 116 .tnil)), (9, (.data true tI)), (10, (.data true tI)), (11, (.data true tI))], [.rows 30 true (.arr 4 tI)], 1⟩), (77, ⟨[(0, (.own 0)), (1, (.data true tI)), (2, (.data true tI)), (3, (.clo 116 .tnil)), (9, (.data true tI)), (10, (.data true tI)), (12, (.data true tI))], [.rows 30 true (.arr 4 tI)], 1⟩)]⟩ Tryz.f176 slices_partialInsertionSortCmpFunc_A4_'o_i_compareCards_i slices_partialInsertionSortCmpFunc_A4_'o_i_compareCards_o x = slices_partialInsertionSortCmpFunc_A4_'o_i_compareCards n x.1 x.2.1 x.2.2 := by kernel_rfl
noncomputable def slices_partialInsertionSortCmpFunc_A4_'o_i_compareCards_e (n : Nat) : Ent := ⟨176, slices_partialInsertionSortCmpFunc_A4_'o_i_compareCards_i, slices_partialInsertionSortCmpFunc_A4_'o_i_compareCards_o, fun x => slices_partialInsertionSortCmpFunc_A4_'o_i_compareCards n x.1 x.2.1 x.2.2⟩
theorem slices_partialInsertionSortCmpFunc_A4_'o_i_compareCards_ok (n : Nat) : EntOK Tryz.prog (slices_partialInsertionSortCmpFunc_A4_'o_i_compareCards_e n) ∧ Own Tryz.prog 176 := ent_ok tabOK0 (.cons (i_compareCards_ok n) .nil) Tryz.func176 rfl (by kernel_rfl) (slices_partialInsertionSortCmpFunc_A4_'o_i_compareCards_ev n)
def slices_reverseRangeCmpFunc_A4_'o_i_compareCards_i : CSh := ⟨[(.own 0), (.data true tI), (.data true tI), (.clo 116 .tnil)], [.rows 30 true (.arr 4 tI)]⟩
def slices_reverseRangeCmpFunc_A4_'o_i_compareCards_o : RSh := ⟨.tnil, [.rows 30 true (.arr 4 tI)]⟩
theorem slices_reverseRangeCmpFunc_A4_'o_i_compareCards_ev (n : Nat) (x : TupT slices_reverseRangeCmpFunc_A4_'o_i_compareCards_i.tys) : evF ⟨tab, [], n, [(5, ⟨[(0, (.own 0)), (8, (.data true tI)), (9, (.data true tI))], [.rows 30 true (.arr 4 tI)], 1⟩)]⟩ Tryz.f175 slices_reverseRangeCmpFunc_A4_'o_i_compareCards_i slices_reverseRangeCmpFunc_A4_'o_i_compareCards_o x = slices_reverseRangeCmpFunc_A4_'o_i_compareCards n x.1 x.2.1 x.2.2 := by kernel_rfl
noncomputable def slices_reverseRangeCmpFunc_A4_'o_i_compareCards_e (n : Nat) : Ent := ⟨175, slices_reverseRangeCmpFunc_A4_'o_i_compareCards_i, slices_reverseRangeCmpFunc_A4_'o_i_compareCards_o, fun x => slices_reverseRangeCmpFunc_A4_'o_i_compareCards n x.1 x.2.1 x.2.2⟩
theorem slices_reverseRangeCmpFunc_A4_'o_i_compareCards_ok (n : Nat) : EntOK Tryz.prog (slices_reverseRangeCmpFunc_A4_'o_i_compareCards_e n) ∧ Own Tryz.prog 175 := ent_ok tabOK0 .nil Tryz.func175 rfl (by kernel_rfl) (slices_reverseRangeCmpFunc_A4_'o_i_compareCards_ev n)
def slices_nextPowerOfTwo_i : CSh := ⟨[(.data true tI)], []⟩
def slices_nextPowerOfTwo_o : RSh := ⟨(.data true (.int .u64)), []⟩
theorem slices_nextPowerOfTwo_ev (n : Nat) (x : TupT slices_nextPowerOfTwo_i.tys) : evF ⟨tab, [math_bits_Len_e n], n, []⟩ Tryz.f191 slices_nextPowerOfTwo_i slices_nextPowerOfTwo_o x = slices_nextPowerOfTwo n x := by kernel_rfl
noncomputable def slices_nextPowerOfTwo_e (n : Nat) : Ent := ⟨191, slices_nextPowerOfTwo_i, slices_nextPowerOfTwo_o, fun x => slices_nextPowerOfTwo n x⟩
theorem slices_nextPowerOfTwo_ok (n : Nat) : EntOK Tryz.prog (slices_nextPowerOfTwo_e n) ∧ Own Tryz.prog 191 := ent_ok tabOK0 (.cons (math_bits_Len_ok n) .nil) Tryz.func191 rfl (by kernel_rfl) (slices_nextPowerOfTwo_ev n)
def __slices_xorshift__Next'p_i : CSh := ⟨[(.ptr 0 [])], [.var 170 (.data true (.int .u64))]⟩
def __slices_xorshift__Next'p_o : RSh := ⟨(.data true (.int .u64)), [.var 170 (.data true (.int .u64))]⟩
theorem __slices_xorshift__Next'p_ev (n : Nat) (x : TupT __slices_xorshift__Next'p_i.tys) : evF ⟨tab, [], n, []⟩ Tryz.f192 __slices_xorshift__Next'p_i __slices_xorshift__Next'p_o x = __slices_xorshift__Next'p n x := by kernel_rfl
noncomputable def __slices_xorshift__Next'p_e (n : Nat) : Ent := ⟨192, __slices_xorshift__Next'p_i, __slices_xorshift__Next'p_o, fun x => __slices_xorshift__Next'p n x⟩
theorem __slices_xorshift__Next'p_ok (n : Nat) : EntOK Tryz.prog (__slices_xorshift__Next'p_e n) ∧ Own Tryz.prog 192 := ent_ok tabOK0 .nil Tryz.func192 rfl (by kernel_rfl) (__slices_xorshift__Next'p_ev n)
def slices_breakPatternsCmpFunc_A4_'o_i_compareCards_i : CSh := ⟨[(.own 0), (.data true tI), (.data true tI), (.clo 116 .tnil)], [.rows 30 true (.arr 4 tI)]⟩
def slices_breakPatternsCmpFunc_A4_'o_i_compareCards_o : RSh := ⟨.tnil, [.rows 30 true (.arr 4 tI)]⟩
theorem slices_breakPatternsCmpFunc_A4_'o_i_compareCards_ev (n : Nat) (x : TupT slices_breakPatternsCmpFunc_A4_'o_i_compareCards_i.tys) : evF ⟨tab, [slices_nextPowerOfTwo_e n, __slices_xorshift__Next'p_e n], n, [(12, ⟨[(0, (.own 0)), (1, (.data true tI)), (8, (.data true tI)), (9, (.ptr 1 [])), (10, (.data true (.int .u64))), (11, (.data true tI))], [.rows 30 true (.arr 4 tI), .var 170 (.data true (.int .u64))], 1⟩), (23, ⟨[(0, (.own 0)), (1, (.data true tI)), (8, (.data true tI)), (9, (.ptr 1 [])), (10, (.data true (.int .u64))), (11, (.data true tI)), (12, (.data true tI))], [.rows 30 true (.arr 4 tI), .var 170 (.data true (.int .u64))], 1⟩)]⟩ Tryz.f173 slices_breakPatternsCmpFunc_A4_'o_i_compareCards_i slices_breakPatternsCmpFunc_A4_'o_i_compareCards_o x = slices_breakPatternsCmpFunc_A4_'o_i_compareCards n x.1 x.2.1 x.2.2 := by kernel_rfl
noncomputable def slices_breakPatternsCmpFunc_A4_'o_i_compareCards_e (n : Nat) : Ent := ⟨173, slices_breakPatternsCmpFunc_A4_'o_i_compareCards_i, slices_breakPatternsCmpFunc_A4_'o_i_compareCards_o, fun x => slices_breakPatternsCmpFunc_A4_'o_i_compareCards n x.1 x.2.1 x.2.2⟩
theorem slices_breakPatternsCmpFunc_A4_'o_i_compareCards_ok (n : Nat) : EntOK Tryz.prog (slices_breakPatternsCmpFunc_A4_'o_i_compareCards_e n) ∧ Own Tryz.prog 173 := ent_ok tabOK0 (.cons (slices_nextPowerOfTwo_ok n) (.cons (__slices_xorshift__Next'p_ok n) .nil)) Tryz.func173 rfl (by kernel_rfl) (slices_breakPatternsCmpFunc_A4_'o_i_compareCards_ev n)
def slices_pdqsortCmpFunc_A4_'o_i_compareCards_i : CSh := ⟨[(.own 0), (.data true tI), (.data true tI), (.data true tI), (.clo 116 .tnil)], [.rows 30 true (.arr 4 tI)]⟩
def slices_pdqsortCmpFunc_A4_'o_i_compareCards_o : RSh := ⟨.tnil, [.rows 30 true (.arr 4 tI)]⟩
theorem slices_pdqsortCmpFunc_A4_'o_i_compareCards_ev (n : Nat) (go : TupT slices_pdqsortCmpFunc_A4_'o_i_compareCards_i.tys → Option (TupT slices_pdqsortCmpFunc_A4_'o_i_compareCards_o.tys)) (x : TupT slices_pdqsortCmpFunc_A4_'o_i_compareCards_i.tys) : evF ⟨tab, [⟨148, slices_pdqsortCmpFunc_A4_'o_i_compareCards_i, slices_pdqsortCmpFunc_A4_'o_i_compareCards_o, go⟩, slices_insertionSortCmpFunc_A4_'o_i_compareCards_e n, slices_heapSortCmpFunc_A4_'o_i_compareCards_e n, slices_choosePivotCmpFunc_A4_'l_i_compareCards_e n, i_compareCards_e n, slices_partitionEqualCmpFunc_A4_'o_i_compareCards_e n, slices_partitionCmpFunc_A4_'o_i_compareCards_e n, slices_partialInsertionSortCmpFunc_A4_'o_i_compareCards_e n, slices_reverseRangeCmpFunc_A4_'o_i_compareCards_e n, slices_breakPatternsCmpFunc_A4_'o_i_compareCards_e n], n, [(5, ⟨[(0, (.own 0)), (1, (.data true tI)), (2, (.data true tI)), (3, (.data true tI)), (4, (.clo 116 .tnil)), (10, (.data true .bool)), (11, (.data true .bool))], [.rows 30 true (.arr 4 tI)], 1⟩), (25, ⟨[(0, (.own 0)), (1, (.data true tI)), (2, (.data true tI)), (3, (.data true tI)), (4, (.clo 116 .tnil)), (10, (.data true .bool)), (11, (.data true .bool)), (12, (.data true tI))], [.rows 30 true (.arr 4 tI)], 1⟩), (35, ⟨[(0, (.own 0)), (1, (.data true tI)), (2, (.data true tI)), (3, (.data true tI)), (4, (.clo 116 .tnil)), (10, (.data true .bool)), (11, (.data true .bool)), (12, (.data true tI)), (13, (.data true tI)), (14, (.data true tI))], [.rows 30 true (.arr 4 tI)], 1⟩), (45, ⟨[(0, (.own 0)), (1, (.data true tI)), (2, (.data true tI)), (3, (.data true tI)), (4, (.clo 116 .tnil)), (10, (.data true .bool)), (11, (.data true .bool)), (12, (.data true tI)), (13, (.data true tI))], [.rows 30 true (.arr 4 tI)], 1⟩)]⟩ Tryz.f148 slices_pdqsortCmpFunc_A4_'o_i_compareCards_i slices_pdqsortCmpFunc_A4_'o_i_compareCards_o x = slices_pdqsortCmpFunc_A4_'o_i_compareCards_R n go x := by kernel_rfl
noncomputable def slices_pdqsortCmpFunc_A4_'o_i_compareCards_e (n : Nat) : Ent := ⟨148, slices_pdqsortCmpFunc_A4_'o_i_compareCards_i, slices_pdqsortCmpFunc_A4_'o_i_compareCards_o, fun x => slices_pdqsortCmpFunc_A4_'o_i_compareCards n x.1 x.2.1 x.2.2.1 x.2.2.2⟩
theorem slices_pdqsortCmpFunc_A4_'o_i_compareCards_ok (n : Nat) : EntOK Tryz.prog (slices_pdqsortCmpFunc_A4_'o_i_compareCards_e n) ∧ Own Tryz.prog 148 := ent_rec tabOK0 (.cons (slices_insertionSortCmpFunc_A4_'o_i_compareCards_ok n) (.cons (slices_heapSortCmpFunc_A4_'o_i_compareCards_ok n) (.cons (slices_choosePivotCmpFunc_A4_'l_i_compareCards_ok n) (.cons (i_compareCards_ok n) (.cons (slices_partitionEqualCmpFunc_A4_'o_i_compareCards_ok n) (.cons (slices_partitionCmpFunc_A4_'o_i_compareCards_ok n) (.cons (slices_partialInsertionSortCmpFunc_A4_'o_i_compareCards_ok n) (.cons (slices_reverseRangeCmpFunc_A4_'o_i_compareCards_ok n) (.cons (slices_breakPatternsCmpFunc_A4_'o_i_compareCards_ok n) .nil))))))))) Tryz.func148 rfl (by kernel_rfl) (slices_pdqsortCmpFunc_A4_'o_i_compareCards_ev n) n
def slices_SortFunc_SA4_A4_'o_i_compareCards_i : CSh := ⟨[(.own 0), (.clo 116 .tnil)], [.rows 30 true (.arr 4 tI)]⟩
def slices_SortFunc_SA4_A4_'o_i_compareCards_o : RSh := ⟨.tnil, [.rows 30 true (.arr 4 tI)]⟩
theorem slices_SortFunc_SA4_A4_'o_i_compareCards_ev (n : Nat) (x : TupT slices_SortFunc_SA4_A4_'o_i_compareCards_i.tys) : evF ⟨tab, [math_bits_Len_e n, slices_pdqsortCmpFunc_A4_'o_i_compareCards_e n], n, []⟩ Tryz.f115 slices_SortFunc_SA4_A4_'o_i_compareCards_i slices_SortFunc_SA4_A4_'o_i_compareCards_o x = slices_SortFunc_SA4_A4_'o_i_compareCards n x := by kernel_rfl
noncomputable def slices_SortFunc_SA4_A4_'o_i_compareCards_e (n : Nat) : Ent := ⟨115, slices_SortFunc_SA4_A4_'o_i_compareCards_i, slices_SortFunc_SA4_A4_'o_i_compareCards_o, fun x => slices_SortFunc_SA4_A4_'o_i_compareCards n x⟩
theorem slices_SortFunc_SA4_A4_'o_i_compareCards_ok (n : Nat) : EntOK Tryz.prog (slices_SortFunc_SA4_A4_'o_i_compareCards_e n) ∧ Own Tryz.prog 115 := ent_ok tabOK0 (.cons (math_bits_Len_ok n) (.cons (slices_pdqsortCmpFunc_A4_'o_i_compareCards_ok n) .nil)) Tryz.func115 rfl (by kernel_rfl) (slices_SortFunc_SA4_A4_'o_i_compareCards_ev n)
def slices_Compact_SA4_A4_'o_i : CSh := ⟨[(.own 0)], [.rows 30 true (.arr 4 tI)]⟩
def slices_Compact_SA4_A4_'o_o : RSh := ⟨(.own 1), [.gone, .rows 30 true (.arr 4 tI)]⟩
theorem slices_Compact_SA4_A4_'o_ev (n : Nat) (x : TupT slices_Compact_SA4_A4_'o_i.tys) : evF ⟨tab, [], n, [(14, ⟨[(0, (.own 0)), (3, (.data true tI))], [.rows 30 true (.arr 4 tI)], 1⟩), (32, ⟨[(0, (.own 0)), (3, (.data true tI)), (4, (.ownp 0)), (5, (.data true tI))], [.rows 30 true (.arr 4 tI)], 1⟩)]⟩ Tryz.f117 slices_Compact_SA4_A4_'o_i slices_Compact_SA4_A4_'o_o x = slices_Compact_SA4_A4_'o n x := by kernel_rfl
noncomputable def slices_Compact_SA4_A4_'o_e (n : Nat) : Ent := ⟨117, slices_Compact_SA4_A4_'o_i, slices_Compact_SA4_A4_'o_o, fun x => slices_Compact_SA4_A4_'o n x⟩
theorem slices_Compact_SA4_A4_'o_ok (n : Nat) : EntOK Tryz.prog (slices_Compact_SA4_A4_'o_e n) ∧ Own Tryz.prog 117 := ent_ok tabOK0 .nil Tryz.func117 rfl (by kernel_rfl) (slices_Compact_SA4_A4_'o_ev n)
def i_sorted_i : CSh := ⟨[(.data false (.sl (.arr 4 tI)))], []⟩
def i_sorted_o : RSh := ⟨(.own 0), [.rows 30 true (.arr 4 tI)]⟩
theorem i_sorted_ev (n : Nat) (x : TupT i_sorted_i.tys) : evF ⟨tab, [slices_Clone_SA4_A4__e n, slices_SortFunc_SA4_A4_'o_i_compareCards_e n, slices_Compact_SA4_A4_'o_e n], n, []⟩ Tryz.f62 i_sorted_i i_sorted_o x = i_sorted n x := by kernel_rfl
noncomputable def i_sorted_e (n : Nat) : Ent := ⟨62, i_sorted_i, i_sorted_o, fun x => i_sorted n x⟩
theorem i_sorted_ok (n : Nat) : EntOK Tryz.prog (i_sorted_e n) ∧ Own Tryz.prog 62 := ent_ok tabOK0 (.cons (slices_Clone_SA4_A4__ok n) (.cons (slices_SortFunc_SA4_A4_'o_i_compareCards_ok n) (.cons (slices_Compact_SA4_A4_'o_ok n) .nil))) Tryz.func62 rfl (by kernel_rfl) (i_sorted_ev n)
def i_ShadowHand_i : CSh := ⟨[(.data false (.sl (.arr 4 tI))), (.data true tI)], []⟩
def i_ShadowHand_o : RSh := ⟨(.tcons (.own 0) (.tcons (.data true .bool) .tnil)), [.rows 30 true (.arr 4 tI)]⟩
theorem i_ShadowHand_ev (n : Nat) (x : TupT i_ShadowHand_i.tys) : evF ⟨tab, [i_IsHand_e n, i_IsMask_e n, i_shadows_e n, i_sorted_e n], n, []⟩ Tryz.f9 i_ShadowHand_i i_ShadowHand_o x = i_ShadowHand n x.1 x.2 := by kernel_rfl
noncomputable def i_ShadowHand_e (n : Nat) : Ent := ⟨9, i_ShadowHand_i, i_ShadowHand_o, fun x => i_ShadowHand n x.1 x.2⟩
theorem i_ShadowHand_ok (n : Nat) : EntOK Tryz.prog (i_ShadowHand_e n) ∧ Own Tryz.prog 9 := ent_ok tabOK0 (.cons (i_IsHand_ok n) (.cons (i_IsMask_ok n) (.cons (i_shadows_ok n) (.cons (i_sorted_ok n) .nil)))) Tryz.func9 rfl (by kernel_rfl) (i_ShadowHand_ev n)
def s_l1In_i : CSh := ⟨[(.data true tI), (.data true tI), (.data true tI)], []⟩
def s_l1In_o : RSh := ⟨(.data true .bool), []⟩
theorem s_l1In_ev (n : Nat) (x : TupT s_l1In_i.tys) : evF ⟨tab, [], n, []⟩ Tryz.f119 s_l1In_i s_l1In_o x = s_l1In n x.1 x.2.1 x.2.2 := by kernel_rfl
noncomputable def s_l1In_e (n : Nat) : Ent := ⟨119, s_l1In_i, s_l1In_o, fun x => s_l1In n x.1 x.2.1 x.2.2⟩
theorem s_l1In_ok (n : Nat) : EntOK Tryz.prog (s_l1In_e n) ∧ Own Tryz.prog 119 := ent_ok tabOK0 .nil Tryz.func119 rfl (by kernel_rfl) (s_l1In_ev n)
def s_l2Card_i : CSh := ⟨[(.data true (.arr 4 tI))], []⟩
def s_l2Card_o : RSh := ⟨(.data true .bool), []⟩
theorem s_l2Card_ev (n : Nat) (x : TupT s_l2Card_i.tys) : evF ⟨tab, [s_l1In_e n], n, [(6, ⟨[(1, (.ptr 0 [])), (3, (.data true tI))], [.var 30 (.data true (.arr 4 tI))], 0⟩)]⟩ Tryz.f70 s_l2Card_i s_l2Card_o x = s_l2Card n x := by kernel_rfl
noncomputable def s_l2Card_e (n : Nat) : Ent := ⟨70, s_l2Card_i, s_l2Card_o, fun x => s_l2Card n x⟩
theorem s_l2Card_ok (n : Nat) : EntOK Tryz.prog (s_l2Card_e n) ∧ Own Tryz.prog 70 := ent_ok tabOK0 (.cons (s_l1In_ok n) .nil) Tryz.func70 rfl (by kernel_rfl) (s_l2Card_ev n)
def s_l2Hand_i : CSh := ⟨[(.data false (.sl (.arr 4 tI)))], []⟩
def s_l2Hand_o : RSh := ⟨(.data true .bool), []⟩
theorem s_l2Hand_ev (n : Nat) (x : TupT s_l2Hand_i.tys) : evF ⟨tab, [s_l2Card_e n, s_l2Less_e n], n, [(6, ⟨[(0, (.data false (.sl (.arr 4 tI)))), (3, (.data true tI))], [], 0⟩)]⟩ Tryz.f64 s_l2Hand_i s_l2Hand_o x = s_l2Hand n x := by kernel_rfl
noncomputable def s_l2Hand_e (n : Nat) : Ent := ⟨64, s_l2Hand_i, s_l2Hand_o, fun x => s_l2Hand n x⟩
theorem s_l2Hand_ok (n : Nat) : EntOK Tryz.prog (s_l2Hand_e n) ∧ Own Tryz.prog 64 := ent_ok tabOK0 (.cons (s_l2Card_ok n) (.cons (s_l2Less_ok n) .nil)) Tryz.func64 rfl (by kernel_rfl) (s_l2Hand_ev n)
def s_l11Mask_i : CSh := ⟨[(.data true tI)], []⟩
def s_l11Mask_o : RSh := ⟨(.data true .bool), []⟩
theorem s_l11Mask_ev (n : Nat) (x : TupT s_l11Mask_i.tys) : evF ⟨tab, [s_l1In_e n], n, []⟩ Tryz.f65 s_l11Mask_i s_l11Mask_o x = s_l11Mask n x := by kernel_rfl
noncomputable def s_l11Mask_e (n : Nat) : Ent := ⟨65, s_l11Mask_i, s_l11Mask_o, fun x => s_l11Mask n x⟩
theorem s_l11Mask_ok (n : Nat) : EntOK Tryz.prog (s_l11Mask_e n) ∧ Own Tryz.prog 65 := ent_ok tabOK0 (.cons (s_l1In_ok n) .nil) Tryz.func65 rfl (by kernel_rfl) (s_l11Mask_ev n)
def s_l11Shadow_i : CSh := ⟨[(.data true (.arr 4 tI)), (.data true tI)], []⟩
def s_l11Shadow_o : RSh := ⟨(.data true (.arr 4 tI)), []⟩
theorem s_l11Shadow_ev (n : Nat) (x : TupT s_l11Shadow_i.tys) : evF ⟨tab, [], n, [(6, ⟨[(1, (.data true tI)), (2, (.ptr 0 [])), (4, (.ptr 1 [])), (5, (.data true tI))], [.var 30 (.data true (.arr 4 tI)), .var 30 (.data true (.arr 4 tI))], 0⟩)]⟩ Tryz.f71 s_l11Shadow_i s_l11Shadow_o x = s_l11Shadow n x.1 x.2 := by kernel_rfl
noncomputable def s_l11Shadow_e (n : Nat) : Ent := ⟨71, s_l11Shadow_i, s_l11Shadow_o, fun x => s_l11Shadow n x.1 x.2⟩
theorem s_l11Shadow_ok (n : Nat) : EntOK Tryz.prog (s_l11Shadow_e n) ∧ Own Tryz.prog 71 := ent_ok tabOK0 .nil Tryz.func71 rfl (by kernel_rfl) (s_l11Shadow_ev n)
def s_l11All_i : CSh := ⟨[(.data false (.sl (.arr 4 tI))), (.data true tI)], []⟩
def s_l11All_o : RSh := ⟨(.own 0), [.rows 30 true (.arr 4 tI)]⟩
theorem s_l11All_ev (n : Nat) (x : TupT s_l11All_i.tys) : evF ⟨tab, [s_l11Shadow_e n], n, [(8, ⟨[(0, (.data false (.sl (.arr 4 tI)))), (1, (.data true tI)), (5, (.own 0)), (6, (.data true tI))], [.rows 30 true (.arr 4 tI)], 0⟩)]⟩ Tryz.f67 s_l11All_i s_l11All_o x = s_l11All n x.1 x.2 := by kernel_rfl
noncomputable def s_l11All_e (n : Nat) : Ent := ⟨67, s_l11All_i, s_l11All_o, fun x => s_l11All n x.1 x.2⟩
theorem s_l11All_ok (n : Nat) : EntOK Tryz.prog (s_l11All_e n) ∧ Own Tryz.prog 67 := ent_ok tabOK0 (.cons (s_l11Shadow_ok n) .nil) Tryz.func67 rfl (by kernel_rfl) (s_l11All_ev n)
def s_ShadowHand_i : CSh := ⟨[(.data false (.sl (.arr 4 tI))), (.data true tI)], []⟩
def s_ShadowHand_o : RSh := ⟨(.tcons (.own 0) (.tcons (.data true .bool) .tnil)), [.rows 30 true (.arr 4 tI)]⟩
theorem s_ShadowHand_ev (n : Nat) (x : TupT s_ShadowHand_i.tys) : evF ⟨tab, [s_l2Hand_e n, s_l11Mask_e n, s_l11All_e n, s_l2Sorted_e n], n, []⟩ Tryz.f10 s_ShadowHand_i s_ShadowHand_o x = s_ShadowHand n x.1 x.2 := by kernel_rfl
noncomputable def s_ShadowHand_e (n : Nat) : Ent := ⟨10, s_ShadowHand_i, s_ShadowHand_o, fun x => s_ShadowHand n x.1 x.2⟩
theorem s_ShadowHand_ok (n : Nat) : EntOK Tryz.prog (s_ShadowHand_e n) ∧ Own Tryz.prog 10 := ent_ok tabOK0 (.cons (s_l2Hand_ok n) (.cons (s_l11Mask_ok n) (.cons (s_l11All_ok n) (.cons (s_l2Sorted_ok n) .nil)))) Tryz.func10 rfl (by kernel_rfl) (s_ShadowHand_ev n)
def v_rHand_i : CSh := ⟨[(.data false (.sl (.arr 4 tI))), (.data false (.sl (.arr 4 tI)))], []⟩
def v_rHand_o : RSh := ⟨(.data true .bool), []⟩
theorem v_rHand_ev (n : Nat) (x : TupT v_rHand_i.tys) : evF ⟨tab, [], n, [(14, ⟨[(0, (.data false (.sl (.arr 4 tI)))), (1, (.data false (.sl (.arr 4 tI)))), (5, (.data true tI))], [], 0⟩)]⟩ Tryz.f11 v_rHand_i v_rHand_o x = v_rHand n x.1 x.2 := by kernel_rfl
noncomputable def v_rHand_e (n : Nat) : Ent := ⟨11, v_rHand_i, v_rHand_o, fun x => v_rHand n x.1 x.2⟩
theorem v_rHand_ok (n : Nat) : EntOK Tryz.prog (v_rHand_e n) ∧ Own Tryz.prog 11 := ent_ok tabOK0 .nil Tryz.func11 rfl (by kernel_rfl) (v_rHand_ev n)
def s_Cur_card'p_i : CSh := ⟨[(.ptr 0 [])], [.var 90 (.data true (.pair (.sl (.int .u8)) (.pair tI (.int .u64))))]⟩
def s_Cur_card'p_o : RSh := ⟨(.data true (.arr 4 tI)), [.var 90 (.data true (.pair (.sl (.int .u8)) (.pair tI (.int .u64))))]⟩
theorem s_Cur_card'p_ev (n : Nat) (x : TupT s_Cur_card'p_i.tys) : evF ⟨tab, [s_Cur_pick'p_e n, s_l2At_e n, s_Cur_one'p_e n, s_Cur_among'pl_e n], n, []⟩ Tryz.f68 s_Cur_card'p_i s_Cur_card'p_o x = s_Cur_card'p n x := by kernel_rfl
noncomputable def s_Cur_card'p_e (n : Nat) : Ent := ⟨68, s_Cur_card'p_i, s_Cur_card'p_o, fun x => s_Cur_card'p n x⟩
theorem s_Cur_card'p_ok (n : Nat) : EntOK Tryz.prog (s_Cur_card'p_e n) ∧ Own Tryz.prog 68 := ent_ok tabOK0 (.cons (s_Cur_pick'p_ok n) (.cons (s_l2At_ok n) (.cons (s_Cur_one'p_ok n) (.cons (s_Cur_among'pl_ok n) .nil)))) Tryz.func68 rfl (by kernel_rfl) (s_Cur_card'p_ev n)
def s_DrawShadowOf_i : CSh := ⟨[(.data false (.sl (.int .u8)))], []⟩
def s_DrawShadowOf_o : RSh := ⟨(.tcons (.data true (.arr 4 tI)) (.tcons (.data true tI) .tnil)), []⟩
theorem s_DrawShadowOf_ev (n : Nat) (x : TupT s_DrawShadowOf_i.tys) : evF ⟨tab, [s_Cur_mask'p_e n, s_Cur_card'p_e n], n, []⟩ Tryz.f12 s_DrawShadowOf_i s_DrawShadowOf_o x = s_DrawShadowOf n x := by kernel_rfl
noncomputable def s_DrawShadowOf_e (n : Nat) : Ent := ⟨12, s_DrawShadowOf_i, s_DrawShadowOf_o, fun x => s_DrawShadowOf n x⟩
theorem s_DrawShadowOf_ok (n : Nat) : EntOK Tryz.prog (s_DrawShadowOf_e n) ∧ Own Tryz.prog 12 := ent_ok tabOK0 (.cons (s_Cur_mask'p_ok n) (.cons (s_Cur_card'p_ok n) .nil)) Tryz.func12 rfl (by kernel_rfl) (s_DrawShadowOf_ev n)
def i_ShadowOf_i : CSh := ⟨[(.data true (.arr 4 tI)), (.data true tI)], []⟩
def i_ShadowOf_o : RSh := ⟨(.tcons (.data true (.arr 4 tI)) (.tcons (.data true .bool) .tnil)), []⟩
theorem i_ShadowOf_ev (n : Nat) (x : TupT i_ShadowOf_i.tys) : evF ⟨tab, [i_IsCard_e n, i_IsMask_e n, i_shadow_e n], n, []⟩ Tryz.f13 i_ShadowOf_i i_ShadowOf_o x = i_ShadowOf n x.1 x.2 := by kernel_rfl
noncomputable def i_ShadowOf_e (n : Nat) : Ent := ⟨13, i_ShadowOf_i, i_ShadowOf_o, fun x => i_ShadowOf n x.1 x.2⟩
theorem i_ShadowOf_ok (n : Nat) : EntOK Tryz.prog (i_ShadowOf_e n) ∧ Own Tryz.prog 13 := ent_ok tabOK0 (.cons (i_IsCard_ok n) (.cons (i_IsMask_ok n) (.cons (i_shadow_ok n) .nil))) Tryz.func13 rfl (by kernel_rfl) (i_ShadowOf_ev n)
def s_ShadowOf_i : CSh := ⟨[(.data true (.arr 4 tI)), (.data true tI)], []⟩
def s_ShadowOf_o : RSh := ⟨(.tcons (.data true (.arr 4 tI)) (.tcons (.data true .bool) .tnil)), []⟩
theorem s_ShadowOf_ev (n : Nat) (x : TupT s_ShadowOf_i.tys) : evF ⟨tab, [s_l2Card_e n, s_l11Mask_e n, s_l11Shadow_e n], n, []⟩ Tryz.f14 s_ShadowOf_i s_ShadowOf_o x = s_ShadowOf n x.1 x.2 := by kernel_rfl
noncomputable def s_ShadowOf_e (n : Nat) : Ent := ⟨14, s_ShadowOf_i, s_ShadowOf_o, fun x => s_ShadowOf n x.1 x.2⟩
theorem s_ShadowOf_ok (n : Nat) : EntOK Tryz.prog (s_ShadowOf_e n) ∧ Own Tryz.prog 14 := ent_ok tabOK0 (.cons (s_l2Card_ok n) (.cons (s_l11Mask_ok n) (.cons (s_l11Shadow_ok n) .nil))) Tryz.func14 rfl (by kernel_rfl) (s_ShadowOf_ev n)
def s_Cur_cardOf'pl_i : CSh := ⟨[(.ptr 0 []), (.data false (.sl (.arr 4 tI)))], [.var 90 (.data true (.pair (.sl (.int .u8)) (.pair tI (.int .u64))))]⟩
def s_Cur_cardOf'pl_o : RSh := ⟨(.data true (.arr 4 tI)), [.var 90 (.data true (.pair (.sl (.int .u8)) (.pair tI (.int .u64))))]⟩
theorem s_Cur_cardOf'pl_ev (n : Nat) (x : TupT s_Cur_cardOf'pl_i.tys) : evF ⟨tab, [s_Cur_pick'p_e n, s_Cur_card'p_e n, s_Cur_one'p_e n], n, [(5000004, ⟨[(0, (.ptr 0 [])), (1, (.data false (.sl (.arr 4 tI)))), (4, (.ptr 1 [])), (12, (.data true .bool))], [.var 90 (.data true (.pair (.sl (.int .u8)) (.pair tI (.int .u64)))), .var 30 (.data true (.arr 4 tI))], 1⟩)]⟩ Tryz.f74 s_Cur_cardOf'pl_i s_Cur_cardOf'pl_o x = s_Cur_cardOf'pl n x.1 x.2 := by kernel_rfl
noncomputable def s_Cur_cardOf'pl_e (n : Nat) : Ent := ⟨74, s_Cur_cardOf'pl_i, s_Cur_cardOf'pl_o, fun x => s_Cur_cardOf'pl n x.1 x.2⟩
theorem s_Cur_cardOf'pl_ok (n : Nat) : EntOK Tryz.prog (s_Cur_cardOf'pl_e n) ∧ Own Tryz.prog 74 := ent_ok tabOK0 (.cons (s_Cur_pick'p_ok n) (.cons (s_Cur_card'p_ok n) (.cons (s_Cur_one'p_ok n) .nil))) Tryz.func74 rfl (by kernel_rfl) (s_Cur_cardOf'pl_ev n)
def s_DrawCountBehind_i : CSh := ⟨[(.data false (.sl (.int .u8)))], []⟩
def s_DrawCountBehind_o : RSh := ⟨(.tcons (.own 0) (.tcons (.data true tI) (.tcons (.data true (.arr 4 tI)) .tnil))), [.rows 30 true (.arr 4 tI)]⟩
theorem s_DrawCountBehind_ev (n : Nat) (x : TupT s_DrawCountBehind_i.tys) : evF ⟨tab, [s_Cur_mask'p_e n, s_Cur_someHand'p_e n, s_Cur_cardOf'pl_e n, s_l2Card_e n, s_l11Shadow_e n, s_Cur_one'p_e n], n, [(10, ⟨[(4, (.ptr 0 [])), (6, (.data true tI)), (7, (.own 1)), (8, (.ptr 2 []))], [.var 30 (.data true (.arr 4 tI)), .rows 30 true (.arr 4 tI), .var 30 (.data true (.arr 4 tI))], 0⟩), (4000012, ⟨[(4, (.ptr 0 [])), (6, (.data true tI)), (7, (.own 1)), (8, (.ptr 2 [])), (25, (.data true .bool))], [.var 30 (.data true (.arr 4 tI)), .rows 30 true (.arr 4 tI), .var 30 (.data true (.arr 4 tI))], 0⟩)]⟩ Tryz.f17 s_DrawCountBehind_i s_DrawCountBehind_o x = s_DrawCountBehind n x := by kernel_rfl
noncomputable def s_DrawCountBehind_e (n : Nat) : Ent := ⟨17, s_DrawCountBehind_i, s_DrawCountBehind_o, fun x => s_DrawCountBehind n x⟩
theorem s_DrawCountBehind_ok (n : Nat) : EntOK Tryz.prog (s_DrawCountBehind_e n) ∧ Own Tryz.prog 17 := ent_ok tabOK0 (.cons (s_Cur_mask'p_ok n) (.cons (s_Cur_someHand'p_ok n) (.cons (s_Cur_cardOf'pl_ok n) (.cons (s_l2Card_ok n) (.cons (s_l11Shadow_ok n) (.cons (s_Cur_one'p_ok n) .nil)))))) Tryz.func17 rfl (by kernel_rfl) (s_DrawCountBehind_ev n)
def i_CountBehind_i : CSh := ⟨[(.data false (.sl (.arr 4 tI))), (.data true tI), (.data true (.arr 4 tI))], []⟩
def i_CountBehind_o : RSh := ⟨(.tcons (.data true tI) (.tcons (.data true .bool) .tnil)), []⟩
theorem i_CountBehind_ev (n : Nat) (x : TupT i_CountBehind_i.tys) : evF ⟨tab, [i_IsHand_e n, i_IsMask_e n, i_IsCard_e n, i_shadows_e n], n, [(16, ⟨[(5, (.ptr 0 [])), (8, (.data true tI)), (26, (.own 1)), (27, (.data true tI)), (28, (.data true tI))], [.var 30 (.data true (.arr 4 tI)), .rows 30 true (.arr 4 tI)], 0⟩)]⟩ Tryz.f18 i_CountBehind_i i_CountBehind_o x = i_CountBehind n x.1 x.2.1 x.2.2 := by kernel_rfl
noncomputable def i_CountBehind_e (n : Nat) : Ent := ⟨18, i_CountBehind_i, i_CountBehind_o, fun x => i_CountBehind n x.1 x.2.1 x.2.2⟩
theorem i_CountBehind_ok (n : Nat) : EntOK Tryz.prog (i_CountBehind_e n) ∧ Own Tryz.prog 18 := ent_ok tabOK0 (.cons (i_IsHand_ok n) (.cons (i_IsMask_ok n) (.cons (i_IsCard_ok n) (.cons (i_shadows_ok n) .nil)))) Tryz.func18 rfl (by kernel_rfl) (i_CountBehind_ev n)
def s_CountBehind_i : CSh := ⟨[(.data false (.sl (.arr 4 tI))), (.data true tI), (.data true (.arr 4 tI))], []⟩
def s_CountBehind_o : RSh := ⟨(.tcons (.data true tI) (.tcons (.data true .bool) .tnil)), []⟩
theorem s_CountBehind_ev (n : Nat) (x : TupT s_CountBehind_i.tys) : evF ⟨tab, [s_l2Hand_e n, s_l11Mask_e n, s_l2Card_e n, s_l11All_e n], n, [(16, ⟨[(5, (.ptr 0 [])), (8, (.data true tI)), (9, (.own 1)), (10, (.data true tI))], [.var 30 (.data true (.arr 4 tI)), .rows 30 true (.arr 4 tI)], 0⟩)]⟩ Tryz.f19 s_CountBehind_i s_CountBehind_o x = s_CountBehind n x.1 x.2.1 x.2.2 := by kernel_rfl
noncomputable def s_CountBehind_e (n : Nat) : Ent := ⟨19, s_CountBehind_i, s_CountBehind_o, fun x => s_CountBehind n x.1 x.2.1 x.2.2⟩
theorem s_CountBehind_ok (n : Nat) : EntOK Tryz.prog (s_CountBehind_e n) ∧ Own Tryz.prog 19 := ent_ok tabOK0 (.cons (s_l2Hand_ok n) (.cons (s_l11Mask_ok n) (.cons (s_l2Card_ok n) (.cons (s_l11All_ok n) .nil)))) Tryz.func19 rfl (by kernel_rfl) (s_CountBehind_ev n)
def i_third_i : CSh := ⟨[(.data true (.arr 4 tI)), (.data true (.arr 4 tI))], []⟩
def i_third_o : RSh := ⟨(.data true (.arr 4 tI)), []⟩
theorem i_third_ev (n : Nat) (x : TupT i_third_i.tys) : evF ⟨tab, [], n, [(8, ⟨[(2, (.ptr 0 [])), (3, (.ptr 1 [])), (4, (.ptr 2 [])), (5, (.ptr 3 [])), (8, (.data true tI))], [.var 30 (.data true (.arr 4 tI)), .var 30 (.data true (.arr 4 tI)), .var 30 (.data true (.arr 4 tI)), .var 30 (.data true (.arr 4 tI))], 0⟩)]⟩ Tryz.f122 i_third_i i_third_o x = i_third n x.1 x.2 := by kernel_rfl
noncomputable def i_third_e (n : Nat) : Ent := ⟨122, i_third_i, i_third_o, fun x => i_third n x.1 x.2⟩
theorem i_third_ok (n : Nat) : EntOK Tryz.prog (i_third_e n) ∧ Own Tryz.prog 122 := ent_ok tabOK0 .nil Tryz.func122 rfl (by kernel_rfl) (i_third_ev n)
def i_isLine_i : CSh := ⟨[(.data true (.arr 4 tI)), (.data true (.arr 4 tI)), (.data true (.arr 4 tI))], []⟩
def i_isLine_o : RSh := ⟨(.data true .bool), []⟩
theorem i_isLine_ev (n : Nat) (x : TupT i_isLine_i.tys) : evF ⟨tab, [i_third_e n], n, []⟩ Tryz.f78 i_isLine_i i_isLine_o x = i_isLine n x.1 x.2.1 x.2.2 := by kernel_rfl
noncomputable def i_isLine_e (n : Nat) : Ent := ⟨78, i_isLine_i, i_isLine_o, fun x => i_isLine n x.1 x.2.1 x.2.2⟩
theorem i_isLine_ok (n : Nat) : EntOK Tryz.prog (i_isLine_e n) ∧ Own Tryz.prog 78 := ent_ok tabOK0 (.cons (i_third_ok n) .nil) Tryz.func78 rfl (by kernel_rfl) (i_isLine_ev n)
def i_ShadowLines_1'lpp_o_i : CSh := ⟨[(.data false (.sl tI)), (.ptr 0 []), (.ptr 1 [])], [.var 24 (.own 2), .var 3 (.data true tI), .rows 30 true (.arr 4 tI)]⟩
def i_ShadowLines_1'lpp_o_o : RSh := ⟨.tnil, [.var 24 (.own 2), .var 3 (.data true tI), .rows 30 true (.arr 4 tI)]⟩
theorem i_ShadowLines_1'lpp_o_ev (n : Nat) (x : TupT i_ShadowLines_1'lpp_o_i.tys) : evF ⟨tab, [i_isLine_e n], n, []⟩ Tryz.f77 i_ShadowLines_1'lpp_o_i i_ShadowLines_1'lpp_o_o x = i_ShadowLines_1'lpp_o n x.1 x.2.1 x.2.2 := by kernel_rfl
noncomputable def i_ShadowLines_1'lpp_o_e (n : Nat) : Ent := ⟨77, i_ShadowLines_1'lpp_o_i, i_ShadowLines_1'lpp_o_o, fun x => i_ShadowLines_1'lpp_o n x.1 x.2.1 x.2.2⟩
theorem i_ShadowLines_1'lpp_o_ok (n : Nat) : EntOK Tryz.prog (i_ShadowLines_1'lpp_o_e n) ∧ Own Tryz.prog 77 := ent_ok tabOK0 (.cons (i_isLine_ok n) .nil) Tryz.func77 rfl (by kernel_rfl) (i_ShadowLines_1'lpp_o_ev n)
def i_choices'l_i_ShadowLines_1pp_o_i : CSh := ⟨[(.data false (.sl tI)), (.data true tI), (.data true tI), (.clo 77 (.tcons (.ptr 0 []) (.tcons (.ptr 1 []) .tnil)))], [.var 24 (.own 2), .var 3 (.data true tI), .rows 30 true (.arr 4 tI)]⟩
def i_choices'l_i_ShadowLines_1pp_o_o : RSh := ⟨.tnil, [.var 24 (.own 2), .var 3 (.data true tI), .rows 30 true (.arr 4 tI)]⟩
theorem i_choices'l_i_ShadowLines_1pp_o_ev (n : Nat) (go : TupT i_choices'l_i_ShadowLines_1pp_o_i.tys → Option (TupT i_choices'l_i_ShadowLines_1pp_o_o.tys)) (x : TupT i_choices'l_i_ShadowLines_1pp_o_i.tys) : evF ⟨tab, [⟨76, i_choices'l_i_ShadowLines_1pp_o_i, i_choices'l_i_ShadowLines_1pp_o_o, go⟩, i_ShadowLines_1'lpp_o_e n], n, [(10, ⟨[(0, (.data false (.sl tI))), (1, (.data true tI)), (2, (.data true tI)), (3, (.clo 77 (.tcons (.ptr 0 []) (.tcons (.ptr 1 []) .tnil)))), (8, (.data true tI))], [.var 24 (.own 2), .var 3 (.data true tI), .rows 30 true (.arr 4 tI)], 3⟩), (19, ⟨[(0, (.data false (.sl tI))), (1, (.data true tI)), (2, (.data true tI)), (3, (.clo 77 (.tcons (.ptr 0 []) (.tcons (.ptr 1 []) .tnil)))), (9, (.data true tI))], [.var 24 (.own 2), .var 3 (.data true tI), .rows 30 true (.arr 4 tI)], 3⟩)]⟩ Tryz.f76 i_choices'l_i_ShadowLines_1pp_o_i i_choices'l_i_ShadowLines_1pp_o_o x = i_choices'l_i_ShadowLines_1pp_o_R n go x := by kernel_rfl
noncomputable def i_choices'l_i_ShadowLines_1pp_o_e (n : Nat) : Ent := ⟨76, i_choices'l_i_ShadowLines_1pp_o_i, i_choices'l_i_ShadowLines_1pp_o_o, fun x => i_choices'l_i_ShadowLines_1pp_o n x.1 x.2.1 x.2.2.1 x.2.2.2.1 x.2.2.2.2⟩
theorem i_choices'l_i_ShadowLines_1pp_o_ok (n : Nat) : EntOK Tryz.prog (i_choices'l_i_ShadowLines_1pp_o_e n) ∧ Own Tryz.prog 76 := ent_rec tabOK0 (.cons (i_ShadowLines_1'lpp_o_ok n) .nil) Tryz.func76 rfl (by kernel_rfl) (i_choices'l_i_ShadowLines_1pp_o_ev n) n
def i_ShadowLines_i : CSh := ⟨[(.data false (.sl (.arr 4 tI))), (.data true tI)], []⟩
def i_ShadowLines_o : RSh := ⟨(.tcons (.data true tI) (.tcons (.data true .bool) .tnil)), []⟩
theorem i_ShadowLines_ev (n : Nat) (x : TupT i_ShadowLines_i.tys) : evF ⟨tab, [i_IsHand_e n, i_IsMask_e n, i_shadows_e n, i_choices'l_i_ShadowLines_1pp_o_e n], n, []⟩ Tryz.f20 i_ShadowLines_i i_ShadowLines_o x = i_ShadowLines n x.1 x.2 := by kernel_rfl
noncomputable def i_ShadowLines_e (n : Nat) : Ent := ⟨20, i_ShadowLines_i, i_ShadowLines_o, fun x => i_ShadowLines n x.1 x.2⟩
theorem i_ShadowLines_ok (n : Nat) : EntOK Tryz.prog (i_ShadowLines_e n) ∧ Own Tryz.prog 20 := ent_ok tabOK0 (.cons (i_IsHand_ok n) (.cons (i_IsMask_ok n) (.cons (i_shadows_ok n) (.cons (i_choices'l_i_ShadowLines_1pp_o_ok n) .nil)))) Tryz.func20 rfl (by kernel_rfl) (i_ShadowLines_ev n)
def s_l2Line_i : CSh := ⟨[(.data true (.arr 4 tI)), (.data true (.arr 4 tI)), (.data true (.arr 4 tI))], []⟩
def s_l2Line_o : RSh := ⟨(.data true .bool), []⟩
theorem s_l2Line_ev (n : Nat) (x : TupT s_l2Line_i.tys) : evF ⟨tab, [s_l2Third_e n], n, []⟩ Tryz.f123 s_l2Line_i s_l2Line_o x = s_l2Line n x.1 x.2.1 x.2.2 := by kernel_rfl
noncomputable def s_l2Line_e (n : Nat) : Ent := ⟨123, s_l2Line_i, s_l2Line_o, fun x => s_l2Line n x.1 x.2.1 x.2.2⟩
theorem s_l2Line_ok (n : Nat) : EntOK Tryz.prog (s_l2Line_e n) ∧ Own Tryz.prog 123 := ent_ok tabOK0 (.cons (s_l2Third_ok n) .nil) Tryz.func123 rfl (by kernel_rfl) (s_l2Line_ev n)
def s_l4Lines_i : CSh := ⟨[(.data false (.sl (.arr 4 tI)))], []⟩
def s_l4Lines_o : RSh := ⟨(.own 0), [.rows 52 true (.arr 3 tI)]⟩
theorem s_l4Lines_ev (n : Nat) (x : TupT s_l4Lines_i.tys) : evF ⟨tab, [s_l2Line_e n], n, [(8, ⟨[(0, (.data false (.sl (.arr 4 tI)))), (3, (.own 0)), (4, (.data true tI))], [.rows 52 true (.arr 3 tI)], 0⟩), (20, ⟨[(0, (.data false (.sl (.arr 4 tI)))), (3, (.own 0)), (4, (.data true tI)), (5, (.data true tI))], [.rows 52 true (.arr 3 tI)], 0⟩), (32, ⟨[(0, (.data false (.sl (.arr 4 tI)))), (3, (.own 0)), (4, (.data true tI)), (5, (.data true tI)), (6, (.data true tI))], [.rows 52 true (.arr 3 tI)], 0⟩)]⟩ Tryz.f79 s_l4Lines_i s_l4Lines_o x = s_l4Lines n x := by kernel_rfl
noncomputable def s_l4Lines_e (n : Nat) : Ent := ⟨79, s_l4Lines_i, s_l4Lines_o, fun x => s_l4Lines n x⟩
theorem s_l4Lines_ok (n : Nat) : EntOK Tryz.prog (s_l4Lines_e n) ∧ Own Tryz.prog 79 := ent_ok tabOK0 (.cons (s_l2Line_ok n) .nil) Tryz.func79 rfl (by kernel_rfl) (s_l4Lines_ev n)
def s_ShadowLines_i : CSh := ⟨[(.data false (.sl (.arr 4 tI))), (.data true tI)], []⟩
def s_ShadowLines_o : RSh := ⟨(.tcons (.data true tI) (.tcons (.data true .bool) .tnil)), []⟩
theorem s_ShadowLines_ev (n : Nat) (x : TupT s_ShadowLines_i.tys) : evF ⟨tab, [s_l2Hand_e n, s_l11Mask_e n, s_l11All_e n, s_l4Lines_e n], n, []⟩ Tryz.f21 s_ShadowLines_i s_ShadowLines_o x = s_ShadowLines n x.1 x.2 := by kernel_rfl
noncomputable def s_ShadowLines_e (n : Nat) : Ent := ⟨21, s_ShadowLines_i, s_ShadowLines_o, fun x => s_ShadowLines n x.1 x.2⟩
theorem s_ShadowLines_ok (n : Nat) : EntOK Tryz.prog (s_ShadowLines_e n) ∧ Own Tryz.prog 21 := ent_ok tabOK0 (.cons (s_l2Hand_ok n) (.cons (s_l11Mask_ok n) (.cons (s_l11All_ok n) (.cons (s_l4Lines_ok n) .nil)))) Tryz.func21 rfl (by kernel_rfl) (s_ShadowLines_ev n)
def s_DrawLeastMask_i : CSh := ⟨[(.data false (.sl (.int .u8)))], []⟩
def s_DrawLeastMask_o : RSh := ⟨(.own 0), [.rows 30 true (.arr 4 tI)]⟩
theorem s_DrawLeastMask_ev (n : Nat) (x : TupT s_DrawLeastMask_i.tys) : evF ⟨tab, [s_Cur_one'p_e n, s_Cur_someHand'p_e n, s_Cur_pick'p_e n, s_l2At_e n, s_l11Shadow_e n, s_l2Put_e n], n, [(18, ⟨[(3, (.ptr 0 [])), (4, (.own 1)), (5, (.data true tI)), (6, (.data true tI))], [.var 90 (.data false (.pair (.sl (.int .u8)) (.pair tI (.int .u64)))), .rows 30 true (.arr 4 tI)], 0⟩)]⟩ Tryz.f22 s_DrawLeastMask_i s_DrawLeastMask_o x = s_DrawLeastMask n x := by kernel_rfl
noncomputable def s_DrawLeastMask_e (n : Nat) : Ent := ⟨22, s_DrawLeastMask_i, s_DrawLeastMask_o, fun x => s_DrawLeastMask n x⟩
theorem s_DrawLeastMask_ok (n : Nat) : EntOK Tryz.prog (s_DrawLeastMask_e n) ∧ Own Tryz.prog 22 := ent_ok tabOK0 (.cons (s_Cur_one'p_ok n) (.cons (s_Cur_someHand'p_ok n) (.cons (s_Cur_pick'p_ok n) (.cons (s_l2At_ok n) (.cons (s_l11Shadow_ok n) (.cons (s_l2Put_ok n) .nil)))))) Tryz.func22 rfl (by kernel_rfl) (s_DrawLeastMask_ev n)
def math_bits_OnesCount64_i : CSh := ⟨[(.data true (.int .u64))], []⟩
def math_bits_OnesCount64_o : RSh := ⟨(.data true tI), []⟩
theorem math_bits_OnesCount64_ev (n : Nat) (x : TupT math_bits_OnesCount64_i.tys) : evF ⟨tab, [], n, []⟩ Tryz.f126 math_bits_OnesCount64_i math_bits_OnesCount64_o x = math_bits_OnesCount64 n x := by kernel_rfl
noncomputable def math_bits_OnesCount64_e (n : Nat) : Ent := ⟨126, math_bits_OnesCount64_i, math_bits_OnesCount64_o, fun x => math_bits_OnesCount64 n x⟩
theorem math_bits_OnesCount64_ok (n : Nat) : EntOK Tryz.prog (math_bits_OnesCount64_e n) ∧ Own Tryz.prog 126 := ent_ok tabOK0 .nil Tryz.func126 rfl (by kernel_rfl) (math_bits_OnesCount64_ev n)
def math_bits_OnesCount_i : CSh := ⟨[(.data true (.int .u64))], []⟩
def math_bits_OnesCount_o : RSh := ⟨(.data true tI), []⟩
theorem math_bits_OnesCount_ev (n : Nat) (x : TupT math_bits_OnesCount_i.tys) : evF ⟨tab, [math_bits_OnesCount64_e n], n, []⟩ Tryz.f83 math_bits_OnesCount_i math_bits_OnesCount_o x = math_bits_OnesCount n x := by kernel_rfl
noncomputable def math_bits_OnesCount_e (n : Nat) : Ent := ⟨83, math_bits_OnesCount_i, math_bits_OnesCount_o, fun x => math_bits_OnesCount n x⟩
theorem math_bits_OnesCount_ok (n : Nat) : EntOK Tryz.prog (math_bits_OnesCount_e n) ∧ Own Tryz.prog 83 := ent_ok tabOK0 (.cons (math_bits_OnesCount64_ok n) .nil) Tryz.func83 rfl (by kernel_rfl) (math_bits_OnesCount_ev n)
def i_LeastMask_i : CSh := ⟨[(.data false (.sl (.arr 4 tI)))], []⟩
def i_LeastMask_o : RSh := ⟨(.tcons (.data true tI) (.tcons (.data true .bool) .tnil)), []⟩
theorem i_LeastMask_ev (n : Nat) (x : TupT i_LeastMask_i.tys) : evF ⟨tab, [i_IsHand_e n, i_shadows_e n, i_sorted_e n, math_bits_OnesCount_e n], n, [(16, ⟨[(0, (.data false (.sl (.arr 4 tI)))), (4, (.data true tI)), (5, (.data true tI))], [], 0⟩)]⟩ Tryz.f23 i_LeastMask_i i_LeastMask_o x = i_LeastMask n x := by kernel_rfl
noncomputable def i_LeastMask_e (n : Nat) : Ent := ⟨23, i_LeastMask_i, i_LeastMask_o, fun x => i_LeastMask n x⟩
theorem i_LeastMask_ok (n : Nat) : EntOK Tryz.prog (i_LeastMask_e n) ∧ Own Tryz.prog 23 := ent_ok tabOK0 (.cons (i_IsHand_ok n) (.cons (i_shadows_ok n) (.cons (i_sorted_ok n) (.cons (math_bits_OnesCount_ok n) .nil)))) Tryz.func23 rfl (by kernel_rfl) (i_LeastMask_ev n)
def s_l11Kept_i : CSh := ⟨[(.data true tI)], []⟩
def s_l11Kept_o : RSh := ⟨(.data true tI), []⟩
theorem s_l11Kept_ev (n : Nat) (x : TupT s_l11Kept_i.tys) : evF ⟨tab, [], n, [(8, ⟨[(0, (.data true tI)), (3, (.data true tI)), (4, (.data true tI))], [], 0⟩)]⟩ Tryz.f84 s_l11Kept_i s_l11Kept_o x = s_l11Kept n x := by kernel_rfl
noncomputable def s_l11Kept_e (n : Nat) : Ent := ⟨84, s_l11Kept_i, s_l11Kept_o, fun x => s_l11Kept n x⟩
theorem s_l11Kept_ok (n : Nat) : EntOK Tryz.prog (s_l11Kept_e n) ∧ Own Tryz.prog 84 := ent_ok tabOK0 .nil Tryz.func84 rfl (by kernel_rfl) (s_l11Kept_ev n)
def s_LeastMask_i : CSh := ⟨[(.data false (.sl (.arr 4 tI)))], []⟩
def s_LeastMask_o : RSh := ⟨(.tcons (.data true tI) (.tcons (.data true .bool) .tnil)), []⟩
theorem s_LeastMask_ev (n : Nat) (x : TupT s_LeastMask_i.tys) : evF ⟨tab, [s_l2Hand_e n, s_l11All_e n, s_l2Sorted_e n, s_l11Kept_e n], n, [(16, ⟨[(0, (.data false (.sl (.arr 4 tI)))), (4, (.data true tI)), (5, (.data true tI))], [], 0⟩)]⟩ Tryz.f24 s_LeastMask_i s_LeastMask_o x = s_LeastMask n x := by kernel_rfl
noncomputable def s_LeastMask_e (n : Nat) : Ent := ⟨24, s_LeastMask_i, s_LeastMask_o, fun x => s_LeastMask n x⟩
theorem s_LeastMask_ok (n : Nat) : EntOK Tryz.prog (s_LeastMask_e n) ∧ Own Tryz.prog 24 := ent_ok tabOK0 (.cons (s_l2Hand_ok n) (.cons (s_l11All_ok n) (.cons (s_l2Sorted_ok n) (.cons (s_l11Kept_ok n) .nil)))) Tryz.func24 rfl (by kernel_rfl) (s_LeastMask_ev n)
def s_DrawHiddenCard_i : CSh := ⟨[(.data false (.sl (.int .u8)))], []⟩
def s_DrawHiddenCard_o : RSh := ⟨(.tcons (.own 0) (.tcons (.data true (.arr 4 tI)) .tnil)), [.rows 30 true (.arr 4 tI)]⟩
theorem s_DrawHiddenCard_ev (n : Nat) (x : TupT s_DrawHiddenCard_i.tys) : evF ⟨tab, [s_Cur_hand'p_e n, s_Cur_card'p_e n], n, []⟩ Tryz.f25 s_DrawHiddenCard_i s_DrawHiddenCard_o x = s_DrawHiddenCard n x := by kernel_rfl
noncomputable def s_DrawHiddenCard_e (n : Nat) : Ent := ⟨25, s_DrawHiddenCard_i, s_DrawHiddenCard_o, fun x => s_DrawHiddenCard n x⟩
theorem s_DrawHiddenCard_ok (n : Nat) : EntOK Tryz.prog (s_DrawHiddenCard_e n) ∧ Own Tryz.prog 25 := ent_ok tabOK0 (.cons (s_Cur_hand'p_ok n) (.cons (s_Cur_card'p_ok n) .nil)) Tryz.func25 rfl (by kernel_rfl) (s_DrawHiddenCard_ev n)
def i_sum_i : CSh := ⟨[(.data false (.sl (.arr 4 tI)))], []⟩
def i_sum_o : RSh := ⟨(.data true (.arr 4 tI)), []⟩
theorem i_sum_ev (n : Nat) (x : TupT i_sum_i.tys) : evF ⟨tab, [], n, [(8, ⟨[(2, (.ptr 0 [])), (3, (.ptr 1 [])), (9, (.data false (.sl (.arr 4 tI)))), (10, (.data true tI)), (11, (.data true tI))], [.var 30 (.data true (.arr 4 tI)), .var 30 (.data true (.arr 4 tI))], 0⟩), (22, ⟨[(2, (.ptr 0 [])), (3, (.ptr 1 [])), (9, (.data false (.sl (.arr 4 tI)))), (10, (.data true tI)), (11, (.data true tI)), (15, (.data true (.arr 4 tI))), (16, (.data true tI))], [.var 30 (.data true (.arr 4 tI)), .var 30 (.data true (.arr 4 tI))], 0⟩)]⟩ Tryz.f86 i_sum_i i_sum_o x = i_sum n x := by kernel_rfl
noncomputable def i_sum_e (n : Nat) : Ent := ⟨86, i_sum_i, i_sum_o, fun x => i_sum n x⟩
theorem i_sum_ok (n : Nat) : EntOK Tryz.prog (i_sum_e n) ∧ Own Tryz.prog 86 := ent_ok tabOK0 .nil Tryz.func86 rfl (by kernel_rfl) (i_sum_ev n)
def slices_Index_SA4_A4__i : CSh := ⟨[(.data false (.sl (.arr 4 tI))), (.data true (.arr 4 tI))], []⟩
def slices_Index_SA4_A4__o : RSh := ⟨(.data true tI), []⟩
theorem slices_Index_SA4_A4__ev (n : Nat) (x : TupT slices_Index_SA4_A4__i.tys) : evF ⟨tab, [], n, [(6, ⟨[(0, (.data false (.sl (.arr 4 tI)))), (3, (.ptr 0 [])), (7, (.data true tI)), (8, (.data true tI))], [.var 30 (.data true (.arr 4 tI))], 0⟩)]⟩ Tryz.f153 slices_Index_SA4_A4__i slices_Index_SA4_A4__o x = slices_Index_SA4_A4_ n x.1 x.2 := by kernel_rfl
noncomputable def slices_Index_SA4_A4__e (n : Nat) : Ent := ⟨153, slices_Index_SA4_A4__i, slices_Index_SA4_A4__o, fun x => slices_Index_SA4_A4_ n x.1 x.2⟩
theorem slices_Index_SA4_A4__ok (n : Nat) : EntOK Tryz.prog (slices_Index_SA4_A4__e n) ∧ Own Tryz.prog 153 := ent_ok tabOK0 .nil Tryz.func153 rfl (by kernel_rfl) (slices_Index_SA4_A4__ev n)
def slices_Contains_SA4_A4__i : CSh := ⟨[(.data false (.sl (.arr 4 tI))), (.data true (.arr 4 tI))], []⟩
def slices_Contains_SA4_A4__o : RSh := ⟨(.data true .bool), []⟩
theorem slices_Contains_SA4_A4__ev (n : Nat) (x : TupT slices_Contains_SA4_A4__i.tys) : evF ⟨tab, [slices_Index_SA4_A4__e n], n, []⟩ Tryz.f127 slices_Contains_SA4_A4__i slices_Contains_SA4_A4__o x = slices_Contains_SA4_A4_ n x.1 x.2 := by kernel_rfl
noncomputable def slices_Contains_SA4_A4__e (n : Nat) : Ent := ⟨127, slices_Contains_SA4_A4__i, slices_Contains_SA4_A4__o, fun x => slices_Contains_SA4_A4_ n x.1 x.2⟩
theorem slices_Contains_SA4_A4__ok (n : Nat) : EntOK Tryz.prog (slices_Contains_SA4_A4__e n) ∧ Own Tryz.prog 127 := ent_ok tabOK0 (.cons (slices_Index_SA4_A4__ok n) .nil) Tryz.func127 rfl (by kernel_rfl) (slices_Contains_SA4_A4__ev n)
def i_has_i : CSh := ⟨[(.data false (.sl (.arr 4 tI))), (.data true (.arr 4 tI))], []⟩
def i_has_o : RSh := ⟨(.data true .bool), []⟩
theorem i_has_ev (n : Nat) (x : TupT i_has_i.tys) : evF ⟨tab, [slices_Contains_SA4_A4__e n], n, []⟩ Tryz.f87 i_has_i i_has_o x = i_has n x.1 x.2 := by kernel_rfl
noncomputable def i_has_e (n : Nat) : Ent := ⟨87, i_has_i, i_has_o, fun x => i_has n x.1 x.2⟩
theorem i_has_ok (n : Nat) : EntOK Tryz.prog (i_has_e n) ∧ Own Tryz.prog 87 := ent_ok tabOK0 (.cons (slices_Contains_SA4_A4__ok n) .nil) Tryz.func87 rfl (by kernel_rfl) (i_has_ev n)
def i_HiddenCard_i : CSh := ⟨[(.data false (.sl (.arr 4 tI))), (.data true (.arr 4 tI))], []⟩
def i_HiddenCard_o : RSh := ⟨(.tcons (.data true (.arr 4 tI)) (.tcons (.data true .bool) .tnil)), []⟩
theorem i_HiddenCard_ev (n : Nat) (x : TupT i_HiddenCard_i.tys) : evF ⟨tab, [i_IsHand_e n, i_IsCard_e n, i_sum_e n, i_has_e n], n, [(16, ⟨[(0, (.data false (.sl (.arr 4 tI)))), (3, (.ptr 0 [])), (4, (.ptr 1 [])), (6, (.ptr 2 [])), (7, (.ptr 3 [])), (21, (.data true tI))], [.var 30 (.data true (.arr 4 tI)), .var 30 (.data true (.arr 4 tI)), .var 30 (.data true (.arr 4 tI)), .var 30 (.data true (.arr 4 tI))], 0⟩)]⟩ Tryz.f26 i_HiddenCard_i i_HiddenCard_o x = i_HiddenCard n x.1 x.2 := by kernel_rfl
noncomputable def i_HiddenCard_e (n : Nat) : Ent := ⟨26, i_HiddenCard_i, i_HiddenCard_o, fun x => i_HiddenCard n x.1 x.2⟩
theorem i_HiddenCard_ok (n : Nat) : EntOK Tryz.prog (i_HiddenCard_e n) ∧ Own Tryz.prog 26 := ent_ok tabOK0 (.cons (i_IsHand_ok n) (.cons (i_IsCard_ok n) (.cons (i_sum_ok n) (.cons (i_has_ok n) .nil)))) Tryz.func26 rfl (by kernel_rfl) (i_HiddenCard_ev n)
def s_l2Sum_i : CSh := ⟨[(.data false (.sl (.arr 4 tI)))], []⟩
def s_l2Sum_o : RSh := ⟨(.data true (.arr 4 tI)), []⟩
theorem s_l2Sum_ev (n : Nat) (x : TupT s_l2Sum_i.tys) : evF ⟨tab, [], n, [(8, ⟨[(0, (.data false (.sl (.arr 4 tI)))), (2, (.ptr 0 [])), (3, (.ptr 1 [])), (4, (.data true tI))], [.var 30 (.data true (.arr 4 tI)), .var 30 (.data true (.arr 4 tI))], 0⟩), (20, ⟨[(0, (.data false (.sl (.arr 4 tI)))), (2, (.ptr 0 [])), (3, (.ptr 1 [])), (4, (.data true tI)), (5, (.data true tI))], [.var 30 (.data true (.arr 4 tI)), .var 30 (.data true (.arr 4 tI))], 0⟩)]⟩ Tryz.f88 s_l2Sum_i s_l2Sum_o x = s_l2Sum n x := by kernel_rfl
noncomputable def s_l2Sum_e (n : Nat) : Ent := ⟨88, s_l2Sum_i, s_l2Sum_o, fun x => s_l2Sum n x⟩
theorem s_l2Sum_ok (n : Nat) : EntOK Tryz.prog (s_l2Sum_e n) ∧ Own Tryz.prog 88 := ent_ok tabOK0 .nil Tryz.func88 rfl (by kernel_rfl) (s_l2Sum_ev n)
def s_HiddenCard_i : CSh := ⟨[(.data false (.sl (.arr 4 tI))), (.data true (.arr 4 tI))], []⟩
def s_HiddenCard_o : RSh := ⟨(.tcons (.data true (.arr 4 tI)) (.tcons (.data true .bool) .tnil)), []⟩
theorem s_HiddenCard_ev (n : Nat) (x : TupT s_HiddenCard_i.tys) : evF ⟨tab, [s_l2Hand_e n, s_l2Card_e n, s_l2Sum_e n, s_l2Has_e n], n, [(16, ⟨[(0, (.data false (.sl (.arr 4 tI)))), (3, (.ptr 0 [])), (4, (.ptr 1 [])), (6, (.ptr 2 [])), (7, (.ptr 3 [])), (8, (.data true tI))], [.var 30 (.data true (.arr 4 tI)), .var 30 (.data true (.arr 4 tI)), .var 30 (.data true (.arr 4 tI)), .var 30 (.data true (.arr 4 tI))], 0⟩)]⟩ Tryz.f27 s_HiddenCard_i s_HiddenCard_o x = s_HiddenCard n x.1 x.2 := by kernel_rfl
noncomputable def s_HiddenCard_e (n : Nat) : Ent := ⟨27, s_HiddenCard_i, s_HiddenCard_o, fun x => s_HiddenCard n x.1 x.2⟩
theorem s_HiddenCard_ok (n : Nat) : EntOK Tryz.prog (s_HiddenCard_e n) ∧ Own Tryz.prog 27 := ent_ok tabOK0 (.cons (s_l2Hand_ok n) (.cons (s_l2Card_ok n) (.cons (s_l2Sum_ok n) (.cons (s_l2Has_ok n) .nil)))) Tryz.func27 rfl (by kernel_rfl) (s_HiddenCard_ev n)
def i_linesIn_i : CSh := ⟨[(.data false (.sl (.arr 4 tI)))], []⟩
def i_linesIn_o : RSh := ⟨(.own 0), [.rows 52 true (.arr 3 tI)]⟩
theorem i_linesIn_ev (n : Nat) (x : TupT i_linesIn_i.tys) : evF ⟨tab, [i_number_e n, i_third_e n], n, [(8, ⟨[(0, (.data false (.sl (.arr 4 tI)))), (3, (.ptr 0 [])), (12, (.data false (.sl (.arr 4 tI)))), (13, (.data true tI)), (14, (.data true tI))], [.var 130 (.data true (.arr 81 tI))], 0⟩), (27, ⟨[(0, (.data false (.sl (.arr 4 tI)))), (3, (.ptr 0 [])), (6, (.own 1)), (26, (.data false (.sl (.arr 4 tI)))), (27, (.data true tI)), (28, (.data true tI))], [.var 130 (.data true (.arr 81 tI)), .rows 52 true (.arr 3 tI)], 0⟩), (41, ⟨[(0, (.data false (.sl (.arr 4 tI)))), (3, (.ptr 0 [])), (6, (.own 1)), (7, (.data true tI)), (8, (.ptr 2 [])), (9, (.data true tI)), (26, (.data false (.sl (.arr 4 tI)))), (27, (.data true tI)), (28, (.data true tI))], [.var 130 (.data true (.arr 81 tI)), .rows 52 true (.arr 3 tI), .var 30 (.data true (.arr 4 tI))], 0⟩)]⟩ Tryz.f90 i_linesIn_i i_linesIn_o x = i_linesIn n x := by kernel_rfl
noncomputable def i_linesIn_e (n : Nat) : Ent := ⟨90, i_linesIn_i, i_linesIn_o, fun x => i_linesIn n x⟩
theorem i_linesIn_ok (n : Nat) : EntOK Tryz.prog (i_linesIn_e n) ∧ Own Tryz.prog 90 := ent_ok tabOK0 (.cons (i_number_ok n) (.cons (i_third_ok n) .nil)) Tryz.func90 rfl (by kernel_rfl) (i_linesIn_ev n)
def i_LinesIn_i : CSh := ⟨[(.data false (.sl (.arr 4 tI)))], []⟩
def i_LinesIn_o : RSh := ⟨(.tcons (.own 0) (.tcons (.data true .bool) .tnil)), [.rows 52 true (.arr 3 tI)]⟩
theorem i_LinesIn_ev (n : Nat) (x : TupT i_LinesIn_i.tys) : evF ⟨tab, [i_IsHand_e n, i_linesIn_e n], n, []⟩ Tryz.f30 i_LinesIn_i i_LinesIn_o x = i_LinesIn n x := by kernel_rfl
noncomputable def i_LinesIn_e (n : Nat) : Ent := ⟨30, i_LinesIn_i, i_LinesIn_o, fun x => i_LinesIn n x⟩
theorem i_LinesIn_ok (n : Nat) : EntOK Tryz.prog (i_LinesIn_e n) ∧ Own Tryz.prog 30 := ent_ok tabOK0 (.cons (i_IsHand_ok n) (.cons (i_linesIn_ok n) .nil)) Tryz.func30 rfl (by kernel_rfl) (i_LinesIn_ev n)
def i_areCards_1_i : CSh := ⟨[(.data true (.arr 4 tI))], []⟩
def i_areCards_1_o : RSh := ⟨(.data true .bool), []⟩
theorem i_areCards_1_ev (n : Nat) (x : TupT i_areCards_1_i.tys) : evF ⟨tab, [i_IsCard_e n], n, []⟩ Tryz.f130 i_areCards_1_i i_areCards_1_o x = i_areCards_1 n x := by kernel_rfl
noncomputable def i_areCards_1_e (n : Nat) : Ent := ⟨130, i_areCards_1_i, i_areCards_1_o, fun x => i_areCards_1 n x⟩
theorem i_areCards_1_ok (n : Nat) : EntOK Tryz.prog (i_areCards_1_e n) ∧ Own Tryz.prog 130 := ent_ok tabOK0 (.cons (i_IsCard_ok n) .nil) Tryz.func130 rfl (by kernel_rfl) (i_areCards_1_ev n)
def slices_IndexFunc_SA4_A4_'l_i_areCards_1_i : CSh := ⟨[(.data false (.sl (.arr 4 tI))), (.clo 130 .tnil)], []⟩
def slices_IndexFunc_SA4_A4_'l_i_areCards_1_o : RSh := ⟨(.data true tI), []⟩
theorem slices_IndexFunc_SA4_A4_'l_i_areCards_1_ev (n : Nat) (x : TupT slices_IndexFunc_SA4_A4_'l_i_areCards_1_i.tys) : evF ⟨tab, [i_areCards_1_e n], n, [(6, ⟨[(0, (.data false (.sl (.arr 4 tI)))), (1, (.clo 130 .tnil)), (7, (.data true tI)), (8, (.data true tI))], [], 0⟩)]⟩ Tryz.f154 slices_IndexFunc_SA4_A4_'l_i_areCards_1_i slices_IndexFunc_SA4_A4_'l_i_areCards_1_o x = slices_IndexFunc_SA4_A4_'l_i_areCards_1 n x := by kernel_rfl
noncomputable def slices_IndexFunc_SA4_A4_'l_i_areCards_1_e (n : Nat) : Ent := ⟨154, slices_IndexFunc_SA4_A4_'l_i_areCards_1_i, slices_IndexFunc_SA4_A4_'l_i_areCards_1_o, fun x => slices_IndexFunc_SA4_A4_'l_i_areCards_1 n x⟩
theorem slices_IndexFunc_SA4_A4_'l_i_areCards_1_ok (n : Nat) : EntOK Tryz.prog (slices_IndexFunc_SA4_A4_'l_i_areCards_1_e n) ∧ Own Tryz.prog 154 := ent_ok tabOK0 (.cons (i_areCards_1_ok n) .nil) Tryz.func154 rfl (by kernel_rfl) (slices_IndexFunc_SA4_A4_'l_i_areCards_1_ev n)
def slices_ContainsFunc_SA4_A4_'l_i_areCards_1_i : CSh := ⟨[(.data false (.sl (.arr 4 tI))), (.clo 130 .tnil)], []⟩
def slices_ContainsFunc_SA4_A4_'l_i_areCards_1_o : RSh := ⟨(.data true .bool), []⟩
theorem slices_ContainsFunc_SA4_A4_'l_i_areCards_1_ev (n : Nat) (x : TupT slices_ContainsFunc_SA4_A4_'l_i_areCards_1_i.tys) : evF ⟨tab, [slices_IndexFunc_SA4_A4_'l_i_areCards_1_e n], n, []⟩ Tryz.f129 slices_ContainsFunc_SA4_A4_'l_i_areCards_1_i slices_ContainsFunc_SA4_A4_'l_i_areCards_1_o x = slices_ContainsFunc_SA4_A4_'l_i_areCards_1 n x := by kernel_rfl
noncomputable def slices_ContainsFunc_SA4_A4_'l_i_areCards_1_e (n : Nat) : Ent := ⟨129, slices_ContainsFunc_SA4_A4_'l_i_areCards_1_i, slices_ContainsFunc_SA4_A4_'l_i_areCards_1_o, fun x => slices_ContainsFunc_SA4_A4_'l_i_areCards_1 n x⟩
theorem slices_ContainsFunc_SA4_A4_'l_i_areCards_1_ok (n : Nat) : EntOK Tryz.prog (slices_ContainsFunc_SA4_A4_'l_i_areCards_1_e n) ∧ Own Tryz.prog 129 := ent_ok tabOK0 (.cons (slices_IndexFunc_SA4_A4_'l_i_areCards_1_ok n) .nil) Tryz.func129 rfl (by kernel_rfl) (slices_ContainsFunc_SA4_A4_'l_i_areCards_1_ev n)
def i_areCards_i : CSh := ⟨[(.data false (.sl (.arr 4 tI)))], []⟩
def i_areCards_o : RSh := ⟨(.data true .bool), []⟩
theorem i_areCards_ev (n : Nat) (x : TupT i_areCards_i.tys) : evF ⟨tab, [slices_ContainsFunc_SA4_A4_'l_i_areCards_1_e n], n, []⟩ Tryz.f91 i_areCards_i i_areCards_o x = i_areCards n x := by kernel_rfl
noncomputable def i_areCards_e (n : Nat) : Ent := ⟨91, i_areCards_i, i_areCards_o, fun x => i_areCards n x⟩
theorem i_areCards_ok (n : Nat) : EntOK Tryz.prog (i_areCards_e n) ∧ Own Tryz.prog 91 := ent_ok tabOK0 (.cons (slices_ContainsFunc_SA4_A4_'l_i_areCards_1_ok n) .nil) Tryz.func91 rfl (by kernel_rfl) (i_areCards_ev n)
def i_IsLine_i : CSh := ⟨[(.data true (.arr 4 tI)), (.data true (.arr 4 tI)), (.data true (.arr 4 tI))], []⟩
def i_IsLine_o : RSh := ⟨(.tcons (.data true .bool) (.tcons (.data true .bool) .tnil)), []⟩
theorem i_IsLine_ev (n : Nat) (x : TupT i_IsLine_i.tys) : evF ⟨tab, [i_areCards_e n, i_isLine_e n], n, []⟩ Tryz.f31 i_IsLine_i i_IsLine_o x = i_IsLine n x.1 x.2.1 x.2.2 := by kernel_rfl
noncomputable def i_IsLine_e (n : Nat) : Ent := ⟨31, i_IsLine_i, i_IsLine_o, fun x => i_IsLine n x.1 x.2.1 x.2.2⟩
theorem i_IsLine_ok (n : Nat) : EntOK Tryz.prog (i_IsLine_e n) ∧ Own Tryz.prog 31 := ent_ok tabOK0 (.cons (i_areCards_ok n) (.cons (i_isLine_ok n) .nil)) Tryz.func31 rfl (by kernel_rfl) (i_IsLine_ev n)
def v_rIn_i : CSh := ⟨[(.data false (.sl (.arr 4 tI))), (.data true (.arr 4 tI))], []⟩
def v_rIn_o : RSh := ⟨(.data true .bool), []⟩
theorem v_rIn_ev (n : Nat) (x : TupT v_rIn_i.tys) : evF ⟨tab, [], n, [(6, ⟨[(0, (.data false (.sl (.arr 4 tI)))), (3, (.ptr 0 [])), (5, (.data true tI))], [.var 30 (.data true (.arr 4 tI))], 0⟩)]⟩ Tryz.f29 v_rIn_i v_rIn_o x = v_rIn n x.1 x.2 := by kernel_rfl
noncomputable def v_rIn_e (n : Nat) : Ent := ⟨29, v_rIn_i, v_rIn_o, fun x => v_rIn n x.1 x.2⟩
theorem v_rIn_ok (n : Nat) : EntOK Tryz.prog (v_rIn_e n) ∧ Own Tryz.prog 29 := ent_ok tabOK0 .nil Tryz.func29 rfl (by kernel_rfl) (v_rIn_ev n)
def i_SumCards_i : CSh := ⟨[(.data false (.sl (.arr 4 tI)))], []⟩
def i_SumCards_o : RSh := ⟨(.tcons (.data true (.arr 4 tI)) (.tcons (.data true .bool) .tnil)), []⟩
theorem i_SumCards_ev (n : Nat) (x : TupT i_SumCards_i.tys) : evF ⟨tab, [i_IsHand_e n, i_sum_e n], n, []⟩ Tryz.f28 i_SumCards_i i_SumCards_o x = i_SumCards n x := by kernel_rfl
noncomputable def i_SumCards_e (n : Nat) : Ent := ⟨28, i_SumCards_i, i_SumCards_o, fun x => i_SumCards n x⟩
theorem i_SumCards_ok (n : Nat) : EntOK Tryz.prog (i_SumCards_e n) ∧ Own Tryz.prog 28 := ent_ok tabOK0 (.cons (i_IsHand_ok n) (.cons (i_sum_ok n) .nil)) Tryz.func28 rfl (by kernel_rfl) (i_SumCards_ev n)
def v_FnShadows_i : CSh := ⟨[(.data false (.sl (.int .u8)))], []⟩
def v_FnShadows_o : RSh := ⟨(.data true .bool), []⟩
theorem v_FnShadows_ev (n : Nat) (x : TupT v_FnShadows_i.tys) : evF ⟨tab, [v_rBig_e n, s_DrawShadowHand_e n, i_ShadowHand_e n, s_ShadowHand_e n, v_rHand_e n, s_DrawShadowOf_e n, i_ShadowOf_e n, s_ShadowOf_e n, i_IsCard_e n, i_IsMask_e n, s_DrawCountBehind_e n, i_CountBehind_e n, s_CountBehind_e n, i_ShadowLines_e n, s_ShadowLines_e n, s_DrawLeastMask_e n, i_LeastMask_e n, s_LeastMask_e n, s_DrawHiddenCard_e n, i_HiddenCard_e n, s_HiddenCard_e n, i_LinesIn_e n, i_IsLine_e n, v_rIn_e n, i_SumCards_e n], n, [(92, ⟨[(3, (.own 0)), (4, (.data true tI)), (5, (.own 1)), (6, (.data true .bool)), (26, (.own 2)), (27, (.data true tI)), (28, (.data true .bool))], [.rows 30 true (.arr 4 tI), .rows 30 true (.arr 4 tI), .rows 30 true (.arr 4 tI)], 0⟩), (96, ⟨[(3, (.own 0)), (4, (.data true tI)), (5, (.own 1)), (6, (.data true .bool)), (26, (.own 2)), (27, (.data true tI)), (28, (.data true .bool)), (31, (.own 3)), (33, (.ptr 4 []))], [.rows 30 true (.arr 4 tI), .rows 30 true (.arr 4 tI), .rows 30 true (.arr 4 tI), .rows 30 true (.arr 4 tI), .var 30 (.data true (.arr 4 tI))], 0⟩), (105, ⟨[(3, (.own 0)), (4, (.data true tI)), (5, (.own 1)), (6, (.data true .bool)), (26, (.own 2)), (27, (.data true tI)), (28, (.data true .bool)), (31, (.own 3)), (32, (.ptr 4 [])), (33, (.ptr 5 [])), (37, (.ptr 6 [])), (39, (.data true tI))], [.rows 30 true (.arr 4 tI), .rows 30 true (.arr 4 tI), .rows 30 true (.arr 4 tI), .rows 30 true (.arr 4 tI), .var 30 (.data true (.arr 4 tI)), .var 30 (.data true (.arr 4 tI)), .var 30 (.data true (.arr 4 tI))], 0⟩), (131, ⟨[(3, (.own 0)), (4, (.data true tI)), (5, (.own 1)), (6, (.data true .bool))], [.rows 30 true (.arr 4 tI), .rows 30 true (.arr 4 tI)], 0⟩), (159, ⟨[(3, (.own 0)), (4, (.data true tI)), (5, (.own 1)), (42, (.data true tI)), (43, (.data true tI))], [.rows 30 true (.arr 4 tI), .rows 30 true (.arr 4 tI)], 0⟩), (194, ⟨[(3, (.own 0)), (4, (.data true tI)), (46, (.own 1)), (48, (.data true tI))], [.rows 30 true (.arr 4 tI), .rows 52 true (.arr 3 tI)], 0⟩)]⟩ Tryz.f3 v_FnShadows_i v_FnShadows_o x = v_FnShadows n x := by kernel_rfl
noncomputable def v_FnShadows_e (n : Nat) : Ent := ⟨3, v_FnShadows_i, v_FnShadows_o, fun x => v_FnShadows n x⟩
theorem v_FnShadows_ok (n : Nat) : EntOK Tryz.prog (v_FnShadows_e n) ∧ Own Tryz.prog 3 := ent_ok tabOK0 (.cons (v_rBig_ok n) (.cons (s_DrawShadowHand_ok n) (.cons (i_ShadowHand_ok n) (.cons (s_ShadowHand_ok n) (.cons (v_rHand_ok n) (.cons (s_DrawShadowOf_ok n) (.cons (i_ShadowOf_ok n) (.cons (s_ShadowOf_ok n) (.cons (i_IsCard_ok n) (.cons (i_IsMask_ok n) (.cons (s_DrawCountBehind_ok n) (.cons (i_CountBehind_ok n) (.cons (s_CountBehind_ok n) (.cons (i_ShadowLines_ok n) (.cons (s_ShadowLines_ok n) (.cons (s_DrawLeastMask_ok n) (.cons (i_LeastMask_ok n) (.cons (s_LeastMask_ok n) (.cons (s_DrawHiddenCard_ok n) (.cons (i_HiddenCard_ok n) (.cons (s_HiddenCard_ok n) (.cons (i_LinesIn_ok n) (.cons (i_IsLine_ok n) (.cons (v_rIn_ok n) (.cons (i_SumCards_ok n) .nil))))))))))))))))))))))))) Tryz.func3 rfl (by kernel_rfl) (v_FnShadows_ev n)
end Go.Proofs.YtbkbkaonjhlplaaGreat
