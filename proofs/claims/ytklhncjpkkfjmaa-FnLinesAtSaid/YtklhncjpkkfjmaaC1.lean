/- Printed by a program of the session: the contracts of the seat's functions. -/
import Derived.Test.YtklhncjpkkfjmaaZ7
import Derived.Test.YtklhncjpkkfjmaaPL
import Derived.Test.YtklhncjpkkfjmaaRows
import Derived.KernelRfl
namespace Go.Proofs.Ytklhncjpkkfjmaa
open Go Go.Tv Go.Pl Go.RowKit
set_option linter.unusedVariables false
abbrev tI : Ty := .int .i64
def tab : Tab := ⟨[(2, ⟨tI, 0, 8⟩), (3, ⟨tI, 0, 8⟩), (4, ⟨.bool, 0, 1⟩), (5, ⟨(.int .u8), 0, 1⟩), (6, ⟨(.int .u8), 0, 1⟩), (7, ⟨(.pair tI (.pair tI (.pair .bool (.int .u8)))), 4, 24⟩), (8, ⟨(.pair tI (.pair tI (.pair .bool (.int .u8)))), 4, 24⟩), (9, ⟨.str, 0, 16⟩), (10, ⟨.str, 0, 16⟩), (11, ⟨.str, 0, 16⟩), (12, ⟨(.int .u64), 0, 8⟩), (13, ⟨(.pair .str (.int .u64)), 2, 24⟩), (14, ⟨(.pair .str (.int .u64)), 2, 24⟩), (21, ⟨(.int .i32), 0, 4⟩), (22, ⟨(.sl (.int .u8)), 5, 1⟩), (24, ⟨(.sl (.arr 4 tI)), 43, 32⟩), (26, ⟨(.sl (.arr 3 tI)), 89, 24⟩), (43, ⟨(.arr 4 tI), 3, 8⟩), (46, ⟨(.pair (.sl (.arr 4 tI)) (.pair tI tI)), 3, 40⟩), (47, ⟨(.pair (.sl (.arr 4 tI)) (.pair tI tI)), 3, 40⟩), (49, ⟨(.pair (.sl (.arr 4 tI)) (.pair tI tI)), 3, 40⟩), (50, ⟨(.pair .str (.pair .str tI)), 3, 40⟩), (51, ⟨(.pair .str (.pair .str tI)), 3, 40⟩), (52, ⟨(.pair (.pair (.sl (.arr 4 tI)) (.pair tI tI)) (.pair .str (.pair .str tI))), 2, 80⟩), (53, ⟨(.pair (.pair (.sl (.arr 4 tI)) (.pair tI tI)) (.pair .str (.pair .str tI))), 2, 80⟩), (77, ⟨(.sl tI), 3, 8⟩), (87, ⟨(.pair tI (.pair tI (.sl (.arr 4 tI)))), 3, 40⟩), (88, ⟨(.pair tI (.pair tI (.sl (.arr 4 tI)))), 3, 40⟩), (89, ⟨(.arr 3 tI), 3, 8⟩), (101, ⟨(.arr 81 .bool), 4, 1⟩), (112, ⟨(.int .u64), 0, 8⟩), (113, ⟨(.pair (.sl (.int .u8)) (.pair tI (.int .u64))), 3, 40⟩), (114, ⟨(.pair (.sl (.int .u8)) (.pair tI (.int .u64))), 3, 40⟩), (163, ⟨(.arr 81 tI), 3, 8⟩), (173, ⟨(.sl (.arr 2 tI)), 181, 16⟩), (178, ⟨(.int .u64), 0, 8⟩), (181, ⟨(.arr 2 tI), 3, 8⟩), (183, ⟨(.sl (.sl (.arr 4 tI))), 24, 24⟩), (187, ⟨tI, 0, 8⟩), (194, ⟨(.int .u32), 0, 4⟩), (196, ⟨(.int .u64), 0, 8⟩), (211, ⟨(.int .u8), 0, 1⟩), (212, ⟨(.int .u8), 0, 1⟩), (215, ⟨(.int .i32), 0, 4⟩), (216, ⟨(.int .i32), 0, 4⟩)], [7, 8, 43, 50, 51, 89, 101, 163, 181], [1, 23, 25, 28, 30, 32, 33, 34, 36, 38, 40, 41, 42, 45, 48, 55, 56, 57, 58, 59, 60, 61, 63, 64, 66, 67, 68, 69, 70, 71, 72, 73, 75, 76, 79, 80, 81, 82, 83, 84, 85, 86, 91, 93, 94, 95, 96, 97, 98, 99, 100, 102, 103, 104, 105, 106, 107, 108, 109, 110, 115, 116, 117, 118, 119, 120, 121, 122, 123, 124, 125, 126, 127, 128, 129, 130, 131, 132, 133, 134, 135, 136, 137, 138, 139, 140, 141, 142, 143, 144, 145, 146, 147, 148, 149, 150, 151, 152, 153, 154, 155, 156, 157, 158, 159, 160, 161, 162, 164, 165, 166, 167, 168, 169, 170, 171, 172, 174, 175, 176, 177, 179, 180, 182, 184, 185, 186, 189, 190, 191, 192, 193, 195, 197, 198, 199, 201, 204, 205, 213]⟩
theorem tabOK0 : TabOK Try.prog tab := ⟨by kernel_rfl, by kernel_rfl⟩
def v_vBig_i : CSh := ⟨[(.data false (.sl (.int .u8)))], []⟩
def v_vBig_o : RSh := ⟨(.data true .bool), []⟩
theorem v_vBig_ev (n : Nat) (x : TupT v_vBig_i.tys) : evF ⟨tab, [], n, []⟩ Try.f11 v_vBig_i v_vBig_o x = v_vBig n x := by kernel_rfl
noncomputable def v_vBig_e (n : Nat) : Ent := ⟨11, v_vBig_i, v_vBig_o, fun x => v_vBig n x⟩
theorem v_vBig_ok (n : Nat) : EntOK Try.prog (v_vBig_e n) ∧ Own Try.prog 11 := ent_ok tabOK0 .nil Try.func11 rfl (by kernel_rfl) (v_vBig_ev n)
def s_Cur_next'p_i : CSh := ⟨[(.ptr 0 [])], [.var 114 (.data true (.pair (.sl (.int .u8)) (.pair tI (.int .u64))))]⟩
def s_Cur_next'p_o : RSh := ⟨(.data true tI), [.var 114 (.data true (.pair (.sl (.int .u8)) (.pair tI (.int .u64))))]⟩
theorem s_Cur_next'p_ev (n : Nat) (x : TupT s_Cur_next'p_i.tys) : evF ⟨tab, [], n, [(4, ⟨[(0, (.ptr 0 [])), (3, (.data true tI))], [.var 114 (.data true (.pair (.sl (.int .u8)) (.pair tI (.int .u64))))], 1⟩)]⟩ Try.f218 s_Cur_next'p_i s_Cur_next'p_o x = s_Cur_next'p n x := by kernel_rfl
noncomputable def s_Cur_next'p_e (n : Nat) : Ent := ⟨218, s_Cur_next'p_i, s_Cur_next'p_o, fun x => s_Cur_next'p n x⟩
theorem s_Cur_next'p_ok (n : Nat) : EntOK Try.prog (s_Cur_next'p_e n) ∧ Own Try.prog 218 := ent_ok tabOK0 .nil Try.func218 rfl (by kernel_rfl) (s_Cur_next'p_ev n)
def s_Cur_pick'p_i : CSh := ⟨[(.ptr 0 []), (.data true tI)], [.var 114 (.data true (.pair (.sl (.int .u8)) (.pair tI (.int .u64))))]⟩
def s_Cur_pick'p_o : RSh := ⟨(.data true tI), [.var 114 (.data true (.pair (.sl (.int .u8)) (.pair tI (.int .u64))))]⟩
theorem s_Cur_pick'p_ev (n : Nat) (x : TupT s_Cur_pick'p_i.tys) : evF ⟨tab, [s_Cur_next'p_e n], n, []⟩ Try.f131 s_Cur_pick'p_i s_Cur_pick'p_o x = s_Cur_pick'p n x.1 x.2 := by kernel_rfl
noncomputable def s_Cur_pick'p_e (n : Nat) : Ent := ⟨131, s_Cur_pick'p_i, s_Cur_pick'p_o, fun x => s_Cur_pick'p n x.1 x.2⟩
theorem s_Cur_pick'p_ok (n : Nat) : EntOK Try.prog (s_Cur_pick'p_e n) ∧ Own Try.prog 131 := ent_ok tabOK0 (.cons (s_Cur_next'p_ok n) .nil) Try.func131 rfl (by kernel_rfl) (s_Cur_pick'p_ev n)
def s_Cur_among'pl_i : CSh := ⟨[(.ptr 0 []), (.data false (.sl tI))], [.var 114 (.data true (.pair (.sl (.int .u8)) (.pair tI (.int .u64))))]⟩
def s_Cur_among'pl_o : RSh := ⟨(.data true tI), [.var 114 (.data true (.pair (.sl (.int .u8)) (.pair tI (.int .u64))))]⟩
theorem s_Cur_among'pl_ev (n : Nat) (x : TupT s_Cur_among'pl_i.tys) : evF ⟨tab, [s_Cur_pick'p_e n], n, []⟩ Try.f130 s_Cur_among'pl_i s_Cur_among'pl_o x = s_Cur_among'pl n x.1 x.2 := by kernel_rfl
noncomputable def s_Cur_among'pl_e (n : Nat) : Ent := ⟨130, s_Cur_among'pl_i, s_Cur_among'pl_o, fun x => s_Cur_among'pl n x.1 x.2⟩
theorem s_Cur_among'pl_ok (n : Nat) : EntOK Try.prog (s_Cur_among'pl_e n) ∧ Own Try.prog 130 := ent_ok tabOK0 (.cons (s_Cur_pick'p_ok n) .nil) Try.func130 rfl (by kernel_rfl) (s_Cur_among'pl_ev n)
def s_l2At_i : CSh := ⟨[(.data true tI)], []⟩
def s_l2At_o : RSh := ⟨(.data true (.arr 4 tI)), []⟩
theorem s_l2At_ev (n : Nat) (x : TupT s_l2At_i.tys) : evF ⟨tab, [], n, []⟩ Try.f164 s_l2At_i s_l2At_o x = s_l2At n x := by kernel_rfl
noncomputable def s_l2At_e (n : Nat) : Ent := ⟨164, s_l2At_i, s_l2At_o, fun x => s_l2At n x⟩
theorem s_l2At_ok (n : Nat) : EntOK Try.prog (s_l2At_e n) ∧ Own Try.prog 164 := ent_ok tabOK0 .nil Try.func164 rfl (by kernel_rfl) (s_l2At_ev n)
def s_l2Number_i : CSh := ⟨[(.data true (.arr 4 tI))], []⟩
def s_l2Number_o : RSh := ⟨(.data true tI), []⟩
theorem s_l2Number_ev (n : Nat) (x : TupT s_l2Number_i.tys) : evF ⟨tab, [], n, []⟩ Try.f162 s_l2Number_i s_l2Number_o x = s_l2Number n x := by kernel_rfl
noncomputable def s_l2Number_e (n : Nat) : Ent := ⟨162, s_l2Number_i, s_l2Number_o, fun x => s_l2Number n x⟩
theorem s_l2Number_ok (n : Nat) : EntOK Try.prog (s_l2Number_e n) ∧ Own Try.prog 162 := ent_ok tabOK0 .nil Try.func162 rfl (by kernel_rfl) (s_l2Number_ev n)
def s_l2Less_i : CSh := ⟨[(.data true (.arr 4 tI)), (.data true (.arr 4 tI))], []⟩
def s_l2Less_o : RSh := ⟨(.data true .bool), []⟩
theorem s_l2Less_ev (n : Nat) (x : TupT s_l2Less_i.tys) : evF ⟨tab, [s_l2Number_e n], n, []⟩ Try.f215 s_l2Less_i s_l2Less_o x = s_l2Less n x.1 x.2 := by kernel_rfl
noncomputable def s_l2Less_e (n : Nat) : Ent := ⟨215, s_l2Less_i, s_l2Less_o, fun x => s_l2Less n x.1 x.2⟩
theorem s_l2Less_ok (n : Nat) : EntOK Try.prog (s_l2Less_e n) ∧ Own Try.prog 215 := ent_ok tabOK0 (.cons (s_l2Number_ok n) .nil) Try.func215 rfl (by kernel_rfl) (s_l2Less_ev n)
def s_l2Own_i : CSh := ⟨[(.data false (.sl (.arr 4 tI)))], []⟩
def s_l2Own_o : RSh := ⟨(.own 0), [.rows 43 true (.arr 4 tI)]⟩
theorem s_l2Own_ev (n : Nat) (x : TupT s_l2Own_i.tys) : evF ⟨tab, [], n, []⟩ Try.f223 s_l2Own_i s_l2Own_o x = s_l2Own n x := by kernel_rfl
noncomputable def s_l2Own_e (n : Nat) : Ent := ⟨223, s_l2Own_i, s_l2Own_o, fun x => s_l2Own n x⟩
theorem s_l2Own_ok (n : Nat) : EntOK Try.prog (s_l2Own_e n) ∧ Own Try.prog 223 := ent_ok tabOK0 .nil Try.func223 rfl (by kernel_rfl) (s_l2Own_ev n)
def s_l2Put_i : CSh := ⟨[(.data false (.sl (.arr 4 tI))), (.data true (.arr 4 tI))], []⟩
def s_l2Put_o : RSh := ⟨(.own 0), [.rows 43 true (.arr 4 tI)]⟩
theorem s_l2Put_ev (n : Nat) (x : TupT s_l2Put_i.tys) : evF ⟨tab, [s_l2Less_e n, s_l2Own_e n], n, [(6, ⟨[(0, (.data false (.sl (.arr 4 tI)))), (3, (.ptr 0 [])), (5, (.data true tI))], [.var 43 (.data true (.arr 4 tI))], 0⟩)]⟩ Try.f183 s_l2Put_i s_l2Put_o x = s_l2Put n x.1 x.2 := by kernel_rfl
noncomputable def s_l2Put_e (n : Nat) : Ent := ⟨183, s_l2Put_i, s_l2Put_o, fun x => s_l2Put n x.1 x.2⟩
theorem s_l2Put_ok (n : Nat) : EntOK Try.prog (s_l2Put_e n) ∧ Own Try.prog 183 := ent_ok tabOK0 (.cons (s_l2Less_ok n) (.cons (s_l2Own_ok n) .nil)) Try.func183 rfl (by kernel_rfl) (s_l2Put_ev n)
def s_Cur_one'p_i : CSh := ⟨[(.ptr 0 []), (.data true tI)], [.var 114 (.data true (.pair (.sl (.int .u8)) (.pair tI (.int .u64))))]⟩
def s_Cur_one'p_o : RSh := ⟨(.data true .bool), [.var 114 (.data true (.pair (.sl (.int .u8)) (.pair tI (.int .u64))))]⟩
theorem s_Cur_one'p_ev (n : Nat) (x : TupT s_Cur_one'p_i.tys) : evF ⟨tab, [s_Cur_pick'p_e n], n, []⟩ Try.f154 s_Cur_one'p_i s_Cur_one'p_o x = s_Cur_one'p n x.1 x.2 := by kernel_rfl
noncomputable def s_Cur_one'p_e (n : Nat) : Ent := ⟨154, s_Cur_one'p_i, s_Cur_one'p_o, fun x => s_Cur_one'p n x.1 x.2⟩
theorem s_Cur_one'p_ok (n : Nat) : EntOK Try.prog (s_Cur_one'p_e n) ∧ Own Try.prog 154 := ent_ok tabOK0 (.cons (s_Cur_pick'p_ok n) .nil) Try.func154 rfl (by kernel_rfl) (s_Cur_one'p_ev n)
def s_Cur_hand'p_i : CSh := ⟨[(.ptr 0 [])], [.var 114 (.data true (.pair (.sl (.int .u8)) (.pair tI (.int .u64))))]⟩
def s_Cur_hand'p_o : RSh := ⟨(.own 1), [.var 114 (.data true (.pair (.sl (.int .u8)) (.pair tI (.int .u64)))), .rows 43 true (.arr 4 tI)]⟩
theorem s_Cur_hand'p_ev (n : Nat) (x : TupT s_Cur_hand'p_i.tys) : evF ⟨tab, [s_Cur_among'pl_e n, s_Cur_pick'p_e n, s_l2At_e n, s_l2Put_e n, s_Cur_one'p_e n], n, [(8, ⟨[(0, (.ptr 0 [])), (3, (.own 1)), (4, (.data true tI)), (5, (.data true tI))], [.var 114 (.data true (.pair (.sl (.int .u8)) (.pair tI (.int .u64)))), .rows 43 true (.arr 4 tI)], 1⟩), (23, ⟨[(0, (.ptr 0 [])), (3, (.own 1)), (4, (.data true tI)), (5, (.data true tI)), (6, (.ptr 2 [])), (7, (.data true tI))], [.var 114 (.data true (.pair (.sl (.int .u8)) (.pair tI (.int .u64)))), .rows 43 true (.arr 4 tI), .var 43 (.data true (.arr 4 tI))], 1⟩), (5000038, ⟨[(0, (.ptr 0 [])), (3, (.own 1)), (39, (.data true .bool))], [.var 114 (.data true (.pair (.sl (.int .u8)) (.pair tI (.int .u64)))), .rows 43 true (.arr 4 tI)], 1⟩)]⟩ Try.f217 s_Cur_hand'p_i s_Cur_hand'p_o x = s_Cur_hand'p n x := by kernel_rfl
noncomputable def s_Cur_hand'p_e (n : Nat) : Ent := ⟨217, s_Cur_hand'p_i, s_Cur_hand'p_o, fun x => s_Cur_hand'p n x⟩
theorem s_Cur_hand'p_ok (n : Nat) : EntOK Try.prog (s_Cur_hand'p_e n) ∧ Own Try.prog 217 := ent_ok tabOK0 (.cons (s_Cur_among'pl_ok n) (.cons (s_Cur_pick'p_ok n) (.cons (s_l2At_ok n) (.cons (s_l2Put_ok n) (.cons (s_Cur_one'p_ok n) .nil))))) Try.func217 rfl (by kernel_rfl) (s_Cur_hand'p_ev n)
def s_l1In_i : CSh := ⟨[(.data true tI), (.data true tI), (.data true tI)], []⟩
def s_l1In_o : RSh := ⟨(.data true .bool), []⟩
theorem s_l1In_ev (n : Nat) (x : TupT s_l1In_i.tys) : evF ⟨tab, [], n, []⟩ Try.f133 s_l1In_i s_l1In_o x = s_l1In n x.1 x.2.1 x.2.2 := by kernel_rfl
noncomputable def s_l1In_e (n : Nat) : Ent := ⟨133, s_l1In_i, s_l1In_o, fun x => s_l1In n x.1 x.2.1 x.2.2⟩
theorem s_l1In_ok (n : Nat) : EntOK Try.prog (s_l1In_e n) ∧ Own Try.prog 133 := ent_ok tabOK0 .nil Try.func133 rfl (by kernel_rfl) (s_l1In_ev n)
def s_l2Card_i : CSh := ⟨[(.data true (.arr 4 tI))], []⟩
def s_l2Card_o : RSh := ⟨(.data true .bool), []⟩
theorem s_l2Card_ev (n : Nat) (x : TupT s_l2Card_i.tys) : evF ⟨tab, [s_l1In_e n], n, [(6, ⟨[(1, (.ptr 0 [])), (3, (.data true tI))], [.var 43 (.data true (.arr 4 tI))], 0⟩)]⟩ Try.f152 s_l2Card_i s_l2Card_o x = s_l2Card n x := by kernel_rfl
noncomputable def s_l2Card_e (n : Nat) : Ent := ⟨152, s_l2Card_i, s_l2Card_o, fun x => s_l2Card n x⟩
theorem s_l2Card_ok (n : Nat) : EntOK Try.prog (s_l2Card_e n) ∧ Own Try.prog 152 := ent_ok tabOK0 (.cons (s_l1In_ok n) .nil) Try.func152 rfl (by kernel_rfl) (s_l2Card_ev n)
def s_l2Hand_i : CSh := ⟨[(.data false (.sl (.arr 4 tI)))], []⟩
def s_l2Hand_o : RSh := ⟨(.data true .bool), []⟩
theorem s_l2Hand_ev (n : Nat) (x : TupT s_l2Hand_i.tys) : evF ⟨tab, [s_l2Card_e n, s_l2Less_e n], n, [(6, ⟨[(0, (.data false (.sl (.arr 4 tI)))), (3, (.data true tI))], [], 0⟩)]⟩ Try.f125 s_l2Hand_i s_l2Hand_o x = s_l2Hand n x := by kernel_rfl
noncomputable def s_l2Hand_e (n : Nat) : Ent := ⟨125, s_l2Hand_i, s_l2Hand_o, fun x => s_l2Hand n x⟩
theorem s_l2Hand_ok (n : Nat) : EntOK Try.prog (s_l2Hand_e n) ∧ Own Try.prog 125 := ent_ok tabOK0 (.cons (s_l2Card_ok n) (.cons (s_l2Less_ok n) .nil)) Try.func125 rfl (by kernel_rfl) (s_l2Hand_ev n)
def s_l2Third_i : CSh := ⟨[(.data true (.arr 4 tI)), (.data true (.arr 4 tI))], []⟩
def s_l2Third_o : RSh := ⟨(.data true (.arr 4 tI)), []⟩
theorem s_l2Third_ev (n : Nat) (x : TupT s_l2Third_i.tys) : evF ⟨tab, [], n, [(8, ⟨[(2, (.ptr 0 [])), (3, (.ptr 1 [])), (4, (.ptr 2 [])), (5, (.ptr 3 [])), (6, (.data true tI))], [.var 43 (.data true (.arr 4 tI)), .var 43 (.data true (.arr 4 tI)), .var 43 (.data true (.arr 4 tI)), .var 43 (.data true (.arr 4 tI))], 0⟩)]⟩ Try.f153 s_l2Third_i s_l2Third_o x = s_l2Third n x.1 x.2 := by kernel_rfl
noncomputable def s_l2Third_e (n : Nat) : Ent := ⟨153, s_l2Third_i, s_l2Third_o, fun x => s_l2Third n x.1 x.2⟩
theorem s_l2Third_ok (n : Nat) : EntOK Try.prog (s_l2Third_e n) ∧ Own Try.prog 153 := ent_ok tabOK0 .nil Try.func153 rfl (by kernel_rfl) (s_l2Third_ev n)
def s_Cur_dense7'p_i : CSh := ⟨[(.ptr 0 [])], [.var 114 (.data true (.pair (.sl (.int .u8)) (.pair tI (.int .u64))))]⟩
def s_Cur_dense7'p_o : RSh := ⟨(.own 1), [.var 114 (.data true (.pair (.sl (.int .u8)) (.pair tI (.int .u64)))), .rows 43 true (.arr 4 tI)]⟩
theorem s_Cur_dense7'p_ev (n : Nat) (x : TupT s_Cur_dense7'p_i.tys) : evF ⟨tab, [s_Cur_hand'p_e n, s_l2Hand_e n, s_Cur_among'pl_e n, s_Cur_pick'p_e n, s_l2At_e n, s_l2Put_e n, s_l2Third_e n, s_Cur_one'p_e n], n, [(18, ⟨[(0, (.ptr 0 [])), (4, (.own 1)), (5, (.data true tI))], [.var 114 (.data true (.pair (.sl (.int .u8)) (.pair tI (.int .u64)))), .rows 43 true (.arr 4 tI)], 1⟩), (29, ⟨[(0, (.ptr 0 [])), (4, (.own 1)), (5, (.data true tI)), (6, (.ptr 2 [])), (7, (.ptr 3 []))], [.var 114 (.data true (.pair (.sl (.int .u8)) (.pair tI (.int .u64)))), .rows 43 true (.arr 4 tI), .var 43 (.data true (.arr 4 tI)), .var 43 (.data true (.arr 4 tI))], 1⟩), (5000006, ⟨[(0, (.ptr 0 [])), (3, (.own 1)), (16, (.data true .bool))], [.var 114 (.data true (.pair (.sl (.int .u8)) (.pair tI (.int .u64)))), .rows 43 true (.arr 4 tI)], 1⟩), (5000031, ⟨[(0, (.ptr 0 [])), (4, (.own 1)), (5, (.data true tI)), (6, (.ptr 2 [])), (7, (.ptr 3 [])), (38, (.data true .bool))], [.var 114 (.data true (.pair (.sl (.int .u8)) (.pair tI (.int .u64)))), .rows 43 true (.arr 4 tI), .var 43 (.data true (.arr 4 tI)), .var 43 (.data true (.arr 4 tI))], 1⟩)]⟩ Try.f129 s_Cur_dense7'p_i s_Cur_dense7'p_o x = s_Cur_dense7'p n x := by kernel_rfl
noncomputable def s_Cur_dense7'p_e (n : Nat) : Ent := ⟨129, s_Cur_dense7'p_i, s_Cur_dense7'p_o, fun x => s_Cur_dense7'p n x⟩
theorem s_Cur_dense7'p_ok (n : Nat) : EntOK Try.prog (s_Cur_dense7'p_e n) ∧ Own Try.prog 129 := ent_ok tabOK0 (.cons (s_Cur_hand'p_ok n) (.cons (s_l2Hand_ok n) (.cons (s_Cur_among'pl_ok n) (.cons (s_Cur_pick'p_ok n) (.cons (s_l2At_ok n) (.cons (s_l2Put_ok n) (.cons (s_l2Third_ok n) (.cons (s_Cur_one'p_ok n) .nil)))))))) Try.func129 rfl (by kernel_rfl) (s_Cur_dense7'p_ev n)
def s_l1Least_i : CSh := ⟨[(.data true tI), (.data true tI)], []⟩
def s_l1Least_o : RSh := ⟨(.data true tI), []⟩
theorem s_l1Least_ev (n : Nat) (x : TupT s_l1Least_i.tys) : evF ⟨tab, [], n, []⟩ Try.f180 s_l1Least_i s_l1Least_o x = s_l1Least n x.1 x.2 := by kernel_rfl
noncomputable def s_l1Least_e (n : Nat) : Ent := ⟨180, s_l1Least_i, s_l1Least_o, fun x => s_l1Least n x.1 x.2⟩
theorem s_l1Least_ok (n : Nat) : EntOK Try.prog (s_l1Least_e n) ∧ Own Try.prog 180 := ent_ok tabOK0 .nil Try.func180 rfl (by kernel_rfl) (s_l1Least_ev n)
def s_l1Most_i : CSh := ⟨[(.data true tI), (.data true tI)], []⟩
def s_l1Most_o : RSh := ⟨(.data true tI), []⟩
theorem s_l1Most_ev (n : Nat) (x : TupT s_l1Most_i.tys) : evF ⟨tab, [], n, []⟩ Try.f179 s_l1Most_i s_l1Most_o x = s_l1Most n x.1 x.2 := by kernel_rfl
noncomputable def s_l1Most_e (n : Nat) : Ent := ⟨179, s_l1Most_i, s_l1Most_o, fun x => s_l1Most n x.1 x.2⟩
theorem s_l1Most_ok (n : Nat) : EntOK Try.prog (s_l1Most_e n) ∧ Own Try.prog 179 := ent_ok tabOK0 .nil Try.func179 rfl (by kernel_rfl) (s_l1Most_ev n)
def s_DrawLinesAt_i : CSh := ⟨[(.data false (.sl (.int .u8)))], []⟩
def s_DrawLinesAt_o : RSh := ⟨(.tcons (.own 0) (.tcons (.data true tI) .tnil)), [.rows 43 true (.arr 4 tI)]⟩
theorem s_DrawLinesAt_ev (n : Nat) (x : TupT s_DrawLinesAt_i.tys) : evF ⟨tab, [s_Cur_dense7'p_e n, s_l1Least_e n, s_l1Most_e n, s_Cur_pick'p_e n], n, []⟩ Try.f78 s_DrawLinesAt_i s_DrawLinesAt_o x = s_DrawLinesAt n x := by kernel_rfl
noncomputable def s_DrawLinesAt_e (n : Nat) : Ent := ⟨78, s_DrawLinesAt_i, s_DrawLinesAt_o, fun x => s_DrawLinesAt n x⟩
theorem s_DrawLinesAt_ok (n : Nat) : EntOK Try.prog (s_DrawLinesAt_e n) ∧ Own Try.prog 78 := ent_ok tabOK0 (.cons (s_Cur_dense7'p_ok n) (.cons (s_l1Least_ok n) (.cons (s_l1Most_ok n) (.cons (s_Cur_pick'p_ok n) .nil)))) Try.func78 rfl (by kernel_rfl) (s_DrawLinesAt_ev n)
def i_within_i : CSh := ⟨[(.data true tI), (.data true tI), (.data true tI)], []⟩
def i_within_o : RSh := ⟨(.data true .bool), []⟩
theorem i_within_ev (n : Nat) (x : TupT i_within_i.tys) : evF ⟨tab, [], n, []⟩ Try.f132 i_within_i i_within_o x = i_within n x.1 x.2.1 x.2.2 := by kernel_rfl
noncomputable def i_within_e (n : Nat) : Ent := ⟨132, i_within_i, i_within_o, fun x => i_within n x.1 x.2.1 x.2.2⟩
theorem i_within_ok (n : Nat) : EntOK Try.prog (i_within_e n) ∧ Own Try.prog 132 := ent_ok tabOK0 .nil Try.func132 rfl (by kernel_rfl) (i_within_ev n)
def i_allWithin_1'pp_i : CSh := ⟨[(.data true tI), (.ptr 0 []), (.ptr 1 [])], [.var 3 (.data true tI), .var 3 (.data true tI)]⟩
def i_allWithin_1'pp_o : RSh := ⟨(.data true .bool), [.var 3 (.data true tI), .var 3 (.data true tI)]⟩
theorem i_allWithin_1'pp_ev (n : Nat) (x : TupT i_allWithin_1'pp_i.tys) : evF ⟨tab, [i_within_e n], n, []⟩ Try.f229 i_allWithin_1'pp_i i_allWithin_1'pp_o x = i_allWithin_1'pp n x.1 x.2.1 x.2.2 := by kernel_rfl
noncomputable def i_allWithin_1'pp_e (n : Nat) : Ent := ⟨229, i_allWithin_1'pp_i, i_allWithin_1'pp_o, fun x => i_allWithin_1'pp n x.1 x.2.1 x.2.2⟩
theorem i_allWithin_1'pp_ok (n : Nat) : EntOK Try.prog (i_allWithin_1'pp_e n) ∧ Own Try.prog 229 := ent_ok tabOK0 (.cons (i_within_ok n) .nil) Try.func229 rfl (by kernel_rfl) (i_allWithin_1'pp_ev n)
def slices_IndexFunc_Sint_int_'l_i_allWithin_1pp_i : CSh := ⟨[(.data false (.sl tI)), (.clo 229 (.tcons (.ptr 0 []) (.tcons (.ptr 1 []) .tnil)))], [.var 3 (.data true tI), .var 3 (.data true tI)]⟩
def slices_IndexFunc_Sint_int_'l_i_allWithin_1pp_o : RSh := ⟨(.data true tI), [.var 3 (.data true tI), .var 3 (.data true tI)]⟩
theorem slices_IndexFunc_Sint_int_'l_i_allWithin_1pp_ev (n : Nat) (x : TupT slices_IndexFunc_Sint_int_'l_i_allWithin_1pp_i.tys) : evF ⟨tab, [i_allWithin_1'pp_e n], n, [(6, ⟨[(0, (.data false (.sl tI))), (1, (.clo 229 (.tcons (.ptr 0 []) (.tcons (.ptr 1 []) .tnil)))), (7, (.data true tI)), (8, (.data true tI))], [.var 3 (.data true tI), .var 3 (.data true tI)], 2⟩)]⟩ Try.f246 slices_IndexFunc_Sint_int_'l_i_allWithin_1pp_i slices_IndexFunc_Sint_int_'l_i_allWithin_1pp_o x = slices_IndexFunc_Sint_int_'l_i_allWithin_1pp n x.1 x.2.1 x.2.2 := by kernel_rfl
noncomputable def slices_IndexFunc_Sint_int_'l_i_allWithin_1pp_e (n : Nat) : Ent := ⟨246, slices_IndexFunc_Sint_int_'l_i_allWithin_1pp_i, slices_IndexFunc_Sint_int_'l_i_allWithin_1pp_o, fun x => slices_IndexFunc_Sint_int_'l_i_allWithin_1pp n x.1 x.2.1 x.2.2⟩
theorem slices_IndexFunc_Sint_int_'l_i_allWithin_1pp_ok (n : Nat) : EntOK Try.prog (slices_IndexFunc_Sint_int_'l_i_allWithin_1pp_e n) ∧ Own Try.prog 246 := ent_ok tabOK0 (.cons (i_allWithin_1'pp_ok n) .nil) Try.func246 rfl (by kernel_rfl) (slices_IndexFunc_Sint_int_'l_i_allWithin_1pp_ev n)
def slices_ContainsFunc_Sint_int_'l_i_allWithin_1pp_i : CSh := ⟨[(.data false (.sl tI)), (.clo 229 (.tcons (.ptr 0 []) (.tcons (.ptr 1 []) .tnil)))], [.var 3 (.data true tI), .var 3 (.data true tI)]⟩
def slices_ContainsFunc_Sint_int_'l_i_allWithin_1pp_o : RSh := ⟨(.data true .bool), [.var 3 (.data true tI), .var 3 (.data true tI)]⟩
theorem slices_ContainsFunc_Sint_int_'l_i_allWithin_1pp_ev (n : Nat) (x : TupT slices_ContainsFunc_Sint_int_'l_i_allWithin_1pp_i.tys) : evF ⟨tab, [slices_IndexFunc_Sint_int_'l_i_allWithin_1pp_e n], n, []⟩ Try.f228 slices_ContainsFunc_Sint_int_'l_i_allWithin_1pp_i slices_ContainsFunc_Sint_int_'l_i_allWithin_1pp_o x = slices_ContainsFunc_Sint_int_'l_i_allWithin_1pp n x.1 x.2.1 x.2.2 := by kernel_rfl
noncomputable def slices_ContainsFunc_Sint_int_'l_i_allWithin_1pp_e (n : Nat) : Ent := ⟨228, slices_ContainsFunc_Sint_int_'l_i_allWithin_1pp_i, slices_ContainsFunc_Sint_int_'l_i_allWithin_1pp_o, fun x => slices_ContainsFunc_Sint_int_'l_i_allWithin_1pp n x.1 x.2.1 x.2.2⟩
theorem slices_ContainsFunc_Sint_int_'l_i_allWithin_1pp_ok (n : Nat) : EntOK Try.prog (slices_ContainsFunc_Sint_int_'l_i_allWithin_1pp_e n) ∧ Own Try.prog 228 := ent_ok tabOK0 (.cons (slices_IndexFunc_Sint_int_'l_i_allWithin_1pp_ok n) .nil) Try.func228 rfl (by kernel_rfl) (slices_ContainsFunc_Sint_int_'l_i_allWithin_1pp_ev n)
def i_allWithin_i : CSh := ⟨[(.data false (.sl tI)), (.data true tI), (.data true tI)], []⟩
def i_allWithin_o : RSh := ⟨(.data true .bool), []⟩
theorem i_allWithin_ev (n : Nat) (x : TupT i_allWithin_i.tys) : evF ⟨tab, [slices_ContainsFunc_Sint_int_'l_i_allWithin_1pp_e n], n, []⟩ Try.f160 i_allWithin_i i_allWithin_o x = i_allWithin n x.1 x.2.1 x.2.2 := by kernel_rfl
noncomputable def i_allWithin_e (n : Nat) : Ent := ⟨160, i_allWithin_i, i_allWithin_o, fun x => i_allWithin n x.1 x.2.1 x.2.2⟩
theorem i_allWithin_ok (n : Nat) : EntOK Try.prog (i_allWithin_e n) ∧ Own Try.prog 160 := ent_ok tabOK0 (.cons (slices_ContainsFunc_Sint_int_'l_i_allWithin_1pp_ok n) .nil) Try.func160 rfl (by kernel_rfl) (i_allWithin_ev n)
def i_IsCard_i : CSh := ⟨[(.data true (.arr 4 tI))], []⟩
def i_IsCard_o : RSh := ⟨(.data true .bool), []⟩
theorem i_IsCard_ev (n : Nat) (x : TupT i_IsCard_i.tys) : evF ⟨tab, [i_allWithin_e n], n, []⟩ Try.f55 i_IsCard_i i_IsCard_o x = i_IsCard n x := by kernel_rfl
noncomputable def i_IsCard_e (n : Nat) : Ent := ⟨55, i_IsCard_i, i_IsCard_o, fun x => i_IsCard n x⟩
theorem i_IsCard_ok (n : Nat) : EntOK Try.prog (i_IsCard_e n) ∧ Own Try.prog 55 := ent_ok tabOK0 (.cons (i_allWithin_ok n) .nil) Try.func55 rfl (by kernel_rfl) (i_IsCard_ev n)
def i_number_i : CSh := ⟨[(.data true (.arr 4 tI))], []⟩
def i_number_o : RSh := ⟨(.data true tI), []⟩
theorem i_number_ev (n : Nat) (x : TupT i_number_i.tys) : evF ⟨tab, [], n, [(8, ⟨[(3, (.data true tI)), (6, (.data true (.arr 4 tI))), (7, (.data true tI))], [], 0⟩)]⟩ Try.f161 i_number_i i_number_o x = i_number n x := by kernel_rfl
noncomputable def i_number_e (n : Nat) : Ent := ⟨161, i_number_i, i_number_o, fun x => i_number n x⟩
theorem i_number_ok (n : Nat) : EntOK Try.prog (i_number_e n) ∧ Own Try.prog 161 := ent_ok tabOK0 .nil Try.func161 rfl (by kernel_rfl) (i_number_ev n)
def i_IsHand_i : CSh := ⟨[(.data false (.sl (.arr 4 tI)))], []⟩
def i_IsHand_o : RSh := ⟨(.data true .bool), []⟩
theorem i_IsHand_ev (n : Nat) (x : TupT i_IsHand_i.tys) : evF ⟨tab, [i_IsCard_e n, i_number_e n], n, [(6, ⟨[(0, (.data false (.sl (.arr 4 tI)))), (5, (.data false (.sl (.arr 4 tI)))), (6, (.data true tI)), (7, (.data true tI))], [], 0⟩)]⟩ Try.f120 i_IsHand_i i_IsHand_o x = i_IsHand n x := by kernel_rfl
noncomputable def i_IsHand_e (n : Nat) : Ent := ⟨120, i_IsHand_i, i_IsHand_o, fun x => i_IsHand n x⟩
theorem i_IsHand_ok (n : Nat) : EntOK Try.prog (i_IsHand_e n) ∧ Own Try.prog 120 := ent_ok tabOK0 (.cons (i_IsCard_ok n) (.cons (i_number_ok n) .nil)) Try.func120 rfl (by kernel_rfl) (i_IsHand_ev n)
def i_third_i : CSh := ⟨[(.data true (.arr 4 tI)), (.data true (.arr 4 tI))], []⟩
def i_third_o : RSh := ⟨(.data true (.arr 4 tI)), []⟩
theorem i_third_ev (n : Nat) (x : TupT i_third_i.tys) : evF ⟨tab, [], n, [(8, ⟨[(2, (.ptr 0 [])), (3, (.ptr 1 [])), (4, (.ptr 2 [])), (5, (.ptr 3 [])), (8, (.data true tI))], [.var 43 (.data true (.arr 4 tI)), .var 43 (.data true (.arr 4 tI)), .var 43 (.data true (.arr 4 tI)), .var 43 (.data true (.arr 4 tI))], 0⟩)]⟩ Try.f151 i_third_i i_third_o x = i_third n x.1 x.2 := by kernel_rfl
noncomputable def i_third_e (n : Nat) : Ent := ⟨151, i_third_i, i_third_o, fun x => i_third n x.1 x.2⟩
theorem i_third_ok (n : Nat) : EntOK Try.prog (i_third_e n) ∧ Own Try.prog 151 := ent_ok tabOK0 .nil Try.func151 rfl (by kernel_rfl) (i_third_ev n)
def i_linesIn_i : CSh := ⟨[(.data false (.sl (.arr 4 tI)))], []⟩
def i_linesIn_o : RSh := ⟨(.own 0), [.rows 89 true (.arr 3 tI)]⟩
theorem i_linesIn_ev (n : Nat) (x : TupT i_linesIn_i.tys) : evF ⟨tab, [i_number_e n, i_third_e n], n, [(8, ⟨[(0, (.data false (.sl (.arr 4 tI)))), (3, (.ptr 0 [])), (12, (.data false (.sl (.arr 4 tI)))), (13, (.data true tI)), (14, (.data true tI))], [.var 163 (.data true (.arr 81 tI))], 0⟩), (27, ⟨[(0, (.data false (.sl (.arr 4 tI)))), (3, (.ptr 0 [])), (6, (.own 1)), (26, (.data false (.sl (.arr 4 tI)))), (27, (.data true tI)), (28, (.data true tI))], [.var 163 (.data true (.arr 81 tI)), .rows 89 true (.arr 3 tI)], 0⟩), (41, ⟨[(0, (.data false (.sl (.arr 4 tI)))), (3, (.ptr 0 [])), (6, (.own 1)), (7, (.data true tI)), (8, (.ptr 2 [])), (9, (.data true tI)), (26, (.data false (.sl (.arr 4 tI)))), (27, (.data true tI)), (28, (.data true tI))], [.var 163 (.data true (.arr 81 tI)), .rows 89 true (.arr 3 tI), .var 43 (.data true (.arr 4 tI))], 0⟩)]⟩ Try.f121 i_linesIn_i i_linesIn_o x = i_linesIn n x := by kernel_rfl
noncomputable def i_linesIn_e (n : Nat) : Ent := ⟨121, i_linesIn_i, i_linesIn_o, fun x => i_linesIn n x⟩
theorem i_linesIn_ok (n : Nat) : EntOK Try.prog (i_linesIn_e n) ∧ Own Try.prog 121 := ent_ok tabOK0 (.cons (i_number_ok n) (.cons (i_third_ok n) .nil)) Try.func121 rfl (by kernel_rfl) (i_linesIn_ev n)
def slices_Index_Sint_int__i : CSh := ⟨[(.data false (.sl tI)), (.data true tI)], []⟩
def slices_Index_Sint_int__o : RSh := ⟨(.data true tI), []⟩
theorem slices_Index_Sint_int__ev (n : Nat) (x : TupT slices_Index_Sint_int__i.tys) : evF ⟨tab, [], n, [(6, ⟨[(0, (.data false (.sl tI))), (1, (.data true tI)), (7, (.data true tI)), (8, (.data true tI))], [], 0⟩)]⟩ Try.f222 slices_Index_Sint_int__i slices_Index_Sint_int__o x = slices_Index_Sint_int_ n x.1 x.2 := by kernel_rfl
noncomputable def slices_Index_Sint_int__e (n : Nat) : Ent := ⟨222, slices_Index_Sint_int__i, slices_Index_Sint_int__o, fun x => slices_Index_Sint_int_ n x.1 x.2⟩
theorem slices_Index_Sint_int__ok (n : Nat) : EntOK Try.prog (slices_Index_Sint_int__e n) ∧ Own Try.prog 222 := ent_ok tabOK0 .nil Try.func222 rfl (by kernel_rfl) (slices_Index_Sint_int__ev n)
def slices_Contains_Sint_int__i : CSh := ⟨[(.data false (.sl tI)), (.data true tI)], []⟩
def slices_Contains_Sint_int__o : RSh := ⟨(.data true .bool), []⟩
theorem slices_Contains_Sint_int__ev (n : Nat) (x : TupT slices_Contains_Sint_int__i.tys) : evF ⟨tab, [slices_Index_Sint_int__e n], n, []⟩ Try.f138 slices_Contains_Sint_int__i slices_Contains_Sint_int__o x = slices_Contains_Sint_int_ n x.1 x.2 := by kernel_rfl
noncomputable def slices_Contains_Sint_int__e (n : Nat) : Ent := ⟨138, slices_Contains_Sint_int__i, slices_Contains_Sint_int__o, fun x => slices_Contains_Sint_int_ n x.1 x.2⟩
theorem slices_Contains_Sint_int__ok (n : Nat) : EntOK Try.prog (slices_Contains_Sint_int__e n) ∧ Own Try.prog 138 := ent_ok tabOK0 (.cons (slices_Index_Sint_int__ok n) .nil) Try.func138 rfl (by kernel_rfl) (slices_Contains_Sint_int__ev n)
def i_LinesAt_i : CSh := ⟨[(.data false (.sl (.arr 4 tI))), (.data true tI)], []⟩
def i_LinesAt_o : RSh := ⟨(.tcons (.own 0) (.tcons (.data true .bool) .tnil)), [.rows 89 true (.arr 3 tI)]⟩
theorem i_LinesAt_ev (n : Nat) (x : TupT i_LinesAt_i.tys) : evF ⟨tab, [i_IsHand_e n, i_within_e n, i_linesIn_e n, slices_Contains_Sint_int__e n], n, [(16, ⟨[(1, (.data true tI)), (6, (.own 0)), (22, (.own 1)), (23, (.data true tI)), (24, (.data true tI))], [.rows 89 true (.arr 3 tI), .rows 89 true (.arr 3 tI)], 0⟩)]⟩ Try.f79 i_LinesAt_i i_LinesAt_o x = i_LinesAt n x.1 x.2 := by kernel_rfl
noncomputable def i_LinesAt_e (n : Nat) : Ent := ⟨79, i_LinesAt_i, i_LinesAt_o, fun x => i_LinesAt n x.1 x.2⟩
theorem i_LinesAt_ok (n : Nat) : EntOK Try.prog (i_LinesAt_e n) ∧ Own Try.prog 79 := ent_ok tabOK0 (.cons (i_IsHand_ok n) (.cons (i_within_ok n) (.cons (i_linesIn_ok n) (.cons (slices_Contains_Sint_int__ok n) .nil)))) Try.func79 rfl (by kernel_rfl) (i_LinesAt_ev n)
def s_l2Place_i : CSh := ⟨[(.data false (.sl (.arr 4 tI))), (.data true (.arr 4 tI))], []⟩
def s_l2Place_o : RSh := ⟨(.data true tI), []⟩
theorem s_l2Place_ev (n : Nat) (x : TupT s_l2Place_i.tys) : evF ⟨tab, [], n, [(6, ⟨[(0, (.data false (.sl (.arr 4 tI)))), (3, (.ptr 0 [])), (5, (.data true tI))], [.var 43 (.data true (.arr 4 tI))], 0⟩)]⟩ Try.f213 s_l2Place_i s_l2Place_o x = s_l2Place n x.1 x.2 := by kernel_rfl
noncomputable def s_l2Place_e (n : Nat) : Ent := ⟨213, s_l2Place_i, s_l2Place_o, fun x => s_l2Place n x.1 x.2⟩
theorem s_l2Place_ok (n : Nat) : EntOK Try.prog (s_l2Place_e n) ∧ Own Try.prog 213 := ent_ok tabOK0 .nil Try.func213 rfl (by kernel_rfl) (s_l2Place_ev n)
def s_l2Lines_i : CSh := ⟨[(.data false (.sl (.arr 4 tI)))], []⟩
def s_l2Lines_o : RSh := ⟨(.own 0), [.rows 89 true (.arr 3 tI)]⟩
theorem s_l2Lines_ev (n : Nat) (x : TupT s_l2Lines_i.tys) : evF ⟨tab, [s_l2Third_e n, s_l2Place_e n], n, [(8, ⟨[(0, (.data false (.sl (.arr 4 tI)))), (3, (.own 0)), (4, (.data true tI))], [.rows 89 true (.arr 3 tI)], 0⟩), (20, ⟨[(0, (.data false (.sl (.arr 4 tI)))), (3, (.own 0)), (4, (.data true tI)), (5, (.data true tI))], [.rows 89 true (.arr 3 tI)], 0⟩)]⟩ Try.f119 s_l2Lines_i s_l2Lines_o x = s_l2Lines n x := by kernel_rfl
noncomputable def s_l2Lines_e (n : Nat) : Ent := ⟨119, s_l2Lines_i, s_l2Lines_o, fun x => s_l2Lines n x⟩
theorem s_l2Lines_ok (n : Nat) : EntOK Try.prog (s_l2Lines_e n) ∧ Own Try.prog 119 := ent_ok tabOK0 (.cons (s_l2Third_ok n) (.cons (s_l2Place_ok n) .nil)) Try.func119 rfl (by kernel_rfl) (s_l2Lines_ev n)
def s_l7At_i : CSh := ⟨[(.data false (.sl (.arr 3 tI))), (.data true tI)], []⟩
def s_l7At_o : RSh := ⟨(.own 0), [.rows 89 true (.arr 3 tI)]⟩
theorem s_l7At_ev (n : Nat) (x : TupT s_l7At_i.tys) : evF ⟨tab, [], n, [(8, ⟨[(0, (.data false (.sl (.arr 3 tI)))), (1, (.data true tI)), (5, (.own 0)), (6, (.data true tI))], [.rows 89 true (.arr 3 tI)], 0⟩)]⟩ Try.f139 s_l7At_i s_l7At_o x = s_l7At n x.1 x.2 := by kernel_rfl
noncomputable def s_l7At_e (n : Nat) : Ent := ⟨139, s_l7At_i, s_l7At_o, fun x => s_l7At n x.1 x.2⟩
theorem s_l7At_ok (n : Nat) : EntOK Try.prog (s_l7At_e n) ∧ Own Try.prog 139 := ent_ok tabOK0 .nil Try.func139 rfl (by kernel_rfl) (s_l7At_ev n)
def s_LinesAt_i : CSh := ⟨[(.data false (.sl (.arr 4 tI))), (.data true tI)], []⟩
def s_LinesAt_o : RSh := ⟨(.tcons (.own 0) (.tcons (.data true .bool) .tnil)), [.rows 89 true (.arr 3 tI)]⟩
theorem s_LinesAt_ev (n : Nat) (x : TupT s_LinesAt_i.tys) : evF ⟨tab, [s_l2Hand_e n, s_l1In_e n, s_l2Lines_e n, s_l7At_e n], n, []⟩ Try.f80 s_LinesAt_i s_LinesAt_o x = s_LinesAt n x.1 x.2 := by kernel_rfl
noncomputable def s_LinesAt_e (n : Nat) : Ent := ⟨80, s_LinesAt_i, s_LinesAt_o, fun x => s_LinesAt n x.1 x.2⟩
theorem s_LinesAt_ok (n : Nat) : EntOK Try.prog (s_LinesAt_e n) ∧ Own Try.prog 80 := ent_ok tabOK0 (.cons (s_l2Hand_ok n) (.cons (s_l1In_ok n) (.cons (s_l2Lines_ok n) (.cons (s_l7At_ok n) .nil)))) Try.func80 rfl (by kernel_rfl) (s_LinesAt_ev n)
def i_LineCounts_i : CSh := ⟨[(.data false (.sl (.arr 4 tI)))], []⟩
def i_LineCounts_o : RSh := ⟨(.tcons (.own 0) (.tcons (.data true .bool) .tnil)), [.rows 3 true tI]⟩
theorem i_LineCounts_ev (n : Nat) (x : TupT i_LineCounts_i.tys) : evF ⟨tab, [i_IsHand_e n, i_linesIn_e n], n, [(16, ⟨[(4, (.own 0)), (16, (.own 1)), (17, (.data true tI)), (18, (.data true tI))], [.rows 3 true tI, .rows 89 true (.arr 3 tI)], 0⟩), (30, ⟨[(4, (.own 0)), (16, (.own 1)), (17, (.data true tI)), (18, (.data true tI)), (22, (.data true (.arr 3 tI))), (23, (.data true tI))], [.rows 3 true tI, .rows 89 true (.arr 3 tI)], 0⟩)]⟩ Try.f81 i_LineCounts_i i_LineCounts_o x = i_LineCounts n x := by kernel_rfl
noncomputable def i_LineCounts_e (n : Nat) : Ent := ⟨81, i_LineCounts_i, i_LineCounts_o, fun x => i_LineCounts n x⟩
theorem i_LineCounts_ok (n : Nat) : EntOK Try.prog (i_LineCounts_e n) ∧ Own Try.prog 81 := ent_ok tabOK0 (.cons (i_IsHand_ok n) (.cons (i_linesIn_ok n) .nil)) Try.func81 rfl (by kernel_rfl) (i_LineCounts_ev n)
def s_LineCounts_i : CSh := ⟨[(.data false (.sl (.arr 4 tI)))], []⟩
def s_LineCounts_o : RSh := ⟨(.tcons (.own 0) (.tcons (.data true .bool) .tnil)), [.rows 3 true tI]⟩
theorem s_LineCounts_ev (n : Nat) (x : TupT s_LineCounts_i.tys) : evF ⟨tab, [s_l2Hand_e n, s_l2Lines_e n, s_l7At_e n], n, [(18, ⟨[(0, (.data false (.sl (.arr 4 tI)))), (4, (.own 0)), (5, (.own 1)), (6, (.data true tI))], [.rows 3 true tI, .rows 89 true (.arr 3 tI)], 0⟩)]⟩ Try.f82 s_LineCounts_i s_LineCounts_o x = s_LineCounts n x := by kernel_rfl
noncomputable def s_LineCounts_e (n : Nat) : Ent := ⟨82, s_LineCounts_i, s_LineCounts_o, fun x => s_LineCounts n x⟩
theorem s_LineCounts_ok (n : Nat) : EntOK Try.prog (s_LineCounts_e n) ∧ Own Try.prog 82 := ent_ok tabOK0 (.cons (s_l2Hand_ok n) (.cons (s_l2Lines_ok n) (.cons (s_l7At_ok n) .nil))) Try.func82 rfl (by kernel_rfl) (s_LineCounts_ev n)
def i_OpenPairs_i : CSh := ⟨[(.data false (.sl (.arr 4 tI)))], []⟩
def i_OpenPairs_o : RSh := ⟨(.tcons (.data true tI) (.tcons (.data true .bool) .tnil)), []⟩
theorem i_OpenPairs_ev (n : Nat) (x : TupT i_OpenPairs_i.tys) : evF ⟨tab, [i_IsHand_e n, i_linesIn_e n], n, []⟩ Try.f83 i_OpenPairs_i i_OpenPairs_o x = i_OpenPairs n x := by kernel_rfl
noncomputable def i_OpenPairs_e (n : Nat) : Ent := ⟨83, i_OpenPairs_i, i_OpenPairs_o, fun x => i_OpenPairs n x⟩
theorem i_OpenPairs_ok (n : Nat) : EntOK Try.prog (i_OpenPairs_e n) ∧ Own Try.prog 83 := ent_ok tabOK0 (.cons (i_IsHand_ok n) (.cons (i_linesIn_ok n) .nil)) Try.func83 rfl (by kernel_rfl) (i_OpenPairs_ev n)
def s_l2Has_i : CSh := ⟨[(.data false (.sl (.arr 4 tI))), (.data true (.arr 4 tI))], []⟩
def s_l2Has_o : RSh := ⟨(.data true .bool), []⟩
theorem s_l2Has_ev (n : Nat) (x : TupT s_l2Has_i.tys) : evF ⟨tab, [s_l2Place_e n], n, []⟩ Try.f181 s_l2Has_i s_l2Has_o x = s_l2Has n x.1 x.2 := by kernel_rfl
noncomputable def s_l2Has_e (n : Nat) : Ent := ⟨181, s_l2Has_i, s_l2Has_o, fun x => s_l2Has n x.1 x.2⟩
theorem s_l2Has_ok (n : Nat) : EntOK Try.prog (s_l2Has_e n) ∧ Own Try.prog 181 := ent_ok tabOK0 (.cons (s_l2Place_ok n) .nil) Try.func181 rfl (by kernel_rfl) (s_l2Has_ev n)
def s_OpenPairs_i : CSh := ⟨[(.data false (.sl (.arr 4 tI)))], []⟩
def s_OpenPairs_o : RSh := ⟨(.tcons (.data true tI) (.tcons (.data true .bool) .tnil)), []⟩
theorem s_OpenPairs_ev (n : Nat) (x : TupT s_OpenPairs_i.tys) : evF ⟨tab, [s_l2Hand_e n, s_l2Third_e n, s_l2Has_e n], n, [(8, ⟨[(0, (.data false (.sl (.arr 4 tI)))), (4, (.data true tI)), (5, (.data true tI))], [], 0⟩), (20, ⟨[(0, (.data false (.sl (.arr 4 tI)))), (4, (.data true tI)), (5, (.data true tI)), (6, (.data true tI))], [], 0⟩)]⟩ Try.f84 s_OpenPairs_i s_OpenPairs_o x = s_OpenPairs n x := by kernel_rfl
noncomputable def s_OpenPairs_e (n : Nat) : Ent := ⟨84, s_OpenPairs_i, s_OpenPairs_o, fun x => s_OpenPairs n x⟩
theorem s_OpenPairs_ok (n : Nat) : EntOK Try.prog (s_OpenPairs_e n) ∧ Own Try.prog 84 := ent_ok tabOK0 (.cons (s_l2Hand_ok n) (.cons (s_l2Third_ok n) (.cons (s_l2Has_ok n) .nil))) Try.func84 rfl (by kernel_rfl) (s_OpenPairs_ev n)
def i_common_i : CSh := ⟨[(.data true (.arr 3 tI)), (.data true (.arr 3 tI))], []⟩
def i_common_o : RSh := ⟨(.data true tI), []⟩
theorem i_common_ev (n : Nat) (x : TupT i_common_i.tys) : evF ⟨tab, [slices_Contains_Sint_int__e n], n, [(8, ⟨[(3, (.ptr 0 [])), (5, (.data true tI)), (8, (.data true (.arr 3 tI))), (9, (.data true tI))], [.var 89 (.data true (.arr 3 tI))], 0⟩)]⟩ Try.f124 i_common_i i_common_o x = i_common n x.1 x.2 := by kernel_rfl
noncomputable def i_common_e (n : Nat) : Ent := ⟨124, i_common_i, i_common_o, fun x => i_common n x.1 x.2⟩
theorem i_common_ok (n : Nat) : EntOK Try.prog (i_common_e n) ∧ Own Try.prog 124 := ent_ok tabOK0 (.cons (slices_Contains_Sint_int__ok n) .nil) Try.func124 rfl (by kernel_rfl) (i_common_ev n)
def i_CountCrossings_i : CSh := ⟨[(.data false (.sl (.arr 4 tI)))], []⟩
def i_CountCrossings_o : RSh := ⟨(.tcons (.data true tI) (.tcons (.data true .bool) .tnil)), []⟩
theorem i_CountCrossings_ev (n : Nat) (x : TupT i_CountCrossings_i.tys) : evF ⟨tab, [i_IsHand_e n, i_linesIn_e n, i_common_e n], n, [(16, ⟨[(4, (.own 0)), (5, (.data true tI)), (15, (.own 0)), (16, (.data true tI)), (17, (.data true tI))], [.rows 89 true (.arr 3 tI)], 0⟩), (30, ⟨[(4, (.own 0)), (5, (.data true tI)), (7, (.ptr 1 [])), (15, (.own 0)), (16, (.data true tI)), (17, (.data true tI)), (24, (.ownp 0)), (25, (.data true tI)), (26, (.data true tI))], [.rows 89 true (.arr 3 tI), .var 89 (.data true (.arr 3 tI))], 0⟩)]⟩ Try.f34 i_CountCrossings_i i_CountCrossings_o x = i_CountCrossings n x := by kernel_rfl
noncomputable def i_CountCrossings_e (n : Nat) : Ent := ⟨34, i_CountCrossings_i, i_CountCrossings_o, fun x => i_CountCrossings n x⟩
theorem i_CountCrossings_ok (n : Nat) : EntOK Try.prog (i_CountCrossings_e n) ∧ Own Try.prog 34 := ent_ok tabOK0 (.cons (i_IsHand_ok n) (.cons (i_linesIn_ok n) (.cons (i_common_ok n) .nil))) Try.func34 rfl (by kernel_rfl) (i_CountCrossings_ev n)
def s_l7Common_i : CSh := ⟨[(.data true (.arr 3 tI)), (.data true (.arr 3 tI))], []⟩
def s_l7Common_o : RSh := ⟨(.data true tI), []⟩
theorem s_l7Common_ev (n : Nat) (x : TupT s_l7Common_i.tys) : evF ⟨tab, [], n, [(8, ⟨[(2, (.ptr 0 [])), (3, (.ptr 1 [])), (5, (.data true tI)), (6, (.data true tI))], [.var 89 (.data true (.arr 3 tI)), .var 89 (.data true (.arr 3 tI))], 0⟩), (20, ⟨[(2, (.ptr 0 [])), (3, (.ptr 1 [])), (5, (.data true tI)), (6, (.data true tI)), (7, (.data true tI))], [.var 89 (.data true (.arr 3 tI)), .var 89 (.data true (.arr 3 tI))], 0⟩)]⟩ Try.f182 s_l7Common_i s_l7Common_o x = s_l7Common n x.1 x.2 := by kernel_rfl
noncomputable def s_l7Common_e (n : Nat) : Ent := ⟨182, s_l7Common_i, s_l7Common_o, fun x => s_l7Common n x.1 x.2⟩
theorem s_l7Common_ok (n : Nat) : EntOK Try.prog (s_l7Common_e n) ∧ Own Try.prog 182 := ent_ok tabOK0 .nil Try.func182 rfl (by kernel_rfl) (s_l7Common_ev n)
def s_CountCrossings_i : CSh := ⟨[(.data false (.sl (.arr 4 tI)))], []⟩
def s_CountCrossings_o : RSh := ⟨(.tcons (.data true tI) (.tcons (.data true .bool) .tnil)), []⟩
theorem s_CountCrossings_ev (n : Nat) (x : TupT s_CountCrossings_i.tys) : evF ⟨tab, [s_l2Hand_e n, s_l2Lines_e n, s_l7Common_e n], n, [(16, ⟨[(4, (.data true tI)), (5, (.own 0)), (6, (.data true tI))], [.rows 89 true (.arr 3 tI)], 0⟩), (28, ⟨[(4, (.data true tI)), (5, (.own 0)), (6, (.data true tI)), (7, (.data true tI))], [.rows 89 true (.arr 3 tI)], 0⟩)]⟩ Try.f85 s_CountCrossings_i s_CountCrossings_o x = s_CountCrossings n x := by kernel_rfl
noncomputable def s_CountCrossings_e (n : Nat) : Ent := ⟨85, s_CountCrossings_i, s_CountCrossings_o, fun x => s_CountCrossings n x⟩
theorem s_CountCrossings_ok (n : Nat) : EntOK Try.prog (s_CountCrossings_e n) ∧ Own Try.prog 85 := ent_ok tabOK0 (.cons (s_l2Hand_ok n) (.cons (s_l2Lines_ok n) (.cons (s_l7Common_ok n) .nil))) Try.func85 rfl (by kernel_rfl) (s_CountCrossings_ev n)
def v_vLines_i : CSh := ⟨[(.data false (.sl (.arr 3 tI))), (.data false (.sl (.arr 3 tI)))], []⟩
def v_vLines_o : RSh := ⟨(.data true .bool), []⟩
theorem v_vLines_ev (n : Nat) (x : TupT v_vLines_i.tys) : evF ⟨tab, [], n, [(14, ⟨[(0, (.data false (.sl (.arr 3 tI)))), (1, (.data false (.sl (.arr 3 tI)))), (5, (.data true tI))], [], 0⟩)]⟩ Try.f30 v_vLines_i v_vLines_o x = v_vLines n x.1 x.2 := by kernel_rfl
noncomputable def v_vLines_e (n : Nat) : Ent := ⟨30, v_vLines_i, v_vLines_o, fun x => v_vLines n x.1 x.2⟩
theorem v_vLines_ok (n : Nat) : EntOK Try.prog (v_vLines_e n) ∧ Own Try.prog 30 := ent_ok tabOK0 .nil Try.func30 rfl (by kernel_rfl) (v_vLines_ev n)
def v_vInts_i : CSh := ⟨[(.data false (.sl tI)), (.data false (.sl tI))], []⟩
def v_vInts_o : RSh := ⟨(.data true .bool), []⟩
theorem v_vInts_ev (n : Nat) (x : TupT v_vInts_i.tys) : evF ⟨tab, [], n, [(14, ⟨[(0, (.data false (.sl tI))), (1, (.data false (.sl tI))), (5, (.data true tI))], [], 0⟩)]⟩ Try.f75 v_vInts_i v_vInts_o x = v_vInts n x.1 x.2 := by kernel_rfl
noncomputable def v_vInts_e (n : Nat) : Ent := ⟨75, v_vInts_i, v_vInts_o, fun x => v_vInts n x.1 x.2⟩
theorem v_vInts_ok (n : Nat) : EntOK Try.prog (v_vInts_e n) ∧ Own Try.prog 75 := ent_ok tabOK0 .nil Try.func75 rfl (by kernel_rfl) (v_vInts_ev n)
def i_LinesIn_i : CSh := ⟨[(.data false (.sl (.arr 4 tI)))], []⟩
def i_LinesIn_o : RSh := ⟨(.tcons (.own 0) (.tcons (.data true .bool) .tnil)), [.rows 89 true (.arr 3 tI)]⟩
theorem i_LinesIn_ev (n : Nat) (x : TupT i_LinesIn_i.tys) : evF ⟨tab, [i_IsHand_e n, i_linesIn_e n], n, []⟩ Try.f33 i_LinesIn_i i_LinesIn_o x = i_LinesIn n x := by kernel_rfl
noncomputable def i_LinesIn_e (n : Nat) : Ent := ⟨33, i_LinesIn_i, i_LinesIn_o, fun x => i_LinesIn n x⟩
theorem i_LinesIn_ok (n : Nat) : EntOK Try.prog (i_LinesIn_e n) ∧ Own Try.prog 33 := ent_ok tabOK0 (.cons (i_IsHand_ok n) (.cons (i_linesIn_ok n) .nil)) Try.func33 rfl (by kernel_rfl) (i_LinesIn_ev n)
def v_FnLinesAt_i : CSh := ⟨[(.data false (.sl (.int .u8)))], []⟩
def v_FnLinesAt_o : RSh := ⟨(.data true .bool), []⟩
theorem v_FnLinesAt_ev (n : Nat) (x : TupT v_FnLinesAt_i.tys) : evF ⟨tab, [v_vBig_e n, s_DrawLinesAt_e n, i_LinesAt_e n, s_LinesAt_e n, i_LineCounts_e n, s_LineCounts_e n, i_OpenPairs_e n, s_OpenPairs_e n, i_CountCrossings_e n, s_CountCrossings_e n, v_vLines_e n, v_vInts_e n, i_LinesIn_e n], n, [(60, ⟨[(3, (.own 0)), (9, (.own 1)), (13, (.data true tI)), (17, (.data true tI)), (21, (.own 2)), (22, (.data true .bool)), (23, (.data true tI)), (24, (.data true tI)), (25, (.data true tI))], [.rows 43 true (.arr 4 tI), .rows 3 true tI, .rows 89 true (.arr 3 tI)], 0⟩)]⟩ Try.f8 v_FnLinesAt_i v_FnLinesAt_o x = v_FnLinesAt n x := by kernel_rfl
noncomputable def v_FnLinesAt_e (n : Nat) : Ent := ⟨8, v_FnLinesAt_i, v_FnLinesAt_o, fun x => v_FnLinesAt n x⟩
theorem v_FnLinesAt_ok (n : Nat) : EntOK Try.prog (v_FnLinesAt_e n) ∧ Own Try.prog 8 := ent_ok tabOK0 (.cons (v_vBig_ok n) (.cons (s_DrawLinesAt_ok n) (.cons (i_LinesAt_ok n) (.cons (s_LinesAt_ok n) (.cons (i_LineCounts_ok n) (.cons (s_LineCounts_ok n) (.cons (i_OpenPairs_ok n) (.cons (s_OpenPairs_ok n) (.cons (i_CountCrossings_ok n) (.cons (s_CountCrossings_ok n) (.cons (v_vLines_ok n) (.cons (v_vInts_ok n) (.cons (i_LinesIn_ok n) .nil))))))))))))) Try.func8 rfl (by kernel_rfl) (v_FnLinesAt_ev n)
end Go.Proofs.Ytklhncjpkkfjmaa
