/- Printed by a program of the session: the contracts of the seat's functions. -/
import Derived.Test.YtklhncjpkkfjmaaZ7
import Derived.Test.YtklhncjpkkfjmaaPL
import Derived.Test.YtklhncjpkkfjmaaRows
import Derived.KernelRfl
namespace Go.Proofs.Ytklhncjpkkfjmaa
open Go Go.Tv Go.Pl Go.RowKit
set_option linter.unusedVariables false
abbrev tI : Ty := .int .i64
def tab : Tab := ⟨[(2, ⟨tI, 0, 8⟩), (3, ⟨tI, 0, 8⟩), (4, ⟨.bool, 0, 1⟩), (5, ⟨(.int .u8), 0, 1⟩), (6, ⟨(.int .u8), 0, 1⟩), (7, ⟨(.pair tI (.pair tI (.pair .bool (.int .u8)))), 4, 24⟩), (8, ⟨(.pair tI (.pair tI (.pair .bool (.int .u8)))), 4, 24⟩), (9, ⟨.str, 0, 16⟩), (10, ⟨.str, 0, 16⟩), (11, ⟨.str, 0, 16⟩), (12, ⟨(.int .u64), 0, 8⟩), (13, ⟨(.pair .str (.int .u64)), 2, 24⟩), (14, ⟨(.pair .str (.int .u64)), 2, 24⟩), (21, ⟨(.int .i32), 0, 4⟩), (22, ⟨(.sl (.int .u8)), 5, 1⟩), (24, ⟨(.sl (.arr 4 tI)), 43, 32⟩), (26, ⟨(.sl (.arr 3 tI)), 89, 24⟩), (43, ⟨(.arr 4 tI), 3, 8⟩), (46, ⟨(.pair (.sl (.arr 4 tI)) (.pair tI tI)), 3, 40⟩), (47, ⟨(.pair (.sl (.arr 4 tI)) (.pair tI tI)), 3, 40⟩), (49, ⟨(.pair (.sl (.arr 4 tI)) (.pair tI tI)), 3, 40⟩), (50, ⟨(.pair .str (.pair .str tI)), 3, 40⟩), (51, ⟨(.pair .str (.pair .str tI)), 3, 40⟩), (52, ⟨(.pair (.pair (.sl (.arr 4 tI)) (.pair tI tI)) (.pair .str (.pair .str tI))), 2, 80⟩), (53, ⟨(.pair (.pair (.sl (.arr 4 tI)) (.pair tI tI)) (.pair .str (.pair .str tI))), 2, 80⟩), (77, ⟨(.sl tI), 3, 8⟩), (87, ⟨(.pair tI (.pair tI (.sl (.arr 4 tI)))), 3, 40⟩), (88, ⟨(.pair tI (.pair tI (.sl (.arr 4 tI)))), 3, 40⟩), (89, ⟨(.arr 3 tI), 3, 8⟩), (101, ⟨(.arr 81 .bool), 4, 1⟩), (112, ⟨(.int .u64), 0, 8⟩), (113, ⟨(.pair (.sl (.int .u8)) (.pair tI (.int .u64))), 3, 40⟩), (114, ⟨(.pair (.sl (.int .u8)) (.pair tI (.int .u64))), 3, 40⟩), (163, ⟨(.arr 81 tI), 3, 8⟩), (173, ⟨(.sl (.arr 2 tI)), 181, 16⟩), (178, ⟨(.int .u64), 0, 8⟩), (181, ⟨(.arr 2 tI), 3, 8⟩), (183, ⟨(.sl (.sl (.arr 4 tI))), 24, 24⟩), (187, ⟨tI, 0, 8⟩), (194, ⟨(.int .u32), 0, 4⟩), (196, ⟨(.int .u64), 0, 8⟩), (211, ⟨(.int .u8), 0, 1⟩), (212, ⟨(.int .u8), 0, 1⟩), (215, ⟨(.int .i32), 0, 4⟩), (216, ⟨(.int .i32), 0, 4⟩)], [7, 8, 43, 50, 51, 89, 101, 163, 181], [1, 23, 25, 28, 30, 32, 33, 34, 36, 38, 40, 41, 42, 45, 48, 55, 56, 57, 58, 59, 60, 61, 63, 64, 66, 67, 68, 69, 70, 71, 72, 73, 75, 76, 79, 80, 81, 82, 83, 84, 85, 86, 91, 93, 94, 95, 96, 97, 98, 99, 100, 102, 103, 104, 105, 106, 107, 108, 109, 110, 115, 116, 117, 118, 119, 120, 121, 122, 123, 124, 125, 126, 127, 128, 129, 130, 131, 132, 133, 134, 135, 136, 137, 138, 139, 140, 141, 142, 143, 144, 145, 146, 147, 148, 149, 150, 151, 152, 153, 154, 155, 156, 157, 158, 159, 160, 161, 162, 164, 165, 166, 167, 168, 169, 170, 171, 172, 174, 175, 176, 177, 179, 180, 182, 184, 185, 186, 189, 190, 191, 192, 193, 195, 197, 198, 199, 201, 204, 205, 213]⟩
theorem tabOK0 : TabOK Try.prog tab := ⟨by kernel_rfl, by kernel_rfl⟩
def v_vBig_i : CSh := ⟨[(.data false (.sl (.int .u8)))], []⟩
def v_vBig_o : RSh := ⟨(.data true .bool), []⟩
theorem v_vBig_ev (n : Nat) (x : TupT v_vBig_i.tys) : evF ⟨tab, [], n, []⟩ Try.f11 v_vBig_i v_vBig_o x = v_vBig n x := by kernel_rfl
noncomputable def v_vBig_e (n : Nat) : Ent := ⟨11, v_vBig_i, v_vBig_o, fun x => v_vBig n x⟩
theorem v_vBig_ok (n : Nat) : EntOK Try.prog (v_vBig_e n) ∧ Own Try.prog 11 := ent_ok tabOK0 .nil Try.func11 rfl (by kernel_rfl) (v_vBig_ev n)
def s_Cur_next'p_i : CSh := ⟨[(.ptr 0 [])], [.var 114 (.data true (.pair (.sl (.int .u8)) (.pair tI (.int .u64))))]⟩
def s_Cur_next'p_o : RSh := ⟨(.data true tI), [.var 114 (.data true (.pair (.sl (.int .u8)) (.pair tI (.int .u64))))]⟩
theorem s_Cur_next'p_ev (n : Nat) (x : TupT s_Cur_next'p_i.tys) : evF ⟨tab, [], n, [(4, ⟨[(0, (.ptr 0 [])), (3, (.data true tI))], [.var 114 (.data true (.pair (.sl (.int .u8)) (.pair tI (.int .u64))))], 1⟩)]⟩ Try.f218 s_Cur_next'p_i s_Cur_next'p_o x = s_Cur_next'p n x := by kernel_rfl
noncomputable def s_Cur_next'p_e (n : Nat) : Ent := ⟨218, s_Cur_next'p_i, s_Cur_next'p_o, fun x => s_Cur_next'p n x⟩
theorem s_Cur_next'p_ok (n : Nat) : EntOK Try.prog (s_Cur_next'p_e n) ∧ Own Try.prog 218 := ent_ok tabOK0 .nil Try.func218 rfl (by kernel_rfl) (s_Cur_next'p_ev n)
def s_Cur_pick'p_i : CSh := ⟨[(.ptr 0 []), (.data true tI)], [.var 114 (.data true (.pair (.sl (.int .u8)) (.pair tI (.int .u64))))]⟩
def s_Cur_pick'p_o : RSh := ⟨(.data true tI), [.var 114 (.data true (.pair (.sl (.int .u8)) (.pair tI (.int .u64))))]⟩
theorem s_Cur_pick'p_ev (n : Nat) (x : TupT s_Cur_pick'p_i.tys) : evF ⟨tab, [s_Cur_next'p_e n], n, []⟩ Try.f131 s_Cur_pick'p_i s_Cur_pick'p_o x = s_Cur_pick'p n x.1 x.2 := by kernel_rfl
noncomputable def s_Cur_pick'p_e (n : Nat) : Ent := ⟨131, s_Cur_pick'p_i, s_Cur_pick'p_o, fun x => s_Cur_pick'p n x.1 x.2⟩
theorem s_Cur_pick'p_ok (n : Nat) : EntOK Try.prog (s_Cur_pick'p_e n) ∧ Own Try.prog 131 := ent_ok tabOK0 (.cons (s_Cur_next'p_ok n) .nil) Try.func131 rfl (by kernel_rfl) (s_Cur_pick'p_ev n)
def s_Cur_among'pl_i : CSh := ⟨[(.ptr 0 []), (.data false (.sl tI))], [.var 114 (.data true (.pair (.sl (.int .u8)) (.pair tI (.int .u64))))]⟩
def s_Cur_among'pl_o : RSh := ⟨(.data true tI), [.var 114 (.data true (.pair (.sl (.int .u8)) (.pair tI (.int .u64))))]⟩
theorem s_Cur_among'pl_ev (n : Nat) (x : TupT s_Cur_among'pl_i.tys) : evF ⟨tab, [s_Cur_pick'p_e n], n, []⟩ Try.f130 s_Cur_among'pl_i s_Cur_among'pl_o x = s_Cur_among'pl n x.1 x.2 := by kernel_rfl
noncomputable def s_Cur_among'pl_e (n : Nat) : Ent := ⟨130, s_Cur_among'pl_i, s_Cur_among'pl_o, fun x => s_Cur_among'pl n x.1 x.2⟩
theorem s_Cur_among'pl_ok (n : Nat) : EntOK Try.prog (s_Cur_among'pl_e n) ∧ Own Try.prog 130 := ent_ok tabOK0 (.cons (s_Cur_pick'p_ok n) .nil) Try.func130 rfl (by kernel_rfl) (s_Cur_among'pl_ev n)
def s_l2At_i : CSh := ⟨[(.data true tI)], []⟩
def s_l2At_o : RSh := ⟨(.data true (.arr 4 tI)), []⟩
theorem s_l2At_ev (n : Nat) (x : TupT s_l2At_i.tys) : evF ⟨tab, [], n, []⟩ Try.f164 s_l2At_i s_l2At_o x = s_l2At n x := by kernel_rfl
noncomputable def s_l2At_e (n : Nat) : Ent := ⟨164, s_l2At_i, s_l2At_o, fun x => s_l2At n x⟩
theorem s_l2At_ok (n : Nat) : EntOK Try.prog (s_l2At_e n) ∧ Own Try.prog 164 := ent_ok tabOK0 .nil Try.func164 rfl (by kernel_rfl) (s_l2At_ev n)
def s_l2Number_i : CSh := ⟨[(.data true (.arr 4 tI))], []⟩
def s_l2Number_o : RSh := ⟨(.data true tI), []⟩
theorem s_l2Number_ev (n : Nat) (x : TupT s_l2Number_i.tys) : evF ⟨tab, [], n, []⟩ Try.f162 s_l2Number_i s_l2Number_o x = s_l2Number n x := by kernel_rfl
noncomputable def s_l2Number_e (n : Nat) : Ent := ⟨162, s_l2Number_i, s_l2Number_o, fun x => s_l2Number n x⟩
theorem s_l2Number_ok (n : Nat) : EntOK Try.prog (s_l2Number_e n) ∧ Own Try.prog 162 := ent_ok tabOK0 .nil Try.func162 rfl (by kernel_rfl) (s_l2Number_ev n)
def s_l2Less_i : CSh := ⟨[(.data true (.arr 4 tI)), (.data true (.arr 4 tI))], []⟩
def s_l2Less_o : RSh := ⟨(.data true .bool), []⟩
theorem s_l2Less_ev (n : Nat) (x : TupT s_l2Less_i.tys) : evF ⟨tab, [s_l2Number_e n], n, []⟩ Try.f215 s_l2Less_i s_l2Less_o x = s_l2Less n x.1 x.2 := by kernel_rfl
noncomputable def s_l2Less_e (n : Nat) : Ent := ⟨215, s_l2Less_i, s_l2Less_o, fun x => s_l2Less n x.1 x.2⟩
theorem s_l2Less_ok (n : Nat) : EntOK Try.prog (s_l2Less_e n) ∧ Own Try.prog 215 := ent_ok tabOK0 (.cons (s_l2Number_ok n) .nil) Try.func215 rfl (by kernel_rfl) (s_l2Less_ev n)
def s_l2Own_i : CSh := ⟨[(.data false (.sl (.arr 4 tI)))], []⟩
def s_l2Own_o : RSh := ⟨(.own 0), [.rows 43 true (.arr 4 tI)]⟩
theorem s_l2Own_ev (n : Nat) (x : TupT s_l2Own_i.tys) : evF ⟨tab, [], n, []⟩ Try.f223 s_l2Own_i s_l2Own_o x = s_l2Own n x := by kernel_rfl
noncomputable def s_l2Own_e (n : Nat) : Ent := ⟨223, s_l2Own_i, s_l2Own_o, fun x => s_l2Own n x⟩
theorem s_l2Own_ok (n : Nat) : EntOK Try.prog (s_l2Own_e n) ∧ Own Try.prog 223 := ent_ok tabOK0 .nil Try.func223 rfl (by kernel_rfl) (s_l2Own_ev n)
def s_l2Put_i : CSh := ⟨[(.data false (.sl (.arr 4 tI))), (.data true (.arr 4 tI))], []⟩
def s_l2Put_o : RSh := ⟨(.own 0), [.rows 43 true (.arr 4 tI)]⟩
theorem s_l2Put_ev (n : Nat) (x : TupT s_l2Put_i.tys) : evF ⟨tab, [s_l2Less_e n, s_l2Own_e n], n, [(6, ⟨[(0, (.data false (.sl (.arr 4 tI)))), (3, (.ptr 0 [])), (5, (.data true tI))], [.var 43 (.data true (.arr 4 tI))], 0⟩)]⟩ Try.f183 s_l2Put_i s_l2Put_o x = s_l2Put n x.1 x.2 := by kernel_rfl
noncomputable def s_l2Put_e (n : Nat) : Ent := ⟨183, s_l2Put_i, s_l2Put_o, fun x => s_l2Put n x.1 x.2⟩
theorem s_l2Put_ok (n : Nat) : EntOK Try.prog (s_l2Put_e n) ∧ Own Try.prog 183 := ent_ok tabOK0 (.cons (s_l2Less_ok n) (.cons (s_l2Own_ok n) .nil)) Try.func183 rfl (by kernel_rfl) (s_l2Put_ev n)
def s_Cur_one'p_i : CSh := ⟨[(.ptr 0 []), (.data true tI)], [.var 114 (.data true (.pair (.sl (.int .u8)) (.pair tI (.int .u64))))]⟩
def s_Cur_one'p_o : RSh := ⟨(.data true .bool), [.var 114 (.data true (.pair (.sl (.int .u8)) (.pair tI (.int .u64))))]⟩
theorem s_Cur_one'p_ev (n : Nat) (x : TupT s_Cur_one'p_i.tys) : evF ⟨tab, [s_Cur_pick'p_e n], n, []⟩ Try.f154 s_Cur_one'p_i s_Cur_one'p_o x = s_Cur_one'p n x.1 x.2 := by kernel_rfl
noncomputable def s_Cur_one'p_e (n : Nat) : Ent := ⟨154, s_Cur_one'p_i, s_Cur_one'p_o, fun x => s_Cur_one'p n x.1 x.2⟩
theorem s_Cur_one'p_ok (n : Nat) : EntOK Try.prog (s_Cur_one'p_e n) ∧ Own Try.prog 154 := ent_ok tabOK0 (.cons (s_Cur_pick'p_ok n) .nil) Try.func154 rfl (by kernel_rfl) (s_Cur_one'p_ev n)
def s_Cur_hand'p_i : CSh := ⟨[(.ptr 0 [])], [.var 114 (.data true (.pair (.sl (.int .u8)) (.pair tI (.int .u64))))]⟩
def s_Cur_hand'p_o : RSh := ⟨(.own 1), [.var 114 (.data true (.pair (.sl (.int .u8)) (.pair tI (.int .u64)))), .rows 43 true (.arr 4 tI)]⟩
theorem s_Cur_hand'p_ev (n : Nat) (x : TupT s_Cur_hand'p_i.tys) : evF ⟨tab, [s_Cur_among'pl_e n, s_Cur_pick'p_e n, s_l2At_e n, s_l2Put_e n, s_Cur_one'p_e n], n, [(8, ⟨[(0, (.ptr 0 [])), (3, (.own 1)), (4, (.data true tI)), (5, (.data true tI))], [.var 114 (.data true (.pair (.sl (.int .u8)) (.pair tI (.int .u64)))), .rows 43 true (.arr 4 tI)], 1⟩), (23, ⟨[(0, (.ptr 0 [])), (3, (.own 1)), (4, (.data true tI)), (5, (.data true tI)), (6, (.ptr 2 [])), (7, (.data true tI))], [.var 114 (.data true (.pair (.sl (.int .u8)) (.pair tI (.int .u64)))), .rows 43 true (.arr 4 tI), .var 43 (.data true (.arr 4 tI))], 1⟩), (5000038, ⟨[(0, (.ptr 0 [])), (3, (.own 1)), (39, (.data true .bool))], [.var 114 (.data true (.pair (.sl (.int .u8)) (.pair tI (.int .u64)))), .rows 43 true (.arr 4 tI)], 1⟩)]⟩ Try.f217 s_Cur_hand'p_i s_Cur_hand'p_o x = s_Cur_hand'p n x := by kernel_rfl
noncomputable def s_Cur_hand'p_e (n : Nat) : Ent := ⟨217, s_Cur_hand'p_i, s_Cur_hand'p_o, fun x => s_Cur_hand'p n x⟩
theorem s_Cur_hand'p_ok (n : Nat) : EntOK Try.prog (s_Cur_hand'p_e n) ∧ Own Try.prog 217 := ent_ok tabOK0 (.cons (s_Cur_among'pl_ok n) (.cons (s_Cur_pick'p_ok n) (.cons (s_l2At_ok n) (.cons (s_l2Put_ok n) (.cons (s_Cur_one'p_ok n) .nil))))) Try.func217 rfl (by kernel_rfl) (s_Cur_hand'p_ev n)
def s_l1In_i : CSh := ⟨[(.data true tI), (.data true tI), (.data true tI)], []⟩
def s_l1In_o : RSh := ⟨(.data true .bool), []⟩
theorem s_l1In_ev (n : Nat) (x : TupT s_l1In_i.tys) : evF ⟨tab, [], n, []⟩ Try.f133 s_l1In_i s_l1In_o x = s_l1In n x.1 x.2.1 x.2.2 := by kernel_rfl
noncomputable def s_l1In_e (n : Nat) : Ent := ⟨133, s_l1In_i, s_l1In_o, fun x => s_l1In n x.1 x.2.1 x.2.2⟩
theorem s_l1In_ok (n : Nat) : EntOK Try.prog (s_l1In_e n) ∧ Own Try.prog 133 := ent_ok tabOK0 .nil Try.func133 rfl (by kernel_rfl) (s_l1In_ev n)
def s_l2Card_i : CSh := ⟨[(.data true (.arr 4 tI))], []⟩
def s_l2Card_o : RSh := ⟨(.data true .bool), []⟩
theorem s_l2Card_ev (n : Nat) (x : TupT s_l2Card_i.tys) : evF ⟨tab, [s_l1In_e n], n, [(6, ⟨[(1, (.ptr 0 [])), (3, (.data true tI))], [.var 43 (.data true (.arr 4 tI))], 0⟩)]⟩ Try.f152 s_l2Card_i s_l2Card_o x = s_l2Card n x := by kernel_rfl
noncomputable def s_l2Card_e (n : Nat) : Ent := ⟨152, s_l2Card_i, s_l2Card_o, fun x => s_l2Card n x⟩
theorem s_l2Card_ok (n : Nat) : EntOK Try.prog (s_l2Card_e n) ∧ Own Try.prog 152 := ent_ok tabOK0 (.cons (s_l1In_ok n) .nil) Try.func152 rfl (by kernel_rfl) (s_l2Card_ev n)
def s_l2Hand_i : CSh := ⟨[(.data false (.sl (.arr 4 tI)))], []⟩
def s_l2Hand_o : RSh := ⟨(.data true .bool), []⟩
theorem s_l2Hand_ev (n : Nat) (x : TupT s_l2Hand_i.tys) : evF ⟨tab, [s_l2Card_e n, s_l2Less_e n], n, [(6, ⟨[(0, (.data false (.sl (.arr 4 tI)))), (3, (.data true tI))], [], 0⟩)]⟩ Try.f125 s_l2Hand_i s_l2Hand_o x = s_l2Hand n x := by kernel_rfl
noncomputable def s_l2Hand_e (n : Nat) : Ent := ⟨125, s_l2Hand_i, s_l2Hand_o, fun x => s_l2Hand n x⟩
theorem s_l2Hand_ok (n : Nat) : EntOK Try.prog (s_l2Hand_e n) ∧ Own Try.prog 125 := ent_ok tabOK0 (.cons (s_l2Card_ok n) (.cons (s_l2Less_ok n) .nil)) Try.func125 rfl (by kernel_rfl) (s_l2Hand_ev n)
def s_l2Third_i : CSh := ⟨[(.data true (.arr 4 tI)), (.data true (.arr 4 tI))], []⟩
def s_l2Third_o : RSh := ⟨(.data true (.arr 4 tI)), []⟩
theorem s_l2Third_ev (n : Nat) (x : TupT s_l2Third_i.tys) : evF ⟨tab, [], n, [(8, ⟨[(2, (.ptr 0 [])), (3, (.ptr 1 [])), (4, (.ptr 2 [])), (5, (.ptr 3 [])), (6, (.data true tI))], [.var 43 (.data true (.arr 4 tI)), .var 43 (.data true (.arr 4 tI)), .var 43 (.data true (.arr 4 tI)), .var 43 (.data true (.arr 4 tI))], 0⟩)]⟩ Try.f153 s_l2Third_i s_l2Third_o x = s_l2Third n x.1 x.2 := by kernel_rfl
noncomputable def s_l2Third_e (n : Nat) : Ent := ⟨153, s_l2Third_i, s_l2Third_o, fun x => s_l2Third n x.1 x.2⟩
theorem s_l2Third_ok (n : Nat) : EntOK Try.prog (s_l2Third_e n) ∧ Own Try.prog 153 := ent_ok tabOK0 .nil Try.func153 rfl (by kernel_rfl) (s_l2Third_ev n)
def s_Cur_dense7'p_i : CSh := ⟨[(.ptr 0 [])], [.var 114 (.data true (.pair (.sl (.int .u8)) (.pair tI (.int .u64))))]⟩
def s_Cur_dense7'p_o : RSh := ⟨(.own 1), [.var 114 (.data true (.pair (.sl (.int .u8)) (.pair tI (.int .u64)))), .rows 43 true (.arr 4 tI)]⟩
theorem s_Cur_dense7'p_ev (n : Nat) (x : TupT s_Cur_dense7'p_i.tys) : evF ⟨tab, [s_Cur_hand'p_e n, s_l2Hand_e n, s_Cur_among'pl_e n, s_Cur_pick'p_e n, s_l2At_e n, s_l2Put_e n, s_l2Third_e n, s_Cur_one'p_e n], n, [(18, ⟨[(0, (.ptr 0 [])), (4, (.own 1)), (5, (.data true tI))], [.var 114 (.data true (.pair (.sl (.int .u8)) (.pair tI (.int .u64)))), .rows 43 true (.arr 4 tI)], 1⟩), (29, ⟨[(0, (.ptr 0 [])), (4, (.own 1)), (5, (.data true tI)), (6, (.ptr 2 [])), (7, (.ptr 3 []))], [.var 114 (.data true (.pair (.sl (.int .u8)) (.pair tI (.int .u64)))), .rows 43 true (.arr 4 tI), .var 43 (.data true (.arr 4 tI)), .var 43 (.data true (.arr 4 tI))], 1⟩), (5000006, ⟨[(0, (.ptr 0 [])), (3, (.own 1)), (16, (.data true .bool))], [.var 114 (.data true (.pair (.sl (.int .u8)) (.pair tI (.int .u64)))), .rows 43 true (.arr 4 tI)], 1⟩), (5000031, ⟨[(0, (.ptr 0 [])), (4, (.own 1)), (5, (.data true tI)), (6, (.ptr 2 [])), (7, (.ptr 3 [])), (38, (.data true .bool))], [.var 114 (.data true (.pair (.sl (.int .u8)) (.pair tI (.int .u64)))), .rows 43 true (.arr 4 tI), .var 43 (.data true (.arr 4 tI)), .var 43 (.data true (.arr 4 tI))], 1⟩)]⟩ Try.f129 s_Cur_dense7'p_i s_Cur_dense7'p_o x = s_Cur_dense7'p n x := by kernel_rfl
noncomputable def s_Cur_dense7'p_e (n : Nat) : Ent := ⟨129, s_Cur_dense7'p_i, s_Cur_dense7'p_o, fun x => s_Cur_dense7'p n x⟩
theorem s_Cur_dense7'p_ok (n : Nat) : EntOK Try.prog (s_Cur_dense7'p_e n) ∧ Own Try.prog 129 := ent_ok tabOK0 (.cons (s_Cur_hand'p_ok n) (.cons (s_l2Hand_ok n) (.cons (s_Cur_among'pl_ok n) (.cons (s_Cur_pick'p_ok n) (.cons (s_l2At_ok n) (.cons (s_l2Put_ok n) (.cons (s_l2Third_ok n) (.cons (s_Cur_one'p_ok n) .nil)))))))) Try.func129 rfl (by kernel_rfl) (s_Cur_dense7'p_ev n)
def s_DrawLineCounts_i : CSh := ⟨[(.data false (.sl (.int .u8)))], []⟩
def s_DrawLineCounts_o : RSh := ⟨(.own 0), [.rows 43 true (.arr 4 tI)]⟩
theorem s_DrawLineCounts_ev (n : Nat) (x : TupT s_DrawLineCounts_i.tys) : evF ⟨tab, [s_Cur_dense7'p_e n], n, []⟩ Try.f114 s_DrawLineCounts_i s_DrawLineCounts_o x = s_DrawLineCounts n x := by kernel_rfl
noncomputable def s_DrawLineCounts_e (n : Nat) : Ent := ⟨114, s_DrawLineCounts_i, s_DrawLineCounts_o, fun x => s_DrawLineCounts n x⟩
theorem s_DrawLineCounts_ok (n : Nat) : EntOK Try.prog (s_DrawLineCounts_e n) ∧ Own Try.prog 114 := ent_ok tabOK0 (.cons (s_Cur_dense7'p_ok n) .nil) Try.func114 rfl (by kernel_rfl) (s_DrawLineCounts_ev n)
def s_DrawFirstPicking_i : CSh := ⟨[(.data false (.sl (.int .u8)))], []⟩
def s_DrawFirstPicking_o : RSh := ⟨(.own 0), [.rows 43 true (.arr 4 tI)]⟩
theorem s_DrawFirstPicking_ev (n : Nat) (x : TupT s_DrawFirstPicking_i.tys) : evF ⟨tab, [s_DrawLineCounts_e n], n, []⟩ Try.f12 s_DrawFirstPicking_i s_DrawFirstPicking_o x = s_DrawFirstPicking n x := by kernel_rfl
noncomputable def s_DrawFirstPicking_e (n : Nat) : Ent := ⟨12, s_DrawFirstPicking_i, s_DrawFirstPicking_o, fun x => s_DrawFirstPicking n x⟩
theorem s_DrawFirstPicking_ok (n : Nat) : EntOK Try.prog (s_DrawFirstPicking_e n) ∧ Own Try.prog 12 := ent_ok tabOK0 (.cons (s_DrawLineCounts_ok n) .nil) Try.func12 rfl (by kernel_rfl) (s_DrawFirstPicking_ev n)
def i_within_i : CSh := ⟨[(.data true tI), (.data true tI), (.data true tI)], []⟩
def i_within_o : RSh := ⟨(.data true .bool), []⟩
theorem i_within_ev (n : Nat) (x : TupT i_within_i.tys) : evF ⟨tab, [], n, []⟩ Try.f132 i_within_i i_within_o x = i_within n x.1 x.2.1 x.2.2 := by kernel_rfl
noncomputable def i_within_e (n : Nat) : Ent := ⟨132, i_within_i, i_within_o, fun x => i_within n x.1 x.2.1 x.2.2⟩
theorem i_within_ok (n : Nat) : EntOK Try.prog (i_within_e n) ∧ Own Try.prog 132 := ent_ok tabOK0 .nil Try.func132 rfl (by kernel_rfl) (i_within_ev n)
def i_allWithin_1'pp_i : CSh := ⟨[(.data true tI), (.ptr 0 []), (.ptr 1 [])], [.var 3 (.data true tI), .var 3 (.data true tI)]⟩
def i_allWithin_1'pp_o : RSh := ⟨(.data true .bool), [.var 3 (.data true tI), .var 3 (.data true tI)]⟩
theorem i_allWithin_1'pp_ev (n : Nat) (x : TupT i_allWithin_1'pp_i.tys) : evF ⟨tab, [i_within_e n], n, []⟩ Try.f229 i_allWithin_1'pp_i i_allWithin_1'pp_o x = i_allWithin_1'pp n x.1 x.2.1 x.2.2 := by kernel_rfl
noncomputable def i_allWithin_1'pp_e (n : Nat) : Ent := ⟨229, i_allWithin_1'pp_i, i_allWithin_1'pp_o, fun x => i_allWithin_1'pp n x.1 x.2.1 x.2.2⟩
theorem i_allWithin_1'pp_ok (n : Nat) : EntOK Try.prog (i_allWithin_1'pp_e n) ∧ Own Try.prog 229 := ent_ok tabOK0 (.cons (i_within_ok n) .nil) Try.func229 rfl (by kernel_rfl) (i_allWithin_1'pp_ev n)
def slices_IndexFunc_Sint_int_'l_i_allWithin_1pp_i : CSh := ⟨[(.data false (.sl tI)), (.clo 229 (.tcons (.ptr 0 []) (.tcons (.ptr 1 []) .tnil)))], [.var 3 (.data true tI), .var 3 (.data true tI)]⟩
def slices_IndexFunc_Sint_int_'l_i_allWithin_1pp_o : RSh := ⟨(.data true tI), [.var 3 (.data true tI), .var 3 (.data true tI)]⟩
theorem slices_IndexFunc_Sint_int_'l_i_allWithin_1pp_ev (n : Nat) (x : TupT slices_IndexFunc_Sint_int_'l_i_allWithin_1pp_i.tys) : evF ⟨tab, [i_allWithin_1'pp_e n], n, [(6, ⟨[(0, (.data false (.sl tI))), (1, (.clo 229 (.tcons (.ptr 0 []) (.tcons (.ptr 1 []) .tnil)))), (7, (.data true tI)), (8, (.data true tI))], [.var 3 (.data true tI), .var 3 (.data true tI)], 2⟩)]⟩ Try.f246 slices_IndexFunc_Sint_int_'l_i_allWithin_1pp_i slices_IndexFunc_Sint_int_'l_i_allWithin_1pp_o x = slices_IndexFunc_Sint_int_'l_i_allWithin_1pp n x.1 x.2.1 x.2.2 := by kernel_rfl
noncomputable def slices_IndexFunc_Sint_int_'l_i_allWithin_1pp_e (n : Nat) : Ent := ⟨246, slices_IndexFunc_Sint_int_'l_i_allWithin_1pp_i, slices_IndexFunc_Sint_int_'l_i_allWithin_1pp_o, fun x => slices_IndexFunc_Sint_int_'l_i_allWithin_1pp n x.1 x.2.1 x.2.2⟩
theorem slices_IndexFunc_Sint_int_'l_i_allWithin_1pp_ok (n : Nat) : EntOK Try.prog (slices_IndexFunc_Sint_int_'l_i_allWithin_1pp_e n) ∧ Own Try.prog 246 := ent_ok tabOK0 (.cons (i_allWithin_1'pp_ok n) .nil) Try.func246 rfl (by kernel_rfl) (slices_IndexFunc_Sint_int_'l_i_allWithin_1pp_ev n)
def slices_ContainsFunc_Sint_int_'l_i_allWithin_1pp_i : CSh := ⟨[(.data false (.sl tI)), (.clo 229 (.tcons (.ptr 0 []) (.tcons (.ptr 1 []) .tnil)))], [.var 3 (.data true tI), .var 3 (.data true tI)]⟩
def slices_ContainsFunc_Sint_int_'l_i_allWithin_1pp_o : RSh := ⟨(.data true .bool), [.var 3 (.data true tI), .var 3 (.data true tI)]⟩
theorem slices_ContainsFunc_Sint_int_'l_i_allWithin_1pp_ev (n : Nat) (x : TupT slices_ContainsFunc_Sint_int_'l_i_allWithin_1pp_i.tys) : evF ⟨tab, [slices_IndexFunc_Sint_int_'l_i_allWithin_1pp_e n], n, []⟩ Try.f228 slices_ContainsFunc_Sint_int_'l_i_allWithin_1pp_i slices_ContainsFunc_Sint_int_'l_i_allWithin_1pp_o x = slices_ContainsFunc_Sint_int_'l_i_allWithin_1pp n x.1 x.2.1 x.2.2 := by kernel_rfl
noncomputable def slices_ContainsFunc_Sint_int_'l_i_allWithin_1pp_e (n : Nat) : Ent := ⟨228, slices_ContainsFunc_Sint_int_'l_i_allWithin_1pp_i, slices_ContainsFunc_Sint_int_'l_i_allWithin_1pp_o, fun x => slices_ContainsFunc_Sint_int_'l_i_allWithin_1pp n x.1 x.2.1 x.2.2⟩
theorem slices_ContainsFunc_Sint_int_'l_i_allWithin_1pp_ok (n : Nat) : EntOK Try.prog (slices_ContainsFunc_Sint_int_'l_i_allWithin_1pp_e n) ∧ Own Try.prog 228 := ent_ok tabOK0 (.cons (slices_IndexFunc_Sint_int_'l_i_allWithin_1pp_ok n) .nil) Try.func228 rfl (by kernel_rfl) (slices_ContainsFunc_Sint_int_'l_i_allWithin_1pp_ev n)
def i_allWithin_i : CSh := ⟨[(.data false (.sl tI)), (.data true tI), (.data true tI)], []⟩
def i_allWithin_o : RSh := ⟨(.data true .bool), []⟩
theorem i_allWithin_ev (n : Nat) (x : TupT i_allWithin_i.tys) : evF ⟨tab, [slices_ContainsFunc_Sint_int_'l_i_allWithin_1pp_e n], n, []⟩ Try.f160 i_allWithin_i i_allWithin_o x = i_allWithin n x.1 x.2.1 x.2.2 := by kernel_rfl
noncomputable def i_allWithin_e (n : Nat) : Ent := ⟨160, i_allWithin_i, i_allWithin_o, fun x => i_allWithin n x.1 x.2.1 x.2.2⟩
theorem i_allWithin_ok (n : Nat) : EntOK Try.prog (i_allWithin_e n) ∧ Own Try.prog 160 := ent_ok tabOK0 (.cons (slices_ContainsFunc_Sint_int_'l_i_allWithin_1pp_ok n) .nil) Try.func160 rfl (by kernel_rfl) (i_allWithin_ev n)
def i_IsCard_i : CSh := ⟨[(.data true (.arr 4 tI))], []⟩
def i_IsCard_o : RSh := ⟨(.data true .bool), []⟩
theorem i_IsCard_ev (n : Nat) (x : TupT i_IsCard_i.tys) : evF ⟨tab, [i_allWithin_e n], n, []⟩ Try.f55 i_IsCard_i i_IsCard_o x = i_IsCard n x := by kernel_rfl
noncomputable def i_IsCard_e (n : Nat) : Ent := ⟨55, i_IsCard_i, i_IsCard_o, fun x => i_IsCard n x⟩
theorem i_IsCard_ok (n : Nat) : EntOK Try.prog (i_IsCard_e n) ∧ Own Try.prog 55 := ent_ok tabOK0 (.cons (i_allWithin_ok n) .nil) Try.func55 rfl (by kernel_rfl) (i_IsCard_ev n)
def i_number_i : CSh := ⟨[(.data true (.arr 4 tI))], []⟩
def i_number_o : RSh := ⟨(.data true tI), []⟩
theorem i_number_ev (n : Nat) (x : TupT i_number_i.tys) : evF ⟨tab, [], n, [(8, ⟨[(3, (.data true tI)), (6, (.data true (.arr 4 tI))), (7, (.data true tI))], [], 0⟩)]⟩ Try.f161 i_number_i i_number_o x = i_number n x := by kernel_rfl
noncomputable def i_number_e (n : Nat) : Ent := ⟨161, i_number_i, i_number_o, fun x => i_number n x⟩
theorem i_number_ok (n : Nat) : EntOK Try.prog (i_number_e n) ∧ Own Try.prog 161 := ent_ok tabOK0 .nil Try.func161 rfl (by kernel_rfl) (i_number_ev n)
def i_IsHand_i : CSh := ⟨[(.data false (.sl (.arr 4 tI)))], []⟩
def i_IsHand_o : RSh := ⟨(.data true .bool), []⟩
theorem i_IsHand_ev (n : Nat) (x : TupT i_IsHand_i.tys) : evF ⟨tab, [i_IsCard_e n, i_number_e n], n, [(6, ⟨[(0, (.data false (.sl (.arr 4 tI)))), (5, (.data false (.sl (.arr 4 tI)))), (6, (.data true tI)), (7, (.data true tI))], [], 0⟩)]⟩ Try.f120 i_IsHand_i i_IsHand_o x = i_IsHand n x := by kernel_rfl
noncomputable def i_IsHand_e (n : Nat) : Ent := ⟨120, i_IsHand_i, i_IsHand_o, fun x => i_IsHand n x⟩
theorem i_IsHand_ok (n : Nat) : EntOK Try.prog (i_IsHand_e n) ∧ Own Try.prog 120 := ent_ok tabOK0 (.cons (i_IsCard_ok n) (.cons (i_number_ok n) .nil)) Try.func120 rfl (by kernel_rfl) (i_IsHand_ev n)
def i_isParted_i : CSh := ⟨[(.data false (.sl (.arr 4 tI)))], []⟩
def i_isParted_o : RSh := ⟨(.data true .bool), []⟩
theorem i_isParted_ev (n : Nat) (x : TupT i_isParted_i.tys) : evF ⟨tab, [i_IsHand_e n], n, []⟩ Try.f115 i_isParted_i i_isParted_o x = i_isParted n x := by kernel_rfl
noncomputable def i_isParted_e (n : Nat) : Ent := ⟨115, i_isParted_i, i_isParted_o, fun x => i_isParted n x⟩
theorem i_isParted_ok (n : Nat) : EntOK Try.prog (i_isParted_e n) ∧ Own Try.prog 115 := ent_ok tabOK0 (.cons (i_IsHand_ok n) .nil) Try.func115 rfl (by kernel_rfl) (i_isParted_ev n)
def i_third_i : CSh := ⟨[(.data true (.arr 4 tI)), (.data true (.arr 4 tI))], []⟩
def i_third_o : RSh := ⟨(.data true (.arr 4 tI)), []⟩
theorem i_third_ev (n : Nat) (x : TupT i_third_i.tys) : evF ⟨tab, [], n, [(8, ⟨[(2, (.ptr 0 [])), (3, (.ptr 1 [])), (4, (.ptr 2 [])), (5, (.ptr 3 [])), (8, (.data true tI))], [.var 43 (.data true (.arr 4 tI)), .var 43 (.data true (.arr 4 tI)), .var 43 (.data true (.arr 4 tI)), .var 43 (.data true (.arr 4 tI))], 0⟩)]⟩ Try.f151 i_third_i i_third_o x = i_third n x.1 x.2 := by kernel_rfl
noncomputable def i_third_e (n : Nat) : Ent := ⟨151, i_third_i, i_third_o, fun x => i_third n x.1 x.2⟩
theorem i_third_ok (n : Nat) : EntOK Try.prog (i_third_e n) ∧ Own Try.prog 151 := ent_ok tabOK0 .nil Try.func151 rfl (by kernel_rfl) (i_third_ev n)
def i_linesIn_i : CSh := ⟨[(.data false (.sl (.arr 4 tI)))], []⟩
def i_linesIn_o : RSh := ⟨(.own 0), [.rows 89 true (.arr 3 tI)]⟩
theorem i_linesIn_ev (n : Nat) (x : TupT i_linesIn_i.tys) : evF ⟨tab, [i_number_e n, i_third_e n], n, [(8, ⟨[(0, (.data false (.sl (.arr 4 tI)))), (3, (.ptr 0 [])), (12, (.data false (.sl (.arr 4 tI)))), (13, (.data true tI)), (14, (.data true tI))], [.var 163 (.data true (.arr 81 tI))], 0⟩), (27, ⟨[(0, (.data false (.sl (.arr 4 tI)))), (3, (.ptr 0 [])), (6, (.own 1)), (26, (.data false (.sl (.arr 4 tI)))), (27, (.data true tI)), (28, (.data true tI))], [.var 163 (.data true (.arr 81 tI)), .rows 89 true (.arr 3 tI)], 0⟩), (41, ⟨[(0, (.data false (.sl (.arr 4 tI)))), (3, (.ptr 0 [])), (6, (.own 1)), (7, (.data true tI)), (8, (.ptr 2 [])), (9, (.data true tI)), (26, (.data false (.sl (.arr 4 tI)))), (27, (.data true tI)), (28, (.data true tI))], [.var 163 (.data true (.arr 81 tI)), .rows 89 true (.arr 3 tI), .var 43 (.data true (.arr 4 tI))], 0⟩)]⟩ Try.f121 i_linesIn_i i_linesIn_o x = i_linesIn n x := by kernel_rfl
noncomputable def i_linesIn_e (n : Nat) : Ent := ⟨121, i_linesIn_i, i_linesIn_o, fun x => i_linesIn n x⟩
theorem i_linesIn_ok (n : Nat) : EntOK Try.prog (i_linesIn_e n) ∧ Own Try.prog 121 := ent_ok tabOK0 (.cons (i_number_ok n) (.cons (i_third_ok n) .nil)) Try.func121 rfl (by kernel_rfl) (i_linesIn_ev n)
def slices_Clone_SA3_A3__i : CSh := ⟨[(.data false (.sl (.arr 3 tI)))], []⟩
def slices_Clone_SA3_A3__o : RSh := ⟨(.own 0), [.rows 89 true (.arr 3 tI)]⟩
theorem slices_Clone_SA3_A3__ev (n : Nat) (x : TupT slices_Clone_SA3_A3__i.tys) : evF ⟨tab, [], n, []⟩ Try.f212 slices_Clone_SA3_A3__i slices_Clone_SA3_A3__o x = slices_Clone_SA3_A3_ n x := by kernel_rfl
noncomputable def slices_Clone_SA3_A3__e (n : Nat) : Ent := ⟨212, slices_Clone_SA3_A3__i, slices_Clone_SA3_A3__o, fun x => slices_Clone_SA3_A3_ n x⟩
theorem slices_Clone_SA3_A3__ok (n : Nat) : EntOK Try.prog (slices_Clone_SA3_A3__e n) ∧ Own Try.prog 212 := ent_ok tabOK0 .nil Try.func212 rfl (by kernel_rfl) (slices_Clone_SA3_A3__ev n)
def i_firstPicking_1'lp_o_i : CSh := ⟨[(.data false (.sl (.arr 3 tI))), (.ptr 0 [])], [.var 26 (.own 1), .rows 89 true (.arr 3 tI)]⟩
def i_firstPicking_1'lp_o_o : RSh := ⟨.tnil, [.var 26 (.own 2), .gone, .rows 89 true (.arr 3 tI)]⟩
theorem i_firstPicking_1'lp_o_ev (n : Nat) (x : TupT i_firstPicking_1'lp_o_i.tys) : evF ⟨tab, [slices_Clone_SA3_A3__e n], n, []⟩ Try.f211 i_firstPicking_1'lp_o_i i_firstPicking_1'lp_o_o x = i_firstPicking_1'lp_o n x.1 x.2 := by kernel_rfl
noncomputable def i_firstPicking_1'lp_o_e (n : Nat) : Ent := ⟨211, i_firstPicking_1'lp_o_i, i_firstPicking_1'lp_o_o, fun x => i_firstPicking_1'lp_o n x.1 x.2⟩
theorem i_firstPicking_1'lp_o_ok (n : Nat) : EntOK Try.prog (i_firstPicking_1'lp_o_e n) ∧ Own Try.prog 211 := ent_ok tabOK0 (.cons (slices_Clone_SA3_A3__ok n) .nil) Try.func211 rfl (by kernel_rfl) (i_firstPicking_1'lp_o_ev n)
def slices_Index_Sint_int__i : CSh := ⟨[(.data false (.sl tI)), (.data true tI)], []⟩
def slices_Index_Sint_int__o : RSh := ⟨(.data true tI), []⟩
theorem slices_Index_Sint_int__ev (n : Nat) (x : TupT slices_Index_Sint_int__i.tys) : evF ⟨tab, [], n, [(6, ⟨[(0, (.data false (.sl tI))), (1, (.data true tI)), (7, (.data true tI)), (8, (.data true tI))], [], 0⟩)]⟩ Try.f222 slices_Index_Sint_int__i slices_Index_Sint_int__o x = slices_Index_Sint_int_ n x.1 x.2 := by kernel_rfl
noncomputable def slices_Index_Sint_int__e (n : Nat) : Ent := ⟨222, slices_Index_Sint_int__i, slices_Index_Sint_int__o, fun x => slices_Index_Sint_int_ n x.1 x.2⟩
theorem slices_Index_Sint_int__ok (n : Nat) : EntOK Try.prog (slices_Index_Sint_int__e n) ∧ Own Try.prog 222 := ent_ok tabOK0 .nil Try.func222 rfl (by kernel_rfl) (slices_Index_Sint_int__ev n)
def slices_Contains_Sint_int__i : CSh := ⟨[(.data false (.sl tI)), (.data true tI)], []⟩
def slices_Contains_Sint_int__o : RSh := ⟨(.data true .bool), []⟩
theorem slices_Contains_Sint_int__ev (n : Nat) (x : TupT slices_Contains_Sint_int__i.tys) : evF ⟨tab, [slices_Index_Sint_int__e n], n, []⟩ Try.f138 slices_Contains_Sint_int__i slices_Contains_Sint_int__o x = slices_Contains_Sint_int_ n x.1 x.2 := by kernel_rfl
noncomputable def slices_Contains_Sint_int__e (n : Nat) : Ent := ⟨138, slices_Contains_Sint_int__i, slices_Contains_Sint_int__o, fun x => slices_Contains_Sint_int_ n x.1 x.2⟩
theorem slices_Contains_Sint_int__ok (n : Nat) : EntOK Try.prog (slices_Contains_Sint_int__e n) ∧ Own Try.prog 138 := ent_ok tabOK0 (.cons (slices_Index_Sint_int__ok n) .nil) Try.func138 rfl (by kernel_rfl) (slices_Contains_Sint_int__ev n)
def i_common_i : CSh := ⟨[(.data true (.arr 3 tI)), (.data true (.arr 3 tI))], []⟩
def i_common_o : RSh := ⟨(.data true tI), []⟩
theorem i_common_ev (n : Nat) (x : TupT i_common_i.tys) : evF ⟨tab, [slices_Contains_Sint_int__e n], n, [(8, ⟨[(3, (.ptr 0 [])), (5, (.data true tI)), (8, (.data true (.arr 3 tI))), (9, (.data true tI))], [.var 89 (.data true (.arr 3 tI))], 0⟩)]⟩ Try.f124 i_common_i i_common_o x = i_common n x.1 x.2 := by kernel_rfl
noncomputable def i_common_e (n : Nat) : Ent := ⟨124, i_common_i, i_common_o, fun x => i_common n x.1 x.2⟩
theorem i_common_ok (n : Nat) : EntOK Try.prog (i_common_e n) ∧ Own Try.prog 124 := ent_ok tabOK0 (.cons (slices_Contains_Sint_int__ok n) .nil) Try.func124 rfl (by kernel_rfl) (i_common_ev n)
def i_pickings_1'p_i : CSh := ⟨[(.data true (.arr 3 tI)), (.ptr 0 [])], [.var 89 (.data true (.arr 3 tI))]⟩
def i_pickings_1'p_o : RSh := ⟨(.data true .bool), [.var 89 (.data true (.arr 3 tI))]⟩
theorem i_pickings_1'p_ev (n : Nat) (x : TupT i_pickings_1'p_i.tys) : evF ⟨tab, [i_common_e n], n, []⟩ Try.f243 i_pickings_1'p_i i_pickings_1'p_o x = i_pickings_1'p n x.1 x.2 := by kernel_rfl
noncomputable def i_pickings_1'p_e (n : Nat) : Ent := ⟨243, i_pickings_1'p_i, i_pickings_1'p_o, fun x => i_pickings_1'p n x.1 x.2⟩
theorem i_pickings_1'p_ok (n : Nat) : EntOK Try.prog (i_pickings_1'p_e n) ∧ Own Try.prog 243 := ent_ok tabOK0 (.cons (i_common_ok n) .nil) Try.func243 rfl (by kernel_rfl) (i_pickings_1'p_ev n)
def slices_IndexFunc_SA3_A3_'l_i_pickings_1p_i : CSh := ⟨[(.data false (.sl (.arr 3 tI))), (.clo 243 (.tcons (.ptr 0 []) .tnil))], [.var 89 (.data true (.arr 3 tI))]⟩
def slices_IndexFunc_SA3_A3_'l_i_pickings_1p_o : RSh := ⟨(.data true tI), [.var 89 (.data true (.arr 3 tI))]⟩
theorem slices_IndexFunc_SA3_A3_'l_i_pickings_1p_ev (n : Nat) (x : TupT slices_IndexFunc_SA3_A3_'l_i_pickings_1p_i.tys) : evF ⟨tab, [i_pickings_1'p_e n], n, [(6, ⟨[(0, (.data false (.sl (.arr 3 tI)))), (1, (.clo 243 (.tcons (.ptr 0 []) .tnil))), (7, (.data true tI)), (8, (.data true tI))], [.var 89 (.data true (.arr 3 tI))], 1⟩)]⟩ Try.f214 slices_IndexFunc_SA3_A3_'l_i_pickings_1p_i slices_IndexFunc_SA3_A3_'l_i_pickings_1p_o x = slices_IndexFunc_SA3_A3_'l_i_pickings_1p n x.1 x.2 := by kernel_rfl
noncomputable def slices_IndexFunc_SA3_A3_'l_i_pickings_1p_e (n : Nat) : Ent := ⟨214, slices_IndexFunc_SA3_A3_'l_i_pickings_1p_i, slices_IndexFunc_SA3_A3_'l_i_pickings_1p_o, fun x => slices_IndexFunc_SA3_A3_'l_i_pickings_1p n x.1 x.2⟩
theorem slices_IndexFunc_SA3_A3_'l_i_pickings_1p_ok (n : Nat) : EntOK Try.prog (slices_IndexFunc_SA3_A3_'l_i_pickings_1p_e n) ∧ Own Try.prog 214 := ent_ok tabOK0 (.cons (i_pickings_1'p_ok n) .nil) Try.func214 rfl (by kernel_rfl) (slices_IndexFunc_SA3_A3_'l_i_pickings_1p_ev n)
def slices_ContainsFunc_SA3_A3_'l_i_pickings_1p_i : CSh := ⟨[(.data false (.sl (.arr 3 tI))), (.clo 243 (.tcons (.ptr 0 []) .tnil))], [.var 89 (.data true (.arr 3 tI))]⟩
def slices_ContainsFunc_SA3_A3_'l_i_pickings_1p_o : RSh := ⟨(.data true .bool), [.var 89 (.data true (.arr 3 tI))]⟩
theorem slices_ContainsFunc_SA3_A3_'l_i_pickings_1p_ev (n : Nat) (x : TupT slices_ContainsFunc_SA3_A3_'l_i_pickings_1p_i.tys) : evF ⟨tab, [slices_IndexFunc_SA3_A3_'l_i_pickings_1p_e n], n, []⟩ Try.f122 slices_ContainsFunc_SA3_A3_'l_i_pickings_1p_i slices_ContainsFunc_SA3_A3_'l_i_pickings_1p_o x = slices_ContainsFunc_SA3_A3_'l_i_pickings_1p n x.1 x.2 := by kernel_rfl
noncomputable def slices_ContainsFunc_SA3_A3_'l_i_pickings_1p_e (n : Nat) : Ent := ⟨122, slices_ContainsFunc_SA3_A3_'l_i_pickings_1p_i, slices_ContainsFunc_SA3_A3_'l_i_pickings_1p_o, fun x => slices_ContainsFunc_SA3_A3_'l_i_pickings_1p n x.1 x.2⟩
theorem slices_ContainsFunc_SA3_A3_'l_i_pickings_1p_ok (n : Nat) : EntOK Try.prog (slices_ContainsFunc_SA3_A3_'l_i_pickings_1p_e n) ∧ Own Try.prog 122 := ent_ok tabOK0 (.cons (slices_IndexFunc_SA3_A3_'l_i_pickings_1p_ok n) .nil) Try.func122 rfl (by kernel_rfl) (slices_ContainsFunc_SA3_A3_'l_i_pickings_1p_ev n)
def i_pickings'll_i_firstPicking_1p_o_i : CSh := ⟨[(.data false (.sl (.arr 3 tI))), (.data false (.sl (.arr 3 tI))), (.clo 211 (.tcons (.ptr 0 []) .tnil))], [.var 26 (.own 1), .rows 89 true (.arr 3 tI)]⟩
def i_pickings'll_i_firstPicking_1p_o_o : RSh := ⟨.tnil, [.var 26 (.own 2), .gone, .rows 89 true (.arr 3 tI)]⟩
theorem i_pickings'll_i_firstPicking_1p_o_ev (n : Nat) (go : TupT i_pickings'll_i_firstPicking_1p_o_i.tys → Option (TupT i_pickings'll_i_firstPicking_1p_o_o.tys)) (x : TupT i_pickings'll_i_firstPicking_1p_o_i.tys) : evF ⟨tab, [⟨210, i_pickings'll_i_firstPicking_1p_o_i, i_pickings'll_i_firstPicking_1p_o_o, go⟩, i_firstPicking_1'lp_o_e n, slices_ContainsFunc_SA3_A3_'l_i_pickings_1p_e n], n, [(5, ⟨[(0, (.data false (.sl (.arr 3 tI)))), (1, (.data false (.sl (.arr 3 tI)))), (2, (.clo 211 (.tcons (.ptr 0 []) .tnil))), (11, (.data false (.sl (.arr 3 tI)))), (12, (.data true tI)), (13, (.data true tI))], [.var 26 (.own 2), .gone, .rows 89 true (.arr 3 tI)], 2⟩)]⟩ Try.f210 i_pickings'll_i_firstPicking_1p_o_i i_pickings'll_i_firstPicking_1p_o_o x = i_pickings'll_i_firstPicking_1p_o_R n go x := by kernel_rfl
noncomputable def i_pickings'll_i_firstPicking_1p_o_e (n : Nat) : Ent := ⟨210, i_pickings'll_i_firstPicking_1p_o_i, i_pickings'll_i_firstPicking_1p_o_o, fun x => i_pickings'll_i_firstPicking_1p_o n x.1 x.2.1 x.2.2⟩
theorem i_pickings'll_i_firstPicking_1p_o_ok (n : Nat) : EntOK Try.prog (i_pickings'll_i_firstPicking_1p_o_e n) ∧ Own Try.prog 210 := ent_rec tabOK0 (.cons (i_firstPicking_1'lp_o_ok n) (.cons (slices_ContainsFunc_SA3_A3_'l_i_pickings_1p_ok n) .nil)) Try.func210 rfl (by kernel_rfl) (i_pickings'll_i_firstPicking_1p_o_ev n) n
def i_firstPicking_i : CSh := ⟨[(.data false (.sl (.arr 4 tI)))], []⟩
def i_firstPicking_o : RSh := ⟨(.own 0), [.rows 89 true (.arr 3 tI)]⟩
theorem i_firstPicking_ev (n : Nat) (x : TupT i_firstPicking_i.tys) : evF ⟨tab, [i_linesIn_e n, i_pickings'll_i_firstPicking_1p_o_e n], n, []⟩ Try.f116 i_firstPicking_i i_firstPicking_o x = i_firstPicking n x := by kernel_rfl
noncomputable def i_firstPicking_e (n : Nat) : Ent := ⟨116, i_firstPicking_i, i_firstPicking_o, fun x => i_firstPicking n x⟩
theorem i_firstPicking_ok (n : Nat) : EntOK Try.prog (i_firstPicking_e n) ∧ Own Try.prog 116 := ent_ok tabOK0 (.cons (i_linesIn_ok n) (.cons (i_pickings'll_i_firstPicking_1p_o_ok n) .nil)) Try.func116 rfl (by kernel_rfl) (i_firstPicking_ev n)
def i_FirstPicking_i : CSh := ⟨[(.data false (.sl (.arr 4 tI)))], []⟩
def i_FirstPicking_o : RSh := ⟨(.tcons (.own 0) (.tcons (.data true .bool) .tnil)), [.rows 89 true (.arr 3 tI)]⟩
theorem i_FirstPicking_ev (n : Nat) (x : TupT i_FirstPicking_i.tys) : evF ⟨tab, [i_isParted_e n, i_firstPicking_e n], n, []⟩ Try.f13 i_FirstPicking_i i_FirstPicking_o x = i_FirstPicking n x := by kernel_rfl
noncomputable def i_FirstPicking_e (n : Nat) : Ent := ⟨13, i_FirstPicking_i, i_FirstPicking_o, fun x => i_FirstPicking n x⟩
theorem i_FirstPicking_ok (n : Nat) : EntOK Try.prog (i_FirstPicking_e n) ∧ Own Try.prog 13 := ent_ok tabOK0 (.cons (i_isParted_ok n) (.cons (i_firstPicking_ok n) .nil)) Try.func13 rfl (by kernel_rfl) (i_FirstPicking_ev n)
def s_l7Pool_i : CSh := ⟨[(.data false (.sl (.arr 4 tI)))], []⟩
def s_l7Pool_o : RSh := ⟨(.data true .bool), []⟩
theorem s_l7Pool_ev (n : Nat) (x : TupT s_l7Pool_i.tys) : evF ⟨tab, [s_l2Hand_e n], n, []⟩ Try.f117 s_l7Pool_i s_l7Pool_o x = s_l7Pool n x := by kernel_rfl
noncomputable def s_l7Pool_e (n : Nat) : Ent := ⟨117, s_l7Pool_i, s_l7Pool_o, fun x => s_l7Pool n x⟩
theorem s_l7Pool_ok (n : Nat) : EntOK Try.prog (s_l7Pool_e n) ∧ Own Try.prog 117 := ent_ok tabOK0 (.cons (s_l2Hand_ok n) .nil) Try.func117 rfl (by kernel_rfl) (s_l7Pool_ev n)
def s_l2Place_i : CSh := ⟨[(.data false (.sl (.arr 4 tI))), (.data true (.arr 4 tI))], []⟩
def s_l2Place_o : RSh := ⟨(.data true tI), []⟩
theorem s_l2Place_ev (n : Nat) (x : TupT s_l2Place_i.tys) : evF ⟨tab, [], n, [(6, ⟨[(0, (.data false (.sl (.arr 4 tI)))), (3, (.ptr 0 [])), (5, (.data true tI))], [.var 43 (.data true (.arr 4 tI))], 0⟩)]⟩ Try.f213 s_l2Place_i s_l2Place_o x = s_l2Place n x.1 x.2 := by kernel_rfl
noncomputable def s_l2Place_e (n : Nat) : Ent := ⟨213, s_l2Place_i, s_l2Place_o, fun x => s_l2Place n x.1 x.2⟩
theorem s_l2Place_ok (n : Nat) : EntOK Try.prog (s_l2Place_e n) ∧ Own Try.prog 213 := ent_ok tabOK0 .nil Try.func213 rfl (by kernel_rfl) (s_l2Place_ev n)
def s_l2Lines_i : CSh := ⟨[(.data false (.sl (.arr 4 tI)))], []⟩
def s_l2Lines_o : RSh := ⟨(.own 0), [.rows 89 true (.arr 3 tI)]⟩
theorem s_l2Lines_ev (n : Nat) (x : TupT s_l2Lines_i.tys) : evF ⟨tab, [s_l2Third_e n, s_l2Place_e n], n, [(8, ⟨[(0, (.data false (.sl (.arr 4 tI)))), (3, (.own 0)), (4, (.data true tI))], [.rows 89 true (.arr 3 tI)], 0⟩), (20, ⟨[(0, (.data false (.sl (.arr 4 tI)))), (3, (.own 0)), (4, (.data true tI)), (5, (.data true tI))], [.rows 89 true (.arr 3 tI)], 0⟩)]⟩ Try.f119 s_l2Lines_i s_l2Lines_o x = s_l2Lines n x := by kernel_rfl
noncomputable def s_l2Lines_e (n : Nat) : Ent := ⟨119, s_l2Lines_i, s_l2Lines_o, fun x => s_l2Lines n x⟩
theorem s_l2Lines_ok (n : Nat) : EntOK Try.prog (s_l2Lines_e n) ∧ Own Try.prog 119 := ent_ok tabOK0 (.cons (s_l2Third_ok n) (.cons (s_l2Place_ok n) .nil)) Try.func119 rfl (by kernel_rfl) (s_l2Lines_ev n)
def s_l7Common_i : CSh := ⟨[(.data true (.arr 3 tI)), (.data true (.arr 3 tI))], []⟩
def s_l7Common_o : RSh := ⟨(.data true tI), []⟩
theorem s_l7Common_ev (n : Nat) (x : TupT s_l7Common_i.tys) : evF ⟨tab, [], n, [(8, ⟨[(2, (.ptr 0 [])), (3, (.ptr 1 [])), (5, (.data true tI)), (6, (.data true tI))], [.var 89 (.data true (.arr 3 tI)), .var 89 (.data true (.arr 3 tI))], 0⟩), (20, ⟨[(2, (.ptr 0 [])), (3, (.ptr 1 [])), (5, (.data true tI)), (6, (.data true tI)), (7, (.data true tI))], [.var 89 (.data true (.arr 3 tI)), .var 89 (.data true (.arr 3 tI))], 0⟩)]⟩ Try.f182 s_l7Common_i s_l7Common_o x = s_l7Common n x.1 x.2 := by kernel_rfl
noncomputable def s_l7Common_e (n : Nat) : Ent := ⟨182, s_l7Common_i, s_l7Common_o, fun x => s_l7Common n x.1 x.2⟩
theorem s_l7Common_ok (n : Nat) : EntOK Try.prog (s_l7Common_e n) ∧ Own Try.prog 182 := ent_ok tabOK0 .nil Try.func182 rfl (by kernel_rfl) (s_l7Common_ev n)
def s_l7Free_i : CSh := ⟨[(.data false (.sl (.arr 3 tI))), (.data true (.arr 3 tI))], []⟩
def s_l7Free_o : RSh := ⟨(.data true .bool), []⟩
theorem s_l7Free_ev (n : Nat) (x : TupT s_l7Free_i.tys) : evF ⟨tab, [s_l7Common_e n], n, [(6, ⟨[(0, (.data false (.sl (.arr 3 tI)))), (3, (.ptr 0 [])), (5, (.data true tI))], [.var 89 (.data true (.arr 3 tI))], 0⟩)]⟩ Try.f126 s_l7Free_i s_l7Free_o x = s_l7Free n x.1 x.2 := by kernel_rfl
noncomputable def s_l7Free_e (n : Nat) : Ent := ⟨126, s_l7Free_i, s_l7Free_o, fun x => s_l7Free n x.1 x.2⟩
theorem s_l7Free_ok (n : Nat) : EntOK Try.prog (s_l7Free_e n) ∧ Own Try.prog 126 := ent_ok tabOK0 (.cons (s_l7Common_ok n) .nil) Try.func126 rfl (by kernel_rfl) (s_l7Free_ev n)
def s_l7Best'lk_i : CSh := ⟨[(.data false (.sl (.arr 3 tI))), (.data true (.sl (.arr 3 tI))), (.data true tI)], []⟩
def s_l7Best'lk_o : RSh := ⟨(.data true (.sl (.arr 3 tI))), []⟩
theorem s_l7Best'lk_ev (n : Nat) (go : TupT s_l7Best'lk_i.tys → Option (TupT s_l7Best'lk_o.tys)) (x : TupT s_l7Best'lk_i.tys) : evF ⟨tab, [⟨118, s_l7Best'lk_i, s_l7Best'lk_o, go⟩, s_l7Free_e n], n, [(8, ⟨[(0, (.data false (.sl (.arr 3 tI)))), (1, (.data true (.sl (.arr 3 tI)))), (7, (.data true (.sl (.arr 3 tI)))), (8, (.data true tI))], [], 0⟩)]⟩ Try.f118 s_l7Best'lk_i s_l7Best'lk_o x = s_l7Best'lk_R n go x := by kernel_rfl
noncomputable def s_l7Best'lk_e (n : Nat) : Ent := ⟨118, s_l7Best'lk_i, s_l7Best'lk_o, fun x => s_l7Best'lk n x.1 x.2.1 x.2.2⟩
theorem s_l7Best'lk_ok (n : Nat) : EntOK Try.prog (s_l7Best'lk_e n) ∧ Own Try.prog 118 := ent_rec tabOK0 (.cons (s_l7Free_ok n) .nil) Try.func118 rfl (by kernel_rfl) (s_l7Best'lk_ev n) n
def s_FirstPicking_i : CSh := ⟨[(.data false (.sl (.arr 4 tI)))], []⟩
def s_FirstPicking_o : RSh := ⟨(.tcons (.data true (.sl (.arr 3 tI))) (.tcons (.data true .bool) .tnil)), []⟩
theorem s_FirstPicking_ev (n : Nat) (x : TupT s_FirstPicking_i.tys) : evF ⟨tab, [s_l7Pool_e n, s_l2Lines_e n, s_l7Best'lk_e n], n, []⟩ Try.f14 s_FirstPicking_i s_FirstPicking_o x = s_FirstPicking n x := by kernel_rfl
noncomputable def s_FirstPicking_e (n : Nat) : Ent := ⟨14, s_FirstPicking_i, s_FirstPicking_o, fun x => s_FirstPicking n x⟩
theorem s_FirstPicking_ok (n : Nat) : EntOK Try.prog (s_FirstPicking_e n) ∧ Own Try.prog 14 := ent_ok tabOK0 (.cons (s_l7Pool_ok n) (.cons (s_l2Lines_ok n) (.cons (s_l7Best'lk_ok n) .nil))) Try.func14 rfl (by kernel_rfl) (s_FirstPicking_ev n)
def i_MostDisjoint_i : CSh := ⟨[(.data false (.sl (.arr 4 tI)))], []⟩
def i_MostDisjoint_o : RSh := ⟨(.tcons (.data true tI) (.tcons (.data true .bool) .tnil)), []⟩
theorem i_MostDisjoint_ev (n : Nat) (x : TupT i_MostDisjoint_i.tys) : evF ⟨tab, [i_isParted_e n, i_firstPicking_e n], n, []⟩ Try.f15 i_MostDisjoint_i i_MostDisjoint_o x = i_MostDisjoint n x := by kernel_rfl
noncomputable def i_MostDisjoint_e (n : Nat) : Ent := ⟨15, i_MostDisjoint_i, i_MostDisjoint_o, fun x => i_MostDisjoint n x⟩
theorem i_MostDisjoint_ok (n : Nat) : EntOK Try.prog (i_MostDisjoint_e n) ∧ Own Try.prog 15 := ent_ok tabOK0 (.cons (i_isParted_ok n) (.cons (i_firstPicking_ok n) .nil)) Try.func15 rfl (by kernel_rfl) (i_MostDisjoint_ev n)
def s_MostDisjoint_i : CSh := ⟨[(.data false (.sl (.arr 4 tI)))], []⟩
def s_MostDisjoint_o : RSh := ⟨(.tcons (.data true tI) (.tcons (.data true .bool) .tnil)), []⟩
theorem s_MostDisjoint_ev (n : Nat) (x : TupT s_MostDisjoint_i.tys) : evF ⟨tab, [s_l7Pool_e n, s_l2Lines_e n, s_l7Best'lk_e n], n, []⟩ Try.f16 s_MostDisjoint_i s_MostDisjoint_o x = s_MostDisjoint n x := by kernel_rfl
noncomputable def s_MostDisjoint_e (n : Nat) : Ent := ⟨16, s_MostDisjoint_i, s_MostDisjoint_o, fun x => s_MostDisjoint n x⟩
theorem s_MostDisjoint_ok (n : Nat) : EntOK Try.prog (s_MostDisjoint_e n) ∧ Own Try.prog 16 := ent_ok tabOK0 (.cons (s_l7Pool_ok n) (.cons (s_l2Lines_ok n) (.cons (s_l7Best'lk_ok n) .nil))) Try.func16 rfl (by kernel_rfl) (s_MostDisjoint_ev n)
def i_GreedyPicking_1'p_i : CSh := ⟨[(.data true (.arr 3 tI)), (.ptr 0 [])], [.var 89 (.data true (.arr 3 tI))]⟩
def i_GreedyPicking_1'p_o : RSh := ⟨(.data true .bool), [.var 89 (.data true (.arr 3 tI))]⟩
theorem i_GreedyPicking_1'p_ev (n : Nat) (x : TupT i_GreedyPicking_1'p_i.tys) : evF ⟨tab, [i_common_e n], n, []⟩ Try.f123 i_GreedyPicking_1'p_i i_GreedyPicking_1'p_o x = i_GreedyPicking_1'p n x.1 x.2 := by kernel_rfl
noncomputable def i_GreedyPicking_1'p_e (n : Nat) : Ent := ⟨123, i_GreedyPicking_1'p_i, i_GreedyPicking_1'p_o, fun x => i_GreedyPicking_1'p n x.1 x.2⟩
theorem i_GreedyPicking_1'p_ok (n : Nat) : EntOK Try.prog (i_GreedyPicking_1'p_e n) ∧ Own Try.prog 123 := ent_ok tabOK0 (.cons (i_common_ok n) .nil) Try.func123 rfl (by kernel_rfl) (i_GreedyPicking_1'p_ev n)
def slices_IndexFunc_SA3_A3_'l_i_GreedyPicking_1p_i : CSh := ⟨[(.data false (.sl (.arr 3 tI))), (.clo 123 (.tcons (.ptr 0 []) .tnil))], [.var 89 (.data true (.arr 3 tI))]⟩
def slices_IndexFunc_SA3_A3_'l_i_GreedyPicking_1p_o : RSh := ⟨(.data true tI), [.var 89 (.data true (.arr 3 tI))]⟩
theorem slices_IndexFunc_SA3_A3_'l_i_GreedyPicking_1p_ev (n : Nat) (x : TupT slices_IndexFunc_SA3_A3_'l_i_GreedyPicking_1p_i.tys) : evF ⟨tab, [i_GreedyPicking_1'p_e n], n, [(6, ⟨[(0, (.data false (.sl (.arr 3 tI)))), (1, (.clo 123 (.tcons (.ptr 0 []) .tnil))), (7, (.data true tI)), (8, (.data true tI))], [.var 89 (.data true (.arr 3 tI))], 1⟩)]⟩ Try.f214 slices_IndexFunc_SA3_A3_'l_i_GreedyPicking_1p_i slices_IndexFunc_SA3_A3_'l_i_GreedyPicking_1p_o x = slices_IndexFunc_SA3_A3_'l_i_GreedyPicking_1p n x.1 x.2 := by kernel_rfl
noncomputable def slices_IndexFunc_SA3_A3_'l_i_GreedyPicking_1p_e (n : Nat) : Ent := ⟨214, slices_IndexFunc_SA3_A3_'l_i_GreedyPicking_1p_i, slices_IndexFunc_SA3_A3_'l_i_GreedyPicking_1p_o, fun x => slices_IndexFunc_SA3_A3_'l_i_GreedyPicking_1p n x.1 x.2⟩
theorem slices_IndexFunc_SA3_A3_'l_i_GreedyPicking_1p_ok (n : Nat) : EntOK Try.prog (slices_IndexFunc_SA3_A3_'l_i_GreedyPicking_1p_e n) ∧ Own Try.prog 214 := ent_ok tabOK0 (.cons (i_GreedyPicking_1'p_ok n) .nil) Try.func214 rfl (by kernel_rfl) (slices_IndexFunc_SA3_A3_'l_i_GreedyPicking_1p_ev n)
def slices_ContainsFunc_SA3_A3_'l_i_GreedyPicking_1p_i : CSh := ⟨[(.data false (.sl (.arr 3 tI))), (.clo 123 (.tcons (.ptr 0 []) .tnil))], [.var 89 (.data true (.arr 3 tI))]⟩
def slices_ContainsFunc_SA3_A3_'l_i_GreedyPicking_1p_o : RSh := ⟨(.data true .bool), [.var 89 (.data true (.arr 3 tI))]⟩
theorem slices_ContainsFunc_SA3_A3_'l_i_GreedyPicking_1p_ev (n : Nat) (x : TupT slices_ContainsFunc_SA3_A3_'l_i_GreedyPicking_1p_i.tys) : evF ⟨tab, [slices_IndexFunc_SA3_A3_'l_i_GreedyPicking_1p_e n], n, []⟩ Try.f122 slices_ContainsFunc_SA3_A3_'l_i_GreedyPicking_1p_i slices_ContainsFunc_SA3_A3_'l_i_GreedyPicking_1p_o x = slices_ContainsFunc_SA3_A3_'l_i_GreedyPicking_1p n x.1 x.2 := by kernel_rfl
noncomputable def slices_ContainsFunc_SA3_A3_'l_i_GreedyPicking_1p_e (n : Nat) : Ent := ⟨122, slices_ContainsFunc_SA3_A3_'l_i_GreedyPicking_1p_i, slices_ContainsFunc_SA3_A3_'l_i_GreedyPicking_1p_o, fun x => slices_ContainsFunc_SA3_A3_'l_i_GreedyPicking_1p n x.1 x.2⟩
theorem slices_ContainsFunc_SA3_A3_'l_i_GreedyPicking_1p_ok (n : Nat) : EntOK Try.prog (slices_ContainsFunc_SA3_A3_'l_i_GreedyPicking_1p_e n) ∧ Own Try.prog 122 := ent_ok tabOK0 (.cons (slices_IndexFunc_SA3_A3_'l_i_GreedyPicking_1p_ok n) .nil) Try.func122 rfl (by kernel_rfl) (slices_ContainsFunc_SA3_A3_'l_i_GreedyPicking_1p_ev n)
def i_GreedyPicking_i : CSh := ⟨[(.data false (.sl (.arr 4 tI)))], []⟩
def i_GreedyPicking_o : RSh := ⟨(.tcons (.own 0) (.tcons (.data true .bool) .tnil)), [.rows 89 true (.arr 3 tI)]⟩
theorem i_GreedyPicking_ev (n : Nat) (x : TupT i_GreedyPicking_i.tys) : evF ⟨tab, [i_IsHand_e n, i_linesIn_e n, slices_ContainsFunc_SA3_A3_'l_i_GreedyPicking_1p_e n], n, [(16, ⟨[(4, (.own 0)), (12, (.own 1)), (13, (.data true tI)), (14, (.data true tI))], [.rows 89 true (.arr 3 tI), .rows 89 true (.arr 3 tI)], 0⟩)]⟩ Try.f17 i_GreedyPicking_i i_GreedyPicking_o x = i_GreedyPicking n x := by kernel_rfl
noncomputable def i_GreedyPicking_e (n : Nat) : Ent := ⟨17, i_GreedyPicking_i, i_GreedyPicking_o, fun x => i_GreedyPicking n x⟩
theorem i_GreedyPicking_ok (n : Nat) : EntOK Try.prog (i_GreedyPicking_e n) ∧ Own Try.prog 17 := ent_ok tabOK0 (.cons (i_IsHand_ok n) (.cons (i_linesIn_ok n) (.cons (slices_ContainsFunc_SA3_A3_'l_i_GreedyPicking_1p_ok n) .nil))) Try.func17 rfl (by kernel_rfl) (i_GreedyPicking_ev n)
def s_GreedyPicking_i : CSh := ⟨[(.data false (.sl (.arr 4 tI)))], []⟩
def s_GreedyPicking_o : RSh := ⟨(.tcons (.own 0) (.tcons (.data true .bool) .tnil)), [.rows 89 true (.arr 3 tI)]⟩
theorem s_GreedyPicking_ev (n : Nat) (x : TupT s_GreedyPicking_i.tys) : evF ⟨tab, [s_l2Hand_e n, s_l2Lines_e n, s_l7Free_e n], n, [(18, ⟨[(4, (.own 0)), (5, (.own 1)), (6, (.data true tI))], [.rows 89 true (.arr 3 tI), .rows 89 true (.arr 3 tI)], 0⟩)]⟩ Try.f18 s_GreedyPicking_i s_GreedyPicking_o x = s_GreedyPicking n x := by kernel_rfl
noncomputable def s_GreedyPicking_e (n : Nat) : Ent := ⟨18, s_GreedyPicking_i, s_GreedyPicking_o, fun x => s_GreedyPicking n x⟩
theorem s_GreedyPicking_ok (n : Nat) : EntOK Try.prog (s_GreedyPicking_e n) ∧ Own Try.prog 18 := ent_ok tabOK0 (.cons (s_l2Hand_ok n) (.cons (s_l2Lines_ok n) (.cons (s_l7Free_ok n) .nil))) Try.func18 rfl (by kernel_rfl) (s_GreedyPicking_ev n)
def i_countPickings_1'lpp_i : CSh := ⟨[(.data false (.sl (.arr 3 tI))), (.ptr 0 []), (.ptr 1 [])], [.var 3 (.data true tI), .var 3 (.data true tI)]⟩
def i_countPickings_1'lpp_o : RSh := ⟨.tnil, [.var 3 (.data true tI), .var 3 (.data true tI)]⟩
theorem i_countPickings_1'lpp_ev (n : Nat) (x : TupT i_countPickings_1'lpp_i.tys) : evF ⟨tab, [], n, []⟩ Try.f216 i_countPickings_1'lpp_i i_countPickings_1'lpp_o x = i_countPickings_1'lpp n x.1 x.2.1 x.2.2 := by kernel_rfl
noncomputable def i_countPickings_1'lpp_e (n : Nat) : Ent := ⟨216, i_countPickings_1'lpp_i, i_countPickings_1'lpp_o, fun x => i_countPickings_1'lpp n x.1 x.2.1 x.2.2⟩
theorem i_countPickings_1'lpp_ok (n : Nat) : EntOK Try.prog (i_countPickings_1'lpp_e n) ∧ Own Try.prog 216 := ent_ok tabOK0 .nil Try.func216 rfl (by kernel_rfl) (i_countPickings_1'lpp_ev n)
def i_pickings'll_i_countPickings_1pp_i : CSh := ⟨[(.data false (.sl (.arr 3 tI))), (.data false (.sl (.arr 3 tI))), (.clo 216 (.tcons (.ptr 0 []) (.tcons (.ptr 1 []) .tnil)))], [.var 3 (.data true tI), .var 3 (.data true tI)]⟩
def i_pickings'll_i_countPickings_1pp_o : RSh := ⟨.tnil, [.var 3 (.data true tI), .var 3 (.data true tI)]⟩
theorem i_pickings'll_i_countPickings_1pp_ev (n : Nat) (go : TupT i_pickings'll_i_countPickings_1pp_i.tys → Option (TupT i_pickings'll_i_countPickings_1pp_o.tys)) (x : TupT i_pickings'll_i_countPickings_1pp_i.tys) : evF ⟨tab, [⟨210, i_pickings'll_i_countPickings_1pp_i, i_pickings'll_i_countPickings_1pp_o, go⟩, i_countPickings_1'lpp_e n, slices_ContainsFunc_SA3_A3_'l_i_pickings_1p_e n], n, [(5, ⟨[(0, (.data false (.sl (.arr 3 tI)))), (1, (.data false (.sl (.arr 3 tI)))), (2, (.clo 216 (.tcons (.ptr 0 []) (.tcons (.ptr 1 []) .tnil)))), (11, (.data false (.sl (.arr 3 tI)))), (12, (.data true tI)), (13, (.data true tI))], [.var 3 (.data true tI), .var 3 (.data true tI)], 2⟩)]⟩ Try.f210 i_pickings'll_i_countPickings_1pp_i i_pickings'll_i_countPickings_1pp_o x = i_pickings'll_i_countPickings_1pp_R n go x := by kernel_rfl
noncomputable def i_pickings'll_i_countPickings_1pp_e (n : Nat) : Ent := ⟨210, i_pickings'll_i_countPickings_1pp_i, i_pickings'll_i_countPickings_1pp_o, fun x => i_pickings'll_i_countPickings_1pp n x.1 x.2.1 x.2.2.1 x.2.2.2⟩
theorem i_pickings'll_i_countPickings_1pp_ok (n : Nat) : EntOK Try.prog (i_pickings'll_i_countPickings_1pp_e n) ∧ Own Try.prog 210 := ent_rec tabOK0 (.cons (i_countPickings_1'lpp_ok n) (.cons (slices_ContainsFunc_SA3_A3_'l_i_pickings_1p_ok n) .nil)) Try.func210 rfl (by kernel_rfl) (i_pickings'll_i_countPickings_1pp_ev n) n
def i_countPickings_i : CSh := ⟨[(.data false (.sl (.arr 4 tI))), (.data true tI)], []⟩
def i_countPickings_o : RSh := ⟨(.data true tI), []⟩
theorem i_countPickings_ev (n : Nat) (x : TupT i_countPickings_i.tys) : evF ⟨tab, [i_linesIn_e n, i_pickings'll_i_countPickings_1pp_e n], n, []⟩ Try.f127 i_countPickings_i i_countPickings_o x = i_countPickings n x.1 x.2 := by kernel_rfl
noncomputable def i_countPickings_e (n : Nat) : Ent := ⟨127, i_countPickings_i, i_countPickings_o, fun x => i_countPickings n x.1 x.2⟩
theorem i_countPickings_ok (n : Nat) : EntOK Try.prog (i_countPickings_e n) ∧ Own Try.prog 127 := ent_ok tabOK0 (.cons (i_linesIn_ok n) (.cons (i_pickings'll_i_countPickings_1pp_ok n) .nil)) Try.func127 rfl (by kernel_rfl) (i_countPickings_ev n)
def i_CountPartings_i : CSh := ⟨[(.data false (.sl (.arr 4 tI)))], []⟩
def i_CountPartings_o : RSh := ⟨(.tcons (.data true tI) (.tcons (.data true .bool) .tnil)), []⟩
theorem i_CountPartings_ev (n : Nat) (x : TupT i_CountPartings_i.tys) : evF ⟨tab, [i_isParted_e n, i_countPickings_e n], n, []⟩ Try.f19 i_CountPartings_i i_CountPartings_o x = i_CountPartings n x := by kernel_rfl
noncomputable def i_CountPartings_e (n : Nat) : Ent := ⟨19, i_CountPartings_i, i_CountPartings_o, fun x => i_CountPartings n x⟩
theorem i_CountPartings_ok (n : Nat) : EntOK Try.prog (i_CountPartings_e n) ∧ Own Try.prog 19 := ent_ok tabOK0 (.cons (i_isParted_ok n) (.cons (i_countPickings_ok n) .nil)) Try.func19 rfl (by kernel_rfl) (i_CountPartings_ev n)
def s_l7Count_i : CSh := ⟨[(.data false (.sl (.arr 3 tI))), (.data false (.sl (.arr 3 tI))), (.data true tI), (.data true tI)], []⟩
def s_l7Count_o : RSh := ⟨(.data true tI), []⟩
theorem s_l7Count_ev (n : Nat) (go : TupT s_l7Count_i.tys → Option (TupT s_l7Count_o.tys)) (x : TupT s_l7Count_i.tys) : evF ⟨tab, [⟨128, s_l7Count_i, s_l7Count_o, go⟩, s_l7Free_e n], n, [(16, ⟨[(0, (.data false (.sl (.arr 3 tI)))), (1, (.data false (.sl (.arr 3 tI)))), (3, (.data true tI)), (9, (.data true tI)), (10, (.data true tI))], [], 0⟩)]⟩ Try.f128 s_l7Count_i s_l7Count_o x = s_l7Count_R n go x := by kernel_rfl
noncomputable def s_l7Count_e (n : Nat) : Ent := ⟨128, s_l7Count_i, s_l7Count_o, fun x => s_l7Count n x.1 x.2.1 x.2.2.1 x.2.2.2⟩
theorem s_l7Count_ok (n : Nat) : EntOK Try.prog (s_l7Count_e n) ∧ Own Try.prog 128 := ent_rec tabOK0 (.cons (s_l7Free_ok n) .nil) Try.func128 rfl (by kernel_rfl) (s_l7Count_ev n) n
def s_CountPartings_i : CSh := ⟨[(.data false (.sl (.arr 4 tI)))], []⟩
def s_CountPartings_o : RSh := ⟨(.tcons (.data true tI) (.tcons (.data true .bool) .tnil)), []⟩
theorem s_CountPartings_ev (n : Nat) (x : TupT s_CountPartings_i.tys) : evF ⟨tab, [s_l7Pool_e n, s_l2Lines_e n, s_l7Count_e n], n, []⟩ Try.f20 s_CountPartings_i s_CountPartings_o x = s_CountPartings n x := by kernel_rfl
noncomputable def s_CountPartings_e (n : Nat) : Ent := ⟨20, s_CountPartings_i, s_CountPartings_o, fun x => s_CountPartings n x⟩
theorem s_CountPartings_ok (n : Nat) : EntOK Try.prog (s_CountPartings_e n) ∧ Own Try.prog 20 := ent_ok tabOK0 (.cons (s_l7Pool_ok n) (.cons (s_l2Lines_ok n) (.cons (s_l7Count_ok n) .nil))) Try.func20 rfl (by kernel_rfl) (s_CountPartings_ev n)
def v_vCut_i : CSh := ⟨[(.data false (.sl (.int .u8))), (.data true tI)], []⟩
def v_vCut_o : RSh := ⟨(.own 0), [.rows 5 true (.int .u8)]⟩
theorem v_vCut_ev (n : Nat) (x : TupT v_vCut_i.tys) : evF ⟨tab, [], n, [(2, ⟨[(0, (.data false (.sl (.int .u8)))), (1, (.data true tI))], [], 0⟩)]⟩ Try.f22 v_vCut_i v_vCut_o x = v_vCut n x.1 x.2 := by kernel_rfl
noncomputable def v_vCut_e (n : Nat) : Ent := ⟨22, v_vCut_i, v_vCut_o, fun x => v_vCut n x.1 x.2⟩
theorem v_vCut_ok (n : Nat) : EntOK Try.prog (v_vCut_e n) ∧ Own Try.prog 22 := ent_ok tabOK0 .nil Try.func22 rfl (by kernel_rfl) (v_vCut_ev n)
def s_DrawCountPickings_i : CSh := ⟨[(.data false (.sl (.int .u8)))], []⟩
def s_DrawCountPickings_o : RSh := ⟨(.tcons (.own 0) (.tcons (.data true tI) .tnil)), [.rows 43 true (.arr 4 tI)]⟩
theorem s_DrawCountPickings_ev (n : Nat) (x : TupT s_DrawCountPickings_i.tys) : evF ⟨tab, [s_Cur_dense7'p_e n, s_Cur_pick'p_e n, s_Cur_among'pl_e n], n, []⟩ Try.f21 s_DrawCountPickings_i s_DrawCountPickings_o x = s_DrawCountPickings n x := by kernel_rfl
noncomputable def s_DrawCountPickings_e (n : Nat) : Ent := ⟨21, s_DrawCountPickings_i, s_DrawCountPickings_o, fun x => s_DrawCountPickings n x⟩
theorem s_DrawCountPickings_ok (n : Nat) : EntOK Try.prog (s_DrawCountPickings_e n) ∧ Own Try.prog 21 := ent_ok tabOK0 (.cons (s_Cur_dense7'p_ok n) (.cons (s_Cur_pick'p_ok n) (.cons (s_Cur_among'pl_ok n) .nil))) Try.func21 rfl (by kernel_rfl) (s_DrawCountPickings_ev n)
def i_CountPickings_i : CSh := ⟨[(.data false (.sl (.arr 4 tI))), (.data true tI)], []⟩
def i_CountPickings_o : RSh := ⟨(.tcons (.data true tI) (.tcons (.data true .bool) .tnil)), []⟩
theorem i_CountPickings_ev (n : Nat) (x : TupT i_CountPickings_i.tys) : evF ⟨tab, [i_isParted_e n, i_within_e n, i_countPickings_e n], n, []⟩ Try.f23 i_CountPickings_i i_CountPickings_o x = i_CountPickings n x.1 x.2 := by kernel_rfl
noncomputable def i_CountPickings_e (n : Nat) : Ent := ⟨23, i_CountPickings_i, i_CountPickings_o, fun x => i_CountPickings n x.1 x.2⟩
theorem i_CountPickings_ok (n : Nat) : EntOK Try.prog (i_CountPickings_e n) ∧ Own Try.prog 23 := ent_ok tabOK0 (.cons (i_isParted_ok n) (.cons (i_within_ok n) (.cons (i_countPickings_ok n) .nil))) Try.func23 rfl (by kernel_rfl) (i_CountPickings_ev n)
def s_CountPickings_i : CSh := ⟨[(.data false (.sl (.arr 4 tI))), (.data true tI)], []⟩
def s_CountPickings_o : RSh := ⟨(.tcons (.data true tI) (.tcons (.data true .bool) .tnil)), []⟩
theorem s_CountPickings_ev (n : Nat) (x : TupT s_CountPickings_i.tys) : evF ⟨tab, [s_l7Pool_e n, s_l1In_e n, s_l2Lines_e n, s_l7Count_e n], n, []⟩ Try.f24 s_CountPickings_i s_CountPickings_o x = s_CountPickings n x.1 x.2 := by kernel_rfl
noncomputable def s_CountPickings_e (n : Nat) : Ent := ⟨24, s_CountPickings_i, s_CountPickings_o, fun x => s_CountPickings n x.1 x.2⟩
theorem s_CountPickings_ok (n : Nat) : EntOK Try.prog (s_CountPickings_e n) ∧ Own Try.prog 24 := ent_ok tabOK0 (.cons (s_l7Pool_ok n) (.cons (s_l1In_ok n) (.cons (s_l2Lines_ok n) (.cons (s_l7Count_ok n) .nil)))) Try.func24 rfl (by kernel_rfl) (s_CountPickings_ev n)
def s_Cur_picking7'pl_i : CSh := ⟨[(.ptr 0 []), (.data false (.sl (.arr 4 tI)))], [.var 114 (.data true (.pair (.sl (.int .u8)) (.pair tI (.int .u64))))]⟩
def s_Cur_picking7'pl_o : RSh := ⟨(.own 1), [.var 114 (.data true (.pair (.sl (.int .u8)) (.pair tI (.int .u64)))), .rows 89 true (.arr 3 tI)]⟩
theorem s_Cur_picking7'pl_ev (n : Nat) (x : TupT s_Cur_picking7'pl_i.tys) : evF ⟨tab, [s_l2Hand_e n, s_l2Lines_e n, s_l7Free_e n, s_Cur_one'p_e n, s_Cur_pick'p_e n, s_Cur_among'pl_e n], n, [(18, ⟨[(0, (.ptr 0 [])), (5, (.own 1)), (6, (.own 2)), (7, (.data true tI))], [.var 114 (.data true (.pair (.sl (.int .u8)) (.pair tI (.int .u64)))), .rows 89 true (.arr 3 tI), .rows 89 true (.arr 3 tI)], 1⟩), (8000028, ⟨[(0, (.ptr 0 [])), (5, (.own 1)), (6, (.own 2)), (7, (.data true tI)), (30, (.data true .bool))], [.var 114 (.data true (.pair (.sl (.int .u8)) (.pair tI (.int .u64)))), .rows 89 true (.arr 3 tI), .rows 89 true (.arr 3 tI)], 1⟩)]⟩ Try.f134 s_Cur_picking7'pl_i s_Cur_picking7'pl_o x = s_Cur_picking7'pl n x.1 x.2 := by kernel_rfl
noncomputable def s_Cur_picking7'pl_e (n : Nat) : Ent := ⟨134, s_Cur_picking7'pl_i, s_Cur_picking7'pl_o, fun x => s_Cur_picking7'pl n x.1 x.2⟩
theorem s_Cur_picking7'pl_ok (n : Nat) : EntOK Try.prog (s_Cur_picking7'pl_e n) ∧ Own Try.prog 134 := ent_ok tabOK0 (.cons (s_l2Hand_ok n) (.cons (s_l2Lines_ok n) (.cons (s_l7Free_ok n) (.cons (s_Cur_one'p_ok n) (.cons (s_Cur_pick'p_ok n) (.cons (s_Cur_among'pl_ok n) .nil)))))) Try.func134 rfl (by kernel_rfl) (s_Cur_picking7'pl_ev n)
def s_DrawIsPicking_i : CSh := ⟨[(.data false (.sl (.int .u8)))], []⟩
def s_DrawIsPicking_o : RSh := ⟨(.tcons (.own 0) (.tcons (.own 1) .tnil)), [.rows 43 true (.arr 4 tI), .rows 89 true (.arr 3 tI)]⟩
theorem s_DrawIsPicking_ev (n : Nat) (x : TupT s_DrawIsPicking_i.tys) : evF ⟨tab, [s_Cur_dense7'p_e n, s_Cur_picking7'pl_e n], n, []⟩ Try.f25 s_DrawIsPicking_i s_DrawIsPicking_o x = s_DrawIsPicking n x := by kernel_rfl
noncomputable def s_DrawIsPicking_e (n : Nat) : Ent := ⟨25, s_DrawIsPicking_i, s_DrawIsPicking_o, fun x => s_DrawIsPicking n x⟩
theorem s_DrawIsPicking_ok (n : Nat) : EntOK Try.prog (s_DrawIsPicking_e n) ∧ Own Try.prog 25 := ent_ok tabOK0 (.cons (s_Cur_dense7'p_ok n) (.cons (s_Cur_picking7'pl_ok n) .nil)) Try.func25 rfl (by kernel_rfl) (s_DrawIsPicking_ev n)
def slices_Index_SA3_A3__i : CSh := ⟨[(.data false (.sl (.arr 3 tI))), (.data true (.arr 3 tI))], []⟩
def slices_Index_SA3_A3__o : RSh := ⟨(.data true tI), []⟩
theorem slices_Index_SA3_A3__ev (n : Nat) (x : TupT slices_Index_SA3_A3__i.tys) : evF ⟨tab, [], n, [(6, ⟨[(0, (.data false (.sl (.arr 3 tI)))), (3, (.ptr 0 [])), (7, (.data true tI)), (8, (.data true tI))], [.var 89 (.data true (.arr 3 tI))], 0⟩)]⟩ Try.f238 slices_Index_SA3_A3__i slices_Index_SA3_A3__o x = slices_Index_SA3_A3_ n x.1 x.2 := by kernel_rfl
noncomputable def slices_Index_SA3_A3__e (n : Nat) : Ent := ⟨238, slices_Index_SA3_A3__i, slices_Index_SA3_A3__o, fun x => slices_Index_SA3_A3_ n x.1 x.2⟩
theorem slices_Index_SA3_A3__ok (n : Nat) : EntOK Try.prog (slices_Index_SA3_A3__e n) ∧ Own Try.prog 238 := ent_ok tabOK0 .nil Try.func238 rfl (by kernel_rfl) (slices_Index_SA3_A3__ev n)
def slices_Contains_SA3_A3__i : CSh := ⟨[(.data false (.sl (.arr 3 tI))), (.data true (.arr 3 tI))], []⟩
def slices_Contains_SA3_A3__o : RSh := ⟨(.data true .bool), []⟩
theorem slices_Contains_SA3_A3__ev (n : Nat) (x : TupT slices_Contains_SA3_A3__i.tys) : evF ⟨tab, [slices_Index_SA3_A3__e n], n, []⟩ Try.f189 slices_Contains_SA3_A3__i slices_Contains_SA3_A3__o x = slices_Contains_SA3_A3_ n x.1 x.2 := by kernel_rfl
noncomputable def slices_Contains_SA3_A3__e (n : Nat) : Ent := ⟨189, slices_Contains_SA3_A3__i, slices_Contains_SA3_A3__o, fun x => slices_Contains_SA3_A3_ n x.1 x.2⟩
theorem slices_Contains_SA3_A3__ok (n : Nat) : EntOK Try.prog (slices_Contains_SA3_A3__e n) ∧ Own Try.prog 189 := ent_ok tabOK0 (.cons (slices_Index_SA3_A3__ok n) .nil) Try.func189 rfl (by kernel_rfl) (slices_Contains_SA3_A3__ev n)
def cmp_isNaN_int__i : CSh := ⟨[(.data true tI)], []⟩
def cmp_isNaN_int__o : RSh := ⟨(.data true .bool), []⟩
theorem cmp_isNaN_int__ev (n : Nat) (x : TupT cmp_isNaN_int__i.tys) : evF ⟨tab, [], n, []⟩ Try.f252 cmp_isNaN_int__i cmp_isNaN_int__o x = cmp_isNaN_int_ n x := by kernel_rfl
noncomputable def cmp_isNaN_int__e (n : Nat) : Ent := ⟨252, cmp_isNaN_int__i, cmp_isNaN_int__o, fun x => cmp_isNaN_int_ n x⟩
theorem cmp_isNaN_int__ok (n : Nat) : EntOK Try.prog (cmp_isNaN_int__e n) ∧ Own Try.prog 252 := ent_ok tabOK0 .nil Try.func252 rfl (by kernel_rfl) (cmp_isNaN_int__ev n)
def cmp_Compare_int__i : CSh := ⟨[(.data true tI), (.data true tI)], []⟩
def cmp_Compare_int__o : RSh := ⟨(.data true tI), []⟩
theorem cmp_Compare_int__ev (n : Nat) (x : TupT cmp_Compare_int__i.tys) : evF ⟨tab, [cmp_isNaN_int__e n], n, []⟩ Try.f244 cmp_Compare_int__i cmp_Compare_int__o x = cmp_Compare_int_ n x.1 x.2 := by kernel_rfl
noncomputable def cmp_Compare_int__e (n : Nat) : Ent := ⟨244, cmp_Compare_int__i, cmp_Compare_int__o, fun x => cmp_Compare_int_ n x.1 x.2⟩
theorem cmp_Compare_int__ok (n : Nat) : EntOK Try.prog (cmp_Compare_int__e n) ∧ Own Try.prog 244 := ent_ok tabOK0 (.cons (cmp_isNaN_int__ok n) .nil) Try.func244 rfl (by kernel_rfl) (cmp_Compare_int__ev n)
def slices_Compare_Sint_int__i : CSh := ⟨[(.data false (.sl tI)), (.data false (.sl tI))], []⟩
def slices_Compare_Sint_int__o : RSh := ⟨(.data true tI), []⟩
theorem slices_Compare_Sint_int__ev (n : Nat) (x : TupT slices_Compare_Sint_int__i.tys) : evF ⟨tab, [cmp_Compare_int__e n], n, [(6, ⟨[(0, (.data false (.sl tI))), (1, (.data false (.sl tI))), (9, (.data false (.sl tI))), (10, (.data true tI)), (11, (.data true tI))], [], 0⟩)]⟩ Try.f219 slices_Compare_Sint_int__i slices_Compare_Sint_int__o x = slices_Compare_Sint_int_ n x.1 x.2 := by kernel_rfl
noncomputable def slices_Compare_Sint_int__e (n : Nat) : Ent := ⟨219, slices_Compare_Sint_int__i, slices_Compare_Sint_int__o, fun x => slices_Compare_Sint_int_ n x.1 x.2⟩
theorem slices_Compare_Sint_int__ok (n : Nat) : EntOK Try.prog (slices_Compare_Sint_int__e n) ∧ Own Try.prog 219 := ent_ok tabOK0 (.cons (cmp_Compare_int__ok n) .nil) Try.func219 rfl (by kernel_rfl) (slices_Compare_Sint_int__ev n)
def i_isPicking_i : CSh := ⟨[(.data false (.sl (.arr 4 tI))), (.data false (.sl (.arr 3 tI)))], []⟩
def i_isPicking_o : RSh := ⟨(.data true .bool), []⟩
theorem i_isPicking_ev (n : Nat) (x : TupT i_isPicking_i.tys) : evF ⟨tab, [i_linesIn_e n, slices_Contains_SA3_A3__e n, slices_Compare_Sint_int__e n, i_common_e n], n, [(8, ⟨[(1, (.data false (.sl (.arr 3 tI)))), (5, (.own 0)), (12, (.data false (.sl (.arr 3 tI)))), (13, (.data true tI)), (14, (.data true tI))], [.rows 89 true (.arr 3 tI)], 0⟩), (30, ⟨[(1, (.data false (.sl (.arr 3 tI)))), (5, (.own 0)), (7, (.ptr 1 [])), (12, (.data false (.sl (.arr 3 tI)))), (13, (.data true tI)), (14, (.data true tI)), (39, (.data false (.sl (.arr 3 tI)))), (40, (.data true tI)), (41, (.data true tI))], [.rows 89 true (.arr 3 tI), .var 89 (.data true (.arr 3 tI))], 0⟩)]⟩ Try.f135 i_isPicking_i i_isPicking_o x = i_isPicking n x.1 x.2 := by kernel_rfl
noncomputable def i_isPicking_e (n : Nat) : Ent := ⟨135, i_isPicking_i, i_isPicking_o, fun x => i_isPicking n x.1 x.2⟩
theorem i_isPicking_ok (n : Nat) : EntOK Try.prog (i_isPicking_e n) ∧ Own Try.prog 135 := ent_ok tabOK0 (.cons (i_linesIn_ok n) (.cons (slices_Contains_SA3_A3__ok n) (.cons (slices_Compare_Sint_int__ok n) (.cons (i_common_ok n) .nil)))) Try.func135 rfl (by kernel_rfl) (i_isPicking_ev n)
def i_IsPicking_i : CSh := ⟨[(.data false (.sl (.arr 4 tI))), (.data false (.sl (.arr 3 tI)))], []⟩
def i_IsPicking_o : RSh := ⟨(.tcons (.data true .bool) (.tcons (.data true .bool) .tnil)), []⟩
theorem i_IsPicking_ev (n : Nat) (x : TupT i_IsPicking_i.tys) : evF ⟨tab, [i_IsHand_e n, i_isPicking_e n], n, []⟩ Try.f26 i_IsPicking_i i_IsPicking_o x = i_IsPicking n x.1 x.2 := by kernel_rfl
noncomputable def i_IsPicking_e (n : Nat) : Ent := ⟨26, i_IsPicking_i, i_IsPicking_o, fun x => i_IsPicking n x.1 x.2⟩
theorem i_IsPicking_ok (n : Nat) : EntOK Try.prog (i_IsPicking_e n) ∧ Own Try.prog 26 := ent_ok tabOK0 (.cons (i_IsHand_ok n) (.cons (i_isPicking_ok n) .nil)) Try.func26 rfl (by kernel_rfl) (i_IsPicking_ev n)
def s_l7Has_i : CSh := ⟨[(.data false (.sl (.arr 3 tI))), (.data true (.arr 3 tI))], []⟩
def s_l7Has_o : RSh := ⟨(.data true .bool), []⟩
theorem s_l7Has_ev (n : Nat) (x : TupT s_l7Has_i.tys) : evF ⟨tab, [], n, [(6, ⟨[(0, (.data false (.sl (.arr 3 tI)))), (3, (.ptr 0 [])), (5, (.data true tI))], [.var 89 (.data true (.arr 3 tI))], 0⟩)]⟩ Try.f220 s_l7Has_i s_l7Has_o x = s_l7Has n x.1 x.2 := by kernel_rfl
noncomputable def s_l7Has_e (n : Nat) : Ent := ⟨220, s_l7Has_i, s_l7Has_o, fun x => s_l7Has n x.1 x.2⟩
theorem s_l7Has_ok (n : Nat) : EntOK Try.prog (s_l7Has_e n) ∧ Own Try.prog 220 := ent_ok tabOK0 .nil Try.func220 rfl (by kernel_rfl) (s_l7Has_ev n)
def s_l7Before_i : CSh := ⟨[(.data true (.arr 3 tI)), (.data true (.arr 3 tI))], []⟩
def s_l7Before_o : RSh := ⟨(.data true .bool), []⟩
theorem s_l7Before_ev (n : Nat) (x : TupT s_l7Before_i.tys) : evF ⟨tab, [], n, [(6, ⟨[(2, (.ptr 0 [])), (3, (.ptr 1 [])), (5, (.data true tI))], [.var 89 (.data true (.arr 3 tI)), .var 89 (.data true (.arr 3 tI))], 0⟩)]⟩ Try.f221 s_l7Before_i s_l7Before_o x = s_l7Before n x.1 x.2 := by kernel_rfl
noncomputable def s_l7Before_e (n : Nat) : Ent := ⟨221, s_l7Before_i, s_l7Before_o, fun x => s_l7Before n x.1 x.2⟩
theorem s_l7Before_ok (n : Nat) : EntOK Try.prog (s_l7Before_e n) ∧ Own Try.prog 221 := ent_ok tabOK0 .nil Try.func221 rfl (by kernel_rfl) (s_l7Before_ev n)
def s_l7Picking_i : CSh := ⟨[(.data false (.sl (.arr 4 tI))), (.data false (.sl (.arr 3 tI)))], []⟩
def s_l7Picking_o : RSh := ⟨(.data true .bool), []⟩
theorem s_l7Picking_ev (n : Nat) (x : TupT s_l7Picking_i.tys) : evF ⟨tab, [s_l2Lines_e n, s_l7Has_e n, s_l7Free_e n, s_l7Before_e n], n, [(8, ⟨[(1, (.data false (.sl (.arr 3 tI)))), (5, (.own 0)), (6, (.data true tI))], [.rows 89 true (.arr 3 tI)], 0⟩)]⟩ Try.f136 s_l7Picking_i s_l7Picking_o x = s_l7Picking n x.1 x.2 := by kernel_rfl
noncomputable def s_l7Picking_e (n : Nat) : Ent := ⟨136, s_l7Picking_i, s_l7Picking_o, fun x => s_l7Picking n x.1 x.2⟩
theorem s_l7Picking_ok (n : Nat) : EntOK Try.prog (s_l7Picking_e n) ∧ Own Try.prog 136 := ent_ok tabOK0 (.cons (s_l2Lines_ok n) (.cons (s_l7Has_ok n) (.cons (s_l7Free_ok n) (.cons (s_l7Before_ok n) .nil)))) Try.func136 rfl (by kernel_rfl) (s_l7Picking_ev n)
def s_IsPicking_i : CSh := ⟨[(.data false (.sl (.arr 4 tI))), (.data false (.sl (.arr 3 tI)))], []⟩
def s_IsPicking_o : RSh := ⟨(.tcons (.data true .bool) (.tcons (.data true .bool) .tnil)), []⟩
theorem s_IsPicking_ev (n : Nat) (x : TupT s_IsPicking_i.tys) : evF ⟨tab, [s_l2Hand_e n, s_l7Picking_e n], n, []⟩ Try.f27 s_IsPicking_i s_IsPicking_o x = s_IsPicking n x.1 x.2 := by kernel_rfl
noncomputable def s_IsPicking_e (n : Nat) : Ent := ⟨27, s_IsPicking_i, s_IsPicking_o, fun x => s_IsPicking n x.1 x.2⟩
theorem s_IsPicking_ok (n : Nat) : EntOK Try.prog (s_IsPicking_e n) ∧ Own Try.prog 27 := ent_ok tabOK0 (.cons (s_l2Hand_ok n) (.cons (s_l7Picking_ok n) .nil)) Try.func27 rfl (by kernel_rfl) (s_IsPicking_ev n)
def i_LeftCards_1'p_i : CSh := ⟨[(.data true (.arr 3 tI)), (.ptr 0 [])], [.var 3 (.data true tI)]⟩
def i_LeftCards_1'p_o : RSh := ⟨(.data true .bool), [.var 3 (.data true tI)]⟩
theorem i_LeftCards_1'p_ev (n : Nat) (x : TupT i_LeftCards_1'p_i.tys) : evF ⟨tab, [slices_Contains_Sint_int__e n], n, []⟩ Try.f137 i_LeftCards_1'p_i i_LeftCards_1'p_o x = i_LeftCards_1'p n x.1 x.2 := by kernel_rfl
noncomputable def i_LeftCards_1'p_e (n : Nat) : Ent := ⟨137, i_LeftCards_1'p_i, i_LeftCards_1'p_o, fun x => i_LeftCards_1'p n x.1 x.2⟩
theorem i_LeftCards_1'p_ok (n : Nat) : EntOK Try.prog (i_LeftCards_1'p_e n) ∧ Own Try.prog 137 := ent_ok tabOK0 (.cons (slices_Contains_Sint_int__ok n) .nil) Try.func137 rfl (by kernel_rfl) (i_LeftCards_1'p_ev n)
def slices_IndexFunc_SA3_A3_'l_i_LeftCards_1p_i : CSh := ⟨[(.data false (.sl (.arr 3 tI))), (.clo 137 (.tcons (.ptr 0 []) .tnil))], [.var 3 (.data true tI)]⟩
def slices_IndexFunc_SA3_A3_'l_i_LeftCards_1p_o : RSh := ⟨(.data true tI), [.var 3 (.data true tI)]⟩
theorem slices_IndexFunc_SA3_A3_'l_i_LeftCards_1p_ev (n : Nat) (x : TupT slices_IndexFunc_SA3_A3_'l_i_LeftCards_1p_i.tys) : evF ⟨tab, [i_LeftCards_1'p_e n], n, [(6, ⟨[(0, (.data false (.sl (.arr 3 tI)))), (1, (.clo 137 (.tcons (.ptr 0 []) .tnil))), (7, (.data true tI)), (8, (.data true tI))], [.var 3 (.data true tI)], 1⟩)]⟩ Try.f214 slices_IndexFunc_SA3_A3_'l_i_LeftCards_1p_i slices_IndexFunc_SA3_A3_'l_i_LeftCards_1p_o x = slices_IndexFunc_SA3_A3_'l_i_LeftCards_1p n x.1 x.2 := by kernel_rfl
noncomputable def slices_IndexFunc_SA3_A3_'l_i_LeftCards_1p_e (n : Nat) : Ent := ⟨214, slices_IndexFunc_SA3_A3_'l_i_LeftCards_1p_i, slices_IndexFunc_SA3_A3_'l_i_LeftCards_1p_o, fun x => slices_IndexFunc_SA3_A3_'l_i_LeftCards_1p n x.1 x.2⟩
theorem slices_IndexFunc_SA3_A3_'l_i_LeftCards_1p_ok (n : Nat) : EntOK Try.prog (slices_IndexFunc_SA3_A3_'l_i_LeftCards_1p_e n) ∧ Own Try.prog 214 := ent_ok tabOK0 (.cons (i_LeftCards_1'p_ok n) .nil) Try.func214 rfl (by kernel_rfl) (slices_IndexFunc_SA3_A3_'l_i_LeftCards_1p_ev n)
def slices_ContainsFunc_SA3_A3_'l_i_LeftCards_1p_i : CSh := ⟨[(.data false (.sl (.arr 3 tI))), (.clo 137 (.tcons (.ptr 0 []) .tnil))], [.var 3 (.data true tI)]⟩
def slices_ContainsFunc_SA3_A3_'l_i_LeftCards_1p_o : RSh := ⟨(.data true .bool), [.var 3 (.data true tI)]⟩
theorem slices_ContainsFunc_SA3_A3_'l_i_LeftCards_1p_ev (n : Nat) (x : TupT slices_ContainsFunc_SA3_A3_'l_i_LeftCards_1p_i.tys) : evF ⟨tab, [slices_IndexFunc_SA3_A3_'l_i_LeftCards_1p_e n], n, []⟩ Try.f122 slices_ContainsFunc_SA3_A3_'l_i_LeftCards_1p_i slices_ContainsFunc_SA3_A3_'l_i_LeftCards_1p_o x = slices_ContainsFunc_SA3_A3_'l_i_LeftCards_1p n x.1 x.2 := by kernel_rfl
noncomputable def slices_ContainsFunc_SA3_A3_'l_i_LeftCards_1p_e (n : Nat) : Ent := ⟨122, slices_ContainsFunc_SA3_A3_'l_i_LeftCards_1p_i, slices_ContainsFunc_SA3_A3_'l_i_LeftCards_1p_o, fun x => slices_ContainsFunc_SA3_A3_'l_i_LeftCards_1p n x.1 x.2⟩
theorem slices_ContainsFunc_SA3_A3_'l_i_LeftCards_1p_ok (n : Nat) : EntOK Try.prog (slices_ContainsFunc_SA3_A3_'l_i_LeftCards_1p_e n) ∧ Own Try.prog 122 := ent_ok tabOK0 (.cons (slices_IndexFunc_SA3_A3_'l_i_LeftCards_1p_ok n) .nil) Try.func122 rfl (by kernel_rfl) (slices_ContainsFunc_SA3_A3_'l_i_LeftCards_1p_ev n)
def i_LeftCards_i : CSh := ⟨[(.data false (.sl (.arr 4 tI))), (.data false (.sl (.arr 3 tI)))], []⟩
def i_LeftCards_o : RSh := ⟨(.tcons (.own 0) (.tcons (.data true .bool) .tnil)), [.rows 43 true (.arr 4 tI)]⟩
theorem i_LeftCards_ev (n : Nat) (x : TupT i_LeftCards_i.tys) : evF ⟨tab, [i_IsHand_e n, i_isPicking_e n, slices_ContainsFunc_SA3_A3_'l_i_LeftCards_1p_e n], n, [(16, ⟨[(1, (.data false (.sl (.arr 3 tI)))), (6, (.own 0)), (19, (.data false (.sl (.arr 4 tI)))), (20, (.data true tI)), (21, (.data true tI))], [.rows 43 true (.arr 4 tI)], 0⟩)]⟩ Try.f28 i_LeftCards_i i_LeftCards_o x = i_LeftCards n x.1 x.2 := by kernel_rfl
noncomputable def i_LeftCards_e (n : Nat) : Ent := ⟨28, i_LeftCards_i, i_LeftCards_o, fun x => i_LeftCards n x.1 x.2⟩
theorem i_LeftCards_ok (n : Nat) : EntOK Try.prog (i_LeftCards_e n) ∧ Own Try.prog 28 := ent_ok tabOK0 (.cons (i_IsHand_ok n) (.cons (i_isPicking_ok n) (.cons (slices_ContainsFunc_SA3_A3_'l_i_LeftCards_1p_ok n) .nil))) Try.func28 rfl (by kernel_rfl) (i_LeftCards_ev n)
def s_l7At_i : CSh := ⟨[(.data false (.sl (.arr 3 tI))), (.data true tI)], []⟩
def s_l7At_o : RSh := ⟨(.own 0), [.rows 89 true (.arr 3 tI)]⟩
theorem s_l7At_ev (n : Nat) (x : TupT s_l7At_i.tys) : evF ⟨tab, [], n, [(8, ⟨[(0, (.data false (.sl (.arr 3 tI)))), (1, (.data true tI)), (5, (.own 0)), (6, (.data true tI))], [.rows 89 true (.arr 3 tI)], 0⟩)]⟩ Try.f139 s_l7At_i s_l7At_o x = s_l7At n x.1 x.2 := by kernel_rfl
noncomputable def s_l7At_e (n : Nat) : Ent := ⟨139, s_l7At_i, s_l7At_o, fun x => s_l7At n x.1 x.2⟩
theorem s_l7At_ok (n : Nat) : EntOK Try.prog (s_l7At_e n) ∧ Own Try.prog 139 := ent_ok tabOK0 .nil Try.func139 rfl (by kernel_rfl) (s_l7At_ev n)
def s_LeftCards_i : CSh := ⟨[(.data false (.sl (.arr 4 tI))), (.data false (.sl (.arr 3 tI)))], []⟩
def s_LeftCards_o : RSh := ⟨(.tcons (.own 0) (.tcons (.data true .bool) .tnil)), [.rows 43 true (.arr 4 tI)]⟩
theorem s_LeftCards_ev (n : Nat) (x : TupT s_LeftCards_i.tys) : evF ⟨tab, [s_l2Hand_e n, s_l7Picking_e n, s_l7At_e n], n, [(16, ⟨[(0, (.data false (.sl (.arr 4 tI)))), (1, (.data false (.sl (.arr 3 tI)))), (6, (.own 0)), (7, (.data true tI))], [.rows 43 true (.arr 4 tI)], 0⟩)]⟩ Try.f29 s_LeftCards_i s_LeftCards_o x = s_LeftCards n x.1 x.2 := by kernel_rfl
noncomputable def s_LeftCards_e (n : Nat) : Ent := ⟨29, s_LeftCards_i, s_LeftCards_o, fun x => s_LeftCards n x.1 x.2⟩
theorem s_LeftCards_ok (n : Nat) : EntOK Try.prog (s_LeftCards_e n) ∧ Own Try.prog 29 := ent_ok tabOK0 (.cons (s_l2Hand_ok n) (.cons (s_l7Picking_ok n) (.cons (s_l7At_ok n) .nil))) Try.func29 rfl (by kernel_rfl) (s_LeftCards_ev n)
def v_vLines_i : CSh := ⟨[(.data false (.sl (.arr 3 tI))), (.data false (.sl (.arr 3 tI)))], []⟩
def v_vLines_o : RSh := ⟨(.data true .bool), []⟩
theorem v_vLines_ev (n : Nat) (x : TupT v_vLines_i.tys) : evF ⟨tab, [], n, [(14, ⟨[(0, (.data false (.sl (.arr 3 tI)))), (1, (.data false (.sl (.arr 3 tI)))), (5, (.data true tI))], [], 0⟩)]⟩ Try.f30 v_vLines_i v_vLines_o x = v_vLines n x.1 x.2 := by kernel_rfl
noncomputable def v_vLines_e (n : Nat) : Ent := ⟨30, v_vLines_i, v_vLines_o, fun x => v_vLines n x.1 x.2⟩
theorem v_vLines_ok (n : Nat) : EntOK Try.prog (v_vLines_e n) ∧ Own Try.prog 30 := ent_ok tabOK0 .nil Try.func30 rfl (by kernel_rfl) (v_vLines_ev n)
def v_vHands_i : CSh := ⟨[(.data false (.sl (.arr 4 tI))), (.data false (.sl (.arr 4 tI)))], []⟩
def v_vHands_o : RSh := ⟨(.data true .bool), []⟩
theorem v_vHands_ev (n : Nat) (x : TupT v_vHands_i.tys) : evF ⟨tab, [], n, [(14, ⟨[(0, (.data false (.sl (.arr 4 tI)))), (1, (.data false (.sl (.arr 4 tI)))), (5, (.data true tI))], [], 0⟩)]⟩ Try.f31 v_vHands_i v_vHands_o x = v_vHands n x.1 x.2 := by kernel_rfl
noncomputable def v_vHands_e (n : Nat) : Ent := ⟨31, v_vHands_i, v_vHands_o, fun x => v_vHands n x.1 x.2⟩
theorem v_vHands_ok (n : Nat) : EntOK Try.prog (v_vHands_e n) ∧ Own Try.prog 31 := ent_ok tabOK0 .nil Try.func31 rfl (by kernel_rfl) (v_vHands_ev n)
def i_LinesIn_i : CSh := ⟨[(.data false (.sl (.arr 4 tI)))], []⟩
def i_LinesIn_o : RSh := ⟨(.tcons (.own 0) (.tcons (.data true .bool) .tnil)), [.rows 89 true (.arr 3 tI)]⟩
theorem i_LinesIn_ev (n : Nat) (x : TupT i_LinesIn_i.tys) : evF ⟨tab, [i_IsHand_e n, i_linesIn_e n], n, []⟩ Try.f33 i_LinesIn_i i_LinesIn_o x = i_LinesIn n x := by kernel_rfl
noncomputable def i_LinesIn_e (n : Nat) : Ent := ⟨33, i_LinesIn_i, i_LinesIn_o, fun x => i_LinesIn n x⟩
theorem i_LinesIn_ok (n : Nat) : EntOK Try.prog (i_LinesIn_e n) ∧ Own Try.prog 33 := ent_ok tabOK0 (.cons (i_IsHand_ok n) (.cons (i_linesIn_ok n) .nil)) Try.func33 rfl (by kernel_rfl) (i_LinesIn_ev n)
def i_CountCrossings_i : CSh := ⟨[(.data false (.sl (.arr 4 tI)))], []⟩
def i_CountCrossings_o : RSh := ⟨(.tcons (.data true tI) (.tcons (.data true .bool) .tnil)), []⟩
theorem i_CountCrossings_ev (n : Nat) (x : TupT i_CountCrossings_i.tys) : evF ⟨tab, [i_IsHand_e n, i_linesIn_e n, i_common_e n], n, [(16, ⟨[(4, (.own 0)), (5, (.data true tI)), (15, (.own 0)), (16, (.data true tI)), (17, (.data true tI))], [.rows 89 true (.arr 3 tI)], 0⟩), (30, ⟨[(4, (.own 0)), (5, (.data true tI)), (7, (.ptr 1 [])), (15, (.own 0)), (16, (.data true tI)), (17, (.data true tI)), (24, (.ownp 0)), (25, (.data true tI)), (26, (.data true tI))], [.rows 89 true (.arr 3 tI), .var 89 (.data true (.arr 3 tI))], 0⟩)]⟩ Try.f34 i_CountCrossings_i i_CountCrossings_o x = i_CountCrossings n x := by kernel_rfl
noncomputable def i_CountCrossings_e (n : Nat) : Ent := ⟨34, i_CountCrossings_i, i_CountCrossings_o, fun x => i_CountCrossings n x⟩
theorem i_CountCrossings_ok (n : Nat) : EntOK Try.prog (i_CountCrossings_e n) ∧ Own Try.prog 34 := ent_ok tabOK0 (.cons (i_IsHand_ok n) (.cons (i_linesIn_ok n) (.cons (i_common_ok n) .nil))) Try.func34 rfl (by kernel_rfl) (i_CountCrossings_ev n)
def i_sum_i : CSh := ⟨[(.data false (.sl (.arr 4 tI)))], []⟩
def i_sum_o : RSh := ⟨(.data true (.arr 4 tI)), []⟩
theorem i_sum_ev (n : Nat) (x : TupT i_sum_i.tys) : evF ⟨tab, [], n, [(8, ⟨[(2, (.ptr 0 [])), (3, (.ptr 1 [])), (9, (.data false (.sl (.arr 4 tI)))), (10, (.data true tI)), (11, (.data true tI))], [.var 43 (.data true (.arr 4 tI)), .var 43 (.data true (.arr 4 tI))], 0⟩), (22, ⟨[(2, (.ptr 0 [])), (3, (.ptr 1 [])), (9, (.data false (.sl (.arr 4 tI)))), (10, (.data true tI)), (11, (.data true tI)), (15, (.data true (.arr 4 tI))), (16, (.data true tI))], [.var 43 (.data true (.arr 4 tI)), .var 43 (.data true (.arr 4 tI))], 0⟩)]⟩ Try.f140 i_sum_i i_sum_o x = i_sum n x := by kernel_rfl
noncomputable def i_sum_e (n : Nat) : Ent := ⟨140, i_sum_i, i_sum_o, fun x => i_sum n x⟩
theorem i_sum_ok (n : Nat) : EntOK Try.prog (i_sum_e n) ∧ Own Try.prog 140 := ent_ok tabOK0 .nil Try.func140 rfl (by kernel_rfl) (i_sum_ev n)
def i_SumCards_i : CSh := ⟨[(.data false (.sl (.arr 4 tI)))], []⟩
def i_SumCards_o : RSh := ⟨(.tcons (.data true (.arr 4 tI)) (.tcons (.data true .bool) .tnil)), []⟩
theorem i_SumCards_ev (n : Nat) (x : TupT i_SumCards_i.tys) : evF ⟨tab, [i_IsHand_e n, i_sum_e n], n, []⟩ Try.f32 i_SumCards_i i_SumCards_o x = i_SumCards n x := by kernel_rfl
noncomputable def i_SumCards_e (n : Nat) : Ent := ⟨32, i_SumCards_i, i_SumCards_o, fun x => i_SumCards n x⟩
theorem i_SumCards_ok (n : Nat) : EntOK Try.prog (i_SumCards_e n) ∧ Own Try.prog 32 := ent_ok tabOK0 (.cons (i_IsHand_ok n) (.cons (i_sum_ok n) .nil)) Try.func32 rfl (by kernel_rfl) (i_SumCards_ev n)
def v_FnPickings_i : CSh := ⟨[(.data false (.sl (.int .u8)))], []⟩
def v_FnPickings_o : RSh := ⟨(.data true .bool), []⟩
theorem v_FnPickings_ev (n : Nat) (x : TupT v_FnPickings_i.tys) : evF ⟨tab, [v_vBig_e n, s_DrawFirstPicking_e n, i_FirstPicking_e n, s_FirstPicking_e n, i_MostDisjoint_e n, s_MostDisjoint_e n, i_GreedyPicking_e n, s_GreedyPicking_e n, i_CountPartings_e n, s_CountPartings_e n, v_vCut_e n, s_DrawCountPickings_e n, i_CountPickings_e n, s_CountPickings_e n, s_DrawIsPicking_e n, i_IsPicking_e n, s_IsPicking_e n, i_LeftCards_e n, s_LeftCards_e n, v_vLines_e n, v_vHands_e n, i_LinesIn_e n, i_CountCrossings_e n, i_SumCards_e n], n, [(52, ⟨[(3, (.own 0)), (4, (.own 1)), (5, (.data true .bool)), (8, (.data true tI)), (12, (.own 2)), (16, (.data true tI)), (20, (.own 3)), (21, (.data true tI)), (22, (.data true tI)), (23, (.data true .bool))], [.rows 43 true (.arr 4 tI), .rows 89 true (.arr 3 tI), .rows 89 true (.arr 3 tI), .rows 43 true (.arr 4 tI)], 0⟩), (68, ⟨[(3, (.own 0)), (4, (.own 1)), (5, (.data true .bool)), (8, (.data true tI)), (12, (.own 2)), (16, (.data true tI))], [.rows 43 true (.arr 4 tI), .rows 89 true (.arr 3 tI), .rows 89 true (.arr 3 tI)], 0⟩), (104, ⟨[(3, (.own 0)), (8, (.data true tI)), (16, (.data true tI))], [.rows 43 true (.arr 4 tI)], 0⟩)]⟩ Try.f3 v_FnPickings_i v_FnPickings_o x = v_FnPickings n x := by kernel_rfl
noncomputable def v_FnPickings_e (n : Nat) : Ent := ⟨3, v_FnPickings_i, v_FnPickings_o, fun x => v_FnPickings n x⟩
theorem v_FnPickings_ok (n : Nat) : EntOK Try.prog (v_FnPickings_e n) ∧ Own Try.prog 3 := ent_ok tabOK0 (.cons (v_vBig_ok n) (.cons (s_DrawFirstPicking_ok n) (.cons (i_FirstPicking_ok n) (.cons (s_FirstPicking_ok n) (.cons (i_MostDisjoint_ok n) (.cons (s_MostDisjoint_ok n) (.cons (i_GreedyPicking_ok n) (.cons (s_GreedyPicking_ok n) (.cons (i_CountPartings_ok n) (.cons (s_CountPartings_ok n) (.cons (v_vCut_ok n) (.cons (s_DrawCountPickings_ok n) (.cons (i_CountPickings_ok n) (.cons (s_CountPickings_ok n) (.cons (s_DrawIsPicking_ok n) (.cons (i_IsPicking_ok n) (.cons (s_IsPicking_ok n) (.cons (i_LeftCards_ok n) (.cons (s_LeftCards_ok n) (.cons (v_vLines_ok n) (.cons (v_vHands_ok n) (.cons (i_LinesIn_ok n) (.cons (i_CountCrossings_ok n) (.cons (i_SumCards_ok n) .nil)))))))))))))))))))))))) Try.func3 rfl (by kernel_rfl) (v_FnPickings_ev n)
end Go.Proofs.Ytklhncjpkkfjmaa
