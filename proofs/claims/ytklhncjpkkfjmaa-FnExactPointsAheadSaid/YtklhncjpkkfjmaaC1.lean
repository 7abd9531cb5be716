/- Printed by a program of the session: the contracts of the seat's functions. -/
import Derived.Test.YtklhncjpkkfjmaaZ7
import Derived.Test.YtklhncjpkkfjmaaPL
import Derived.Test.YtklhncjpkkfjmaaRows
import Derived.KernelRfl
namespace Go.Proofs.Ytklhncjpkkfjmaa
open Go Go.Tv Go.Pl Go.RowKit
set_option linter.unusedVariables false
abbrev tI : Ty := .int .i64
def tab : Tab := ⟨[(2, ⟨tI, 0, 8⟩), (3, ⟨tI, 0, 8⟩), (4, ⟨.bool, 0, 1⟩), (5, ⟨(.int .u8), 0, 1⟩), (6, ⟨(.int .u8), 0, 1⟩), (7, ⟨(.pair tI (.pair tI (.pair .bool (.int .u8)))), 4, 24⟩), (8, ⟨(.pair tI (.pair tI (.pair .bool (.int .u8)))), 4, 24⟩), (9, ⟨.str, 0, 16⟩), (10, ⟨.str, 0, 16⟩), (11, ⟨.str, 0, 16⟩), (12, ⟨(.int .u64), 0, 8⟩), (13, ⟨(.pair .str (.int .u64)), 2, 24⟩), (14, ⟨(.pair .str (.int .u64)), 2, 24⟩), (21, ⟨(.int .i32), 0, 4⟩), (22, ⟨(.sl (.int .u8)), 5, 1⟩), (24, ⟨(.sl (.arr 4 tI)), 43, 32⟩), (26, ⟨(.sl (.arr 3 tI)), 89, 24⟩), (43, ⟨(.arr 4 tI), 3, 8⟩), (46, ⟨(.pair (.sl (.arr 4 tI)) (.pair tI tI)), 3, 40⟩), (47, ⟨(.pair (.sl (.arr 4 tI)) (.pair tI tI)), 3, 40⟩), (49, ⟨(.pair (.sl (.arr 4 tI)) (.pair tI tI)), 3, 40⟩), (50, ⟨(.pair .str (.pair .str tI)), 3, 40⟩), (51, ⟨(.pair .str (.pair .str tI)), 3, 40⟩), (52, ⟨(.pair (.pair (.sl (.arr 4 tI)) (.pair tI tI)) (.pair .str (.pair .str tI))), 2, 80⟩), (53, ⟨(.pair (.pair (.sl (.arr 4 tI)) (.pair tI tI)) (.pair .str (.pair .str tI))), 2, 80⟩), (77, ⟨(.sl tI), 3, 8⟩), (87, ⟨(.pair tI (.pair tI (.sl (.arr 4 tI)))), 3, 40⟩), (88, ⟨(.pair tI (.pair tI (.sl (.arr 4 tI)))), 3, 40⟩), (89, ⟨(.arr 3 tI), 3, 8⟩), (101, ⟨(.arr 81 .bool), 4, 1⟩), (112, ⟨(.int .u64), 0, 8⟩), (113, ⟨(.pair (.sl (.int .u8)) (.pair tI (.int .u64))), 3, 40⟩), (114, ⟨(.pair (.sl (.int .u8)) (.pair tI (.int .u64))), 3, 40⟩), (163, ⟨(.arr 81 tI), 3, 8⟩), (173, ⟨(.sl (.arr 2 tI)), 181, 16⟩), (178, ⟨(.int .u64), 0, 8⟩), (181, ⟨(.arr 2 tI), 3, 8⟩), (183, ⟨(.sl (.sl (.arr 4 tI))), 24, 24⟩), (187, ⟨tI, 0, 8⟩), (194, ⟨(.int .u32), 0, 4⟩), (196, ⟨(.int .u64), 0, 8⟩), (211, ⟨(.int .u8), 0, 1⟩), (212, ⟨(.int .u8), 0, 1⟩), (215, ⟨(.int .i32), 0, 4⟩), (216, ⟨(.int .i32), 0, 4⟩)], [7, 8, 43, 50, 51, 89, 101, 163, 181], [1, 23, 25, 28, 30, 32, 33, 34, 36, 38, 40, 41, 42, 45, 48, 55, 56, 57, 58, 59, 60, 61, 63, 64, 66, 67, 68, 69, 70, 71, 72, 73, 75, 76, 79, 80, 81, 82, 83, 84, 85, 86, 91, 93, 94, 95, 96, 97, 98, 99, 100, 102, 103, 104, 105, 106, 107, 108, 109, 110, 115, 116, 117, 118, 119, 120, 121, 122, 123, 124, 125, 126, 127, 128, 129, 130, 131, 132, 133, 134, 135, 136, 137, 138, 139, 140, 141, 142, 143, 144, 145, 146, 147, 148, 149, 150, 151, 152, 153, 154, 155, 156, 157, 158, 159, 160, 161, 162, 164, 165, 166, 167, 168, 169, 170, 171, 172, 174, 175, 176, 177, 179, 180, 182, 184, 185, 186, 189, 190, 191, 192, 193, 195, 197, 198, 199, 201, 204, 205, 213]⟩
theorem tabOK0 : TabOK Try.prog tab := ⟨by kernel_rfl, by kernel_rfl⟩
def v_szIntA4S_i : CSh := ⟨[(.data false (.sl (.arr 4 tI))), (.data true tI)], []⟩
def v_szIntA4S_o : RSh := ⟨(.data true tI), []⟩
theorem v_szIntA4S_ev (n : Nat) (x : TupT v_szIntA4S_i.tys) : evF ⟨tab, [], n, []⟩ Try.f141 v_szIntA4S_i v_szIntA4S_o x = v_szIntA4S n x.1 x.2 := by kernel_rfl
noncomputable def v_szIntA4S_e (n : Nat) : Ent := ⟨141, v_szIntA4S_i, v_szIntA4S_o, fun x => v_szIntA4S n x.1 x.2⟩
theorem v_szIntA4S_ok (n : Nat) : EntOK Try.prog (v_szIntA4S_e n) ∧ Own Try.prog 141 := ent_ok tabOK0 .nil Try.func141 rfl (by kernel_rfl) (v_szIntA4S_ev n)
def v_szTable_i : CSh := ⟨[(.data false (.pair (.sl (.arr 4 tI)) (.pair tI tI))), (.data true tI)], []⟩
def v_szTable_o : RSh := ⟨(.data true tI), []⟩
theorem v_szTable_ev (n : Nat) (x : TupT v_szTable_i.tys) : evF ⟨tab, [v_szIntA4S_e n], n, []⟩ Try.f35 v_szTable_i v_szTable_o x = v_szTable n x.1 x.2 := by kernel_rfl
noncomputable def v_szTable_e (n : Nat) : Ent := ⟨35, v_szTable_i, v_szTable_o, fun x => v_szTable n x.1 x.2⟩
theorem v_szTable_ok (n : Nat) : EntOK Try.prog (v_szTable_e n) ∧ Own Try.prog 35 := ent_ok tabOK0 (.cons (v_szIntA4S_ok n) .nil) Try.func35 rfl (by kernel_rfl) (v_szTable_ev n)
def v_toIntA4_i : CSh := ⟨[(.data true (.arr 4 tI))], []⟩
def v_toIntA4_o : RSh := ⟨(.data true (.arr 4 tI)), []⟩
theorem v_toIntA4_ev (n : Nat) (x : TupT v_toIntA4_i.tys) : evF ⟨tab, [], n, [(8, ⟨[(1, (.ptr 0 [])), (2, (.ptr 1 [])), (3, (.ptr 2 [])), (4, (.data true tI))], [.var 43 (.data true (.arr 4 tI)), .var 43 (.data true (.arr 4 tI)), .var 43 (.data true (.arr 4 tI))], 0⟩)]⟩ Try.f224 v_toIntA4_i v_toIntA4_o x = v_toIntA4 n x := by kernel_rfl
noncomputable def v_toIntA4_e (n : Nat) : Ent := ⟨224, v_toIntA4_i, v_toIntA4_o, fun x => v_toIntA4 n x⟩
theorem v_toIntA4_ok (n : Nat) : EntOK Try.prog (v_toIntA4_e n) ∧ Own Try.prog 224 := ent_ok tabOK0 .nil Try.func224 rfl (by kernel_rfl) (v_toIntA4_ev n)
def v_toIntA4S_i : CSh := ⟨[(.data false (.sl (.arr 4 tI)))], []⟩
def v_toIntA4S_o : RSh := ⟨(.own 0), [.rows 43 true (.arr 4 tI)]⟩
theorem v_toIntA4S_ev (n : Nat) (x : TupT v_toIntA4S_i.tys) : evF ⟨tab, [v_toIntA4_e n], n, [(8, ⟨[(0, (.data false (.sl (.arr 4 tI)))), (3, (.own 0)), (4, (.data true tI))], [.rows 43 true (.arr 4 tI)], 0⟩)]⟩ Try.f144 v_toIntA4S_i v_toIntA4S_o x = v_toIntA4S n x := by kernel_rfl
noncomputable def v_toIntA4S_e (n : Nat) : Ent := ⟨144, v_toIntA4S_i, v_toIntA4S_o, fun x => v_toIntA4S n x⟩
theorem v_toIntA4S_ok (n : Nat) : EntOK Try.prog (v_toIntA4S_e n) ∧ Own Try.prog 144 := ent_ok tabOK0 (.cons (v_toIntA4_ok n) .nil) Try.func144 rfl (by kernel_rfl) (v_toIntA4S_ev n)
def v_toTable_i : CSh := ⟨[(.data false (.pair (.sl (.arr 4 tI)) (.pair tI tI)))], []⟩
def v_toTable_o : RSh := ⟨(.pr (.own 0) (.data true (.pair tI tI))), [.rows 43 true (.arr 4 tI)]⟩
theorem v_toTable_ev (n : Nat) (x : TupT v_toTable_i.tys) : evF ⟨tab, [v_toIntA4S_e n], n, []⟩ Try.f37 v_toTable_i v_toTable_o x = v_toTable n x := by kernel_rfl
noncomputable def v_toTable_e (n : Nat) : Ent := ⟨37, v_toTable_i, v_toTable_o, fun x => v_toTable n x⟩
theorem v_toTable_ok (n : Nat) : EntOK Try.prog (v_toTable_e n) ∧ Own Try.prog 37 := ent_ok tabOK0 (.cons (v_toIntA4S_ok n) .nil) Try.func37 rfl (by kernel_rfl) (v_toTable_ev n)
def s_l1In_i : CSh := ⟨[(.data true tI), (.data true tI), (.data true tI)], []⟩
def s_l1In_o : RSh := ⟨(.data true .bool), []⟩
theorem s_l1In_ev (n : Nat) (x : TupT s_l1In_i.tys) : evF ⟨tab, [], n, []⟩ Try.f133 s_l1In_i s_l1In_o x = s_l1In n x.1 x.2.1 x.2.2 := by kernel_rfl
noncomputable def s_l1In_e (n : Nat) : Ent := ⟨133, s_l1In_i, s_l1In_o, fun x => s_l1In n x.1 x.2.1 x.2.2⟩
theorem s_l1In_ok (n : Nat) : EntOK Try.prog (s_l1In_e n) ∧ Own Try.prog 133 := ent_ok tabOK0 .nil Try.func133 rfl (by kernel_rfl) (s_l1In_ev n)
def s_l2Card_i : CSh := ⟨[(.data true (.arr 4 tI))], []⟩
def s_l2Card_o : RSh := ⟨(.data true .bool), []⟩
theorem s_l2Card_ev (n : Nat) (x : TupT s_l2Card_i.tys) : evF ⟨tab, [s_l1In_e n], n, [(6, ⟨[(1, (.ptr 0 [])), (3, (.data true tI))], [.var 43 (.data true (.arr 4 tI))], 0⟩)]⟩ Try.f152 s_l2Card_i s_l2Card_o x = s_l2Card n x := by kernel_rfl
noncomputable def s_l2Card_e (n : Nat) : Ent := ⟨152, s_l2Card_i, s_l2Card_o, fun x => s_l2Card n x⟩
theorem s_l2Card_ok (n : Nat) : EntOK Try.prog (s_l2Card_e n) ∧ Own Try.prog 152 := ent_ok tabOK0 (.cons (s_l1In_ok n) .nil) Try.func152 rfl (by kernel_rfl) (s_l2Card_ev n)
def s_l2Number_i : CSh := ⟨[(.data true (.arr 4 tI))], []⟩
def s_l2Number_o : RSh := ⟨(.data true tI), []⟩
theorem s_l2Number_ev (n : Nat) (x : TupT s_l2Number_i.tys) : evF ⟨tab, [], n, []⟩ Try.f162 s_l2Number_i s_l2Number_o x = s_l2Number n x := by kernel_rfl
noncomputable def s_l2Number_e (n : Nat) : Ent := ⟨162, s_l2Number_i, s_l2Number_o, fun x => s_l2Number n x⟩
theorem s_l2Number_ok (n : Nat) : EntOK Try.prog (s_l2Number_e n) ∧ Own Try.prog 162 := ent_ok tabOK0 .nil Try.func162 rfl (by kernel_rfl) (s_l2Number_ev n)
def s_l2Less_i : CSh := ⟨[(.data true (.arr 4 tI)), (.data true (.arr 4 tI))], []⟩
def s_l2Less_o : RSh := ⟨(.data true .bool), []⟩
theorem s_l2Less_ev (n : Nat) (x : TupT s_l2Less_i.tys) : evF ⟨tab, [s_l2Number_e n], n, []⟩ Try.f215 s_l2Less_i s_l2Less_o x = s_l2Less n x.1 x.2 := by kernel_rfl
noncomputable def s_l2Less_e (n : Nat) : Ent := ⟨215, s_l2Less_i, s_l2Less_o, fun x => s_l2Less n x.1 x.2⟩
theorem s_l2Less_ok (n : Nat) : EntOK Try.prog (s_l2Less_e n) ∧ Own Try.prog 215 := ent_ok tabOK0 (.cons (s_l2Number_ok n) .nil) Try.func215 rfl (by kernel_rfl) (s_l2Less_ev n)
def s_l2Hand_i : CSh := ⟨[(.data false (.sl (.arr 4 tI)))], []⟩
def s_l2Hand_o : RSh := ⟨(.data true .bool), []⟩
theorem s_l2Hand_ev (n : Nat) (x : TupT s_l2Hand_i.tys) : evF ⟨tab, [s_l2Card_e n, s_l2Less_e n], n, [(6, ⟨[(0, (.data false (.sl (.arr 4 tI)))), (3, (.data true tI))], [], 0⟩)]⟩ Try.f125 s_l2Hand_i s_l2Hand_o x = s_l2Hand n x := by kernel_rfl
noncomputable def s_l2Hand_e (n : Nat) : Ent := ⟨125, s_l2Hand_i, s_l2Hand_o, fun x => s_l2Hand n x⟩
theorem s_l2Hand_ok (n : Nat) : EntOK Try.prog (s_l2Hand_e n) ∧ Own Try.prog 125 := ent_ok tabOK0 (.cons (s_l2Card_ok n) (.cons (s_l2Less_ok n) .nil)) Try.func125 rfl (by kernel_rfl) (s_l2Hand_ev n)
def s_l12Good_i : CSh := ⟨[(.data false (.pair (.sl (.arr 4 tI)) (.pair tI tI)))], []⟩
def s_l12Good_o : RSh := ⟨(.data true .bool), []⟩
theorem s_l12Good_ev (n : Nat) (x : TupT s_l12Good_i.tys) : evF ⟨tab, [s_l2Hand_e n, s_l1In_e n], n, []⟩ Try.f142 s_l12Good_i s_l12Good_o x = s_l12Good n x := by kernel_rfl
noncomputable def s_l12Good_e (n : Nat) : Ent := ⟨142, s_l12Good_i, s_l12Good_o, fun x => s_l12Good n x⟩
theorem s_l12Good_ok (n : Nat) : EntOK Try.prog (s_l12Good_e n) ∧ Own Try.prog 142 := ent_ok tabOK0 (.cons (s_l2Hand_ok n) (.cons (s_l1In_ok n) .nil)) Try.func142 rfl (by kernel_rfl) (s_l12Good_ev n)
def s_l2Third_i : CSh := ⟨[(.data true (.arr 4 tI)), (.data true (.arr 4 tI))], []⟩
def s_l2Third_o : RSh := ⟨(.data true (.arr 4 tI)), []⟩
theorem s_l2Third_ev (n : Nat) (x : TupT s_l2Third_i.tys) : evF ⟨tab, [], n, [(8, ⟨[(2, (.ptr 0 [])), (3, (.ptr 1 [])), (4, (.ptr 2 [])), (5, (.ptr 3 [])), (6, (.data true tI))], [.var 43 (.data true (.arr 4 tI)), .var 43 (.data true (.arr 4 tI)), .var 43 (.data true (.arr 4 tI)), .var 43 (.data true (.arr 4 tI))], 0⟩)]⟩ Try.f153 s_l2Third_i s_l2Third_o x = s_l2Third n x.1 x.2 := by kernel_rfl
noncomputable def s_l2Third_e (n : Nat) : Ent := ⟨153, s_l2Third_i, s_l2Third_o, fun x => s_l2Third n x.1 x.2⟩
theorem s_l2Third_ok (n : Nat) : EntOK Try.prog (s_l2Third_e n) ∧ Own Try.prog 153 := ent_ok tabOK0 .nil Try.func153 rfl (by kernel_rfl) (s_l2Third_ev n)
def s_l2Place_i : CSh := ⟨[(.data false (.sl (.arr 4 tI))), (.data true (.arr 4 tI))], []⟩
def s_l2Place_o : RSh := ⟨(.data true tI), []⟩
theorem s_l2Place_ev (n : Nat) (x : TupT s_l2Place_i.tys) : evF ⟨tab, [], n, [(6, ⟨[(0, (.data false (.sl (.arr 4 tI)))), (3, (.ptr 0 [])), (5, (.data true tI))], [.var 43 (.data true (.arr 4 tI))], 0⟩)]⟩ Try.f213 s_l2Place_i s_l2Place_o x = s_l2Place n x.1 x.2 := by kernel_rfl
noncomputable def s_l2Place_e (n : Nat) : Ent := ⟨213, s_l2Place_i, s_l2Place_o, fun x => s_l2Place n x.1 x.2⟩
theorem s_l2Place_ok (n : Nat) : EntOK Try.prog (s_l2Place_e n) ∧ Own Try.prog 213 := ent_ok tabOK0 .nil Try.func213 rfl (by kernel_rfl) (s_l2Place_ev n)
def s_l2Lines_i : CSh := ⟨[(.data false (.sl (.arr 4 tI)))], []⟩
def s_l2Lines_o : RSh := ⟨(.own 0), [.rows 89 true (.arr 3 tI)]⟩
theorem s_l2Lines_ev (n : Nat) (x : TupT s_l2Lines_i.tys) : evF ⟨tab, [s_l2Third_e n, s_l2Place_e n], n, [(8, ⟨[(0, (.data false (.sl (.arr 4 tI)))), (3, (.own 0)), (4, (.data true tI))], [.rows 89 true (.arr 3 tI)], 0⟩), (20, ⟨[(0, (.data false (.sl (.arr 4 tI)))), (3, (.own 0)), (4, (.data true tI)), (5, (.data true tI))], [.rows 89 true (.arr 3 tI)], 0⟩)]⟩ Try.f119 s_l2Lines_i s_l2Lines_o x = s_l2Lines n x := by kernel_rfl
noncomputable def s_l2Lines_e (n : Nat) : Ent := ⟨119, s_l2Lines_i, s_l2Lines_o, fun x => s_l2Lines n x⟩
theorem s_l2Lines_ok (n : Nat) : EntOK Try.prog (s_l2Lines_e n) ∧ Own Try.prog 119 := ent_ok tabOK0 (.cons (s_l2Third_ok n) (.cons (s_l2Place_ok n) .nil)) Try.func119 rfl (by kernel_rfl) (s_l2Lines_ev n)
def s_l7Common_i : CSh := ⟨[(.data true (.arr 3 tI)), (.data true (.arr 3 tI))], []⟩
def s_l7Common_o : RSh := ⟨(.data true tI), []⟩
theorem s_l7Common_ev (n : Nat) (x : TupT s_l7Common_i.tys) : evF ⟨tab, [], n, [(8, ⟨[(2, (.ptr 0 [])), (3, (.ptr 1 [])), (5, (.data true tI)), (6, (.data true tI))], [.var 89 (.data true (.arr 3 tI)), .var 89 (.data true (.arr 3 tI))], 0⟩), (20, ⟨[(2, (.ptr 0 [])), (3, (.ptr 1 [])), (5, (.data true tI)), (6, (.data true tI)), (7, (.data true tI))], [.var 89 (.data true (.arr 3 tI)), .var 89 (.data true (.arr 3 tI))], 0⟩)]⟩ Try.f182 s_l7Common_i s_l7Common_o x = s_l7Common n x.1 x.2 := by kernel_rfl
noncomputable def s_l7Common_e (n : Nat) : Ent := ⟨182, s_l7Common_i, s_l7Common_o, fun x => s_l7Common n x.1 x.2⟩
theorem s_l7Common_ok (n : Nat) : EntOK Try.prog (s_l7Common_e n) ∧ Own Try.prog 182 := ent_ok tabOK0 .nil Try.func182 rfl (by kernel_rfl) (s_l7Common_ev n)
def s_l7Free_i : CSh := ⟨[(.data false (.sl (.arr 3 tI))), (.data true (.arr 3 tI))], []⟩
def s_l7Free_o : RSh := ⟨(.data true .bool), []⟩
theorem s_l7Free_ev (n : Nat) (x : TupT s_l7Free_i.tys) : evF ⟨tab, [s_l7Common_e n], n, [(6, ⟨[(0, (.data false (.sl (.arr 3 tI)))), (3, (.ptr 0 [])), (5, (.data true tI))], [.var 89 (.data true (.arr 3 tI))], 0⟩)]⟩ Try.f126 s_l7Free_i s_l7Free_o x = s_l7Free n x.1 x.2 := by kernel_rfl
noncomputable def s_l7Free_e (n : Nat) : Ent := ⟨126, s_l7Free_i, s_l7Free_o, fun x => s_l7Free n x.1 x.2⟩
theorem s_l7Free_ok (n : Nat) : EntOK Try.prog (s_l7Free_e n) ∧ Own Try.prog 126 := ent_ok tabOK0 (.cons (s_l7Common_ok n) .nil) Try.func126 rfl (by kernel_rfl) (s_l7Free_ev n)
def s_GreedyPicking_i : CSh := ⟨[(.data false (.sl (.arr 4 tI)))], []⟩
def s_GreedyPicking_o : RSh := ⟨(.tcons (.own 0) (.tcons (.data true .bool) .tnil)), [.rows 89 true (.arr 3 tI)]⟩
theorem s_GreedyPicking_ev (n : Nat) (x : TupT s_GreedyPicking_i.tys) : evF ⟨tab, [s_l2Hand_e n, s_l2Lines_e n, s_l7Free_e n], n, [(18, ⟨[(4, (.own 0)), (5, (.own 1)), (6, (.data true tI))], [.rows 89 true (.arr 3 tI), .rows 89 true (.arr 3 tI)], 0⟩)]⟩ Try.f18 s_GreedyPicking_i s_GreedyPicking_o x = s_GreedyPicking n x := by kernel_rfl
noncomputable def s_GreedyPicking_e (n : Nat) : Ent := ⟨18, s_GreedyPicking_i, s_GreedyPicking_o, fun x => s_GreedyPicking n x⟩
theorem s_GreedyPicking_ok (n : Nat) : EntOK Try.prog (s_GreedyPicking_e n) ∧ Own Try.prog 18 := ent_ok tabOK0 (.cons (s_l2Hand_ok n) (.cons (s_l2Lines_ok n) (.cons (s_l7Free_ok n) .nil))) Try.func18 rfl (by kernel_rfl) (s_GreedyPicking_ev n)
def s_PointsAhead_i : CSh := ⟨[(.data false (.pair (.sl (.arr 4 tI)) (.pair tI tI)))], []⟩
def s_PointsAhead_o : RSh := ⟨(.tcons (.data true tI) (.tcons (.data true .bool) .tnil)), []⟩
theorem s_PointsAhead_ev (n : Nat) (x : TupT s_PointsAhead_i.tys) : evF ⟨tab, [s_l12Good_e n, s_GreedyPicking_e n], n, []⟩ Try.f63 s_PointsAhead_i s_PointsAhead_o x = s_PointsAhead n x := by kernel_rfl
noncomputable def s_PointsAhead_e (n : Nat) : Ent := ⟨63, s_PointsAhead_i, s_PointsAhead_o, fun x => s_PointsAhead n x⟩
theorem s_PointsAhead_ok (n : Nat) : EntOK Try.prog (s_PointsAhead_e n) ∧ Own Try.prog 63 := ent_ok tabOK0 (.cons (s_l12Good_ok n) (.cons (s_GreedyPicking_ok n) .nil)) Try.func63 rfl (by kernel_rfl) (s_PointsAhead_ev n)
def i_within_i : CSh := ⟨[(.data true tI), (.data true tI), (.data true tI)], []⟩
def i_within_o : RSh := ⟨(.data true .bool), []⟩
theorem i_within_ev (n : Nat) (x : TupT i_within_i.tys) : evF ⟨tab, [], n, []⟩ Try.f132 i_within_i i_within_o x = i_within n x.1 x.2.1 x.2.2 := by kernel_rfl
noncomputable def i_within_e (n : Nat) : Ent := ⟨132, i_within_i, i_within_o, fun x => i_within n x.1 x.2.1 x.2.2⟩
theorem i_within_ok (n : Nat) : EntOK Try.prog (i_within_e n) ∧ Own Try.prog 132 := ent_ok tabOK0 .nil Try.func132 rfl (by kernel_rfl) (i_within_ev n)
def i_allWithin_1'pp_i : CSh := ⟨[(.data true tI), (.ptr 0 []), (.ptr 1 [])], [.var 3 (.data true tI), .var 3 (.data true tI)]⟩
def i_allWithin_1'pp_o : RSh := ⟨(.data true .bool), [.var 3 (.data true tI), .var 3 (.data true tI)]⟩
theorem i_allWithin_1'pp_ev (n : Nat) (x : TupT i_allWithin_1'pp_i.tys) : evF ⟨tab, [i_within_e n], n, []⟩ Try.f229 i_allWithin_1'pp_i i_allWithin_1'pp_o x = i_allWithin_1'pp n x.1 x.2.1 x.2.2 := by kernel_rfl
noncomputable def i_allWithin_1'pp_e (n : Nat) : Ent := ⟨229, i_allWithin_1'pp_i, i_allWithin_1'pp_o, fun x => i_allWithin_1'pp n x.1 x.2.1 x.2.2⟩
theorem i_allWithin_1'pp_ok (n : Nat) : EntOK Try.prog (i_allWithin_1'pp_e n) ∧ Own Try.prog 229 := ent_ok tabOK0 (.cons (i_within_ok n) .nil) Try.func229 rfl (by kernel_rfl) (i_allWithin_1'pp_ev n)
def slices_IndexFunc_Sint_int_'l_i_allWithin_1pp_i : CSh := ⟨[(.data false (.sl tI)), (.clo 229 (.tcons (.ptr 0 []) (.tcons (.ptr 1 []) .tnil)))], [.var 3 (.data true tI), .var 3 (.data true tI)]⟩
def slices_IndexFunc_Sint_int_'l_i_allWithin_1pp_o : RSh := ⟨(.data true tI), [.var 3 (.data true tI), .var 3 (.data true tI)]⟩
theorem slices_IndexFunc_Sint_int_'l_i_allWithin_1pp_ev (n : Nat) (x : TupT slices_IndexFunc_Sint_int_'l_i_allWithin_1pp_i.tys) : evF ⟨tab, [i_allWithin_1'pp_e n], n, [(6, ⟨[(0, (.data false (.sl tI))), (1, (.clo 229 (.tcons (.ptr 0 []) (.tcons (.ptr 1 []) .tnil)))), (7, (.data true tI)), (8, (.data true tI))], [.var 3 (.data true tI), .var 3 (.data true tI)], 2⟩)]⟩ Try.f246 slices_IndexFunc_Sint_int_'l_i_allWithin_1pp_i slices_IndexFunc_Sint_int_'l_i_allWithin_1pp_o x = slices_IndexFunc_Sint_int_'l_i_allWithin_1pp n x.1 x.2.1 x.2.2 := by kernel_rfl
noncomputable def slices_IndexFunc_Sint_int_'l_i_allWithin_1pp_e (n : Nat) : Ent := ⟨246, slices_IndexFunc_Sint_int_'l_i_allWithin_1pp_i, slices_IndexFunc_Sint_int_'l_i_allWithin_1pp_o, fun x => slices_IndexFunc_Sint_int_'l_i_allWithin_1pp n x.1 x.2.1 x.2.2⟩
theorem slices_IndexFunc_Sint_int_'l_i_allWithin_1pp_ok (n : Nat) : EntOK Try.prog (slices_IndexFunc_Sint_int_'l_i_allWithin_1pp_e n) ∧ Own Try.prog 246 := ent_ok tabOK0 (.cons (i_allWithin_1'pp_ok n) .nil) Try.func246 rfl (by kernel_rfl) (slices_IndexFunc_Sint_int_'l_i_allWithin_1pp_ev n)
def slices_ContainsFunc_Sint_int_'l_i_allWithin_1pp_i : CSh := ⟨[(.data false (.sl tI)), (.clo 229 (.tcons (.ptr 0 []) (.tcons (.ptr 1 []) .tnil)))], [.var 3 (.data true tI), .var 3 (.data true tI)]⟩
def slices_ContainsFunc_Sint_int_'l_i_allWithin_1pp_o : RSh := ⟨(.data true .bool), [.var 3 (.data true tI), .var 3 (.data true tI)]⟩
theorem slices_ContainsFunc_Sint_int_'l_i_allWithin_1pp_ev (n : Nat) (x : TupT slices_ContainsFunc_Sint_int_'l_i_allWithin_1pp_i.tys) : evF ⟨tab, [slices_IndexFunc_Sint_int_'l_i_allWithin_1pp_e n], n, []⟩ Try.f228 slices_ContainsFunc_Sint_int_'l_i_allWithin_1pp_i slices_ContainsFunc_Sint_int_'l_i_allWithin_1pp_o x = slices_ContainsFunc_Sint_int_'l_i_allWithin_1pp n x.1 x.2.1 x.2.2 := by kernel_rfl
noncomputable def slices_ContainsFunc_Sint_int_'l_i_allWithin_1pp_e (n : Nat) : Ent := ⟨228, slices_ContainsFunc_Sint_int_'l_i_allWithin_1pp_i, slices_ContainsFunc_Sint_int_'l_i_allWithin_1pp_o, fun x => slices_ContainsFunc_Sint_int_'l_i_allWithin_1pp n x.1 x.2.1 x.2.2⟩
theorem slices_ContainsFunc_Sint_int_'l_i_allWithin_1pp_ok (n : Nat) : EntOK Try.prog (slices_ContainsFunc_Sint_int_'l_i_allWithin_1pp_e n) ∧ Own Try.prog 228 := ent_ok tabOK0 (.cons (slices_IndexFunc_Sint_int_'l_i_allWithin_1pp_ok n) .nil) Try.func228 rfl (by kernel_rfl) (slices_ContainsFunc_Sint_int_'l_i_allWithin_1pp_ev n)
def i_allWithin_i : CSh := ⟨[(.data false (.sl tI)), (.data true tI), (.data true tI)], []⟩
def i_allWithin_o : RSh := ⟨(.data true .bool), []⟩
theorem i_allWithin_ev (n : Nat) (x : TupT i_allWithin_i.tys) : evF ⟨tab, [slices_ContainsFunc_Sint_int_'l_i_allWithin_1pp_e n], n, []⟩ Try.f160 i_allWithin_i i_allWithin_o x = i_allWithin n x.1 x.2.1 x.2.2 := by kernel_rfl
noncomputable def i_allWithin_e (n : Nat) : Ent := ⟨160, i_allWithin_i, i_allWithin_o, fun x => i_allWithin n x.1 x.2.1 x.2.2⟩
theorem i_allWithin_ok (n : Nat) : EntOK Try.prog (i_allWithin_e n) ∧ Own Try.prog 160 := ent_ok tabOK0 (.cons (slices_ContainsFunc_Sint_int_'l_i_allWithin_1pp_ok n) .nil) Try.func160 rfl (by kernel_rfl) (i_allWithin_ev n)
def i_IsCard_i : CSh := ⟨[(.data true (.arr 4 tI))], []⟩
def i_IsCard_o : RSh := ⟨(.data true .bool), []⟩
theorem i_IsCard_ev (n : Nat) (x : TupT i_IsCard_i.tys) : evF ⟨tab, [i_allWithin_e n], n, []⟩ Try.f55 i_IsCard_i i_IsCard_o x = i_IsCard n x := by kernel_rfl
noncomputable def i_IsCard_e (n : Nat) : Ent := ⟨55, i_IsCard_i, i_IsCard_o, fun x => i_IsCard n x⟩
theorem i_IsCard_ok (n : Nat) : EntOK Try.prog (i_IsCard_e n) ∧ Own Try.prog 55 := ent_ok tabOK0 (.cons (i_allWithin_ok n) .nil) Try.func55 rfl (by kernel_rfl) (i_IsCard_ev n)
def i_number_i : CSh := ⟨[(.data true (.arr 4 tI))], []⟩
def i_number_o : RSh := ⟨(.data true tI), []⟩
theorem i_number_ev (n : Nat) (x : TupT i_number_i.tys) : evF ⟨tab, [], n, [(8, ⟨[(3, (.data true tI)), (6, (.data true (.arr 4 tI))), (7, (.data true tI))], [], 0⟩)]⟩ Try.f161 i_number_i i_number_o x = i_number n x := by kernel_rfl
noncomputable def i_number_e (n : Nat) : Ent := ⟨161, i_number_i, i_number_o, fun x => i_number n x⟩
theorem i_number_ok (n : Nat) : EntOK Try.prog (i_number_e n) ∧ Own Try.prog 161 := ent_ok tabOK0 .nil Try.func161 rfl (by kernel_rfl) (i_number_ev n)
def i_IsHand_i : CSh := ⟨[(.data false (.sl (.arr 4 tI)))], []⟩
def i_IsHand_o : RSh := ⟨(.data true .bool), []⟩
theorem i_IsHand_ev (n : Nat) (x : TupT i_IsHand_i.tys) : evF ⟨tab, [i_IsCard_e n, i_number_e n], n, [(6, ⟨[(0, (.data false (.sl (.arr 4 tI)))), (5, (.data false (.sl (.arr 4 tI)))), (6, (.data true tI)), (7, (.data true tI))], [], 0⟩)]⟩ Try.f120 i_IsHand_i i_IsHand_o x = i_IsHand n x := by kernel_rfl
noncomputable def i_IsHand_e (n : Nat) : Ent := ⟨120, i_IsHand_i, i_IsHand_o, fun x => i_IsHand n x⟩
theorem i_IsHand_ok (n : Nat) : EntOK Try.prog (i_IsHand_e n) ∧ Own Try.prog 120 := ent_ok tabOK0 (.cons (i_IsCard_ok n) (.cons (i_number_ok n) .nil)) Try.func120 rfl (by kernel_rfl) (i_IsHand_ev n)
def i_IsTable_i : CSh := ⟨[(.data false (.pair (.sl (.arr 4 tI)) (.pair tI tI)))], []⟩
def i_IsTable_o : RSh := ⟨(.data true .bool), []⟩
theorem i_IsTable_ev (n : Nat) (x : TupT i_IsTable_i.tys) : evF ⟨tab, [i_IsHand_e n, i_within_e n], n, []⟩ Try.f145 i_IsTable_i i_IsTable_o x = i_IsTable n x := by kernel_rfl
noncomputable def i_IsTable_e (n : Nat) : Ent := ⟨145, i_IsTable_i, i_IsTable_o, fun x => i_IsTable n x⟩
theorem i_IsTable_ok (n : Nat) : EntOK Try.prog (i_IsTable_e n) ∧ Own Try.prog 145 := ent_ok tabOK0 (.cons (i_IsHand_ok n) (.cons (i_within_ok n) .nil)) Try.func145 rfl (by kernel_rfl) (i_IsTable_ev n)
def i_third_i : CSh := ⟨[(.data true (.arr 4 tI)), (.data true (.arr 4 tI))], []⟩
def i_third_o : RSh := ⟨(.data true (.arr 4 tI)), []⟩
theorem i_third_ev (n : Nat) (x : TupT i_third_i.tys) : evF ⟨tab, [], n, [(8, ⟨[(2, (.ptr 0 [])), (3, (.ptr 1 [])), (4, (.ptr 2 [])), (5, (.ptr 3 [])), (8, (.data true tI))], [.var 43 (.data true (.arr 4 tI)), .var 43 (.data true (.arr 4 tI)), .var 43 (.data true (.arr 4 tI)), .var 43 (.data true (.arr 4 tI))], 0⟩)]⟩ Try.f151 i_third_i i_third_o x = i_third n x.1 x.2 := by kernel_rfl
noncomputable def i_third_e (n : Nat) : Ent := ⟨151, i_third_i, i_third_o, fun x => i_third n x.1 x.2⟩
theorem i_third_ok (n : Nat) : EntOK Try.prog (i_third_e n) ∧ Own Try.prog 151 := ent_ok tabOK0 .nil Try.func151 rfl (by kernel_rfl) (i_third_ev n)
def i_linesIn_i : CSh := ⟨[(.data false (.sl (.arr 4 tI)))], []⟩
def i_linesIn_o : RSh := ⟨(.own 0), [.rows 89 true (.arr 3 tI)]⟩
theorem i_linesIn_ev (n : Nat) (x : TupT i_linesIn_i.tys) : evF ⟨tab, [i_number_e n, i_third_e n], n, [(8, ⟨[(0, (.data false (.sl (.arr 4 tI)))), (3, (.ptr 0 [])), (12, (.data false (.sl (.arr 4 tI)))), (13, (.data true tI)), (14, (.data true tI))], [.var 163 (.data true (.arr 81 tI))], 0⟩), (27, ⟨[(0, (.data false (.sl (.arr 4 tI)))), (3, (.ptr 0 [])), (6, (.own 1)), (26, (.data false (.sl (.arr 4 tI)))), (27, (.data true tI)), (28, (.data true tI))], [.var 163 (.data true (.arr 81 tI)), .rows 89 true (.arr 3 tI)], 0⟩), (41, ⟨[(0, (.data false (.sl (.arr 4 tI)))), (3, (.ptr 0 [])), (6, (.own 1)), (7, (.data true tI)), (8, (.ptr 2 [])), (9, (.data true tI)), (26, (.data false (.sl (.arr 4 tI)))), (27, (.data true tI)), (28, (.data true tI))], [.var 163 (.data true (.arr 81 tI)), .rows 89 true (.arr 3 tI), .var 43 (.data true (.arr 4 tI))], 0⟩)]⟩ Try.f121 i_linesIn_i i_linesIn_o x = i_linesIn n x := by kernel_rfl
noncomputable def i_linesIn_e (n : Nat) : Ent := ⟨121, i_linesIn_i, i_linesIn_o, fun x => i_linesIn n x⟩
theorem i_linesIn_ok (n : Nat) : EntOK Try.prog (i_linesIn_e n) ∧ Own Try.prog 121 := ent_ok tabOK0 (.cons (i_number_ok n) (.cons (i_third_ok n) .nil)) Try.func121 rfl (by kernel_rfl) (i_linesIn_ev n)
def slices_Index_Sint_int__i : CSh := ⟨[(.data false (.sl tI)), (.data true tI)], []⟩
def slices_Index_Sint_int__o : RSh := ⟨(.data true tI), []⟩
theorem slices_Index_Sint_int__ev (n : Nat) (x : TupT slices_Index_Sint_int__i.tys) : evF ⟨tab, [], n, [(6, ⟨[(0, (.data false (.sl tI))), (1, (.data true tI)), (7, (.data true tI)), (8, (.data true tI))], [], 0⟩)]⟩ Try.f222 slices_Index_Sint_int__i slices_Index_Sint_int__o x = slices_Index_Sint_int_ n x.1 x.2 := by kernel_rfl
noncomputable def slices_Index_Sint_int__e (n : Nat) : Ent := ⟨222, slices_Index_Sint_int__i, slices_Index_Sint_int__o, fun x => slices_Index_Sint_int_ n x.1 x.2⟩
theorem slices_Index_Sint_int__ok (n : Nat) : EntOK Try.prog (slices_Index_Sint_int__e n) ∧ Own Try.prog 222 := ent_ok tabOK0 .nil Try.func222 rfl (by kernel_rfl) (slices_Index_Sint_int__ev n)
def slices_Contains_Sint_int__i : CSh := ⟨[(.data false (.sl tI)), (.data true tI)], []⟩
def slices_Contains_Sint_int__o : RSh := ⟨(.data true .bool), []⟩
theorem slices_Contains_Sint_int__ev (n : Nat) (x : TupT slices_Contains_Sint_int__i.tys) : evF ⟨tab, [slices_Index_Sint_int__e n], n, []⟩ Try.f138 slices_Contains_Sint_int__i slices_Contains_Sint_int__o x = slices_Contains_Sint_int_ n x.1 x.2 := by kernel_rfl
noncomputable def slices_Contains_Sint_int__e (n : Nat) : Ent := ⟨138, slices_Contains_Sint_int__i, slices_Contains_Sint_int__o, fun x => slices_Contains_Sint_int_ n x.1 x.2⟩
theorem slices_Contains_Sint_int__ok (n : Nat) : EntOK Try.prog (slices_Contains_Sint_int__e n) ∧ Own Try.prog 138 := ent_ok tabOK0 (.cons (slices_Index_Sint_int__ok n) .nil) Try.func138 rfl (by kernel_rfl) (slices_Contains_Sint_int__ev n)
def i_common_i : CSh := ⟨[(.data true (.arr 3 tI)), (.data true (.arr 3 tI))], []⟩
def i_common_o : RSh := ⟨(.data true tI), []⟩
theorem i_common_ev (n : Nat) (x : TupT i_common_i.tys) : evF ⟨tab, [slices_Contains_Sint_int__e n], n, [(8, ⟨[(3, (.ptr 0 [])), (5, (.data true tI)), (8, (.data true (.arr 3 tI))), (9, (.data true tI))], [.var 89 (.data true (.arr 3 tI))], 0⟩)]⟩ Try.f124 i_common_i i_common_o x = i_common n x.1 x.2 := by kernel_rfl
noncomputable def i_common_e (n : Nat) : Ent := ⟨124, i_common_i, i_common_o, fun x => i_common n x.1 x.2⟩
theorem i_common_ok (n : Nat) : EntOK Try.prog (i_common_e n) ∧ Own Try.prog 124 := ent_ok tabOK0 (.cons (slices_Contains_Sint_int__ok n) .nil) Try.func124 rfl (by kernel_rfl) (i_common_ev n)
def i_GreedyPicking_1'p_i : CSh := ⟨[(.data true (.arr 3 tI)), (.ptr 0 [])], [.var 89 (.data true (.arr 3 tI))]⟩
def i_GreedyPicking_1'p_o : RSh := ⟨(.data true .bool), [.var 89 (.data true (.arr 3 tI))]⟩
theorem i_GreedyPicking_1'p_ev (n : Nat) (x : TupT i_GreedyPicking_1'p_i.tys) : evF ⟨tab, [i_common_e n], n, []⟩ Try.f123 i_GreedyPicking_1'p_i i_GreedyPicking_1'p_o x = i_GreedyPicking_1'p n x.1 x.2 := by kernel_rfl
noncomputable def i_GreedyPicking_1'p_e (n : Nat) : Ent := ⟨123, i_GreedyPicking_1'p_i, i_GreedyPicking_1'p_o, fun x => i_GreedyPicking_1'p n x.1 x.2⟩
theorem i_GreedyPicking_1'p_ok (n : Nat) : EntOK Try.prog (i_GreedyPicking_1'p_e n) ∧ Own Try.prog 123 := ent_ok tabOK0 (.cons (i_common_ok n) .nil) Try.func123 rfl (by kernel_rfl) (i_GreedyPicking_1'p_ev n)
def slices_IndexFunc_SA3_A3_'l_i_GreedyPicking_1p_i : CSh := ⟨[(.data false (.sl (.arr 3 tI))), (.clo 123 (.tcons (.ptr 0 []) .tnil))], [.var 89 (.data true (.arr 3 tI))]⟩
def slices_IndexFunc_SA3_A3_'l_i_GreedyPicking_1p_o : RSh := ⟨(.data true tI), [.var 89 (.data true (.arr 3 tI))]⟩
theorem slices_IndexFunc_SA3_A3_'l_i_GreedyPicking_1p_ev (n : Nat) (x : TupT slices_IndexFunc_SA3_A3_'l_i_GreedyPicking_1p_i.tys) : evF ⟨tab, [i_GreedyPicking_1'p_e n], n, [(6, ⟨[(0, (.data false (.sl (.arr 3 tI)))), (1, (.clo 123 (.tcons (.ptr 0 []) .tnil))), (7, (.data true tI)), (8, (.data true tI))], [.var 89 (.data true (.arr 3 tI))], 1⟩)]⟩ Try.f214 slices_IndexFunc_SA3_A3_'l_i_GreedyPicking_1p_i slices_IndexFunc_SA3_A3_'l_i_GreedyPicking_1p_o x = slices_IndexFunc_SA3_A3_'l_i_GreedyPicking_1p n x.1 x.2 := by kernel_rfl
noncomputable def slices_IndexFunc_SA3_A3_'l_i_GreedyPicking_1p_e (n : Nat) : Ent := ⟨214, slices_IndexFunc_SA3_A3_'l_i_GreedyPicking_1p_i, slices_IndexFunc_SA3_A3_'l_i_GreedyPicking_1p_o, fun x => slices_IndexFunc_SA3_A3_'l_i_GreedyPicking_1p n x.1 x.2⟩
theorem slices_IndexFunc_SA3_A3_'l_i_GreedyPicking_1p_ok (n : Nat) : EntOK Try.prog (slices_IndexFunc_SA3_A3_'l_i_GreedyPicking_1p_e n) ∧ Own Try.prog 214 := ent_ok tabOK0 (.cons (i_GreedyPicking_1'p_ok n) .nil) Try.func214 rfl (by kernel_rfl) (slices_IndexFunc_SA3_A3_'l_i_GreedyPicking_1p_ev n)
def slices_ContainsFunc_SA3_A3_'l_i_GreedyPicking_1p_i : CSh := ⟨[(.data false (.sl (.arr 3 tI))), (.clo 123 (.tcons (.ptr 0 []) .tnil))], [.var 89 (.data true (.arr 3 tI))]⟩
def slices_ContainsFunc_SA3_A3_'l_i_GreedyPicking_1p_o : RSh := ⟨(.data true .bool), [.var 89 (.data true (.arr 3 tI))]⟩
theorem slices_ContainsFunc_SA3_A3_'l_i_GreedyPicking_1p_ev (n : Nat) (x : TupT slices_ContainsFunc_SA3_A3_'l_i_GreedyPicking_1p_i.tys) : evF ⟨tab, [slices_IndexFunc_SA3_A3_'l_i_GreedyPicking_1p_e n], n, []⟩ Try.f122 slices_ContainsFunc_SA3_A3_'l_i_GreedyPicking_1p_i slices_ContainsFunc_SA3_A3_'l_i_GreedyPicking_1p_o x = slices_ContainsFunc_SA3_A3_'l_i_GreedyPicking_1p n x.1 x.2 := by kernel_rfl
noncomputable def slices_ContainsFunc_SA3_A3_'l_i_GreedyPicking_1p_e (n : Nat) : Ent := ⟨122, slices_ContainsFunc_SA3_A3_'l_i_GreedyPicking_1p_i, slices_ContainsFunc_SA3_A3_'l_i_GreedyPicking_1p_o, fun x => slices_ContainsFunc_SA3_A3_'l_i_GreedyPicking_1p n x.1 x.2⟩
theorem slices_ContainsFunc_SA3_A3_'l_i_GreedyPicking_1p_ok (n : Nat) : EntOK Try.prog (slices_ContainsFunc_SA3_A3_'l_i_GreedyPicking_1p_e n) ∧ Own Try.prog 122 := ent_ok tabOK0 (.cons (slices_IndexFunc_SA3_A3_'l_i_GreedyPicking_1p_ok n) .nil) Try.func122 rfl (by kernel_rfl) (slices_ContainsFunc_SA3_A3_'l_i_GreedyPicking_1p_ev n)
def i_GreedyPicking_i : CSh := ⟨[(.data false (.sl (.arr 4 tI)))], []⟩
def i_GreedyPicking_o : RSh := ⟨(.tcons (.own 0) (.tcons (.data true .bool) .tnil)), [.rows 89 true (.arr 3 tI)]⟩
theorem i_GreedyPicking_ev (n : Nat) (x : TupT i_GreedyPicking_i.tys) : evF ⟨tab, [i_IsHand_e n, i_linesIn_e n, slices_ContainsFunc_SA3_A3_'l_i_GreedyPicking_1p_e n], n, [(16, ⟨[(4, (.own 0)), (12, (.own 1)), (13, (.data true tI)), (14, (.data true tI))], [.rows 89 true (.arr 3 tI), .rows 89 true (.arr 3 tI)], 0⟩)]⟩ Try.f17 i_GreedyPicking_i i_GreedyPicking_o x = i_GreedyPicking n x := by kernel_rfl
noncomputable def i_GreedyPicking_e (n : Nat) : Ent := ⟨17, i_GreedyPicking_i, i_GreedyPicking_o, fun x => i_GreedyPicking n x⟩
theorem i_GreedyPicking_ok (n : Nat) : EntOK Try.prog (i_GreedyPicking_e n) ∧ Own Try.prog 17 := ent_ok tabOK0 (.cons (i_IsHand_ok n) (.cons (i_linesIn_ok n) (.cons (slices_ContainsFunc_SA3_A3_'l_i_GreedyPicking_1p_ok n) .nil))) Try.func17 rfl (by kernel_rfl) (i_GreedyPicking_ev n)
def i_PointsAhead_i : CSh := ⟨[(.data false (.pair (.sl (.arr 4 tI)) (.pair tI tI)))], []⟩
def i_PointsAhead_o : RSh := ⟨(.tcons (.data true tI) (.tcons (.data true .bool) .tnil)), []⟩
theorem i_PointsAhead_ev (n : Nat) (x : TupT i_PointsAhead_i.tys) : evF ⟨tab, [i_IsTable_e n, i_GreedyPicking_e n], n, []⟩ Try.f64 i_PointsAhead_i i_PointsAhead_o x = i_PointsAhead n x := by kernel_rfl
noncomputable def i_PointsAhead_e (n : Nat) : Ent := ⟨64, i_PointsAhead_i, i_PointsAhead_o, fun x => i_PointsAhead n x⟩
theorem i_PointsAhead_ok (n : Nat) : EntOK Try.prog (i_PointsAhead_e n) ∧ Own Try.prog 64 := ent_ok tabOK0 (.cons (i_IsTable_ok n) (.cons (i_GreedyPicking_ok n) .nil)) Try.func64 rfl (by kernel_rfl) (i_PointsAhead_ev n)
def v_eqIntA4_i : CSh := ⟨[(.data true (.arr 4 tI)), (.data true (.arr 4 tI))], []⟩
def v_eqIntA4_o : RSh := ⟨(.data true .bool), []⟩
theorem v_eqIntA4_ev (n : Nat) (x : TupT v_eqIntA4_i.tys) : evF ⟨tab, [], n, [(6, ⟨[(2, (.ptr 0 [])), (3, (.ptr 1 [])), (5, (.data true tI))], [.var 43 (.data true (.arr 4 tI)), .var 43 (.data true (.arr 4 tI))], 0⟩)]⟩ Try.f186 v_eqIntA4_i v_eqIntA4_o x = v_eqIntA4 n x.1 x.2 := by kernel_rfl
noncomputable def v_eqIntA4_e (n : Nat) : Ent := ⟨186, v_eqIntA4_i, v_eqIntA4_o, fun x => v_eqIntA4 n x.1 x.2⟩
theorem v_eqIntA4_ok (n : Nat) : EntOK Try.prog (v_eqIntA4_e n) ∧ Own Try.prog 186 := ent_ok tabOK0 .nil Try.func186 rfl (by kernel_rfl) (v_eqIntA4_ev n)
def v_eqIntA4S_i : CSh := ⟨[(.data false (.sl (.arr 4 tI))), (.data false (.sl (.arr 4 tI)))], []⟩
def v_eqIntA4S_o : RSh := ⟨(.data true .bool), []⟩
theorem v_eqIntA4S_ev (n : Nat) (x : TupT v_eqIntA4S_i.tys) : evF ⟨tab, [v_eqIntA4_e n], n, [(14, ⟨[(0, (.data false (.sl (.arr 4 tI)))), (1, (.data false (.sl (.arr 4 tI)))), (5, (.data true tI))], [], 0⟩)]⟩ Try.f88 v_eqIntA4S_i v_eqIntA4S_o x = v_eqIntA4S n x.1 x.2 := by kernel_rfl
noncomputable def v_eqIntA4S_e (n : Nat) : Ent := ⟨88, v_eqIntA4S_i, v_eqIntA4S_o, fun x => v_eqIntA4S n x.1 x.2⟩
theorem v_eqIntA4S_ok (n : Nat) : EntOK Try.prog (v_eqIntA4S_e n) ∧ Own Try.prog 88 := ent_ok tabOK0 (.cons (v_eqIntA4_ok n) .nil) Try.func88 rfl (by kernel_rfl) (v_eqIntA4S_ev n)
def v_eqTable_i : CSh := ⟨[(.data false (.pair (.sl (.arr 4 tI)) (.pair tI tI))), (.data false (.pair (.sl (.arr 4 tI)) (.pair tI tI)))], []⟩
def v_eqTable_o : RSh := ⟨(.data true .bool), []⟩
theorem v_eqTable_ev (n : Nat) (x : TupT v_eqTable_i.tys) : evF ⟨tab, [v_eqIntA4S_e n], n, []⟩ Try.f40 v_eqTable_i v_eqTable_o x = v_eqTable n x.1 x.2 := by kernel_rfl
noncomputable def v_eqTable_e (n : Nat) : Ent := ⟨40, v_eqTable_i, v_eqTable_o, fun x => v_eqTable n x.1 x.2⟩
theorem v_eqTable_ok (n : Nat) : EntOK Try.prog (v_eqTable_e n) ∧ Own Try.prog 40 := ent_ok tabOK0 (.cons (v_eqIntA4S_ok n) .nil) Try.func40 rfl (by kernel_rfl) (v_eqTable_ev n)
def v_FnExactPointsAhead_i : CSh := ⟨[(.data false (.pair (.sl (.arr 4 tI)) (.pair tI tI)))], []⟩
def v_FnExactPointsAhead_o : RSh := ⟨(.data true .bool), []⟩
theorem v_FnExactPointsAhead_ev (n : Nat) (x : TupT v_FnExactPointsAhead_i.tys) : evF ⟨tab, [v_szTable_e n, v_toTable_e n, s_PointsAhead_e n, i_PointsAhead_e n, v_eqTable_e n], n, []⟩ Try.f6 v_FnExactPointsAhead_i v_FnExactPointsAhead_o x = v_FnExactPointsAhead n x := by kernel_rfl
noncomputable def v_FnExactPointsAhead_e (n : Nat) : Ent := ⟨6, v_FnExactPointsAhead_i, v_FnExactPointsAhead_o, fun x => v_FnExactPointsAhead n x⟩
theorem v_FnExactPointsAhead_ok (n : Nat) : EntOK Try.prog (v_FnExactPointsAhead_e n) ∧ Own Try.prog 6 := ent_ok tabOK0 (.cons (v_szTable_ok n) (.cons (v_toTable_ok n) (.cons (s_PointsAhead_ok n) (.cons (i_PointsAhead_ok n) (.cons (v_eqTable_ok n) .nil))))) Try.func6 rfl (by kernel_rfl) (v_FnExactPointsAhead_ev n)
end Go.Proofs.Ytklhncjpkkfjmaa
