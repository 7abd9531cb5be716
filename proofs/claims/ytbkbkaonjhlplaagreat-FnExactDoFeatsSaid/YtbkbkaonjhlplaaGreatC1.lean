/- Printed by a program of the session: the contracts of the seat's functions. -/
import Derived.Test.YtbkbkaonjhlplaaGreatZ7
import Derived.Test.YtbkbkaonjhlplaaGreatPL
import Derived.Test.YtbkbkaonjhlplaaGreatRows
import Derived.KernelRfl
namespace Go.Proofs.YtbkbkaonjhlplaaGreat
open Go Go.Tv Go.Pl Go.RowKit
set_option linter.unusedVariables false
abbrev tI : Ty := .int .i64
def tab : Tab := ⟨[(2, ⟨tI, 0, 8⟩), (3, ⟨tI, 0, 8⟩), (4, ⟨.bool, 0, 1⟩), (5, ⟨(.int .u8), 0, 1⟩), (6, ⟨(.int .u8), 0, 1⟩), (7, ⟨(.pair tI (.pair tI (.pair .bool (.int .u8)))), 4, 24⟩), (8, ⟨(.pair tI (.pair tI (.pair .bool (.int .u8)))), 4, 24⟩), (9, ⟨.str, 0, 16⟩), (10, ⟨.str, 0, 16⟩), (11, ⟨.str, 0, 16⟩), (12, ⟨(.int .u64), 0, 8⟩), (13, ⟨(.pair .str (.int .u64)), 2, 24⟩), (14, ⟨(.pair .str (.int .u64)), 2, 24⟩), (21, ⟨(.int .i32), 0, 4⟩), (22, ⟨(.sl (.int .u8)), 5, 1⟩), (24, ⟨(.sl (.arr 4 tI)), 30, 32⟩), (30, ⟨(.arr 4 tI), 3, 8⟩), (49, ⟨(.sl (.arr 3 tI)), 52, 24⟩), (52, ⟨(.arr 3 tI), 3, 8⟩), (55, ⟨(.pair (.sl (.arr 4 tI)) (.pair tI tI)), 3, 40⟩), (56, ⟨(.pair (.sl (.arr 4 tI)) (.pair tI tI)), 3, 40⟩), (57, ⟨(.pair tI (.pair tI (.pair tI tI))), 4, 32⟩), (58, ⟨(.pair tI (.pair tI (.pair tI tI))), 4, 32⟩), (60, ⟨(.pair (.sl (.arr 4 tI)) (.pair tI tI)), 3, 40⟩), (64, ⟨(.pair tI (.pair tI (.pair tI tI))), 4, 32⟩), (69, ⟨(.sl (.pair tI (.pair tI (.pair tI tI)))), 58, 32⟩), (73, ⟨(.sl (.pair tI (.pair tI (.pair tI tI)))), 64, 32⟩), (88, ⟨(.int .u64), 0, 8⟩), (89, ⟨(.pair (.sl (.int .u8)) (.pair tI (.int .u64))), 3, 40⟩), (90, ⟨(.pair (.sl (.int .u8)) (.pair tI (.int .u64))), 3, 40⟩), (99, ⟨(.sl tI), 3, 8⟩), (110, ⟨(.int .u64), 0, 8⟩), (127, ⟨(.int .u32), 0, 4⟩), (130, ⟨(.arr 81 tI), 3, 8⟩), (146, ⟨(.arr 4 (.arr 3 tI)), 52, 24⟩), (147, ⟨(.pair (.arr 4 tI) (.arr 4 (.arr 3 tI))), 2, 128⟩), (148, ⟨(.pair (.arr 4 tI) (.arr 4 (.arr 3 tI))), 2, 128⟩), (156, ⟨(.sl (.arr 2 tI)), 169, 16⟩), (159, ⟨tI, 0, 8⟩), (169, ⟨(.arr 2 tI), 3, 8⟩), (170, ⟨(.int .u64), 0, 8⟩), (188, ⟨(.int .u8), 0, 1⟩), (189, ⟨(.int .u8), 0, 1⟩), (192, ⟨(.int .i32), 0, 4⟩), (193, ⟨(.int .i32), 0, 4⟩)], [7, 8, 30, 52, 57, 58, 64, 130, 146, 147, 148, 169], [1, 23, 26, 28, 29, 32, 34, 35, 36, 38, 40, 41, 42, 43, 45, 46, 47, 48, 51, 54, 59, 62, 63, 65, 66, 67, 68, 70, 72, 74, 75, 76, 77, 78, 80, 81, 83, 84, 85, 86, 91, 92, 93, 94, 95, 96, 97, 98, 100, 101, 102, 103, 104, 105, 106, 107, 108, 109, 111, 112, 113, 114, 115, 116, 117, 118, 119, 120, 121, 122, 123, 124, 125, 126, 128, 129, 131, 132, 133, 134, 135, 136, 137, 138, 139, 140, 141, 142, 143, 144, 145, 150, 151, 152, 153, 154, 155, 157, 158, 161, 162, 163, 164, 165, 166, 167, 168, 171, 172, 173, 175, 176, 177, 178, 181, 182, 190]⟩
theorem tabOK0 : TabOK Tryz.prog tab := ⟨by kernel_rfl, by kernel_rfl⟩
def v_szIntA4S_i : CSh := ⟨[(.data false (.sl (.arr 4 tI))), (.data true tI)], []⟩
def v_szIntA4S_o : RSh := ⟨(.data true tI), []⟩
theorem v_szIntA4S_ev (n : Nat) (x : TupT v_szIntA4S_i.tys) : evF ⟨tab, [], n, []⟩ Tryz.f92 v_szIntA4S_i v_szIntA4S_o x = v_szIntA4S n x.1 x.2 := by kernel_rfl
noncomputable def v_szIntA4S_e (n : Nat) : Ent := ⟨92, v_szIntA4S_i, v_szIntA4S_o, fun x => v_szIntA4S n x.1 x.2⟩
theorem v_szIntA4S_ok (n : Nat) : EntOK Tryz.prog (v_szIntA4S_e n) ∧ Own Tryz.prog 92 := ent_ok tabOK0 .nil Tryz.func92 rfl (by kernel_rfl) (v_szIntA4S_ev n)
def v_szTable_i : CSh := ⟨[(.data false (.pair (.sl (.arr 4 tI)) (.pair tI tI))), (.data true tI)], []⟩
def v_szTable_o : RSh := ⟨(.data true tI), []⟩
theorem v_szTable_ev (n : Nat) (x : TupT v_szTable_i.tys) : evF ⟨tab, [v_szIntA4S_e n], n, []⟩ Tryz.f32 v_szTable_i v_szTable_o x = v_szTable n x.1 x.2 := by kernel_rfl
noncomputable def v_szTable_e (n : Nat) : Ent := ⟨32, v_szTable_i, v_szTable_o, fun x => v_szTable n x.1 x.2⟩
theorem v_szTable_ok (n : Nat) : EntOK Tryz.prog (v_szTable_e n) ∧ Own Tryz.prog 32 := ent_ok tabOK0 (.cons (v_szIntA4S_ok n) .nil) Tryz.func32 rfl (by kernel_rfl) (v_szTable_ev n)
def v_szFeatS_i : CSh := ⟨[(.data false (.sl (.pair tI (.pair tI (.pair tI tI))))), (.data true tI)], []⟩
def v_szFeatS_o : RSh := ⟨(.data true tI), []⟩
theorem v_szFeatS_ev (n : Nat) (x : TupT v_szFeatS_i.tys) : evF ⟨tab, [], n, []⟩ Tryz.f40 v_szFeatS_i v_szFeatS_o x = v_szFeatS n x.1 x.2 := by kernel_rfl
noncomputable def v_szFeatS_e (n : Nat) : Ent := ⟨40, v_szFeatS_i, v_szFeatS_o, fun x => v_szFeatS n x.1 x.2⟩
theorem v_szFeatS_ok (n : Nat) : EntOK Tryz.prog (v_szFeatS_e n) ∧ Own Tryz.prog 40 := ent_ok tabOK0 .nil Tryz.func40 rfl (by kernel_rfl) (v_szFeatS_ev n)
def v_toIntA4_i : CSh := ⟨[(.data true (.arr 4 tI))], []⟩
def v_toIntA4_o : RSh := ⟨(.data true (.arr 4 tI)), []⟩
theorem v_toIntA4_ev (n : Nat) (x : TupT v_toIntA4_i.tys) : evF ⟨tab, [], n, [(8, ⟨[(1, (.ptr 0 [])), (2, (.ptr 1 [])), (3, (.ptr 2 [])), (4, (.data true tI))], [.var 30 (.data true (.arr 4 tI)), .var 30 (.data true (.arr 4 tI)), .var 30 (.data true (.arr 4 tI))], 0⟩)]⟩ Tryz.f133 v_toIntA4_i v_toIntA4_o x = v_toIntA4 n x := by kernel_rfl
noncomputable def v_toIntA4_e (n : Nat) : Ent := ⟨133, v_toIntA4_i, v_toIntA4_o, fun x => v_toIntA4 n x⟩
theorem v_toIntA4_ok (n : Nat) : EntOK Tryz.prog (v_toIntA4_e n) ∧ Own Tryz.prog 133 := ent_ok tabOK0 .nil Tryz.func133 rfl (by kernel_rfl) (v_toIntA4_ev n)
def v_toIntA4S_i : CSh := ⟨[(.data false (.sl (.arr 4 tI)))], []⟩
def v_toIntA4S_o : RSh := ⟨(.own 0), [.rows 30 true (.arr 4 tI)]⟩
theorem v_toIntA4S_ev (n : Nat) (x : TupT v_toIntA4S_i.tys) : evF ⟨tab, [v_toIntA4_e n], n, [(8, ⟨[(0, (.data false (.sl (.arr 4 tI)))), (3, (.own 0)), (4, (.data true tI))], [.rows 30 true (.arr 4 tI)], 0⟩)]⟩ Tryz.f95 v_toIntA4S_i v_toIntA4S_o x = v_toIntA4S n x := by kernel_rfl
noncomputable def v_toIntA4S_e (n : Nat) : Ent := ⟨95, v_toIntA4S_i, v_toIntA4S_o, fun x => v_toIntA4S n x⟩
theorem v_toIntA4S_ok (n : Nat) : EntOK Tryz.prog (v_toIntA4S_e n) ∧ Own Tryz.prog 95 := ent_ok tabOK0 (.cons (v_toIntA4_ok n) .nil) Tryz.func95 rfl (by kernel_rfl) (v_toIntA4S_ev n)
def v_toTable_i : CSh := ⟨[(.data false (.pair (.sl (.arr 4 tI)) (.pair tI tI)))], []⟩
def v_toTable_o : RSh := ⟨(.pr (.own 0) (.data true (.pair tI tI))), [.rows 30 true (.arr 4 tI)]⟩
theorem v_toTable_ev (n : Nat) (x : TupT v_toTable_i.tys) : evF ⟨tab, [v_toIntA4S_e n], n, []⟩ Tryz.f34 v_toTable_i v_toTable_o x = v_toTable n x := by kernel_rfl
noncomputable def v_toTable_e (n : Nat) : Ent := ⟨34, v_toTable_i, v_toTable_o, fun x => v_toTable n x⟩
theorem v_toTable_ok (n : Nat) : EntOK Tryz.prog (v_toTable_e n) ∧ Own Tryz.prog 34 := ent_ok tabOK0 (.cons (v_toIntA4S_ok n) .nil) Tryz.func34 rfl (by kernel_rfl) (v_toTable_ev n)
def v_toFeat_i : CSh := ⟨[(.data true (.pair tI (.pair tI (.pair tI tI))))], []⟩
def v_toFeat_o : RSh := ⟨(.data true (.pair tI (.pair tI (.pair tI tI)))), []⟩
theorem v_toFeat_ev (n : Nat) (x : TupT v_toFeat_i.tys) : evF ⟨tab, [], n, []⟩ Tryz.f35 v_toFeat_i v_toFeat_o x = v_toFeat n x := by kernel_rfl
noncomputable def v_toFeat_e (n : Nat) : Ent := ⟨35, v_toFeat_i, v_toFeat_o, fun x => v_toFeat n x⟩
theorem v_toFeat_ok (n : Nat) : EntOK Tryz.prog (v_toFeat_e n) ∧ Own Tryz.prog 35 := ent_ok tabOK0 .nil Tryz.func35 rfl (by kernel_rfl) (v_toFeat_ev n)
def v_toFeatS_i : CSh := ⟨[(.data false (.sl (.pair tI (.pair tI (.pair tI tI)))))], []⟩
def v_toFeatS_o : RSh := ⟨(.own 0), [.rows 64 true (.pair tI (.pair tI (.pair tI tI)))]⟩
theorem v_toFeatS_ev (n : Nat) (x : TupT v_toFeatS_i.tys) : evF ⟨tab, [v_toFeat_e n], n, [(8, ⟨[(0, (.data false (.sl (.pair tI (.pair tI (.pair tI tI)))))), (3, (.own 0)), (4, (.data true tI))], [.rows 64 true (.pair tI (.pair tI (.pair tI tI)))], 0⟩)]⟩ Tryz.f42 v_toFeatS_i v_toFeatS_o x = v_toFeatS n x := by kernel_rfl
noncomputable def v_toFeatS_e (n : Nat) : Ent := ⟨42, v_toFeatS_i, v_toFeatS_o, fun x => v_toFeatS n x⟩
theorem v_toFeatS_ok (n : Nat) : EntOK Tryz.prog (v_toFeatS_e n) ∧ Own Tryz.prog 42 := ent_ok tabOK0 (.cons (v_toFeat_ok n) .nil) Tryz.func42 rfl (by kernel_rfl) (v_toFeatS_ev n)
def s_l1In_i : CSh := ⟨[(.data true tI), (.data true tI), (.data true tI)], []⟩
def s_l1In_o : RSh := ⟨(.data true .bool), []⟩
theorem s_l1In_ev (n : Nat) (x : TupT s_l1In_i.tys) : evF ⟨tab, [], n, []⟩ Tryz.f119 s_l1In_i s_l1In_o x = s_l1In n x.1 x.2.1 x.2.2 := by kernel_rfl
noncomputable def s_l1In_e (n : Nat) : Ent := ⟨119, s_l1In_i, s_l1In_o, fun x => s_l1In n x.1 x.2.1 x.2.2⟩
theorem s_l1In_ok (n : Nat) : EntOK Tryz.prog (s_l1In_e n) ∧ Own Tryz.prog 119 := ent_ok tabOK0 .nil Tryz.func119 rfl (by kernel_rfl) (s_l1In_ev n)
def s_l2Card_i : CSh := ⟨[(.data true (.arr 4 tI))], []⟩
def s_l2Card_o : RSh := ⟨(.data true .bool), []⟩
theorem s_l2Card_ev (n : Nat) (x : TupT s_l2Card_i.tys) : evF ⟨tab, [s_l1In_e n], n, [(6, ⟨[(1, (.ptr 0 [])), (3, (.data true tI))], [.var 30 (.data true (.arr 4 tI))], 0⟩)]⟩ Tryz.f70 s_l2Card_i s_l2Card_o x = s_l2Card n x := by kernel_rfl
noncomputable def s_l2Card_e (n : Nat) : Ent := ⟨70, s_l2Card_i, s_l2Card_o, fun x => s_l2Card n x⟩
theorem s_l2Card_ok (n : Nat) : EntOK Tryz.prog (s_l2Card_e n) ∧ Own Tryz.prog 70 := ent_ok tabOK0 (.cons (s_l1In_ok n) .nil) Tryz.func70 rfl (by kernel_rfl) (s_l2Card_ev n)
def s_l2Number_i : CSh := ⟨[(.data true (.arr 4 tI))], []⟩
def s_l2Number_o : RSh := ⟨(.data true tI), []⟩
theorem s_l2Number_ev (n : Nat) (x : TupT s_l2Number_i.tys) : evF ⟨tab, [], n, []⟩ Tryz.f150 s_l2Number_i s_l2Number_o x = s_l2Number n x := by kernel_rfl
noncomputable def s_l2Number_e (n : Nat) : Ent := ⟨150, s_l2Number_i, s_l2Number_o, fun x => s_l2Number n x⟩
theorem s_l2Number_ok (n : Nat) : EntOK Tryz.prog (s_l2Number_e n) ∧ Own Tryz.prog 150 := ent_ok tabOK0 .nil Tryz.func150 rfl (by kernel_rfl) (s_l2Number_ev n)
def s_l2Less_i : CSh := ⟨[(.data true (.arr 4 tI)), (.data true (.arr 4 tI))], []⟩
def s_l2Less_o : RSh := ⟨(.data true .bool), []⟩
theorem s_l2Less_ev (n : Nat) (x : TupT s_l2Less_i.tys) : evF ⟨tab, [s_l2Number_e n], n, []⟩ Tryz.f118 s_l2Less_i s_l2Less_o x = s_l2Less n x.1 x.2 := by kernel_rfl
noncomputable def s_l2Less_e (n : Nat) : Ent := ⟨118, s_l2Less_i, s_l2Less_o, fun x => s_l2Less n x.1 x.2⟩
theorem s_l2Less_ok (n : Nat) : EntOK Tryz.prog (s_l2Less_e n) ∧ Own Tryz.prog 118 := ent_ok tabOK0 (.cons (s_l2Number_ok n) .nil) Tryz.func118 rfl (by kernel_rfl) (s_l2Less_ev n)
def s_l2Hand_i : CSh := ⟨[(.data false (.sl (.arr 4 tI)))], []⟩
def s_l2Hand_o : RSh := ⟨(.data true .bool), []⟩
theorem s_l2Hand_ev (n : Nat) (x : TupT s_l2Hand_i.tys) : evF ⟨tab, [s_l2Card_e n, s_l2Less_e n], n, [(6, ⟨[(0, (.data false (.sl (.arr 4 tI)))), (3, (.data true tI))], [], 0⟩)]⟩ Tryz.f64 s_l2Hand_i s_l2Hand_o x = s_l2Hand n x := by kernel_rfl
noncomputable def s_l2Hand_e (n : Nat) : Ent := ⟨64, s_l2Hand_i, s_l2Hand_o, fun x => s_l2Hand n x⟩
theorem s_l2Hand_ok (n : Nat) : EntOK Tryz.prog (s_l2Hand_e n) ∧ Own Tryz.prog 64 := ent_ok tabOK0 (.cons (s_l2Card_ok n) (.cons (s_l2Less_ok n) .nil)) Tryz.func64 rfl (by kernel_rfl) (s_l2Hand_ev n)
def s_l12Good_i : CSh := ⟨[(.data false (.pair (.sl (.arr 4 tI)) (.pair tI tI)))], []⟩
def s_l12Good_o : RSh := ⟨(.data true .bool), []⟩
theorem s_l12Good_ev (n : Nat) (x : TupT s_l12Good_i.tys) : evF ⟨tab, [s_l2Hand_e n, s_l1In_e n], n, []⟩ Tryz.f93 s_l12Good_i s_l12Good_o x = s_l12Good n x := by kernel_rfl
noncomputable def s_l12Good_e (n : Nat) : Ent := ⟨93, s_l12Good_i, s_l12Good_o, fun x => s_l12Good n x⟩
theorem s_l12Good_ok (n : Nat) : EntOK Tryz.prog (s_l12Good_e n) ∧ Own Tryz.prog 93 := ent_ok tabOK0 (.cons (s_l2Hand_ok n) (.cons (s_l1In_ok n) .nil)) Tryz.func93 rfl (by kernel_rfl) (s_l12Good_ev n)
def s_l2Own_i : CSh := ⟨[(.data false (.sl (.arr 4 tI)))], []⟩
def s_l2Own_o : RSh := ⟨(.own 0), [.rows 30 true (.arr 4 tI)]⟩
theorem s_l2Own_ev (n : Nat) (x : TupT s_l2Own_i.tys) : evF ⟨tab, [], n, []⟩ Tryz.f104 s_l2Own_i s_l2Own_o x = s_l2Own n x := by kernel_rfl
noncomputable def s_l2Own_e (n : Nat) : Ent := ⟨104, s_l2Own_i, s_l2Own_o, fun x => s_l2Own n x⟩
theorem s_l2Own_ok (n : Nat) : EntOK Tryz.prog (s_l2Own_e n) ∧ Own Tryz.prog 104 := ent_ok tabOK0 .nil Tryz.func104 rfl (by kernel_rfl) (s_l2Own_ev n)
def s_l12Own_i : CSh := ⟨[(.data false (.pair (.sl (.arr 4 tI)) (.pair tI tI)))], []⟩
def s_l12Own_o : RSh := ⟨(.pr (.own 0) (.data true (.pair tI tI))), [.rows 30 true (.arr 4 tI)]⟩
theorem s_l12Own_ev (n : Nat) (x : TupT s_l12Own_i.tys) : evF ⟨tab, [s_l2Own_e n], n, []⟩ Tryz.f101 s_l12Own_i s_l12Own_o x = s_l12Own n x := by kernel_rfl
noncomputable def s_l12Own_e (n : Nat) : Ent := ⟨101, s_l12Own_i, s_l12Own_o, fun x => s_l12Own n x⟩
theorem s_l12Own_ok (n : Nat) : EntOK Tryz.prog (s_l12Own_e n) ∧ Own Tryz.prog 101 := ent_ok tabOK0 (.cons (s_l2Own_ok n) .nil) Tryz.func101 rfl (by kernel_rfl) (s_l12Own_ev n)
def s_l2At_i : CSh := ⟨[(.data true tI)], []⟩
def s_l2At_o : RSh := ⟨(.data true (.arr 4 tI)), []⟩
theorem s_l2At_ev (n : Nat) (x : TupT s_l2At_i.tys) : evF ⟨tab, [], n, []⟩ Tryz.f82 s_l2At_i s_l2At_o x = s_l2At n x := by kernel_rfl
noncomputable def s_l2At_e (n : Nat) : Ent := ⟨82, s_l2At_i, s_l2At_o, fun x => s_l2At n x⟩
theorem s_l2At_ok (n : Nat) : EntOK Tryz.prog (s_l2At_e n) ∧ Own Tryz.prog 82 := ent_ok tabOK0 .nil Tryz.func82 rfl (by kernel_rfl) (s_l2At_ev n)
def s_CardAt_i : CSh := ⟨[(.data true tI)], []⟩
def s_CardAt_o : RSh := ⟨(.tcons (.data true (.arr 4 tI)) (.tcons (.data true .bool) .tnil)), []⟩
theorem s_CardAt_ev (n : Nat) (x : TupT s_CardAt_i.tys) : evF ⟨tab, [s_l1In_e n, s_l2At_e n], n, []⟩ Tryz.f155 s_CardAt_i s_CardAt_o x = s_CardAt n x := by kernel_rfl
noncomputable def s_CardAt_e (n : Nat) : Ent := ⟨155, s_CardAt_i, s_CardAt_o, fun x => s_CardAt n x⟩
theorem s_CardAt_ok (n : Nat) : EntOK Tryz.prog (s_CardAt_e n) ∧ Own Tryz.prog 155 := ent_ok tabOK0 (.cons (s_l1In_ok n) (.cons (s_l2At_ok n) .nil)) Tryz.func155 rfl (by kernel_rfl) (s_CardAt_ev n)
def s_l2Place_i : CSh := ⟨[(.data false (.sl (.arr 4 tI))), (.data true (.arr 4 tI))], []⟩
def s_l2Place_o : RSh := ⟨(.data true tI), []⟩
theorem s_l2Place_ev (n : Nat) (x : TupT s_l2Place_i.tys) : evF ⟨tab, [], n, [(6, ⟨[(0, (.data false (.sl (.arr 4 tI)))), (3, (.ptr 0 [])), (5, (.data true tI))], [.var 30 (.data true (.arr 4 tI))], 0⟩)]⟩ Tryz.f128 s_l2Place_i s_l2Place_o x = s_l2Place n x.1 x.2 := by kernel_rfl
noncomputable def s_l2Place_e (n : Nat) : Ent := ⟨128, s_l2Place_i, s_l2Place_o, fun x => s_l2Place n x.1 x.2⟩
theorem s_l2Place_ok (n : Nat) : EntOK Tryz.prog (s_l2Place_e n) ∧ Own Tryz.prog 128 := ent_ok tabOK0 .nil Tryz.func128 rfl (by kernel_rfl) (s_l2Place_ev n)
def s_l2Has_i : CSh := ⟨[(.data false (.sl (.arr 4 tI))), (.data true (.arr 4 tI))], []⟩
def s_l2Has_o : RSh := ⟨(.data true .bool), []⟩
theorem s_l2Has_ev (n : Nat) (x : TupT s_l2Has_i.tys) : evF ⟨tab, [s_l2Place_e n], n, []⟩ Tryz.f89 s_l2Has_i s_l2Has_o x = s_l2Has n x.1 x.2 := by kernel_rfl
noncomputable def s_l2Has_e (n : Nat) : Ent := ⟨89, s_l2Has_i, s_l2Has_o, fun x => s_l2Has n x.1 x.2⟩
theorem s_l2Has_ok (n : Nat) : EntOK Tryz.prog (s_l2Has_e n) ∧ Own Tryz.prog 89 := ent_ok tabOK0 (.cons (s_l2Place_ok n) .nil) Tryz.func89 rfl (by kernel_rfl) (s_l2Has_ev n)
def s_l2Put_i : CSh := ⟨[(.data false (.sl (.arr 4 tI))), (.data true (.arr 4 tI))], []⟩
def s_l2Put_o : RSh := ⟨(.own 0), [.rows 30 true (.arr 4 tI)]⟩
theorem s_l2Put_ev (n : Nat) (x : TupT s_l2Put_i.tys) : evF ⟨tab, [s_l2Less_e n, s_l2Own_e n], n, [(6, ⟨[(0, (.data false (.sl (.arr 4 tI)))), (3, (.ptr 0 [])), (5, (.data true tI))], [.var 30 (.data true (.arr 4 tI))], 0⟩)]⟩ Tryz.f81 s_l2Put_i s_l2Put_o x = s_l2Put n x.1 x.2 := by kernel_rfl
noncomputable def s_l2Put_e (n : Nat) : Ent := ⟨81, s_l2Put_i, s_l2Put_o, fun x => s_l2Put n x.1 x.2⟩
theorem s_l2Put_ok (n : Nat) : EntOK Tryz.prog (s_l2Put_e n) ∧ Own Tryz.prog 81 := ent_ok tabOK0 (.cons (s_l2Less_ok n) (.cons (s_l2Own_ok n) .nil)) Tryz.func81 rfl (by kernel_rfl) (s_l2Put_ev n)
def s_PutCard_i : CSh := ⟨[(.data false (.sl (.arr 4 tI))), (.data true (.arr 4 tI))], []⟩
def s_PutCard_o : RSh := ⟨(.tcons (.own 0) (.tcons (.data true .bool) .tnil)), [.rows 30 true (.arr 4 tI)]⟩
theorem s_PutCard_ev (n : Nat) (x : TupT s_PutCard_i.tys) : evF ⟨tab, [s_l2Hand_e n, s_l2Card_e n, s_l2Has_e n, s_l2Put_e n], n, []⟩ Tryz.f156 s_PutCard_i s_PutCard_o x = s_PutCard n x.1 x.2 := by kernel_rfl
noncomputable def s_PutCard_e (n : Nat) : Ent := ⟨156, s_PutCard_i, s_PutCard_o, fun x => s_PutCard n x.1 x.2⟩
theorem s_PutCard_ok (n : Nat) : EntOK Tryz.prog (s_PutCard_e n) ∧ Own Tryz.prog 156 := ent_ok tabOK0 (.cons (s_l2Hand_ok n) (.cons (s_l2Card_ok n) (.cons (s_l2Has_ok n) (.cons (s_l2Put_ok n) .nil)))) Tryz.func156 rfl (by kernel_rfl) (s_PutCard_ev n)
def s_l2Drop_i : CSh := ⟨[(.data false (.sl (.arr 4 tI))), (.data true tI)], []⟩
def s_l2Drop_o : RSh := ⟨(.own 0), [.rows 30 true (.arr 4 tI)]⟩
theorem s_l2Drop_ev (n : Nat) (x : TupT s_l2Drop_i.tys) : evF ⟨tab, [s_l2Own_e n], n, []⟩ Tryz.f147 s_l2Drop_i s_l2Drop_o x = s_l2Drop n x.1 x.2 := by kernel_rfl
noncomputable def s_l2Drop_e (n : Nat) : Ent := ⟨147, s_l2Drop_i, s_l2Drop_o, fun x => s_l2Drop n x.1 x.2⟩
theorem s_l2Drop_ok (n : Nat) : EntOK Tryz.prog (s_l2Drop_e n) ∧ Own Tryz.prog 147 := ent_ok tabOK0 (.cons (s_l2Own_ok n) .nil) Tryz.func147 rfl (by kernel_rfl) (s_l2Drop_ev n)
def s_l2Third_i : CSh := ⟨[(.data true (.arr 4 tI)), (.data true (.arr 4 tI))], []⟩
def s_l2Third_o : RSh := ⟨(.data true (.arr 4 tI)), []⟩
theorem s_l2Third_ev (n : Nat) (x : TupT s_l2Third_i.tys) : evF ⟨tab, [], n, [(8, ⟨[(2, (.ptr 0 [])), (3, (.ptr 1 [])), (4, (.ptr 2 [])), (5, (.ptr 3 [])), (6, (.data true tI))], [.var 30 (.data true (.arr 4 tI)), .var 30 (.data true (.arr 4 tI)), .var 30 (.data true (.arr 4 tI)), .var 30 (.data true (.arr 4 tI))], 0⟩)]⟩ Tryz.f152 s_l2Third_i s_l2Third_o x = s_l2Third n x.1 x.2 := by kernel_rfl
noncomputable def s_l2Third_e (n : Nat) : Ent := ⟨152, s_l2Third_i, s_l2Third_o, fun x => s_l2Third n x.1 x.2⟩
theorem s_l2Third_ok (n : Nat) : EntOK Tryz.prog (s_l2Third_e n) ∧ Own Tryz.prog 152 := ent_ok tabOK0 .nil Tryz.func152 rfl (by kernel_rfl) (s_l2Third_ev n)
def s_l2Lines_i : CSh := ⟨[(.data false (.sl (.arr 4 tI)))], []⟩
def s_l2Lines_o : RSh := ⟨(.own 0), [.rows 52 true (.arr 3 tI)]⟩
theorem s_l2Lines_ev (n : Nat) (x : TupT s_l2Lines_i.tys) : evF ⟨tab, [s_l2Third_e n, s_l2Place_e n], n, [(8, ⟨[(0, (.data false (.sl (.arr 4 tI)))), (3, (.own 0)), (4, (.data true tI))], [.rows 52 true (.arr 3 tI)], 0⟩), (20, ⟨[(0, (.data false (.sl (.arr 4 tI)))), (3, (.own 0)), (4, (.data true tI)), (5, (.data true tI))], [.rows 52 true (.arr 3 tI)], 0⟩)]⟩ Tryz.f139 s_l2Lines_i s_l2Lines_o x = s_l2Lines n x := by kernel_rfl
noncomputable def s_l2Lines_e (n : Nat) : Ent := ⟨139, s_l2Lines_i, s_l2Lines_o, fun x => s_l2Lines n x⟩
theorem s_l2Lines_ok (n : Nat) : EntOK Tryz.prog (s_l2Lines_e n) ∧ Own Tryz.prog 139 := ent_ok tabOK0 (.cons (s_l2Third_ok n) (.cons (s_l2Place_ok n) .nil)) Tryz.func139 rfl (by kernel_rfl) (s_l2Lines_ev n)
def s_l7Has_i : CSh := ⟨[(.data false (.sl (.arr 3 tI))), (.data true (.arr 3 tI))], []⟩
def s_l7Has_o : RSh := ⟨(.data true .bool), []⟩
theorem s_l7Has_ev (n : Nat) (x : TupT s_l7Has_i.tys) : evF ⟨tab, [], n, [(6, ⟨[(0, (.data false (.sl (.arr 3 tI)))), (3, (.ptr 0 [])), (5, (.data true tI))], [.var 52 (.data true (.arr 3 tI))], 0⟩)]⟩ Tryz.f157 s_l7Has_i s_l7Has_o x = s_l7Has n x.1 x.2 := by kernel_rfl
noncomputable def s_l7Has_e (n : Nat) : Ent := ⟨157, s_l7Has_i, s_l7Has_o, fun x => s_l7Has n x.1 x.2⟩
theorem s_l7Has_ok (n : Nat) : EntOK Tryz.prog (s_l7Has_e n) ∧ Own Tryz.prog 157 := ent_ok tabOK0 .nil Tryz.func157 rfl (by kernel_rfl) (s_l7Has_ev n)
def s_ShiftTo_i : CSh := ⟨[(.data true (.arr 4 tI)), (.data true (.arr 4 tI))], []⟩
def s_ShiftTo_o : RSh := ⟨(.tcons (.data true (.pair (.arr 4 tI) (.arr 4 (.arr 3 tI)))) (.tcons (.data true .bool) .tnil)), []⟩
theorem s_ShiftTo_ev (n : Nat) (x : TupT s_ShiftTo_i.tys) : evF ⟨tab, [s_l2Card_e n], n, [(16, ⟨[(2, (.ptr 0 [])), (3, (.ptr 1 [])), (4, (.ptr 2 [])), (6, (.ptr 3 [])), (7, (.data true tI))], [.var 30 (.data true (.arr 4 tI)), .var 30 (.data true (.arr 4 tI)), .var 148 (.data true (.pair (.arr 4 tI) (.arr 4 (.arr 3 tI)))), .var 148 (.data true (.pair (.arr 4 tI) (.arr 4 (.arr 3 tI))))], 0⟩), (28, ⟨[(2, (.ptr 0 [])), (3, (.ptr 1 [])), (4, (.ptr 2 [])), (6, (.ptr 3 [])), (7, (.data true tI)), (8, (.data true tI))], [.var 30 (.data true (.arr 4 tI)), .var 30 (.data true (.arr 4 tI)), .var 148 (.data true (.pair (.arr 4 tI) (.arr 4 (.arr 3 tI)))), .var 148 (.data true (.pair (.arr 4 tI) (.arr 4 (.arr 3 tI))))], 0⟩)]⟩ Tryz.f158 s_ShiftTo_i s_ShiftTo_o x = s_ShiftTo n x.1 x.2 := by kernel_rfl
noncomputable def s_ShiftTo_e (n : Nat) : Ent := ⟨158, s_ShiftTo_i, s_ShiftTo_o, fun x => s_ShiftTo n x.1 x.2⟩
theorem s_ShiftTo_ok (n : Nat) : EntOK Tryz.prog (s_ShiftTo_e n) ∧ Own Tryz.prog 158 := ent_ok tabOK0 (.cons (s_l2Card_ok n) .nil) Tryz.func158 rfl (by kernel_rfl) (s_ShiftTo_ev n)
def s_l1Has_i : CSh := ⟨[(.data false (.sl tI)), (.data true tI)], []⟩
def s_l1Has_o : RSh := ⟨(.data true .bool), []⟩
theorem s_l1Has_ev (n : Nat) (x : TupT s_l1Has_i.tys) : evF ⟨tab, [], n, [(6, ⟨[(0, (.data false (.sl tI))), (1, (.data true tI)), (5, (.data true tI))], [], 0⟩)]⟩ Tryz.f200 s_l1Has_i s_l1Has_o x = s_l1Has n x.1 x.2 := by kernel_rfl
noncomputable def s_l1Has_e (n : Nat) : Ent := ⟨200, s_l1Has_i, s_l1Has_o, fun x => s_l1Has n x.1 x.2⟩
theorem s_l1Has_ok (n : Nat) : EntOK Tryz.prog (s_l1Has_e n) ∧ Own Tryz.prog 200 := ent_ok tabOK0 .nil Tryz.func200 rfl (by kernel_rfl) (s_l1Has_ev n)
def s_l5Perm_i : CSh := ⟨[(.data false (.sl tI))], []⟩
def s_l5Perm_o : RSh := ⟨(.data true .bool), []⟩
theorem s_l5Perm_ev (n : Nat) (x : TupT s_l5Perm_i.tys) : evF ⟨tab, [s_l1In_e n, s_l1Has_e n], n, [(6, ⟨[(0, (.data false (.sl tI))), (3, (.data true tI))], [], 0⟩)]⟩ Tryz.f195 s_l5Perm_i s_l5Perm_o x = s_l5Perm n x := by kernel_rfl
noncomputable def s_l5Perm_e (n : Nat) : Ent := ⟨195, s_l5Perm_i, s_l5Perm_o, fun x => s_l5Perm n x⟩
theorem s_l5Perm_ok (n : Nat) : EntOK Tryz.prog (s_l5Perm_e n) ∧ Own Tryz.prog 195 := ent_ok tabOK0 (.cons (s_l1In_ok n) (.cons (s_l1Has_ok n) .nil)) Tryz.func195 rfl (by kernel_rfl) (s_l5Perm_ev n)
def s_l5Map_i : CSh := ⟨[(.data true (.pair (.arr 4 tI) (.arr 4 (.arr 3 tI))))], []⟩
def s_l5Map_o : RSh := ⟨(.data true .bool), []⟩
theorem s_l5Map_ev (n : Nat) (x : TupT s_l5Map_i.tys) : evF ⟨tab, [s_l5Perm_e n], n, [(6, ⟨[(1, (.ptr 0 [])), (3, (.data true tI))], [.var 148 (.data true (.pair (.arr 4 tI) (.arr 4 (.arr 3 tI))))], 0⟩)]⟩ Tryz.f181 s_l5Map_i s_l5Map_o x = s_l5Map n x := by kernel_rfl
noncomputable def s_l5Map_e (n : Nat) : Ent := ⟨181, s_l5Map_i, s_l5Map_o, fun x => s_l5Map n x⟩
theorem s_l5Map_ok (n : Nat) : EntOK Tryz.prog (s_l5Map_e n) ∧ Own Tryz.prog 181 := ent_ok tabOK0 (.cons (s_l5Perm_ok n) .nil) Tryz.func181 rfl (by kernel_rfl) (s_l5Map_ev n)
def s_l5Card_i : CSh := ⟨[(.data true (.pair (.arr 4 tI) (.arr 4 (.arr 3 tI)))), (.data true (.arr 4 tI))], []⟩
def s_l5Card_o : RSh := ⟨(.data true (.arr 4 tI)), []⟩
theorem s_l5Card_ev (n : Nat) (x : TupT s_l5Card_i.tys) : evF ⟨tab, [], n, [(8, ⟨[(2, (.ptr 0 [])), (3, (.ptr 1 [])), (4, (.ptr 2 [])), (5, (.ptr 3 [])), (6, (.data true tI))], [.var 148 (.data true (.pair (.arr 4 tI) (.arr 4 (.arr 3 tI)))), .var 30 (.data true (.arr 4 tI)), .var 30 (.data true (.arr 4 tI)), .var 30 (.data true (.arr 4 tI))], 0⟩)]⟩ Tryz.f196 s_l5Card_i s_l5Card_o x = s_l5Card n x.1 x.2 := by kernel_rfl
noncomputable def s_l5Card_e (n : Nat) : Ent := ⟨196, s_l5Card_i, s_l5Card_o, fun x => s_l5Card n x.1 x.2⟩
theorem s_l5Card_ok (n : Nat) : EntOK Tryz.prog (s_l5Card_e n) ∧ Own Tryz.prog 196 := ent_ok tabOK0 .nil Tryz.func196 rfl (by kernel_rfl) (s_l5Card_ev n)
def s_l5Hand_i : CSh := ⟨[(.data true (.pair (.arr 4 tI) (.arr 4 (.arr 3 tI)))), (.data false (.sl (.arr 4 tI)))], []⟩
def s_l5Hand_o : RSh := ⟨(.own 0), [.rows 30 true (.arr 4 tI)]⟩
theorem s_l5Hand_ev (n : Nat) (x : TupT s_l5Hand_i.tys) : evF ⟨tab, [s_l5Card_e n, s_l2Put_e n], n, [(8, ⟨[(1, (.data false (.sl (.arr 4 tI)))), (2, (.ptr 0 [])), (5, (.own 1)), (6, (.data true tI))], [.var 148 (.data true (.pair (.arr 4 tI) (.arr 4 (.arr 3 tI)))), .rows 30 true (.arr 4 tI)], 0⟩)]⟩ Tryz.f182 s_l5Hand_i s_l5Hand_o x = s_l5Hand n x.1 x.2 := by kernel_rfl
noncomputable def s_l5Hand_e (n : Nat) : Ent := ⟨182, s_l5Hand_i, s_l5Hand_o, fun x => s_l5Hand n x.1 x.2⟩
theorem s_l5Hand_ok (n : Nat) : EntOK Tryz.prog (s_l5Hand_e n) ∧ Own Tryz.prog 182 := ent_ok tabOK0 (.cons (s_l5Card_ok n) (.cons (s_l2Put_ok n) .nil)) Tryz.func182 rfl (by kernel_rfl) (s_l5Hand_ev n)
def s_MapHand_i : CSh := ⟨[(.data true (.pair (.arr 4 tI) (.arr 4 (.arr 3 tI)))), (.data false (.sl (.arr 4 tI)))], []⟩
def s_MapHand_o : RSh := ⟨(.tcons (.own 0) (.tcons (.data true .bool) .tnil)), [.rows 30 true (.arr 4 tI)]⟩
theorem s_MapHand_ev (n : Nat) (x : TupT s_MapHand_i.tys) : evF ⟨tab, [s_l5Map_e n, s_l2Hand_e n, s_l5Hand_e n], n, []⟩ Tryz.f159 s_MapHand_i s_MapHand_o x = s_MapHand n x.1 x.2 := by kernel_rfl
noncomputable def s_MapHand_e (n : Nat) : Ent := ⟨159, s_MapHand_i, s_MapHand_o, fun x => s_MapHand n x.1 x.2⟩
theorem s_MapHand_ok (n : Nat) : EntOK Tryz.prog (s_MapHand_e n) ∧ Own Tryz.prog 159 := ent_ok tabOK0 (.cons (s_l5Map_ok n) (.cons (s_l2Hand_ok n) (.cons (s_l5Hand_ok n) .nil))) Tryz.func159 rfl (by kernel_rfl) (s_MapHand_ev n)
def s_l3Cap_i : CSh := ⟨[(.data false (.sl (.arr 4 tI)))], []⟩
def s_l3Cap_o : RSh := ⟨(.data true .bool), []⟩
theorem s_l3Cap_ev (n : Nat) (x : TupT s_l3Cap_i.tys) : evF ⟨tab, [s_l2Lines_e n], n, []⟩ Tryz.f183 s_l3Cap_i s_l3Cap_o x = s_l3Cap n x := by kernel_rfl
noncomputable def s_l3Cap_e (n : Nat) : Ent := ⟨183, s_l3Cap_i, s_l3Cap_o, fun x => s_l3Cap n x⟩
theorem s_l3Cap_ok (n : Nat) : EntOK Tryz.prog (s_l3Cap_e n) ∧ Own Tryz.prog 183 := ent_ok tabOK0 (.cons (s_l2Lines_ok n) .nil) Tryz.func183 rfl (by kernel_rfl) (s_l3Cap_ev n)
def s_l2Line_i : CSh := ⟨[(.data true (.arr 4 tI)), (.data true (.arr 4 tI)), (.data true (.arr 4 tI))], []⟩
def s_l2Line_o : RSh := ⟨(.data true .bool), []⟩
theorem s_l2Line_ev (n : Nat) (x : TupT s_l2Line_i.tys) : evF ⟨tab, [s_l2Third_e n], n, []⟩ Tryz.f123 s_l2Line_i s_l2Line_o x = s_l2Line n x.1 x.2.1 x.2.2 := by kernel_rfl
noncomputable def s_l2Line_e (n : Nat) : Ent := ⟨123, s_l2Line_i, s_l2Line_o, fun x => s_l2Line n x.1 x.2.1 x.2.2⟩
theorem s_l2Line_ok (n : Nat) : EntOK Tryz.prog (s_l2Line_e n) ∧ Own Tryz.prog 123 := ent_ok tabOK0 (.cons (s_l2Third_ok n) .nil) Tryz.func123 rfl (by kernel_rfl) (s_l2Line_ev n)
def s_l2Through_i : CSh := ⟨[(.data false (.sl (.arr 4 tI))), (.data true (.arr 4 tI))], []⟩
def s_l2Through_o : RSh := ⟨(.data true tI), []⟩
theorem s_l2Through_ev (n : Nat) (x : TupT s_l2Through_i.tys) : evF ⟨tab, [s_l2Line_e n], n, [(8, ⟨[(0, (.data false (.sl (.arr 4 tI)))), (3, (.ptr 0 [])), (5, (.data true tI)), (6, (.data true tI))], [.var 30 (.data true (.arr 4 tI))], 0⟩), (20, ⟨[(0, (.data false (.sl (.arr 4 tI)))), (3, (.ptr 0 [])), (5, (.data true tI)), (6, (.data true tI)), (7, (.data true tI))], [.var 30 (.data true (.arr 4 tI))], 0⟩)]⟩ Tryz.f197 s_l2Through_i s_l2Through_o x = s_l2Through n x.1 x.2 := by kernel_rfl
noncomputable def s_l2Through_e (n : Nat) : Ent := ⟨197, s_l2Through_i, s_l2Through_o, fun x => s_l2Through n x.1 x.2⟩
theorem s_l2Through_ok (n : Nat) : EntOK Tryz.prog (s_l2Through_e n) ∧ Own Tryz.prog 197 := ent_ok tabOK0 (.cons (s_l2Line_ok n) .nil) Tryz.func197 rfl (by kernel_rfl) (s_l2Through_ev n)
def s_l3Cards_i : CSh := ⟨[(.data false (.sl (.arr 4 tI))), (.data true .bool)], []⟩
def s_l3Cards_o : RSh := ⟨(.own 0), [.rows 3 true tI]⟩
theorem s_l3Cards_ev (n : Nat) (x : TupT s_l3Cards_i.tys) : evF ⟨tab, [s_l2At_e n, s_l2Has_e n, s_l2Through_e n], n, [(8, ⟨[(0, (.data false (.sl (.arr 4 tI)))), (1, (.data true .bool)), (5, (.own 0)), (6, (.data true tI))], [.rows 3 true tI], 0⟩)]⟩ Tryz.f184 s_l3Cards_i s_l3Cards_o x = s_l3Cards n x.1 x.2 := by kernel_rfl
noncomputable def s_l3Cards_e (n : Nat) : Ent := ⟨184, s_l3Cards_i, s_l3Cards_o, fun x => s_l3Cards n x.1 x.2⟩
theorem s_l3Cards_ok (n : Nat) : EntOK Tryz.prog (s_l3Cards_e n) ∧ Own Tryz.prog 184 := ent_ok tabOK0 (.cons (s_l2At_ok n) (.cons (s_l2Has_ok n) (.cons (s_l2Through_ok n) .nil))) Tryz.func184 rfl (by kernel_rfl) (s_l3Cards_ev n)
def s_FillCap_i : CSh := ⟨[(.data false (.sl (.arr 4 tI)))], []⟩
def s_FillCap_o : RSh := ⟨(.tcons (.own 0) (.tcons (.data true .bool) .tnil)), [.rows 30 true (.arr 4 tI)]⟩
theorem s_FillCap_ev (n : Nat) (x : TupT s_FillCap_i.tys) : evF ⟨tab, [s_l2Hand_e n, s_l3Cap_e n, s_l2Own_e n, s_l3Cards_e n, s_l2At_e n, s_l2Put_e n], n, [(16, ⟨[(4, (.own 0)), (5, (.own 1))], [.rows 30 true (.arr 4 tI), .rows 3 true tI], 0⟩)]⟩ Tryz.f160 s_FillCap_i s_FillCap_o x = s_FillCap n x := by kernel_rfl
noncomputable def s_FillCap_e (n : Nat) : Ent := ⟨160, s_FillCap_i, s_FillCap_o, fun x => s_FillCap n x⟩
theorem s_FillCap_ok (n : Nat) : EntOK Tryz.prog (s_FillCap_e n) ∧ Own Tryz.prog 160 := ent_ok tabOK0 (.cons (s_l2Hand_ok n) (.cons (s_l3Cap_ok n) (.cons (s_l2Own_ok n) (.cons (s_l3Cards_ok n) (.cons (s_l2At_ok n) (.cons (s_l2Put_ok n) .nil)))))) Tryz.func160 rfl (by kernel_rfl) (s_FillCap_ev n)
def s_l12Hand'k_i : CSh := ⟨[(.data true (.sl (.arr 4 tI))), (.data true (.pair tI (.pair tI (.pair tI tI))))], []⟩
def s_l12Hand'k_o : RSh := ⟨(.tcons (.data true (.sl (.arr 4 tI))) (.tcons (.data true .bool) .tnil)), []⟩
theorem s_l12Hand'k_ev (n : Nat) (x : TupT s_l12Hand'k_i.tys) : evF ⟨tab, [s_CardAt_e n, s_PutCard_e n, s_l1In_e n, s_l2Drop_e n, s_l2Lines_e n, s_l7Has_e n, s_ShiftTo_e n, s_MapHand_e n, s_FillCap_e n], n, []⟩ Tryz.f131 s_l12Hand'k_i s_l12Hand'k_o x = s_l12Hand'k n x.1 x.2 := by kernel_rfl
noncomputable def s_l12Hand'k_e (n : Nat) : Ent := ⟨131, s_l12Hand'k_i, s_l12Hand'k_o, fun x => s_l12Hand'k n x.1 x.2⟩
theorem s_l12Hand'k_ok (n : Nat) : EntOK Tryz.prog (s_l12Hand'k_e n) ∧ Own Tryz.prog 131 := ent_ok tabOK0 (.cons (s_CardAt_ok n) (.cons (s_PutCard_ok n) (.cons (s_l1In_ok n) (.cons (s_l2Drop_ok n) (.cons (s_l2Lines_ok n) (.cons (s_l7Has_ok n) (.cons (s_ShiftTo_ok n) (.cons (s_MapHand_ok n) (.cons (s_FillCap_ok n) .nil))))))))) Tryz.func131 rfl (by kernel_rfl) (s_l12Hand'k_ev n)
def s_l12Plain_i : CSh := ⟨[(.data true (.pair tI (.pair tI (.pair tI tI))))], []⟩
def s_l12Plain_o : RSh := ⟨(.data true .bool), []⟩
theorem s_l12Plain_ev (n : Nat) (x : TupT s_l12Plain_i.tys) : evF ⟨tab, [], n, [(6, ⟨[(1, (.ptr 0 [])), (4, (.data true tI)), (5, (.data true .bool))], [.var 64 (.data true (.pair tI (.pair tI (.pair tI tI))))], 0⟩)]⟩ Tryz.f132 s_l12Plain_i s_l12Plain_o x = s_l12Plain n x := by kernel_rfl
noncomputable def s_l12Plain_e (n : Nat) : Ent := ⟨132, s_l12Plain_i, s_l12Plain_o, fun x => s_l12Plain n x⟩
theorem s_l12Plain_ok (n : Nat) : EntOK Tryz.prog (s_l12Plain_e n) ∧ Own Tryz.prog 132 := ent_ok tabOK0 .nil Tryz.func132 rfl (by kernel_rfl) (s_l12Plain_ev n)
def s_l12Do_i : CSh := ⟨[(.data false (.pair (.sl (.arr 4 tI)) (.pair tI tI))), (.data true (.pair tI (.pair tI (.pair tI tI))))], []⟩
def s_l12Do_o : RSh := ⟨(.tcons (.pr (.own 0) (.data true (.pair tI tI))) (.tcons (.data true .bool) .tnil)), [.rows 30 true (.arr 4 tI)]⟩
theorem s_l12Do_ev (n : Nat) (x : TupT s_l12Do_i.tys) : evF ⟨tab, [s_l12Hand'k_e n, s_l12Plain_e n, s_l12Good_e n, s_l12Own_e n], n, [(6, ⟨[(3, (.ptr 0 [])), (4, (.ptr 1 [])), (7, (.data true .bool)), (8, (.ptr 2 []))], [.var 64 (.data true (.pair tI (.pair tI (.pair tI tI)))), .var 60 (.pr .nil (.data true (.pair tI tI))), .var 60 (.data false (.pair (.sl (.arr 4 tI)) (.pair tI tI)))], 0⟩)]⟩ Tryz.f94 s_l12Do_i s_l12Do_o x = s_l12Do n x.1 x.2 := by kernel_rfl
noncomputable def s_l12Do_e (n : Nat) : Ent := ⟨94, s_l12Do_i, s_l12Do_o, fun x => s_l12Do n x.1 x.2⟩
theorem s_l12Do_ok (n : Nat) : EntOK Tryz.prog (s_l12Do_e n) ∧ Own Tryz.prog 94 := ent_ok tabOK0 (.cons (s_l12Hand'k_ok n) (.cons (s_l12Plain_ok n) (.cons (s_l12Good_ok n) (.cons (s_l12Own_ok n) .nil)))) Tryz.func94 rfl (by kernel_rfl) (s_l12Do_ev n)
def s_DoFeats_i : CSh := ⟨[(.data false (.pair (.sl (.arr 4 tI)) (.pair tI tI))), (.data false (.sl (.pair tI (.pair tI (.pair tI tI)))))], []⟩
def s_DoFeats_o : RSh := ⟨(.tcons (.pr (.own 0) (.data true (.pair tI tI))) (.tcons (.data true tI) (.tcons (.data true .bool) .tnil))), [.rows 30 true (.arr 4 tI)]⟩
theorem s_DoFeats_ev (n : Nat) (x : TupT s_DoFeats_i.tys) : evF ⟨tab, [s_l12Good_e n, s_l12Own_e n, s_l12Do_e n], n, [(16, ⟨[(1, (.data false (.sl (.pair tI (.pair tI (.pair tI tI)))))), (4, (.ptr 0 [])), (7, (.ptr 1 [])), (8, (.data true tI))], [.var 60 (.pr .nil (.data true (.pair tI tI))), .var 60 (.pr (.own 2) (.data true (.pair tI tI))), .rows 30 true (.arr 4 tI)], 0⟩)]⟩ Tryz.f41 s_DoFeats_i s_DoFeats_o x = s_DoFeats n x.1 x.2 := by kernel_rfl
noncomputable def s_DoFeats_e (n : Nat) : Ent := ⟨41, s_DoFeats_i, s_DoFeats_o, fun x => s_DoFeats n x.1 x.2⟩
theorem s_DoFeats_ok (n : Nat) : EntOK Tryz.prog (s_DoFeats_e n) ∧ Own Tryz.prog 41 := ent_ok tabOK0 (.cons (s_l12Good_ok n) (.cons (s_l12Own_ok n) (.cons (s_l12Do_ok n) .nil))) Tryz.func41 rfl (by kernel_rfl) (s_DoFeats_ev n)
def i_within_i : CSh := ⟨[(.data true tI), (.data true tI), (.data true tI)], []⟩
def i_within_o : RSh := ⟨(.data true .bool), []⟩
theorem i_within_ev (n : Nat) (x : TupT i_within_i.tys) : evF ⟨tab, [], n, []⟩ Tryz.f73 i_within_i i_within_o x = i_within n x.1 x.2.1 x.2.2 := by kernel_rfl
noncomputable def i_within_e (n : Nat) : Ent := ⟨73, i_within_i, i_within_o, fun x => i_within n x.1 x.2.1 x.2.2⟩
theorem i_within_ok (n : Nat) : EntOK Tryz.prog (i_within_e n) ∧ Own Tryz.prog 73 := ent_ok tabOK0 .nil Tryz.func73 rfl (by kernel_rfl) (i_within_ev n)
def i_allWithin_1'pp_i : CSh := ⟨[(.data true tI), (.ptr 0 []), (.ptr 1 [])], [.var 3 (.data true tI), .var 3 (.data true tI)]⟩
def i_allWithin_1'pp_o : RSh := ⟨(.data true .bool), [.var 3 (.data true tI), .var 3 (.data true tI)]⟩
theorem i_allWithin_1'pp_ev (n : Nat) (x : TupT i_allWithin_1'pp_i.tys) : evF ⟨tab, [i_within_e n], n, []⟩ Tryz.f121 i_allWithin_1'pp_i i_allWithin_1'pp_o x = i_allWithin_1'pp n x.1 x.2.1 x.2.2 := by kernel_rfl
noncomputable def i_allWithin_1'pp_e (n : Nat) : Ent := ⟨121, i_allWithin_1'pp_i, i_allWithin_1'pp_o, fun x => i_allWithin_1'pp n x.1 x.2.1 x.2.2⟩
theorem i_allWithin_1'pp_ok (n : Nat) : EntOK Tryz.prog (i_allWithin_1'pp_e n) ∧ Own Tryz.prog 121 := ent_ok tabOK0 (.cons (i_within_ok n) .nil) Tryz.func121 rfl (by kernel_rfl) (i_allWithin_1'pp_ev n)
def slices_IndexFunc_Sint_int_'l_i_allWithin_1pp_i : CSh := ⟨[(.data false (.sl tI)), (.clo 121 (.tcons (.ptr 0 []) (.tcons (.ptr 1 []) .tnil)))], [.var 3 (.data true tI), .var 3 (.data true tI)]⟩
def slices_IndexFunc_Sint_int_'l_i_allWithin_1pp_o : RSh := ⟨(.data true tI), [.var 3 (.data true tI), .var 3 (.data true tI)]⟩
theorem slices_IndexFunc_Sint_int_'l_i_allWithin_1pp_ev (n : Nat) (x : TupT slices_IndexFunc_Sint_int_'l_i_allWithin_1pp_i.tys) : evF ⟨tab, [i_allWithin_1'pp_e n], n, [(6, ⟨[(0, (.data false (.sl tI))), (1, (.clo 121 (.tcons (.ptr 0 []) (.tcons (.ptr 1 []) .tnil)))), (7, (.data true tI)), (8, (.data true tI))], [.var 3 (.data true tI), .var 3 (.data true tI)], 2⟩)]⟩ Tryz.f151 slices_IndexFunc_Sint_int_'l_i_allWithin_1pp_i slices_IndexFunc_Sint_int_'l_i_allWithin_1pp_o x = slices_IndexFunc_Sint_int_'l_i_allWithin_1pp n x.1 x.2.1 x.2.2 := by kernel_rfl
noncomputable def slices_IndexFunc_Sint_int_'l_i_allWithin_1pp_e (n : Nat) : Ent := ⟨151, slices_IndexFunc_Sint_int_'l_i_allWithin_1pp_i, slices_IndexFunc_Sint_int_'l_i_allWithin_1pp_o, fun x => slices_IndexFunc_Sint_int_'l_i_allWithin_1pp n x.1 x.2.1 x.2.2⟩
theorem slices_IndexFunc_Sint_int_'l_i_allWithin_1pp_ok (n : Nat) : EntOK Tryz.prog (slices_IndexFunc_Sint_int_'l_i_allWithin_1pp_e n) ∧ Own Tryz.prog 151 := ent_ok tabOK0 (.cons (i_allWithin_1'pp_ok n) .nil) Tryz.func151 rfl (by kernel_rfl) (slices_IndexFunc_Sint_int_'l_i_allWithin_1pp_ev n)
def slices_ContainsFunc_Sint_int_'l_i_allWithin_1pp_i : CSh := ⟨[(.data false (.sl tI)), (.clo 121 (.tcons (.ptr 0 []) (.tcons (.ptr 1 []) .tnil)))], [.var 3 (.data true tI), .var 3 (.data true tI)]⟩
def slices_ContainsFunc_Sint_int_'l_i_allWithin_1pp_o : RSh := ⟨(.data true .bool), [.var 3 (.data true tI), .var 3 (.data true tI)]⟩
theorem slices_ContainsFunc_Sint_int_'l_i_allWithin_1pp_ev (n : Nat) (x : TupT slices_ContainsFunc_Sint_int_'l_i_allWithin_1pp_i.tys) : evF ⟨tab, [slices_IndexFunc_Sint_int_'l_i_allWithin_1pp_e n], n, []⟩ Tryz.f120 slices_ContainsFunc_Sint_int_'l_i_allWithin_1pp_i slices_ContainsFunc_Sint_int_'l_i_allWithin_1pp_o x = slices_ContainsFunc_Sint_int_'l_i_allWithin_1pp n x.1 x.2.1 x.2.2 := by kernel_rfl
noncomputable def slices_ContainsFunc_Sint_int_'l_i_allWithin_1pp_e (n : Nat) : Ent := ⟨120, slices_ContainsFunc_Sint_int_'l_i_allWithin_1pp_i, slices_ContainsFunc_Sint_int_'l_i_allWithin_1pp_o, fun x => slices_ContainsFunc_Sint_int_'l_i_allWithin_1pp n x.1 x.2.1 x.2.2⟩
theorem slices_ContainsFunc_Sint_int_'l_i_allWithin_1pp_ok (n : Nat) : EntOK Tryz.prog (slices_ContainsFunc_Sint_int_'l_i_allWithin_1pp_e n) ∧ Own Tryz.prog 120 := ent_ok tabOK0 (.cons (slices_IndexFunc_Sint_int_'l_i_allWithin_1pp_ok n) .nil) Tryz.func120 rfl (by kernel_rfl) (slices_ContainsFunc_Sint_int_'l_i_allWithin_1pp_ev n)
def i_allWithin_i : CSh := ⟨[(.data false (.sl tI)), (.data true tI), (.data true tI)], []⟩
def i_allWithin_o : RSh := ⟨(.data true .bool), []⟩
theorem i_allWithin_ev (n : Nat) (x : TupT i_allWithin_i.tys) : evF ⟨tab, [slices_ContainsFunc_Sint_int_'l_i_allWithin_1pp_e n], n, []⟩ Tryz.f72 i_allWithin_i i_allWithin_o x = i_allWithin n x.1 x.2.1 x.2.2 := by kernel_rfl
noncomputable def i_allWithin_e (n : Nat) : Ent := ⟨72, i_allWithin_i, i_allWithin_o, fun x => i_allWithin n x.1 x.2.1 x.2.2⟩
theorem i_allWithin_ok (n : Nat) : EntOK Tryz.prog (i_allWithin_e n) ∧ Own Tryz.prog 72 := ent_ok tabOK0 (.cons (slices_ContainsFunc_Sint_int_'l_i_allWithin_1pp_ok n) .nil) Tryz.func72 rfl (by kernel_rfl) (i_allWithin_ev n)
def i_IsCard_i : CSh := ⟨[(.data true (.arr 4 tI))], []⟩
def i_IsCard_o : RSh := ⟨(.data true .bool), []⟩
theorem i_IsCard_ev (n : Nat) (x : TupT i_IsCard_i.tys) : evF ⟨tab, [i_allWithin_e n], n, []⟩ Tryz.f15 i_IsCard_i i_IsCard_o x = i_IsCard n x := by kernel_rfl
noncomputable def i_IsCard_e (n : Nat) : Ent := ⟨15, i_IsCard_i, i_IsCard_o, fun x => i_IsCard n x⟩
theorem i_IsCard_ok (n : Nat) : EntOK Tryz.prog (i_IsCard_e n) ∧ Own Tryz.prog 15 := ent_ok tabOK0 (.cons (i_allWithin_ok n) .nil) Tryz.func15 rfl (by kernel_rfl) (i_IsCard_ev n)
def i_number_i : CSh := ⟨[(.data true (.arr 4 tI))], []⟩
def i_number_o : RSh := ⟨(.data true tI), []⟩
theorem i_number_ev (n : Nat) (x : TupT i_number_i.tys) : evF ⟨tab, [], n, [(8, ⟨[(3, (.data true tI)), (6, (.data true (.arr 4 tI))), (7, (.data true tI))], [], 0⟩)]⟩ Tryz.f114 i_number_i i_number_o x = i_number n x := by kernel_rfl
noncomputable def i_number_e (n : Nat) : Ent := ⟨114, i_number_i, i_number_o, fun x => i_number n x⟩
theorem i_number_ok (n : Nat) : EntOK Tryz.prog (i_number_e n) ∧ Own Tryz.prog 114 := ent_ok tabOK0 .nil Tryz.func114 rfl (by kernel_rfl) (i_number_ev n)
def i_IsHand_i : CSh := ⟨[(.data false (.sl (.arr 4 tI)))], []⟩
def i_IsHand_o : RSh := ⟨(.data true .bool), []⟩
theorem i_IsHand_ev (n : Nat) (x : TupT i_IsHand_i.tys) : evF ⟨tab, [i_IsCard_e n, i_number_e n], n, [(6, ⟨[(0, (.data false (.sl (.arr 4 tI)))), (5, (.data false (.sl (.arr 4 tI)))), (6, (.data true tI)), (7, (.data true tI))], [], 0⟩)]⟩ Tryz.f61 i_IsHand_i i_IsHand_o x = i_IsHand n x := by kernel_rfl
noncomputable def i_IsHand_e (n : Nat) : Ent := ⟨61, i_IsHand_i, i_IsHand_o, fun x => i_IsHand n x⟩
theorem i_IsHand_ok (n : Nat) : EntOK Tryz.prog (i_IsHand_e n) ∧ Own Tryz.prog 61 := ent_ok tabOK0 (.cons (i_IsCard_ok n) (.cons (i_number_ok n) .nil)) Tryz.func61 rfl (by kernel_rfl) (i_IsHand_ev n)
def i_IsTable_i : CSh := ⟨[(.data false (.pair (.sl (.arr 4 tI)) (.pair tI tI)))], []⟩
def i_IsTable_o : RSh := ⟨(.data true .bool), []⟩
theorem i_IsTable_ev (n : Nat) (x : TupT i_IsTable_i.tys) : evF ⟨tab, [i_IsHand_e n, i_within_e n], n, []⟩ Tryz.f56 i_IsTable_i i_IsTable_o x = i_IsTable n x := by kernel_rfl
noncomputable def i_IsTable_e (n : Nat) : Ent := ⟨56, i_IsTable_i, i_IsTable_o, fun x => i_IsTable n x⟩
theorem i_IsTable_ok (n : Nat) : EntOK Tryz.prog (i_IsTable_e n) ∧ Own Tryz.prog 56 := ent_ok tabOK0 (.cons (i_IsHand_ok n) (.cons (i_within_ok n) .nil)) Tryz.func56 rfl (by kernel_rfl) (i_IsTable_ev n)
def slices_Clone_SA4_A4__i : CSh := ⟨[(.data false (.sl (.arr 4 tI)))], []⟩
def slices_Clone_SA4_A4__o : RSh := ⟨(.own 0), [.rows 30 true (.arr 4 tI)]⟩
theorem slices_Clone_SA4_A4__ev (n : Nat) (x : TupT slices_Clone_SA4_A4__i.tys) : evF ⟨tab, [], n, []⟩ Tryz.f103 slices_Clone_SA4_A4__i slices_Clone_SA4_A4__o x = slices_Clone_SA4_A4_ n x := by kernel_rfl
noncomputable def slices_Clone_SA4_A4__e (n : Nat) : Ent := ⟨103, slices_Clone_SA4_A4__i, slices_Clone_SA4_A4__o, fun x => slices_Clone_SA4_A4_ n x⟩
theorem slices_Clone_SA4_A4__ok (n : Nat) : EntOK Tryz.prog (slices_Clone_SA4_A4__e n) ∧ Own Tryz.prog 103 := ent_ok tabOK0 .nil Tryz.func103 rfl (by kernel_rfl) (slices_Clone_SA4_A4__ev n)
def _impl_Table__own_i : CSh := ⟨[(.data false (.pair (.sl (.arr 4 tI)) (.pair tI tI)))], []⟩
def _impl_Table__own_o : RSh := ⟨(.pr (.own 0) (.data true (.pair tI tI))), [.rows 30 true (.arr 4 tI)]⟩
theorem _impl_Table__own_ev (n : Nat) (x : TupT _impl_Table__own_i.tys) : evF ⟨tab, [slices_Clone_SA4_A4__e n], n, []⟩ Tryz.f97 _impl_Table__own_i _impl_Table__own_o x = _impl_Table__own n x := by kernel_rfl
noncomputable def _impl_Table__own_e (n : Nat) : Ent := ⟨97, _impl_Table__own_i, _impl_Table__own_o, fun x => _impl_Table__own n x⟩
theorem _impl_Table__own_ok (n : Nat) : EntOK Tryz.prog (_impl_Table__own_e n) ∧ Own Tryz.prog 97 := ent_ok tabOK0 (.cons (slices_Clone_SA4_A4__ok n) .nil) Tryz.func97 rfl (by kernel_rfl) (_impl_Table__own_ev n)
def i_card_i : CSh := ⟨[(.data true tI)], []⟩
def i_card_o : RSh := ⟨(.data true (.arr 4 tI)), []⟩
theorem i_card_ev (n : Nat) (x : TupT i_card_i.tys) : evF ⟨tab, [], n, []⟩ Tryz.f144 i_card_i i_card_o x = i_card n x := by kernel_rfl
noncomputable def i_card_e (n : Nat) : Ent := ⟨144, i_card_i, i_card_o, fun x => i_card n x⟩
theorem i_card_ok (n : Nat) : EntOK Tryz.prog (i_card_e n) ∧ Own Tryz.prog 144 := ent_ok tabOK0 .nil Tryz.func144 rfl (by kernel_rfl) (i_card_ev n)
def slices_Index_SA4_A4__i : CSh := ⟨[(.data false (.sl (.arr 4 tI))), (.data true (.arr 4 tI))], []⟩
def slices_Index_SA4_A4__o : RSh := ⟨(.data true tI), []⟩
theorem slices_Index_SA4_A4__ev (n : Nat) (x : TupT slices_Index_SA4_A4__i.tys) : evF ⟨tab, [], n, [(6, ⟨[(0, (.data false (.sl (.arr 4 tI)))), (3, (.ptr 0 [])), (7, (.data true tI)), (8, (.data true tI))], [.var 30 (.data true (.arr 4 tI))], 0⟩)]⟩ Tryz.f153 slices_Index_SA4_A4__i slices_Index_SA4_A4__o x = slices_Index_SA4_A4_ n x.1 x.2 := by kernel_rfl
noncomputable def slices_Index_SA4_A4__e (n : Nat) : Ent := ⟨153, slices_Index_SA4_A4__i, slices_Index_SA4_A4__o, fun x => slices_Index_SA4_A4_ n x.1 x.2⟩
theorem slices_Index_SA4_A4__ok (n : Nat) : EntOK Tryz.prog (slices_Index_SA4_A4__e n) ∧ Own Tryz.prog 153 := ent_ok tabOK0 .nil Tryz.func153 rfl (by kernel_rfl) (slices_Index_SA4_A4__ev n)
def slices_Contains_SA4_A4__i : CSh := ⟨[(.data false (.sl (.arr 4 tI))), (.data true (.arr 4 tI))], []⟩
def slices_Contains_SA4_A4__o : RSh := ⟨(.data true .bool), []⟩
theorem slices_Contains_SA4_A4__ev (n : Nat) (x : TupT slices_Contains_SA4_A4__i.tys) : evF ⟨tab, [slices_Index_SA4_A4__e n], n, []⟩ Tryz.f127 slices_Contains_SA4_A4__i slices_Contains_SA4_A4__o x = slices_Contains_SA4_A4_ n x.1 x.2 := by kernel_rfl
noncomputable def slices_Contains_SA4_A4__e (n : Nat) : Ent := ⟨127, slices_Contains_SA4_A4__i, slices_Contains_SA4_A4__o, fun x => slices_Contains_SA4_A4_ n x.1 x.2⟩
theorem slices_Contains_SA4_A4__ok (n : Nat) : EntOK Tryz.prog (slices_Contains_SA4_A4__e n) ∧ Own Tryz.prog 127 := ent_ok tabOK0 (.cons (slices_Index_SA4_A4__ok n) .nil) Tryz.func127 rfl (by kernel_rfl) (slices_Contains_SA4_A4__ev n)
def i_has_i : CSh := ⟨[(.data false (.sl (.arr 4 tI))), (.data true (.arr 4 tI))], []⟩
def i_has_o : RSh := ⟨(.data true .bool), []⟩
theorem i_has_ev (n : Nat) (x : TupT i_has_i.tys) : evF ⟨tab, [slices_Contains_SA4_A4__e n], n, []⟩ Tryz.f87 i_has_i i_has_o x = i_has n x.1 x.2 := by kernel_rfl
noncomputable def i_has_e (n : Nat) : Ent := ⟨87, i_has_i, i_has_o, fun x => i_has n x.1 x.2⟩
theorem i_has_ok (n : Nat) : EntOK Tryz.prog (i_has_e n) ∧ Own Tryz.prog 87 := ent_ok tabOK0 (.cons (slices_Contains_SA4_A4__ok n) .nil) Tryz.func87 rfl (by kernel_rfl) (i_has_ev n)
def math_bits_Len64_i : CSh := ⟨[(.data true (.int .u64))], []⟩
def math_bits_Len64_o : RSh := ⟨(.data true tI), []⟩
theorem math_bits_Len64_ev (n : Nat) (x : TupT math_bits_Len64_i.tys) : evF ⟨tab, [], n, [(2, ⟨[(0, (.data true (.int .u64))), (2, (.data true tI))], [], 0⟩), (10, ⟨[(0, (.data true (.int .u64))), (2, (.data true tI))], [], 0⟩), (18, ⟨[(0, (.data true (.int .u64))), (2, (.data true tI))], [], 0⟩)]⟩ Tryz.f180 math_bits_Len64_i math_bits_Len64_o x = math_bits_Len64 n x := by kernel_rfl
noncomputable def math_bits_Len64_e (n : Nat) : Ent := ⟨180, math_bits_Len64_i, math_bits_Len64_o, fun x => math_bits_Len64 n x⟩
theorem math_bits_Len64_ok (n : Nat) : EntOK Tryz.prog (math_bits_Len64_e n) ∧ Own Tryz.prog 180 := ent_ok tabOK0 .nil Tryz.func180 rfl (by kernel_rfl) (math_bits_Len64_ev n)
def math_bits_Len_i : CSh := ⟨[(.data true (.int .u64))], []⟩
def math_bits_Len_o : RSh := ⟨(.data true tI), []⟩
theorem math_bits_Len_ev (n : Nat) (x : TupT math_bits_Len_i.tys) : evF ⟨tab, [math_bits_Len64_e n], n, []⟩ Tryz.f149 math_bits_Len_i math_bits_Len_o x = math_bits_Len n x := by kernel_rfl
noncomputable def math_bits_Len_e (n : Nat) : Ent := ⟨149, math_bits_Len_i, math_bits_Len_o, fun x => math_bits_Len n x⟩
theorem math_bits_Len_ok (n : Nat) : EntOK Tryz.prog (math_bits_Len_e n) ∧ Own Tryz.prog 149 := ent_ok tabOK0 (.cons (math_bits_Len64_ok n) .nil) Tryz.func149 rfl (by kernel_rfl) (math_bits_Len_ev n)
def i_compareCards_i : CSh := ⟨[(.data true (.arr 4 tI)), (.data true (.arr 4 tI))], []⟩
def i_compareCards_o : RSh := ⟨(.data true tI), []⟩
theorem i_compareCards_ev (n : Nat) (x : TupT i_compareCards_i.tys) : evF ⟨tab, [i_number_e n], n, []⟩ Tryz.f116 i_compareCards_i i_compareCards_o x = i_compareCards n x.1 x.2 := by kernel_rfl
noncomputable def i_compareCards_e (n : Nat) : Ent := ⟨116, i_compareCards_i, i_compareCards_o, fun x => i_compareCards n x.1 x.2⟩
theorem i_compareCards_ok (n : Nat) : EntOK Tryz.prog (i_compareCards_e n) ∧ Own Tryz.prog 116 := ent_ok tabOK0 (.cons (i_number_ok n) .nil) Tryz.func116 rfl (by kernel_rfl) (i_compareCards_ev n)
def slices_insertionSortCmpFunc_A4_'o_i_compareCards_i : CSh := ⟨[(.own 0), (.data true tI), (.data true tI), (.clo 116 .tnil)], [.rows 30 true (.arr 4 tI)]⟩
def slices_insertionSortCmpFunc_A4_'o_i_compareCards_o : RSh := ⟨.tnil, [.rows 30 true (.arr 4 tI)]⟩
theorem slices_insertionSortCmpFunc_A4_'o_i_compareCards_ev (n : Nat) (x : TupT slices_insertionSortCmpFunc_A4_'o_i_compareCards_i.tys) : evF ⟨tab, [i_compareCards_e n], n, [(3, ⟨[(0, (.own 0)), (1, (.data true tI)), (2, (.data true tI)), (3, (.clo 116 .tnil)), (8, (.data true tI))], [.rows 30 true (.arr 4 tI)], 1⟩), (15, ⟨[(0, (.own 0)), (1, (.data true tI)), (2, (.data true tI)), (3, (.clo 116 .tnil)), (8, (.data true tI)), (9, (.data true tI))], [.rows 30 true (.arr 4 tI)], 1⟩)]⟩ Tryz.f171 slices_insertionSortCmpFunc_A4_'o_i_compareCards_i slices_insertionSortCmpFunc_A4_'o_i_compareCards_o x = slices_insertionSortCmpFunc_A4_'o_i_compareCards n x.1 x.2.1 x.2.2 := by kernel_rfl
noncomputable def slices_insertionSortCmpFunc_A4_'o_i_compareCards_e (n : Nat) : Ent := ⟨171, slices_insertionSortCmpFunc_A4_'o_i_compareCards_i, slices_insertionSortCmpFunc_A4_'o_i_compareCards_o, fun x => slices_insertionSortCmpFunc_A4_'o_i_compareCards n x.1 x.2.1 x.2.2⟩
theorem slices_insertionSortCmpFunc_A4_'o_i_compareCards_ok (n : Nat) : EntOK Tryz.prog (slices_insertionSortCmpFunc_A4_'o_i_compareCards_e n) ∧ Own Tryz.prog 171 := ent_ok tabOK0 (.cons (i_compareCards_ok n) .nil) Tryz.func171 rfl (by kernel_rfl) (slices_insertionSortCmpFunc_A4_'o_i_compareCards_ev n)
def slices_siftDownCmpFunc_A4_'o_i_compareCards_i : CSh := ⟨[(.own 0), (.data true tI), (.data true tI), (.data true tI), (.clo 116 .tnil)], [.rows 30 true (.arr 4 tI)]⟩
def slices_siftDownCmpFunc_A4_'o_i_compareCards_o : RSh := ⟨.tnil, [.rows 30 true (.arr 4 tI)]⟩
theorem slices_siftDownCmpFunc_A4_'o_i_compareCards_ev (n : Nat) (x : TupT slices_siftDownCmpFunc_A4_'o_i_compareCards_i.tys) : evF ⟨tab, [i_compareCards_e n], n, [(3, ⟨[(0, (.own 0)), (2, (.data true tI)), (3, (.data true tI)), (4, (.clo 116 .tnil)), (10, (.data true tI))], [.rows 30 true (.arr 4 tI)], 1⟩), (13, ⟨[(0, (.own 0)), (2, (.data true tI)), (3, (.data true tI)), (4, (.clo 116 .tnil)), (10, (.data true tI)), (11, (.data true tI))], [.rows 30 true (.arr 4 tI)], 1⟩)]⟩ Tryz.f190 slices_siftDownCmpFunc_A4_'o_i_compareCards_i slices_siftDownCmpFunc_A4_'o_i_compareCards_o x = slices_siftDownCmpFunc_A4_'o_i_compareCards n x.1 x.2.1 x.2.2.1 x.2.2.2 := by kernel_rfl
noncomputable def slices_siftDownCmpFunc_A4_'o_i_compareCards_e (n : Nat) : Ent := ⟨190, slices_siftDownCmpFunc_A4_'o_i_compareCards_i, slices_siftDownCmpFunc_A4_'o_i_compareCards_o, fun x => slices_siftDownCmpFunc_A4_'o_i_compareCards n x.1 x.2.1 x.2.2.1 x.2.2.2⟩
theorem slices_siftDownCmpFunc_A4_'o_i_compareCards_ok (n : Nat) : EntOK Tryz.prog (slices_siftDownCmpFunc_A4_'o_i_compareCards_e n) ∧ Own Tryz.prog 190 := ent_ok tabOK0 (.cons (i_compareCards_ok n) .nil) Tryz.func190 rfl (by kernel_rfl) (slices_siftDownCmpFunc_A4_'o_i_compareCards_ev n)
def slices_heapSortCmpFunc_A4_'o_i_compareCards_i : CSh := ⟨[(.own 0), (.data true tI), (.data true tI), (.clo 116 .tnil)], [.rows 30 true (.arr 4 tI)]⟩
def slices_heapSortCmpFunc_A4_'o_i_compareCards_o : RSh := ⟨.tnil, [.rows 30 true (.arr 4 tI)]⟩
theorem slices_heapSortCmpFunc_A4_'o_i_compareCards_ev (n : Nat) (x : TupT slices_heapSortCmpFunc_A4_'o_i_compareCards_i.tys) : evF ⟨tab, [slices_siftDownCmpFunc_A4_'o_i_compareCards_e n], n, [(10, ⟨[(0, (.own 0)), (3, (.clo 116 .tnil)), (8, (.data true tI)), (9, (.data true tI)), (10, (.data true tI)), (11, (.data true tI))], [.rows 30 true (.arr 4 tI)], 1⟩), (24, ⟨[(0, (.own 0)), (3, (.clo 116 .tnil)), (8, (.data true tI)), (9, (.data true tI)), (12, (.data true tI))], [.rows 30 true (.arr 4 tI)], 1⟩)]⟩ Tryz.f172 slices_heapSortCmpFunc_A4_'o_i_compareCards_i slices_heapSortCmpFunc_A4_'o_i_compareCards_o x = slices_heapSortCmpFunc_A4_'o_i_compareCards n x.1 x.2.1 x.2.2 := by kernel_rfl
noncomputable def slices_heapSortCmpFunc_A4_'o_i_compareCards_e (n : Nat) : Ent := ⟨172, slices_heapSortCmpFunc_A4_'o_i_compareCards_i, slices_heapSortCmpFunc_A4_'o_i_compareCards_o, fun x => slices_heapSortCmpFunc_A4_'o_i_compareCards n x.1 x.2.1 x.2.2⟩
theorem slices_heapSortCmpFunc_A4_'o_i_compareCards_ok (n : Nat) : EntOK Tryz.prog (slices_heapSortCmpFunc_A4_'o_i_compareCards_e n) ∧ Own Tryz.prog 172 := ent_ok tabOK0 (.cons (slices_siftDownCmpFunc_A4_'o_i_compareCards_ok n) .nil) Tryz.func172 rfl (by kernel_rfl) (slices_heapSortCmpFunc_A4_'o_i_compareCards_ev n)
def slices_order2CmpFunc_A4_'lp_i_compareCards_i : CSh := ⟨[(.data false (.sl (.arr 4 tI))), (.data true tI), (.data true tI), (.ptr 0 []), (.clo 116 .tnil)], [.var 3 (.data true tI)]⟩
def slices_order2CmpFunc_A4_'lp_i_compareCards_o : RSh := ⟨(.tcons (.data true tI) (.tcons (.data true tI) .tnil)), [.var 3 (.data true tI)]⟩
theorem slices_order2CmpFunc_A4_'lp_i_compareCards_ev (n : Nat) (x : TupT slices_order2CmpFunc_A4_'lp_i_compareCards_i.tys) : evF ⟨tab, [i_compareCards_e n], n, []⟩ Tryz.f199 slices_order2CmpFunc_A4_'lp_i_compareCards_i slices_order2CmpFunc_A4_'lp_i_compareCards_o x = slices_order2CmpFunc_A4_'lp_i_compareCards n x.1 x.2.1 x.2.2.1 x.2.2.2 := by kernel_rfl
noncomputable def slices_order2CmpFunc_A4_'lp_i_compareCards_e (n : Nat) : Ent := ⟨199, slices_order2CmpFunc_A4_'lp_i_compareCards_i, slices_order2CmpFunc_A4_'lp_i_compareCards_o, fun x => slices_order2CmpFunc_A4_'lp_i_compareCards n x.1 x.2.1 x.2.2.1 x.2.2.2⟩
theorem slices_order2CmpFunc_A4_'lp_i_compareCards_ok (n : Nat) : EntOK Tryz.prog (slices_order2CmpFunc_A4_'lp_i_compareCards_e n) ∧ Own Tryz.prog 199 := ent_ok tabOK0 (.cons (i_compareCards_ok n) .nil) Tryz.func199 rfl (by kernel_rfl) (slices_order2CmpFunc_A4_'lp_i_compareCards_ev n)
def slices_medianCmpFunc_A4_'lp_i_compareCards_i : CSh := ⟨[(.data false (.sl (.arr 4 tI))), (.data true tI), (.data true tI), (.data true tI), (.ptr 0 []), (.clo 116 .tnil)], [.var 3 (.data true tI)]⟩
def slices_medianCmpFunc_A4_'lp_i_compareCards_o : RSh := ⟨(.data true tI), [.var 3 (.data true tI)]⟩
theorem slices_medianCmpFunc_A4_'lp_i_compareCards_ev (n : Nat) (x : TupT slices_medianCmpFunc_A4_'lp_i_compareCards_i.tys) : evF ⟨tab, [slices_order2CmpFunc_A4_'lp_i_compareCards_e n], n, []⟩ Tryz.f194 slices_medianCmpFunc_A4_'lp_i_compareCards_i slices_medianCmpFunc_A4_'lp_i_compareCards_o x = slices_medianCmpFunc_A4_'lp_i_compareCards n x.1 x.2.1 x.2.2.1 x.2.2.2.1 x.2.2.2.2 := by kernel_rfl
noncomputable def slices_medianCmpFunc_A4_'lp_i_compareCards_e (n : Nat) : Ent := ⟨194, slices_medianCmpFunc_A4_'lp_i_compareCards_i, slices_medianCmpFunc_A4_'lp_i_compareCards_o, fun x => slices_medianCmpFunc_A4_'lp_i_compareCards n x.1 x.2.1 x.2.2.1 x.2.2.2.1 x.2.2.2.2⟩
theorem slices_medianCmpFunc_A4_'lp_i_compareCards_ok (n : Nat) : EntOK Tryz.prog (slices_medianCmpFunc_A4_'lp_i_compareCards_e n) ∧ Own Tryz.prog 194 := ent_ok tabOK0 (.cons (slices_order2CmpFunc_A4_'lp_i_compareCards_ok n) .nil) Tryz.func194 rfl (by kernel_rfl) (slices_medianCmpFunc_A4_'lp_i_compareCards_ev n)
def slices_medianAdjacentCmpFunc_A4_'lp_i_compareCards_i : CSh := ⟨[(.data false (.sl (.arr 4 tI))), (.data true tI), (.ptr 0 []), (.clo 116 .tnil)], [.var 3 (.data true tI)]⟩
def slices_medianAdjacentCmpFunc_A4_'lp_i_compareCards_o : RSh := ⟨(.data true tI), [.var 3 (.data true tI)]⟩
theorem slices_medianAdjacentCmpFunc_A4_'lp_i_compareCards_ev (n : Nat) (x : TupT slices_medianAdjacentCmpFunc_A4_'lp_i_compareCards_i.tys) : evF ⟨tab, [slices_medianCmpFunc_A4_'lp_i_compareCards_e n], n, []⟩ Tryz.f193 slices_medianAdjacentCmpFunc_A4_'lp_i_compareCards_i slices_medianAdjacentCmpFunc_A4_'lp_i_compareCards_o x = slices_medianAdjacentCmpFunc_A4_'lp_i_compareCards n x.1 x.2.1 x.2.2 := by kernel_rfl
noncomputable def slices_medianAdjacentCmpFunc_A4_'lp_i_compareCards_e (n : Nat) : Ent := ⟨193, slices_medianAdjacentCmpFunc_A4_'lp_i_compareCards_i, slices_medianAdjacentCmpFunc_A4_'lp_i_compareCards_o, fun x => slices_medianAdjacentCmpFunc_A4_'lp_i_compareCards n x.1 x.2.1 x.2.2⟩
theorem slices_medianAdjacentCmpFunc_A4_'lp_i_compareCards_ok (n : Nat) : EntOK Tryz.prog (slices_medianAdjacentCmpFunc_A4_'lp_i_compareCards_e n) ∧ Own Tryz.prog 193 := ent_ok tabOK0 (.cons (slices_medianCmpFunc_A4_'lp_i_compareCards_ok n) .nil) Tryz.func193 rfl (by kernel_rfl) (slices_medianAdjacentCmpFunc_A4_'lp_i_compareCards_ev n)
def slices_choosePivotCmpFunc_A4_'l_i_compareCards_i : CSh := ⟨[(.data false (.sl (.arr 4 tI))), (.data true tI), (.data true tI), (.clo 116 .tnil)], []⟩
def slices_choosePivotCmpFunc_A4_'l_i_compareCards_o : RSh := ⟨(.tcons (.data true tI) (.tcons (.data true tI) .tnil)), []⟩
theorem slices_choosePivotCmpFunc_A4_'l_i_compareCards_ev (n : Nat) (x : TupT slices_choosePivotCmpFunc_A4_'l_i_compareCards_i.tys) : evF ⟨tab, [slices_medianCmpFunc_A4_'lp_i_compareCards_e n, slices_medianAdjacentCmpFunc_A4_'lp_i_compareCards_e n], n, [(12, ⟨[(11, (.ptr 0 [])), (13, (.data true tI))], [.var 3 (.data true tI)], 0⟩), (16, ⟨[(0, (.data false (.sl (.arr 4 tI)))), (3, (.clo 116 .tnil)), (11, (.ptr 0 [])), (12, (.data true tI)), (13, (.data true tI)), (14, (.data true tI))], [.var 3 (.data true tI)], 0⟩)]⟩ Tryz.f174 slices_choosePivotCmpFunc_A4_'l_i_compareCards_i slices_choosePivotCmpFunc_A4_'l_i_compareCards_o x = slices_choosePivotCmpFunc_A4_'l_i_compareCards n x.1 x.2.1 x.2.2 := by kernel_rfl
noncomputable def slices_choosePivotCmpFunc_A4_'l_i_compareCards_e (n : Nat) : Ent := ⟨174, slices_choosePivotCmpFunc_A4_'l_i_compareCards_i, slices_choosePivotCmpFunc_A4_'l_i_compareCards_o, fun x => slices_choosePivotCmpFunc_A4_'l_i_compareCards n x.1 x.2.1 x.2.2⟩
theorem slices_choosePivotCmpFunc_A4_'l_i_compareCards_ok (n : Nat) : EntOK Tryz.prog (slices_choosePivotCmpFunc_A4_'l_i_compareCards_e n) ∧ Own Tryz.prog 174 := ent_ok tabOK0 (.cons (slices_medianCmpFunc_A4_'lp_i_compareCards_ok n) (.cons (slices_medianAdjacentCmpFunc_A4_'lp_i_compareCards_ok n) .nil)) Tryz.func174 rfl (by kernel_rfl) (slices_choosePivotCmpFunc_A4_'l_i_compareCards_ev n)
def slices_partitionEqualCmpFunc_A4_'o_i_compareCards_i : CSh := ⟨[(.own 0), (.data true tI), (.data true tI), (.data true tI), (.clo 116 .tnil)], [.rows 30 true (.arr 4 tI)]⟩
def slices_partitionEqualCmpFunc_A4_'o_i_compareCards_o : RSh := ⟨(.data true tI), [.rows 30 true (.arr 4 tI)]⟩
theorem slices_partitionEqualCmpFunc_A4_'o_i_compareCards_ev (n : Nat) (x : TupT slices_partitionEqualCmpFunc_A4_'o_i_compareCards_i.tys) : evF ⟨tab, [i_compareCards_e n], n, [(8, ⟨[(0, (.own 0)), (1, (.data true tI)), (4, (.clo 116 .tnil)), (11, (.data true tI)), (12, (.data true tI))], [.rows 30 true (.arr 4 tI)], 1⟩), (12, ⟨[(0, (.own 0)), (1, (.data true tI)), (4, (.clo 116 .tnil)), (11, (.data true tI)), (12, (.data true tI))], [.rows 30 true (.arr 4 tI)], 1⟩), (23, ⟨[(0, (.own 0)), (1, (.data true tI)), (4, (.clo 116 .tnil)), (11, (.data true tI)), (12, (.data true tI))], [.rows 30 true (.arr 4 tI)], 1⟩)]⟩ Tryz.f177 slices_partitionEqualCmpFunc_A4_'o_i_compareCards_i slices_partitionEqualCmpFunc_A4_'o_i_compareCards_o x = slices_partitionEqualCmpFunc_A4_'o_i_compareCards n x.1 x.2.1 x.2.2.1 x.2.2.2 := by kernel_rfl
noncomputable def slices_partitionEqualCmpFunc_A4_'o_i_compareCards_e (n : Nat) : Ent := ⟨177, slices_partitionEqualCmpFunc_A4_'o_i_compareCards_i, slices_partitionEqualCmpFunc_A4_'o_i_compareCards_o, fun x => slices_partitionEqualCmpFunc_A4_'o_i_compareCards n x.1 x.2.1 x.2.2.1 x.2.2.2⟩
theorem slices_partitionEqualCmpFunc_A4_'o_i_compareCards_ok (n : Nat) : EntOK Tryz.prog (slices_partitionEqualCmpFunc_A4_'o_i_compareCards_e n) ∧ Own Tryz.prog 177 := ent_ok tabOK0 (.cons (i_compareCards_ok n) .nil) Tryz.func177 rfl (by kernel_rfl) (slices_partitionEqualCmpFunc_A4_'o_i_compareCards_ev n)
def slices_partitionCmpFunc_A4_'o_i_compareCards_i : CSh := ⟨[(.own 0), (.data true tI), (.data true tI), (.data true tI), (.clo 116 .tnil)], [.rows 30 true (.arr 4 tI)]⟩
def slices_partitionCmpFunc_A4_'o_i_compareCards_o : RSh := ⟨(.tcons (.data true tI) (.tcons (.data true .bool) .tnil)), [.rows 30 true (.arr 4 tI)]⟩
theorem slices_partitionCmpFunc_A4_'o_i_compareCards_ev (n : Nat) (x : TupT slices_partitionCmpFunc_A4_'o_i_compareCards_i.tys) : evF ⟨tab, [i_compareCards_e n], n, [(8, ⟨[(0, (.own 0)), (1, (.data true tI)), (4, (.clo 116 .tnil)), (12, (.data true tI)), (13, (.data true tI))], [.rows 30 true (.arr 4 tI)], 1⟩), (19, ⟨[(0, (.own 0)), (1, (.data true tI)), (4, (.clo 116 .tnil)), (12, (.data true tI)), (13, (.data true tI))], [.rows 30 true (.arr 4 tI)], 1⟩), (46, ⟨[(0, (.own 0)), (1, (.data true tI)), (4, (.clo 116 .tnil)), (12, (.data true tI)), (13, (.data true tI))], [.rows 30 true (.arr 4 tI)], 1⟩), (50, ⟨[(0, (.own 0)), (1, (.data true tI)), (4, (.clo 116 .tnil)), (12, (.data true tI)), (13, (.data true tI))], [.rows 30 true (.arr 4 tI)], 1⟩), (61, ⟨[(0, (.own 0)), (1, (.data true tI)), (4, (.clo 116 .tnil)), (12, (.data true tI)), (13, (.data true tI))], [.rows 30 true (.arr 4 tI)], 1⟩)]⟩ Tryz.f178 slices_partitionCmpFunc_A4_'o_i_compareCards_i slices_partitionCmpFunc_A4_'o_i_compareCards_o x = slices_partitionCmpFunc_A4_'o_i_compareCards n x.1 x.2.1 x.2.2.1 x.2.2.2 := by kernel_rfl
noncomputable def slices_partitionCmpFunc_A4_'o_i_compareCards_e (n : Nat) : Ent := ⟨178, slices_partitionCmpFunc_A4_'o_i_compareCards_i, slices_partitionCmpFunc_A4_'o_i_compareCards_o, fun x => slices_partitionCmpFunc_A4_'o_i_compareCards n x.1 x.2.1 x.2.2.1 x.2.2.2⟩
theorem slices_partitionCmpFunc_A4_'o_i_compareCards_ok (n : Nat) : EntOK Tryz.prog (slices_partitionCmpFunc_A4_'o_i_compareCards_e n) ∧ Own Tryz.prog 178 := ent_ok tabOK0 (.cons (i_compareCards_ok n) .nil) Tryz.func178 rfl (by kernel_rfl) (slices_partitionCmpFunc_A4_'o_i_compareCards_ev n)
def slices_partialInsertionSortCmpFunc_A4_'o_i_compareCards_i : CSh := ⟨[(.own 0), (.data true tI), (.data true tI), (.clo 116 .tnil)], [.rows 30 true (.arr 4 tI)]⟩
def slices_partialInsertionSortCmpFunc_A4_'o_i_compareCards_o : RSh := ⟨(.data true .bool), [.rows 30 true (.arr 4 tI)]⟩
theorem slices_partialInsertionSortCmpFunc_A4_'o_i_compareCards_ev (n : Nat) (x : TupT slices_partialInsertionSortCmpFunc_A4_'o_i_compareCards_i.tys) : evF ⟨tab, [i_compareCards_e n], n, [(8, ⟨[(0, (.own 0)), (1, (.data true tI)), (2, (.data true tI)), (3, (.clo 116 .tnil)), (9, (.data true tI)), (10, (.data true tI))], [.rows 30 true (.arr 4 tI)], 1⟩), (19, ⟨[(0, (.own 0)), (1, (.data true tI)), (2, (.data true tI)), (3, (.clo 116 .tnil)), (9, (.data true tI)), (10, (.data true tI))], [.rows 30 true (.arr 4 tI)], 1⟩), (46, ⟨[(0, (.own 0)), (1, (.data true tI)), (2, (.data true tI)), (3, (.clo 116 .tnil)), (9, (.data true tI)), (10, (.data true tI))], [.rows 30 true (.arr 4 tI)], 1⟩), (53, ⟨[(0, (.own 0)), (1, (.data true tI)), (2, (.data true tI)), (3, (.clo 116 .tnil)), (9, (.data true tI)), (10, (.data true tI)), (11, (.data true tI))], [.rows 30 true (.arr 4 tI)], 1⟩), (77, ⟨[(0, (.own 0)), (1, (.data true tI)), (2, (.data true tI)), (3, (.clo 116 .tnil)), (9, (.data true tI)), (10, (.data true tI)), (12, (.data true tI))], [.rows 30 true (.arr 4 tI)], 1⟩)]⟩ Tryz.f176 slices_partialInsertionSortCmpFunc_A4_'o_i_compareCards_i slices_partialInsertionSortCmpFunc_A4_'o_i_compareCards_o x = slices_partialInsertionSortCmpFunc_A4_'o_i_compareCards n x.1 x.2.1 x.2.2 := by kernel_rfl
noncomputable def slices_partialInsertionSortCmpFunc_A4_'o_i_compareCards_e (n : Nat) : Ent := ⟨176, slices_partialInsertionSortCmpFunc_A4_'o_i_compareCards_i, slices_partialInsertionSortCmpFunc_A4_'o_i_compareCards_o, fun x => slices_partialInsertionSortCmpFunc_A4_'o_i_compareCards n x.1 x.2.1 x.2.2⟩
theorem slices_partialInsertionSortCmpFunc_A4_'o_i_compareCards_ok (n : Nat) : EntOK Tryz.prog (slices_partialInsertionSortCmpFunc_A4_'o_i_compareCards_e n) ∧ Own Tryz.prog 176 := ent_ok tabOK0 (.cons (i_compareCards_ok n) .nil) Tryz.func176 rfl (by kernel_rfl) (slices_partialInsertionSortCmpFunc_A4_'o_i_compareCards_ev n)
def slices_reverseRangeCmpFunc_A4_'o_i_compareCards_i : CSh := ⟨[(.own 0), (.data true tI), (.data true tI), (.clo 116 .tnil)], [.rows 30 true (.arr 4 tI)]⟩
def slices_reverseRangeCmpFunc_A4_'o_i_compareCards_o : RSh := ⟨.tnil, [.rows 30 true (.arr 4 tI)]⟩
theorem slices_reverseRangeCmpFunc_A4_'o_i_compareCards_ev (n : Nat) (x : TupT slices_reverseRangeCmpFunc_A4_'o_i_compareCards_i.tys) : evF ⟨tab, [], n, [(5, ⟨[(0, (.own 0)), (8, (.data true tI)), (9, (.data true tI))], [.rows 30 true (.arr 4 tI)], 1⟩)]⟩ Tryz.f175 slices_reverseRangeCmpFunc_A4_'o_i_compareCards_i slices_reverseRangeCmpFunc_A4_'o_i_compareCards_o x = slices_reverseRangeCmpFunc_A4_'o_i_compareCards n x.1 x.2.1 x.2.2 := by kernel_rfl
noncomputable def slices_reverseRangeCmpFunc_A4_'o_i_compareCards_e (n : Nat) : Ent := ⟨175, slices_reverseRangeCmpFunc_A4_'o_i_compareCards_i, slices_reverseRangeCmpFunc_A4_'o_i_compareCards_o, fun x => slices_reverseRangeCmpFunc_A4_'o_i_compareCards n x.1 x.2.1 x.2.2⟩
theorem slices_reverseRangeCmpFunc_A4_'o_i_compareCards_ok (n : Nat) : EntOK Tryz.prog (slices_reverseRangeCmpFunc_A4_'o_i_compareCards_e n) ∧ Own Tryz.prog 175 := ent_ok tabOK0 .nil Tryz.func175 rfl (by kernel_rfl) (slices_reverseRangeCmpFunc_A4_'o_i_compareCards_ev n)
def slices_nextPowerOfTwo_i : CSh := ⟨[(.data true tI)], []⟩
def slices_nextPowerOfTwo_o : RSh := ⟨(.data true (.int .u64)), []⟩
theorem slices_nextPowerOfTwo_ev (n : Nat) (x : TupT slices_nextPowerOfTwo_i.tys) : evF ⟨tab, [math_bits_Len_e n], n, []⟩ Tryz.f191 slices_nextPowerOfTwo_i slices_nextPowerOfTwo_o x = slices_nextPowerOfTwo n x := by kernel_rfl
noncomputable def slices_nextPowerOfTwo_e (n : Nat) : Ent := ⟨191, slices_nextPowerOfTwo_i, slices_nextPowerOfTwo_o, fun x => slices_nextPowerOfTwo n x⟩
theorem slices_nextPowerOfTwo_ok (n : Nat) : EntOK Tryz.prog (slices_nextPowerOfTwo_e n) ∧ Own Tryz.prog 191 := ent_ok tabOK0 (.cons (math_bits_Len_ok n) .nil) Tryz.func191 rfl (by kernel_rfl) (slices_nextPowerOfTwo_ev n)
def __slices_xorshift__Next'p_i : CSh := ⟨[(.ptr 0 [])], [.var 170 (.data true (.int .u64))]⟩
def __slices_xorshift__Next'p_o : RSh := ⟨(.data true (.int .u64)), [.var 170 (.data true (.int .u64))]⟩
theorem __slices_xorshift__Next'p_ev (n : Nat) (x : TupT __slices_xorshift__Next'p_i.tys) : evF ⟨tab, [], n, []⟩ Tryz.f192 __slices_xorshift__Next'p_i __slices_xorshift__Next'p_o x = __slices_xorshift__Next'p n x := by kernel_rfl
noncomputable def __slices_xorshift__Next'p_e (n : Nat) : Ent := ⟨192, __slices_xorshift__Next'p_i, __slices_xorshift__Next'p_o, fun x => __slices_xorshift__Next'p n x⟩
theorem __slices_xorshift__Next'p_ok (n : Nat) : EntOK Tryz.prog (__slices_xorshift__Next'p_e n) ∧ Own Tryz.prog 192 := ent_ok tabOK0 .nil Tryz.func192 rfl (by kernel_rfl) (__slices_xorshift__Next'p_ev n)
def slices_breakPatternsCmpFunc_A4_'o_i_compareCards_i : CSh := ⟨[(.own 0), (.data true tI), (.data true tI), (.clo 116 .tnil)], [.rows 30 true (.arr 4 tI)]⟩
def slices_breakPatternsCmpFunc_A4_'o_i_compareCards_o : RSh := ⟨.tnil, [.rows 30 true (.arr 4 tI)]⟩
theorem slices_breakPatternsCmpFunc_A4_'o_i_compareCards_ev (n : Nat) (x : TupT slices_breakPatternsCmpFunc_A4_'o_i_compareCards_i.tys) : evF ⟨tab, [slices_nextPowerOfTwo_e n, __slices_xorshift__Next'p_e n], n, [(12, ⟨[(0, (.own 0)), (1, (.data true tI)), (8, (.data true tI)), (9, (.ptr 1 [])), (10, (.data true (.int .u64))), (11, (.data true tI))], [.rows 30 true (.arr 4 tI), .var 170 (.data true (.int .u64))], 1⟩), (23, ⟨[(0, (.own 0)), (1, (.data true tI)), (8, (.data true tI)), (9, (.ptr 1 [])), (10, (.data true (.int .u64))), (11, (.data true tI)), (12, (.data true tI))], [.rows 30 true (.arr 4 tI), .var 170 (.data true (.int .u64))], 1⟩)]⟩ Tryz.f173 slices_breakPatternsCmpFunc_A4_'o_i_compareCards_i slices_breakPatternsCmpFunc_A4_'o_i_compareCards_o x = slices_breakPatternsCmpFunc_A4_'o_i_compareCards n x.1 x.2.1 x.2.2 := by kernel_rfl
noncomputable def slices_breakPatternsCmpFunc_A4_'o_i_compareCards_e (n : Nat) : Ent := ⟨173, slices_breakPatternsCmpFunc_A4_'o_i_compareCards_i, slices_breakPatternsCmpFunc_A4_'o_i_compareCards_o, fun x => slices_breakPatternsCmpFunc_A4_'o_i_compareCards n x.1 x.2.1 x.2.2⟩
theorem slices_breakPatternsCmpFunc_A4_'o_i_compareCards_ok (n : Nat) : EntOK Tryz.prog (slices_breakPatternsCmpFunc_A4_'o_i_compareCards_e n) ∧ Own Tryz.prog 173 := ent_ok tabOK0 (.cons (slices_nextPowerOfTwo_ok n) (.cons (__slices_xorshift__Next'p_ok n) .nil)) Tryz.func173 rfl (by kernel_rfl) (slices_breakPatternsCmpFunc_A4_'o_i_compareCards_ev n)
def slices_pdqsortCmpFunc_A4_'o_i_compareCards_i : CSh := ⟨[(.own 0), (.data true tI), (.data true tI), (.data true tI), (.clo 116 .tnil)], [.rows 30 true (.arr 4 tI)]⟩
def slices_pdqsortCmpFunc_A4_'o_i_compareCards_o : RSh := ⟨.tnil, [.rows 30 true (.arr 4 tI)]⟩
theorem slices_pdqsortCmpFunc_A4_'o_i_compareCards_ev (n : Nat) (go : TupT slices_pdqsortCmpFunc_A4_'o_i_compareCards_i.tys → Option (TupT slices_pdqsortCmpFunc_A4_'o_i_compareCards_o.tys)) (x : TupT slices_pdqsortCmpFunc_A4_'o_i_compareCards_i.tys) : evF ⟨tab, [⟨148, slices_pdqsortCmpFunc_A4_'o_i_compareCards_i, slices_pdqsortCmpFunc_A4_'o_i_compareCards_o, go⟩, slices_insertionSortCmpFunc_A4_'o_i_compareCards_e n, slices_heapSortCmpFunc_A4_'o_i_compareCards_e n, slices_choosePivotCmpFunc_A4_'l_i_compareCards_e n, i_compareCards_e n, slices_partitionEqualCmpFunc_A4_'o_i_compareCards_e n, slices_partitionCmpFunc_A4_'o_i_compareCards_e n, slices_partialInsertionSortCmpFunc_A4_'o_i_compareCards_e n, slices_reverseRangeCmpFunc_A4_'o_i_compareCards_e n, slices_breakPatternsCmpFunc_A4_'o_i_compareCards_e n], n, [(5, ⟨[(0, (.own 0)), (1, (.data true tI)), (2, (.data true tI)), (3, (.data true tI)), (4, (.clo 116 .tnil)), (10, (.data true .bool)), (11, (.data true .bool))], [.rows 30 true (.arr 4 tI)], 1⟩), (25, ⟨[(0, (.own 0)), (1, (.data true tI)), (2, (.data true tI)), (3, (.data true tI)), (4, (.clo 116 .tnil)), (10, (.data true .bool)), (11, (.data true .bool)), (12, (.data true tI))], [.rows 30 true (.arr 4 tI)], 1⟩), (35, ⟨[(0, (.own 0)), (1, (.data true tI)), (2, (.data true tI)), (3, (.data true tI)), (4, (.clo 116 .tnil)), (10, (.data true .bool)), (11, (.data true .bool)), (12, (.data true tI)), (13, (.data true tI)), (14, (.data true tI))], [.rows 30 true (.arr 4 tI)], 1⟩), (45, ⟨[(0, (.own 0)), (1, (.data true tI)), (2, (.data true tI)), (3, (.data true tI)), (4, (.clo 116 .tnil)), (10, (.data true .bool)), (11, (.data true .bool)), (12, (.data true tI)), (13, (.data true tI))], [.rows 30 true (.arr 4 tI)], 1⟩)]⟩ Tryz.f148 slices_pdqsortCmpFunc_A4_'o_i_compareCards_i slices_pdqsortCmpFunc_A4_'o_i_compareCards_o x = slices_pdqsortCmpFunc_A4_'o_i_compareCards_R n go x := by kernel_rfl
noncomputable def slices_pdqsortCmpFunc_A4_'o_i_compareCards_e (n : Nat) : Ent := ⟨148, slices_pdqsortCmpFunc_A4_'o_i_compareCards_i, slices_pdqsortCmpFunc_A4_'o_i_compareCards_o, fun x => slices_pdqsortCmpFunc_A4_'o_i_compareCards n x.1 x.2.1 x.2.2.1 x.2.2.2⟩
theorem slices_pdqsortCmpFunc_A4_'o_i_compareCards_ok (n : Nat) : EntOK Tryz.prog (slices_pdqsortCmpFunc_A4_'o_i_compareCards_e n) ∧ Own Tryz.prog 148 := ent_rec tabOK0 (.cons (slices_insertionSortCmpFunc_A4_'o_i_compareCards_ok n) (.cons (slices_heapSortCmpFunc_A4_'o_i_compareCards_ok n) (.cons (slices_choosePivotCmpFunc_A4_'l_i_compareCards_ok n) (.cons (i_compareCards_ok n) (.cons (slices_partitionEqualCmpFunc_A4_'o_i_compareCards_ok n) (.cons (slices_partitionCmpFunc_A4_'o_i_compareCards_ok n) (.cons (slices_partialInsertionSortCmpFunc_A4_'o_i_compareCards_ok n) (.cons (slices_reverseRangeCmpFunc_A4_'o_i_compareCards_ok n) (.cons (slices_breakPatternsCmpFunc_A4_'o_i_compareCards_ok n) .nil))))))))) Tryz.func148 rfl (by kernel_rfl) (slices_pdqsortCmpFunc_A4_'o_i_compareCards_ev n) n
def slices_SortFunc_SA4_A4_'o_i_compareCards_i : CSh := ⟨[(.own 0), (.clo 116 .tnil)], [.rows 30 true (.arr 4 tI)]⟩
def slices_SortFunc_SA4_A4_'o_i_compareCards_o : RSh := ⟨.tnil, [.rows 30 true (.arr 4 tI)]⟩
theorem slices_SortFunc_SA4_A4_'o_i_compareCards_ev (n : Nat) (x : TupT slices_SortFunc_SA4_A4_'o_i_compareCards_i.tys) : evF ⟨tab, [math_bits_Len_e n, slices_pdqsortCmpFunc_A4_'o_i_compareCards_e n], n, []⟩ Tryz.f115 slices_SortFunc_SA4_A4_'o_i_compareCards_i slices_SortFunc_SA4_A4_'o_i_compareCards_o x = slices_SortFunc_SA4_A4_'o_i_compareCards n x := by kernel_rfl
noncomputable def slices_SortFunc_SA4_A4_'o_i_compareCards_e (n : Nat) : Ent := ⟨115, slices_SortFunc_SA4_A4_'o_i_compareCards_i, slices_SortFunc_SA4_A4_'o_i_compareCards_o, fun x => slices_SortFunc_SA4_A4_'o_i_compareCards n x⟩
theorem slices_SortFunc_SA4_A4_'o_i_compareCards_ok (n : Nat) : EntOK Tryz.prog (slices_SortFunc_SA4_A4_'o_i_compareCards_e n) ∧ Own Tryz.prog 115 := ent_ok tabOK0 (.cons (math_bits_Len_ok n) (.cons (slices_pdqsortCmpFunc_A4_'o_i_compareCards_ok n) .nil)) Tryz.func115 rfl (by kernel_rfl) (slices_SortFunc_SA4_A4_'o_i_compareCards_ev n)
def slices_Compact_SA4_A4_'o_i : CSh := ⟨[(.own 0)], [.rows 30 true (.arr 4 tI)]⟩
def slices_Compact_SA4_A4_'o_o : RSh := ⟨(.own 1), [.gone, .rows 30 true (.arr 4 tI)]⟩
theorem slices_Compact_SA4_A4_'o_ev (n : Nat) (x : TupT slices_Compact_SA4_A4_'o_i.tys) : evF ⟨tab, [], n, [(14, ⟨[(0, (.own 0)), (3, (.data true tI))], [.rows 30 true (.arr 4 tI)], 1⟩), (32, ⟨[(0, (.own 0)), (3, (.data true tI)), (4, (.ownp 0)), (5, (.data true tI))], [.rows 30 true (.arr 4 tI)], 1⟩)]⟩ Tryz.f117 slices_Compact_SA4_A4_'o_i slices_Compact_SA4_A4_'o_o x = slices_Compact_SA4_A4_'o n x := by kernel_rfl
noncomputable def slices_Compact_SA4_A4_'o_e (n : Nat) : Ent := ⟨117, slices_Compact_SA4_A4_'o_i, slices_Compact_SA4_A4_'o_o, fun x => slices_Compact_SA4_A4_'o n x⟩
theorem slices_Compact_SA4_A4_'o_ok (n : Nat) : EntOK Tryz.prog (slices_Compact_SA4_A4_'o_e n) ∧ Own Tryz.prog 117 := ent_ok tabOK0 .nil Tryz.func117 rfl (by kernel_rfl) (slices_Compact_SA4_A4_'o_ev n)
def i_sorted_i : CSh := ⟨[(.data false (.sl (.arr 4 tI)))], []⟩
def i_sorted_o : RSh := ⟨(.own 0), [.rows 30 true (.arr 4 tI)]⟩
theorem i_sorted_ev (n : Nat) (x : TupT i_sorted_i.tys) : evF ⟨tab, [slices_Clone_SA4_A4__e n, slices_SortFunc_SA4_A4_'o_i_compareCards_e n, slices_Compact_SA4_A4_'o_e n], n, []⟩ Tryz.f62 i_sorted_i i_sorted_o x = i_sorted n x := by kernel_rfl
noncomputable def i_sorted_e (n : Nat) : Ent := ⟨62, i_sorted_i, i_sorted_o, fun x => i_sorted n x⟩
theorem i_sorted_ok (n : Nat) : EntOK Tryz.prog (i_sorted_e n) ∧ Own Tryz.prog 62 := ent_ok tabOK0 (.cons (slices_Clone_SA4_A4__ok n) (.cons (slices_SortFunc_SA4_A4_'o_i_compareCards_ok n) (.cons (slices_Compact_SA4_A4_'o_ok n) .nil))) Tryz.func62 rfl (by kernel_rfl) (i_sorted_ev n)
def i_PutCard_i : CSh := ⟨[(.data false (.sl (.arr 4 tI))), (.data true (.arr 4 tI))], []⟩
def i_PutCard_o : RSh := ⟨(.tcons (.own 0) (.tcons (.data true .bool) .tnil)), [.rows 30 true (.arr 4 tI)]⟩
theorem i_PutCard_ev (n : Nat) (x : TupT i_PutCard_i.tys) : evF ⟨tab, [i_IsHand_e n, i_IsCard_e n, i_has_e n, slices_Clone_SA4_A4__e n, i_sorted_e n], n, []⟩ Tryz.f161 i_PutCard_i i_PutCard_o x = i_PutCard n x.1 x.2 := by kernel_rfl
noncomputable def i_PutCard_e (n : Nat) : Ent := ⟨161, i_PutCard_i, i_PutCard_o, fun x => i_PutCard n x.1 x.2⟩
theorem i_PutCard_ok (n : Nat) : EntOK Tryz.prog (i_PutCard_e n) ∧ Own Tryz.prog 161 := ent_ok tabOK0 (.cons (i_IsHand_ok n) (.cons (i_IsCard_ok n) (.cons (i_has_ok n) (.cons (slices_Clone_SA4_A4__ok n) (.cons (i_sorted_ok n) .nil))))) Tryz.func161 rfl (by kernel_rfl) (i_PutCard_ev n)
def i_without_1'p_i : CSh := ⟨[(.data true (.arr 4 tI)), (.ptr 0 [])], [.var 30 (.data true (.arr 4 tI))]⟩
def i_without_1'p_o : RSh := ⟨(.data true .bool), [.var 30 (.data true (.arr 4 tI))]⟩
theorem i_without_1'p_ev (n : Nat) (x : TupT i_without_1'p_i.tys) : evF ⟨tab, [], n, []⟩ Tryz.f186 i_without_1'p_i i_without_1'p_o x = i_without_1'p n x.1 x.2 := by kernel_rfl
noncomputable def i_without_1'p_e (n : Nat) : Ent := ⟨186, i_without_1'p_i, i_without_1'p_o, fun x => i_without_1'p n x.1 x.2⟩
theorem i_without_1'p_ok (n : Nat) : EntOK Tryz.prog (i_without_1'p_e n) ∧ Own Tryz.prog 186 := ent_ok tabOK0 .nil Tryz.func186 rfl (by kernel_rfl) (i_without_1'p_ev n)
def slices_IndexFunc_SA4_A4_'l_i_without_1p_i : CSh := ⟨[(.data false (.sl (.arr 4 tI))), (.clo 186 (.tcons (.ptr 0 []) .tnil))], [.var 30 (.data true (.arr 4 tI))]⟩
def slices_IndexFunc_SA4_A4_'l_i_without_1p_o : RSh := ⟨(.data true tI), [.var 30 (.data true (.arr 4 tI))]⟩
theorem slices_IndexFunc_SA4_A4_'l_i_without_1p_ev (n : Nat) (x : TupT slices_IndexFunc_SA4_A4_'l_i_without_1p_i.tys) : evF ⟨tab, [i_without_1'p_e n], n, [(6, ⟨[(0, (.data false (.sl (.arr 4 tI)))), (1, (.clo 186 (.tcons (.ptr 0 []) .tnil))), (7, (.data true tI)), (8, (.data true tI))], [.var 30 (.data true (.arr 4 tI))], 1⟩)]⟩ Tryz.f154 slices_IndexFunc_SA4_A4_'l_i_without_1p_i slices_IndexFunc_SA4_A4_'l_i_without_1p_o x = slices_IndexFunc_SA4_A4_'l_i_without_1p n x.1 x.2 := by kernel_rfl
noncomputable def slices_IndexFunc_SA4_A4_'l_i_without_1p_e (n : Nat) : Ent := ⟨154, slices_IndexFunc_SA4_A4_'l_i_without_1p_i, slices_IndexFunc_SA4_A4_'l_i_without_1p_o, fun x => slices_IndexFunc_SA4_A4_'l_i_without_1p n x.1 x.2⟩
theorem slices_IndexFunc_SA4_A4_'l_i_without_1p_ok (n : Nat) : EntOK Tryz.prog (slices_IndexFunc_SA4_A4_'l_i_without_1p_e n) ∧ Own Tryz.prog 154 := ent_ok tabOK0 (.cons (i_without_1'p_ok n) .nil) Tryz.func154 rfl (by kernel_rfl) (slices_IndexFunc_SA4_A4_'l_i_without_1p_ev n)
def slices_DeleteFunc_SA4_A4_'o_i_without_1p_i : CSh := ⟨[(.own 0), (.clo 186 (.tcons (.ptr 1 []) .tnil))], [.rows 30 true (.arr 4 tI), .var 30 (.data true (.arr 4 tI))]⟩
def slices_DeleteFunc_SA4_A4_'o_i_without_1p_o : RSh := ⟨(.own 2), [.gone, .var 30 (.data true (.arr 4 tI)), .rows 30 true (.arr 4 tI)]⟩
theorem slices_DeleteFunc_SA4_A4_'o_i_without_1p_ev (n : Nat) (x : TupT slices_DeleteFunc_SA4_A4_'o_i_without_1p_i.tys) : evF ⟨tab, [slices_IndexFunc_SA4_A4_'l_i_without_1p_e n, i_without_1'p_e n], n, [(16, ⟨[(0, (.own 0)), (1, (.clo 186 (.tcons (.ptr 1 []) .tnil))), (5, (.data true tI)), (6, (.data true tI))], [.rows 30 true (.arr 4 tI), .var 30 (.data true (.arr 4 tI))], 2⟩)]⟩ Tryz.f185 slices_DeleteFunc_SA4_A4_'o_i_without_1p_i slices_DeleteFunc_SA4_A4_'o_i_without_1p_o x = slices_DeleteFunc_SA4_A4_'o_i_without_1p n x.1 x.2 := by kernel_rfl
noncomputable def slices_DeleteFunc_SA4_A4_'o_i_without_1p_e (n : Nat) : Ent := ⟨185, slices_DeleteFunc_SA4_A4_'o_i_without_1p_i, slices_DeleteFunc_SA4_A4_'o_i_without_1p_o, fun x => slices_DeleteFunc_SA4_A4_'o_i_without_1p n x.1 x.2⟩
theorem slices_DeleteFunc_SA4_A4_'o_i_without_1p_ok (n : Nat) : EntOK Tryz.prog (slices_DeleteFunc_SA4_A4_'o_i_without_1p_e n) ∧ Own Tryz.prog 185 := ent_ok tabOK0 (.cons (slices_IndexFunc_SA4_A4_'l_i_without_1p_ok n) (.cons (i_without_1'p_ok n) .nil)) Tryz.func185 rfl (by kernel_rfl) (slices_DeleteFunc_SA4_A4_'o_i_without_1p_ev n)
def i_without_i : CSh := ⟨[(.data false (.sl (.arr 4 tI))), (.data true (.arr 4 tI))], []⟩
def i_without_o : RSh := ⟨(.own 0), [.rows 30 true (.arr 4 tI)]⟩
theorem i_without_ev (n : Nat) (x : TupT i_without_i.tys) : evF ⟨tab, [slices_Clone_SA4_A4__e n, slices_DeleteFunc_SA4_A4_'o_i_without_1p_e n], n, []⟩ Tryz.f162 i_without_i i_without_o x = i_without n x.1 x.2 := by kernel_rfl
noncomputable def i_without_e (n : Nat) : Ent := ⟨162, i_without_i, i_without_o, fun x => i_without n x.1 x.2⟩
theorem i_without_ok (n : Nat) : EntOK Tryz.prog (i_without_e n) ∧ Own Tryz.prog 162 := ent_ok tabOK0 (.cons (slices_Clone_SA4_A4__ok n) (.cons (slices_DeleteFunc_SA4_A4_'o_i_without_1p_ok n) .nil)) Tryz.func162 rfl (by kernel_rfl) (i_without_ev n)
def i_third_i : CSh := ⟨[(.data true (.arr 4 tI)), (.data true (.arr 4 tI))], []⟩
def i_third_o : RSh := ⟨(.data true (.arr 4 tI)), []⟩
theorem i_third_ev (n : Nat) (x : TupT i_third_i.tys) : evF ⟨tab, [], n, [(8, ⟨[(2, (.ptr 0 [])), (3, (.ptr 1 [])), (4, (.ptr 2 [])), (5, (.ptr 3 [])), (8, (.data true tI))], [.var 30 (.data true (.arr 4 tI)), .var 30 (.data true (.arr 4 tI)), .var 30 (.data true (.arr 4 tI)), .var 30 (.data true (.arr 4 tI))], 0⟩)]⟩ Tryz.f122 i_third_i i_third_o x = i_third n x.1 x.2 := by kernel_rfl
noncomputable def i_third_e (n : Nat) : Ent := ⟨122, i_third_i, i_third_o, fun x => i_third n x.1 x.2⟩
theorem i_third_ok (n : Nat) : EntOK Tryz.prog (i_third_e n) ∧ Own Tryz.prog 122 := ent_ok tabOK0 .nil Tryz.func122 rfl (by kernel_rfl) (i_third_ev n)
def i_linesIn_i : CSh := ⟨[(.data false (.sl (.arr 4 tI)))], []⟩
def i_linesIn_o : RSh := ⟨(.own 0), [.rows 52 true (.arr 3 tI)]⟩
theorem i_linesIn_ev (n : Nat) (x : TupT i_linesIn_i.tys) : evF ⟨tab, [i_number_e n, i_third_e n], n, [(8, ⟨[(0, (.data false (.sl (.arr 4 tI)))), (3, (.ptr 0 [])), (12, (.data false (.sl (.arr 4 tI)))), (13, (.data true tI)), (14, (.data true tI))], [.var 130 (.data true (.arr 81 tI))], 0⟩), (27, ⟨[(0, (.data false (.sl (.arr 4 tI)))), (3, (.ptr 0 [])), (6, (.own 1)), (26, (.data false (.sl (.arr 4 tI)))), (27, (.data true tI)), (28, (.data true tI))], [.var 130 (.data true (.arr 81 tI)), .rows 52 true (.arr 3 tI)], 0⟩), (41, ⟨[(0, (.data false (.sl (.arr 4 tI)))), (3, (.ptr 0 [])), (6, (.own 1)), (7, (.data true tI)), (8, (.ptr 2 [])), (9, (.data true tI)), (26, (.data false (.sl (.arr 4 tI)))), (27, (.data true tI)), (28, (.data true tI))], [.var 130 (.data true (.arr 81 tI)), .rows 52 true (.arr 3 tI), .var 30 (.data true (.arr 4 tI))], 0⟩)]⟩ Tryz.f90 i_linesIn_i i_linesIn_o x = i_linesIn n x := by kernel_rfl
noncomputable def i_linesIn_e (n : Nat) : Ent := ⟨90, i_linesIn_i, i_linesIn_o, fun x => i_linesIn n x⟩
theorem i_linesIn_ok (n : Nat) : EntOK Tryz.prog (i_linesIn_e n) ∧ Own Tryz.prog 90 := ent_ok tabOK0 (.cons (i_number_ok n) (.cons (i_third_ok n) .nil)) Tryz.func90 rfl (by kernel_rfl) (i_linesIn_ev n)
def slices_Index_SA3_A3__i : CSh := ⟨[(.data false (.sl (.arr 3 tI))), (.data true (.arr 3 tI))], []⟩
def slices_Index_SA3_A3__o : RSh := ⟨(.data true tI), []⟩
theorem slices_Index_SA3_A3__ev (n : Nat) (x : TupT slices_Index_SA3_A3__i.tys) : evF ⟨tab, [], n, [(6, ⟨[(0, (.data false (.sl (.arr 3 tI)))), (3, (.ptr 0 [])), (7, (.data true tI)), (8, (.data true tI))], [.var 52 (.data true (.arr 3 tI))], 0⟩)]⟩ Tryz.f198 slices_Index_SA3_A3__i slices_Index_SA3_A3__o x = slices_Index_SA3_A3_ n x.1 x.2 := by kernel_rfl
noncomputable def slices_Index_SA3_A3__e (n : Nat) : Ent := ⟨198, slices_Index_SA3_A3__i, slices_Index_SA3_A3__o, fun x => slices_Index_SA3_A3_ n x.1 x.2⟩
theorem slices_Index_SA3_A3__ok (n : Nat) : EntOK Tryz.prog (slices_Index_SA3_A3__e n) ∧ Own Tryz.prog 198 := ent_ok tabOK0 .nil Tryz.func198 rfl (by kernel_rfl) (slices_Index_SA3_A3__ev n)
def slices_Contains_SA3_A3__i : CSh := ⟨[(.data false (.sl (.arr 3 tI))), (.data true (.arr 3 tI))], []⟩
def slices_Contains_SA3_A3__o : RSh := ⟨(.data true .bool), []⟩
theorem slices_Contains_SA3_A3__ev (n : Nat) (x : TupT slices_Contains_SA3_A3__i.tys) : evF ⟨tab, [slices_Index_SA3_A3__e n], n, []⟩ Tryz.f187 slices_Contains_SA3_A3__i slices_Contains_SA3_A3__o x = slices_Contains_SA3_A3_ n x.1 x.2 := by kernel_rfl
noncomputable def slices_Contains_SA3_A3__e (n : Nat) : Ent := ⟨187, slices_Contains_SA3_A3__i, slices_Contains_SA3_A3__o, fun x => slices_Contains_SA3_A3_ n x.1 x.2⟩
theorem slices_Contains_SA3_A3__ok (n : Nat) : EntOK Tryz.prog (slices_Contains_SA3_A3__e n) ∧ Own Tryz.prog 187 := ent_ok tabOK0 (.cons (slices_Index_SA3_A3__ok n) .nil) Tryz.func187 rfl (by kernel_rfl) (slices_Contains_SA3_A3__ev n)
def i_taken'k_i : CSh := ⟨[(.data true (.sl (.arr 4 tI))), (.data true (.arr 3 tI))], []⟩
def i_taken'k_o : RSh := ⟨(.tcons (.data true (.sl (.arr 4 tI))) (.tcons (.data true .bool) .tnil)), []⟩
theorem i_taken'k_ev (n : Nat) (x : TupT i_taken'k_i.tys) : evF ⟨tab, [i_linesIn_e n, slices_Contains_SA3_A3__e n, i_without_e n], n, [(16, ⟨[(0, (.data true (.sl (.arr 4 tI)))), (6, (.data true (.sl (.arr 4 tI)))), (15, (.data true (.arr 3 tI))), (16, (.data true tI))], [], 0⟩)]⟩ Tryz.f163 i_taken'k_i i_taken'k_o x = i_taken'k n x.1 x.2 := by kernel_rfl
noncomputable def i_taken'k_e (n : Nat) : Ent := ⟨163, i_taken'k_i, i_taken'k_o, fun x => i_taken'k n x.1 x.2⟩
theorem i_taken'k_ok (n : Nat) : EntOK Tryz.prog (i_taken'k_e n) ∧ Own Tryz.prog 163 := ent_ok tabOK0 (.cons (i_linesIn_ok n) (.cons (slices_Contains_SA3_A3__ok n) (.cons (i_without_ok n) .nil))) Tryz.func163 rfl (by kernel_rfl) (i_taken'k_ev n)
def i_areCards_1_i : CSh := ⟨[(.data true (.arr 4 tI))], []⟩
def i_areCards_1_o : RSh := ⟨(.data true .bool), []⟩
theorem i_areCards_1_ev (n : Nat) (x : TupT i_areCards_1_i.tys) : evF ⟨tab, [i_IsCard_e n], n, []⟩ Tryz.f130 i_areCards_1_i i_areCards_1_o x = i_areCards_1 n x := by kernel_rfl
noncomputable def i_areCards_1_e (n : Nat) : Ent := ⟨130, i_areCards_1_i, i_areCards_1_o, fun x => i_areCards_1 n x⟩
theorem i_areCards_1_ok (n : Nat) : EntOK Tryz.prog (i_areCards_1_e n) ∧ Own Tryz.prog 130 := ent_ok tabOK0 (.cons (i_IsCard_ok n) .nil) Tryz.func130 rfl (by kernel_rfl) (i_areCards_1_ev n)
def slices_IndexFunc_SA4_A4_'l_i_areCards_1_i : CSh := ⟨[(.data false (.sl (.arr 4 tI))), (.clo 130 .tnil)], []⟩
def slices_IndexFunc_SA4_A4_'l_i_areCards_1_o : RSh := ⟨(.data true tI), []⟩
theorem slices_IndexFunc_SA4_A4_'l_i_areCards_1_ev (n : Nat) (x : TupT slices_IndexFunc_SA4_A4_'l_i_areCards_1_i.tys) : evF ⟨tab, [i_areCards_1_e n], n, [(6, ⟨[(0, (.data false (.sl (.arr 4 tI)))), (1, (.clo 130 .tnil)), (7, (.data true tI)), (8, (.data true tI))], [], 0⟩)]⟩ Tryz.f154 slices_IndexFunc_SA4_A4_'l_i_areCards_1_i slices_IndexFunc_SA4_A4_'l_i_areCards_1_o x = slices_IndexFunc_SA4_A4_'l_i_areCards_1 n x := by kernel_rfl
noncomputable def slices_IndexFunc_SA4_A4_'l_i_areCards_1_e (n : Nat) : Ent := ⟨154, slices_IndexFunc_SA4_A4_'l_i_areCards_1_i, slices_IndexFunc_SA4_A4_'l_i_areCards_1_o, fun x => slices_IndexFunc_SA4_A4_'l_i_areCards_1 n x⟩
theorem slices_IndexFunc_SA4_A4_'l_i_areCards_1_ok (n : Nat) : EntOK Tryz.prog (slices_IndexFunc_SA4_A4_'l_i_areCards_1_e n) ∧ Own Tryz.prog 154 := ent_ok tabOK0 (.cons (i_areCards_1_ok n) .nil) Tryz.func154 rfl (by kernel_rfl) (slices_IndexFunc_SA4_A4_'l_i_areCards_1_ev n)
def slices_ContainsFunc_SA4_A4_'l_i_areCards_1_i : CSh := ⟨[(.data false (.sl (.arr 4 tI))), (.clo 130 .tnil)], []⟩
def slices_ContainsFunc_SA4_A4_'l_i_areCards_1_o : RSh := ⟨(.data true .bool), []⟩
theorem slices_ContainsFunc_SA4_A4_'l_i_areCards_1_ev (n : Nat) (x : TupT slices_ContainsFunc_SA4_A4_'l_i_areCards_1_i.tys) : evF ⟨tab, [slices_IndexFunc_SA4_A4_'l_i_areCards_1_e n], n, []⟩ Tryz.f129 slices_ContainsFunc_SA4_A4_'l_i_areCards_1_i slices_ContainsFunc_SA4_A4_'l_i_areCards_1_o x = slices_ContainsFunc_SA4_A4_'l_i_areCards_1 n x := by kernel_rfl
noncomputable def slices_ContainsFunc_SA4_A4_'l_i_areCards_1_e (n : Nat) : Ent := ⟨129, slices_ContainsFunc_SA4_A4_'l_i_areCards_1_i, slices_ContainsFunc_SA4_A4_'l_i_areCards_1_o, fun x => slices_ContainsFunc_SA4_A4_'l_i_areCards_1 n x⟩
theorem slices_ContainsFunc_SA4_A4_'l_i_areCards_1_ok (n : Nat) : EntOK Tryz.prog (slices_ContainsFunc_SA4_A4_'l_i_areCards_1_e n) ∧ Own Tryz.prog 129 := ent_ok tabOK0 (.cons (slices_IndexFunc_SA4_A4_'l_i_areCards_1_ok n) .nil) Tryz.func129 rfl (by kernel_rfl) (slices_ContainsFunc_SA4_A4_'l_i_areCards_1_ev n)
def i_areCards_i : CSh := ⟨[(.data false (.sl (.arr 4 tI)))], []⟩
def i_areCards_o : RSh := ⟨(.data true .bool), []⟩
theorem i_areCards_ev (n : Nat) (x : TupT i_areCards_i.tys) : evF ⟨tab, [slices_ContainsFunc_SA4_A4_'l_i_areCards_1_e n], n, []⟩ Tryz.f91 i_areCards_i i_areCards_o x = i_areCards n x := by kernel_rfl
noncomputable def i_areCards_e (n : Nat) : Ent := ⟨91, i_areCards_i, i_areCards_o, fun x => i_areCards n x⟩
theorem i_areCards_ok (n : Nat) : EntOK Tryz.prog (i_areCards_e n) ∧ Own Tryz.prog 91 := ent_ok tabOK0 (.cons (slices_ContainsFunc_SA4_A4_'l_i_areCards_1_ok n) .nil) Tryz.func91 rfl (by kernel_rfl) (i_areCards_ev n)
def i_ShiftTo_i : CSh := ⟨[(.data true (.arr 4 tI)), (.data true (.arr 4 tI))], []⟩
def i_ShiftTo_o : RSh := ⟨(.tcons (.data true (.pair (.arr 4 tI) (.arr 4 (.arr 3 tI)))) (.tcons (.data true .bool) .tnil)), []⟩
theorem i_ShiftTo_ev (n : Nat) (x : TupT i_ShiftTo_i.tys) : evF ⟨tab, [i_areCards_e n], n, [(16, ⟨[(2, (.ptr 0 [])), (3, (.ptr 1 [])), (4, (.ptr 2 [])), (6, (.ptr 3 [])), (17, (.data true tI))], [.var 30 (.data true (.arr 4 tI)), .var 30 (.data true (.arr 4 tI)), .var 148 (.data true (.pair (.arr 4 tI) (.arr 4 (.arr 3 tI)))), .var 148 (.data true (.pair (.arr 4 tI) (.arr 4 (.arr 3 tI))))], 0⟩), (30, ⟨[(2, (.ptr 0 [])), (3, (.ptr 1 [])), (4, (.ptr 2 [])), (6, (.ptr 3 [])), (7, (.data true tI)), (17, (.data true tI)), (20, (.data true tI))], [.var 30 (.data true (.arr 4 tI)), .var 30 (.data true (.arr 4 tI)), .var 148 (.data true (.pair (.arr 4 tI) (.arr 4 (.arr 3 tI)))), .var 148 (.data true (.pair (.arr 4 tI) (.arr 4 (.arr 3 tI))))], 0⟩)]⟩ Tryz.f164 i_ShiftTo_i i_ShiftTo_o x = i_ShiftTo n x.1 x.2 := by kernel_rfl
noncomputable def i_ShiftTo_e (n : Nat) : Ent := ⟨164, i_ShiftTo_i, i_ShiftTo_o, fun x => i_ShiftTo n x.1 x.2⟩
theorem i_ShiftTo_ok (n : Nat) : EntOK Tryz.prog (i_ShiftTo_e n) ∧ Own Tryz.prog 164 := ent_ok tabOK0 (.cons (i_areCards_ok n) .nil) Tryz.func164 rfl (by kernel_rfl) (i_ShiftTo_ev n)
def _impl_Map__image_i : CSh := ⟨[(.data true (.pair (.arr 4 tI) (.arr 4 (.arr 3 tI)))), (.data true (.arr 4 tI))], []⟩
def _impl_Map__image_o : RSh := ⟨(.data true (.arr 4 tI)), []⟩
theorem _impl_Map__image_ev (n : Nat) (x : TupT _impl_Map__image_i.tys) : evF ⟨tab, [], n, [(8, ⟨[(2, (.ptr 0 [])), (3, (.ptr 1 [])), (4, (.ptr 2 [])), (5, (.ptr 3 [])), (8, (.data true tI))], [.var 148 (.data true (.pair (.arr 4 tI) (.arr 4 (.arr 3 tI)))), .var 30 (.data true (.arr 4 tI)), .var 30 (.data true (.arr 4 tI)), .var 30 (.data true (.arr 4 tI))], 0⟩)]⟩ Tryz.f188 _impl_Map__image_i _impl_Map__image_o x = _impl_Map__image n x.1 x.2 := by kernel_rfl
noncomputable def _impl_Map__image_e (n : Nat) : Ent := ⟨188, _impl_Map__image_i, _impl_Map__image_o, fun x => _impl_Map__image n x.1 x.2⟩
theorem _impl_Map__image_ok (n : Nat) : EntOK Tryz.prog (_impl_Map__image_e n) ∧ Own Tryz.prog 188 := ent_ok tabOK0 .nil Tryz.func188 rfl (by kernel_rfl) (_impl_Map__image_ev n)
def _impl_Map__images_i : CSh := ⟨[(.data true (.pair (.arr 4 tI) (.arr 4 (.arr 3 tI)))), (.data false (.sl (.arr 4 tI)))], []⟩
def _impl_Map__images_o : RSh := ⟨(.own 0), [.rows 30 true (.arr 4 tI)]⟩
theorem _impl_Map__images_ev (n : Nat) (x : TupT _impl_Map__images_i.tys) : evF ⟨tab, [_impl_Map__image_e n, slices_SortFunc_SA4_A4_'o_i_compareCards_e n], n, [(8, ⟨[(2, (.ptr 0 [])), (5, (.own 1)), (11, (.data false (.sl (.arr 4 tI)))), (12, (.data true tI)), (13, (.data true tI))], [.var 148 (.data true (.pair (.arr 4 tI) (.arr 4 (.arr 3 tI)))), .rows 30 true (.arr 4 tI)], 0⟩)]⟩ Tryz.f165 _impl_Map__images_i _impl_Map__images_o x = _impl_Map__images n x.1 x.2 := by kernel_rfl
noncomputable def _impl_Map__images_e (n : Nat) : Ent := ⟨165, _impl_Map__images_i, _impl_Map__images_o, fun x => _impl_Map__images n x.1 x.2⟩
theorem _impl_Map__images_ok (n : Nat) : EntOK Tryz.prog (_impl_Map__images_e n) ∧ Own Tryz.prog 165 := ent_ok tabOK0 (.cons (_impl_Map__image_ok n) (.cons (slices_SortFunc_SA4_A4_'o_i_compareCards_ok n) .nil)) Tryz.func165 rfl (by kernel_rfl) (_impl_Map__images_ev n)
def i_isCap_i : CSh := ⟨[(.data false (.sl (.arr 4 tI)))], []⟩
def i_isCap_o : RSh := ⟨(.data true .bool), []⟩
theorem i_isCap_ev (n : Nat) (x : TupT i_isCap_i.tys) : evF ⟨tab, [i_linesIn_e n], n, []⟩ Tryz.f110 i_isCap_i i_isCap_o x = i_isCap n x := by kernel_rfl
noncomputable def i_isCap_e (n : Nat) : Ent := ⟨110, i_isCap_i, i_isCap_o, fun x => i_isCap n x⟩
theorem i_isCap_ok (n : Nat) : EntOK Tryz.prog (i_isCap_e n) ∧ Own Tryz.prog 110 := ent_ok tabOK0 (.cons (i_linesIn_ok n) .nil) Tryz.func110 rfl (by kernel_rfl) (i_isCap_ev n)
def i_pairsFor_i : CSh := ⟨[(.data false (.sl (.arr 4 tI))), (.data true (.arr 4 tI))], []⟩
def i_pairsFor_o : RSh := ⟨(.own 0), [.rows 169 true (.arr 2 tI)]⟩
theorem i_pairsFor_ev (n : Nat) (x : TupT i_pairsFor_i.tys) : evF ⟨tab, [i_third_e n], n, [(8, ⟨[(0, (.data false (.sl (.arr 4 tI)))), (3, (.ptr 0 [])), (5, (.own 1)), (10, (.data false (.sl (.arr 4 tI)))), (11, (.data true tI)), (12, (.data true tI))], [.var 30 (.data true (.arr 4 tI)), .rows 169 true (.arr 2 tI)], 0⟩), (22, ⟨[(0, (.data false (.sl (.arr 4 tI)))), (3, (.ptr 0 [])), (5, (.own 1)), (6, (.data true tI)), (7, (.ptr 2 [])), (8, (.data true tI)), (10, (.data false (.sl (.arr 4 tI)))), (11, (.data true tI)), (12, (.data true tI))], [.var 30 (.data true (.arr 4 tI)), .rows 169 true (.arr 2 tI), .var 30 (.data true (.arr 4 tI))], 0⟩)]⟩ Tryz.f170 i_pairsFor_i i_pairsFor_o x = i_pairsFor n x.1 x.2 := by kernel_rfl
noncomputable def i_pairsFor_e (n : Nat) : Ent := ⟨170, i_pairsFor_i, i_pairsFor_o, fun x => i_pairsFor n x.1 x.2⟩
theorem i_pairsFor_ok (n : Nat) : EntOK Tryz.prog (i_pairsFor_e n) ∧ Own Tryz.prog 170 := ent_ok tabOK0 (.cons (i_third_ok n) .nil) Tryz.func170 rfl (by kernel_rfl) (i_pairsFor_ev n)
def i_isBlocked_i : CSh := ⟨[(.data false (.sl (.arr 4 tI))), (.data true (.arr 4 tI))], []⟩
def i_isBlocked_o : RSh := ⟨(.data true .bool), []⟩
theorem i_isBlocked_ev (n : Nat) (x : TupT i_isBlocked_i.tys) : evF ⟨tab, [i_pairsFor_e n], n, []⟩ Tryz.f145 i_isBlocked_i i_isBlocked_o x = i_isBlocked n x.1 x.2 := by kernel_rfl
noncomputable def i_isBlocked_e (n : Nat) : Ent := ⟨145, i_isBlocked_i, i_isBlocked_o, fun x => i_isBlocked n x.1 x.2⟩
theorem i_isBlocked_ok (n : Nat) : EntOK Tryz.prog (i_isBlocked_e n) ∧ Own Tryz.prog 145 := ent_ok tabOK0 (.cons (i_pairsFor_ok n) .nil) Tryz.func145 rfl (by kernel_rfl) (i_isBlocked_ev n)
def i_FillCap_i : CSh := ⟨[(.data false (.sl (.arr 4 tI)))], []⟩
def i_FillCap_o : RSh := ⟨(.tcons (.own 0) (.tcons (.data true .bool) .tnil)), [.rows 30 true (.arr 4 tI)]⟩
theorem i_FillCap_ev (n : Nat) (x : TupT i_FillCap_i.tys) : evF ⟨tab, [i_IsHand_e n, i_isCap_e n, i_card_e n, i_has_e n, i_isBlocked_e n, i_sorted_e n], n, [(16, ⟨[(4, (.own 0)), (18, (.data true tI))], [.rows 30 true (.arr 4 tI)], 0⟩)]⟩ Tryz.f166 i_FillCap_i i_FillCap_o x = i_FillCap n x := by kernel_rfl
noncomputable def i_FillCap_e (n : Nat) : Ent := ⟨166, i_FillCap_i, i_FillCap_o, fun x => i_FillCap n x⟩
theorem i_FillCap_ok (n : Nat) : EntOK Tryz.prog (i_FillCap_e n) ∧ Own Tryz.prog 166 := ent_ok tabOK0 (.cons (i_IsHand_ok n) (.cons (i_isCap_ok n) (.cons (i_card_ok n) (.cons (i_has_ok n) (.cons (i_isBlocked_ok n) (.cons (i_sorted_ok n) .nil)))))) Tryz.func166 rfl (by kernel_rfl) (i_FillCap_ev n)
def _impl_Table__feat'k_i : CSh := ⟨[(.data true (.pair (.sl (.arr 4 tI)) (.pair tI tI))), (.data true (.pair tI (.pair tI (.pair tI tI))))], []⟩
def _impl_Table__feat'k_o : RSh := ⟨(.tcons (.data true (.sl (.arr 4 tI))) (.tcons (.data true .bool) .tnil)), []⟩
theorem _impl_Table__feat'k_ev (n : Nat) (x : TupT _impl_Table__feat'k_i.tys) : evF ⟨tab, [i_within_e n, i_card_e n, i_PutCard_e n, i_without_e n, i_taken'k_e n, i_ShiftTo_e n, _impl_Map__images_e n, i_FillCap_e n], n, []⟩ Tryz.f134 _impl_Table__feat'k_i _impl_Table__feat'k_o x = _impl_Table__feat'k n x.1 x.2 := by kernel_rfl
noncomputable def _impl_Table__feat'k_e (n : Nat) : Ent := ⟨134, _impl_Table__feat'k_i, _impl_Table__feat'k_o, fun x => _impl_Table__feat'k n x.1 x.2⟩
theorem _impl_Table__feat'k_ok (n : Nat) : EntOK Tryz.prog (_impl_Table__feat'k_e n) ∧ Own Tryz.prog 134 := ent_ok tabOK0 (.cons (i_within_ok n) (.cons (i_card_ok n) (.cons (i_PutCard_ok n) (.cons (i_without_ok n) (.cons (i_taken'k_ok n) (.cons (i_ShiftTo_ok n) (.cons (_impl_Map__images_ok n) (.cons (i_FillCap_ok n) .nil)))))))) Tryz.func134 rfl (by kernel_rfl) (_impl_Table__feat'k_ev n)
def _impl_Table__do'k_i : CSh := ⟨[(.data true (.pair (.sl (.arr 4 tI)) (.pair tI tI))), (.data true (.pair tI (.pair tI (.pair tI tI))))], []⟩
def _impl_Table__do'k_o : RSh := ⟨(.tcons (.data true (.pair (.sl (.arr 4 tI)) (.pair tI tI))) (.tcons (.data true .bool) .tnil)), []⟩
theorem _impl_Table__do'k_ev (n : Nat) (x : TupT _impl_Table__do'k_i.tys) : evF ⟨tab, [_impl_Table__feat'k_e n, i_IsTable_e n], n, [(6, ⟨[(4, (.ptr 0 [])), (7, (.data true .bool)), (8, (.ptr 1 []))], [.var 60 (.pr .nil (.data true (.pair tI tI))), .var 60 (.data true (.pair (.sl (.arr 4 tI)) (.pair tI tI)))], 0⟩)]⟩ Tryz.f96 _impl_Table__do'k_i _impl_Table__do'k_o x = _impl_Table__do'k n x.1 x.2 := by kernel_rfl
noncomputable def _impl_Table__do'k_e (n : Nat) : Ent := ⟨96, _impl_Table__do'k_i, _impl_Table__do'k_o, fun x => _impl_Table__do'k n x.1 x.2⟩
theorem _impl_Table__do'k_ok (n : Nat) : EntOK Tryz.prog (_impl_Table__do'k_e n) ∧ Own Tryz.prog 96 := ent_ok tabOK0 (.cons (_impl_Table__feat'k_ok n) (.cons (i_IsTable_ok n) .nil)) Tryz.func96 rfl (by kernel_rfl) (_impl_Table__do'k_ev n)
def i_DoFeats_i : CSh := ⟨[(.data false (.pair (.sl (.arr 4 tI)) (.pair tI tI))), (.data false (.sl (.pair tI (.pair tI (.pair tI tI)))))], []⟩
def i_DoFeats_o : RSh := ⟨(.tcons (.pr (.own 0) (.data true (.pair tI tI))) (.tcons (.data true tI) (.tcons (.data true .bool) .tnil))), [.rows 30 true (.arr 4 tI)]⟩
theorem i_DoFeats_ev (n : Nat) (x : TupT i_DoFeats_i.tys) : evF ⟨tab, [i_IsTable_e n, _impl_Table__own_e n, _impl_Table__do'k_e n], n, [(12, ⟨[(4, (.ptr 0 [])), (7, (.ptr 1 [])), (8, (.data true tI))], [.var 60 (.pr .nil (.data true (.pair tI tI))), .var 60 (.pr (.data true (.sl (.arr 4 tI))) (.data true (.pair tI tI)))], 0⟩), (16, ⟨[(4, (.ptr 0 [])), (7, (.ptr 1 [])), (8, (.data true tI)), (19, (.data false (.sl (.pair tI (.pair tI (.pair tI tI)))))), (20, (.data true tI)), (21, (.data true tI))], [.var 60 (.pr .nil (.data true (.pair tI tI))), .var 60 (.pr (.data true (.sl (.arr 4 tI))) (.data true (.pair tI tI)))], 0⟩)]⟩ Tryz.f43 i_DoFeats_i i_DoFeats_o x = i_DoFeats n x.1 x.2 := by kernel_rfl
noncomputable def i_DoFeats_e (n : Nat) : Ent := ⟨43, i_DoFeats_i, i_DoFeats_o, fun x => i_DoFeats n x.1 x.2⟩
theorem i_DoFeats_ok (n : Nat) : EntOK Tryz.prog (i_DoFeats_e n) ∧ Own Tryz.prog 43 := ent_ok tabOK0 (.cons (i_IsTable_ok n) (.cons (_impl_Table__own_ok n) (.cons (_impl_Table__do'k_ok n) .nil))) Tryz.func43 rfl (by kernel_rfl) (i_DoFeats_ev n)
def v_eqIntA4_i : CSh := ⟨[(.data true (.arr 4 tI)), (.data true (.arr 4 tI))], []⟩
def v_eqIntA4_o : RSh := ⟨(.data true .bool), []⟩
theorem v_eqIntA4_ev (n : Nat) (x : TupT v_eqIntA4_i.tys) : evF ⟨tab, [], n, [(6, ⟨[(2, (.ptr 0 [])), (3, (.ptr 1 [])), (5, (.data true tI))], [.var 30 (.data true (.arr 4 tI)), .var 30 (.data true (.arr 4 tI))], 0⟩)]⟩ Tryz.f135 v_eqIntA4_i v_eqIntA4_o x = v_eqIntA4 n x.1 x.2 := by kernel_rfl
noncomputable def v_eqIntA4_e (n : Nat) : Ent := ⟨135, v_eqIntA4_i, v_eqIntA4_o, fun x => v_eqIntA4 n x.1 x.2⟩
theorem v_eqIntA4_ok (n : Nat) : EntOK Tryz.prog (v_eqIntA4_e n) ∧ Own Tryz.prog 135 := ent_ok tabOK0 .nil Tryz.func135 rfl (by kernel_rfl) (v_eqIntA4_ev n)
def v_eqIntA4S_i : CSh := ⟨[(.data false (.sl (.arr 4 tI))), (.data false (.sl (.arr 4 tI)))], []⟩
def v_eqIntA4S_o : RSh := ⟨(.data true .bool), []⟩
theorem v_eqIntA4S_ev (n : Nat) (x : TupT v_eqIntA4S_i.tys) : evF ⟨tab, [v_eqIntA4_e n], n, [(14, ⟨[(0, (.data false (.sl (.arr 4 tI)))), (1, (.data false (.sl (.arr 4 tI)))), (5, (.data true tI))], [], 0⟩)]⟩ Tryz.f98 v_eqIntA4S_i v_eqIntA4S_o x = v_eqIntA4S n x.1 x.2 := by kernel_rfl
noncomputable def v_eqIntA4S_e (n : Nat) : Ent := ⟨98, v_eqIntA4S_i, v_eqIntA4S_o, fun x => v_eqIntA4S n x.1 x.2⟩
theorem v_eqIntA4S_ok (n : Nat) : EntOK Tryz.prog (v_eqIntA4S_e n) ∧ Own Tryz.prog 98 := ent_ok tabOK0 (.cons (v_eqIntA4_ok n) .nil) Tryz.func98 rfl (by kernel_rfl) (v_eqIntA4S_ev n)
def v_eqTable_i : CSh := ⟨[(.data false (.pair (.sl (.arr 4 tI)) (.pair tI tI))), (.data false (.pair (.sl (.arr 4 tI)) (.pair tI tI)))], []⟩
def v_eqTable_o : RSh := ⟨(.data true .bool), []⟩
theorem v_eqTable_ev (n : Nat) (x : TupT v_eqTable_i.tys) : evF ⟨tab, [v_eqIntA4S_e n], n, []⟩ Tryz.f37 v_eqTable_i v_eqTable_o x = v_eqTable n x.1 x.2 := by kernel_rfl
noncomputable def v_eqTable_e (n : Nat) : Ent := ⟨37, v_eqTable_i, v_eqTable_o, fun x => v_eqTable n x.1 x.2⟩
theorem v_eqTable_ok (n : Nat) : EntOK Tryz.prog (v_eqTable_e n) ∧ Own Tryz.prog 37 := ent_ok tabOK0 (.cons (v_eqIntA4S_ok n) .nil) Tryz.func37 rfl (by kernel_rfl) (v_eqTable_ev n)
def v_eqFeat_i : CSh := ⟨[(.data true (.pair tI (.pair tI (.pair tI tI)))), (.data true (.pair tI (.pair tI (.pair tI tI))))], []⟩
def v_eqFeat_o : RSh := ⟨(.data true .bool), []⟩
theorem v_eqFeat_ev (n : Nat) (x : TupT v_eqFeat_i.tys) : evF ⟨tab, [], n, []⟩ Tryz.f102 v_eqFeat_i v_eqFeat_o x = v_eqFeat n x.1 x.2 := by kernel_rfl
noncomputable def v_eqFeat_e (n : Nat) : Ent := ⟨102, v_eqFeat_i, v_eqFeat_o, fun x => v_eqFeat n x.1 x.2⟩
theorem v_eqFeat_ok (n : Nat) : EntOK Tryz.prog (v_eqFeat_e n) ∧ Own Tryz.prog 102 := ent_ok tabOK0 .nil Tryz.func102 rfl (by kernel_rfl) (v_eqFeat_ev n)
def v_eqFeatS_i : CSh := ⟨[(.data false (.sl (.pair tI (.pair tI (.pair tI tI))))), (.data false (.sl (.pair tI (.pair tI (.pair tI tI)))))], []⟩
def v_eqFeatS_o : RSh := ⟨(.data true .bool), []⟩
theorem v_eqFeatS_ev (n : Nat) (x : TupT v_eqFeatS_i.tys) : evF ⟨tab, [v_eqFeat_e n], n, [(14, ⟨[(0, (.data false (.sl (.pair tI (.pair tI (.pair tI tI)))))), (1, (.data false (.sl (.pair tI (.pair tI (.pair tI tI)))))), (5, (.data true tI))], [], 0⟩)]⟩ Tryz.f44 v_eqFeatS_i v_eqFeatS_o x = v_eqFeatS n x.1 x.2 := by kernel_rfl
noncomputable def v_eqFeatS_e (n : Nat) : Ent := ⟨44, v_eqFeatS_i, v_eqFeatS_o, fun x => v_eqFeatS n x.1 x.2⟩
theorem v_eqFeatS_ok (n : Nat) : EntOK Tryz.prog (v_eqFeatS_e n) ∧ Own Tryz.prog 44 := ent_ok tabOK0 (.cons (v_eqFeat_ok n) .nil) Tryz.func44 rfl (by kernel_rfl) (v_eqFeatS_ev n)
def v_markIntA4S'o_i : CSh := ⟨[(.own 0), (.data true tI)], [.rows 30 true (.arr 4 tI)]⟩
def v_markIntA4S'o_o : RSh := ⟨(.data true tI), [.rows 30 true (.arr 4 tI)]⟩
theorem v_markIntA4S'o_ev (n : Nat) (x : TupT v_markIntA4S'o_i.tys) : evF ⟨tab, [], n, [(6, ⟨[(0, (.own 0)), (1, (.data true tI)), (5, (.data true tI))], [.rows 30 true (.arr 4 tI)], 1⟩), (18, ⟨[(0, (.own 0)), (1, (.data true tI)), (5, (.data true tI)), (6, (.data true tI))], [.rows 30 true (.arr 4 tI)], 1⟩)]⟩ Tryz.f99 v_markIntA4S'o_i v_markIntA4S'o_o x = v_markIntA4S'o n x.1 x.2 := by kernel_rfl
noncomputable def v_markIntA4S'o_e (n : Nat) : Ent := ⟨99, v_markIntA4S'o_i, v_markIntA4S'o_o, fun x => v_markIntA4S'o n x.1 x.2⟩
theorem v_markIntA4S'o_ok (n : Nat) : EntOK Tryz.prog (v_markIntA4S'o_e n) ∧ Own Tryz.prog 99 := ent_ok tabOK0 .nil Tryz.func99 rfl (by kernel_rfl) (v_markIntA4S'o_ev n)
def v_markTable'o_i : CSh := ⟨[(.pr (.own 0) (.data true (.pair tI tI))), (.data true tI)], [.rows 30 true (.arr 4 tI)]⟩
def v_markTable'o_o : RSh := ⟨(.data true tI), [.rows 30 true (.arr 4 tI)]⟩
theorem v_markTable'o_ev (n : Nat) (x : TupT v_markTable'o_i.tys) : evF ⟨tab, [v_markIntA4S'o_e n], n, []⟩ Tryz.f38 v_markTable'o_i v_markTable'o_o x = v_markTable'o n x.1 x.2.1 x.2.2 := by kernel_rfl
noncomputable def v_markTable'o_e (n : Nat) : Ent := ⟨38, v_markTable'o_i, v_markTable'o_o, fun x => v_markTable'o n x.1 x.2.1 x.2.2⟩
theorem v_markTable'o_ok (n : Nat) : EntOK Tryz.prog (v_markTable'o_e n) ∧ Own Tryz.prog 38 := ent_ok tabOK0 (.cons (v_markIntA4S'o_ok n) .nil) Tryz.func38 rfl (by kernel_rfl) (v_markTable'o_ev n)
def v_markFeatS'o_i : CSh := ⟨[(.own 0), (.data true tI)], [.rows 64 true (.pair tI (.pair tI (.pair tI tI)))]⟩
def v_markFeatS'o_o : RSh := ⟨(.data true tI), [.rows 64 true (.pair tI (.pair tI (.pair tI tI)))]⟩
theorem v_markFeatS'o_ev (n : Nat) (x : TupT v_markFeatS'o_i.tys) : evF ⟨tab, [], n, [(6, ⟨[(0, (.own 0)), (1, (.data true tI)), (5, (.data true tI))], [.rows 64 true (.pair tI (.pair tI (.pair tI tI)))], 1⟩)]⟩ Tryz.f45 v_markFeatS'o_i v_markFeatS'o_o x = v_markFeatS'o n x.1 x.2 := by kernel_rfl
noncomputable def v_markFeatS'o_e (n : Nat) : Ent := ⟨45, v_markFeatS'o_i, v_markFeatS'o_o, fun x => v_markFeatS'o n x.1 x.2⟩
theorem v_markFeatS'o_ok (n : Nat) : EntOK Tryz.prog (v_markFeatS'o_e n) ∧ Own Tryz.prog 45 := ent_ok tabOK0 .nil Tryz.func45 rfl (by kernel_rfl) (v_markFeatS'o_ev n)
def v_heldIntA4S_i : CSh := ⟨[(.data false (.sl (.arr 4 tI))), (.data true tI)], []⟩
def v_heldIntA4S_o : RSh := ⟨(.data true tI), []⟩
theorem v_heldIntA4S_ev (n : Nat) (x : TupT v_heldIntA4S_i.tys) : evF ⟨tab, [], n, [(6, ⟨[(0, (.data false (.sl (.arr 4 tI)))), (1, (.data true tI)), (5, (.data true tI))], [], 0⟩), (18, ⟨[(0, (.data false (.sl (.arr 4 tI)))), (1, (.data true tI)), (5, (.data true tI)), (6, (.data true tI))], [], 0⟩)]⟩ Tryz.f100 v_heldIntA4S_i v_heldIntA4S_o x = v_heldIntA4S n x.1 x.2 := by kernel_rfl
noncomputable def v_heldIntA4S_e (n : Nat) : Ent := ⟨100, v_heldIntA4S_i, v_heldIntA4S_o, fun x => v_heldIntA4S n x.1 x.2⟩
theorem v_heldIntA4S_ok (n : Nat) : EntOK Tryz.prog (v_heldIntA4S_e n) ∧ Own Tryz.prog 100 := ent_ok tabOK0 .nil Tryz.func100 rfl (by kernel_rfl) (v_heldIntA4S_ev n)
def v_heldTable_i : CSh := ⟨[(.data false (.pair (.sl (.arr 4 tI)) (.pair tI tI))), (.data true tI)], []⟩
def v_heldTable_o : RSh := ⟨(.data true tI), []⟩
theorem v_heldTable_ev (n : Nat) (x : TupT v_heldTable_i.tys) : evF ⟨tab, [v_heldIntA4S_e n], n, []⟩ Tryz.f39 v_heldTable_i v_heldTable_o x = v_heldTable n x.1 x.2 := by kernel_rfl
noncomputable def v_heldTable_e (n : Nat) : Ent := ⟨39, v_heldTable_i, v_heldTable_o, fun x => v_heldTable n x.1 x.2⟩
theorem v_heldTable_ok (n : Nat) : EntOK Tryz.prog (v_heldTable_e n) ∧ Own Tryz.prog 39 := ent_ok tabOK0 (.cons (v_heldIntA4S_ok n) .nil) Tryz.func39 rfl (by kernel_rfl) (v_heldTable_ev n)
def v_FnExactDoFeats_i : CSh := ⟨[(.data false (.pair (.sl (.arr 4 tI)) (.pair tI tI))), (.data false (.sl (.pair tI (.pair tI (.pair tI tI)))))], []⟩
def v_FnExactDoFeats_o : RSh := ⟨(.data true .bool), []⟩
theorem v_FnExactDoFeats_ev (n : Nat) (x : TupT v_FnExactDoFeats_i.tys) : evF ⟨tab, [v_szTable_e n, v_szFeatS_e n, v_toTable_e n, v_toFeatS_e n, s_DoFeats_e n, i_DoFeats_e n, v_eqTable_e n, v_eqFeatS_e n, v_markTable'o_e n, v_markFeatS'o_e n, v_heldTable_e n], n, []⟩ Tryz.f5 v_FnExactDoFeats_i v_FnExactDoFeats_o x = v_FnExactDoFeats n x.1 x.2 := by kernel_rfl
noncomputable def v_FnExactDoFeats_e (n : Nat) : Ent := ⟨5, v_FnExactDoFeats_i, v_FnExactDoFeats_o, fun x => v_FnExactDoFeats n x.1 x.2⟩
theorem v_FnExactDoFeats_ok (n : Nat) : EntOK Tryz.prog (v_FnExactDoFeats_e n) ∧ Own Tryz.prog 5 := ent_ok tabOK0 (.cons (v_szTable_ok n) (.cons (v_szFeatS_ok n) (.cons (v_toTable_ok n) (.cons (v_toFeatS_ok n) (.cons (s_DoFeats_ok n) (.cons (i_DoFeats_ok n) (.cons (v_eqTable_ok n) (.cons (v_eqFeatS_ok n) (.cons (v_markTable'o_ok n) (.cons (v_markFeatS'o_ok n) (.cons (v_heldTable_ok n) .nil))))))))))) Tryz.func5 rfl (by kernel_rfl) (v_FnExactDoFeats_ev n)
end Go.Proofs.YtbkbkaonjhlplaaGreat
