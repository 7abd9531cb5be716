/- Printed by a program of the session: the contracts of the seat's functions. -/
import Derived.Test.YtkhfihbaopbblaaDoorZ7
import Derived.Test.YtkhfihbaopbblaaDoorPL
import Derived.Test.YtkhfihbaopbblaaDoorRows
import Derived.Test.YtkhfihbaopbblaaDoorSh
import Derived.KernelRfl
namespace Go.Proofs.YtkhfihbaopbblaaDoor
open Go Go.Tv Go.Pl Go.RowKit
set_option linter.unusedVariables false
abbrev tI : Ty := .int .i64
def tab : Tab := ⟨[(2, ⟨tI, 0, 8⟩), (3, ⟨tI, 0, 8⟩), (4, ⟨.bool, 0, 1⟩), (5, ⟨(.int .u8), 0, 1⟩), (6, ⟨(.int .u8), 0, 1⟩), (7, ⟨(.pair tI (.pair tI (.pair .bool (.int .u8)))), 4, 24⟩), (8, ⟨(.pair tI (.pair tI (.pair .bool (.int .u8)))), 4, 24⟩), (9, ⟨.str, 0, 16⟩), (10, ⟨.str, 0, 16⟩), (11, ⟨.str, 0, 16⟩), (12, ⟨(.int .u64), 0, 8⟩), (13, ⟨(.pair .str (.int .u64)), 2, 24⟩), (14, ⟨(.pair .str (.int .u64)), 2, 24⟩), (21, ⟨(.int .i32), 0, 4⟩), (22, ⟨(.pair .str (.pair .str tI)), 3, 40⟩), (23, ⟨(.pair .str (.pair .str tI)), 3, 40⟩), (27, ⟨(.pair .str (.pair .str tI)), 3, 40⟩), (34, ⟨(.pair .str .str), 2, 32⟩), (35, ⟨(.pair .str .str), 2, 32⟩), (39, ⟨(.pair .str .str), 2, 32⟩), (42, ⟨(.sl (.pair .str .str)), 39, 32⟩), (47, ⟨(.sl (.int .u8)), 5, 1⟩), (63, ⟨(.sl (.arr 4 tI)), 124, 32⟩), (64, ⟨(.pair (.sl (.arr 4 tI)) (.pair tI tI)), 3, 40⟩), (65, ⟨(.pair (.sl (.arr 4 tI)) (.pair tI tI)), 3, 40⟩), (66, ⟨(.pair (.pair (.sl (.arr 4 tI)) (.pair tI tI)) (.pair .str (.pair .str tI))), 2, 80⟩), (67, ⟨(.pair (.pair (.sl (.arr 4 tI)) (.pair tI tI)) (.pair .str (.pair .str tI))), 2, 80⟩), (70, ⟨(.pair (.sl (.arr 4 tI)) (.pair tI tI)), 3, 40⟩), (71, ⟨(.pair (.pair (.sl (.arr 4 tI)) (.pair tI tI)) (.pair .str (.pair .str tI))), 2, 80⟩), (72, ⟨(.pair (.pair (.sl (.arr 4 tI)) (.pair tI tI)) (.pair .str (.pair .str tI))), 2, 80⟩), (80, ⟨(.sl tI), 3, 8⟩), (86, ⟨(.int .u64), 0, 8⟩), (87, ⟨(.pair (.sl (.int .u8)) (.pair tI (.int .u64))), 3, 40⟩), (88, ⟨(.pair (.sl (.int .u8)) (.pair tI (.int .u64))), 3, 40⟩), (105, ⟨(.sl .str), 9, 16⟩), (122, ⟨(.int .u64), 0, 8⟩), (124, ⟨(.arr 4 tI), 3, 8⟩), (128, ⟨(.arr 24 (.int .u8)), 5, 1⟩), (136, ⟨(.arr 20 (.int .u64)), 86, 8⟩), (137, ⟨(.int .u32), 0, 4⟩), (138, ⟨(.arr 65 (.int .u8)), 5, 1⟩), (145, ⟨(.arr 32 (.int .u8)), 5, 1⟩), (146, ⟨(.arr 64 (.int .u8)), 5, 1⟩), (153, ⟨(.int .u8), 0, 1⟩), (154, ⟨(.int .u8), 0, 1⟩), (157, ⟨(.int .i32), 0, 4⟩), (158, ⟨(.int .i32), 0, 4⟩)], [7, 8, 22, 23, 27, 34, 35, 39, 124, 128, 136, 138, 145, 146], [1, 24, 26, 28, 29, 31, 32, 33, 36, 38, 40, 41, 44, 45, 46, 48, 49, 51, 52, 53, 54, 56, 57, 58, 60, 61, 62, 68, 69, 73, 74, 75, 76, 77, 79, 82, 83, 84, 89, 90, 91, 92, 93, 94, 95, 96, 97, 98, 99, 100, 101, 102, 103, 104, 106, 108, 110, 111, 112, 113, 114, 115, 116, 117, 118, 119, 120, 121, 123, 125, 126, 127, 129, 130, 132, 133, 134, 135, 139, 140, 142, 143, 144, 147, 155, 161]⟩
theorem tabOK0 : TabOK Tryd.prog tab := ⟨by kernel_rfl, by kernel_rfl⟩
instance inv0 : Inv := Inv.tab Tryd.prog "internal/strconv.uint64pow10" ((Lib.pow10Tab.map fun z => Value.int .u64 z).toArray)
def v_vBig_i : CSh := ⟨[(.data false (.sl (.int .u8)))], []⟩
def v_vBig_o : RSh := ⟨(.data true .bool), []⟩
theorem v_vBig_ev (n : Nat) (x : TupT v_vBig_i.tys) : evF ⟨tab, [], n, []⟩ Tryd.f26 v_vBig_i v_vBig_o x = v_vBig n x := by kernel_rfl
noncomputable def v_vBig_e (n : Nat) : Ent := ⟨26, v_vBig_i, v_vBig_o, fun x => v_vBig n x⟩
theorem v_vBig_ok (n : Nat) : EntOK Tryd.prog (v_vBig_e n) ∧ Own Tryd.prog 26 := ent_ok tabOK0 .nil Tryd.func26 rfl (by kernel_rfl) (v_vBig_ev n)
def s_Cur_next'p_i : CSh := ⟨[(.ptr 0 [])], [.var 88 (.data true (.pair (.sl (.int .u8)) (.pair tI (.int .u64))))]⟩
def s_Cur_next'p_o : RSh := ⟨(.data true tI), [.var 88 (.data true (.pair (.sl (.int .u8)) (.pair tI (.int .u64))))]⟩
theorem s_Cur_next'p_ev (n : Nat) (x : TupT s_Cur_next'p_i.tys) : evF ⟨tab, [], n, [(4, ⟨[(0, (.ptr 0 [])), (3, (.data true tI))], [.var 88 (.data true (.pair (.sl (.int .u8)) (.pair tI (.int .u64))))], 1⟩)]⟩ Tryd.f85 s_Cur_next'p_i s_Cur_next'p_o x = s_Cur_next'p n x := by kernel_rfl
noncomputable def s_Cur_next'p_e (n : Nat) : Ent := ⟨85, s_Cur_next'p_i, s_Cur_next'p_o, fun x => s_Cur_next'p n x⟩
theorem s_Cur_next'p_ok (n : Nat) : EntOK Tryd.prog (s_Cur_next'p_e n) ∧ Own Tryd.prog 85 := ent_ok tabOK0 .nil Tryd.func85 rfl (by kernel_rfl) (s_Cur_next'p_ev n)
def s_Cur_pick'p_i : CSh := ⟨[(.ptr 0 []), (.data true tI)], [.var 88 (.data true (.pair (.sl (.int .u8)) (.pair tI (.int .u64))))]⟩
def s_Cur_pick'p_o : RSh := ⟨(.data true tI), [.var 88 (.data true (.pair (.sl (.int .u8)) (.pair tI (.int .u64))))]⟩
theorem s_Cur_pick'p_ev (n : Nat) (x : TupT s_Cur_pick'p_i.tys) : evF ⟨tab, [s_Cur_next'p_e n], n, []⟩ Tryd.f63 s_Cur_pick'p_i s_Cur_pick'p_o x = s_Cur_pick'p n x.1 x.2 := by kernel_rfl
noncomputable def s_Cur_pick'p_e (n : Nat) : Ent := ⟨63, s_Cur_pick'p_i, s_Cur_pick'p_o, fun x => s_Cur_pick'p n x.1 x.2⟩
theorem s_Cur_pick'p_ok (n : Nat) : EntOK Tryd.prog (s_Cur_pick'p_e n) ∧ Own Tryd.prog 63 := ent_ok tabOK0 (.cons (s_Cur_next'p_ok n) .nil) Tryd.func63 rfl (by kernel_rfl) (s_Cur_pick'p_ev n)
def s_Cur_of'pl_i : CSh := ⟨[(.ptr 0 []), (.data false (.sl .str))], [.var 88 (.data true (.pair (.sl (.int .u8)) (.pair tI (.int .u64))))]⟩
def s_Cur_of'pl_o : RSh := ⟨(.data true .str), [.var 88 (.data true (.pair (.sl (.int .u8)) (.pair tI (.int .u64))))]⟩
theorem s_Cur_of'pl_ev (n : Nat) (x : TupT s_Cur_of'pl_i.tys) : evF ⟨tab, [s_Cur_pick'p_e n], n, []⟩ Tryd.f81 s_Cur_of'pl_i s_Cur_of'pl_o x = s_Cur_of'pl n x.1 x.2 := by kernel_rfl
noncomputable def s_Cur_of'pl_e (n : Nat) : Ent := ⟨81, s_Cur_of'pl_i, s_Cur_of'pl_o, fun x => s_Cur_of'pl n x.1 x.2⟩
theorem s_Cur_of'pl_ok (n : Nat) : EntOK Tryd.prog (s_Cur_of'pl_e n) ∧ Own Tryd.prog 81 := ent_ok tabOK0 (.cons (s_Cur_pick'p_ok n) .nil) Tryd.func81 rfl (by kernel_rfl) (s_Cur_of'pl_ev n)
def s_Cur_logRecord'p_i : CSh := ⟨[(.ptr 0 [])], [.var 88 (.data true (.pair (.sl (.int .u8)) (.pair tI (.int .u64))))]⟩
def s_Cur_logRecord'p_o : RSh := ⟨(.data true (.pair .str .str)), [.var 88 (.data true (.pair (.sl (.int .u8)) (.pair tI (.int .u64))))]⟩
theorem s_Cur_logRecord'p_ev (n : Nat) (x : TupT s_Cur_logRecord'p_i.tys) : evF ⟨tab, [s_Cur_of'pl_e n, s_Cur_pick'p_e n], n, []⟩ Tryd.f57 s_Cur_logRecord'p_i s_Cur_logRecord'p_o x = s_Cur_logRecord'p n x := by kernel_rfl
noncomputable def s_Cur_logRecord'p_e (n : Nat) : Ent := ⟨57, s_Cur_logRecord'p_i, s_Cur_logRecord'p_o, fun x => s_Cur_logRecord'p n x⟩
theorem s_Cur_logRecord'p_ok (n : Nat) : EntOK Tryd.prog (s_Cur_logRecord'p_e n) ∧ Own Tryd.prog 57 := ent_ok tabOK0 (.cons (s_Cur_of'pl_ok n) (.cons (s_Cur_pick'p_ok n) .nil)) Tryd.func57 rfl (by kernel_rfl) (s_Cur_logRecord'p_ev n)
def s_l1Split_i : CSh := ⟨[(.data true .str), (.data true (.int .u8))], []⟩
def s_l1Split_o : RSh := ⟨(.own 0), [.rows 9 true .str]⟩
theorem s_l1Split_ev (n : Nat) (x : TupT s_l1Split_i.tys) : evF ⟨tab, [], n, [(10, ⟨[(0, (.data true .str)), (1, (.data true (.int .u8))), (5, (.own 0)), (6, (.data true tI)), (7, (.data true tI))], [.rows 9 true .str], 0⟩)]⟩ Tryd.f78 s_l1Split_i s_l1Split_o x = s_l1Split n x.1 x.2 := by kernel_rfl
noncomputable def s_l1Split_e (n : Nat) : Ent := ⟨78, s_l1Split_i, s_l1Split_o, fun x => s_l1Split n x.1 x.2⟩
theorem s_l1Split_ok (n : Nat) : EntOK Tryd.prog (s_l1Split_e n) ∧ Own Tryd.prog 78 := ent_ok tabOK0 .nil Tryd.func78 rfl (by kernel_rfl) (s_l1Split_ev n)
def s_l1Num_i : CSh := ⟨[(.data true tI)], []⟩
def s_l1Num_o : RSh := ⟨(.data true .str), []⟩
theorem s_l1Num_ev (n : Nat) (go : TupT s_l1Num_i.tys → Option (TupT s_l1Num_o.tys)) (x : TupT s_l1Num_i.tys) : evF ⟨tab, [⟨77, s_l1Num_i, s_l1Num_o, go⟩], n, []⟩ Tryd.f77 s_l1Num_i s_l1Num_o x = s_l1Num_R n go x := by kernel_rfl
noncomputable def s_l1Num_e (n : Nat) : Ent := ⟨77, s_l1Num_i, s_l1Num_o, fun x => s_l1Num n x⟩
theorem s_l1Num_ok (n : Nat) : EntOK Tryd.prog (s_l1Num_e n) ∧ Own Tryd.prog 77 := ent_rec tabOK0 .nil Tryd.func77 rfl (by kernel_rfl) (s_l1Num_ev n) n
def s_l1In_i : CSh := ⟨[(.data true tI), (.data true tI), (.data true tI)], []⟩
def s_l1In_o : RSh := ⟨(.data true .bool), []⟩
theorem s_l1In_ev (n : Nat) (x : TupT s_l1In_i.tys) : evF ⟨tab, [], n, []⟩ Tryd.f49 s_l1In_i s_l1In_o x = s_l1In n x.1 x.2.1 x.2.2 := by kernel_rfl
noncomputable def s_l1In_e (n : Nat) : Ent := ⟨49, s_l1In_i, s_l1In_o, fun x => s_l1In n x.1 x.2.1 x.2.2⟩
theorem s_l1In_ok (n : Nat) : EntOK Tryd.prog (s_l1In_e n) ∧ Own Tryd.prog 49 := ent_ok tabOK0 .nil Tryd.func49 rfl (by kernel_rfl) (s_l1In_ev n)
def s_l12Bytes_i : CSh := ⟨[(.data true .str), (.data true tI)], []⟩
def s_l12Bytes_o : RSh := ⟨(.data true .bool), []⟩
theorem s_l12Bytes_ev (n : Nat) (x : TupT s_l12Bytes_i.tys) : evF ⟨tab, [s_l1In_e n], n, [(6, ⟨[(0, (.data true .str)), (1, (.data true tI)), (5, (.data true tI))], [], 0⟩)]⟩ Tryd.f74 s_l12Bytes_i s_l12Bytes_o x = s_l12Bytes n x.1 x.2 := by kernel_rfl
noncomputable def s_l12Bytes_e (n : Nat) : Ent := ⟨74, s_l12Bytes_i, s_l12Bytes_o, fun x => s_l12Bytes n x.1 x.2⟩
theorem s_l12Bytes_ok (n : Nat) : EntOK Tryd.prog (s_l12Bytes_e n) ∧ Own Tryd.prog 74 := ent_ok tabOK0 (.cons (s_l1In_ok n) .nil) Tryd.func74 rfl (by kernel_rfl) (s_l12Bytes_ev n)
def s_l1Stands_i : CSh := ⟨[(.data true .str), (.data true (.int .u8))], []⟩
def s_l1Stands_o : RSh := ⟨(.data true .bool), []⟩
theorem s_l1Stands_ev (n : Nat) (x : TupT s_l1Stands_i.tys) : evF ⟨tab, [], n, [(6, ⟨[(0, (.data true .str)), (1, (.data true (.int .u8))), (5, (.data true tI))], [], 0⟩)]⟩ Tryd.f75 s_l1Stands_i s_l1Stands_o x = s_l1Stands n x.1 x.2 := by kernel_rfl
noncomputable def s_l1Stands_e (n : Nat) : Ent := ⟨75, s_l1Stands_i, s_l1Stands_o, fun x => s_l1Stands n x.1 x.2⟩
theorem s_l1Stands_ok (n : Nat) : EntOK Tryd.prog (s_l1Stands_e n) ∧ Own Tryd.prog 75 := ent_ok tabOK0 .nil Tryd.func75 rfl (by kernel_rfl) (s_l1Stands_ev n)
def s_l12Record_i : CSh := ⟨[(.data true (.pair .str .str))], []⟩
def s_l12Record_o : RSh := ⟨(.data true .bool), []⟩
theorem s_l12Record_ev (n : Nat) (x : TupT s_l12Record_i.tys) : evF ⟨tab, [s_l12Bytes_e n, s_l1Stands_e n], n, []⟩ Tryd.f51 s_l12Record_i s_l12Record_o x = s_l12Record n x := by kernel_rfl
noncomputable def s_l12Record_e (n : Nat) : Ent := ⟨51, s_l12Record_i, s_l12Record_o, fun x => s_l12Record n x⟩
theorem s_l12Record_ok (n : Nat) : EntOK Tryd.prog (s_l12Record_e n) ∧ Own Tryd.prog 51 := ent_ok tabOK0 (.cons (s_l12Bytes_ok n) (.cons (s_l1Stands_ok n) .nil)) Tryd.func51 rfl (by kernel_rfl) (s_l12Record_ev n)
def s_l1Sum_i : CSh := ⟨[(.data true .str)], []⟩
def s_l1Sum_o : RSh := ⟨(.data true tI), []⟩
theorem s_l1Sum_ev (n : Nat) (x : TupT s_l1Sum_i.tys) : evF ⟨tab, [], n, [(8, ⟨[(0, (.data true .str)), (3, (.data true tI)), (4, (.data true tI))], [], 0⟩)]⟩ Tryd.f92 s_l1Sum_i s_l1Sum_o x = s_l1Sum n x := by kernel_rfl
noncomputable def s_l1Sum_e (n : Nat) : Ent := ⟨92, s_l1Sum_i, s_l1Sum_o, fun x => s_l1Sum n x⟩
theorem s_l1Sum_ok (n : Nat) : EntOK Tryd.prog (s_l1Sum_e n) ∧ Own Tryd.prog 92 := ent_ok tabOK0 .nil Tryd.func92 rfl (by kernel_rfl) (s_l1Sum_ev n)
def s_l1Seal_i : CSh := ⟨[(.data true .str)], []⟩
def s_l1Seal_o : RSh := ⟨(.data true .str), []⟩
theorem s_l1Seal_ev (n : Nat) (x : TupT s_l1Seal_i.tys) : evF ⟨tab, [s_l1Sum_e n, s_l1Num_e n], n, []⟩ Tryd.f76 s_l1Seal_i s_l1Seal_o x = s_l1Seal n x := by kernel_rfl
noncomputable def s_l1Seal_e (n : Nat) : Ent := ⟨76, s_l1Seal_i, s_l1Seal_o, fun x => s_l1Seal n x⟩
theorem s_l1Seal_ok (n : Nat) : EntOK Tryd.prog (s_l1Seal_e n) ∧ Own Tryd.prog 76 := ent_ok tabOK0 (.cons (s_l1Sum_ok n) (.cons (s_l1Num_ok n) .nil)) Tryd.func76 rfl (by kernel_rfl) (s_l1Seal_ev n)
def s_l12Line_i : CSh := ⟨[(.data true tI), (.data true (.pair .str .str))], []⟩
def s_l12Line_o : RSh := ⟨(.data true .str), []⟩
theorem s_l12Line_ev (n : Nat) (x : TupT s_l12Line_i.tys) : evF ⟨tab, [s_l1Num_e n, s_l1Seal_e n], n, []⟩ Tryd.f52 s_l12Line_i s_l12Line_o x = s_l12Line n x.1 x.2 := by kernel_rfl
noncomputable def s_l12Line_e (n : Nat) : Ent := ⟨52, s_l12Line_i, s_l12Line_o, fun x => s_l12Line n x.1 x.2⟩
theorem s_l12Line_ok (n : Nat) : EntOK Tryd.prog (s_l12Line_e n) ∧ Own Tryd.prog 52 := ent_ok tabOK0 (.cons (s_l1Num_ok n) (.cons (s_l1Seal_ok n) .nil)) Tryd.func52 rfl (by kernel_rfl) (s_l12Line_ev n)
def s_l12Decode_i : CSh := ⟨[(.data true .str), (.data true tI)], []⟩
def s_l12Decode_o : RSh := ⟨(.tcons (.data true (.pair .str .str)) (.tcons (.data true .bool) .tnil)), []⟩
theorem s_l12Decode_ev (n : Nat) (x : TupT s_l12Decode_i.tys) : evF ⟨tab, [s_l1Num_e n, s_l1Split_e n, s_l12Record_e n, s_l12Line_e n], n, []⟩ Tryd.f79 s_l12Decode_i s_l12Decode_o x = s_l12Decode n x.1 x.2 := by kernel_rfl
noncomputable def s_l12Decode_e (n : Nat) : Ent := ⟨79, s_l12Decode_i, s_l12Decode_o, fun x => s_l12Decode n x.1 x.2⟩
theorem s_l12Decode_ok (n : Nat) : EntOK Tryd.prog (s_l12Decode_e n) ∧ Own Tryd.prog 79 := ent_ok tabOK0 (.cons (s_l1Num_ok n) (.cons (s_l1Split_ok n) (.cons (s_l12Record_ok n) (.cons (s_l12Line_ok n) .nil)))) Tryd.func79 rfl (by kernel_rfl) (s_l12Decode_ev n)
def s_l12Open_i : CSh := ⟨[(.data true .str)], []⟩
def s_l12Open_o : RSh := ⟨(.tcons (.own 0) (.tcons (.data true tI) .tnil)), [.rows 39 true (.pair .str .str)]⟩
theorem s_l12Open_ev (n : Nat) (x : TupT s_l12Open_i.tys) : evF ⟨tab, [s_l1Split_e n, s_l12Decode_e n], n, [(8, ⟨[(0, (.data true .str)), (4, (.own 0)), (5, (.data true tI))], [.rows 39 true (.pair .str .str)], 0⟩)]⟩ Tryd.f53 s_l12Open_i s_l12Open_o x = s_l12Open n x := by kernel_rfl
noncomputable def s_l12Open_e (n : Nat) : Ent := ⟨53, s_l12Open_i, s_l12Open_o, fun x => s_l12Open n x⟩
theorem s_l12Open_ok (n : Nat) : EntOK Tryd.prog (s_l12Open_e n) ∧ Own Tryd.prog 53 := ent_ok tabOK0 (.cons (s_l1Split_ok n) (.cons (s_l12Decode_ok n) .nil)) Tryd.func53 rfl (by kernel_rfl) (s_l12Open_ev n)
def s_l12Valid_i : CSh := ⟨[(.data true (.pair .str (.pair .str tI)))], []⟩
def s_l12Valid_o : RSh := ⟨(.data true .bool), []⟩
theorem s_l12Valid_ev (n : Nat) (x : TupT s_l12Valid_i.tys) : evF ⟨tab, [s_l12Open_e n], n, []⟩ Tryd.f48 s_l12Valid_i s_l12Valid_o x = s_l12Valid n x := by kernel_rfl
noncomputable def s_l12Valid_e (n : Nat) : Ent := ⟨48, s_l12Valid_i, s_l12Valid_o, fun x => s_l12Valid n x⟩
theorem s_l12Valid_ok (n : Nat) : EntOK Tryd.prog (s_l12Valid_e n) ∧ Own Tryd.prog 48 := ent_ok tabOK0 (.cons (s_l12Open_ok n) .nil) Tryd.func48 rfl (by kernel_rfl) (s_l12Valid_ev n)
def s_AppendRecord_i : CSh := ⟨[(.data true (.pair .str (.pair .str tI))), (.data true (.pair .str .str))], []⟩
def s_AppendRecord_o : RSh := ⟨(.tcons (.data true (.pair .str (.pair .str tI))) (.tcons (.data true tI) .tnil)), []⟩
theorem s_AppendRecord_ev (n : Nat) (x : TupT s_AppendRecord_i.tys) : evF ⟨tab, [s_l12Valid_e n, s_l12Record_e n, s_l12Line_e n], n, []⟩ Tryd.f18 s_AppendRecord_i s_AppendRecord_o x = s_AppendRecord n x.1 x.2 := by kernel_rfl
noncomputable def s_AppendRecord_e (n : Nat) : Ent := ⟨18, s_AppendRecord_i, s_AppendRecord_o, fun x => s_AppendRecord n x.1 x.2⟩
theorem s_AppendRecord_ok (n : Nat) : EntOK Tryd.prog (s_AppendRecord_e n) ∧ Own Tryd.prog 18 := ent_ok tabOK0 (.cons (s_l12Valid_ok n) (.cons (s_l12Record_ok n) (.cons (s_l12Line_ok n) .nil))) Tryd.func18 rfl (by kernel_rfl) (s_AppendRecord_ev n)
def s_Cur_one'p_i : CSh := ⟨[(.ptr 0 []), (.data true tI)], [.var 88 (.data true (.pair (.sl (.int .u8)) (.pair tI (.int .u64))))]⟩
def s_Cur_one'p_o : RSh := ⟨(.data true .bool), [.var 88 (.data true (.pair (.sl (.int .u8)) (.pair tI (.int .u64))))]⟩
theorem s_Cur_one'p_ev (n : Nat) (x : TupT s_Cur_one'p_i.tys) : evF ⟨tab, [s_Cur_pick'p_e n], n, []⟩ Tryd.f62 s_Cur_one'p_i s_Cur_one'p_o x = s_Cur_one'p n x.1 x.2 := by kernel_rfl
noncomputable def s_Cur_one'p_e (n : Nat) : Ent := ⟨62, s_Cur_one'p_i, s_Cur_one'p_o, fun x => s_Cur_one'p n x.1 x.2⟩
theorem s_Cur_one'p_ok (n : Nat) : EntOK Tryd.prog (s_Cur_one'p_e n) ∧ Own Tryd.prog 62 := ent_ok tabOK0 (.cons (s_Cur_pick'p_ok n) .nil) Tryd.func62 rfl (by kernel_rfl) (s_Cur_one'p_ev n)
def s_SyncLog_i : CSh := ⟨[(.data true (.pair .str (.pair .str tI)))], []⟩
def s_SyncLog_o : RSh := ⟨(.tcons (.data true (.pair .str (.pair .str tI))) (.tcons (.data true .bool) .tnil)), []⟩
theorem s_SyncLog_ev (n : Nat) (x : TupT s_SyncLog_i.tys) : evF ⟨tab, [s_l12Valid_e n], n, []⟩ Tryd.f14 s_SyncLog_i s_SyncLog_o x = s_SyncLog n x := by kernel_rfl
noncomputable def s_SyncLog_e (n : Nat) : Ent := ⟨14, s_SyncLog_i, s_SyncLog_o, fun x => s_SyncLog n x⟩
theorem s_SyncLog_ok (n : Nat) : EntOK Tryd.prog (s_SyncLog_e n) ∧ Own Tryd.prog 14 := ent_ok tabOK0 (.cons (s_l12Valid_ok n) .nil) Tryd.func14 rfl (by kernel_rfl) (s_SyncLog_ev n)
def s_Cur_log12'p_i : CSh := ⟨[(.ptr 0 [])], [.var 88 (.data true (.pair (.sl (.int .u8)) (.pair tI (.int .u64))))]⟩
def s_Cur_log12'p_o : RSh := ⟨(.data true (.pair .str (.pair .str tI))), [.var 88 (.data true (.pair (.sl (.int .u8)) (.pair tI (.int .u64))))]⟩
theorem s_Cur_log12'p_ev (n : Nat) (x : TupT s_Cur_log12'p_i.tys) : evF ⟨tab, [s_Cur_pick'p_e n, s_Cur_logRecord'p_e n, s_AppendRecord_e n, s_Cur_one'p_e n, s_SyncLog_e n], n, [(8, ⟨[(0, (.ptr 0 [])), (2, (.ptr 1 [])), (3, (.ptr 2 [])), (4, (.data true tI))], [.var 88 (.data true (.pair (.sl (.int .u8)) (.pair tI (.int .u64)))), .var 27 (.data true (.pair .str (.pair .str tI))), .var 27 (.data true (.pair .str (.pair .str tI)))], 1⟩)]⟩ Tryd.f67 s_Cur_log12'p_i s_Cur_log12'p_o x = s_Cur_log12'p n x := by kernel_rfl
noncomputable def s_Cur_log12'p_e (n : Nat) : Ent := ⟨67, s_Cur_log12'p_i, s_Cur_log12'p_o, fun x => s_Cur_log12'p n x⟩
theorem s_Cur_log12'p_ok (n : Nat) : EntOK Tryd.prog (s_Cur_log12'p_e n) ∧ Own Tryd.prog 67 := ent_ok tabOK0 (.cons (s_Cur_pick'p_ok n) (.cons (s_Cur_logRecord'p_ok n) (.cons (s_AppendRecord_ok n) (.cons (s_Cur_one'p_ok n) (.cons (s_SyncLog_ok n) .nil))))) Tryd.func67 rfl (by kernel_rfl) (s_Cur_log12'p_ev n)
def s_Cur_spoilt'p_i : CSh := ⟨[(.ptr 0 []), (.data true .str), (.data true .str)], [.var 88 (.data true (.pair (.sl (.int .u8)) (.pair tI (.int .u64))))]⟩
def s_Cur_spoilt'p_o : RSh := ⟨(.data true .str), [.var 88 (.data true (.pair (.sl (.int .u8)) (.pair tI (.int .u64))))]⟩
theorem s_Cur_spoilt'p_ev (n : Nat) (x : TupT s_Cur_spoilt'p_i.tys) : evF ⟨tab, [s_Cur_pick'p_e n], n, []⟩ Tryd.f68 s_Cur_spoilt'p_i s_Cur_spoilt'p_o x = s_Cur_spoilt'p n x.1 x.2.1 x.2.2 := by kernel_rfl
noncomputable def s_Cur_spoilt'p_e (n : Nat) : Ent := ⟨68, s_Cur_spoilt'p_i, s_Cur_spoilt'p_o, fun x => s_Cur_spoilt'p n x.1 x.2.1 x.2.2⟩
theorem s_Cur_spoilt'p_ok (n : Nat) : EntOK Tryd.prog (s_Cur_spoilt'p_e n) ∧ Own Tryd.prog 68 := ent_ok tabOK0 (.cons (s_Cur_pick'p_ok n) .nil) Tryd.func68 rfl (by kernel_rfl) (s_Cur_spoilt'p_ev n)
def s_Cur_anyLog'p_i : CSh := ⟨[(.ptr 0 [])], [.var 88 (.data true (.pair (.sl (.int .u8)) (.pair tI (.int .u64))))]⟩
def s_Cur_anyLog'p_o : RSh := ⟨(.data true (.pair .str (.pair .str tI))), [.var 88 (.data true (.pair (.sl (.int .u8)) (.pair tI (.int .u64))))]⟩
theorem s_Cur_anyLog'p_ev (n : Nat) (x : TupT s_Cur_anyLog'p_i.tys) : evF ⟨tab, [s_Cur_log12'p_e n, s_Cur_pick'p_e n, s_Cur_spoilt'p_e n], n, []⟩ Tryd.f61 s_Cur_anyLog'p_i s_Cur_anyLog'p_o x = s_Cur_anyLog'p n x := by kernel_rfl
noncomputable def s_Cur_anyLog'p_e (n : Nat) : Ent := ⟨61, s_Cur_anyLog'p_i, s_Cur_anyLog'p_o, fun x => s_Cur_anyLog'p n x⟩
theorem s_Cur_anyLog'p_ok (n : Nat) : EntOK Tryd.prog (s_Cur_anyLog'p_e n) ∧ Own Tryd.prog 61 := ent_ok tabOK0 (.cons (s_Cur_log12'p_ok n) (.cons (s_Cur_pick'p_ok n) (.cons (s_Cur_spoilt'p_ok n) .nil))) Tryd.func61 rfl (by kernel_rfl) (s_Cur_anyLog'p_ev n)
def s_DrawCrashLog_i : CSh := ⟨[(.data false (.sl (.int .u8)))], []⟩
def s_DrawCrashLog_o : RSh := ⟨(.tcons (.data true (.pair .str (.pair .str tI))) (.tcons (.data true tI) (.tcons (.data true .bool) .tnil))), []⟩
theorem s_DrawCrashLog_ev (n : Nat) (x : TupT s_DrawCrashLog_i.tys) : evF ⟨tab, [s_Cur_anyLog'p_e n, s_Cur_pick'p_e n, s_Cur_one'p_e n], n, []⟩ Tryd.f39 s_DrawCrashLog_i s_DrawCrashLog_o x = s_DrawCrashLog n x := by kernel_rfl
noncomputable def s_DrawCrashLog_e (n : Nat) : Ent := ⟨39, s_DrawCrashLog_i, s_DrawCrashLog_o, fun x => s_DrawCrashLog n x⟩
theorem s_DrawCrashLog_ok (n : Nat) : EntOK Tryd.prog (s_DrawCrashLog_e n) ∧ Own Tryd.prog 39 := ent_ok tabOK0 (.cons (s_Cur_anyLog'p_ok n) (.cons (s_Cur_pick'p_ok n) (.cons (s_Cur_one'p_ok n) .nil))) Tryd.func39 rfl (by kernel_rfl) (s_DrawCrashLog_ev n)
noncomputable def x_IndexByteString_e (n : Nat) : Ent := ⟨120, ⟨[(.data true .str), (.data true (.int .u8))], []⟩, ⟨(.data true tI), []⟩, fun x => x_IndexByteString n x.1 x.2⟩
theorem x_IndexByteString_ok (n : Nat) : ExtOK Tryd.prog (x_IndexByteString_e n) := ext_indexByte Tryd.func120 rfl rfl rfl rfl _ fun _ => rfl
def internal_stringslite_IndexByte_i : CSh := ⟨[(.data true .str), (.data true (.int .u8))], []⟩
def internal_stringslite_IndexByte_o : RSh := ⟨(.data true tI), []⟩
theorem internal_stringslite_IndexByte_ev (n : Nat) (x : TupT internal_stringslite_IndexByte_i.tys) : evF ⟨tab, [x_IndexByteString_e n], n, []⟩ Tryd.f109 internal_stringslite_IndexByte_i internal_stringslite_IndexByte_o x = internal_stringslite_IndexByte n x.1 x.2 := by kernel_rfl
noncomputable def internal_stringslite_IndexByte_e (n : Nat) : Ent := ⟨109, internal_stringslite_IndexByte_i, internal_stringslite_IndexByte_o, fun x => internal_stringslite_IndexByte n x.1 x.2⟩
theorem internal_stringslite_IndexByte_ok (n : Nat) : EntOK Tryd.prog (internal_stringslite_IndexByte_e n) ∧ Own Tryd.prog 109 := ent_ok tabOK0 (.consX (x_IndexByteString_ok n) .nil) Tryd.func109 rfl (by kernel_rfl) (internal_stringslite_IndexByte_ev n)
def internal_stringslite_Index_s_i : CSh := ⟨[(.data true .str), (.data true .str)], []⟩
def internal_stringslite_Index_s_o : RSh := ⟨(.data true tI), []⟩
theorem internal_stringslite_Index_s_ev (n : Nat) (x : TupT internal_stringslite_Index_s_i.tys) : evF ⟨tab, [internal_stringslite_IndexByte_e n], n, []⟩ Tryd.f102 internal_stringslite_Index_s_i internal_stringslite_Index_s_o x = internal_stringslite_Index_s n x.1 x.2 := by kernel_rfl
noncomputable def internal_stringslite_Index_s_e (n : Nat) : Ent := ⟨102, internal_stringslite_Index_s_i, internal_stringslite_Index_s_o, fun x => internal_stringslite_Index_s n x.1 x.2⟩
theorem internal_stringslite_Index_s_ok (n : Nat) : EntOK Tryd.prog (internal_stringslite_Index_s_e n) ∧ Own Tryd.prog 102 := ent_ok tabOK0 (.cons (internal_stringslite_IndexByte_ok n) .nil) Tryd.func102 rfl (by kernel_rfl) (internal_stringslite_Index_s_ev n)
def internal_stringslite_Cut_i : CSh := ⟨[(.data true .str), (.data true .str)], []⟩
def internal_stringslite_Cut_o : RSh := ⟨(.tcons (.data true .str) (.tcons (.data true .str) (.tcons (.data true .bool) .tnil))), []⟩
theorem internal_stringslite_Cut_ev (n : Nat) (x : TupT internal_stringslite_Cut_i.tys) : evF ⟨tab, [internal_stringslite_Index_s_e n], n, []⟩ Tryd.f93 internal_stringslite_Cut_i internal_stringslite_Cut_o x = internal_stringslite_Cut n x.1 x.2 := by kernel_rfl
noncomputable def internal_stringslite_Cut_e (n : Nat) : Ent := ⟨93, internal_stringslite_Cut_i, internal_stringslite_Cut_o, fun x => internal_stringslite_Cut n x.1 x.2⟩
theorem internal_stringslite_Cut_ok (n : Nat) : EntOK Tryd.prog (internal_stringslite_Cut_e n) ∧ Own Tryd.prog 93 := ent_ok tabOK0 (.cons (internal_stringslite_Index_s_ok n) .nil) Tryd.func93 rfl (by kernel_rfl) (internal_stringslite_Cut_ev n)
def strings_Cut_i : CSh := ⟨[(.data true .str), (.data true .str)], []⟩
def strings_Cut_o : RSh := ⟨(.tcons (.data true .str) (.tcons (.data true .str) (.tcons (.data true .bool) .tnil))), []⟩
theorem strings_Cut_ev (n : Nat) (x : TupT strings_Cut_i.tys) : evF ⟨tab, [internal_stringslite_Cut_e n], n, []⟩ Tryd.f80 strings_Cut_i strings_Cut_o x = strings_Cut n x.1 x.2 := by kernel_rfl
noncomputable def strings_Cut_e (n : Nat) : Ent := ⟨80, strings_Cut_i, strings_Cut_o, fun x => strings_Cut n x.1 x.2⟩
theorem strings_Cut_ok (n : Nat) : EntOK Tryd.prog (strings_Cut_e n) ∧ Own Tryd.prog 80 := ent_ok tabOK0 (.cons (internal_stringslite_Cut_ok n) .nil) Tryd.func80 rfl (by kernel_rfl) (strings_Cut_ev n)
def i_within_i : CSh := ⟨[(.data true tI), (.data true tI), (.data true tI)], []⟩
def i_within_o : RSh := ⟨(.data true .bool), []⟩
theorem i_within_ev (n : Nat) (x : TupT i_within_i.tys) : evF ⟨tab, [], n, []⟩ Tryd.f50 i_within_i i_within_o x = i_within n x.1 x.2.1 x.2.2 := by kernel_rfl
noncomputable def i_within_e (n : Nat) : Ent := ⟨50, i_within_i, i_within_o, fun x => i_within n x.1 x.2.1 x.2.2⟩
theorem i_within_ok (n : Nat) : EntOK Tryd.prog (i_within_e n) ∧ Own Tryd.prog 50 := ent_ok tabOK0 .nil Tryd.func50 rfl (by kernel_rfl) (i_within_ev n)
def i_isPlain_i : CSh := ⟨[(.data true .str), (.data true tI)], []⟩
def i_isPlain_o : RSh := ⟨(.data true .bool), []⟩
theorem i_isPlain_ev (n : Nat) (x : TupT i_isPlain_i.tys) : evF ⟨tab, [], n, [(6, ⟨[(0, (.data true .str)), (1, (.data true tI)), (7, (.data true tI)), (8, (.data true tI))], [], 0⟩)]⟩ Tryd.f65 i_isPlain_i i_isPlain_o x = i_isPlain n x.1 x.2 := by kernel_rfl
noncomputable def i_isPlain_e (n : Nat) : Ent := ⟨65, i_isPlain_i, i_isPlain_o, fun x => i_isPlain n x.1 x.2⟩
theorem i_isPlain_ok (n : Nat) : EntOK Tryd.prog (i_isPlain_e n) ∧ Own Tryd.prog 65 := ent_ok tabOK0 .nil Tryd.func65 rfl (by kernel_rfl) (i_isPlain_ev n)
def strings_Index_i : CSh := ⟨[(.data true .str), (.data true .str)], []⟩
def strings_Index_o : RSh := ⟨(.data true tI), []⟩
theorem strings_Index_ev (n : Nat) (x : TupT strings_Index_i.tys) : evF ⟨tab, [internal_stringslite_Index_s_e n], n, []⟩ Tryd.f94 strings_Index_i strings_Index_o x = strings_Index n x.1 x.2 := by kernel_rfl
noncomputable def strings_Index_e (n : Nat) : Ent := ⟨94, strings_Index_i, strings_Index_o, fun x => strings_Index n x.1 x.2⟩
theorem strings_Index_ok (n : Nat) : EntOK Tryd.prog (strings_Index_e n) ∧ Own Tryd.prog 94 := ent_ok tabOK0 (.cons (internal_stringslite_Index_s_ok n) .nil) Tryd.func94 rfl (by kernel_rfl) (strings_Index_ev n)
def strings_Contains_i : CSh := ⟨[(.data true .str), (.data true .str)], []⟩
def strings_Contains_o : RSh := ⟨(.data true .bool), []⟩
theorem strings_Contains_ev (n : Nat) (x : TupT strings_Contains_i.tys) : evF ⟨tab, [strings_Index_e n], n, []⟩ Tryd.f82 strings_Contains_i strings_Contains_o x = strings_Contains n x.1 x.2 := by kernel_rfl
noncomputable def strings_Contains_e (n : Nat) : Ent := ⟨82, strings_Contains_i, strings_Contains_o, fun x => strings_Contains n x.1 x.2⟩
theorem strings_Contains_ok (n : Nat) : EntOK Tryd.prog (strings_Contains_e n) ∧ Own Tryd.prog 82 := ent_ok tabOK0 (.cons (strings_Index_ok n) .nil) Tryd.func82 rfl (by kernel_rfl) (strings_Contains_ev n)
def i_isCommand_i : CSh := ⟨[(.data true .str)], []⟩
def i_isCommand_o : RSh := ⟨(.data true .bool), []⟩
theorem i_isCommand_ev (n : Nat) (x : TupT i_isCommand_i.tys) : evF ⟨tab, [i_isPlain_e n, strings_Contains_e n], n, []⟩ Tryd.f64 i_isCommand_i i_isCommand_o x = i_isCommand n x := by kernel_rfl
noncomputable def i_isCommand_e (n : Nat) : Ent := ⟨64, i_isCommand_i, i_isCommand_o, fun x => i_isCommand n x⟩
theorem i_isCommand_ok (n : Nat) : EntOK Tryd.prog (i_isCommand_e n) ∧ Own Tryd.prog 64 := ent_ok tabOK0 (.cons (i_isPlain_ok n) (.cons (strings_Contains_ok n) .nil)) Tryd.func64 rfl (by kernel_rfl) (i_isCommand_ev n)
def i_IsValidRecord_i : CSh := ⟨[(.data true (.pair .str .str))], []⟩
def i_IsValidRecord_o : RSh := ⟨(.data true .bool), []⟩
theorem i_IsValidRecord_ev (n : Nat) (x : TupT i_IsValidRecord_i.tys) : evF ⟨tab, [i_isCommand_e n, i_isPlain_e n], n, []⟩ Tryd.f34 i_IsValidRecord_i i_IsValidRecord_o x = i_IsValidRecord n x := by kernel_rfl
noncomputable def i_IsValidRecord_e (n : Nat) : Ent := ⟨34, i_IsValidRecord_i, i_IsValidRecord_o, fun x => i_IsValidRecord n x⟩
theorem i_IsValidRecord_ok (n : Nat) : EntOK Tryd.prog (i_IsValidRecord_e n) ∧ Own Tryd.prog 34 := ent_ok tabOK0 (.cons (i_isCommand_ok n) (.cons (i_isPlain_ok n) .nil)) Tryd.func34 rfl (by kernel_rfl) (i_IsValidRecord_ev n)
noncomputable def strconv_Itoa_e (n : Nat) : Ent := ⟨60, ⟨[(.data true tI)], []⟩, ⟨(.data true .str), []⟩, fun x => strconv_Itoa n x⟩
theorem strconv_Itoa_ok (n : Nat) : EntOK Tryd.prog (strconv_Itoa_e n) ∧ Own Tryd.prog 60 := ent_itoa Tryd.func60 rfl (by kernel_rfl) (fun m w h0 h1 hI => Any.strconv_Itoa Tryd.laysItoa m h0 h1 w hI) _ fun _ => rfl
def i_checksum_i : CSh := ⟨[(.data true .str)], []⟩
def i_checksum_o : RSh := ⟨(.data true tI), []⟩
theorem i_checksum_ev (n : Nat) (x : TupT i_checksum_i.tys) : evF ⟨tab, [], n, [(8, ⟨[(0, (.data true .str)), (3, (.data true tI)), (6, (.data true tI)), (7, (.data true tI))], [], 0⟩)]⟩ Tryd.f83 i_checksum_i i_checksum_o x = i_checksum n x := by kernel_rfl
noncomputable def i_checksum_e (n : Nat) : Ent := ⟨83, i_checksum_i, i_checksum_o, fun x => i_checksum n x⟩
theorem i_checksum_ok (n : Nat) : EntOK Tryd.prog (i_checksum_e n) ∧ Own Tryd.prog 83 := ent_ok tabOK0 .nil Tryd.func83 rfl (by kernel_rfl) (i_checksum_ev n)
def i_AppendChecksum_i : CSh := ⟨[(.data true .str)], []⟩
def i_AppendChecksum_o : RSh := ⟨(.tcons (.data true .str) (.tcons (.data true .bool) .tnil)), []⟩
theorem i_AppendChecksum_ev (n : Nat) (x : TupT i_AppendChecksum_i.tys) : evF ⟨tab, [strings_Contains_e n, i_checksum_e n, strconv_Itoa_e n], n, []⟩ Tryd.f59 i_AppendChecksum_i i_AppendChecksum_o x = i_AppendChecksum n x := by kernel_rfl
noncomputable def i_AppendChecksum_e (n : Nat) : Ent := ⟨59, i_AppendChecksum_i, i_AppendChecksum_o, fun x => i_AppendChecksum n x⟩
theorem i_AppendChecksum_ok (n : Nat) : EntOK Tryd.prog (i_AppendChecksum_e n) ∧ Own Tryd.prog 59 := ent_ok tabOK0 (.cons (strings_Contains_ok n) (.cons (i_checksum_ok n) (.cons (strconv_Itoa_ok n) .nil))) Tryd.func59 rfl (by kernel_rfl) (i_AppendChecksum_ev n)
def i_EncodeRecord_i : CSh := ⟨[(.data true tI), (.data true (.pair .str .str))], []⟩
def i_EncodeRecord_o : RSh := ⟨(.tcons (.data true .str) (.tcons (.data true .bool) .tnil)), []⟩
theorem i_EncodeRecord_ev (n : Nat) (x : TupT i_EncodeRecord_i.tys) : evF ⟨tab, [i_within_e n, i_IsValidRecord_e n, strconv_Itoa_e n, i_AppendChecksum_e n], n, []⟩ Tryd.f30 i_EncodeRecord_i i_EncodeRecord_o x = i_EncodeRecord n x.1 x.2 := by kernel_rfl
noncomputable def i_EncodeRecord_e (n : Nat) : Ent := ⟨30, i_EncodeRecord_i, i_EncodeRecord_o, fun x => i_EncodeRecord n x.1 x.2⟩
theorem i_EncodeRecord_ok (n : Nat) : EntOK Tryd.prog (i_EncodeRecord_e n) ∧ Own Tryd.prog 30 := ent_ok tabOK0 (.cons (i_within_ok n) (.cons (i_IsValidRecord_ok n) (.cons (strconv_Itoa_ok n) (.cons (i_AppendChecksum_ok n) .nil)))) Tryd.func30 rfl (by kernel_rfl) (i_EncodeRecord_ev n)
def i_records_i : CSh := ⟨[(.data true .str)], []⟩
def i_records_o : RSh := ⟨(.tcons (.own 0) (.tcons (.own 1) .tnil)), [.rows 39 true (.pair .str .str), .rows 3 true tI]⟩
theorem i_records_ev (n : Nat) (x : TupT i_records_i.tys) : evF ⟨tab, [strings_Cut_e n, i_EncodeRecord_e n], n, [(6, ⟨[(0, (.data true .str)), (4, (.own 0)), (5, (.own 1)), (6, (.data true tI))], [.rows 39 true (.pair .str .str), .rows 3 true tI], 0⟩)]⟩ Tryd.f54 i_records_i i_records_o x = i_records n x := by kernel_rfl
noncomputable def i_records_e (n : Nat) : Ent := ⟨54, i_records_i, i_records_o, fun x => i_records n x⟩
theorem i_records_ok (n : Nat) : EntOK Tryd.prog (i_records_e n) ∧ Own Tryd.prog 54 := ent_ok tabOK0 (.cons (strings_Cut_ok n) (.cons (i_EncodeRecord_ok n) .nil)) Tryd.func54 rfl (by kernel_rfl) (i_records_ev n)
def slices_Index_Sint_int__i : CSh := ⟨[(.data false (.sl tI)), (.data true tI)], []⟩
def slices_Index_Sint_int__o : RSh := ⟨(.data true tI), []⟩
theorem slices_Index_Sint_int__ev (n : Nat) (x : TupT slices_Index_Sint_int__i.tys) : evF ⟨tab, [], n, [(6, ⟨[(0, (.data false (.sl tI))), (1, (.data true tI)), (7, (.data true tI)), (8, (.data true tI))], [], 0⟩)]⟩ Tryd.f86 slices_Index_Sint_int__i slices_Index_Sint_int__o x = slices_Index_Sint_int_ n x.1 x.2 := by kernel_rfl
noncomputable def slices_Index_Sint_int__e (n : Nat) : Ent := ⟨86, slices_Index_Sint_int__i, slices_Index_Sint_int__o, fun x => slices_Index_Sint_int_ n x.1 x.2⟩
theorem slices_Index_Sint_int__ok (n : Nat) : EntOK Tryd.prog (slices_Index_Sint_int__e n) ∧ Own Tryd.prog 86 := ent_ok tabOK0 .nil Tryd.func86 rfl (by kernel_rfl) (slices_Index_Sint_int__ev n)
def slices_Contains_Sint_int__i : CSh := ⟨[(.data false (.sl tI)), (.data true tI)], []⟩
def slices_Contains_Sint_int__o : RSh := ⟨(.data true .bool), []⟩
theorem slices_Contains_Sint_int__ev (n : Nat) (x : TupT slices_Contains_Sint_int__i.tys) : evF ⟨tab, [slices_Index_Sint_int__e n], n, []⟩ Tryd.f66 slices_Contains_Sint_int__i slices_Contains_Sint_int__o x = slices_Contains_Sint_int_ n x.1 x.2 := by kernel_rfl
noncomputable def slices_Contains_Sint_int__e (n : Nat) : Ent := ⟨66, slices_Contains_Sint_int__i, slices_Contains_Sint_int__o, fun x => slices_Contains_Sint_int_ n x.1 x.2⟩
theorem slices_Contains_Sint_int__ok (n : Nat) : EntOK Tryd.prog (slices_Contains_Sint_int__e n) ∧ Own Tryd.prog 66 := ent_ok tabOK0 (.cons (slices_Index_Sint_int__ok n) .nil) Tryd.func66 rfl (by kernel_rfl) (slices_Contains_Sint_int__ev n)
def i_IsValidLog_i : CSh := ⟨[(.data true (.pair .str (.pair .str tI)))], []⟩
def i_IsValidLog_o : RSh := ⟨(.data true .bool), []⟩
theorem i_IsValidLog_ev (n : Nat) (x : TupT i_IsValidLog_i.tys) : evF ⟨tab, [i_records_e n, slices_Contains_Sint_int__e n], n, []⟩ Tryd.f36 i_IsValidLog_i i_IsValidLog_o x = i_IsValidLog n x := by kernel_rfl
noncomputable def i_IsValidLog_e (n : Nat) : Ent := ⟨36, i_IsValidLog_i, i_IsValidLog_o, fun x => i_IsValidLog n x⟩
theorem i_IsValidLog_ok (n : Nat) : EntOK Tryd.prog (i_IsValidLog_e n) ∧ Own Tryd.prog 36 := ent_ok tabOK0 (.cons (i_records_ok n) (.cons (slices_Contains_Sint_int__ok n) .nil)) Tryd.func36 rfl (by kernel_rfl) (i_IsValidLog_ev n)
def i_CrashLog_i : CSh := ⟨[(.data true (.pair .str (.pair .str tI))), (.data true tI), (.data true .bool)], []⟩
def i_CrashLog_o : RSh := ⟨(.tcons (.data true .str) (.tcons (.data true .bool) .tnil)), []⟩
theorem i_CrashLog_ev (n : Nat) (x : TupT i_CrashLog_i.tys) : evF ⟨tab, [i_IsValidLog_e n, i_within_e n], n, []⟩ Tryd.f13 i_CrashLog_i i_CrashLog_o x = i_CrashLog n x.1 x.2.1 x.2.2 := by kernel_rfl
noncomputable def i_CrashLog_e (n : Nat) : Ent := ⟨13, i_CrashLog_i, i_CrashLog_o, fun x => i_CrashLog n x.1 x.2.1 x.2.2⟩
theorem i_CrashLog_ok (n : Nat) : EntOK Tryd.prog (i_CrashLog_e n) ∧ Own Tryd.prog 13 := ent_ok tabOK0 (.cons (i_IsValidLog_ok n) (.cons (i_within_ok n) .nil)) Tryd.func13 rfl (by kernel_rfl) (i_CrashLog_ev n)
def s_CrashLog_i : CSh := ⟨[(.data true (.pair .str (.pair .str tI))), (.data true tI), (.data true .bool)], []⟩
def s_CrashLog_o : RSh := ⟨(.tcons (.data true .str) (.tcons (.data true .bool) .tnil)), []⟩
theorem s_CrashLog_ev (n : Nat) (x : TupT s_CrashLog_i.tys) : evF ⟨tab, [s_l12Valid_e n, s_l1In_e n], n, [(12, ⟨[(3, (.ptr 0 [])), (8, (.own 1))], [.var 27 (.data true (.pair .str (.pair .str tI))), .rows 5 true (.int .u8)], 0⟩)]⟩ Tryd.f11 s_CrashLog_i s_CrashLog_o x = s_CrashLog n x.1 x.2.1 x.2.2 := by kernel_rfl
noncomputable def s_CrashLog_e (n : Nat) : Ent := ⟨11, s_CrashLog_i, s_CrashLog_o, fun x => s_CrashLog n x.1 x.2.1 x.2.2⟩
theorem s_CrashLog_ok (n : Nat) : EntOK Tryd.prog (s_CrashLog_e n) ∧ Own Tryd.prog 11 := ent_ok tabOK0 (.cons (s_l12Valid_ok n) (.cons (s_l1In_ok n) .nil)) Tryd.func11 rfl (by kernel_rfl) (s_CrashLog_ev n)
def v_vCut_i : CSh := ⟨[(.data false (.sl (.int .u8))), (.data true tI)], []⟩
def v_vCut_o : RSh := ⟨(.own 0), [.rows 5 true (.int .u8)]⟩
theorem v_vCut_ev (n : Nat) (x : TupT v_vCut_i.tys) : evF ⟨tab, [], n, [(2, ⟨[(0, (.data false (.sl (.int .u8)))), (1, (.data true tI))], [], 0⟩)]⟩ Tryd.f29 v_vCut_i v_vCut_o x = v_vCut n x.1 x.2 := by kernel_rfl
noncomputable def v_vCut_e (n : Nat) : Ent := ⟨29, v_vCut_i, v_vCut_o, fun x => v_vCut n x.1 x.2⟩
theorem v_vCut_ok (n : Nat) : EntOK Tryd.prog (v_vCut_e n) ∧ Own Tryd.prog 29 := ent_ok tabOK0 .nil Tryd.func29 rfl (by kernel_rfl) (v_vCut_ev n)
def s_DrawRecoverLog_i : CSh := ⟨[(.data false (.sl (.int .u8)))], []⟩
def s_DrawRecoverLog_o : RSh := ⟨(.data true .str), []⟩
theorem s_DrawRecoverLog_ev (n : Nat) (x : TupT s_DrawRecoverLog_i.tys) : evF ⟨tab, [s_Cur_log12'p_e n, s_Cur_one'p_e n, s_Cur_pick'p_e n, s_Cur_spoilt'p_e n, s_Cur_logRecord'p_e n, s_l12Line_e n], n, [(8, ⟨[(3, (.ptr 0 [])), (5, (.data true .str))], [.var 88 (.data false (.pair (.sl (.int .u8)) (.pair tI (.int .u64))))], 0⟩)]⟩ Tryd.f40 s_DrawRecoverLog_i s_DrawRecoverLog_o x = s_DrawRecoverLog n x := by kernel_rfl
noncomputable def s_DrawRecoverLog_e (n : Nat) : Ent := ⟨40, s_DrawRecoverLog_i, s_DrawRecoverLog_o, fun x => s_DrawRecoverLog n x⟩
theorem s_DrawRecoverLog_ok (n : Nat) : EntOK Tryd.prog (s_DrawRecoverLog_e n) ∧ Own Tryd.prog 40 := ent_ok tabOK0 (.cons (s_Cur_log12'p_ok n) (.cons (s_Cur_one'p_ok n) (.cons (s_Cur_pick'p_ok n) (.cons (s_Cur_spoilt'p_ok n) (.cons (s_Cur_logRecord'p_ok n) (.cons (s_l12Line_ok n) .nil)))))) Tryd.func40 rfl (by kernel_rfl) (s_DrawRecoverLog_ev n)
def i_RecoverLog_i : CSh := ⟨[(.data true .str)], []⟩
def i_RecoverLog_o : RSh := ⟨(.tcons (.data true (.pair .str (.pair .str tI))) (.tcons (.data true tI) (.tcons (.data true .bool) .tnil))), []⟩
theorem i_RecoverLog_ev (n : Nat) (x : TupT i_RecoverLog_i.tys) : evF ⟨tab, [i_records_e n], n, []⟩ Tryd.f41 i_RecoverLog_i i_RecoverLog_o x = i_RecoverLog n x := by kernel_rfl
noncomputable def i_RecoverLog_e (n : Nat) : Ent := ⟨41, i_RecoverLog_i, i_RecoverLog_o, fun x => i_RecoverLog n x⟩
theorem i_RecoverLog_ok (n : Nat) : EntOK Tryd.prog (i_RecoverLog_e n) ∧ Own Tryd.prog 41 := ent_ok tabOK0 (.cons (i_records_ok n) .nil) Tryd.func41 rfl (by kernel_rfl) (i_RecoverLog_ev n)
def s_RecoverLog_i : CSh := ⟨[(.data true .str)], []⟩
def s_RecoverLog_o : RSh := ⟨(.tcons (.data true (.pair .str (.pair .str tI))) (.tcons (.data true tI) (.tcons (.data true .bool) .tnil))), []⟩
theorem s_RecoverLog_ev (n : Nat) (x : TupT s_RecoverLog_i.tys) : evF ⟨tab, [s_l12Open_e n], n, []⟩ Tryd.f42 s_RecoverLog_i s_RecoverLog_o x = s_RecoverLog n x := by kernel_rfl
noncomputable def s_RecoverLog_e (n : Nat) : Ent := ⟨42, s_RecoverLog_i, s_RecoverLog_o, fun x => s_RecoverLog n x⟩
theorem s_RecoverLog_ok (n : Nat) : EntOK Tryd.prog (s_RecoverLog_e n) ∧ Own Tryd.prog 42 := ent_ok tabOK0 (.cons (s_l12Open_ok n) .nil) Tryd.func42 rfl (by kernel_rfl) (s_RecoverLog_ev n)
def i_LogRecords_i : CSh := ⟨[(.data true (.pair .str (.pair .str tI)))], []⟩
def i_LogRecords_o : RSh := ⟨(.tcons (.own 0) (.tcons (.data true .bool) .tnil)), [.rows 39 true (.pair .str .str)]⟩
theorem i_LogRecords_ev (n : Nat) (x : TupT i_LogRecords_i.tys) : evF ⟨tab, [i_IsValidLog_e n, i_records_e n], n, []⟩ Tryd.f22 i_LogRecords_i i_LogRecords_o x = i_LogRecords n x := by kernel_rfl
noncomputable def i_LogRecords_e (n : Nat) : Ent := ⟨22, i_LogRecords_i, i_LogRecords_o, fun x => i_LogRecords n x⟩
theorem i_LogRecords_ok (n : Nat) : EntOK Tryd.prog (i_LogRecords_e n) ∧ Own Tryd.prog 22 := ent_ok tabOK0 (.cons (i_IsValidLog_ok n) (.cons (i_records_ok n) .nil)) Tryd.func22 rfl (by kernel_rfl) (i_LogRecords_ev n)
def v_vRecords_i : CSh := ⟨[(.data false (.sl (.pair .str .str))), (.data false (.sl (.pair .str .str)))], []⟩
def v_vRecords_o : RSh := ⟨(.data true .bool), []⟩
theorem v_vRecords_ev (n : Nat) (x : TupT v_vRecords_i.tys) : evF ⟨tab, [], n, [(14, ⟨[(0, (.data false (.sl (.pair .str .str)))), (1, (.data false (.sl (.pair .str .str)))), (5, (.data true tI))], [], 0⟩)]⟩ Tryd.f38 v_vRecords_i v_vRecords_o x = v_vRecords n x.1 x.2 := by kernel_rfl
noncomputable def v_vRecords_e (n : Nat) : Ent := ⟨38, v_vRecords_i, v_vRecords_o, fun x => v_vRecords n x.1 x.2⟩
theorem v_vRecords_ok (n : Nat) : EntOK Tryd.prog (v_vRecords_e n) ∧ Own Tryd.prog 38 := ent_ok tabOK0 .nil Tryd.func38 rfl (by kernel_rfl) (v_vRecords_ev n)
def v_FnCrashes_i : CSh := ⟨[(.data false (.sl (.int .u8)))], []⟩
def v_FnCrashes_o : RSh := ⟨(.data true .bool), []⟩
theorem v_FnCrashes_ev (n : Nat) (x : TupT v_FnCrashes_i.tys) : evF ⟨tab, [v_vBig_e n, s_DrawCrashLog_e n, i_CrashLog_e n, s_CrashLog_e n, v_vCut_e n, s_DrawRecoverLog_e n, i_RecoverLog_e n, s_RecoverLog_e n, i_IsValidLog_e n, i_LogRecords_e n, v_vRecords_e n], n, []⟩ Tryd.f8 v_FnCrashes_i v_FnCrashes_o x = v_FnCrashes n x := by kernel_rfl
noncomputable def v_FnCrashes_e (n : Nat) : Ent := ⟨8, v_FnCrashes_i, v_FnCrashes_o, fun x => v_FnCrashes n x⟩
theorem v_FnCrashes_ok (n : Nat) : EntOK Tryd.prog (v_FnCrashes_e n) ∧ Own Tryd.prog 8 := ent_ok tabOK0 (.cons (v_vBig_ok n) (.cons (s_DrawCrashLog_ok n) (.cons (i_CrashLog_ok n) (.cons (s_CrashLog_ok n) (.cons (v_vCut_ok n) (.cons (s_DrawRecoverLog_ok n) (.cons (i_RecoverLog_ok n) (.cons (s_RecoverLog_ok n) (.cons (i_IsValidLog_ok n) (.cons (i_LogRecords_ok n) (.cons (v_vRecords_ok n) .nil))))))))))) Tryd.func8 rfl (by kernel_rfl) (v_FnCrashes_ev n)
end Go.Proofs.YtkhfihbaopbblaaDoor
