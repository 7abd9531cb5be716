/- Printed by a program of the session: the contracts of the seat's functions. -/
import Derived.Test.YtklhncjpkkfjmaaZ7
import Derived.Test.YtklhncjpkkfjmaaPL
import Derived.Test.YtklhncjpkkfjmaaRows
import Derived.KernelRfl
namespace Go.Proofs.Ytklhncjpkkfjmaa
open Go Go.Tv Go.Pl Go.RowKit
set_option linter.unusedVariables false
abbrev tI : Ty := .int .i64
def tab : Tab := ⟨[(2, ⟨tI, 0, 8⟩), (3, ⟨tI, 0, 8⟩), (4, ⟨.bool, 0, 1⟩), (5, ⟨(.int .u8), 0, 1⟩), (6, ⟨(.int .u8), 0, 1⟩), (7, ⟨(.pair tI (.pair tI (.pair .bool (.int .u8)))), 4, 24⟩), (8, ⟨(.pair tI (.pair tI (.pair .bool (.int .u8)))), 4, 24⟩), (9, ⟨.str, 0, 16⟩), (10, ⟨.str, 0, 16⟩), (11, ⟨.str, 0, 16⟩), (12, ⟨(.int .u64), 0, 8⟩), (13, ⟨(.pair .str (.int .u64)), 2, 24⟩), (14, ⟨(.pair .str (.int .u64)), 2, 24⟩), (21, ⟨(.int .i32), 0, 4⟩), (22, ⟨(.sl (.int .u8)), 5, 1⟩), (24, ⟨(.sl (.arr 4 tI)), 43, 32⟩), (26, ⟨(.sl (.arr 3 tI)), 89, 24⟩), (43, ⟨(.arr 4 tI), 3, 8⟩), (46, ⟨(.pair (.sl (.arr 4 tI)) (.pair tI tI)), 3, 40⟩), (47, ⟨(.pair (.sl (.arr 4 tI)) (.pair tI tI)), 3, 40⟩), (49, ⟨(.pair (.sl (.arr 4 tI)) (.pair tI tI)), 3, 40⟩), (50, ⟨(.pair .str (.pair .str tI)), 3, 40⟩), (51, ⟨(.pair .str (.pair .str tI)), 3, 40⟩), (52, ⟨(.pair (.pair (.sl (.arr 4 tI)) (.pair tI tI)) (.pair .str (.pair .str tI))), 2, 80⟩), (53, ⟨(.pair (.pair (.sl (.arr 4 tI)) (.pair tI tI)) (.pair .str (.pair .str tI))), 2, 80⟩), (77, ⟨(.sl tI), 3, 8⟩), (87, ⟨(.pair tI (.pair tI (.sl (.arr 4 tI)))), 3, 40⟩), (88, ⟨(.pair tI (.pair tI (.sl (.arr 4 tI)))), 3, 40⟩), (89, ⟨(.arr 3 tI), 3, 8⟩), (101, ⟨(.arr 81 .bool), 4, 1⟩), (112, ⟨(.int .u64), 0, 8⟩), (113, ⟨(.pair (.sl (.int .u8)) (.pair tI (.int .u64))), 3, 40⟩), (114, ⟨(.pair (.sl (.int .u8)) (.pair tI (.int .u64))), 3, 40⟩), (163, ⟨(.arr 81 tI), 3, 8⟩), (173, ⟨(.sl (.arr 2 tI)), 181, 16⟩), (178, ⟨(.int .u64), 0, 8⟩), (181, ⟨(.arr 2 tI), 3, 8⟩), (183, ⟨(.sl (.sl (.arr 4 tI))), 24, 24⟩), (187, ⟨tI, 0, 8⟩), (194, ⟨(.int .u32), 0, 4⟩), (196, ⟨(.int .u64), 0, 8⟩), (211, ⟨(.int .u8), 0, 1⟩), (212, ⟨(.int .u8), 0, 1⟩), (215, ⟨(.int .i32), 0, 4⟩), (216, ⟨(.int .i32), 0, 4⟩)], [7, 8, 43, 50, 51, 89, 101, 163, 181], [1, 23, 25, 28, 30, 32, 33, 34, 36, 38, 40, 41, 42, 45, 48, 55, 56, 57, 58, 59, 60, 61, 63, 64, 66, 67, 68, 69, 70, 71, 72, 73, 75, 76, 79, 80, 81, 82, 83, 84, 85, 86, 91, 93, 94, 95, 96, 97, 98, 99, 100, 102, 103, 104, 105, 106, 107, 108, 109, 110, 115, 116, 117, 118, 119, 120, 121, 122, 123, 124, 125, 126, 127, 128, 129, 130, 131, 132, 133, 134, 135, 136, 137, 138, 139, 140, 141, 142, 143, 144, 145, 146, 147, 148, 149, 150, 151, 152, 153, 154, 155, 156, 157, 158, 159, 160, 161, 162, 164, 165, 166, 167, 168, 169, 170, 171, 172, 174, 175, 176, 177, 179, 180, 182, 184, 185, 186, 189, 190, 191, 192, 193, 195, 197, 198, 199, 201, 204, 205, 213]⟩
theorem tabOK0 : TabOK Try.prog tab := ⟨by kernel_rfl, by kernel_rfl⟩
def v_vBig_i : CSh := ⟨[(.data false (.sl (.int .u8)))], []⟩
def v_vBig_o : RSh := ⟨(.data true .bool), []⟩
theorem v_vBig_ev (n : Nat) (x : TupT v_vBig_i.tys) : evF ⟨tab, [], n, []⟩ Try.f11 v_vBig_i v_vBig_o x = v_vBig n x := by kernel_rfl
noncomputable def v_vBig_e (n : Nat) : Ent := ⟨11, v_vBig_i, v_vBig_o, fun x => v_vBig n x⟩
theorem v_vBig_ok (n : Nat) : EntOK Try.prog (v_vBig_e n) ∧ Own Try.prog 11 := ent_ok tabOK0 .nil Try.func11 rfl (by kernel_rfl) (v_vBig_ev n)
def s_Cur_next'p_i : CSh := ⟨[(.ptr 0 [])], [.var 114 (.data true (.pair (.sl (.int .u8)) (.pair tI (.int .u64))))]⟩
def s_Cur_next'p_o : RSh := ⟨(.data true tI), [.var 114 (.data true (.pair (.sl (.int .u8)) (.pair tI (.int .u64))))]⟩
theorem s_Cur_next'p_ev (n : Nat) (x : TupT s_Cur_next'p_i.tys) : evF ⟨tab, [], n, [(4, ⟨[(0, (.ptr 0 [])), (3, (.data true tI))], [.var 114 (.data true (.pair (.sl (.int .u8)) (.pair tI (.int .u64))))], 1⟩)]⟩ Try.f218 s_Cur_next'p_i s_Cur_next'p_o x = s_Cur_next'p n x := by kernel_rfl
noncomputable def s_Cur_next'p_e (n : Nat) : Ent := ⟨218, s_Cur_next'p_i, s_Cur_next'p_o, fun x => s_Cur_next'p n x⟩
theorem s_Cur_next'p_ok (n : Nat) : EntOK Try.prog (s_Cur_next'p_e n) ∧ Own Try.prog 218 := ent_ok tabOK0 .nil Try.func218 rfl (by kernel_rfl) (s_Cur_next'p_ev n)
def s_Cur_pick'p_i : CSh := ⟨[(.ptr 0 []), (.data true tI)], [.var 114 (.data true (.pair (.sl (.int .u8)) (.pair tI (.int .u64))))]⟩
def s_Cur_pick'p_o : RSh := ⟨(.data true tI), [.var 114 (.data true (.pair (.sl (.int .u8)) (.pair tI (.int .u64))))]⟩
theorem s_Cur_pick'p_ev (n : Nat) (x : TupT s_Cur_pick'p_i.tys) : evF ⟨tab, [s_Cur_next'p_e n], n, []⟩ Try.f131 s_Cur_pick'p_i s_Cur_pick'p_o x = s_Cur_pick'p n x.1 x.2 := by kernel_rfl
noncomputable def s_Cur_pick'p_e (n : Nat) : Ent := ⟨131, s_Cur_pick'p_i, s_Cur_pick'p_o, fun x => s_Cur_pick'p n x.1 x.2⟩
theorem s_Cur_pick'p_ok (n : Nat) : EntOK Try.prog (s_Cur_pick'p_e n) ∧ Own Try.prog 131 := ent_ok tabOK0 (.cons (s_Cur_next'p_ok n) .nil) Try.func131 rfl (by kernel_rfl) (s_Cur_pick'p_ev n)
def s_Cur_among'pl_i : CSh := ⟨[(.ptr 0 []), (.data false (.sl tI))], [.var 114 (.data true (.pair (.sl (.int .u8)) (.pair tI (.int .u64))))]⟩
def s_Cur_among'pl_o : RSh := ⟨(.data true tI), [.var 114 (.data true (.pair (.sl (.int .u8)) (.pair tI (.int .u64))))]⟩
theorem s_Cur_among'pl_ev (n : Nat) (x : TupT s_Cur_among'pl_i.tys) : evF ⟨tab, [s_Cur_pick'p_e n], n, []⟩ Try.f130 s_Cur_among'pl_i s_Cur_among'pl_o x = s_Cur_among'pl n x.1 x.2 := by kernel_rfl
noncomputable def s_Cur_among'pl_e (n : Nat) : Ent := ⟨130, s_Cur_among'pl_i, s_Cur_among'pl_o, fun x => s_Cur_among'pl n x.1 x.2⟩
theorem s_Cur_among'pl_ok (n : Nat) : EntOK Try.prog (s_Cur_among'pl_e n) ∧ Own Try.prog 130 := ent_ok tabOK0 (.cons (s_Cur_pick'p_ok n) .nil) Try.func130 rfl (by kernel_rfl) (s_Cur_among'pl_ev n)
def s_l2At_i : CSh := ⟨[(.data true tI)], []⟩
def s_l2At_o : RSh := ⟨(.data true (.arr 4 tI)), []⟩
theorem s_l2At_ev (n : Nat) (x : TupT s_l2At_i.tys) : evF ⟨tab, [], n, []⟩ Try.f164 s_l2At_i s_l2At_o x = s_l2At n x := by kernel_rfl
noncomputable def s_l2At_e (n : Nat) : Ent := ⟨164, s_l2At_i, s_l2At_o, fun x => s_l2At n x⟩
theorem s_l2At_ok (n : Nat) : EntOK Try.prog (s_l2At_e n) ∧ Own Try.prog 164 := ent_ok tabOK0 .nil Try.func164 rfl (by kernel_rfl) (s_l2At_ev n)
def s_l2Number_i : CSh := ⟨[(.data true (.arr 4 tI))], []⟩
def s_l2Number_o : RSh := ⟨(.data true tI), []⟩
theorem s_l2Number_ev (n : Nat) (x : TupT s_l2Number_i.tys) : evF ⟨tab, [], n, []⟩ Try.f162 s_l2Number_i s_l2Number_o x = s_l2Number n x := by kernel_rfl
noncomputable def s_l2Number_e (n : Nat) : Ent := ⟨162, s_l2Number_i, s_l2Number_o, fun x => s_l2Number n x⟩
theorem s_l2Number_ok (n : Nat) : EntOK Try.prog (s_l2Number_e n) ∧ Own Try.prog 162 := ent_ok tabOK0 .nil Try.func162 rfl (by kernel_rfl) (s_l2Number_ev n)
def s_l2Less_i : CSh := ⟨[(.data true (.arr 4 tI)), (.data true (.arr 4 tI))], []⟩
def s_l2Less_o : RSh := ⟨(.data true .bool), []⟩
theorem s_l2Less_ev (n : Nat) (x : TupT s_l2Less_i.tys) : evF ⟨tab, [s_l2Number_e n], n, []⟩ Try.f215 s_l2Less_i s_l2Less_o x = s_l2Less n x.1 x.2 := by kernel_rfl
noncomputable def s_l2Less_e (n : Nat) : Ent := ⟨215, s_l2Less_i, s_l2Less_o, fun x => s_l2Less n x.1 x.2⟩
theorem s_l2Less_ok (n : Nat) : EntOK Try.prog (s_l2Less_e n) ∧ Own Try.prog 215 := ent_ok tabOK0 (.cons (s_l2Number_ok n) .nil) Try.func215 rfl (by kernel_rfl) (s_l2Less_ev n)
def s_l2Own_i : CSh := ⟨[(.data false (.sl (.arr 4 tI)))], []⟩
def s_l2Own_o : RSh := ⟨(.own 0), [.rows 43 true (.arr 4 tI)]⟩
theorem s_l2Own_ev (n : Nat) (x : TupT s_l2Own_i.tys) : evF ⟨tab, [], n, []⟩ Try.f223 s_l2Own_i s_l2Own_o x = s_l2Own n x := by kernel_rfl
noncomputable def s_l2Own_e (n : Nat) : Ent := ⟨223, s_l2Own_i, s_l2Own_o, fun x => s_l2Own n x⟩
theorem s_l2Own_ok (n : Nat) : EntOK Try.prog (s_l2Own_e n) ∧ Own Try.prog 223 := ent_ok tabOK0 .nil Try.func223 rfl (by kernel_rfl) (s_l2Own_ev n)
def s_l2Put_i : CSh := ⟨[(.data false (.sl (.arr 4 tI))), (.data true (.arr 4 tI))], []⟩
def s_l2Put_o : RSh := ⟨(.own 0), [.rows 43 true (.arr 4 tI)]⟩
theorem s_l2Put_ev (n : Nat) (x : TupT s_l2Put_i.tys) : evF ⟨tab, [s_l2Less_e n, s_l2Own_e n], n, [(6, ⟨[(0, (.data false (.sl (.arr 4 tI)))), (3, (.ptr 0 [])), (5, (.data true tI))], [.var 43 (.data true (.arr 4 tI))], 0⟩)]⟩ Try.f183 s_l2Put_i s_l2Put_o x = s_l2Put n x.1 x.2 := by kernel_rfl
noncomputable def s_l2Put_e (n : Nat) : Ent := ⟨183, s_l2Put_i, s_l2Put_o, fun x => s_l2Put n x.1 x.2⟩
theorem s_l2Put_ok (n : Nat) : EntOK Try.prog (s_l2Put_e n) ∧ Own Try.prog 183 := ent_ok tabOK0 (.cons (s_l2Less_ok n) (.cons (s_l2Own_ok n) .nil)) Try.func183 rfl (by kernel_rfl) (s_l2Put_ev n)
def s_Cur_one'p_i : CSh := ⟨[(.ptr 0 []), (.data true tI)], [.var 114 (.data true (.pair (.sl (.int .u8)) (.pair tI (.int .u64))))]⟩
def s_Cur_one'p_o : RSh := ⟨(.data true .bool), [.var 114 (.data true (.pair (.sl (.int .u8)) (.pair tI (.int .u64))))]⟩
theorem s_Cur_one'p_ev (n : Nat) (x : TupT s_Cur_one'p_i.tys) : evF ⟨tab, [s_Cur_pick'p_e n], n, []⟩ Try.f154 s_Cur_one'p_i s_Cur_one'p_o x = s_Cur_one'p n x.1 x.2 := by kernel_rfl
noncomputable def s_Cur_one'p_e (n : Nat) : Ent := ⟨154, s_Cur_one'p_i, s_Cur_one'p_o, fun x => s_Cur_one'p n x.1 x.2⟩
theorem s_Cur_one'p_ok (n : Nat) : EntOK Try.prog (s_Cur_one'p_e n) ∧ Own Try.prog 154 := ent_ok tabOK0 (.cons (s_Cur_pick'p_ok n) .nil) Try.func154 rfl (by kernel_rfl) (s_Cur_one'p_ev n)
def s_Cur_hand'p_i : CSh := ⟨[(.ptr 0 [])], [.var 114 (.data true (.pair (.sl (.int .u8)) (.pair tI (.int .u64))))]⟩
def s_Cur_hand'p_o : RSh := ⟨(.own 1), [.var 114 (.data true (.pair (.sl (.int .u8)) (.pair tI (.int .u64)))), .rows 43 true (.arr 4 tI)]⟩
theorem s_Cur_hand'p_ev (n : Nat) (x : TupT s_Cur_hand'p_i.tys) : evF ⟨tab, [s_Cur_among'pl_e n, s_Cur_pick'p_e n, s_l2At_e n, s_l2Put_e n, s_Cur_one'p_e n], n, [(8, ⟨[(0, (.ptr 0 [])), (3, (.own 1)), (4, (.data true tI)), (5, (.data true tI))], [.var 114 (.data true (.pair (.sl (.int .u8)) (.pair tI (.int .u64)))), .rows 43 true (.arr 4 tI)], 1⟩), (23, ⟨[(0, (.ptr 0 [])), (3, (.own 1)), (4, (.data true tI)), (5, (.data true tI)), (6, (.ptr 2 [])), (7, (.data true tI))], [.var 114 (.data true (.pair (.sl (.int .u8)) (.pair tI (.int .u64)))), .rows 43 true (.arr 4 tI), .var 43 (.data true (.arr 4 tI))], 1⟩), (5000038, ⟨[(0, (.ptr 0 [])), (3, (.own 1)), (39, (.data true .bool))], [.var 114 (.data true (.pair (.sl (.int .u8)) (.pair tI (.int .u64)))), .rows 43 true (.arr 4 tI)], 1⟩)]⟩ Try.f217 s_Cur_hand'p_i s_Cur_hand'p_o x = s_Cur_hand'p n x := by kernel_rfl
noncomputable def s_Cur_hand'p_e (n : Nat) : Ent := ⟨217, s_Cur_hand'p_i, s_Cur_hand'p_o, fun x => s_Cur_hand'p n x⟩
theorem s_Cur_hand'p_ok (n : Nat) : EntOK Try.prog (s_Cur_hand'p_e n) ∧ Own Try.prog 217 := ent_ok tabOK0 (.cons (s_Cur_among'pl_ok n) (.cons (s_Cur_pick'p_ok n) (.cons (s_l2At_ok n) (.cons (s_l2Put_ok n) (.cons (s_Cur_one'p_ok n) .nil))))) Try.func217 rfl (by kernel_rfl) (s_Cur_hand'p_ev n)
def s_Cur_pool3'p_i : CSh := ⟨[(.ptr 0 [])], [.var 114 (.data true (.pair (.sl (.int .u8)) (.pair tI (.int .u64))))]⟩
def s_Cur_pool3'p_o : RSh := ⟨(.own 1), [.var 114 (.data true (.pair (.sl (.int .u8)) (.pair tI (.int .u64)))), .rows 43 true (.arr 4 tI)]⟩
theorem s_Cur_pool3'p_ev (n : Nat) (x : TupT s_Cur_pool3'p_i.tys) : evF ⟨tab, [s_Cur_hand'p_e n, s_Cur_pick'p_e n, s_l2Own_e n, s_Cur_one'p_e n], n, [(5000006, ⟨[(0, (.ptr 0 [])), (3, (.own 1)), (13, (.data true .bool))], [.var 114 (.data true (.pair (.sl (.int .u8)) (.pair tI (.int .u64)))), .rows 43 true (.arr 4 tI)], 1⟩)]⟩ Try.f167 s_Cur_pool3'p_i s_Cur_pool3'p_o x = s_Cur_pool3'p n x := by kernel_rfl
noncomputable def s_Cur_pool3'p_e (n : Nat) : Ent := ⟨167, s_Cur_pool3'p_i, s_Cur_pool3'p_o, fun x => s_Cur_pool3'p n x⟩
theorem s_Cur_pool3'p_ok (n : Nat) : EntOK Try.prog (s_Cur_pool3'p_e n) ∧ Own Try.prog 167 := ent_ok tabOK0 (.cons (s_Cur_hand'p_ok n) (.cons (s_Cur_pick'p_ok n) (.cons (s_l2Own_ok n) (.cons (s_Cur_one'p_ok n) .nil)))) Try.func167 rfl (by kernel_rfl) (s_Cur_pool3'p_ev n)
def s_DrawGreatestCap_i : CSh := ⟨[(.data false (.sl (.int .u8)))], []⟩
def s_DrawGreatestCap_o : RSh := ⟨(.own 0), [.rows 43 true (.arr 4 tI)]⟩
theorem s_DrawGreatestCap_ev (n : Nat) (x : TupT s_DrawGreatestCap_i.tys) : evF ⟨tab, [s_Cur_pool3'p_e n], n, []⟩ Try.f65 s_DrawGreatestCap_i s_DrawGreatestCap_o x = s_DrawGreatestCap n x := by kernel_rfl
noncomputable def s_DrawGreatestCap_e (n : Nat) : Ent := ⟨65, s_DrawGreatestCap_i, s_DrawGreatestCap_o, fun x => s_DrawGreatestCap n x⟩
theorem s_DrawGreatestCap_ok (n : Nat) : EntOK Try.prog (s_DrawGreatestCap_e n) ∧ Own Try.prog 65 := ent_ok tabOK0 (.cons (s_Cur_pool3'p_ok n) .nil) Try.func65 rfl (by kernel_rfl) (s_DrawGreatestCap_ev n)
def i_within_i : CSh := ⟨[(.data true tI), (.data true tI), (.data true tI)], []⟩
def i_within_o : RSh := ⟨(.data true .bool), []⟩
theorem i_within_ev (n : Nat) (x : TupT i_within_i.tys) : evF ⟨tab, [], n, []⟩ Try.f132 i_within_i i_within_o x = i_within n x.1 x.2.1 x.2.2 := by kernel_rfl
noncomputable def i_within_e (n : Nat) : Ent := ⟨132, i_within_i, i_within_o, fun x => i_within n x.1 x.2.1 x.2.2⟩
theorem i_within_ok (n : Nat) : EntOK Try.prog (i_within_e n) ∧ Own Try.prog 132 := ent_ok tabOK0 .nil Try.func132 rfl (by kernel_rfl) (i_within_ev n)
def i_allWithin_1'pp_i : CSh := ⟨[(.data true tI), (.ptr 0 []), (.ptr 1 [])], [.var 3 (.data true tI), .var 3 (.data true tI)]⟩
def i_allWithin_1'pp_o : RSh := ⟨(.data true .bool), [.var 3 (.data true tI), .var 3 (.data true tI)]⟩
theorem i_allWithin_1'pp_ev (n : Nat) (x : TupT i_allWithin_1'pp_i.tys) : evF ⟨tab, [i_within_e n], n, []⟩ Try.f229 i_allWithin_1'pp_i i_allWithin_1'pp_o x = i_allWithin_1'pp n x.1 x.2.1 x.2.2 := by kernel_rfl
noncomputable def i_allWithin_1'pp_e (n : Nat) : Ent := ⟨229, i_allWithin_1'pp_i, i_allWithin_1'pp_o, fun x => i_allWithin_1'pp n x.1 x.2.1 x.2.2⟩
theorem i_allWithin_1'pp_ok (n : Nat) : EntOK Try.prog (i_allWithin_1'pp_e n) ∧ Own Try.prog 229 := ent_ok tabOK0 (.cons (i_within_ok n) .nil) Try.func229 rfl (by kernel_rfl) (i_allWithin_1'pp_ev n)
def slices_IndexFunc_Sint_int_'l_i_allWithin_1pp_i : CSh := ⟨[(.data false (.sl tI)), (.clo 229 (.tcons (.ptr 0 []) (.tcons (.ptr 1 []) .tnil)))], [.var 3 (.data true tI), .var 3 (.data true tI)]⟩
def slices_IndexFunc_Sint_int_'l_i_allWithin_1pp_o : RSh := ⟨(.data true tI), [.var 3 (.data true tI), .var 3 (.data true tI)]⟩
theorem slices_IndexFunc_Sint_int_'l_i_allWithin_1pp_ev (n : Nat) (x : TupT slices_IndexFunc_Sint_int_'l_i_allWithin_1pp_i.tys) : evF ⟨tab, [i_allWithin_1'pp_e n], n, [(6, ⟨[(0, (.data false (.sl tI))), (1, (.clo 229 (.tcons (.ptr 0 []) (.tcons (.ptr 1 []) .tnil)))), (7, (.data true tI)), (8, (.data true tI))], [.var 3 (.data true tI), .var 3 (.data true tI)], 2⟩)]⟩ Try.f246 slices_IndexFunc_Sint_int_'l_i_allWithin_1pp_i slices_IndexFunc_Sint_int_'l_i_allWithin_1pp_o x = slices_IndexFunc_Sint_int_'l_i_allWithin_1pp n x.1 x.2.1 x.2.2 := by kernel_rfl
noncomputable def slices_IndexFunc_Sint_int_'l_i_allWithin_1pp_e (n : Nat) : Ent := ⟨246, slices_IndexFunc_Sint_int_'l_i_allWithin_1pp_i, slices_IndexFunc_Sint_int_'l_i_allWithin_1pp_o, fun x => slices_IndexFunc_Sint_int_'l_i_allWithin_1pp n x.1 x.2.1 x.2.2⟩
theorem slices_IndexFunc_Sint_int_'l_i_allWithin_1pp_ok (n : Nat) : EntOK Try.prog (slices_IndexFunc_Sint_int_'l_i_allWithin_1pp_e n) ∧ Own Try.prog 246 := ent_ok tabOK0 (.cons (i_allWithin_1'pp_ok n) .nil) Try.func246 rfl (by kernel_rfl) (slices_IndexFunc_Sint_int_'l_i_allWithin_1pp_ev n)
def slices_ContainsFunc_Sint_int_'l_i_allWithin_1pp_i : CSh := ⟨[(.data false (.sl tI)), (.clo 229 (.tcons (.ptr 0 []) (.tcons (.ptr 1 []) .tnil)))], [.var 3 (.data true tI), .var 3 (.data true tI)]⟩
def slices_ContainsFunc_Sint_int_'l_i_allWithin_1pp_o : RSh := ⟨(.data true .bool), [.var 3 (.data true tI), .var 3 (.data true tI)]⟩
theorem slices_ContainsFunc_Sint_int_'l_i_allWithin_1pp_ev (n : Nat) (x : TupT slices_ContainsFunc_Sint_int_'l_i_allWithin_1pp_i.tys) : evF ⟨tab, [slices_IndexFunc_Sint_int_'l_i_allWithin_1pp_e n], n, []⟩ Try.f228 slices_ContainsFunc_Sint_int_'l_i_allWithin_1pp_i slices_ContainsFunc_Sint_int_'l_i_allWithin_1pp_o x = slices_ContainsFunc_Sint_int_'l_i_allWithin_1pp n x.1 x.2.1 x.2.2 := by kernel_rfl
noncomputable def slices_ContainsFunc_Sint_int_'l_i_allWithin_1pp_e (n : Nat) : Ent := ⟨228, slices_ContainsFunc_Sint_int_'l_i_allWithin_1pp_i, slices_ContainsFunc_Sint_int_'l_i_allWithin_1pp_o, fun x => slices_ContainsFunc_Sint_int_'l_i_allWithin_1pp n x.1 x.2.1 x.2.2⟩
theorem slices_ContainsFunc_Sint_int_'l_i_allWithin_1pp_ok (n : Nat) : EntOK Try.prog (slices_ContainsFunc_Sint_int_'l_i_allWithin_1pp_e n) ∧ Own Try.prog 228 := ent_ok tabOK0 (.cons (slices_IndexFunc_Sint_int_'l_i_allWithin_1pp_ok n) .nil) Try.func228 rfl (by kernel_rfl) (slices_ContainsFunc_Sint_int_'l_i_allWithin_1pp_ev n)
def i_allWithin_i : CSh := ⟨[(.data false (.sl tI)), (.data true tI), (.data true tI)], []⟩
def i_allWithin_o : RSh := ⟨(.data true .bool), []⟩
theorem i_allWithin_ev (n : Nat) (x : TupT i_allWithin_i.tys) : evF ⟨tab, [slices_ContainsFunc_Sint_int_'l_i_allWithin_1pp_e n], n, []⟩ Try.f160 i_allWithin_i i_allWithin_o x = i_allWithin n x.1 x.2.1 x.2.2 := by kernel_rfl
noncomputable def i_allWithin_e (n : Nat) : Ent := ⟨160, i_allWithin_i, i_allWithin_o, fun x => i_allWithin n x.1 x.2.1 x.2.2⟩
theorem i_allWithin_ok (n : Nat) : EntOK Try.prog (i_allWithin_e n) ∧ Own Try.prog 160 := ent_ok tabOK0 (.cons (slices_ContainsFunc_Sint_int_'l_i_allWithin_1pp_ok n) .nil) Try.func160 rfl (by kernel_rfl) (i_allWithin_ev n)
def i_IsCard_i : CSh := ⟨[(.data true (.arr 4 tI))], []⟩
def i_IsCard_o : RSh := ⟨(.data true .bool), []⟩
theorem i_IsCard_ev (n : Nat) (x : TupT i_IsCard_i.tys) : evF ⟨tab, [i_allWithin_e n], n, []⟩ Try.f55 i_IsCard_i i_IsCard_o x = i_IsCard n x := by kernel_rfl
noncomputable def i_IsCard_e (n : Nat) : Ent := ⟨55, i_IsCard_i, i_IsCard_o, fun x => i_IsCard n x⟩
theorem i_IsCard_ok (n : Nat) : EntOK Try.prog (i_IsCard_e n) ∧ Own Try.prog 55 := ent_ok tabOK0 (.cons (i_allWithin_ok n) .nil) Try.func55 rfl (by kernel_rfl) (i_IsCard_ev n)
def i_number_i : CSh := ⟨[(.data true (.arr 4 tI))], []⟩
def i_number_o : RSh := ⟨(.data true tI), []⟩
theorem i_number_ev (n : Nat) (x : TupT i_number_i.tys) : evF ⟨tab, [], n, [(8, ⟨[(3, (.data true tI)), (6, (.data true (.arr 4 tI))), (7, (.data true tI))], [], 0⟩)]⟩ Try.f161 i_number_i i_number_o x = i_number n x := by kernel_rfl
noncomputable def i_number_e (n : Nat) : Ent := ⟨161, i_number_i, i_number_o, fun x => i_number n x⟩
theorem i_number_ok (n : Nat) : EntOK Try.prog (i_number_e n) ∧ Own Try.prog 161 := ent_ok tabOK0 .nil Try.func161 rfl (by kernel_rfl) (i_number_ev n)
def i_IsHand_i : CSh := ⟨[(.data false (.sl (.arr 4 tI)))], []⟩
def i_IsHand_o : RSh := ⟨(.data true .bool), []⟩
theorem i_IsHand_ev (n : Nat) (x : TupT i_IsHand_i.tys) : evF ⟨tab, [i_IsCard_e n, i_number_e n], n, [(6, ⟨[(0, (.data false (.sl (.arr 4 tI)))), (5, (.data false (.sl (.arr 4 tI)))), (6, (.data true tI)), (7, (.data true tI))], [], 0⟩)]⟩ Try.f120 i_IsHand_i i_IsHand_o x = i_IsHand n x := by kernel_rfl
noncomputable def i_IsHand_e (n : Nat) : Ent := ⟨120, i_IsHand_i, i_IsHand_o, fun x => i_IsHand n x⟩
theorem i_IsHand_ok (n : Nat) : EntOK Try.prog (i_IsHand_e n) ∧ Own Try.prog 120 := ent_ok tabOK0 (.cons (i_IsCard_ok n) (.cons (i_number_ok n) .nil)) Try.func120 rfl (by kernel_rfl) (i_IsHand_ev n)
def i_isPool_i : CSh := ⟨[(.data false (.sl (.arr 4 tI)))], []⟩
def i_isPool_o : RSh := ⟨(.data true .bool), []⟩
theorem i_isPool_ev (n : Nat) (x : TupT i_isPool_i.tys) : evF ⟨tab, [i_IsHand_e n], n, []⟩ Try.f168 i_isPool_i i_isPool_o x = i_isPool n x := by kernel_rfl
noncomputable def i_isPool_e (n : Nat) : Ent := ⟨168, i_isPool_i, i_isPool_o, fun x => i_isPool n x⟩
theorem i_isPool_ok (n : Nat) : EntOK Try.prog (i_isPool_e n) ∧ Own Try.prog 168 := ent_ok tabOK0 (.cons (i_IsHand_ok n) .nil) Try.func168 rfl (by kernel_rfl) (i_isPool_ev n)
def i_greatestCap_1'lp_o_i : CSh := ⟨[(.data false (.sl tI)), (.ptr 0 [])], [.var 77 (.own 1), .rows 3 true tI]⟩
def i_greatestCap_1'lp_o_o : RSh := ⟨.tnil, [.var 77 (.own 2), .gone, .rows 3 true tI]⟩
theorem i_greatestCap_1'lp_o_ev (n : Nat) (x : TupT i_greatestCap_1'lp_o_i.tys) : evF ⟨tab, [], n, []⟩ Try.f231 i_greatestCap_1'lp_o_i i_greatestCap_1'lp_o_o x = i_greatestCap_1'lp_o n x.1 x.2 := by kernel_rfl
noncomputable def i_greatestCap_1'lp_o_e (n : Nat) : Ent := ⟨231, i_greatestCap_1'lp_o_i, i_greatestCap_1'lp_o_o, fun x => i_greatestCap_1'lp_o n x.1 x.2⟩
theorem i_greatestCap_1'lp_o_ok (n : Nat) : EntOK Try.prog (i_greatestCap_1'lp_o_e n) ∧ Own Try.prog 231 := ent_ok tabOK0 .nil Try.func231 rfl (by kernel_rfl) (i_greatestCap_1'lp_o_ev n)
def i_third_i : CSh := ⟨[(.data true (.arr 4 tI)), (.data true (.arr 4 tI))], []⟩
def i_third_o : RSh := ⟨(.data true (.arr 4 tI)), []⟩
theorem i_third_ev (n : Nat) (x : TupT i_third_i.tys) : evF ⟨tab, [], n, [(8, ⟨[(2, (.ptr 0 [])), (3, (.ptr 1 [])), (4, (.ptr 2 [])), (5, (.ptr 3 [])), (8, (.data true tI))], [.var 43 (.data true (.arr 4 tI)), .var 43 (.data true (.arr 4 tI)), .var 43 (.data true (.arr 4 tI)), .var 43 (.data true (.arr 4 tI))], 0⟩)]⟩ Try.f151 i_third_i i_third_o x = i_third n x.1 x.2 := by kernel_rfl
noncomputable def i_third_e (n : Nat) : Ent := ⟨151, i_third_i, i_third_o, fun x => i_third n x.1 x.2⟩
theorem i_third_ok (n : Nat) : EntOK Try.prog (i_third_e n) ∧ Own Try.prog 151 := ent_ok tabOK0 .nil Try.func151 rfl (by kernel_rfl) (i_third_ev n)
def i_caps'll_i_greatestCap_1p_o_i : CSh := ⟨[(.data false (.sl (.arr 4 tI))), (.data true tI), (.data false (.sl tI)), (.clo 231 (.tcons (.ptr 0 []) .tnil))], [.var 77 (.own 1), .rows 3 true tI]⟩
def i_caps'll_i_greatestCap_1p_o_o : RSh := ⟨.tnil, [.var 77 (.own 2), .gone, .rows 3 true tI]⟩
theorem i_caps'll_i_greatestCap_1p_o_ev (n : Nat) (go : TupT i_caps'll_i_greatestCap_1p_o_i.tys → Option (TupT i_caps'll_i_greatestCap_1p_o_o.tys)) (x : TupT i_caps'll_i_greatestCap_1p_o_i.tys) : evF ⟨tab, [⟨175, i_caps'll_i_greatestCap_1p_o_i, i_caps'll_i_greatestCap_1p_o_o, go⟩, i_greatestCap_1'lp_o_e n, i_third_e n], n, [(5, ⟨[(0, (.data false (.sl (.arr 4 tI)))), (2, (.data false (.sl tI))), (3, (.clo 231 (.tcons (.ptr 0 []) .tnil))), (8, (.data true tI))], [.var 77 (.own 2), .gone, .rows 3 true tI], 2⟩), (20, ⟨[(0, (.data false (.sl (.arr 4 tI)))), (2, (.data false (.sl tI))), (3, (.clo 231 (.tcons (.ptr 0 []) .tnil))), (8, (.data true tI)), (9, (.data true .bool)), (24, (.data false (.sl tI))), (25, (.data true tI)), (26, (.data true tI))], [.var 77 (.own 2), .gone, .rows 3 true tI], 2⟩), (34, ⟨[(0, (.data false (.sl (.arr 4 tI)))), (2, (.data false (.sl tI))), (3, (.clo 231 (.tcons (.ptr 0 []) .tnil))), (8, (.data true tI)), (9, (.data true .bool)), (11, (.data true tI)), (24, (.data false (.sl tI))), (25, (.data true tI)), (26, (.data true tI)), (34, (.data false (.sl tI))), (35, (.data true tI)), (36, (.data true tI))], [.var 77 (.own 2), .gone, .rows 3 true tI], 2⟩)]⟩ Try.f175 i_caps'll_i_greatestCap_1p_o_i i_caps'll_i_greatestCap_1p_o_o x = i_caps'll_i_greatestCap_1p_o_R n go x := by kernel_rfl
noncomputable def i_caps'll_i_greatestCap_1p_o_e (n : Nat) : Ent := ⟨175, i_caps'll_i_greatestCap_1p_o_i, i_caps'll_i_greatestCap_1p_o_o, fun x => i_caps'll_i_greatestCap_1p_o n x.1 x.2.1 x.2.2.1 x.2.2.2⟩
theorem i_caps'll_i_greatestCap_1p_o_ok (n : Nat) : EntOK Try.prog (i_caps'll_i_greatestCap_1p_o_e n) ∧ Own Try.prog 175 := ent_rec tabOK0 (.cons (i_greatestCap_1'lp_o_ok n) (.cons (i_third_ok n) .nil)) Try.func175 rfl (by kernel_rfl) (i_caps'll_i_greatestCap_1p_o_ev n) n
def i_greatestCap_i : CSh := ⟨[(.data false (.sl (.arr 4 tI)))], []⟩
def i_greatestCap_o : RSh := ⟨(.own 0), [.rows 3 true tI]⟩
theorem i_greatestCap_ev (n : Nat) (x : TupT i_greatestCap_i.tys) : evF ⟨tab, [i_caps'll_i_greatestCap_1p_o_e n], n, []⟩ Try.f169 i_greatestCap_i i_greatestCap_o x = i_greatestCap n x := by kernel_rfl
noncomputable def i_greatestCap_e (n : Nat) : Ent := ⟨169, i_greatestCap_i, i_greatestCap_o, fun x => i_greatestCap n x⟩
theorem i_greatestCap_ok (n : Nat) : EntOK Try.prog (i_greatestCap_e n) ∧ Own Try.prog 169 := ent_ok tabOK0 (.cons (i_caps'll_i_greatestCap_1p_o_ok n) .nil) Try.func169 rfl (by kernel_rfl) (i_greatestCap_ev n)
def i_GreatestCap_i : CSh := ⟨[(.data false (.sl (.arr 4 tI)))], []⟩
def i_GreatestCap_o : RSh := ⟨(.tcons (.own 0) (.tcons (.data true .bool) .tnil)), [.rows 3 true tI]⟩
theorem i_GreatestCap_ev (n : Nat) (x : TupT i_GreatestCap_i.tys) : evF ⟨tab, [i_isPool_e n, i_greatestCap_e n], n, []⟩ Try.f66 i_GreatestCap_i i_GreatestCap_o x = i_GreatestCap n x := by kernel_rfl
noncomputable def i_GreatestCap_e (n : Nat) : Ent := ⟨66, i_GreatestCap_i, i_GreatestCap_o, fun x => i_GreatestCap n x⟩
theorem i_GreatestCap_ok (n : Nat) : EntOK Try.prog (i_GreatestCap_e n) ∧ Own Try.prog 66 := ent_ok tabOK0 (.cons (i_isPool_ok n) (.cons (i_greatestCap_ok n) .nil)) Try.func66 rfl (by kernel_rfl) (i_GreatestCap_ev n)
def s_l1In_i : CSh := ⟨[(.data true tI), (.data true tI), (.data true tI)], []⟩
def s_l1In_o : RSh := ⟨(.data true .bool), []⟩
theorem s_l1In_ev (n : Nat) (x : TupT s_l1In_i.tys) : evF ⟨tab, [], n, []⟩ Try.f133 s_l1In_i s_l1In_o x = s_l1In n x.1 x.2.1 x.2.2 := by kernel_rfl
noncomputable def s_l1In_e (n : Nat) : Ent := ⟨133, s_l1In_i, s_l1In_o, fun x => s_l1In n x.1 x.2.1 x.2.2⟩
theorem s_l1In_ok (n : Nat) : EntOK Try.prog (s_l1In_e n) ∧ Own Try.prog 133 := ent_ok tabOK0 .nil Try.func133 rfl (by kernel_rfl) (s_l1In_ev n)
def s_l2Card_i : CSh := ⟨[(.data true (.arr 4 tI))], []⟩
def s_l2Card_o : RSh := ⟨(.data true .bool), []⟩
theorem s_l2Card_ev (n : Nat) (x : TupT s_l2Card_i.tys) : evF ⟨tab, [s_l1In_e n], n, [(6, ⟨[(1, (.ptr 0 [])), (3, (.data true tI))], [.var 43 (.data true (.arr 4 tI))], 0⟩)]⟩ Try.f152 s_l2Card_i s_l2Card_o x = s_l2Card n x := by kernel_rfl
noncomputable def s_l2Card_e (n : Nat) : Ent := ⟨152, s_l2Card_i, s_l2Card_o, fun x => s_l2Card n x⟩
theorem s_l2Card_ok (n : Nat) : EntOK Try.prog (s_l2Card_e n) ∧ Own Try.prog 152 := ent_ok tabOK0 (.cons (s_l1In_ok n) .nil) Try.func152 rfl (by kernel_rfl) (s_l2Card_ev n)
def s_l2Hand_i : CSh := ⟨[(.data false (.sl (.arr 4 tI)))], []⟩
def s_l2Hand_o : RSh := ⟨(.data true .bool), []⟩
theorem s_l2Hand_ev (n : Nat) (x : TupT s_l2Hand_i.tys) : evF ⟨tab, [s_l2Card_e n, s_l2Less_e n], n, [(6, ⟨[(0, (.data false (.sl (.arr 4 tI)))), (3, (.data true tI))], [], 0⟩)]⟩ Try.f125 s_l2Hand_i s_l2Hand_o x = s_l2Hand n x := by kernel_rfl
noncomputable def s_l2Hand_e (n : Nat) : Ent := ⟨125, s_l2Hand_i, s_l2Hand_o, fun x => s_l2Hand n x⟩
theorem s_l2Hand_ok (n : Nat) : EntOK Try.prog (s_l2Hand_e n) ∧ Own Try.prog 125 := ent_ok tabOK0 (.cons (s_l2Card_ok n) (.cons (s_l2Less_ok n) .nil)) Try.func125 rfl (by kernel_rfl) (s_l2Hand_ev n)
def s_l3Pool_i : CSh := ⟨[(.data false (.sl (.arr 4 tI)))], []⟩
def s_l3Pool_o : RSh := ⟨(.data true .bool), []⟩
theorem s_l3Pool_ev (n : Nat) (x : TupT s_l3Pool_i.tys) : evF ⟨tab, [s_l2Hand_e n], n, []⟩ Try.f170 s_l3Pool_i s_l3Pool_o x = s_l3Pool n x := by kernel_rfl
noncomputable def s_l3Pool_e (n : Nat) : Ent := ⟨170, s_l3Pool_i, s_l3Pool_o, fun x => s_l3Pool n x⟩
theorem s_l3Pool_ok (n : Nat) : EntOK Try.prog (s_l3Pool_e n) ∧ Own Try.prog 170 := ent_ok tabOK0 (.cons (s_l2Hand_ok n) .nil) Try.func170 rfl (by kernel_rfl) (s_l3Pool_ev n)
def s_l3Picked_i : CSh := ⟨[(.data false (.sl (.arr 4 tI))), (.data false (.sl tI))], []⟩
def s_l3Picked_o : RSh := ⟨(.own 0), [.rows 43 true (.arr 4 tI)]⟩
theorem s_l3Picked_ev (n : Nat) (x : TupT s_l3Picked_i.tys) : evF ⟨tab, [], n, [(8, ⟨[(0, (.data false (.sl (.arr 4 tI)))), (1, (.data false (.sl tI))), (5, (.own 0)), (6, (.data true tI))], [.rows 43 true (.arr 4 tI)], 0⟩)]⟩ Try.f174 s_l3Picked_i s_l3Picked_o x = s_l3Picked n x.1 x.2 := by kernel_rfl
noncomputable def s_l3Picked_e (n : Nat) : Ent := ⟨174, s_l3Picked_i, s_l3Picked_o, fun x => s_l3Picked n x.1 x.2⟩
theorem s_l3Picked_ok (n : Nat) : EntOK Try.prog (s_l3Picked_e n) ∧ Own Try.prog 174 := ent_ok tabOK0 .nil Try.func174 rfl (by kernel_rfl) (s_l3Picked_ev n)
def s_l2Third_i : CSh := ⟨[(.data true (.arr 4 tI)), (.data true (.arr 4 tI))], []⟩
def s_l2Third_o : RSh := ⟨(.data true (.arr 4 tI)), []⟩
theorem s_l2Third_ev (n : Nat) (x : TupT s_l2Third_i.tys) : evF ⟨tab, [], n, [(8, ⟨[(2, (.ptr 0 [])), (3, (.ptr 1 [])), (4, (.ptr 2 [])), (5, (.ptr 3 [])), (6, (.data true tI))], [.var 43 (.data true (.arr 4 tI)), .var 43 (.data true (.arr 4 tI)), .var 43 (.data true (.arr 4 tI)), .var 43 (.data true (.arr 4 tI))], 0⟩)]⟩ Try.f153 s_l2Third_i s_l2Third_o x = s_l2Third n x.1 x.2 := by kernel_rfl
noncomputable def s_l2Third_e (n : Nat) : Ent := ⟨153, s_l2Third_i, s_l2Third_o, fun x => s_l2Third n x.1 x.2⟩
theorem s_l2Third_ok (n : Nat) : EntOK Try.prog (s_l2Third_e n) ∧ Own Try.prog 153 := ent_ok tabOK0 .nil Try.func153 rfl (by kernel_rfl) (s_l2Third_ev n)
def s_l2Line_i : CSh := ⟨[(.data true (.arr 4 tI)), (.data true (.arr 4 tI)), (.data true (.arr 4 tI))], []⟩
def s_l2Line_o : RSh := ⟨(.data true .bool), []⟩
theorem s_l2Line_ev (n : Nat) (x : TupT s_l2Line_i.tys) : evF ⟨tab, [s_l2Third_e n], n, []⟩ Try.f157 s_l2Line_i s_l2Line_o x = s_l2Line n x.1 x.2.1 x.2.2 := by kernel_rfl
noncomputable def s_l2Line_e (n : Nat) : Ent := ⟨157, s_l2Line_i, s_l2Line_o, fun x => s_l2Line n x.1 x.2.1 x.2.2⟩
theorem s_l2Line_ok (n : Nat) : EntOK Try.prog (s_l2Line_e n) ∧ Own Try.prog 157 := ent_ok tabOK0 (.cons (s_l2Third_ok n) .nil) Try.func157 rfl (by kernel_rfl) (s_l2Line_ev n)
def s_l2Through_i : CSh := ⟨[(.data false (.sl (.arr 4 tI))), (.data true (.arr 4 tI))], []⟩
def s_l2Through_o : RSh := ⟨(.data true tI), []⟩
theorem s_l2Through_ev (n : Nat) (x : TupT s_l2Through_i.tys) : evF ⟨tab, [s_l2Line_e n], n, [(8, ⟨[(0, (.data false (.sl (.arr 4 tI)))), (3, (.ptr 0 [])), (5, (.data true tI)), (6, (.data true tI))], [.var 43 (.data true (.arr 4 tI))], 0⟩), (20, ⟨[(0, (.data false (.sl (.arr 4 tI)))), (3, (.ptr 0 [])), (5, (.data true tI)), (6, (.data true tI)), (7, (.data true tI))], [.var 43 (.data true (.arr 4 tI))], 0⟩)]⟩ Try.f173 s_l2Through_i s_l2Through_o x = s_l2Through n x.1 x.2 := by kernel_rfl
noncomputable def s_l2Through_e (n : Nat) : Ent := ⟨173, s_l2Through_i, s_l2Through_o, fun x => s_l2Through n x.1 x.2⟩
theorem s_l2Through_ok (n : Nat) : EntOK Try.prog (s_l2Through_e n) ∧ Own Try.prog 173 := ent_ok tabOK0 (.cons (s_l2Line_ok n) .nil) Try.func173 rfl (by kernel_rfl) (s_l2Through_ev n)
def s_l1Own_i : CSh := ⟨[(.data false (.sl tI))], []⟩
def s_l1Own_o : RSh := ⟨(.own 0), [.rows 3 true tI]⟩
theorem s_l1Own_ev (n : Nat) (x : TupT s_l1Own_i.tys) : evF ⟨tab, [], n, []⟩ Try.f232 s_l1Own_i s_l1Own_o x = s_l1Own n x := by kernel_rfl
noncomputable def s_l1Own_e (n : Nat) : Ent := ⟨232, s_l1Own_i, s_l1Own_o, fun x => s_l1Own n x⟩
theorem s_l1Own_ok (n : Nat) : EntOK Try.prog (s_l1Own_e n) ∧ Own Try.prog 232 := ent_ok tabOK0 .nil Try.func232 rfl (by kernel_rfl) (s_l1Own_ev n)
def s_l3Search'lk_i : CSh := ⟨[(.data false (.sl (.arr 4 tI))), (.data true (.sl tI)), (.data true tI)], []⟩
def s_l3Search'lk_o : RSh := ⟨(.data true (.sl tI)), []⟩
theorem s_l3Search'lk_ev (n : Nat) (go : TupT s_l3Search'lk_i.tys → Option (TupT s_l3Search'lk_o.tys)) (x : TupT s_l3Search'lk_i.tys) : evF ⟨tab, [⟨171, s_l3Search'lk_i, s_l3Search'lk_o, go⟩, s_l3Picked_e n, s_l2Through_e n, s_l1Own_e n], n, [(8, ⟨[(0, (.data false (.sl (.arr 4 tI)))), (1, (.data true (.sl tI))), (7, (.data true (.sl tI))), (8, (.data true tI))], [], 0⟩)]⟩ Try.f171 s_l3Search'lk_i s_l3Search'lk_o x = s_l3Search'lk_R n go x := by kernel_rfl
noncomputable def s_l3Search'lk_e (n : Nat) : Ent := ⟨171, s_l3Search'lk_i, s_l3Search'lk_o, fun x => s_l3Search'lk n x.1 x.2.1 x.2.2⟩
theorem s_l3Search'lk_ok (n : Nat) : EntOK Try.prog (s_l3Search'lk_e n) ∧ Own Try.prog 171 := ent_rec tabOK0 (.cons (s_l3Picked_ok n) (.cons (s_l2Through_ok n) (.cons (s_l1Own_ok n) .nil))) Try.func171 rfl (by kernel_rfl) (s_l3Search'lk_ev n) n
def s_GreatestCap_i : CSh := ⟨[(.data false (.sl (.arr 4 tI)))], []⟩
def s_GreatestCap_o : RSh := ⟨(.tcons (.data true (.sl tI)) (.tcons (.data true .bool) .tnil)), []⟩
theorem s_GreatestCap_ev (n : Nat) (x : TupT s_GreatestCap_i.tys) : evF ⟨tab, [s_l3Pool_e n, s_l3Search'lk_e n], n, []⟩ Try.f67 s_GreatestCap_i s_GreatestCap_o x = s_GreatestCap n x := by kernel_rfl
noncomputable def s_GreatestCap_e (n : Nat) : Ent := ⟨67, s_GreatestCap_i, s_GreatestCap_o, fun x => s_GreatestCap n x⟩
theorem s_GreatestCap_ok (n : Nat) : EntOK Try.prog (s_GreatestCap_e n) ∧ Own Try.prog 67 := ent_ok tabOK0 (.cons (s_l3Pool_ok n) (.cons (s_l3Search'lk_ok n) .nil)) Try.func67 rfl (by kernel_rfl) (s_GreatestCap_ev n)
def i_FewestDrops_i : CSh := ⟨[(.data false (.sl (.arr 4 tI)))], []⟩
def i_FewestDrops_o : RSh := ⟨(.tcons (.data true tI) (.tcons (.data true .bool) .tnil)), []⟩
theorem i_FewestDrops_ev (n : Nat) (x : TupT i_FewestDrops_i.tys) : evF ⟨tab, [i_isPool_e n, i_greatestCap_e n], n, []⟩ Try.f68 i_FewestDrops_i i_FewestDrops_o x = i_FewestDrops n x := by kernel_rfl
noncomputable def i_FewestDrops_e (n : Nat) : Ent := ⟨68, i_FewestDrops_i, i_FewestDrops_o, fun x => i_FewestDrops n x⟩
theorem i_FewestDrops_ok (n : Nat) : EntOK Try.prog (i_FewestDrops_e n) ∧ Own Try.prog 68 := ent_ok tabOK0 (.cons (i_isPool_ok n) (.cons (i_greatestCap_ok n) .nil)) Try.func68 rfl (by kernel_rfl) (i_FewestDrops_ev n)
def s_FewestDrops_i : CSh := ⟨[(.data false (.sl (.arr 4 tI)))], []⟩
def s_FewestDrops_o : RSh := ⟨(.tcons (.data true tI) (.tcons (.data true .bool) .tnil)), []⟩
theorem s_FewestDrops_ev (n : Nat) (x : TupT s_FewestDrops_i.tys) : evF ⟨tab, [s_l3Pool_e n, s_l3Search'lk_e n], n, []⟩ Try.f69 s_FewestDrops_i s_FewestDrops_o x = s_FewestDrops n x := by kernel_rfl
noncomputable def s_FewestDrops_e (n : Nat) : Ent := ⟨69, s_FewestDrops_i, s_FewestDrops_o, fun x => s_FewestDrops n x⟩
theorem s_FewestDrops_ok (n : Nat) : EntOK Try.prog (s_FewestDrops_e n) ∧ Own Try.prog 69 := ent_ok tabOK0 (.cons (s_l3Pool_ok n) (.cons (s_l3Search'lk_ok n) .nil)) Try.func69 rfl (by kernel_rfl) (s_FewestDrops_ev n)
def i_pairsFor_i : CSh := ⟨[(.data false (.sl (.arr 4 tI))), (.data true (.arr 4 tI))], []⟩
def i_pairsFor_o : RSh := ⟨(.own 0), [.rows 181 true (.arr 2 tI)]⟩
theorem i_pairsFor_ev (n : Nat) (x : TupT i_pairsFor_i.tys) : evF ⟨tab, [i_third_e n], n, [(8, ⟨[(0, (.data false (.sl (.arr 4 tI)))), (3, (.ptr 0 [])), (5, (.own 1)), (10, (.data false (.sl (.arr 4 tI)))), (11, (.data true tI)), (12, (.data true tI))], [.var 43 (.data true (.arr 4 tI)), .rows 181 true (.arr 2 tI)], 0⟩), (22, ⟨[(0, (.data false (.sl (.arr 4 tI)))), (3, (.ptr 0 [])), (5, (.own 1)), (6, (.data true tI)), (7, (.ptr 2 [])), (8, (.data true tI)), (10, (.data false (.sl (.arr 4 tI)))), (11, (.data true tI)), (12, (.data true tI))], [.var 43 (.data true (.arr 4 tI)), .rows 181 true (.arr 2 tI), .var 43 (.data true (.arr 4 tI))], 0⟩)]⟩ Try.f233 i_pairsFor_i i_pairsFor_o x = i_pairsFor n x.1 x.2 := by kernel_rfl
noncomputable def i_pairsFor_e (n : Nat) : Ent := ⟨233, i_pairsFor_i, i_pairsFor_o, fun x => i_pairsFor n x.1 x.2⟩
theorem i_pairsFor_ok (n : Nat) : EntOK Try.prog (i_pairsFor_e n) ∧ Own Try.prog 233 := ent_ok tabOK0 (.cons (i_third_ok n) .nil) Try.func233 rfl (by kernel_rfl) (i_pairsFor_ev n)
def i_isBlocked_i : CSh := ⟨[(.data false (.sl (.arr 4 tI))), (.data true (.arr 4 tI))], []⟩
def i_isBlocked_o : RSh := ⟨(.data true .bool), []⟩
theorem i_isBlocked_ev (n : Nat) (x : TupT i_isBlocked_i.tys) : evF ⟨tab, [i_pairsFor_e n], n, []⟩ Try.f172 i_isBlocked_i i_isBlocked_o x = i_isBlocked n x.1 x.2 := by kernel_rfl
noncomputable def i_isBlocked_e (n : Nat) : Ent := ⟨172, i_isBlocked_i, i_isBlocked_o, fun x => i_isBlocked n x.1 x.2⟩
theorem i_isBlocked_ok (n : Nat) : EntOK Try.prog (i_isBlocked_e n) ∧ Own Try.prog 172 := ent_ok tabOK0 (.cons (i_pairsFor_ok n) .nil) Try.func172 rfl (by kernel_rfl) (i_isBlocked_ev n)
def i_GreedyCap_i : CSh := ⟨[(.data false (.sl (.arr 4 tI)))], []⟩
def i_GreedyCap_o : RSh := ⟨(.tcons (.own 0) (.tcons (.data true .bool) .tnil)), [.rows 3 true tI]⟩
theorem i_GreedyCap_ev (n : Nat) (x : TupT i_GreedyCap_i.tys) : evF ⟨tab, [i_IsHand_e n, i_isBlocked_e n], n, [(16, ⟨[(4, (.own 0)), (5, (.own 1)), (13, (.data false (.sl (.arr 4 tI)))), (14, (.data true tI)), (15, (.data true tI))], [.rows 3 true tI, .rows 43 true (.arr 4 tI)], 0⟩)]⟩ Try.f70 i_GreedyCap_i i_GreedyCap_o x = i_GreedyCap n x := by kernel_rfl
noncomputable def i_GreedyCap_e (n : Nat) : Ent := ⟨70, i_GreedyCap_i, i_GreedyCap_o, fun x => i_GreedyCap n x⟩
theorem i_GreedyCap_ok (n : Nat) : EntOK Try.prog (i_GreedyCap_e n) ∧ Own Try.prog 70 := ent_ok tabOK0 (.cons (i_IsHand_ok n) (.cons (i_isBlocked_ok n) .nil)) Try.func70 rfl (by kernel_rfl) (i_GreedyCap_ev n)
def s_GreedyCap_i : CSh := ⟨[(.data false (.sl (.arr 4 tI)))], []⟩
def s_GreedyCap_o : RSh := ⟨(.tcons (.own 0) (.tcons (.data true .bool) .tnil)), [.rows 3 true tI]⟩
theorem s_GreedyCap_ev (n : Nat) (x : TupT s_GreedyCap_i.tys) : evF ⟨tab, [s_l2Hand_e n, s_l3Picked_e n, s_l2Through_e n], n, [(16, ⟨[(0, (.data false (.sl (.arr 4 tI)))), (4, (.own 0)), (5, (.data true tI))], [.rows 3 true tI], 0⟩)]⟩ Try.f71 s_GreedyCap_i s_GreedyCap_o x = s_GreedyCap n x := by kernel_rfl
noncomputable def s_GreedyCap_e (n : Nat) : Ent := ⟨71, s_GreedyCap_i, s_GreedyCap_o, fun x => s_GreedyCap n x⟩
theorem s_GreedyCap_ok (n : Nat) : EntOK Try.prog (s_GreedyCap_e n) ∧ Own Try.prog 71 := ent_ok tabOK0 (.cons (s_l2Hand_ok n) (.cons (s_l3Picked_ok n) (.cons (s_l2Through_ok n) .nil))) Try.func71 rfl (by kernel_rfl) (s_GreedyCap_ev n)
def v_vCut_i : CSh := ⟨[(.data false (.sl (.int .u8))), (.data true tI)], []⟩
def v_vCut_o : RSh := ⟨(.own 0), [.rows 5 true (.int .u8)]⟩
theorem v_vCut_ev (n : Nat) (x : TupT v_vCut_i.tys) : evF ⟨tab, [], n, [(2, ⟨[(0, (.data false (.sl (.int .u8)))), (1, (.data true tI))], [], 0⟩)]⟩ Try.f22 v_vCut_i v_vCut_o x = v_vCut n x.1 x.2 := by kernel_rfl
noncomputable def v_vCut_e (n : Nat) : Ent := ⟨22, v_vCut_i, v_vCut_o, fun x => v_vCut n x.1 x.2⟩
theorem v_vCut_ok (n : Nat) : EntOK Try.prog (v_vCut_e n) ∧ Own Try.prog 22 := ent_ok tabOK0 .nil Try.func22 rfl (by kernel_rfl) (v_vCut_ev n)
def s_DrawCountCaps_i : CSh := ⟨[(.data false (.sl (.int .u8)))], []⟩
def s_DrawCountCaps_o : RSh := ⟨(.tcons (.own 0) (.tcons (.data true tI) .tnil)), [.rows 43 true (.arr 4 tI)]⟩
theorem s_DrawCountCaps_ev (n : Nat) (x : TupT s_DrawCountCaps_i.tys) : evF ⟨tab, [s_Cur_pool3'p_e n, s_Cur_pick'p_e n, s_Cur_among'pl_e n], n, []⟩ Try.f72 s_DrawCountCaps_i s_DrawCountCaps_o x = s_DrawCountCaps n x := by kernel_rfl
noncomputable def s_DrawCountCaps_e (n : Nat) : Ent := ⟨72, s_DrawCountCaps_i, s_DrawCountCaps_o, fun x => s_DrawCountCaps n x⟩
theorem s_DrawCountCaps_ok (n : Nat) : EntOK Try.prog (s_DrawCountCaps_e n) ∧ Own Try.prog 72 := ent_ok tabOK0 (.cons (s_Cur_pool3'p_ok n) (.cons (s_Cur_pick'p_ok n) (.cons (s_Cur_among'pl_ok n) .nil))) Try.func72 rfl (by kernel_rfl) (s_DrawCountCaps_ev n)
def i_CountCaps_1'lpp_i : CSh := ⟨[(.data false (.sl tI)), (.ptr 0 []), (.ptr 1 [])], [.var 3 (.data true tI), .var 3 (.data true tI)]⟩
def i_CountCaps_1'lpp_o : RSh := ⟨.tnil, [.var 3 (.data true tI), .var 3 (.data true tI)]⟩
theorem i_CountCaps_1'lpp_ev (n : Nat) (x : TupT i_CountCaps_1'lpp_i.tys) : evF ⟨tab, [], n, []⟩ Try.f176 i_CountCaps_1'lpp_i i_CountCaps_1'lpp_o x = i_CountCaps_1'lpp n x.1 x.2.1 x.2.2 := by kernel_rfl
noncomputable def i_CountCaps_1'lpp_e (n : Nat) : Ent := ⟨176, i_CountCaps_1'lpp_i, i_CountCaps_1'lpp_o, fun x => i_CountCaps_1'lpp n x.1 x.2.1 x.2.2⟩
theorem i_CountCaps_1'lpp_ok (n : Nat) : EntOK Try.prog (i_CountCaps_1'lpp_e n) ∧ Own Try.prog 176 := ent_ok tabOK0 .nil Try.func176 rfl (by kernel_rfl) (i_CountCaps_1'lpp_ev n)
def i_caps'll_i_CountCaps_1pp_i : CSh := ⟨[(.data false (.sl (.arr 4 tI))), (.data true tI), (.data false (.sl tI)), (.clo 176 (.tcons (.ptr 0 []) (.tcons (.ptr 1 []) .tnil)))], [.var 3 (.data true tI), .var 3 (.data true tI)]⟩
def i_caps'll_i_CountCaps_1pp_o : RSh := ⟨.tnil, [.var 3 (.data true tI), .var 3 (.data true tI)]⟩
theorem i_caps'll_i_CountCaps_1pp_ev (n : Nat) (go : TupT i_caps'll_i_CountCaps_1pp_i.tys → Option (TupT i_caps'll_i_CountCaps_1pp_o.tys)) (x : TupT i_caps'll_i_CountCaps_1pp_i.tys) : evF ⟨tab, [⟨175, i_caps'll_i_CountCaps_1pp_i, i_caps'll_i_CountCaps_1pp_o, go⟩, i_CountCaps_1'lpp_e n, i_third_e n], n, [(5, ⟨[(0, (.data false (.sl (.arr 4 tI)))), (2, (.data false (.sl tI))), (3, (.clo 176 (.tcons (.ptr 0 []) (.tcons (.ptr 1 []) .tnil)))), (8, (.data true tI))], [.var 3 (.data true tI), .var 3 (.data true tI)], 2⟩), (20, ⟨[(0, (.data false (.sl (.arr 4 tI)))), (2, (.data false (.sl tI))), (3, (.clo 176 (.tcons (.ptr 0 []) (.tcons (.ptr 1 []) .tnil)))), (8, (.data true tI)), (9, (.data true .bool)), (24, (.data false (.sl tI))), (25, (.data true tI)), (26, (.data true tI))], [.var 3 (.data true tI), .var 3 (.data true tI)], 2⟩), (34, ⟨[(0, (.data false (.sl (.arr 4 tI)))), (2, (.data false (.sl tI))), (3, (.clo 176 (.tcons (.ptr 0 []) (.tcons (.ptr 1 []) .tnil)))), (8, (.data true tI)), (9, (.data true .bool)), (11, (.data true tI)), (24, (.data false (.sl tI))), (25, (.data true tI)), (26, (.data true tI)), (34, (.data false (.sl tI))), (35, (.data true tI)), (36, (.data true tI))], [.var 3 (.data true tI), .var 3 (.data true tI)], 2⟩)]⟩ Try.f175 i_caps'll_i_CountCaps_1pp_i i_caps'll_i_CountCaps_1pp_o x = i_caps'll_i_CountCaps_1pp_R n go x := by kernel_rfl
noncomputable def i_caps'll_i_CountCaps_1pp_e (n : Nat) : Ent := ⟨175, i_caps'll_i_CountCaps_1pp_i, i_caps'll_i_CountCaps_1pp_o, fun x => i_caps'll_i_CountCaps_1pp n x.1 x.2.1 x.2.2.1 x.2.2.2.1 x.2.2.2.2⟩
theorem i_caps'll_i_CountCaps_1pp_ok (n : Nat) : EntOK Try.prog (i_caps'll_i_CountCaps_1pp_e n) ∧ Own Try.prog 175 := ent_rec tabOK0 (.cons (i_CountCaps_1'lpp_ok n) (.cons (i_third_ok n) .nil)) Try.func175 rfl (by kernel_rfl) (i_caps'll_i_CountCaps_1pp_ev n) n
def i_CountCaps_i : CSh := ⟨[(.data false (.sl (.arr 4 tI))), (.data true tI)], []⟩
def i_CountCaps_o : RSh := ⟨(.tcons (.data true tI) (.tcons (.data true .bool) .tnil)), []⟩
theorem i_CountCaps_ev (n : Nat) (x : TupT i_CountCaps_i.tys) : evF ⟨tab, [i_isPool_e n, i_within_e n, i_caps'll_i_CountCaps_1pp_e n], n, []⟩ Try.f73 i_CountCaps_i i_CountCaps_o x = i_CountCaps n x.1 x.2 := by kernel_rfl
noncomputable def i_CountCaps_e (n : Nat) : Ent := ⟨73, i_CountCaps_i, i_CountCaps_o, fun x => i_CountCaps n x.1 x.2⟩
theorem i_CountCaps_ok (n : Nat) : EntOK Try.prog (i_CountCaps_e n) ∧ Own Try.prog 73 := ent_ok tabOK0 (.cons (i_isPool_ok n) (.cons (i_within_ok n) (.cons (i_caps'll_i_CountCaps_1pp_ok n) .nil))) Try.func73 rfl (by kernel_rfl) (i_CountCaps_ev n)
def s_l3Count_i : CSh := ⟨[(.data false (.sl (.arr 4 tI))), (.data false (.sl tI)), (.data true tI), (.data true tI)], []⟩
def s_l3Count_o : RSh := ⟨(.data true tI), []⟩
theorem s_l3Count_ev (n : Nat) (go : TupT s_l3Count_i.tys → Option (TupT s_l3Count_o.tys)) (x : TupT s_l3Count_i.tys) : evF ⟨tab, [⟨177, s_l3Count_i, s_l3Count_o, go⟩, s_l3Picked_e n, s_l2Through_e n, s_l1Own_e n], n, [(16, ⟨[(0, (.data false (.sl (.arr 4 tI)))), (1, (.data false (.sl tI))), (3, (.data true tI)), (9, (.data true tI)), (10, (.data true tI))], [], 0⟩)]⟩ Try.f177 s_l3Count_i s_l3Count_o x = s_l3Count_R n go x := by kernel_rfl
noncomputable def s_l3Count_e (n : Nat) : Ent := ⟨177, s_l3Count_i, s_l3Count_o, fun x => s_l3Count n x.1 x.2.1 x.2.2.1 x.2.2.2⟩
theorem s_l3Count_ok (n : Nat) : EntOK Try.prog (s_l3Count_e n) ∧ Own Try.prog 177 := ent_rec tabOK0 (.cons (s_l3Picked_ok n) (.cons (s_l2Through_ok n) (.cons (s_l1Own_ok n) .nil))) Try.func177 rfl (by kernel_rfl) (s_l3Count_ev n) n
def s_CountCaps_i : CSh := ⟨[(.data false (.sl (.arr 4 tI))), (.data true tI)], []⟩
def s_CountCaps_o : RSh := ⟨(.tcons (.data true tI) (.tcons (.data true .bool) .tnil)), []⟩
theorem s_CountCaps_ev (n : Nat) (x : TupT s_CountCaps_i.tys) : evF ⟨tab, [s_l3Pool_e n, s_l1In_e n, s_l3Count_e n], n, []⟩ Try.f74 s_CountCaps_i s_CountCaps_o x = s_CountCaps n x.1 x.2 := by kernel_rfl
noncomputable def s_CountCaps_e (n : Nat) : Ent := ⟨74, s_CountCaps_i, s_CountCaps_o, fun x => s_CountCaps n x.1 x.2⟩
theorem s_CountCaps_ok (n : Nat) : EntOK Try.prog (s_CountCaps_e n) ∧ Own Try.prog 74 := ent_ok tabOK0 (.cons (s_l3Pool_ok n) (.cons (s_l1In_ok n) (.cons (s_l3Count_ok n) .nil))) Try.func74 rfl (by kernel_rfl) (s_CountCaps_ev n)
def v_vInts_i : CSh := ⟨[(.data false (.sl tI)), (.data false (.sl tI))], []⟩
def v_vInts_o : RSh := ⟨(.data true .bool), []⟩
theorem v_vInts_ev (n : Nat) (x : TupT v_vInts_i.tys) : evF ⟨tab, [], n, [(14, ⟨[(0, (.data false (.sl tI))), (1, (.data false (.sl tI))), (5, (.data true tI))], [], 0⟩)]⟩ Try.f75 v_vInts_i v_vInts_o x = v_vInts n x.1 x.2 := by kernel_rfl
noncomputable def v_vInts_e (n : Nat) : Ent := ⟨75, v_vInts_i, v_vInts_o, fun x => v_vInts n x.1 x.2⟩
theorem v_vInts_ok (n : Nat) : EntOK Try.prog (v_vInts_e n) ∧ Own Try.prog 75 := ent_ok tabOK0 .nil Try.func75 rfl (by kernel_rfl) (v_vInts_ev n)
def v_vPick_i : CSh := ⟨[(.data false (.sl (.arr 4 tI))), (.data false (.sl tI))], []⟩
def v_vPick_o : RSh := ⟨(.own 0), [.rows 43 true (.arr 4 tI)]⟩
theorem v_vPick_ev (n : Nat) (x : TupT v_vPick_i.tys) : evF ⟨tab, [], n, [(8, ⟨[(0, (.data false (.sl (.arr 4 tI)))), (1, (.data false (.sl tI))), (5, (.own 0)), (6, (.data true tI))], [.rows 43 true (.arr 4 tI)], 0⟩)]⟩ Try.f77 v_vPick_i v_vPick_o x = v_vPick n x.1 x.2 := by kernel_rfl
noncomputable def v_vPick_e (n : Nat) : Ent := ⟨77, v_vPick_i, v_vPick_o, fun x => v_vPick n x.1 x.2⟩
theorem v_vPick_ok (n : Nat) : EntOK Try.prog (v_vPick_e n) ∧ Own Try.prog 77 := ent_ok tabOK0 .nil Try.func77 rfl (by kernel_rfl) (v_vPick_ev n)
def i_linesIn_i : CSh := ⟨[(.data false (.sl (.arr 4 tI)))], []⟩
def i_linesIn_o : RSh := ⟨(.own 0), [.rows 89 true (.arr 3 tI)]⟩
theorem i_linesIn_ev (n : Nat) (x : TupT i_linesIn_i.tys) : evF ⟨tab, [i_number_e n, i_third_e n], n, [(8, ⟨[(0, (.data false (.sl (.arr 4 tI)))), (3, (.ptr 0 [])), (12, (.data false (.sl (.arr 4 tI)))), (13, (.data true tI)), (14, (.data true tI))], [.var 163 (.data true (.arr 81 tI))], 0⟩), (27, ⟨[(0, (.data false (.sl (.arr 4 tI)))), (3, (.ptr 0 [])), (6, (.own 1)), (26, (.data false (.sl (.arr 4 tI)))), (27, (.data true tI)), (28, (.data true tI))], [.var 163 (.data true (.arr 81 tI)), .rows 89 true (.arr 3 tI)], 0⟩), (41, ⟨[(0, (.data false (.sl (.arr 4 tI)))), (3, (.ptr 0 [])), (6, (.own 1)), (7, (.data true tI)), (8, (.ptr 2 [])), (9, (.data true tI)), (26, (.data false (.sl (.arr 4 tI)))), (27, (.data true tI)), (28, (.data true tI))], [.var 163 (.data true (.arr 81 tI)), .rows 89 true (.arr 3 tI), .var 43 (.data true (.arr 4 tI))], 0⟩)]⟩ Try.f121 i_linesIn_i i_linesIn_o x = i_linesIn n x := by kernel_rfl
noncomputable def i_linesIn_e (n : Nat) : Ent := ⟨121, i_linesIn_i, i_linesIn_o, fun x => i_linesIn n x⟩
theorem i_linesIn_ok (n : Nat) : EntOK Try.prog (i_linesIn_e n) ∧ Own Try.prog 121 := ent_ok tabOK0 (.cons (i_number_ok n) (.cons (i_third_ok n) .nil)) Try.func121 rfl (by kernel_rfl) (i_linesIn_ev n)
def i_isCap_i : CSh := ⟨[(.data false (.sl (.arr 4 tI)))], []⟩
def i_isCap_o : RSh := ⟨(.data true .bool), []⟩
theorem i_isCap_ev (n : Nat) (x : TupT i_isCap_i.tys) : evF ⟨tab, [i_linesIn_e n], n, []⟩ Try.f178 i_isCap_i i_isCap_o x = i_isCap n x := by kernel_rfl
noncomputable def i_isCap_e (n : Nat) : Ent := ⟨178, i_isCap_i, i_isCap_o, fun x => i_isCap n x⟩
theorem i_isCap_ok (n : Nat) : EntOK Try.prog (i_isCap_e n) ∧ Own Try.prog 178 := ent_ok tabOK0 (.cons (i_linesIn_ok n) .nil) Try.func178 rfl (by kernel_rfl) (i_isCap_ev n)
def i_IsCap_i : CSh := ⟨[(.data false (.sl (.arr 4 tI)))], []⟩
def i_IsCap_o : RSh := ⟨(.tcons (.data true .bool) (.tcons (.data true .bool) .tnil)), []⟩
theorem i_IsCap_ev (n : Nat) (x : TupT i_IsCap_i.tys) : evF ⟨tab, [i_IsHand_e n, i_isCap_e n], n, []⟩ Try.f76 i_IsCap_i i_IsCap_o x = i_IsCap n x := by kernel_rfl
noncomputable def i_IsCap_e (n : Nat) : Ent := ⟨76, i_IsCap_i, i_IsCap_o, fun x => i_IsCap n x⟩
theorem i_IsCap_ok (n : Nat) : EntOK Try.prog (i_IsCap_e n) ∧ Own Try.prog 76 := ent_ok tabOK0 (.cons (i_IsHand_ok n) (.cons (i_isCap_ok n) .nil)) Try.func76 rfl (by kernel_rfl) (i_IsCap_ev n)
def i_LinesIn_i : CSh := ⟨[(.data false (.sl (.arr 4 tI)))], []⟩
def i_LinesIn_o : RSh := ⟨(.tcons (.own 0) (.tcons (.data true .bool) .tnil)), [.rows 89 true (.arr 3 tI)]⟩
theorem i_LinesIn_ev (n : Nat) (x : TupT i_LinesIn_i.tys) : evF ⟨tab, [i_IsHand_e n, i_linesIn_e n], n, []⟩ Try.f33 i_LinesIn_i i_LinesIn_o x = i_LinesIn n x := by kernel_rfl
noncomputable def i_LinesIn_e (n : Nat) : Ent := ⟨33, i_LinesIn_i, i_LinesIn_o, fun x => i_LinesIn n x⟩
theorem i_LinesIn_ok (n : Nat) : EntOK Try.prog (i_LinesIn_e n) ∧ Own Try.prog 33 := ent_ok tabOK0 (.cons (i_IsHand_ok n) (.cons (i_linesIn_ok n) .nil)) Try.func33 rfl (by kernel_rfl) (i_LinesIn_ev n)
def v_FnGreatestCaps_i : CSh := ⟨[(.data false (.sl (.int .u8)))], []⟩
def v_FnGreatestCaps_o : RSh := ⟨(.data true .bool), []⟩
theorem v_FnGreatestCaps_ev (n : Nat) (x : TupT v_FnGreatestCaps_i.tys) : evF ⟨tab, [v_vBig_e n, s_DrawGreatestCap_e n, i_GreatestCap_e n, s_GreatestCap_e n, i_FewestDrops_e n, s_FewestDrops_e n, i_GreedyCap_e n, s_GreedyCap_e n, v_vCut_e n, s_DrawCountCaps_e n, i_CountCaps_e n, s_CountCaps_e n, v_vInts_e n, v_vPick_e n, i_IsCap_e n, i_LinesIn_e n], n, [(38, ⟨[(3, (.own 0)), (4, (.own 1)), (5, (.data true .bool)), (8, (.data true tI)), (12, (.own 2)), (13, (.data true .bool))], [.rows 43 true (.arr 4 tI), .rows 3 true tI, .rows 3 true tI], 0⟩), (52, ⟨[(3, (.own 0)), (4, (.own 1)), (5, (.data true .bool)), (8, (.data true tI)), (12, (.own 2))], [.rows 43 true (.arr 4 tI), .rows 3 true tI, .rows 3 true tI], 0⟩)]⟩ Try.f7 v_FnGreatestCaps_i v_FnGreatestCaps_o x = v_FnGreatestCaps n x := by kernel_rfl
noncomputable def v_FnGreatestCaps_e (n : Nat) : Ent := ⟨7, v_FnGreatestCaps_i, v_FnGreatestCaps_o, fun x => v_FnGreatestCaps n x⟩
theorem v_FnGreatestCaps_ok (n : Nat) : EntOK Try.prog (v_FnGreatestCaps_e n) ∧ Own Try.prog 7 := ent_ok tabOK0 (.cons (v_vBig_ok n) (.cons (s_DrawGreatestCap_ok n) (.cons (i_GreatestCap_ok n) (.cons (s_GreatestCap_ok n) (.cons (i_FewestDrops_ok n) (.cons (s_FewestDrops_ok n) (.cons (i_GreedyCap_ok n) (.cons (s_GreedyCap_ok n) (.cons (v_vCut_ok n) (.cons (s_DrawCountCaps_ok n) (.cons (i_CountCaps_ok n) (.cons (s_CountCaps_ok n) (.cons (v_vInts_ok n) (.cons (v_vPick_ok n) (.cons (i_IsCap_ok n) (.cons (i_LinesIn_ok n) .nil)))))))))))))))) Try.func7 rfl (by kernel_rfl) (v_FnGreatestCaps_ev n)
end Go.Proofs.Ytklhncjpkkfjmaa
