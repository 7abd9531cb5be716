/- Printed by a program of the session: the contracts of the seat's functions. -/
import Derived.Test.YtklhncjpkkfjmaaZ7
import Derived.Test.YtklhncjpkkfjmaaPL
import Derived.Test.YtklhncjpkkfjmaaRows
import Derived.KernelRfl
namespace Go.Proofs.Ytklhncjpkkfjmaa
open Go Go.Tv Go.Pl Go.RowKit
set_option linter.unusedVariables false
abbrev tI : Ty := .int .i64
def tab : Tab := ⟨[(2, ⟨tI, 0, 8⟩), (3, ⟨tI, 0, 8⟩), (4, ⟨.bool, 0, 1⟩), (5, ⟨(.int .u8), 0, 1⟩), (6, ⟨(.int .u8), 0, 1⟩), (7, ⟨(.pair tI (.pair tI (.pair .bool (.int .u8)))), 4, 24⟩), (8, ⟨(.pair tI (.pair tI (.pair .bool (.int .u8)))), 4, 24⟩), (9, ⟨.str, 0, 16⟩), (10, ⟨.str, 0, 16⟩), (11, ⟨.str, 0, 16⟩), (12, ⟨(.int .u64), 0, 8⟩), (13, ⟨(.pair .str (.int .u64)), 2, 24⟩), (14, ⟨(.pair .str (.int .u64)), 2, 24⟩), (21, ⟨(.int .i32), 0, 4⟩), (22, ⟨(.sl (.int .u8)), 5, 1⟩), (24, ⟨(.sl (.arr 4 tI)), 43, 32⟩), (26, ⟨(.sl (.arr 3 tI)), 89, 24⟩), (43, ⟨(.arr 4 tI), 3, 8⟩), (46, ⟨(.pair (.sl (.arr 4 tI)) (.pair tI tI)), 3, 40⟩), (47, ⟨(.pair (.sl (.arr 4 tI)) (.pair tI tI)), 3, 40⟩), (49, ⟨(.pair (.sl (.arr 4 tI)) (.pair tI tI)), 3, 40⟩), (50, ⟨(.pair .str (.pair .str tI)), 3, 40⟩), (51, ⟨(.pair .str (.pair .str tI)), 3, 40⟩), (52, ⟨(.pair (.pair (.sl (.arr 4 tI)) (.pair tI tI)) (.pair .str (.pair .str tI))), 2, 80⟩), (53, ⟨(.pair (.pair (.sl (.arr 4 tI)) (.pair tI tI)) (.pair .str (.pair .str tI))), 2, 80⟩), (77, ⟨(.sl tI), 3, 8⟩), (87, ⟨(.pair tI (.pair tI (.sl (.arr 4 tI)))), 3, 40⟩), (88, ⟨(.pair tI (.pair tI (.sl (.arr 4 tI)))), 3, 40⟩), (89, ⟨(.arr 3 tI), 3, 8⟩), (101, ⟨(.arr 81 .bool), 4, 1⟩), (112, ⟨(.int .u64), 0, 8⟩), (113, ⟨(.pair (.sl (.int .u8)) (.pair tI (.int .u64))), 3, 40⟩), (114, ⟨(.pair (.sl (.int .u8)) (.pair tI (.int .u64))), 3, 40⟩), (163, ⟨(.arr 81 tI), 3, 8⟩), (173, ⟨(.sl (.arr 2 tI)), 181, 16⟩), (178, ⟨(.int .u64), 0, 8⟩), (181, ⟨(.arr 2 tI), 3, 8⟩), (183, ⟨(.sl (.sl (.arr 4 tI))), 24, 24⟩), (187, ⟨tI, 0, 8⟩), (194, ⟨(.int .u32), 0, 4⟩), (196, ⟨(.int .u64), 0, 8⟩), (211, ⟨(.int .u8), 0, 1⟩), (212, ⟨(.int .u8), 0, 1⟩), (215, ⟨(.int .i32), 0, 4⟩), (216, ⟨(.int .i32), 0, 4⟩)], [7, 8, 43, 50, 51, 89, 101, 163, 181], [1, 23, 25, 28, 30, 32, 33, 34, 36, 38, 40, 41, 42, 45, 48, 55, 56, 57, 58, 59, 60, 61, 63, 64, 66, 67, 68, 69, 70, 71, 72, 73, 75, 76, 79, 80, 81, 82, 83, 84, 85, 86, 91, 93, 94, 95, 96, 97, 98, 99, 100, 102, 103, 104, 105, 106, 107, 108, 109, 110, 115, 116, 117, 118, 119, 120, 121, 122, 123, 124, 125, 126, 127, 128, 129, 130, 131, 132, 133, 134, 135, 136, 137, 138, 139, 140, 141, 142, 143, 144, 145, 146, 147, 148, 149, 150, 151, 152, 153, 154, 155, 156, 157, 158, 159, 160, 161, 162, 164, 165, 166, 167, 168, 169, 170, 171, 172, 174, 175, 176, 177, 179, 180, 182, 184, 185, 186, 189, 190, 191, 192, 193, 195, 197, 198, 199, 201, 204, 205, 213]⟩
theorem tabOK0 : TabOK Try.prog tab := ⟨by kernel_rfl, by kernel_rfl⟩
def v_rBig_i : CSh := ⟨[(.data false (.sl (.int .u8)))], []⟩
def v_rBig_o : RSh := ⟨(.data true .bool), []⟩
theorem v_rBig_ev (n : Nat) (x : TupT v_rBig_i.tys) : evF ⟨tab, [], n, []⟩ Try.f44 v_rBig_i v_rBig_o x = v_rBig n x := by kernel_rfl
noncomputable def v_rBig_e (n : Nat) : Ent := ⟨44, v_rBig_i, v_rBig_o, fun x => v_rBig n x⟩
theorem v_rBig_ok (n : Nat) : EntOK Try.prog (v_rBig_e n) ∧ Own Try.prog 44 := ent_ok tabOK0 .nil Try.func44 rfl (by kernel_rfl) (v_rBig_ev n)
def s_Cur_next'p_i : CSh := ⟨[(.ptr 0 [])], [.var 114 (.data true (.pair (.sl (.int .u8)) (.pair tI (.int .u64))))]⟩
def s_Cur_next'p_o : RSh := ⟨(.data true tI), [.var 114 (.data true (.pair (.sl (.int .u8)) (.pair tI (.int .u64))))]⟩
theorem s_Cur_next'p_ev (n : Nat) (x : TupT s_Cur_next'p_i.tys) : evF ⟨tab, [], n, [(4, ⟨[(0, (.ptr 0 [])), (3, (.data true tI))], [.var 114 (.data true (.pair (.sl (.int .u8)) (.pair tI (.int .u64))))], 1⟩)]⟩ Try.f218 s_Cur_next'p_i s_Cur_next'p_o x = s_Cur_next'p n x := by kernel_rfl
noncomputable def s_Cur_next'p_e (n : Nat) : Ent := ⟨218, s_Cur_next'p_i, s_Cur_next'p_o, fun x => s_Cur_next'p n x⟩
theorem s_Cur_next'p_ok (n : Nat) : EntOK Try.prog (s_Cur_next'p_e n) ∧ Own Try.prog 218 := ent_ok tabOK0 .nil Try.func218 rfl (by kernel_rfl) (s_Cur_next'p_ev n)
def s_Cur_pick'p_i : CSh := ⟨[(.ptr 0 []), (.data true tI)], [.var 114 (.data true (.pair (.sl (.int .u8)) (.pair tI (.int .u64))))]⟩
def s_Cur_pick'p_o : RSh := ⟨(.data true tI), [.var 114 (.data true (.pair (.sl (.int .u8)) (.pair tI (.int .u64))))]⟩
theorem s_Cur_pick'p_ev (n : Nat) (x : TupT s_Cur_pick'p_i.tys) : evF ⟨tab, [s_Cur_next'p_e n], n, []⟩ Try.f131 s_Cur_pick'p_i s_Cur_pick'p_o x = s_Cur_pick'p n x.1 x.2 := by kernel_rfl
noncomputable def s_Cur_pick'p_e (n : Nat) : Ent := ⟨131, s_Cur_pick'p_i, s_Cur_pick'p_o, fun x => s_Cur_pick'p n x.1 x.2⟩
theorem s_Cur_pick'p_ok (n : Nat) : EntOK Try.prog (s_Cur_pick'p_e n) ∧ Own Try.prog 131 := ent_ok tabOK0 (.cons (s_Cur_next'p_ok n) .nil) Try.func131 rfl (by kernel_rfl) (s_Cur_pick'p_ev n)
def s_l2At_i : CSh := ⟨[(.data true tI)], []⟩
def s_l2At_o : RSh := ⟨(.data true (.arr 4 tI)), []⟩
theorem s_l2At_ev (n : Nat) (x : TupT s_l2At_i.tys) : evF ⟨tab, [], n, []⟩ Try.f164 s_l2At_i s_l2At_o x = s_l2At n x := by kernel_rfl
noncomputable def s_l2At_e (n : Nat) : Ent := ⟨164, s_l2At_i, s_l2At_o, fun x => s_l2At n x⟩
theorem s_l2At_ok (n : Nat) : EntOK Try.prog (s_l2At_e n) ∧ Own Try.prog 164 := ent_ok tabOK0 .nil Try.func164 rfl (by kernel_rfl) (s_l2At_ev n)
def s_Cur_one'p_i : CSh := ⟨[(.ptr 0 []), (.data true tI)], [.var 114 (.data true (.pair (.sl (.int .u8)) (.pair tI (.int .u64))))]⟩
def s_Cur_one'p_o : RSh := ⟨(.data true .bool), [.var 114 (.data true (.pair (.sl (.int .u8)) (.pair tI (.int .u64))))]⟩
theorem s_Cur_one'p_ev (n : Nat) (x : TupT s_Cur_one'p_i.tys) : evF ⟨tab, [s_Cur_pick'p_e n], n, []⟩ Try.f154 s_Cur_one'p_i s_Cur_one'p_o x = s_Cur_one'p n x.1 x.2 := by kernel_rfl
noncomputable def s_Cur_one'p_e (n : Nat) : Ent := ⟨154, s_Cur_one'p_i, s_Cur_one'p_o, fun x => s_Cur_one'p n x.1 x.2⟩
theorem s_Cur_one'p_ok (n : Nat) : EntOK Try.prog (s_Cur_one'p_e n) ∧ Own Try.prog 154 := ent_ok tabOK0 (.cons (s_Cur_pick'p_ok n) .nil) Try.func154 rfl (by kernel_rfl) (s_Cur_one'p_ev n)
def s_Cur_among'pl_i : CSh := ⟨[(.ptr 0 []), (.data false (.sl tI))], [.var 114 (.data true (.pair (.sl (.int .u8)) (.pair tI (.int .u64))))]⟩
def s_Cur_among'pl_o : RSh := ⟨(.data true tI), [.var 114 (.data true (.pair (.sl (.int .u8)) (.pair tI (.int .u64))))]⟩
theorem s_Cur_among'pl_ev (n : Nat) (x : TupT s_Cur_among'pl_i.tys) : evF ⟨tab, [s_Cur_pick'p_e n], n, []⟩ Try.f130 s_Cur_among'pl_i s_Cur_among'pl_o x = s_Cur_among'pl n x.1 x.2 := by kernel_rfl
noncomputable def s_Cur_among'pl_e (n : Nat) : Ent := ⟨130, s_Cur_among'pl_i, s_Cur_among'pl_o, fun x => s_Cur_among'pl n x.1 x.2⟩
theorem s_Cur_among'pl_ok (n : Nat) : EntOK Try.prog (s_Cur_among'pl_e n) ∧ Own Try.prog 130 := ent_ok tabOK0 (.cons (s_Cur_pick'p_ok n) .nil) Try.func130 rfl (by kernel_rfl) (s_Cur_among'pl_ev n)
def s_Cur_card'p_i : CSh := ⟨[(.ptr 0 [])], [.var 114 (.data true (.pair (.sl (.int .u8)) (.pair tI (.int .u64))))]⟩
def s_Cur_card'p_o : RSh := ⟨(.data true (.arr 4 tI)), [.var 114 (.data true (.pair (.sl (.int .u8)) (.pair tI (.int .u64))))]⟩
theorem s_Cur_card'p_ev (n : Nat) (x : TupT s_Cur_card'p_i.tys) : evF ⟨tab, [s_Cur_pick'p_e n, s_l2At_e n, s_Cur_one'p_e n, s_Cur_among'pl_e n], n, []⟩ Try.f149 s_Cur_card'p_i s_Cur_card'p_o x = s_Cur_card'p n x := by kernel_rfl
noncomputable def s_Cur_card'p_e (n : Nat) : Ent := ⟨149, s_Cur_card'p_i, s_Cur_card'p_o, fun x => s_Cur_card'p n x⟩
theorem s_Cur_card'p_ok (n : Nat) : EntOK Try.prog (s_Cur_card'p_e n) ∧ Own Try.prog 149 := ent_ok tabOK0 (.cons (s_Cur_pick'p_ok n) (.cons (s_l2At_ok n) (.cons (s_Cur_one'p_ok n) (.cons (s_Cur_among'pl_ok n) .nil)))) Try.func149 rfl (by kernel_rfl) (s_Cur_card'p_ev n)
def s_Cur_near'p_i : CSh := ⟨[(.ptr 0 []), (.data true (.arr 4 tI))], [.var 114 (.data true (.pair (.sl (.int .u8)) (.pair tI (.int .u64))))]⟩
def s_Cur_near'p_o : RSh := ⟨(.data true (.arr 4 tI)), [.var 114 (.data true (.pair (.sl (.int .u8)) (.pair tI (.int .u64))))]⟩
theorem s_Cur_near'p_ev (n : Nat) (x : TupT s_Cur_near'p_i.tys) : evF ⟨tab, [s_Cur_one'p_e n, s_Cur_card'p_e n, s_Cur_pick'p_e n], n, []⟩ Try.f150 s_Cur_near'p_i s_Cur_near'p_o x = s_Cur_near'p n x.1 x.2 := by kernel_rfl
noncomputable def s_Cur_near'p_e (n : Nat) : Ent := ⟨150, s_Cur_near'p_i, s_Cur_near'p_o, fun x => s_Cur_near'p n x.1 x.2⟩
theorem s_Cur_near'p_ok (n : Nat) : EntOK Try.prog (s_Cur_near'p_e n) ∧ Own Try.prog 150 := ent_ok tabOK0 (.cons (s_Cur_one'p_ok n) (.cons (s_Cur_card'p_ok n) (.cons (s_Cur_pick'p_ok n) .nil))) Try.func150 rfl (by kernel_rfl) (s_Cur_near'p_ev n)
def s_DrawThirdCard_i : CSh := ⟨[(.data false (.sl (.int .u8)))], []⟩
def s_DrawThirdCard_o : RSh := ⟨(.tcons (.data true (.arr 4 tI)) (.tcons (.data true (.arr 4 tI)) .tnil)), []⟩
theorem s_DrawThirdCard_ev (n : Nat) (x : TupT s_DrawThirdCard_i.tys) : evF ⟨tab, [s_Cur_card'p_e n, s_Cur_near'p_e n], n, []⟩ Try.f45 s_DrawThirdCard_i s_DrawThirdCard_o x = s_DrawThirdCard n x := by kernel_rfl
noncomputable def s_DrawThirdCard_e (n : Nat) : Ent := ⟨45, s_DrawThirdCard_i, s_DrawThirdCard_o, fun x => s_DrawThirdCard n x⟩
theorem s_DrawThirdCard_ok (n : Nat) : EntOK Try.prog (s_DrawThirdCard_e n) ∧ Own Try.prog 45 := ent_ok tabOK0 (.cons (s_Cur_card'p_ok n) (.cons (s_Cur_near'p_ok n) .nil)) Try.func45 rfl (by kernel_rfl) (s_DrawThirdCard_ev n)
def i_within_i : CSh := ⟨[(.data true tI), (.data true tI), (.data true tI)], []⟩
def i_within_o : RSh := ⟨(.data true .bool), []⟩
theorem i_within_ev (n : Nat) (x : TupT i_within_i.tys) : evF ⟨tab, [], n, []⟩ Try.f132 i_within_i i_within_o x = i_within n x.1 x.2.1 x.2.2 := by kernel_rfl
noncomputable def i_within_e (n : Nat) : Ent := ⟨132, i_within_i, i_within_o, fun x => i_within n x.1 x.2.1 x.2.2⟩
theorem i_within_ok (n : Nat) : EntOK Try.prog (i_within_e n) ∧ Own Try.prog 132 := ent_ok tabOK0 .nil Try.func132 rfl (by kernel_rfl) (i_within_ev n)
def i_allWithin_1'pp_i : CSh := ⟨[(.data true tI), (.ptr 0 []), (.ptr 1 [])], [.var 3 (.data true tI), .var 3 (.data true tI)]⟩
def i_allWithin_1'pp_o : RSh := ⟨(.data true .bool), [.var 3 (.data true tI), .var 3 (.data true tI)]⟩
theorem i_allWithin_1'pp_ev (n : Nat) (x : TupT i_allWithin_1'pp_i.tys) : evF ⟨tab, [i_within_e n], n, []⟩ Try.f229 i_allWithin_1'pp_i i_allWithin_1'pp_o x = i_allWithin_1'pp n x.1 x.2.1 x.2.2 := by kernel_rfl
noncomputable def i_allWithin_1'pp_e (n : Nat) : Ent := ⟨229, i_allWithin_1'pp_i, i_allWithin_1'pp_o, fun x => i_allWithin_1'pp n x.1 x.2.1 x.2.2⟩
theorem i_allWithin_1'pp_ok (n : Nat) : EntOK Try.prog (i_allWithin_1'pp_e n) ∧ Own Try.prog 229 := ent_ok tabOK0 (.cons (i_within_ok n) .nil) Try.func229 rfl (by kernel_rfl) (i_allWithin_1'pp_ev n)
def slices_IndexFunc_Sint_int_'l_i_allWithin_1pp_i : CSh := ⟨[(.data false (.sl tI)), (.clo 229 (.tcons (.ptr 0 []) (.tcons (.ptr 1 []) .tnil)))], [.var 3 (.data true tI), .var 3 (.data true tI)]⟩
def slices_IndexFunc_Sint_int_'l_i_allWithin_1pp_o : RSh := ⟨(.data true tI), [.var 3 (.data true tI), .var 3 (.data true tI)]⟩
theorem slices_IndexFunc_Sint_int_'l_i_allWithin_1pp_ev (n : Nat) (x : TupT slices_IndexFunc_Sint_int_'l_i_allWithin_1pp_i.tys) : evF ⟨tab, [i_allWithin_1'pp_e n], n, [(6, ⟨[(0, (.data false (.sl tI))), (1, (.clo 229 (.tcons (.ptr 0 []) (.tcons (.ptr 1 []) .tnil)))), (7, (.data true tI)), (8, (.data true tI))], [.var 3 (.data true tI), .var 3 (.data true tI)], 2⟩)]⟩ Try.f246 slices_IndexFunc_Sint_int_'l_i_allWithin_1pp_i slices_IndexFunc_Sint_int_'l_i_allWithin_1pp_o x = slices_IndexFunc_Sint_int_'l_i_allWithin_1pp n x.1 x.2.1 x.2.2 := by kernel_rfl
noncomputable def slices_IndexFunc_Sint_int_'l_i_allWithin_1pp_e (n : Nat) : Ent := ⟨246, slices_IndexFunc_Sint_int_'l_i_allWithin_1pp_i, slices_IndexFunc_Sint_int_'l_i_allWithin_1pp_o, fun x => slices_IndexFunc_Sint_int_'l_i_allWithin_1pp n x.1 x.2.1 x.2.2⟩
theorem slices_IndexFunc_Sint_int_'l_i_allWithin_1pp_ok (n : Nat) : EntOK Try.prog (slices_IndexFunc_Sint_int_'l_i_allWithin_1pp_e n) ∧ Own Try.prog 246 := ent_ok tabOK0 (.cons (i_allWithin_1'pp_ok n) .nil) Try.func246 rfl (by kernel_rfl) (slices_IndexFunc_Sint_int_'l_i_allWithin_1pp_ev n)
def slices_ContainsFunc_Sint_int_'l_i_allWithin_1pp_i : CSh := ⟨[(.data false (.sl tI)), (.clo 229 (.tcons (.ptr 0 []) (.tcons (.ptr 1 []) .tnil)))], [.var 3 (.data true tI), .var 3 (.data true tI)]⟩
def slices_ContainsFunc_Sint_int_'l_i_allWithin_1pp_o : RSh := ⟨(.data true .bool), [.var 3 (.data true tI), .var 3 (.data true tI)]⟩
theorem slices_ContainsFunc_Sint_int_'l_i_allWithin_1pp_ev (n : Nat) (x : TupT slices_ContainsFunc_Sint_int_'l_i_allWithin_1pp_i.tys) : evF ⟨tab, [slices_IndexFunc_Sint_int_'l_i_allWithin_1pp_e n], n, []⟩ Try.f228 slices_ContainsFunc_Sint_int_'l_i_allWithin_1pp_i slices_ContainsFunc_Sint_int_'l_i_allWithin_1pp_o x = slices_ContainsFunc_Sint_int_'l_i_allWithin_1pp n x.1 x.2.1 x.2.2 := by kernel_rfl
noncomputable def slices_ContainsFunc_Sint_int_'l_i_allWithin_1pp_e (n : Nat) : Ent := ⟨228, slices_ContainsFunc_Sint_int_'l_i_allWithin_1pp_i, slices_ContainsFunc_Sint_int_'l_i_allWithin_1pp_o, fun x => slices_ContainsFunc_Sint_int_'l_i_allWithin_1pp n x.1 x.2.1 x.2.2⟩
theorem slices_ContainsFunc_Sint_int_'l_i_allWithin_1pp_ok (n : Nat) : EntOK Try.prog (slices_ContainsFunc_Sint_int_'l_i_allWithin_1pp_e n) ∧ Own Try.prog 228 := ent_ok tabOK0 (.cons (slices_IndexFunc_Sint_int_'l_i_allWithin_1pp_ok n) .nil) Try.func228 rfl (by kernel_rfl) (slices_ContainsFunc_Sint_int_'l_i_allWithin_1pp_ev n)
def i_allWithin_i : CSh := ⟨[(.data false (.sl tI)), (.data true tI), (.data true tI)], []⟩
def i_allWithin_o : RSh := ⟨(.data true .bool), []⟩
theorem i_allWithin_ev (n : Nat) (x : TupT i_allWithin_i.tys) : evF ⟨tab, [slices_ContainsFunc_Sint_int_'l_i_allWithin_1pp_e n], n, []⟩ Try.f160 i_allWithin_i i_allWithin_o x = i_allWithin n x.1 x.2.1 x.2.2 := by kernel_rfl
noncomputable def i_allWithin_e (n : Nat) : Ent := ⟨160, i_allWithin_i, i_allWithin_o, fun x => i_allWithin n x.1 x.2.1 x.2.2⟩
theorem i_allWithin_ok (n : Nat) : EntOK Try.prog (i_allWithin_e n) ∧ Own Try.prog 160 := ent_ok tabOK0 (.cons (slices_ContainsFunc_Sint_int_'l_i_allWithin_1pp_ok n) .nil) Try.func160 rfl (by kernel_rfl) (i_allWithin_ev n)
def i_IsCard_i : CSh := ⟨[(.data true (.arr 4 tI))], []⟩
def i_IsCard_o : RSh := ⟨(.data true .bool), []⟩
theorem i_IsCard_ev (n : Nat) (x : TupT i_IsCard_i.tys) : evF ⟨tab, [i_allWithin_e n], n, []⟩ Try.f55 i_IsCard_i i_IsCard_o x = i_IsCard n x := by kernel_rfl
noncomputable def i_IsCard_e (n : Nat) : Ent := ⟨55, i_IsCard_i, i_IsCard_o, fun x => i_IsCard n x⟩
theorem i_IsCard_ok (n : Nat) : EntOK Try.prog (i_IsCard_e n) ∧ Own Try.prog 55 := ent_ok tabOK0 (.cons (i_allWithin_ok n) .nil) Try.func55 rfl (by kernel_rfl) (i_IsCard_ev n)
def i_third_i : CSh := ⟨[(.data true (.arr 4 tI)), (.data true (.arr 4 tI))], []⟩
def i_third_o : RSh := ⟨(.data true (.arr 4 tI)), []⟩
theorem i_third_ev (n : Nat) (x : TupT i_third_i.tys) : evF ⟨tab, [], n, [(8, ⟨[(2, (.ptr 0 [])), (3, (.ptr 1 [])), (4, (.ptr 2 [])), (5, (.ptr 3 [])), (8, (.data true tI))], [.var 43 (.data true (.arr 4 tI)), .var 43 (.data true (.arr 4 tI)), .var 43 (.data true (.arr 4 tI)), .var 43 (.data true (.arr 4 tI))], 0⟩)]⟩ Try.f151 i_third_i i_third_o x = i_third n x.1 x.2 := by kernel_rfl
noncomputable def i_third_e (n : Nat) : Ent := ⟨151, i_third_i, i_third_o, fun x => i_third n x.1 x.2⟩
theorem i_third_ok (n : Nat) : EntOK Try.prog (i_third_e n) ∧ Own Try.prog 151 := ent_ok tabOK0 .nil Try.func151 rfl (by kernel_rfl) (i_third_ev n)
def i_ThirdCard_i : CSh := ⟨[(.data true (.arr 4 tI)), (.data true (.arr 4 tI))], []⟩
def i_ThirdCard_o : RSh := ⟨(.tcons (.data true (.arr 4 tI)) (.tcons (.data true .bool) .tnil)), []⟩
theorem i_ThirdCard_ev (n : Nat) (x : TupT i_ThirdCard_i.tys) : evF ⟨tab, [i_IsCard_e n, i_third_e n], n, []⟩ Try.f46 i_ThirdCard_i i_ThirdCard_o x = i_ThirdCard n x.1 x.2 := by kernel_rfl
noncomputable def i_ThirdCard_e (n : Nat) : Ent := ⟨46, i_ThirdCard_i, i_ThirdCard_o, fun x => i_ThirdCard n x.1 x.2⟩
theorem i_ThirdCard_ok (n : Nat) : EntOK Try.prog (i_ThirdCard_e n) ∧ Own Try.prog 46 := ent_ok tabOK0 (.cons (i_IsCard_ok n) (.cons (i_third_ok n) .nil)) Try.func46 rfl (by kernel_rfl) (i_ThirdCard_ev n)
def s_l1In_i : CSh := ⟨[(.data true tI), (.data true tI), (.data true tI)], []⟩
def s_l1In_o : RSh := ⟨(.data true .bool), []⟩
theorem s_l1In_ev (n : Nat) (x : TupT s_l1In_i.tys) : evF ⟨tab, [], n, []⟩ Try.f133 s_l1In_i s_l1In_o x = s_l1In n x.1 x.2.1 x.2.2 := by kernel_rfl
noncomputable def s_l1In_e (n : Nat) : Ent := ⟨133, s_l1In_i, s_l1In_o, fun x => s_l1In n x.1 x.2.1 x.2.2⟩
theorem s_l1In_ok (n : Nat) : EntOK Try.prog (s_l1In_e n) ∧ Own Try.prog 133 := ent_ok tabOK0 .nil Try.func133 rfl (by kernel_rfl) (s_l1In_ev n)
def s_l2Card_i : CSh := ⟨[(.data true (.arr 4 tI))], []⟩
def s_l2Card_o : RSh := ⟨(.data true .bool), []⟩
theorem s_l2Card_ev (n : Nat) (x : TupT s_l2Card_i.tys) : evF ⟨tab, [s_l1In_e n], n, [(6, ⟨[(1, (.ptr 0 [])), (3, (.data true tI))], [.var 43 (.data true (.arr 4 tI))], 0⟩)]⟩ Try.f152 s_l2Card_i s_l2Card_o x = s_l2Card n x := by kernel_rfl
noncomputable def s_l2Card_e (n : Nat) : Ent := ⟨152, s_l2Card_i, s_l2Card_o, fun x => s_l2Card n x⟩
theorem s_l2Card_ok (n : Nat) : EntOK Try.prog (s_l2Card_e n) ∧ Own Try.prog 152 := ent_ok tabOK0 (.cons (s_l1In_ok n) .nil) Try.func152 rfl (by kernel_rfl) (s_l2Card_ev n)
def s_l2Third_i : CSh := ⟨[(.data true (.arr 4 tI)), (.data true (.arr 4 tI))], []⟩
def s_l2Third_o : RSh := ⟨(.data true (.arr 4 tI)), []⟩
theorem s_l2Third_ev (n : Nat) (x : TupT s_l2Third_i.tys) : evF ⟨tab, [], n, [(8, ⟨[(2, (.ptr 0 [])), (3, (.ptr 1 [])), (4, (.ptr 2 [])), (5, (.ptr 3 [])), (6, (.data true tI))], [.var 43 (.data true (.arr 4 tI)), .var 43 (.data true (.arr 4 tI)), .var 43 (.data true (.arr 4 tI)), .var 43 (.data true (.arr 4 tI))], 0⟩)]⟩ Try.f153 s_l2Third_i s_l2Third_o x = s_l2Third n x.1 x.2 := by kernel_rfl
noncomputable def s_l2Third_e (n : Nat) : Ent := ⟨153, s_l2Third_i, s_l2Third_o, fun x => s_l2Third n x.1 x.2⟩
theorem s_l2Third_ok (n : Nat) : EntOK Try.prog (s_l2Third_e n) ∧ Own Try.prog 153 := ent_ok tabOK0 .nil Try.func153 rfl (by kernel_rfl) (s_l2Third_ev n)
def s_ThirdCard_i : CSh := ⟨[(.data true (.arr 4 tI)), (.data true (.arr 4 tI))], []⟩
def s_ThirdCard_o : RSh := ⟨(.tcons (.data true (.arr 4 tI)) (.tcons (.data true .bool) .tnil)), []⟩
theorem s_ThirdCard_ev (n : Nat) (x : TupT s_ThirdCard_i.tys) : evF ⟨tab, [s_l2Card_e n, s_l2Third_e n], n, []⟩ Try.f47 s_ThirdCard_i s_ThirdCard_o x = s_ThirdCard n x.1 x.2 := by kernel_rfl
noncomputable def s_ThirdCard_e (n : Nat) : Ent := ⟨47, s_ThirdCard_i, s_ThirdCard_o, fun x => s_ThirdCard n x.1 x.2⟩
theorem s_ThirdCard_ok (n : Nat) : EntOK Try.prog (s_ThirdCard_e n) ∧ Own Try.prog 47 := ent_ok tabOK0 (.cons (s_l2Card_ok n) (.cons (s_l2Third_ok n) .nil)) Try.func47 rfl (by kernel_rfl) (s_ThirdCard_ev n)
def s_DrawIsLine_i : CSh := ⟨[(.data false (.sl (.int .u8)))], []⟩
def s_DrawIsLine_o : RSh := ⟨(.tcons (.data true (.arr 4 tI)) (.tcons (.data true (.arr 4 tI)) (.tcons (.data true (.arr 4 tI)) .tnil))), []⟩
theorem s_DrawIsLine_ev (n : Nat) (x : TupT s_DrawIsLine_i.tys) : evF ⟨tab, [s_Cur_one'p_e n, s_Cur_card'p_e n, s_Cur_near'p_e n, s_l2Card_e n, s_l2Third_e n], n, []⟩ Try.f48 s_DrawIsLine_i s_DrawIsLine_o x = s_DrawIsLine n x := by kernel_rfl
noncomputable def s_DrawIsLine_e (n : Nat) : Ent := ⟨48, s_DrawIsLine_i, s_DrawIsLine_o, fun x => s_DrawIsLine n x⟩
theorem s_DrawIsLine_ok (n : Nat) : EntOK Try.prog (s_DrawIsLine_e n) ∧ Own Try.prog 48 := ent_ok tabOK0 (.cons (s_Cur_one'p_ok n) (.cons (s_Cur_card'p_ok n) (.cons (s_Cur_near'p_ok n) (.cons (s_l2Card_ok n) (.cons (s_l2Third_ok n) .nil))))) Try.func48 rfl (by kernel_rfl) (s_DrawIsLine_ev n)
def i_areCards_1_i : CSh := ⟨[(.data true (.arr 4 tI))], []⟩
def i_areCards_1_o : RSh := ⟨(.data true .bool), []⟩
theorem i_areCards_1_ev (n : Nat) (x : TupT i_areCards_1_i.tys) : evF ⟨tab, [i_IsCard_e n], n, []⟩ Try.f227 i_areCards_1_i i_areCards_1_o x = i_areCards_1 n x := by kernel_rfl
noncomputable def i_areCards_1_e (n : Nat) : Ent := ⟨227, i_areCards_1_i, i_areCards_1_o, fun x => i_areCards_1 n x⟩
theorem i_areCards_1_ok (n : Nat) : EntOK Try.prog (i_areCards_1_e n) ∧ Own Try.prog 227 := ent_ok tabOK0 (.cons (i_IsCard_ok n) .nil) Try.func227 rfl (by kernel_rfl) (i_areCards_1_ev n)
def slices_IndexFunc_SA4_A4_'l_i_areCards_1_i : CSh := ⟨[(.data false (.sl (.arr 4 tI))), (.clo 227 .tnil)], []⟩
def slices_IndexFunc_SA4_A4_'l_i_areCards_1_o : RSh := ⟨(.data true tI), []⟩
theorem slices_IndexFunc_SA4_A4_'l_i_areCards_1_ev (n : Nat) (x : TupT slices_IndexFunc_SA4_A4_'l_i_areCards_1_i.tys) : evF ⟨tab, [i_areCards_1_e n], n, [(6, ⟨[(0, (.data false (.sl (.arr 4 tI)))), (1, (.clo 227 .tnil)), (7, (.data true tI)), (8, (.data true tI))], [], 0⟩)]⟩ Try.f245 slices_IndexFunc_SA4_A4_'l_i_areCards_1_i slices_IndexFunc_SA4_A4_'l_i_areCards_1_o x = slices_IndexFunc_SA4_A4_'l_i_areCards_1 n x := by kernel_rfl
noncomputable def slices_IndexFunc_SA4_A4_'l_i_areCards_1_e (n : Nat) : Ent := ⟨245, slices_IndexFunc_SA4_A4_'l_i_areCards_1_i, slices_IndexFunc_SA4_A4_'l_i_areCards_1_o, fun x => slices_IndexFunc_SA4_A4_'l_i_areCards_1 n x⟩
theorem slices_IndexFunc_SA4_A4_'l_i_areCards_1_ok (n : Nat) : EntOK Try.prog (slices_IndexFunc_SA4_A4_'l_i_areCards_1_e n) ∧ Own Try.prog 245 := ent_ok tabOK0 (.cons (i_areCards_1_ok n) .nil) Try.func245 rfl (by kernel_rfl) (slices_IndexFunc_SA4_A4_'l_i_areCards_1_ev n)
def slices_ContainsFunc_SA4_A4_'l_i_areCards_1_i : CSh := ⟨[(.data false (.sl (.arr 4 tI))), (.clo 227 .tnil)], []⟩
def slices_ContainsFunc_SA4_A4_'l_i_areCards_1_o : RSh := ⟨(.data true .bool), []⟩
theorem slices_ContainsFunc_SA4_A4_'l_i_areCards_1_ev (n : Nat) (x : TupT slices_ContainsFunc_SA4_A4_'l_i_areCards_1_i.tys) : evF ⟨tab, [slices_IndexFunc_SA4_A4_'l_i_areCards_1_e n], n, []⟩ Try.f226 slices_ContainsFunc_SA4_A4_'l_i_areCards_1_i slices_ContainsFunc_SA4_A4_'l_i_areCards_1_o x = slices_ContainsFunc_SA4_A4_'l_i_areCards_1 n x := by kernel_rfl
noncomputable def slices_ContainsFunc_SA4_A4_'l_i_areCards_1_e (n : Nat) : Ent := ⟨226, slices_ContainsFunc_SA4_A4_'l_i_areCards_1_i, slices_ContainsFunc_SA4_A4_'l_i_areCards_1_o, fun x => slices_ContainsFunc_SA4_A4_'l_i_areCards_1 n x⟩
theorem slices_ContainsFunc_SA4_A4_'l_i_areCards_1_ok (n : Nat) : EntOK Try.prog (slices_ContainsFunc_SA4_A4_'l_i_areCards_1_e n) ∧ Own Try.prog 226 := ent_ok tabOK0 (.cons (slices_IndexFunc_SA4_A4_'l_i_areCards_1_ok n) .nil) Try.func226 rfl (by kernel_rfl) (slices_ContainsFunc_SA4_A4_'l_i_areCards_1_ev n)
def i_areCards_i : CSh := ⟨[(.data false (.sl (.arr 4 tI)))], []⟩
def i_areCards_o : RSh := ⟨(.data true .bool), []⟩
theorem i_areCards_ev (n : Nat) (x : TupT i_areCards_i.tys) : evF ⟨tab, [slices_ContainsFunc_SA4_A4_'l_i_areCards_1_e n], n, []⟩ Try.f155 i_areCards_i i_areCards_o x = i_areCards n x := by kernel_rfl
noncomputable def i_areCards_e (n : Nat) : Ent := ⟨155, i_areCards_i, i_areCards_o, fun x => i_areCards n x⟩
theorem i_areCards_ok (n : Nat) : EntOK Try.prog (i_areCards_e n) ∧ Own Try.prog 155 := ent_ok tabOK0 (.cons (slices_ContainsFunc_SA4_A4_'l_i_areCards_1_ok n) .nil) Try.func155 rfl (by kernel_rfl) (i_areCards_ev n)
def i_isLine_i : CSh := ⟨[(.data true (.arr 4 tI)), (.data true (.arr 4 tI)), (.data true (.arr 4 tI))], []⟩
def i_isLine_o : RSh := ⟨(.data true .bool), []⟩
theorem i_isLine_ev (n : Nat) (x : TupT i_isLine_i.tys) : evF ⟨tab, [i_third_e n], n, []⟩ Try.f156 i_isLine_i i_isLine_o x = i_isLine n x.1 x.2.1 x.2.2 := by kernel_rfl
noncomputable def i_isLine_e (n : Nat) : Ent := ⟨156, i_isLine_i, i_isLine_o, fun x => i_isLine n x.1 x.2.1 x.2.2⟩
theorem i_isLine_ok (n : Nat) : EntOK Try.prog (i_isLine_e n) ∧ Own Try.prog 156 := ent_ok tabOK0 (.cons (i_third_ok n) .nil) Try.func156 rfl (by kernel_rfl) (i_isLine_ev n)
def i_IsLine_i : CSh := ⟨[(.data true (.arr 4 tI)), (.data true (.arr 4 tI)), (.data true (.arr 4 tI))], []⟩
def i_IsLine_o : RSh := ⟨(.tcons (.data true .bool) (.tcons (.data true .bool) .tnil)), []⟩
theorem i_IsLine_ev (n : Nat) (x : TupT i_IsLine_i.tys) : evF ⟨tab, [i_areCards_e n, i_isLine_e n], n, []⟩ Try.f49 i_IsLine_i i_IsLine_o x = i_IsLine n x.1 x.2.1 x.2.2 := by kernel_rfl
noncomputable def i_IsLine_e (n : Nat) : Ent := ⟨49, i_IsLine_i, i_IsLine_o, fun x => i_IsLine n x.1 x.2.1 x.2.2⟩
theorem i_IsLine_ok (n : Nat) : EntOK Try.prog (i_IsLine_e n) ∧ Own Try.prog 49 := ent_ok tabOK0 (.cons (i_areCards_ok n) (.cons (i_isLine_ok n) .nil)) Try.func49 rfl (by kernel_rfl) (i_IsLine_ev n)
def s_l2Line_i : CSh := ⟨[(.data true (.arr 4 tI)), (.data true (.arr 4 tI)), (.data true (.arr 4 tI))], []⟩
def s_l2Line_o : RSh := ⟨(.data true .bool), []⟩
theorem s_l2Line_ev (n : Nat) (x : TupT s_l2Line_i.tys) : evF ⟨tab, [s_l2Third_e n], n, []⟩ Try.f157 s_l2Line_i s_l2Line_o x = s_l2Line n x.1 x.2.1 x.2.2 := by kernel_rfl
noncomputable def s_l2Line_e (n : Nat) : Ent := ⟨157, s_l2Line_i, s_l2Line_o, fun x => s_l2Line n x.1 x.2.1 x.2.2⟩
theorem s_l2Line_ok (n : Nat) : EntOK Try.prog (s_l2Line_e n) ∧ Own Try.prog 157 := ent_ok tabOK0 (.cons (s_l2Third_ok n) .nil) Try.func157 rfl (by kernel_rfl) (s_l2Line_ev n)
def s_IsLine_i : CSh := ⟨[(.data true (.arr 4 tI)), (.data true (.arr 4 tI)), (.data true (.arr 4 tI))], []⟩
def s_IsLine_o : RSh := ⟨(.tcons (.data true .bool) (.tcons (.data true .bool) .tnil)), []⟩
theorem s_IsLine_ev (n : Nat) (x : TupT s_IsLine_i.tys) : evF ⟨tab, [s_l2Card_e n, s_l2Line_e n], n, []⟩ Try.f50 s_IsLine_i s_IsLine_o x = s_IsLine n x.1 x.2.1 x.2.2 := by kernel_rfl
noncomputable def s_IsLine_e (n : Nat) : Ent := ⟨50, s_IsLine_i, s_IsLine_o, fun x => s_IsLine n x.1 x.2.1 x.2.2⟩
theorem s_IsLine_ok (n : Nat) : EntOK Try.prog (s_IsLine_e n) ∧ Own Try.prog 50 := ent_ok tabOK0 (.cons (s_l2Card_ok n) (.cons (s_l2Line_ok n) .nil)) Try.func50 rfl (by kernel_rfl) (s_IsLine_ev n)
def i_differ_i : CSh := ⟨[(.data true (.arr 4 tI)), (.data true (.arr 4 tI))], []⟩
def i_differ_o : RSh := ⟨(.data true tI), []⟩
theorem i_differ_ev (n : Nat) (x : TupT i_differ_i.tys) : evF ⟨tab, [], n, [(8, ⟨[(2, (.ptr 0 [])), (3, (.ptr 1 [])), (5, (.data true tI)), (7, (.data true tI))], [.var 43 (.data true (.arr 4 tI)), .var 43 (.data true (.arr 4 tI))], 0⟩)]⟩ Try.f158 i_differ_i i_differ_o x = i_differ n x.1 x.2 := by kernel_rfl
noncomputable def i_differ_e (n : Nat) : Ent := ⟨158, i_differ_i, i_differ_o, fun x => i_differ n x.1 x.2⟩
theorem i_differ_ok (n : Nat) : EntOK Try.prog (i_differ_e n) ∧ Own Try.prog 158 := ent_ok tabOK0 .nil Try.func158 rfl (by kernel_rfl) (i_differ_ev n)
def i_LineKind_i : CSh := ⟨[(.data true (.arr 4 tI)), (.data true (.arr 4 tI)), (.data true (.arr 4 tI))], []⟩
def i_LineKind_o : RSh := ⟨(.tcons (.data true tI) (.tcons (.data true .bool) .tnil)), []⟩
theorem i_LineKind_ev (n : Nat) (x : TupT i_LineKind_i.tys) : evF ⟨tab, [i_areCards_e n, i_isLine_e n, i_differ_e n], n, []⟩ Try.f51 i_LineKind_i i_LineKind_o x = i_LineKind n x.1 x.2.1 x.2.2 := by kernel_rfl
noncomputable def i_LineKind_e (n : Nat) : Ent := ⟨51, i_LineKind_i, i_LineKind_o, fun x => i_LineKind n x.1 x.2.1 x.2.2⟩
theorem i_LineKind_ok (n : Nat) : EntOK Try.prog (i_LineKind_e n) ∧ Own Try.prog 51 := ent_ok tabOK0 (.cons (i_areCards_ok n) (.cons (i_isLine_ok n) (.cons (i_differ_ok n) .nil))) Try.func51 rfl (by kernel_rfl) (i_LineKind_ev n)
def s_l2Differ_i : CSh := ⟨[(.data true (.arr 4 tI)), (.data true (.arr 4 tI))], []⟩
def s_l2Differ_o : RSh := ⟨(.data true tI), []⟩
theorem s_l2Differ_ev (n : Nat) (x : TupT s_l2Differ_i.tys) : evF ⟨tab, [], n, [(8, ⟨[(2, (.ptr 0 [])), (3, (.ptr 1 [])), (5, (.data true tI)), (6, (.data true tI))], [.var 43 (.data true (.arr 4 tI)), .var 43 (.data true (.arr 4 tI))], 0⟩)]⟩ Try.f159 s_l2Differ_i s_l2Differ_o x = s_l2Differ n x.1 x.2 := by kernel_rfl
noncomputable def s_l2Differ_e (n : Nat) : Ent := ⟨159, s_l2Differ_i, s_l2Differ_o, fun x => s_l2Differ n x.1 x.2⟩
theorem s_l2Differ_ok (n : Nat) : EntOK Try.prog (s_l2Differ_e n) ∧ Own Try.prog 159 := ent_ok tabOK0 .nil Try.func159 rfl (by kernel_rfl) (s_l2Differ_ev n)
def s_LineKind_i : CSh := ⟨[(.data true (.arr 4 tI)), (.data true (.arr 4 tI)), (.data true (.arr 4 tI))], []⟩
def s_LineKind_o : RSh := ⟨(.tcons (.data true tI) (.tcons (.data true .bool) .tnil)), []⟩
theorem s_LineKind_ev (n : Nat) (x : TupT s_LineKind_i.tys) : evF ⟨tab, [s_l2Card_e n, s_l2Line_e n, s_l2Differ_e n], n, []⟩ Try.f52 s_LineKind_i s_LineKind_o x = s_LineKind n x.1 x.2.1 x.2.2 := by kernel_rfl
noncomputable def s_LineKind_e (n : Nat) : Ent := ⟨52, s_LineKind_i, s_LineKind_o, fun x => s_LineKind n x.1 x.2.1 x.2.2⟩
theorem s_LineKind_ok (n : Nat) : EntOK Try.prog (s_LineKind_e n) ∧ Own Try.prog 52 := ent_ok tabOK0 (.cons (s_l2Card_ok n) (.cons (s_l2Line_ok n) (.cons (s_l2Differ_ok n) .nil))) Try.func52 rfl (by kernel_rfl) (s_LineKind_ev n)
def i_DifferIn_i : CSh := ⟨[(.data true (.arr 4 tI)), (.data true (.arr 4 tI))], []⟩
def i_DifferIn_o : RSh := ⟨(.tcons (.data true tI) (.tcons (.data true .bool) .tnil)), []⟩
theorem i_DifferIn_ev (n : Nat) (x : TupT i_DifferIn_i.tys) : evF ⟨tab, [i_areCards_e n, i_differ_e n], n, []⟩ Try.f53 i_DifferIn_i i_DifferIn_o x = i_DifferIn n x.1 x.2 := by kernel_rfl
noncomputable def i_DifferIn_e (n : Nat) : Ent := ⟨53, i_DifferIn_i, i_DifferIn_o, fun x => i_DifferIn n x.1 x.2⟩
theorem i_DifferIn_ok (n : Nat) : EntOK Try.prog (i_DifferIn_e n) ∧ Own Try.prog 53 := ent_ok tabOK0 (.cons (i_areCards_ok n) (.cons (i_differ_ok n) .nil)) Try.func53 rfl (by kernel_rfl) (i_DifferIn_ev n)
def s_DifferIn_i : CSh := ⟨[(.data true (.arr 4 tI)), (.data true (.arr 4 tI))], []⟩
def s_DifferIn_o : RSh := ⟨(.tcons (.data true tI) (.tcons (.data true .bool) .tnil)), []⟩
theorem s_DifferIn_ev (n : Nat) (x : TupT s_DifferIn_i.tys) : evF ⟨tab, [s_l2Card_e n, s_l2Differ_e n], n, []⟩ Try.f54 s_DifferIn_i s_DifferIn_o x = s_DifferIn n x.1 x.2 := by kernel_rfl
noncomputable def s_DifferIn_e (n : Nat) : Ent := ⟨54, s_DifferIn_i, s_DifferIn_o, fun x => s_DifferIn n x.1 x.2⟩
theorem s_DifferIn_ok (n : Nat) : EntOK Try.prog (s_DifferIn_e n) ∧ Own Try.prog 54 := ent_ok tabOK0 (.cons (s_l2Card_ok n) (.cons (s_l2Differ_ok n) .nil)) Try.func54 rfl (by kernel_rfl) (s_DifferIn_ev n)
def i_number_i : CSh := ⟨[(.data true (.arr 4 tI))], []⟩
def i_number_o : RSh := ⟨(.data true tI), []⟩
theorem i_number_ev (n : Nat) (x : TupT i_number_i.tys) : evF ⟨tab, [], n, [(8, ⟨[(3, (.data true tI)), (6, (.data true (.arr 4 tI))), (7, (.data true tI))], [], 0⟩)]⟩ Try.f161 i_number_i i_number_o x = i_number n x := by kernel_rfl
noncomputable def i_number_e (n : Nat) : Ent := ⟨161, i_number_i, i_number_o, fun x => i_number n x⟩
theorem i_number_ok (n : Nat) : EntOK Try.prog (i_number_e n) ∧ Own Try.prog 161 := ent_ok tabOK0 .nil Try.func161 rfl (by kernel_rfl) (i_number_ev n)
def i_CardNumber_i : CSh := ⟨[(.data true (.arr 4 tI))], []⟩
def i_CardNumber_o : RSh := ⟨(.tcons (.data true tI) (.tcons (.data true .bool) .tnil)), []⟩
theorem i_CardNumber_ev (n : Nat) (x : TupT i_CardNumber_i.tys) : evF ⟨tab, [i_IsCard_e n, i_number_e n], n, []⟩ Try.f56 i_CardNumber_i i_CardNumber_o x = i_CardNumber n x := by kernel_rfl
noncomputable def i_CardNumber_e (n : Nat) : Ent := ⟨56, i_CardNumber_i, i_CardNumber_o, fun x => i_CardNumber n x⟩
theorem i_CardNumber_ok (n : Nat) : EntOK Try.prog (i_CardNumber_e n) ∧ Own Try.prog 56 := ent_ok tabOK0 (.cons (i_IsCard_ok n) (.cons (i_number_ok n) .nil)) Try.func56 rfl (by kernel_rfl) (i_CardNumber_ev n)
def s_l2Number_i : CSh := ⟨[(.data true (.arr 4 tI))], []⟩
def s_l2Number_o : RSh := ⟨(.data true tI), []⟩
theorem s_l2Number_ev (n : Nat) (x : TupT s_l2Number_i.tys) : evF ⟨tab, [], n, []⟩ Try.f162 s_l2Number_i s_l2Number_o x = s_l2Number n x := by kernel_rfl
noncomputable def s_l2Number_e (n : Nat) : Ent := ⟨162, s_l2Number_i, s_l2Number_o, fun x => s_l2Number n x⟩
theorem s_l2Number_ok (n : Nat) : EntOK Try.prog (s_l2Number_e n) ∧ Own Try.prog 162 := ent_ok tabOK0 .nil Try.func162 rfl (by kernel_rfl) (s_l2Number_ev n)
def s_CardNumber_i : CSh := ⟨[(.data true (.arr 4 tI))], []⟩
def s_CardNumber_o : RSh := ⟨(.tcons (.data true tI) (.tcons (.data true .bool) .tnil)), []⟩
theorem s_CardNumber_ev (n : Nat) (x : TupT s_CardNumber_i.tys) : evF ⟨tab, [s_l2Card_e n, s_l2Number_e n], n, []⟩ Try.f57 s_CardNumber_i s_CardNumber_o x = s_CardNumber n x := by kernel_rfl
noncomputable def s_CardNumber_e (n : Nat) : Ent := ⟨57, s_CardNumber_i, s_CardNumber_o, fun x => s_CardNumber n x⟩
theorem s_CardNumber_ok (n : Nat) : EntOK Try.prog (s_CardNumber_e n) ∧ Own Try.prog 57 := ent_ok tabOK0 (.cons (s_l2Card_ok n) (.cons (s_l2Number_ok n) .nil)) Try.func57 rfl (by kernel_rfl) (s_CardNumber_ev n)
def s_DrawCardAt_i : CSh := ⟨[(.data false (.sl (.int .u8)))], []⟩
def s_DrawCardAt_o : RSh := ⟨(.data true tI), []⟩
theorem s_DrawCardAt_ev (n : Nat) (x : TupT s_DrawCardAt_i.tys) : evF ⟨tab, [s_Cur_pick'p_e n, s_Cur_among'pl_e n], n, []⟩ Try.f58 s_DrawCardAt_i s_DrawCardAt_o x = s_DrawCardAt n x := by kernel_rfl
noncomputable def s_DrawCardAt_e (n : Nat) : Ent := ⟨58, s_DrawCardAt_i, s_DrawCardAt_o, fun x => s_DrawCardAt n x⟩
theorem s_DrawCardAt_ok (n : Nat) : EntOK Try.prog (s_DrawCardAt_e n) ∧ Own Try.prog 58 := ent_ok tabOK0 (.cons (s_Cur_pick'p_ok n) (.cons (s_Cur_among'pl_ok n) .nil)) Try.func58 rfl (by kernel_rfl) (s_DrawCardAt_ev n)
def i_card_i : CSh := ⟨[(.data true tI)], []⟩
def i_card_o : RSh := ⟨(.data true (.arr 4 tI)), []⟩
theorem i_card_ev (n : Nat) (x : TupT i_card_i.tys) : evF ⟨tab, [], n, []⟩ Try.f163 i_card_i i_card_o x = i_card n x := by kernel_rfl
noncomputable def i_card_e (n : Nat) : Ent := ⟨163, i_card_i, i_card_o, fun x => i_card n x⟩
theorem i_card_ok (n : Nat) : EntOK Try.prog (i_card_e n) ∧ Own Try.prog 163 := ent_ok tabOK0 .nil Try.func163 rfl (by kernel_rfl) (i_card_ev n)
def i_CardAt_i : CSh := ⟨[(.data true tI)], []⟩
def i_CardAt_o : RSh := ⟨(.tcons (.data true (.arr 4 tI)) (.tcons (.data true .bool) .tnil)), []⟩
theorem i_CardAt_ev (n : Nat) (x : TupT i_CardAt_i.tys) : evF ⟨tab, [i_within_e n, i_card_e n], n, []⟩ Try.f59 i_CardAt_i i_CardAt_o x = i_CardAt n x := by kernel_rfl
noncomputable def i_CardAt_e (n : Nat) : Ent := ⟨59, i_CardAt_i, i_CardAt_o, fun x => i_CardAt n x⟩
theorem i_CardAt_ok (n : Nat) : EntOK Try.prog (i_CardAt_e n) ∧ Own Try.prog 59 := ent_ok tabOK0 (.cons (i_within_ok n) (.cons (i_card_ok n) .nil)) Try.func59 rfl (by kernel_rfl) (i_CardAt_ev n)
def s_CardAt_i : CSh := ⟨[(.data true tI)], []⟩
def s_CardAt_o : RSh := ⟨(.tcons (.data true (.arr 4 tI)) (.tcons (.data true .bool) .tnil)), []⟩
theorem s_CardAt_ev (n : Nat) (x : TupT s_CardAt_i.tys) : evF ⟨tab, [s_l1In_e n, s_l2At_e n], n, []⟩ Try.f60 s_CardAt_i s_CardAt_o x = s_CardAt n x := by kernel_rfl
noncomputable def s_CardAt_e (n : Nat) : Ent := ⟨60, s_CardAt_i, s_CardAt_o, fun x => s_CardAt n x⟩
theorem s_CardAt_ok (n : Nat) : EntOK Try.prog (s_CardAt_e n) ∧ Own Try.prog 60 := ent_ok tabOK0 (.cons (s_l1In_ok n) (.cons (s_l2At_ok n) .nil)) Try.func60 rfl (by kernel_rfl) (s_CardAt_ev n)
def i_cardText_i : CSh := ⟨[(.data true (.arr 4 tI))], []⟩
def i_cardText_o : RSh := ⟨(.data true .str), []⟩
theorem i_cardText_ev (n : Nat) (x : TupT i_cardText_i.tys) : evF ⟨tab, [], n, [(8, ⟨[(3, (.own 0)), (7, (.data true (.arr 4 tI))), (8, (.data true tI))], [.rows 5 true (.int .u8)], 0⟩)]⟩ Try.f165 i_cardText_i i_cardText_o x = i_cardText n x := by kernel_rfl
noncomputable def i_cardText_e (n : Nat) : Ent := ⟨165, i_cardText_i, i_cardText_o, fun x => i_cardText n x⟩
theorem i_cardText_ok (n : Nat) : EntOK Try.prog (i_cardText_e n) ∧ Own Try.prog 165 := ent_ok tabOK0 .nil Try.func165 rfl (by kernel_rfl) (i_cardText_ev n)
def i_CardText_i : CSh := ⟨[(.data true (.arr 4 tI))], []⟩
def i_CardText_o : RSh := ⟨(.tcons (.data true .str) (.tcons (.data true .bool) .tnil)), []⟩
theorem i_CardText_ev (n : Nat) (x : TupT i_CardText_i.tys) : evF ⟨tab, [i_IsCard_e n, i_cardText_e n], n, []⟩ Try.f61 i_CardText_i i_CardText_o x = i_CardText n x := by kernel_rfl
noncomputable def i_CardText_e (n : Nat) : Ent := ⟨61, i_CardText_i, i_CardText_o, fun x => i_CardText n x⟩
theorem i_CardText_ok (n : Nat) : EntOK Try.prog (i_CardText_e n) ∧ Own Try.prog 61 := ent_ok tabOK0 (.cons (i_IsCard_ok n) (.cons (i_cardText_ok n) .nil)) Try.func61 rfl (by kernel_rfl) (i_CardText_ev n)
def s_l1Num_i : CSh := ⟨[(.data true tI)], []⟩
def s_l1Num_o : RSh := ⟨(.data true .str), []⟩
theorem s_l1Num_ev (n : Nat) (go : TupT s_l1Num_i.tys → Option (TupT s_l1Num_o.tys)) (x : TupT s_l1Num_i.tys) : evF ⟨tab, [⟨230, s_l1Num_i, s_l1Num_o, go⟩], n, []⟩ Try.f230 s_l1Num_i s_l1Num_o x = s_l1Num_R n go x := by kernel_rfl
noncomputable def s_l1Num_e (n : Nat) : Ent := ⟨230, s_l1Num_i, s_l1Num_o, fun x => s_l1Num n x⟩
theorem s_l1Num_ok (n : Nat) : EntOK Try.prog (s_l1Num_e n) ∧ Own Try.prog 230 := ent_rec tabOK0 .nil Try.func230 rfl (by kernel_rfl) (s_l1Num_ev n) n
def s_l2Text_i : CSh := ⟨[(.data true (.arr 4 tI))], []⟩
def s_l2Text_o : RSh := ⟨(.data true .str), []⟩
theorem s_l2Text_ev (n : Nat) (x : TupT s_l2Text_i.tys) : evF ⟨tab, [s_l1Num_e n], n, [(8, ⟨[(1, (.ptr 0 [])), (3, (.data true .str)), (4, (.data true tI))], [.var 43 (.data true (.arr 4 tI))], 0⟩)]⟩ Try.f166 s_l2Text_i s_l2Text_o x = s_l2Text n x := by kernel_rfl
noncomputable def s_l2Text_e (n : Nat) : Ent := ⟨166, s_l2Text_i, s_l2Text_o, fun x => s_l2Text n x⟩
theorem s_l2Text_ok (n : Nat) : EntOK Try.prog (s_l2Text_e n) ∧ Own Try.prog 166 := ent_ok tabOK0 (.cons (s_l1Num_ok n) .nil) Try.func166 rfl (by kernel_rfl) (s_l2Text_ev n)
def s_CardText_i : CSh := ⟨[(.data true (.arr 4 tI))], []⟩
def s_CardText_o : RSh := ⟨(.tcons (.data true .str) (.tcons (.data true .bool) .tnil)), []⟩
theorem s_CardText_ev (n : Nat) (x : TupT s_CardText_i.tys) : evF ⟨tab, [s_l2Card_e n, s_l2Text_e n], n, []⟩ Try.f62 s_CardText_i s_CardText_o x = s_CardText n x := by kernel_rfl
noncomputable def s_CardText_e (n : Nat) : Ent := ⟨62, s_CardText_i, s_CardText_o, fun x => s_CardText n x⟩
theorem s_CardText_ok (n : Nat) : EntOK Try.prog (s_CardText_e n) ∧ Own Try.prog 62 := ent_ok tabOK0 (.cons (s_l2Card_ok n) (.cons (s_l2Text_ok n) .nil)) Try.func62 rfl (by kernel_rfl) (s_CardText_ev n)
def v_FnCards_i : CSh := ⟨[(.data false (.sl (.int .u8)))], []⟩
def v_FnCards_o : RSh := ⟨(.data true .bool), []⟩
theorem v_FnCards_ev (n : Nat) (x : TupT v_FnCards_i.tys) : evF ⟨tab, [v_rBig_e n, s_DrawThirdCard_e n, i_ThirdCard_e n, s_ThirdCard_e n, s_DrawIsLine_e n, i_IsLine_e n, s_IsLine_e n, i_LineKind_e n, s_LineKind_e n, i_DifferIn_e n, s_DifferIn_e n, i_IsCard_e n, i_CardNumber_e n, s_CardNumber_e n, s_DrawCardAt_e n, i_CardAt_e n, s_CardAt_e n, i_CardText_e n, s_CardText_e n], n, [(100, ⟨[(3, (.ptr 0 [])), (4, (.ptr 1 [])), (5, (.ptr 2 [])), (6, (.data true .bool)), (9, (.ptr 3 [])), (10, (.ptr 4 [])), (11, (.ptr 5 [])), (12, (.data true .bool)), (13, (.data true .bool)), (16, (.data true tI)), (17, (.data true .bool))], [.var 43 (.data true (.arr 4 tI)), .var 43 (.data true (.arr 4 tI)), .var 43 (.data true (.arr 4 tI)), .var 43 (.data true (.arr 4 tI)), .var 43 (.data true (.arr 4 tI)), .var 43 (.data true (.arr 4 tI))], 0⟩), (114, ⟨[(3, (.ptr 0 [])), (4, (.ptr 1 [])), (5, (.ptr 2 [])), (6, (.data true .bool)), (9, (.ptr 3 [])), (10, (.ptr 4 [])), (11, (.ptr 5 [])), (12, (.data true .bool)), (13, (.data true .bool))], [.var 43 (.data true (.arr 4 tI)), .var 43 (.data true (.arr 4 tI)), .var 43 (.data true (.arr 4 tI)), .var 43 (.data true (.arr 4 tI)), .var 43 (.data true (.arr 4 tI)), .var 43 (.data true (.arr 4 tI))], 0⟩), (128, ⟨[(3, (.ptr 0 [])), (4, (.ptr 1 [])), (5, (.ptr 2 [])), (6, (.data true .bool))], [.var 43 (.data true (.arr 4 tI)), .var 43 (.data true (.arr 4 tI)), .var 43 (.data true (.arr 4 tI))], 0⟩), (138, ⟨[(3, (.ptr 0 [])), (4, (.ptr 1 [])), (5, (.ptr 2 [])), (6, (.data true .bool)), (9, (.ptr 3 [])), (10, (.ptr 4 [])), (11, (.ptr 5 [])), (12, (.data true .bool)), (41, (.data true .bool)), (42, (.data true tI))], [.var 43 (.data true (.arr 4 tI)), .var 43 (.data true (.arr 4 tI)), .var 43 (.data true (.arr 4 tI)), .var 43 (.data true (.arr 4 tI)), .var 43 (.data true (.arr 4 tI)), .var 43 (.data true (.arr 4 tI))], 0⟩)]⟩ Try.f5 v_FnCards_i v_FnCards_o x = v_FnCards n x := by kernel_rfl
noncomputable def v_FnCards_e (n : Nat) : Ent := ⟨5, v_FnCards_i, v_FnCards_o, fun x => v_FnCards n x⟩
theorem v_FnCards_ok (n : Nat) : EntOK Try.prog (v_FnCards_e n) ∧ Own Try.prog 5 := ent_ok tabOK0 (.cons (v_rBig_ok n) (.cons (s_DrawThirdCard_ok n) (.cons (i_ThirdCard_ok n) (.cons (s_ThirdCard_ok n) (.cons (s_DrawIsLine_ok n) (.cons (i_IsLine_ok n) (.cons (s_IsLine_ok n) (.cons (i_LineKind_ok n) (.cons (s_LineKind_ok n) (.cons (i_DifferIn_ok n) (.cons (s_DifferIn_ok n) (.cons (i_IsCard_ok n) (.cons (i_CardNumber_ok n) (.cons (s_CardNumber_ok n) (.cons (s_DrawCardAt_ok n) (.cons (i_CardAt_ok n) (.cons (s_CardAt_ok n) (.cons (i_CardText_ok n) (.cons (s_CardText_ok n) .nil))))))))))))))))))) Try.func5 rfl (by kernel_rfl) (v_FnCards_ev n)
end Go.Proofs.Ytklhncjpkkfjmaa
