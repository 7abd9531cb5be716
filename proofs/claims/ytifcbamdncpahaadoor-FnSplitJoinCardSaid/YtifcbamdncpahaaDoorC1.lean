/- Printed by a program of the session: the contracts of the seat's functions. -/
import Derived.Test.YtifcbamdncpahaaDoorZ7
import Derived.Test.YtifcbamdncpahaaDoorPL
import Derived.Test.YtifcbamdncpahaaDoorRows
import Derived.Test.YtifcbamdncpahaaDoorSh
import Derived.KernelRfl
namespace Go.Proofs.YtifcbamdncpahaaDoor
open Go Go.Tv Go.Pl Go.RowKit
set_option linter.unusedVariables false
abbrev tI : Ty := .int .i64
def tab : Tab := ⟨[(2, ⟨tI, 0, 8⟩), (3, ⟨tI, 0, 8⟩), (4, ⟨.bool, 0, 1⟩), (5, ⟨(.int .u8), 0, 1⟩), (6, ⟨(.int .u8), 0, 1⟩), (7, ⟨(.pair tI (.pair tI (.pair .bool (.int .u8)))), 4, 24⟩), (8, ⟨(.pair tI (.pair tI (.pair .bool (.int .u8)))), 4, 24⟩), (9, ⟨.str, 0, 16⟩), (10, ⟨.str, 0, 16⟩), (11, ⟨.str, 0, 16⟩), (12, ⟨(.int .u64), 0, 8⟩), (13, ⟨(.pair .str (.int .u64)), 2, 24⟩), (14, ⟨(.pair .str (.int .u64)), 2, 24⟩), (21, ⟨(.int .i32), 0, 4⟩), (22, ⟨(.sl (.int .u8)), 5, 1⟩), (26, ⟨(.sl .str), 9, 16⟩), (41, ⟨(.pair .str .str), 2, 32⟩), (42, ⟨(.pair .str .str), 2, 32⟩), (45, ⟨(.pair .str .str), 2, 32⟩), (48, ⟨(.pair .str (.pair .str tI)), 3, 40⟩), (49, ⟨(.pair .str (.pair .str tI)), 3, 40⟩), (54, ⟨(.pair .str (.pair .str tI)), 3, 40⟩), (60, ⟨(.int .u64), 0, 8⟩), (61, ⟨(.pair (.sl (.int .u8)) (.pair tI (.int .u64))), 3, 40⟩), (62, ⟨(.pair (.sl (.int .u8)) (.pair tI (.int .u64))), 3, 40⟩), (71, ⟨(.sl tI), 3, 8⟩), (84, ⟨(.sl (.pair .str .str)), 45, 32⟩), (104, ⟨(.int .u64), 0, 8⟩), (107, ⟨tI, 0, 8⟩), (119, ⟨(.arr 24 (.int .u8)), 5, 1⟩), (129, ⟨(.int .u32), 0, 4⟩), (133, ⟨(.arr 20 (.int .u64)), 60, 8⟩), (134, ⟨(.arr 65 (.int .u8)), 5, 1⟩), (140, ⟨(.arr 256 (.int .u8)), 5, 1⟩), (141, ⟨(.pair (.int .u8) (.int .u8)), 2, 2⟩), (142, ⟨(.pair (.int .u8) (.int .u8)), 2, 2⟩), (143, ⟨(.arr 16 (.pair (.int .u8) (.int .u8))), 142, 2⟩), (145, ⟨(.arr 32 (.int .u8)), 5, 1⟩), (146, ⟨(.arr 64 (.int .u8)), 5, 1⟩), (152, ⟨(.int .u8), 0, 1⟩), (153, ⟨(.int .u8), 0, 1⟩), (155, ⟨(.int .i32), 0, 4⟩), (156, ⟨(.int .i32), 0, 4⟩)], [7, 8, 41, 42, 45, 48, 49, 54, 119, 133, 134, 140, 141, 142, 143, 145, 146], [1, 23, 25, 28, 30, 32, 33, 34, 35, 36, 38, 39, 40, 43, 44, 46, 47, 51, 52, 53, 55, 56, 57, 58, 63, 64, 65, 66, 67, 68, 69, 70, 72, 73, 77, 78, 79, 81, 82, 83, 86, 88, 89, 90, 91, 92, 96, 97, 98, 99, 101, 102, 103, 106, 109, 111, 112, 114, 115, 117, 118, 120, 121, 123, 125, 128, 131, 132, 135, 136, 144, 154]⟩
theorem tabOK0 : TabOK Tryd.prog tab := ⟨by kernel_rfl, by kernel_rfl⟩
instance inv0 : Inv := Inv.none
def v_vBig_i : CSh := ⟨[(.data false (.sl (.int .u8)))], []⟩
def v_vBig_o : RSh := ⟨(.data true .bool), []⟩
theorem v_vBig_ev (n : Nat) (x : TupT v_vBig_i.tys) : evF ⟨tab, [], n, []⟩ Tryd.f8 v_vBig_i v_vBig_o x = v_vBig n x := by kernel_rfl
noncomputable def v_vBig_e (n : Nat) : Ent := ⟨8, v_vBig_i, v_vBig_o, fun x => v_vBig n x⟩
theorem v_vBig_ok (n : Nat) : EntOK Tryd.prog (v_vBig_e n) ∧ Own Tryd.prog 8 := ent_ok tabOK0 .nil Tryd.func8 rfl (by kernel_rfl) (v_vBig_ev n)
def s_Cur_next'p_i : CSh := ⟨[(.ptr 0 [])], [.var 62 (.data true (.pair (.sl (.int .u8)) (.pair tI (.int .u64))))]⟩
def s_Cur_next'p_o : RSh := ⟨(.data true tI), [.var 62 (.data true (.pair (.sl (.int .u8)) (.pair tI (.int .u64))))]⟩
theorem s_Cur_next'p_ev (n : Nat) (x : TupT s_Cur_next'p_i.tys) : evF ⟨tab, [], n, [(4, ⟨[(0, (.ptr 0 [])), (3, (.data true tI))], [.var 62 (.data true (.pair (.sl (.int .u8)) (.pair tI (.int .u64))))], 1⟩)]⟩ Tryd.f65 s_Cur_next'p_i s_Cur_next'p_o x = s_Cur_next'p n x := by kernel_rfl
noncomputable def s_Cur_next'p_e (n : Nat) : Ent := ⟨65, s_Cur_next'p_i, s_Cur_next'p_o, fun x => s_Cur_next'p n x⟩
theorem s_Cur_next'p_ok (n : Nat) : EntOK Tryd.prog (s_Cur_next'p_e n) ∧ Own Tryd.prog 65 := ent_ok tabOK0 .nil Tryd.func65 rfl (by kernel_rfl) (s_Cur_next'p_ev n)
def s_Cur_pick'p_i : CSh := ⟨[(.ptr 0 []), (.data true tI)], [.var 62 (.data true (.pair (.sl (.int .u8)) (.pair tI (.int .u64))))]⟩
def s_Cur_pick'p_o : RSh := ⟨(.data true tI), [.var 62 (.data true (.pair (.sl (.int .u8)) (.pair tI (.int .u64))))]⟩
theorem s_Cur_pick'p_ev (n : Nat) (x : TupT s_Cur_pick'p_i.tys) : evF ⟨tab, [s_Cur_next'p_e n], n, []⟩ Tryd.f42 s_Cur_pick'p_i s_Cur_pick'p_o x = s_Cur_pick'p n x.1 x.2 := by kernel_rfl
noncomputable def s_Cur_pick'p_e (n : Nat) : Ent := ⟨42, s_Cur_pick'p_i, s_Cur_pick'p_o, fun x => s_Cur_pick'p n x.1 x.2⟩
theorem s_Cur_pick'p_ok (n : Nat) : EntOK Tryd.prog (s_Cur_pick'p_e n) ∧ Own Tryd.prog 42 := ent_ok tabOK0 (.cons (s_Cur_next'p_ok n) .nil) Tryd.func42 rfl (by kernel_rfl) (s_Cur_pick'p_ev n)
def s_Cur_of'pl_i : CSh := ⟨[(.ptr 0 []), (.data false (.sl .str))], [.var 62 (.data true (.pair (.sl (.int .u8)) (.pair tI (.int .u64))))]⟩
def s_Cur_of'pl_o : RSh := ⟨(.data true .str), [.var 62 (.data true (.pair (.sl (.int .u8)) (.pair tI (.int .u64))))]⟩
theorem s_Cur_of'pl_ev (n : Nat) (x : TupT s_Cur_of'pl_i.tys) : evF ⟨tab, [s_Cur_pick'p_e n], n, []⟩ Tryd.f40 s_Cur_of'pl_i s_Cur_of'pl_o x = s_Cur_of'pl n x.1 x.2 := by kernel_rfl
noncomputable def s_Cur_of'pl_e (n : Nat) : Ent := ⟨40, s_Cur_of'pl_i, s_Cur_of'pl_o, fun x => s_Cur_of'pl n x.1 x.2⟩
theorem s_Cur_of'pl_ok (n : Nat) : EntOK Tryd.prog (s_Cur_of'pl_e n) ∧ Own Tryd.prog 40 := ent_ok tabOK0 (.cons (s_Cur_pick'p_ok n) .nil) Tryd.func40 rfl (by kernel_rfl) (s_Cur_of'pl_ev n)
def s_Cur_any1'p_i : CSh := ⟨[(.ptr 0 [])], [.var 62 (.data true (.pair (.sl (.int .u8)) (.pair tI (.int .u64))))]⟩
def s_Cur_any1'p_o : RSh := ⟨(.data true .str), [.var 62 (.data true (.pair (.sl (.int .u8)) (.pair tI (.int .u64))))]⟩
theorem s_Cur_any1'p_ev (n : Nat) (x : TupT s_Cur_any1'p_i.tys) : evF ⟨tab, [s_Cur_of'pl_e n], n, []⟩ Tryd.f39 s_Cur_any1'p_i s_Cur_any1'p_o x = s_Cur_any1'p n x := by kernel_rfl
noncomputable def s_Cur_any1'p_e (n : Nat) : Ent := ⟨39, s_Cur_any1'p_i, s_Cur_any1'p_o, fun x => s_Cur_any1'p n x⟩
theorem s_Cur_any1'p_ok (n : Nat) : EntOK Tryd.prog (s_Cur_any1'p_e n) ∧ Own Tryd.prog 39 := ent_ok tabOK0 (.cons (s_Cur_of'pl_ok n) .nil) Tryd.func39 rfl (by kernel_rfl) (s_Cur_any1'p_ev n)
def s_DrawSplitString_i : CSh := ⟨[(.data false (.sl (.int .u8)))], []⟩
def s_DrawSplitString_o : RSh := ⟨(.tcons (.data true .str) (.tcons (.data true .str) .tnil)), []⟩
theorem s_DrawSplitString_ev (n : Nat) (x : TupT s_DrawSplitString_i.tys) : evF ⟨tab, [s_Cur_any1'p_e n, s_Cur_of'pl_e n], n, []⟩ Tryd.f9 s_DrawSplitString_i s_DrawSplitString_o x = s_DrawSplitString n x := by kernel_rfl
noncomputable def s_DrawSplitString_e (n : Nat) : Ent := ⟨9, s_DrawSplitString_i, s_DrawSplitString_o, fun x => s_DrawSplitString n x⟩
theorem s_DrawSplitString_ok (n : Nat) : EntOK Tryd.prog (s_DrawSplitString_e n) ∧ Own Tryd.prog 9 := ent_ok tabOK0 (.cons (s_Cur_any1'p_ok n) (.cons (s_Cur_of'pl_ok n) .nil)) Tryd.func9 rfl (by kernel_rfl) (s_DrawSplitString_ev n)
def unicode_utf8_RuneCountInString_s_i : CSh := ⟨[(.data true .str)], []⟩
def unicode_utf8_RuneCountInString_s_o : RSh := ⟨.nil, []⟩
theorem unicode_utf8_RuneCountInString_s_ev (n : Nat) (x : TupT unicode_utf8_RuneCountInString_s_i.tys) : evF ⟨tab, [], n, []⟩ Tryd.f92 unicode_utf8_RuneCountInString_s_i unicode_utf8_RuneCountInString_s_o x = unicode_utf8_RuneCountInString_s n x := by kernel_rfl
noncomputable def unicode_utf8_RuneCountInString_s_e (n : Nat) : Ent := ⟨92, unicode_utf8_RuneCountInString_s_i, unicode_utf8_RuneCountInString_s_o, fun x => unicode_utf8_RuneCountInString_s n x⟩
theorem unicode_utf8_RuneCountInString_s_ok (n : Nat) : EntOK Tryd.prog (unicode_utf8_RuneCountInString_s_e n) ∧ Own Tryd.prog 92 := ent_ok tabOK0 .nil Tryd.func92 rfl (by kernel_rfl) (unicode_utf8_RuneCountInString_s_ev n)
def strings_explode_s_i : CSh := ⟨[(.data true .str), (.data true tI)], []⟩
def strings_explode_s_o : RSh := ⟨.nil, []⟩
theorem strings_explode_s_ev (n : Nat) (x : TupT strings_explode_s_i.tys) : evF ⟨tab, [unicode_utf8_RuneCountInString_s_e n], n, []⟩ Tryd.f81 strings_explode_s_i strings_explode_s_o x = strings_explode_s n x.1 x.2 := by kernel_rfl
noncomputable def strings_explode_s_e (n : Nat) : Ent := ⟨81, strings_explode_s_i, strings_explode_s_o, fun x => strings_explode_s n x.1 x.2⟩
theorem strings_explode_s_ok (n : Nat) : EntOK Tryd.prog (strings_explode_s_e n) ∧ Own Tryd.prog 81 := ent_ok tabOK0 (.cons (unicode_utf8_RuneCountInString_s_ok n) .nil) Tryd.func81 rfl (by kernel_rfl) (strings_explode_s_ev n)
noncomputable def x_IndexByteString_e (n : Nat) : Ent := ⟨109, ⟨[(.data true .str), (.data true (.int .u8))], []⟩, ⟨(.data true tI), []⟩, fun x => x_IndexByteString n x.1 x.2⟩
theorem x_IndexByteString_ok (n : Nat) : ExtOK Tryd.prog (x_IndexByteString_e n) := ext_indexByte Tryd.func109 rfl rfl rfl rfl _ fun _ => rfl
def internal_stringslite_IndexByte_i : CSh := ⟨[(.data true .str), (.data true (.int .u8))], []⟩
def internal_stringslite_IndexByte_o : RSh := ⟨(.data true tI), []⟩
theorem internal_stringslite_IndexByte_ev (n : Nat) (x : TupT internal_stringslite_IndexByte_i.tys) : evF ⟨tab, [x_IndexByteString_e n], n, []⟩ Tryd.f95 internal_stringslite_IndexByte_i internal_stringslite_IndexByte_o x = internal_stringslite_IndexByte n x.1 x.2 := by kernel_rfl
noncomputable def internal_stringslite_IndexByte_e (n : Nat) : Ent := ⟨95, internal_stringslite_IndexByte_i, internal_stringslite_IndexByte_o, fun x => internal_stringslite_IndexByte n x.1 x.2⟩
theorem internal_stringslite_IndexByte_ok (n : Nat) : EntOK Tryd.prog (internal_stringslite_IndexByte_e n) ∧ Own Tryd.prog 95 := ent_ok tabOK0 (.consX (x_IndexByteString_ok n) .nil) Tryd.func95 rfl (by kernel_rfl) (internal_stringslite_IndexByte_ev n)
def internal_stringslite_Index_s_i : CSh := ⟨[(.data true .str), (.data true .str)], []⟩
def internal_stringslite_Index_s_o : RSh := ⟨(.data true tI), []⟩
theorem internal_stringslite_Index_s_ev (n : Nat) (x : TupT internal_stringslite_Index_s_i.tys) : evF ⟨tab, [internal_stringslite_IndexByte_e n], n, []⟩ Tryd.f83 internal_stringslite_Index_s_i internal_stringslite_Index_s_o x = internal_stringslite_Index_s n x.1 x.2 := by kernel_rfl
noncomputable def internal_stringslite_Index_s_e (n : Nat) : Ent := ⟨83, internal_stringslite_Index_s_i, internal_stringslite_Index_s_o, fun x => internal_stringslite_Index_s n x.1 x.2⟩
theorem internal_stringslite_Index_s_ok (n : Nat) : EntOK Tryd.prog (internal_stringslite_Index_s_e n) ∧ Own Tryd.prog 83 := ent_ok tabOK0 (.cons (internal_stringslite_IndexByte_ok n) .nil) Tryd.func83 rfl (by kernel_rfl) (internal_stringslite_Index_s_ev n)
def strings_Index_i : CSh := ⟨[(.data true .str), (.data true .str)], []⟩
def strings_Index_o : RSh := ⟨(.data true tI), []⟩
theorem strings_Index_ev (n : Nat) (x : TupT strings_Index_i.tys) : evF ⟨tab, [internal_stringslite_Index_s_e n], n, []⟩ Tryd.f66 strings_Index_i strings_Index_o x = strings_Index n x.1 x.2 := by kernel_rfl
noncomputable def strings_Index_e (n : Nat) : Ent := ⟨66, strings_Index_i, strings_Index_o, fun x => strings_Index n x.1 x.2⟩
theorem strings_Index_ok (n : Nat) : EntOK Tryd.prog (strings_Index_e n) ∧ Own Tryd.prog 66 := ent_ok tabOK0 (.cons (internal_stringslite_Index_s_ok n) .nil) Tryd.func66 rfl (by kernel_rfl) (strings_Index_ev n)
noncomputable def x_CountString_e (n : Nat) : Ent := ⟨94, ⟨[(.data true .str), (.data true (.int .u8))], []⟩, ⟨(.data true tI), []⟩, fun x => x_CountString n x.1 x.2⟩
theorem x_CountString_ok (n : Nat) : ExtOK Tryd.prog (x_CountString_e n) := ext_countString Tryd.func94 rfl rfl rfl rfl _ fun _ => rfl
def strings_Count_s_i : CSh := ⟨[(.data true .str), (.data true .str)], []⟩
def strings_Count_s_o : RSh := ⟨(.data true tI), []⟩
theorem strings_Count_s_ev (n : Nat) (x : TupT strings_Count_s_i.tys) : evF ⟨tab, [unicode_utf8_RuneCountInString_s_e n, x_CountString_e n, strings_Index_e n], n, [(21, ⟨[(0, (.data true .str)), (1, (.data true .str)), (5, (.data true tI))], [], 0⟩)]⟩ Tryd.f82 strings_Count_s_i strings_Count_s_o x = strings_Count_s n x.1 x.2 := by kernel_rfl
noncomputable def strings_Count_s_e (n : Nat) : Ent := ⟨82, strings_Count_s_i, strings_Count_s_o, fun x => strings_Count_s n x.1 x.2⟩
theorem strings_Count_s_ok (n : Nat) : EntOK Tryd.prog (strings_Count_s_e n) ∧ Own Tryd.prog 82 := ent_ok tabOK0 (.cons (unicode_utf8_RuneCountInString_s_ok n) (.consX (x_CountString_ok n) (.cons (strings_Index_ok n) .nil))) Tryd.func82 rfl (by kernel_rfl) (strings_Count_s_ev n)
def strings_genSplit_i : CSh := ⟨[(.data true .str), (.data true .str), (.data true tI), (.data true tI)], []⟩
def strings_genSplit_o : RSh := ⟨(.own 0), [.rows 9 true .str]⟩
theorem strings_genSplit_ev (n : Nat) (x : TupT strings_genSplit_i.tys) : evF ⟨tab, [strings_explode_s_e n, strings_Index_e n, strings_Count_s_e n], n, [(18, ⟨[(0, (.data true .str)), (1, (.data true .str)), (2, (.data true tI)), (3, (.data true tI))], [], 0⟩), (32, ⟨[(0, (.data true .str)), (9, (.own 0)), (10, (.data true tI))], [.rows 9 true .str], 0⟩), (34, ⟨[(0, (.data true .str)), (1, (.data true .str)), (2, (.data true tI)), (3, (.data true tI)), (9, (.own 0)), (10, (.data true tI))], [.rows 9 true .str], 0⟩)]⟩ Tryd.f64 strings_genSplit_i strings_genSplit_o x = strings_genSplit n x.1 x.2.1 x.2.2.1 x.2.2.2 := by kernel_rfl
noncomputable def strings_genSplit_e (n : Nat) : Ent := ⟨64, strings_genSplit_i, strings_genSplit_o, fun x => strings_genSplit n x.1 x.2.1 x.2.2.1 x.2.2.2⟩
theorem strings_genSplit_ok (n : Nat) : EntOK Tryd.prog (strings_genSplit_e n) ∧ Own Tryd.prog 64 := ent_ok tabOK0 (.cons (strings_explode_s_ok n) (.cons (strings_Index_ok n) (.cons (strings_Count_s_ok n) .nil))) Tryd.func64 rfl (by kernel_rfl) (strings_genSplit_ev n)
def strings_Split_i : CSh := ⟨[(.data true .str), (.data true .str)], []⟩
def strings_Split_o : RSh := ⟨(.own 0), [.rows 9 true .str]⟩
theorem strings_Split_ev (n : Nat) (x : TupT strings_Split_i.tys) : evF ⟨tab, [strings_genSplit_e n], n, []⟩ Tryd.f41 strings_Split_i strings_Split_o x = strings_Split n x.1 x.2 := by kernel_rfl
noncomputable def strings_Split_e (n : Nat) : Ent := ⟨41, strings_Split_i, strings_Split_o, fun x => strings_Split n x.1 x.2⟩
theorem strings_Split_ok (n : Nat) : EntOK Tryd.prog (strings_Split_e n) ∧ Own Tryd.prog 41 := ent_ok tabOK0 (.cons (strings_genSplit_ok n) .nil) Tryd.func41 rfl (by kernel_rfl) (strings_Split_ev n)
def i_SplitString_i : CSh := ⟨[(.data true .str), (.data true .str)], []⟩
def i_SplitString_o : RSh := ⟨(.tcons (.own 0) (.tcons (.data true .bool) .tnil)), [.rows 9 true .str]⟩
theorem i_SplitString_ev (n : Nat) (x : TupT i_SplitString_i.tys) : evF ⟨tab, [strings_Split_e n], n, []⟩ Tryd.f10 i_SplitString_i i_SplitString_o x = i_SplitString n x.1 x.2 := by kernel_rfl
noncomputable def i_SplitString_e (n : Nat) : Ent := ⟨10, i_SplitString_i, i_SplitString_o, fun x => i_SplitString n x.1 x.2⟩
theorem i_SplitString_ok (n : Nat) : EntOK Tryd.prog (i_SplitString_e n) ∧ Own Tryd.prog 10 := ent_ok tabOK0 (.cons (strings_Split_ok n) .nil) Tryd.func10 rfl (by kernel_rfl) (i_SplitString_ev n)
def s_Cur_one'p_i : CSh := ⟨[(.ptr 0 []), (.data true tI)], [.var 62 (.data true (.pair (.sl (.int .u8)) (.pair tI (.int .u64))))]⟩
def s_Cur_one'p_o : RSh := ⟨(.data true .bool), [.var 62 (.data true (.pair (.sl (.int .u8)) (.pair tI (.int .u64))))]⟩
theorem s_Cur_one'p_ev (n : Nat) (x : TupT s_Cur_one'p_i.tys) : evF ⟨tab, [s_Cur_pick'p_e n], n, []⟩ Tryd.f43 s_Cur_one'p_i s_Cur_one'p_o x = s_Cur_one'p n x.1 x.2 := by kernel_rfl
noncomputable def s_Cur_one'p_e (n : Nat) : Ent := ⟨43, s_Cur_one'p_i, s_Cur_one'p_o, fun x => s_Cur_one'p n x.1 x.2⟩
theorem s_Cur_one'p_ok (n : Nat) : EntOK Tryd.prog (s_Cur_one'p_e n) ∧ Own Tryd.prog 43 := ent_ok tabOK0 (.cons (s_Cur_pick'p_ok n) .nil) Tryd.func43 rfl (by kernel_rfl) (s_Cur_one'p_ev n)
def s_DrawJoinStrings_i : CSh := ⟨[(.data false (.sl (.int .u8)))], []⟩
def s_DrawJoinStrings_o : RSh := ⟨(.tcons (.own 0) (.tcons (.data true .str) .tnil)), [.rows 9 true .str]⟩
theorem s_DrawJoinStrings_ev (n : Nat) (x : TupT s_DrawJoinStrings_i.tys) : evF ⟨tab, [s_Cur_pick'p_e n, s_Cur_any1'p_e n, s_Cur_of'pl_e n, s_Cur_one'p_e n], n, [(12, ⟨[(4, (.ptr 0 [])), (5, (.own 1)), (6, (.data true tI)), (7, (.data true tI))], [.var 62 (.data false (.pair (.sl (.int .u8)) (.pair tI (.int .u64)))), .rows 9 true .str], 0⟩), (23, ⟨[(4, (.ptr 0 [])), (5, (.own 1))], [.var 62 (.data false (.pair (.sl (.int .u8)) (.pair tI (.int .u64)))), .rows 9 true .str], 0⟩)]⟩ Tryd.f11 s_DrawJoinStrings_i s_DrawJoinStrings_o x = s_DrawJoinStrings n x := by kernel_rfl
noncomputable def s_DrawJoinStrings_e (n : Nat) : Ent := ⟨11, s_DrawJoinStrings_i, s_DrawJoinStrings_o, fun x => s_DrawJoinStrings n x⟩
theorem s_DrawJoinStrings_ok (n : Nat) : EntOK Tryd.prog (s_DrawJoinStrings_e n) ∧ Own Tryd.prog 11 := ent_ok tabOK0 (.cons (s_Cur_pick'p_ok n) (.cons (s_Cur_any1'p_ok n) (.cons (s_Cur_of'pl_ok n) (.cons (s_Cur_one'p_ok n) .nil)))) Tryd.func11 rfl (by kernel_rfl) (s_DrawJoinStrings_ev n)
def strings_Contains_i : CSh := ⟨[(.data true .str), (.data true .str)], []⟩
def strings_Contains_o : RSh := ⟨(.data true .bool), []⟩
theorem strings_Contains_ev (n : Nat) (x : TupT strings_Contains_i.tys) : evF ⟨tab, [strings_Index_e n], n, []⟩ Tryd.f44 strings_Contains_i strings_Contains_o x = strings_Contains n x.1 x.2 := by kernel_rfl
noncomputable def strings_Contains_e (n : Nat) : Ent := ⟨44, strings_Contains_i, strings_Contains_o, fun x => strings_Contains n x.1 x.2⟩
theorem strings_Contains_ok (n : Nat) : EntOK Tryd.prog (strings_Contains_e n) ∧ Own Tryd.prog 44 := ent_ok tabOK0 (.cons (strings_Index_ok n) .nil) Tryd.func44 rfl (by kernel_rfl) (strings_Contains_ev n)
noncomputable def strings_Join_e (n : Nat) : Ent := ⟨45, ⟨[(.data true (.sl .str)), (.data true .str)], []⟩, ⟨(.data true .str), []⟩, fun x => strings_Join n x.1 x.2⟩
theorem strings_Join_ok (n : Nat) : EntOK Tryd.prog (strings_Join_e n) ∧ Own Tryd.prog 45 := ent_join Tryd.func45 rfl (by kernel_rfl) (fun a c sep w => Any.strings_Join_none Tryd.laysJoin Tryd.extraJoin a c sep w) (fun bk o c xs sep w h1 h2 h3 h4 h5 => Any.strings_Join Tryd.laysJoin Tryd.extraJoin bk o c xs sep w h1 h2 h3 h4 h5) _ fun _ => rfl
def i_JoinStrings_i : CSh := ⟨[(.data false (.sl .str)), (.data true .str)], []⟩
def i_JoinStrings_o : RSh := ⟨(.tcons (.data true .str) (.tcons (.data true .bool) .tnil)), []⟩
theorem i_JoinStrings_ev (n : Nat) (x : TupT i_JoinStrings_i.tys) : evF ⟨tab, [strings_Contains_e n, strings_Join_e n], n, [(16, ⟨[(0, (.data false (.sl .str))), (1, (.data true .str)), (6, (.data true tI)), (20, (.data false (.sl .str))), (21, (.data true tI)), (22, (.data true tI))], [], 0⟩)]⟩ Tryd.f12 i_JoinStrings_i i_JoinStrings_o x = i_JoinStrings n x.1 x.2 := by kernel_rfl
noncomputable def i_JoinStrings_e (n : Nat) : Ent := ⟨12, i_JoinStrings_i, i_JoinStrings_o, fun x => i_JoinStrings n x.1 x.2⟩
theorem i_JoinStrings_ok (n : Nat) : EntOK Tryd.prog (i_JoinStrings_e n) ∧ Own Tryd.prog 12 := ent_ok tabOK0 (.cons (strings_Contains_ok n) (.cons (strings_Join_ok n) .nil)) Tryd.func12 rfl (by kernel_rfl) (i_JoinStrings_ev n)
def s_l1Stands_i : CSh := ⟨[(.data true .str), (.data true (.int .u8))], []⟩
def s_l1Stands_o : RSh := ⟨(.data true .bool), []⟩
theorem s_l1Stands_ev (n : Nat) (x : TupT s_l1Stands_i.tys) : evF ⟨tab, [], n, [(6, ⟨[(0, (.data true .str)), (1, (.data true (.int .u8))), (5, (.data true tI))], [], 0⟩)]⟩ Tryd.f46 s_l1Stands_i s_l1Stands_o x = s_l1Stands n x.1 x.2 := by kernel_rfl
noncomputable def s_l1Stands_e (n : Nat) : Ent := ⟨46, s_l1Stands_i, s_l1Stands_o, fun x => s_l1Stands n x.1 x.2⟩
theorem s_l1Stands_ok (n : Nat) : EntOK Tryd.prog (s_l1Stands_e n) ∧ Own Tryd.prog 46 := ent_ok tabOK0 .nil Tryd.func46 rfl (by kernel_rfl) (s_l1Stands_ev n)
def s_JoinStrings_i : CSh := ⟨[(.data false (.sl .str)), (.data true .str)], []⟩
def s_JoinStrings_o : RSh := ⟨(.tcons (.data true .str) (.tcons (.data true .bool) .tnil)), []⟩
theorem s_JoinStrings_ev (n : Nat) (x : TupT s_JoinStrings_i.tys) : evF ⟨tab, [s_l1Stands_e n], n, [(16, ⟨[(0, (.data false (.sl .str))), (1, (.data true .str)), (6, (.data true .str)), (7, (.data true tI))], [], 0⟩), (33, ⟨[(0, (.data false (.sl .str))), (1, (.data true .str)), (6, (.data true .str)), (7, (.data true tI))], [], 0⟩)]⟩ Tryd.f13 s_JoinStrings_i s_JoinStrings_o x = s_JoinStrings n x.1 x.2 := by kernel_rfl
noncomputable def s_JoinStrings_e (n : Nat) : Ent := ⟨13, s_JoinStrings_i, s_JoinStrings_o, fun x => s_JoinStrings n x.1 x.2⟩
theorem s_JoinStrings_ok (n : Nat) : EntOK Tryd.prog (s_JoinStrings_e n) ∧ Own Tryd.prog 13 := ent_ok tabOK0 (.cons (s_l1Stands_ok n) .nil) Tryd.func13 rfl (by kernel_rfl) (s_JoinStrings_ev n)
def s_DrawLessString_i : CSh := ⟨[(.data false (.sl (.int .u8)))], []⟩
def s_DrawLessString_o : RSh := ⟨(.tcons (.data true .str) (.tcons (.data true .str) .tnil)), []⟩
theorem s_DrawLessString_ev (n : Nat) (x : TupT s_DrawLessString_i.tys) : evF ⟨tab, [s_Cur_any1'p_e n], n, []⟩ Tryd.f14 s_DrawLessString_i s_DrawLessString_o x = s_DrawLessString n x := by kernel_rfl
noncomputable def s_DrawLessString_e (n : Nat) : Ent := ⟨14, s_DrawLessString_i, s_DrawLessString_o, fun x => s_DrawLessString n x⟩
theorem s_DrawLessString_ok (n : Nat) : EntOK Tryd.prog (s_DrawLessString_e n) ∧ Own Tryd.prog 14 := ent_ok tabOK0 (.cons (s_Cur_any1'p_ok n) .nil) Tryd.func14 rfl (by kernel_rfl) (s_DrawLessString_ev n)
def i_LessString_i : CSh := ⟨[(.data true .str), (.data true .str)], []⟩
def i_LessString_o : RSh := ⟨(.data true .bool), []⟩
theorem i_LessString_ev (n : Nat) (x : TupT i_LessString_i.tys) : evF ⟨tab, [], n, []⟩ Tryd.f15 i_LessString_i i_LessString_o x = i_LessString n x.1 x.2 := by kernel_rfl
noncomputable def i_LessString_e (n : Nat) : Ent := ⟨15, i_LessString_i, i_LessString_o, fun x => i_LessString n x.1 x.2⟩
theorem i_LessString_ok (n : Nat) : EntOK Tryd.prog (i_LessString_e n) ∧ Own Tryd.prog 15 := ent_ok tabOK0 .nil Tryd.func15 rfl (by kernel_rfl) (i_LessString_ev n)
def s_LessString_i : CSh := ⟨[(.data true .str), (.data true .str)], []⟩
def s_LessString_o : RSh := ⟨(.data true .bool), []⟩
theorem s_LessString_ev (n : Nat) (x : TupT s_LessString_i.tys) : evF ⟨tab, [], n, []⟩ Tryd.f16 s_LessString_i s_LessString_o x = s_LessString n x.1 x.2 := by kernel_rfl
noncomputable def s_LessString_e (n : Nat) : Ent := ⟨16, s_LessString_i, s_LessString_o, fun x => s_LessString n x.1 x.2⟩
theorem s_LessString_ok (n : Nat) : EntOK Tryd.prog (s_LessString_e n) ∧ Own Tryd.prog 16 := ent_ok tabOK0 .nil Tryd.func16 rfl (by kernel_rfl) (s_LessString_ev n)
def v_FnSplitJoin_i : CSh := ⟨[(.data false (.sl (.int .u8)))], []⟩
def v_FnSplitJoin_o : RSh := ⟨(.data true .bool), []⟩
theorem v_FnSplitJoin_ev (n : Nat) (x : TupT v_FnSplitJoin_i.tys) : evF ⟨tab, [v_vBig_e n, s_DrawSplitString_e n, i_SplitString_e n, s_DrawJoinStrings_e n, i_JoinStrings_e n, s_JoinStrings_e n, s_DrawLessString_e n, i_LessString_e n, s_LessString_e n], n, []⟩ Tryd.f3 v_FnSplitJoin_i v_FnSplitJoin_o x = v_FnSplitJoin n x := by kernel_rfl
noncomputable def v_FnSplitJoin_e (n : Nat) : Ent := ⟨3, v_FnSplitJoin_i, v_FnSplitJoin_o, fun x => v_FnSplitJoin n x⟩
theorem v_FnSplitJoin_ok (n : Nat) : EntOK Tryd.prog (v_FnSplitJoin_e n) ∧ Own Tryd.prog 3 := ent_ok tabOK0 (.cons (v_vBig_ok n) (.cons (s_DrawSplitString_ok n) (.cons (i_SplitString_ok n) (.cons (s_DrawJoinStrings_ok n) (.cons (i_JoinStrings_ok n) (.cons (s_JoinStrings_ok n) (.cons (s_DrawLessString_ok n) (.cons (i_LessString_ok n) (.cons (s_LessString_ok n) .nil))))))))) Tryd.func3 rfl (by kernel_rfl) (v_FnSplitJoin_ev n)
end Go.Proofs.YtifcbamdncpahaaDoor
