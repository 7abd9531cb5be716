/- Printed by a program of the session: the contracts of the seat's functions. -/
import Derived.Test.YtleaogcnndhdgaaZ7
import Derived.Test.YtleaogcnndhdgaaPL
import Derived.Test.YtleaogcnndhdgaaRows
import Derived.KernelRfl
namespace Go.Proofs.Ytleaogcnndhdgaa
open Go Go.Tv Go.Pl Go.RowKit
set_option linter.unusedVariables false
abbrev tI : Ty := .int .i64
def tab : Tab := ⟨[(2, ⟨tI, 0, 8⟩), (3, ⟨tI, 0, 8⟩), (4, ⟨.bool, 0, 1⟩), (5, ⟨(.int .u8), 0, 1⟩), (6, ⟨(.int .u8), 0, 1⟩), (7, ⟨(.pair tI (.pair tI (.pair .bool (.int .u8)))), 4, 24⟩), (8, ⟨(.pair tI (.pair tI (.pair .bool (.int .u8)))), 4, 24⟩), (9, ⟨.str, 0, 16⟩), (10, ⟨.str, 0, 16⟩), (11, ⟨.str, 0, 16⟩), (12, ⟨(.int .u64), 0, 8⟩), (13, ⟨(.pair .str (.int .u64)), 2, 24⟩), (14, ⟨(.pair .str (.int .u64)), 2, 24⟩), (21, ⟨(.int .i32), 0, 4⟩), (22, ⟨(.sl (.arr 4 tI)), 36, 32⟩), (28, ⟨(.pair (.sl (.arr 4 tI)) (.pair tI tI)), 3, 40⟩), (29, ⟨(.pair (.sl (.arr 4 tI)) (.pair tI tI)), 3, 40⟩), (32, ⟨(.pair (.sl (.arr 4 tI)) (.pair tI tI)), 3, 40⟩), (36, ⟨(.arr 4 tI), 3, 8⟩), (40, ⟨(.pair .str .str), 2, 32⟩), (41, ⟨(.pair .str .str), 2, 32⟩), (44, ⟨(.pair .str .str), 2, 32⟩), (66, ⟨(.sl (.arr 3 tI)), 79, 24⟩), (69, ⟨(.sl tI), 3, 8⟩), (79, ⟨(.arr 3 tI), 3, 8⟩), (87, ⟨(.int .u64), 0, 8⟩), (88, ⟨(.int .u32), 0, 4⟩), (98, ⟨(.int .u8), 0, 1⟩), (99, ⟨(.int .u8), 0, 1⟩), (102, ⟨(.int .i32), 0, 4⟩), (103, ⟨(.int .i32), 0, 4⟩)], [7, 8, 36, 40, 41, 44, 79], [1, 23, 25, 26, 27, 30, 31, 33, 34, 35, 37, 38, 39, 42, 43, 45, 46, 48, 49, 50, 52, 53, 54, 55, 56, 57, 58, 59, 60, 61, 62, 63, 64, 65, 67, 68, 70, 71, 72, 73, 74, 75, 76, 77, 78, 80, 81, 82, 83, 84, 85, 86, 90, 91, 97, 100, 106]⟩
theorem tabOK0 : TabOK Try.prog tab := ⟨by kernel_rfl, by kernel_rfl⟩
def v_szLogRecord_i : CSh := ⟨[(.data true (.pair .str .str)), (.data true tI)], []⟩
def v_szLogRecord_o : RSh := ⟨(.data true tI), []⟩
theorem v_szLogRecord_ev (n : Nat) (x : TupT v_szLogRecord_i.tys) : evF ⟨tab, [], n, []⟩ Try.f23 v_szLogRecord_i v_szLogRecord_o x = v_szLogRecord n x.1 x.2 := by kernel_rfl
noncomputable def v_szLogRecord_e (n : Nat) : Ent := ⟨23, v_szLogRecord_i, v_szLogRecord_o, fun x => v_szLogRecord n x.1 x.2⟩
theorem v_szLogRecord_ok (n : Nat) : EntOK Try.prog (v_szLogRecord_e n) ∧ Own Try.prog 23 := ent_ok tabOK0 .nil Try.func23 rfl (by kernel_rfl) (v_szLogRecord_ev n)
def v_toLogRecord_i : CSh := ⟨[(.data true (.pair .str .str))], []⟩
def v_toLogRecord_o : RSh := ⟨(.data true (.pair .str .str)), []⟩
theorem v_toLogRecord_ev (n : Nat) (x : TupT v_toLogRecord_i.tys) : evF ⟨tab, [], n, []⟩ Try.f25 v_toLogRecord_i v_toLogRecord_o x = v_toLogRecord n x := by kernel_rfl
noncomputable def v_toLogRecord_e (n : Nat) : Ent := ⟨25, v_toLogRecord_i, v_toLogRecord_o, fun x => v_toLogRecord n x⟩
theorem v_toLogRecord_ok (n : Nat) : EntOK Try.prog (v_toLogRecord_e n) ∧ Own Try.prog 25 := ent_ok tabOK0 .nil Try.func25 rfl (by kernel_rfl) (v_toLogRecord_ev n)
def s_l1In_i : CSh := ⟨[(.data true tI), (.data true tI), (.data true tI)], []⟩
def s_l1In_o : RSh := ⟨(.data true .bool), []⟩
theorem s_l1In_ev (n : Nat) (x : TupT s_l1In_i.tys) : evF ⟨tab, [], n, []⟩ Try.f67 s_l1In_i s_l1In_o x = s_l1In n x.1 x.2.1 x.2.2 := by kernel_rfl
noncomputable def s_l1In_e (n : Nat) : Ent := ⟨67, s_l1In_i, s_l1In_o, fun x => s_l1In n x.1 x.2.1 x.2.2⟩
theorem s_l1In_ok (n : Nat) : EntOK Try.prog (s_l1In_e n) ∧ Own Try.prog 67 := ent_ok tabOK0 .nil Try.func67 rfl (by kernel_rfl) (s_l1In_ev n)
def s_l12Bytes_i : CSh := ⟨[(.data true .str), (.data true tI)], []⟩
def s_l12Bytes_o : RSh := ⟨(.data true .bool), []⟩
theorem s_l12Bytes_ev (n : Nat) (x : TupT s_l12Bytes_i.tys) : evF ⟨tab, [s_l1In_e n], n, [(6, ⟨[(0, (.data true .str)), (1, (.data true tI)), (5, (.data true tI))], [], 0⟩)]⟩ Try.f73 s_l12Bytes_i s_l12Bytes_o x = s_l12Bytes n x.1 x.2 := by kernel_rfl
noncomputable def s_l12Bytes_e (n : Nat) : Ent := ⟨73, s_l12Bytes_i, s_l12Bytes_o, fun x => s_l12Bytes n x.1 x.2⟩
theorem s_l12Bytes_ok (n : Nat) : EntOK Try.prog (s_l12Bytes_e n) ∧ Own Try.prog 73 := ent_ok tabOK0 (.cons (s_l1In_ok n) .nil) Try.func73 rfl (by kernel_rfl) (s_l12Bytes_ev n)
def s_l1Stands_i : CSh := ⟨[(.data true .str), (.data true (.int .u8))], []⟩
def s_l1Stands_o : RSh := ⟨(.data true .bool), []⟩
theorem s_l1Stands_ev (n : Nat) (x : TupT s_l1Stands_i.tys) : evF ⟨tab, [], n, [(6, ⟨[(0, (.data true .str)), (1, (.data true (.int .u8))), (5, (.data true tI))], [], 0⟩)]⟩ Try.f74 s_l1Stands_i s_l1Stands_o x = s_l1Stands n x.1 x.2 := by kernel_rfl
noncomputable def s_l1Stands_e (n : Nat) : Ent := ⟨74, s_l1Stands_i, s_l1Stands_o, fun x => s_l1Stands n x.1 x.2⟩
theorem s_l1Stands_ok (n : Nat) : EntOK Try.prog (s_l1Stands_e n) ∧ Own Try.prog 74 := ent_ok tabOK0 .nil Try.func74 rfl (by kernel_rfl) (s_l1Stands_ev n)
def s_l12Record_i : CSh := ⟨[(.data true (.pair .str .str))], []⟩
def s_l12Record_o : RSh := ⟨(.data true .bool), []⟩
theorem s_l12Record_ev (n : Nat) (x : TupT s_l12Record_i.tys) : evF ⟨tab, [s_l12Bytes_e n, s_l1Stands_e n], n, []⟩ Try.f51 s_l12Record_i s_l12Record_o x = s_l12Record n x := by kernel_rfl
noncomputable def s_l12Record_e (n : Nat) : Ent := ⟨51, s_l12Record_i, s_l12Record_o, fun x => s_l12Record n x⟩
theorem s_l12Record_ok (n : Nat) : EntOK Try.prog (s_l12Record_e n) ∧ Own Try.prog 51 := ent_ok tabOK0 (.cons (s_l12Bytes_ok n) (.cons (s_l1Stands_ok n) .nil)) Try.func51 rfl (by kernel_rfl) (s_l12Record_ev n)
def s_IsValidRecord_i : CSh := ⟨[(.data true (.pair .str .str))], []⟩
def s_IsValidRecord_o : RSh := ⟨(.data true .bool), []⟩
theorem s_IsValidRecord_ev (n : Nat) (x : TupT s_IsValidRecord_i.tys) : evF ⟨tab, [s_l12Record_e n], n, []⟩ Try.f24 s_IsValidRecord_i s_IsValidRecord_o x = s_IsValidRecord n x := by kernel_rfl
noncomputable def s_IsValidRecord_e (n : Nat) : Ent := ⟨24, s_IsValidRecord_i, s_IsValidRecord_o, fun x => s_IsValidRecord n x⟩
theorem s_IsValidRecord_ok (n : Nat) : EntOK Try.prog (s_IsValidRecord_e n) ∧ Own Try.prog 24 := ent_ok tabOK0 (.cons (s_l12Record_ok n) .nil) Try.func24 rfl (by kernel_rfl) (s_IsValidRecord_ev n)
def i_isPlain_i : CSh := ⟨[(.data true .str), (.data true tI)], []⟩
def i_isPlain_o : RSh := ⟨(.data true .bool), []⟩
theorem i_isPlain_ev (n : Nat) (x : TupT i_isPlain_i.tys) : evF ⟨tab, [], n, [(6, ⟨[(0, (.data true .str)), (1, (.data true tI)), (7, (.data true tI)), (8, (.data true tI))], [], 0⟩)]⟩ Try.f53 i_isPlain_i i_isPlain_o x = i_isPlain n x.1 x.2 := by kernel_rfl
noncomputable def i_isPlain_e (n : Nat) : Ent := ⟨53, i_isPlain_i, i_isPlain_o, fun x => i_isPlain n x.1 x.2⟩
theorem i_isPlain_ok (n : Nat) : EntOK Try.prog (i_isPlain_e n) ∧ Own Try.prog 53 := ent_ok tabOK0 .nil Try.func53 rfl (by kernel_rfl) (i_isPlain_ev n)
noncomputable def x_IndexByteString_e (n : Nat) : Ent := ⟨93, ⟨[.data true .str, .data true (.int .u8)], []⟩, ⟨.data true tI, []⟩, fun x => x_IndexByteString n x.1 x.2⟩
theorem x_IndexByteString_ok (n : Nat) : ExtOK Try.prog (x_IndexByteString_e n) := ext_indexByte Try.func93 rfl rfl rfl rfl _ fun _ => rfl
def internal_stringslite_IndexByte_i : CSh := ⟨[(.data true .str), (.data true (.int .u8))], []⟩
def internal_stringslite_IndexByte_o : RSh := ⟨(.data true tI), []⟩
theorem internal_stringslite_IndexByte_ev (n : Nat) (x : TupT internal_stringslite_IndexByte_i.tys) : evF ⟨tab, [x_IndexByteString_e n], n, []⟩ Try.f89 internal_stringslite_IndexByte_i internal_stringslite_IndexByte_o x = internal_stringslite_IndexByte n x.1 x.2 := by kernel_rfl
noncomputable def internal_stringslite_IndexByte_e (n : Nat) : Ent := ⟨89, internal_stringslite_IndexByte_i, internal_stringslite_IndexByte_o, fun x => internal_stringslite_IndexByte n x.1 x.2⟩
theorem internal_stringslite_IndexByte_ok (n : Nat) : EntOK Try.prog (internal_stringslite_IndexByte_e n) ∧ Own Try.prog 89 := ent_ok tabOK0 (.consX (x_IndexByteString_ok n) .nil) Try.func89 rfl (by kernel_rfl) (internal_stringslite_IndexByte_ev n)
def internal_stringslite_Index_s_i : CSh := ⟨[(.data true .str), (.data true .str)], []⟩
def internal_stringslite_Index_s_o : RSh := ⟨(.data true tI), []⟩
theorem internal_stringslite_Index_s_ev (n : Nat) (x : TupT internal_stringslite_Index_s_i.tys) : evF ⟨tab, [internal_stringslite_IndexByte_e n], n, []⟩ Try.f88 internal_stringslite_Index_s_i internal_stringslite_Index_s_o x = internal_stringslite_Index_s n x.1 x.2 := by kernel_rfl
noncomputable def internal_stringslite_Index_s_e (n : Nat) : Ent := ⟨88, internal_stringslite_Index_s_i, internal_stringslite_Index_s_o, fun x => internal_stringslite_Index_s n x.1 x.2⟩
theorem internal_stringslite_Index_s_ok (n : Nat) : EntOK Try.prog (internal_stringslite_Index_s_e n) ∧ Own Try.prog 88 := ent_ok tabOK0 (.cons (internal_stringslite_IndexByte_ok n) .nil) Try.func88 rfl (by kernel_rfl) (internal_stringslite_Index_s_ev n)
def strings_Index_i : CSh := ⟨[(.data true .str), (.data true .str)], []⟩
def strings_Index_o : RSh := ⟨(.data true tI), []⟩
theorem strings_Index_ev (n : Nat) (x : TupT strings_Index_i.tys) : evF ⟨tab, [internal_stringslite_Index_s_e n], n, []⟩ Try.f84 strings_Index_i strings_Index_o x = strings_Index n x.1 x.2 := by kernel_rfl
noncomputable def strings_Index_e (n : Nat) : Ent := ⟨84, strings_Index_i, strings_Index_o, fun x => strings_Index n x.1 x.2⟩
theorem strings_Index_ok (n : Nat) : EntOK Try.prog (strings_Index_e n) ∧ Own Try.prog 84 := ent_ok tabOK0 (.cons (internal_stringslite_Index_s_ok n) .nil) Try.func84 rfl (by kernel_rfl) (strings_Index_ev n)
def strings_Contains_i : CSh := ⟨[(.data true .str), (.data true .str)], []⟩
def strings_Contains_o : RSh := ⟨(.data true .bool), []⟩
theorem strings_Contains_ev (n : Nat) (x : TupT strings_Contains_i.tys) : evF ⟨tab, [strings_Index_e n], n, []⟩ Try.f75 strings_Contains_i strings_Contains_o x = strings_Contains n x.1 x.2 := by kernel_rfl
noncomputable def strings_Contains_e (n : Nat) : Ent := ⟨75, strings_Contains_i, strings_Contains_o, fun x => strings_Contains n x.1 x.2⟩
theorem strings_Contains_ok (n : Nat) : EntOK Try.prog (strings_Contains_e n) ∧ Own Try.prog 75 := ent_ok tabOK0 (.cons (strings_Index_ok n) .nil) Try.func75 rfl (by kernel_rfl) (strings_Contains_ev n)
def i_isCommand_i : CSh := ⟨[(.data true .str)], []⟩
def i_isCommand_o : RSh := ⟨(.data true .bool), []⟩
theorem i_isCommand_ev (n : Nat) (x : TupT i_isCommand_i.tys) : evF ⟨tab, [i_isPlain_e n, strings_Contains_e n], n, []⟩ Try.f52 i_isCommand_i i_isCommand_o x = i_isCommand n x := by kernel_rfl
noncomputable def i_isCommand_e (n : Nat) : Ent := ⟨52, i_isCommand_i, i_isCommand_o, fun x => i_isCommand n x⟩
theorem i_isCommand_ok (n : Nat) : EntOK Try.prog (i_isCommand_e n) ∧ Own Try.prog 52 := ent_ok tabOK0 (.cons (i_isPlain_ok n) (.cons (strings_Contains_ok n) .nil)) Try.func52 rfl (by kernel_rfl) (i_isCommand_ev n)
def i_IsValidRecord_i : CSh := ⟨[(.data true (.pair .str .str))], []⟩
def i_IsValidRecord_o : RSh := ⟨(.data true .bool), []⟩
theorem i_IsValidRecord_ev (n : Nat) (x : TupT i_IsValidRecord_i.tys) : evF ⟨tab, [i_isCommand_e n, i_isPlain_e n], n, []⟩ Try.f26 i_IsValidRecord_i i_IsValidRecord_o x = i_IsValidRecord n x := by kernel_rfl
noncomputable def i_IsValidRecord_e (n : Nat) : Ent := ⟨26, i_IsValidRecord_i, i_IsValidRecord_o, fun x => i_IsValidRecord n x⟩
theorem i_IsValidRecord_ok (n : Nat) : EntOK Try.prog (i_IsValidRecord_e n) ∧ Own Try.prog 26 := ent_ok tabOK0 (.cons (i_isCommand_ok n) (.cons (i_isPlain_ok n) .nil)) Try.func26 rfl (by kernel_rfl) (i_IsValidRecord_ev n)
def v_FnExactIsValidRecord_i : CSh := ⟨[(.data true (.pair .str .str))], []⟩
def v_FnExactIsValidRecord_o : RSh := ⟨(.data true .bool), []⟩
theorem v_FnExactIsValidRecord_ev (n : Nat) (x : TupT v_FnExactIsValidRecord_i.tys) : evF ⟨tab, [v_szLogRecord_e n, v_toLogRecord_e n, s_IsValidRecord_e n, i_IsValidRecord_e n], n, []⟩ Try.f6 v_FnExactIsValidRecord_i v_FnExactIsValidRecord_o x = v_FnExactIsValidRecord n x := by kernel_rfl
noncomputable def v_FnExactIsValidRecord_e (n : Nat) : Ent := ⟨6, v_FnExactIsValidRecord_i, v_FnExactIsValidRecord_o, fun x => v_FnExactIsValidRecord n x⟩
theorem v_FnExactIsValidRecord_ok (n : Nat) : EntOK Try.prog (v_FnExactIsValidRecord_e n) ∧ Own Try.prog 6 := ent_ok tabOK0 (.cons (v_szLogRecord_ok n) (.cons (v_toLogRecord_ok n) (.cons (s_IsValidRecord_ok n) (.cons (i_IsValidRecord_ok n) .nil)))) Try.func6 rfl (by kernel_rfl) (v_FnExactIsValidRecord_ev n)
end Go.Proofs.Ytleaogcnndhdgaa
