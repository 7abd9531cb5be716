/- Printed by a program of the session: the contracts of the seat's functions. -/
import Derived.Test.YtifcbamdncpahaaDoorZ7
import Derived.Test.YtifcbamdncpahaaDoorPL
import Derived.Test.YtifcbamdncpahaaDoorRows
import Derived.Test.YtifcbamdncpahaaDoorSh
import Derived.KernelRfl
namespace Go.Proofs.YtifcbamdncpahaaDoor
open Go Go.Tv Go.Pl Go.RowKit
set_option linter.unusedVariables false
abbrev tI : Ty := .int .i64
def tab : Tab := ⟨[(2, ⟨tI, 0, 8⟩), (3, ⟨tI, 0, 8⟩), (4, ⟨.bool, 0, 1⟩), (5, ⟨(.int .u8), 0, 1⟩), (6, ⟨(.int .u8), 0, 1⟩), (7, ⟨(.pair tI (.pair tI (.pair .bool (.int .u8)))), 4, 24⟩), (8, ⟨(.pair tI (.pair tI (.pair .bool (.int .u8)))), 4, 24⟩), (9, ⟨.str, 0, 16⟩), (10, ⟨.str, 0, 16⟩), (11, ⟨.str, 0, 16⟩), (12, ⟨(.int .u64), 0, 8⟩), (13, ⟨(.pair .str (.int .u64)), 2, 24⟩), (14, ⟨(.pair .str (.int .u64)), 2, 24⟩), (21, ⟨(.int .i32), 0, 4⟩), (22, ⟨(.sl (.int .u8)), 5, 1⟩), (26, ⟨(.sl .str), 9, 16⟩), (41, ⟨(.pair .str .str), 2, 32⟩), (42, ⟨(.pair .str .str), 2, 32⟩), (45, ⟨(.pair .str .str), 2, 32⟩), (48, ⟨(.pair .str (.pair .str tI)), 3, 40⟩), (49, ⟨(.pair .str (.pair .str tI)), 3, 40⟩), (54, ⟨(.pair .str (.pair .str tI)), 3, 40⟩), (60, ⟨(.int .u64), 0, 8⟩), (61, ⟨(.pair (.sl (.int .u8)) (.pair tI (.int .u64))), 3, 40⟩), (62, ⟨(.pair (.sl (.int .u8)) (.pair tI (.int .u64))), 3, 40⟩), (71, ⟨(.sl tI), 3, 8⟩), (84, ⟨(.sl (.pair .str .str)), 45, 32⟩), (104, ⟨(.int .u64), 0, 8⟩), (107, ⟨tI, 0, 8⟩), (119, ⟨(.arr 24 (.int .u8)), 5, 1⟩), (129, ⟨(.int .u32), 0, 4⟩), (133, ⟨(.arr 20 (.int .u64)), 60, 8⟩), (134, ⟨(.arr 65 (.int .u8)), 5, 1⟩), (140, ⟨(.arr 256 (.int .u8)), 5, 1⟩), (141, ⟨(.pair (.int .u8) (.int .u8)), 2, 2⟩), (142, ⟨(.pair (.int .u8) (.int .u8)), 2, 2⟩), (143, ⟨(.arr 16 (.pair (.int .u8) (.int .u8))), 142, 2⟩), (145, ⟨(.arr 32 (.int .u8)), 5, 1⟩), (146, ⟨(.arr 64 (.int .u8)), 5, 1⟩), (152, ⟨(.int .u8), 0, 1⟩), (153, ⟨(.int .u8), 0, 1⟩), (155, ⟨(.int .i32), 0, 4⟩), (156, ⟨(.int .i32), 0, 4⟩)], [7, 8, 41, 42, 45, 48, 49, 54, 119, 133, 134, 140, 141, 142, 143, 145, 146], [1, 23, 25, 28, 30, 32, 33, 34, 35, 36, 38, 39, 40, 43, 44, 46, 47, 51, 52, 53, 55, 56, 57, 58, 63, 64, 65, 66, 67, 68, 69, 70, 72, 73, 77, 78, 79, 81, 82, 83, 86, 88, 89, 90, 91, 92, 96, 97, 98, 99, 101, 102, 103, 106, 109, 111, 112, 114, 115, 117, 118, 120, 121, 123, 125, 128, 131, 132, 135, 136, 144, 154]⟩
theorem tabOK0 : TabOK Tryd.prog tab := ⟨by kernel_rfl, by kernel_rfl⟩
instance inv0 : Inv := Inv.vars Tryd.prog [("internal/strconv.uint64pow10", isTab .u64 Lib.pow10Tab), ("strconv.ErrSyntax", isErr), ("strconv.ErrRange", isErr)]
theorem itoaTab {w : World} (h : Inv.holds w) : Lib.TabIs Tryd.prog w "internal/strconv.uint64pow10" .u64 Lib.pow10Tab := by
  obtain ⟨cs, h1, h2⟩ := h _ (.head _)
  rw [h2] at h1
  exact h1
theorem errSyn {w : World} (h : Inv.holds w) : ∃ cs, w.var? Tryd.prog "strconv.ErrSyntax" = some cs ∧ isErr cs := h _ (.tail _ (.head _))
theorem errRng {w : World} (h : Inv.holds w) : ∃ cs, w.var? Tryd.prog "strconv.ErrRange" = some cs ∧ isErr cs := h _ (.tail _ (.tail _ (.head _)))
def v_vBig_i : CSh := ⟨[(.data false (.sl (.int .u8)))], []⟩
def v_vBig_o : RSh := ⟨(.data true .bool), []⟩
theorem v_vBig_ev (n : Nat) (x : TupT v_vBig_i.tys) : evF ⟨tab, [], n, []⟩ Tryd.f8 v_vBig_i v_vBig_o x = v_vBig n x := by kernel_rfl
noncomputable def v_vBig_e (n : Nat) : Ent := ⟨8, v_vBig_i, v_vBig_o, fun x => v_vBig n x⟩
theorem v_vBig_ok (n : Nat) : EntOK Tryd.prog (v_vBig_e n) ∧ Own Tryd.prog 8 := ent_ok tabOK0 .nil Tryd.func8 rfl (by kernel_rfl) (v_vBig_ev n)
def s_Cur_next'p_i : CSh := ⟨[(.ptr 0 [])], [.var 62 (.data true (.pair (.sl (.int .u8)) (.pair tI (.int .u64))))]⟩
def s_Cur_next'p_o : RSh := ⟨(.data true tI), [.var 62 (.data true (.pair (.sl (.int .u8)) (.pair tI (.int .u64))))]⟩
theorem s_Cur_next'p_ev (n : Nat) (x : TupT s_Cur_next'p_i.tys) : evF ⟨tab, [], n, [(4, ⟨[(0, (.ptr 0 [])), (3, (.data true tI))], [.var 62 (.data true (.pair (.sl (.int .u8)) (.pair tI (.int .u64))))], 1⟩)]⟩ Tryd.f65 s_Cur_next'p_i s_Cur_next'p_o x = s_Cur_next'p n x := by kernel_rfl
noncomputable def s_Cur_next'p_e (n : Nat) : Ent := ⟨65, s_Cur_next'p_i, s_Cur_next'p_o, fun x => s_Cur_next'p n x⟩
theorem s_Cur_next'p_ok (n : Nat) : EntOK Tryd.prog (s_Cur_next'p_e n) ∧ Own Tryd.prog 65 := ent_ok tabOK0 .nil Tryd.func65 rfl (by kernel_rfl) (s_Cur_next'p_ev n)
def s_Cur_pick'p_i : CSh := ⟨[(.ptr 0 []), (.data true tI)], [.var 62 (.data true (.pair (.sl (.int .u8)) (.pair tI (.int .u64))))]⟩
def s_Cur_pick'p_o : RSh := ⟨(.data true tI), [.var 62 (.data true (.pair (.sl (.int .u8)) (.pair tI (.int .u64))))]⟩
theorem s_Cur_pick'p_ev (n : Nat) (x : TupT s_Cur_pick'p_i.tys) : evF ⟨tab, [s_Cur_next'p_e n], n, []⟩ Tryd.f42 s_Cur_pick'p_i s_Cur_pick'p_o x = s_Cur_pick'p n x.1 x.2 := by kernel_rfl
noncomputable def s_Cur_pick'p_e (n : Nat) : Ent := ⟨42, s_Cur_pick'p_i, s_Cur_pick'p_o, fun x => s_Cur_pick'p n x.1 x.2⟩
theorem s_Cur_pick'p_ok (n : Nat) : EntOK Tryd.prog (s_Cur_pick'p_e n) ∧ Own Tryd.prog 42 := ent_ok tabOK0 (.cons (s_Cur_next'p_ok n) .nil) Tryd.func42 rfl (by kernel_rfl) (s_Cur_pick'p_ev n)
def s_Cur_among'pl_i : CSh := ⟨[(.ptr 0 []), (.data false (.sl tI))], [.var 62 (.data true (.pair (.sl (.int .u8)) (.pair tI (.int .u64))))]⟩
def s_Cur_among'pl_o : RSh := ⟨(.data true tI), [.var 62 (.data true (.pair (.sl (.int .u8)) (.pair tI (.int .u64))))]⟩
theorem s_Cur_among'pl_ev (n : Nat) (x : TupT s_Cur_among'pl_i.tys) : evF ⟨tab, [s_Cur_pick'p_e n], n, []⟩ Tryd.f47 s_Cur_among'pl_i s_Cur_among'pl_o x = s_Cur_among'pl n x.1 x.2 := by kernel_rfl
noncomputable def s_Cur_among'pl_e (n : Nat) : Ent := ⟨47, s_Cur_among'pl_i, s_Cur_among'pl_o, fun x => s_Cur_among'pl n x.1 x.2⟩
theorem s_Cur_among'pl_ok (n : Nat) : EntOK Tryd.prog (s_Cur_among'pl_e n) ∧ Own Tryd.prog 47 := ent_ok tabOK0 (.cons (s_Cur_pick'p_ok n) .nil) Tryd.func47 rfl (by kernel_rfl) (s_Cur_among'pl_ev n)
def s_DrawFormatInt_i : CSh := ⟨[(.data false (.sl (.int .u8)))], []⟩
def s_DrawFormatInt_o : RSh := ⟨(.data true tI), []⟩
theorem s_DrawFormatInt_ev (n : Nat) (x : TupT s_DrawFormatInt_i.tys) : evF ⟨tab, [s_Cur_pick'p_e n, s_Cur_among'pl_e n], n, []⟩ Tryd.f17 s_DrawFormatInt_i s_DrawFormatInt_o x = s_DrawFormatInt n x := by kernel_rfl
noncomputable def s_DrawFormatInt_e (n : Nat) : Ent := ⟨17, s_DrawFormatInt_i, s_DrawFormatInt_o, fun x => s_DrawFormatInt n x⟩
theorem s_DrawFormatInt_ok (n : Nat) : EntOK Tryd.prog (s_DrawFormatInt_e n) ∧ Own Tryd.prog 17 := ent_ok tabOK0 (.cons (s_Cur_pick'p_ok n) (.cons (s_Cur_among'pl_ok n) .nil)) Tryd.func17 rfl (by kernel_rfl) (s_DrawFormatInt_ev n)
def i_within_i : CSh := ⟨[(.data true tI), (.data true tI), (.data true tI)], []⟩
def i_within_o : RSh := ⟨(.data true .bool), []⟩
theorem i_within_ev (n : Nat) (x : TupT i_within_i.tys) : evF ⟨tab, [], n, []⟩ Tryd.f48 i_within_i i_within_o x = i_within n x.1 x.2.1 x.2.2 := by kernel_rfl
noncomputable def i_within_e (n : Nat) : Ent := ⟨48, i_within_i, i_within_o, fun x => i_within n x.1 x.2.1 x.2.2⟩
theorem i_within_ok (n : Nat) : EntOK Tryd.prog (i_within_e n) ∧ Own Tryd.prog 48 := ent_ok tabOK0 .nil Tryd.func48 rfl (by kernel_rfl) (i_within_ev n)
noncomputable def strconv_Itoa_e (n : Nat) : Ent := ⟨49, ⟨[(.data true tI)], []⟩, ⟨(.data true .str), []⟩, fun x => strconv_Itoa n x⟩
theorem strconv_Itoa_ok (n : Nat) : EntOK Tryd.prog (strconv_Itoa_e n) ∧ Own Tryd.prog 49 := ent_itoa Tryd.func49 rfl (by kernel_rfl) (fun m w h0 h1 hI => Any.strconv_Itoa Tryd.laysItoa m h0 h1 w (itoaTab hI)) _ fun _ => rfl
def i_FormatInt_i : CSh := ⟨[(.data true tI)], []⟩
def i_FormatInt_o : RSh := ⟨(.tcons (.data true .str) (.tcons (.data true .bool) .tnil)), []⟩
theorem i_FormatInt_ev (n : Nat) (x : TupT i_FormatInt_i.tys) : evF ⟨tab, [i_within_e n, strconv_Itoa_e n], n, []⟩ Tryd.f18 i_FormatInt_i i_FormatInt_o x = i_FormatInt n x := by kernel_rfl
noncomputable def i_FormatInt_e (n : Nat) : Ent := ⟨18, i_FormatInt_i, i_FormatInt_o, fun x => i_FormatInt n x⟩
theorem i_FormatInt_ok (n : Nat) : EntOK Tryd.prog (i_FormatInt_e n) ∧ Own Tryd.prog 18 := ent_ok tabOK0 (.cons (i_within_ok n) (.cons (strconv_Itoa_ok n) .nil)) Tryd.func18 rfl (by kernel_rfl) (i_FormatInt_ev n)
def s_l1In_i : CSh := ⟨[(.data true tI), (.data true tI), (.data true tI)], []⟩
def s_l1In_o : RSh := ⟨(.data true .bool), []⟩
theorem s_l1In_ev (n : Nat) (x : TupT s_l1In_i.tys) : evF ⟨tab, [], n, []⟩ Tryd.f50 s_l1In_i s_l1In_o x = s_l1In n x.1 x.2.1 x.2.2 := by kernel_rfl
noncomputable def s_l1In_e (n : Nat) : Ent := ⟨50, s_l1In_i, s_l1In_o, fun x => s_l1In n x.1 x.2.1 x.2.2⟩
theorem s_l1In_ok (n : Nat) : EntOK Tryd.prog (s_l1In_e n) ∧ Own Tryd.prog 50 := ent_ok tabOK0 .nil Tryd.func50 rfl (by kernel_rfl) (s_l1In_ev n)
def s_l1Num_i : CSh := ⟨[(.data true tI)], []⟩
def s_l1Num_o : RSh := ⟨(.data true .str), []⟩
theorem s_l1Num_ev (n : Nat) (go : TupT s_l1Num_i.tys → Option (TupT s_l1Num_o.tys)) (x : TupT s_l1Num_i.tys) : evF ⟨tab, [⟨51, s_l1Num_i, s_l1Num_o, go⟩], n, []⟩ Tryd.f51 s_l1Num_i s_l1Num_o x = s_l1Num_R n go x := by kernel_rfl
noncomputable def s_l1Num_e (n : Nat) : Ent := ⟨51, s_l1Num_i, s_l1Num_o, fun x => s_l1Num n x⟩
theorem s_l1Num_ok (n : Nat) : EntOK Tryd.prog (s_l1Num_e n) ∧ Own Tryd.prog 51 := ent_rec tabOK0 .nil Tryd.func51 rfl (by kernel_rfl) (s_l1Num_ev n) n
def s_FormatInt_i : CSh := ⟨[(.data true tI)], []⟩
def s_FormatInt_o : RSh := ⟨(.tcons (.data true .str) (.tcons (.data true .bool) .tnil)), []⟩
theorem s_FormatInt_ev (n : Nat) (x : TupT s_FormatInt_i.tys) : evF ⟨tab, [s_l1In_e n, s_l1Num_e n], n, []⟩ Tryd.f19 s_FormatInt_i s_FormatInt_o x = s_FormatInt n x := by kernel_rfl
noncomputable def s_FormatInt_e (n : Nat) : Ent := ⟨19, s_FormatInt_i, s_FormatInt_o, fun x => s_FormatInt n x⟩
theorem s_FormatInt_ok (n : Nat) : EntOK Tryd.prog (s_FormatInt_e n) ∧ Own Tryd.prog 19 := ent_ok tabOK0 (.cons (s_l1In_ok n) (.cons (s_l1Num_ok n) .nil)) Tryd.func19 rfl (by kernel_rfl) (s_FormatInt_ev n)
def s_Cur_one'p_i : CSh := ⟨[(.ptr 0 []), (.data true tI)], [.var 62 (.data true (.pair (.sl (.int .u8)) (.pair tI (.int .u64))))]⟩
def s_Cur_one'p_o : RSh := ⟨(.data true .bool), [.var 62 (.data true (.pair (.sl (.int .u8)) (.pair tI (.int .u64))))]⟩
theorem s_Cur_one'p_ev (n : Nat) (x : TupT s_Cur_one'p_i.tys) : evF ⟨tab, [s_Cur_pick'p_e n], n, []⟩ Tryd.f43 s_Cur_one'p_i s_Cur_one'p_o x = s_Cur_one'p n x.1 x.2 := by kernel_rfl
noncomputable def s_Cur_one'p_e (n : Nat) : Ent := ⟨43, s_Cur_one'p_i, s_Cur_one'p_o, fun x => s_Cur_one'p n x.1 x.2⟩
theorem s_Cur_one'p_ok (n : Nat) : EntOK Tryd.prog (s_Cur_one'p_e n) ∧ Own Tryd.prog 43 := ent_ok tabOK0 (.cons (s_Cur_pick'p_ok n) .nil) Tryd.func43 rfl (by kernel_rfl) (s_Cur_one'p_ev n)
def s_Cur_of'pl_i : CSh := ⟨[(.ptr 0 []), (.data false (.sl .str))], [.var 62 (.data true (.pair (.sl (.int .u8)) (.pair tI (.int .u64))))]⟩
def s_Cur_of'pl_o : RSh := ⟨(.data true .str), [.var 62 (.data true (.pair (.sl (.int .u8)) (.pair tI (.int .u64))))]⟩
theorem s_Cur_of'pl_ev (n : Nat) (x : TupT s_Cur_of'pl_i.tys) : evF ⟨tab, [s_Cur_pick'p_e n], n, []⟩ Tryd.f40 s_Cur_of'pl_i s_Cur_of'pl_o x = s_Cur_of'pl n x.1 x.2 := by kernel_rfl
noncomputable def s_Cur_of'pl_e (n : Nat) : Ent := ⟨40, s_Cur_of'pl_i, s_Cur_of'pl_o, fun x => s_Cur_of'pl n x.1 x.2⟩
theorem s_Cur_of'pl_ok (n : Nat) : EntOK Tryd.prog (s_Cur_of'pl_e n) ∧ Own Tryd.prog 40 := ent_ok tabOK0 (.cons (s_Cur_pick'p_ok n) .nil) Tryd.func40 rfl (by kernel_rfl) (s_Cur_of'pl_ev n)
def s_DrawParseInt_i : CSh := ⟨[(.data false (.sl (.int .u8)))], []⟩
def s_DrawParseInt_o : RSh := ⟨(.data true .str), []⟩
theorem s_DrawParseInt_ev (n : Nat) (x : TupT s_DrawParseInt_i.tys) : evF ⟨tab, [s_Cur_one'p_e n, s_Cur_of'pl_e n, s_Cur_pick'p_e n, s_l1Num_e n], n, []⟩ Tryd.f20 s_DrawParseInt_i s_DrawParseInt_o x = s_DrawParseInt n x := by kernel_rfl
noncomputable def s_DrawParseInt_e (n : Nat) : Ent := ⟨20, s_DrawParseInt_i, s_DrawParseInt_o, fun x => s_DrawParseInt n x⟩
theorem s_DrawParseInt_ok (n : Nat) : EntOK Tryd.prog (s_DrawParseInt_e n) ∧ Own Tryd.prog 20 := ent_ok tabOK0 (.cons (s_Cur_one'p_ok n) (.cons (s_Cur_of'pl_ok n) (.cons (s_Cur_pick'p_ok n) (.cons (s_l1Num_ok n) .nil)))) Tryd.func20 rfl (by kernel_rfl) (s_DrawParseInt_ev n)
noncomputable def i_ParseInt_e (n : Nat) : Ent := ⟨21, ⟨[(.data true .str)], []⟩, ⟨(.tcons (.data true tI) (.tcons (.data true .bool) .tnil)), []⟩, fun x => i_ParseInt n x⟩
theorem i_ParseInt_ok (n : Nat) : EntOK Tryd.prog (i_ParseInt_e n) ∧ Own Tryd.prog 21 := ent_parse Tryd.func21 rfl (by kernel_rfl) (fun s w hs hI => Tryd.parseInt_calls s w hs (itoaTab hI) (errSyn hI) (errRng hI)) _ fun _ => rfl
def s_l1Read_i : CSh := ⟨[(.data true .str)], []⟩
def s_l1Read_o : RSh := ⟨(.tcons (.data true tI) (.tcons (.data true .bool) .tnil)), []⟩
theorem s_l1Read_ev (n : Nat) (x : TupT s_l1Read_i.tys) : evF ⟨tab, [s_l1In_e n, s_l1Num_e n], n, [(4, ⟨[(0, (.data true .str)), (4, (.data true .str))], [], 0⟩), (24, ⟨[(0, (.data true .str)), (4, (.data true .str)), (5, (.data true tI)), (6, (.data true tI))], [], 0⟩), (43, ⟨[(0, (.data true .str)), (5, (.data true tI))], [], 0⟩)]⟩ Tryd.f53 s_l1Read_i s_l1Read_o x = s_l1Read n x := by kernel_rfl
noncomputable def s_l1Read_e (n : Nat) : Ent := ⟨53, s_l1Read_i, s_l1Read_o, fun x => s_l1Read n x⟩
theorem s_l1Read_ok (n : Nat) : EntOK Tryd.prog (s_l1Read_e n) ∧ Own Tryd.prog 53 := ent_ok tabOK0 (.cons (s_l1In_ok n) (.cons (s_l1Num_ok n) .nil)) Tryd.func53 rfl (by kernel_rfl) (s_l1Read_ev n)
def s_ParseInt_i : CSh := ⟨[(.data true .str)], []⟩
def s_ParseInt_o : RSh := ⟨(.tcons (.data true tI) (.tcons (.data true .bool) .tnil)), []⟩
theorem s_ParseInt_ev (n : Nat) (x : TupT s_ParseInt_i.tys) : evF ⟨tab, [s_l1Read_e n], n, []⟩ Tryd.f22 s_ParseInt_i s_ParseInt_o x = s_ParseInt n x := by kernel_rfl
noncomputable def s_ParseInt_e (n : Nat) : Ent := ⟨22, s_ParseInt_i, s_ParseInt_o, fun x => s_ParseInt n x⟩
theorem s_ParseInt_ok (n : Nat) : EntOK Tryd.prog (s_ParseInt_e n) ∧ Own Tryd.prog 22 := ent_ok tabOK0 (.cons (s_l1Read_ok n) .nil) Tryd.func22 rfl (by kernel_rfl) (s_ParseInt_ev n)
def s_Cur_any1'p_i : CSh := ⟨[(.ptr 0 [])], [.var 62 (.data true (.pair (.sl (.int .u8)) (.pair tI (.int .u64))))]⟩
def s_Cur_any1'p_o : RSh := ⟨(.data true .str), [.var 62 (.data true (.pair (.sl (.int .u8)) (.pair tI (.int .u64))))]⟩
theorem s_Cur_any1'p_ev (n : Nat) (x : TupT s_Cur_any1'p_i.tys) : evF ⟨tab, [s_Cur_of'pl_e n], n, []⟩ Tryd.f39 s_Cur_any1'p_i s_Cur_any1'p_o x = s_Cur_any1'p n x := by kernel_rfl
noncomputable def s_Cur_any1'p_e (n : Nat) : Ent := ⟨39, s_Cur_any1'p_i, s_Cur_any1'p_o, fun x => s_Cur_any1'p n x⟩
theorem s_Cur_any1'p_ok (n : Nat) : EntOK Tryd.prog (s_Cur_any1'p_e n) ∧ Own Tryd.prog 39 := ent_ok tabOK0 (.cons (s_Cur_of'pl_ok n) .nil) Tryd.func39 rfl (by kernel_rfl) (s_Cur_any1'p_ev n)
def s_DrawAppendChecksum_i : CSh := ⟨[(.data false (.sl (.int .u8)))], []⟩
def s_DrawAppendChecksum_o : RSh := ⟨(.data true .str), []⟩
theorem s_DrawAppendChecksum_ev (n : Nat) (x : TupT s_DrawAppendChecksum_i.tys) : evF ⟨tab, [s_Cur_one'p_e n, s_Cur_pick'p_e n, s_Cur_any1'p_e n], n, []⟩ Tryd.f23 s_DrawAppendChecksum_i s_DrawAppendChecksum_o x = s_DrawAppendChecksum n x := by kernel_rfl
noncomputable def s_DrawAppendChecksum_e (n : Nat) : Ent := ⟨23, s_DrawAppendChecksum_i, s_DrawAppendChecksum_o, fun x => s_DrawAppendChecksum n x⟩
theorem s_DrawAppendChecksum_ok (n : Nat) : EntOK Tryd.prog (s_DrawAppendChecksum_e n) ∧ Own Tryd.prog 23 := ent_ok tabOK0 (.cons (s_Cur_one'p_ok n) (.cons (s_Cur_pick'p_ok n) (.cons (s_Cur_any1'p_ok n) .nil))) Tryd.func23 rfl (by kernel_rfl) (s_DrawAppendChecksum_ev n)
noncomputable def x_IndexByteString_e (n : Nat) : Ent := ⟨109, ⟨[(.data true .str), (.data true (.int .u8))], []⟩, ⟨(.data true tI), []⟩, fun x => x_IndexByteString n x.1 x.2⟩
theorem x_IndexByteString_ok (n : Nat) : ExtOK Tryd.prog (x_IndexByteString_e n) := ext_indexByte Tryd.func109 rfl rfl rfl rfl _ fun _ => rfl
def internal_stringslite_IndexByte_i : CSh := ⟨[(.data true .str), (.data true (.int .u8))], []⟩
def internal_stringslite_IndexByte_o : RSh := ⟨(.data true tI), []⟩
theorem internal_stringslite_IndexByte_ev (n : Nat) (x : TupT internal_stringslite_IndexByte_i.tys) : evF ⟨tab, [x_IndexByteString_e n], n, []⟩ Tryd.f95 internal_stringslite_IndexByte_i internal_stringslite_IndexByte_o x = internal_stringslite_IndexByte n x.1 x.2 := by kernel_rfl
noncomputable def internal_stringslite_IndexByte_e (n : Nat) : Ent := ⟨95, internal_stringslite_IndexByte_i, internal_stringslite_IndexByte_o, fun x => internal_stringslite_IndexByte n x.1 x.2⟩
theorem internal_stringslite_IndexByte_ok (n : Nat) : EntOK Tryd.prog (internal_stringslite_IndexByte_e n) ∧ Own Tryd.prog 95 := ent_ok tabOK0 (.consX (x_IndexByteString_ok n) .nil) Tryd.func95 rfl (by kernel_rfl) (internal_stringslite_IndexByte_ev n)
def internal_stringslite_Index_s_i : CSh := ⟨[(.data true .str), (.data true .str)], []⟩
def internal_stringslite_Index_s_o : RSh := ⟨(.data true tI), []⟩
theorem internal_stringslite_Index_s_ev (n : Nat) (x : TupT internal_stringslite_Index_s_i.tys) : evF ⟨tab, [internal_stringslite_IndexByte_e n], n, []⟩ Tryd.f83 internal_stringslite_Index_s_i internal_stringslite_Index_s_o x = internal_stringslite_Index_s n x.1 x.2 := by kernel_rfl
noncomputable def internal_stringslite_Index_s_e (n : Nat) : Ent := ⟨83, internal_stringslite_Index_s_i, internal_stringslite_Index_s_o, fun x => internal_stringslite_Index_s n x.1 x.2⟩
theorem internal_stringslite_Index_s_ok (n : Nat) : EntOK Tryd.prog (internal_stringslite_Index_s_e n) ∧ Own Tryd.prog 83 := ent_ok tabOK0 (.cons (internal_stringslite_IndexByte_ok n) .nil) Tryd.func83 rfl (by kernel_rfl) (internal_stringslite_Index_s_ev n)
def strings_Index_i : CSh := ⟨[(.data true .str), (.data true .str)], []⟩
def strings_Index_o : RSh := ⟨(.data true tI), []⟩
theorem strings_Index_ev (n : Nat) (x : TupT strings_Index_i.tys) : evF ⟨tab, [internal_stringslite_Index_s_e n], n, []⟩ Tryd.f66 strings_Index_i strings_Index_o x = strings_Index n x.1 x.2 := by kernel_rfl
noncomputable def strings_Index_e (n : Nat) : Ent := ⟨66, strings_Index_i, strings_Index_o, fun x => strings_Index n x.1 x.2⟩
theorem strings_Index_ok (n : Nat) : EntOK Tryd.prog (strings_Index_e n) ∧ Own Tryd.prog 66 := ent_ok tabOK0 (.cons (internal_stringslite_Index_s_ok n) .nil) Tryd.func66 rfl (by kernel_rfl) (strings_Index_ev n)
def strings_Contains_i : CSh := ⟨[(.data true .str), (.data true .str)], []⟩
def strings_Contains_o : RSh := ⟨(.data true .bool), []⟩
theorem strings_Contains_ev (n : Nat) (x : TupT strings_Contains_i.tys) : evF ⟨tab, [strings_Index_e n], n, []⟩ Tryd.f44 strings_Contains_i strings_Contains_o x = strings_Contains n x.1 x.2 := by kernel_rfl
noncomputable def strings_Contains_e (n : Nat) : Ent := ⟨44, strings_Contains_i, strings_Contains_o, fun x => strings_Contains n x.1 x.2⟩
theorem strings_Contains_ok (n : Nat) : EntOK Tryd.prog (strings_Contains_e n) ∧ Own Tryd.prog 44 := ent_ok tabOK0 (.cons (strings_Index_ok n) .nil) Tryd.func44 rfl (by kernel_rfl) (strings_Contains_ev n)
def i_checksum_i : CSh := ⟨[(.data true .str)], []⟩
def i_checksum_o : RSh := ⟨(.data true tI), []⟩
theorem i_checksum_ev (n : Nat) (x : TupT i_checksum_i.tys) : evF ⟨tab, [], n, [(8, ⟨[(0, (.data true .str)), (3, (.data true tI)), (6, (.data true tI)), (7, (.data true tI))], [], 0⟩)]⟩ Tryd.f54 i_checksum_i i_checksum_o x = i_checksum n x := by kernel_rfl
noncomputable def i_checksum_e (n : Nat) : Ent := ⟨54, i_checksum_i, i_checksum_o, fun x => i_checksum n x⟩
theorem i_checksum_ok (n : Nat) : EntOK Tryd.prog (i_checksum_e n) ∧ Own Tryd.prog 54 := ent_ok tabOK0 .nil Tryd.func54 rfl (by kernel_rfl) (i_checksum_ev n)
def i_AppendChecksum_i : CSh := ⟨[(.data true .str)], []⟩
def i_AppendChecksum_o : RSh := ⟨(.tcons (.data true .str) (.tcons (.data true .bool) .tnil)), []⟩
theorem i_AppendChecksum_ev (n : Nat) (x : TupT i_AppendChecksum_i.tys) : evF ⟨tab, [strings_Contains_e n, i_checksum_e n, strconv_Itoa_e n], n, []⟩ Tryd.f24 i_AppendChecksum_i i_AppendChecksum_o x = i_AppendChecksum n x := by kernel_rfl
noncomputable def i_AppendChecksum_e (n : Nat) : Ent := ⟨24, i_AppendChecksum_i, i_AppendChecksum_o, fun x => i_AppendChecksum n x⟩
theorem i_AppendChecksum_ok (n : Nat) : EntOK Tryd.prog (i_AppendChecksum_e n) ∧ Own Tryd.prog 24 := ent_ok tabOK0 (.cons (strings_Contains_ok n) (.cons (i_checksum_ok n) (.cons (strconv_Itoa_ok n) .nil))) Tryd.func24 rfl (by kernel_rfl) (i_AppendChecksum_ev n)
def s_l1Stands_i : CSh := ⟨[(.data true .str), (.data true (.int .u8))], []⟩
def s_l1Stands_o : RSh := ⟨(.data true .bool), []⟩
theorem s_l1Stands_ev (n : Nat) (x : TupT s_l1Stands_i.tys) : evF ⟨tab, [], n, [(6, ⟨[(0, (.data true .str)), (1, (.data true (.int .u8))), (5, (.data true tI))], [], 0⟩)]⟩ Tryd.f46 s_l1Stands_i s_l1Stands_o x = s_l1Stands n x.1 x.2 := by kernel_rfl
noncomputable def s_l1Stands_e (n : Nat) : Ent := ⟨46, s_l1Stands_i, s_l1Stands_o, fun x => s_l1Stands n x.1 x.2⟩
theorem s_l1Stands_ok (n : Nat) : EntOK Tryd.prog (s_l1Stands_e n) ∧ Own Tryd.prog 46 := ent_ok tabOK0 .nil Tryd.func46 rfl (by kernel_rfl) (s_l1Stands_ev n)
def s_l1Sum_i : CSh := ⟨[(.data true .str)], []⟩
def s_l1Sum_o : RSh := ⟨(.data true tI), []⟩
theorem s_l1Sum_ev (n : Nat) (x : TupT s_l1Sum_i.tys) : evF ⟨tab, [], n, [(8, ⟨[(0, (.data true .str)), (3, (.data true tI)), (4, (.data true tI))], [], 0⟩)]⟩ Tryd.f73 s_l1Sum_i s_l1Sum_o x = s_l1Sum n x := by kernel_rfl
noncomputable def s_l1Sum_e (n : Nat) : Ent := ⟨73, s_l1Sum_i, s_l1Sum_o, fun x => s_l1Sum n x⟩
theorem s_l1Sum_ok (n : Nat) : EntOK Tryd.prog (s_l1Sum_e n) ∧ Own Tryd.prog 73 := ent_ok tabOK0 .nil Tryd.func73 rfl (by kernel_rfl) (s_l1Sum_ev n)
def s_l1Seal_i : CSh := ⟨[(.data true .str)], []⟩
def s_l1Seal_o : RSh := ⟨(.data true .str), []⟩
theorem s_l1Seal_ev (n : Nat) (x : TupT s_l1Seal_i.tys) : evF ⟨tab, [s_l1Sum_e n, s_l1Num_e n], n, []⟩ Tryd.f55 s_l1Seal_i s_l1Seal_o x = s_l1Seal n x := by kernel_rfl
noncomputable def s_l1Seal_e (n : Nat) : Ent := ⟨55, s_l1Seal_i, s_l1Seal_o, fun x => s_l1Seal n x⟩
theorem s_l1Seal_ok (n : Nat) : EntOK Tryd.prog (s_l1Seal_e n) ∧ Own Tryd.prog 55 := ent_ok tabOK0 (.cons (s_l1Sum_ok n) (.cons (s_l1Num_ok n) .nil)) Tryd.func55 rfl (by kernel_rfl) (s_l1Seal_ev n)
def s_AppendChecksum_i : CSh := ⟨[(.data true .str)], []⟩
def s_AppendChecksum_o : RSh := ⟨(.tcons (.data true .str) (.tcons (.data true .bool) .tnil)), []⟩
theorem s_AppendChecksum_ev (n : Nat) (x : TupT s_AppendChecksum_i.tys) : evF ⟨tab, [s_l1Stands_e n, s_l1Seal_e n], n, []⟩ Tryd.f25 s_AppendChecksum_i s_AppendChecksum_o x = s_AppendChecksum n x := by kernel_rfl
noncomputable def s_AppendChecksum_e (n : Nat) : Ent := ⟨25, s_AppendChecksum_i, s_AppendChecksum_o, fun x => s_AppendChecksum n x⟩
theorem s_AppendChecksum_ok (n : Nat) : EntOK Tryd.prog (s_AppendChecksum_e n) ∧ Own Tryd.prog 25 := ent_ok tabOK0 (.cons (s_l1Stands_ok n) (.cons (s_l1Seal_ok n) .nil)) Tryd.func25 rfl (by kernel_rfl) (s_AppendChecksum_ev n)
def internal_stringslite_Cut_i : CSh := ⟨[(.data true .str), (.data true .str)], []⟩
def internal_stringslite_Cut_o : RSh := ⟨(.tcons (.data true .str) (.tcons (.data true .str) (.tcons (.data true .bool) .tnil))), []⟩
theorem internal_stringslite_Cut_ev (n : Nat) (x : TupT internal_stringslite_Cut_i.tys) : evF ⟨tab, [internal_stringslite_Index_s_e n], n, []⟩ Tryd.f74 internal_stringslite_Cut_i internal_stringslite_Cut_o x = internal_stringslite_Cut n x.1 x.2 := by kernel_rfl
noncomputable def internal_stringslite_Cut_e (n : Nat) : Ent := ⟨74, internal_stringslite_Cut_i, internal_stringslite_Cut_o, fun x => internal_stringslite_Cut n x.1 x.2⟩
theorem internal_stringslite_Cut_ok (n : Nat) : EntOK Tryd.prog (internal_stringslite_Cut_e n) ∧ Own Tryd.prog 74 := ent_ok tabOK0 (.cons (internal_stringslite_Index_s_ok n) .nil) Tryd.func74 rfl (by kernel_rfl) (internal_stringslite_Cut_ev n)
def strings_Cut_i : CSh := ⟨[(.data true .str), (.data true .str)], []⟩
def strings_Cut_o : RSh := ⟨(.tcons (.data true .str) (.tcons (.data true .str) (.tcons (.data true .bool) .tnil))), []⟩
theorem strings_Cut_ev (n : Nat) (x : TupT strings_Cut_i.tys) : evF ⟨tab, [internal_stringslite_Cut_e n], n, []⟩ Tryd.f56 strings_Cut_i strings_Cut_o x = strings_Cut n x.1 x.2 := by kernel_rfl
noncomputable def strings_Cut_e (n : Nat) : Ent := ⟨56, strings_Cut_i, strings_Cut_o, fun x => strings_Cut n x.1 x.2⟩
theorem strings_Cut_ok (n : Nat) : EntOK Tryd.prog (strings_Cut_e n) ∧ Own Tryd.prog 56 := ent_ok tabOK0 (.cons (internal_stringslite_Cut_ok n) .nil) Tryd.func56 rfl (by kernel_rfl) (strings_Cut_ev n)
def i_VerifyChecksum_i : CSh := ⟨[(.data true .str)], []⟩
def i_VerifyChecksum_o : RSh := ⟨(.tcons (.data true .str) (.tcons (.data true .bool) .tnil)), []⟩
theorem i_VerifyChecksum_ev (n : Nat) (x : TupT i_VerifyChecksum_i.tys) : evF ⟨tab, [strings_Cut_e n, i_AppendChecksum_e n], n, []⟩ Tryd.f26 i_VerifyChecksum_i i_VerifyChecksum_o x = i_VerifyChecksum n x := by kernel_rfl
noncomputable def i_VerifyChecksum_e (n : Nat) : Ent := ⟨26, i_VerifyChecksum_i, i_VerifyChecksum_o, fun x => i_VerifyChecksum n x⟩
theorem i_VerifyChecksum_ok (n : Nat) : EntOK Tryd.prog (i_VerifyChecksum_e n) ∧ Own Tryd.prog 26 := ent_ok tabOK0 (.cons (strings_Cut_ok n) (.cons (i_AppendChecksum_ok n) .nil)) Tryd.func26 rfl (by kernel_rfl) (i_VerifyChecksum_ev n)
def v_vAt_i : CSh := ⟨[(.data false (.sl (.int .u8))), (.data true tI)], []⟩
def v_vAt_o : RSh := ⟨(.data true tI), []⟩
theorem v_vAt_ev (n : Nat) (x : TupT v_vAt_i.tys) : evF ⟨tab, [], n, []⟩ Tryd.f27 v_vAt_i v_vAt_o x = v_vAt n x.1 x.2 := by kernel_rfl
noncomputable def v_vAt_e (n : Nat) : Ent := ⟨27, v_vAt_i, v_vAt_o, fun x => v_vAt n x.1 x.2⟩
theorem v_vAt_ok (n : Nat) : EntOK Tryd.prog (v_vAt_e n) ∧ Own Tryd.prog 27 := ent_ok tabOK0 .nil Tryd.func27 rfl (by kernel_rfl) (v_vAt_ev n)
def v_FnStrings_i : CSh := ⟨[(.data false (.sl (.int .u8)))], []⟩
def v_FnStrings_o : RSh := ⟨(.data true .bool), []⟩
theorem v_FnStrings_ev (n : Nat) (x : TupT v_FnStrings_i.tys) : evF ⟨tab, [v_vBig_e n, s_DrawFormatInt_e n, i_FormatInt_e n, s_FormatInt_e n, s_DrawParseInt_e n, i_ParseInt_e n, s_ParseInt_e n, s_DrawAppendChecksum_e n, i_AppendChecksum_e n, s_AppendChecksum_e n, i_VerifyChecksum_e n, v_vAt_e n], n, []⟩ Tryd.f4 v_FnStrings_i v_FnStrings_o x = v_FnStrings n x := by kernel_rfl
noncomputable def v_FnStrings_e (n : Nat) : Ent := ⟨4, v_FnStrings_i, v_FnStrings_o, fun x => v_FnStrings n x⟩
theorem v_FnStrings_ok (n : Nat) : EntOK Tryd.prog (v_FnStrings_e n) ∧ Own Tryd.prog 4 := ent_ok tabOK0 (.cons (v_vBig_ok n) (.cons (s_DrawFormatInt_ok n) (.cons (i_FormatInt_ok n) (.cons (s_FormatInt_ok n) (.cons (s_DrawParseInt_ok n) (.cons (i_ParseInt_ok n) (.cons (s_ParseInt_ok n) (.cons (s_DrawAppendChecksum_ok n) (.cons (i_AppendChecksum_ok n) (.cons (s_AppendChecksum_ok n) (.cons (i_VerifyChecksum_ok n) (.cons (v_vAt_ok n) .nil)))))))))))) Tryd.func4 rfl (by kernel_rfl) (v_FnStrings_ev n)
end Go.Proofs.YtifcbamdncpahaaDoor
