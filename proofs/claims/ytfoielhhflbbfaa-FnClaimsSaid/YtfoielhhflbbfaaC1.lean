/- Printed by a program of the session: the contracts of the seat's functions. -/
import Derived.Test.YtfoielhhflbbfaaZ7
import Derived.Test.YtfoielhhflbbfaaPL
import Derived.Test.YtfoielhhflbbfaaRows
import Derived.KernelRfl
namespace Go.Proofs.Ytfoielhhflbbfaa
open Go Go.Tv Go.Pl Go.RowKit
set_option linter.unusedVariables false
abbrev tI : Ty := .int .i64
def tab : Tab := ⟨[(2, ⟨tI, 0, 8⟩), (3, ⟨tI, 0, 8⟩), (4, ⟨.bool, 0, 1⟩), (5, ⟨(.int .u8), 0, 1⟩), (6, ⟨(.int .u8), 0, 1⟩), (7, ⟨(.pair tI (.pair tI (.pair .bool (.int .u8)))), 4, 24⟩), (8, ⟨(.pair tI (.pair tI (.pair .bool (.int .u8)))), 4, 24⟩), (9, ⟨.str, 0, 16⟩), (10, ⟨.str, 0, 16⟩), (11, ⟨.str, 0, 16⟩), (12, ⟨(.int .u64), 0, 8⟩), (13, ⟨(.pair .str (.int .u64)), 2, 24⟩), (14, ⟨(.pair .str (.int .u64)), 2, 24⟩), (21, ⟨(.int .i32), 0, 4⟩), (22, ⟨(.sl (.int .u8)), 5, 1⟩), (24, ⟨(.sl (.arr 4 tI)), 54, 32⟩), (26, ⟨(.arr 2 tI), 3, 8⟩), (38, ⟨(.sl (.arr 3 tI)), 62, 24⟩), (42, ⟨(.sl tI), 3, 8⟩), (50, ⟨(.sl (.arr 6 tI)), 53, 48⟩), (53, ⟨(.arr 6 tI), 3, 8⟩), (54, ⟨(.arr 4 tI), 3, 8⟩), (57, ⟨(.arr 5 tI), 3, 8⟩), (62, ⟨(.arr 3 tI), 3, 8⟩), (63, ⟨(.pair tI (.pair tI (.sl (.arr 4 tI)))), 3, 40⟩), (64, ⟨(.pair tI (.pair tI (.sl (.arr 4 tI)))), 3, 40⟩), (65, ⟨(.pair (.pair tI (.pair tI (.sl (.arr 4 tI)))) (.pair (.sl tI) (.sl tI))), 3, 88⟩), (66, ⟨(.pair (.pair tI (.pair tI (.sl (.arr 4 tI)))) (.pair (.sl tI) (.sl tI))), 3, 88⟩), (76, ⟨(.pair tI (.arr 3 tI)), 2, 32⟩), (77, ⟨(.pair tI (.arr 3 tI)), 2, 32⟩), (84, ⟨(.sl (.pair tI (.arr 3 tI))), 77, 32⟩), (116, ⟨(.arr 9 (.arr 4 tI)), 54, 32⟩), (123, ⟨(.int .u64), 0, 8⟩), (124, ⟨(.pair (.sl (.int .u8)) (.pair tI (.int .u64))), 3, 40⟩), (125, ⟨(.pair (.sl (.int .u8)) (.pair tI (.int .u64))), 3, 40⟩), (150, ⟨(.sl (.sl tI)), 42, 24⟩), (185, ⟨(.arr 81 .bool), 4, 1⟩), (187, ⟨(.arr 81 tI), 3, 8⟩), (194, ⟨(.arr 3 (.arr 4 tI)), 54, 32⟩), (207, ⟨(.int .u64), 0, 8⟩), (208, ⟨(.sl (.arr 2 tI)), 26, 16⟩), (221, ⟨(.sl (.sl (.arr 4 tI))), 24, 24⟩), (225, ⟨tI, 0, 8⟩), (232, ⟨(.int .u32), 0, 4⟩), (234, ⟨(.int .u64), 0, 8⟩), (248, ⟨(.int .u8), 0, 1⟩), (249, ⟨(.int .u8), 0, 1⟩), (252, ⟨(.int .i32), 0, 4⟩), (253, ⟨(.int .i32), 0, 4⟩)], [7, 8, 26, 53, 54, 57, 62, 76, 77, 116, 185, 187, 194], [1, 23, 25, 28, 29, 30, 31, 33, 34, 36, 37, 40, 41, 44, 46, 47, 49, 52, 55, 56, 59, 60, 61, 67, 68, 69, 70, 71, 73, 74, 75, 79, 81, 82, 83, 86, 88, 89, 91, 92, 94, 96, 98, 99, 101, 103, 105, 106, 107, 109, 110, 111, 112, 114, 115, 118, 119, 121, 126, 127, 128, 129, 130, 131, 132, 133, 134, 135, 136, 137, 138, 139, 140, 141, 142, 143, 144, 145, 146, 147, 148, 149, 151, 152, 153, 154, 155, 156, 157, 158, 159, 160, 161, 162, 163, 164, 165, 166, 167, 168, 169, 170, 171, 172, 173, 174, 175, 176, 177, 179, 180, 181, 182, 183, 184, 186, 188, 189, 190, 191, 192, 193, 195, 196, 197, 198, 199, 201, 202, 203, 204, 205, 206, 209, 210, 211, 212, 213, 214, 215, 216, 217, 218, 219, 220, 222, 223, 224, 227, 228, 229, 230, 231, 233, 235, 236, 237, 239, 241, 242, 250]⟩
theorem tabOK0 : TabOK Try.prog tab := ⟨by kernel_rfl, by kernel_rfl⟩
def v_rBig_i : CSh := ⟨[(.data false (.sl (.int .u8)))], []⟩
def v_rBig_o : RSh := ⟨(.data true .bool), []⟩
theorem v_rBig_ev (n : Nat) (x : TupT v_rBig_i.tys) : evF ⟨tab, [], n, []⟩ Try.f32 v_rBig_i v_rBig_o x = v_rBig n x := by kernel_rfl
noncomputable def v_rBig_e (n : Nat) : Ent := ⟨32, v_rBig_i, v_rBig_o, fun x => v_rBig n x⟩
theorem v_rBig_ok (n : Nat) : EntOK Try.prog (v_rBig_e n) ∧ Own Try.prog 32 := ent_ok tabOK0 .nil Try.func32 rfl (by kernel_rfl) (v_rBig_ev n)
def s_Cur_next'p_i : CSh := ⟨[(.ptr 0 [])], [.var 125 (.data true (.pair (.sl (.int .u8)) (.pair tI (.int .u64))))]⟩
def s_Cur_next'p_o : RSh := ⟨(.data true tI), [.var 125 (.data true (.pair (.sl (.int .u8)) (.pair tI (.int .u64))))]⟩
theorem s_Cur_next'p_ev (n : Nat) (x : TupT s_Cur_next'p_i.tys) : evF ⟨tab, [], n, [(4, ⟨[(0, (.ptr 0 [])), (3, (.data true tI))], [.var 125 (.data true (.pair (.sl (.int .u8)) (.pair tI (.int .u64))))], 1⟩)]⟩ Try.f228 s_Cur_next'p_i s_Cur_next'p_o x = s_Cur_next'p n x := by kernel_rfl
noncomputable def s_Cur_next'p_e (n : Nat) : Ent := ⟨228, s_Cur_next'p_i, s_Cur_next'p_o, fun x => s_Cur_next'p n x⟩
theorem s_Cur_next'p_ok (n : Nat) : EntOK Try.prog (s_Cur_next'p_e n) ∧ Own Try.prog 228 := ent_ok tabOK0 .nil Try.func228 rfl (by kernel_rfl) (s_Cur_next'p_ev n)
def s_Cur_pick'p_i : CSh := ⟨[(.ptr 0 []), (.data true tI)], [.var 125 (.data true (.pair (.sl (.int .u8)) (.pair tI (.int .u64))))]⟩
def s_Cur_pick'p_o : RSh := ⟨(.data true tI), [.var 125 (.data true (.pair (.sl (.int .u8)) (.pair tI (.int .u64))))]⟩
theorem s_Cur_pick'p_ev (n : Nat) (x : TupT s_Cur_pick'p_i.tys) : evF ⟨tab, [s_Cur_next'p_e n], n, []⟩ Try.f132 s_Cur_pick'p_i s_Cur_pick'p_o x = s_Cur_pick'p n x.1 x.2 := by kernel_rfl
noncomputable def s_Cur_pick'p_e (n : Nat) : Ent := ⟨132, s_Cur_pick'p_i, s_Cur_pick'p_o, fun x => s_Cur_pick'p n x.1 x.2⟩
theorem s_Cur_pick'p_ok (n : Nat) : EntOK Try.prog (s_Cur_pick'p_e n) ∧ Own Try.prog 132 := ent_ok tabOK0 (.cons (s_Cur_next'p_ok n) .nil) Try.func132 rfl (by kernel_rfl) (s_Cur_pick'p_ev n)
def s_Cur_one'p_i : CSh := ⟨[(.ptr 0 []), (.data true tI)], [.var 125 (.data true (.pair (.sl (.int .u8)) (.pair tI (.int .u64))))]⟩
def s_Cur_one'p_o : RSh := ⟨(.data true .bool), [.var 125 (.data true (.pair (.sl (.int .u8)) (.pair tI (.int .u64))))]⟩
theorem s_Cur_one'p_ev (n : Nat) (x : TupT s_Cur_one'p_i.tys) : evF ⟨tab, [s_Cur_pick'p_e n], n, []⟩ Try.f148 s_Cur_one'p_i s_Cur_one'p_o x = s_Cur_one'p n x.1 x.2 := by kernel_rfl
noncomputable def s_Cur_one'p_e (n : Nat) : Ent := ⟨148, s_Cur_one'p_i, s_Cur_one'p_o, fun x => s_Cur_one'p n x.1 x.2⟩
theorem s_Cur_one'p_ok (n : Nat) : EntOK Try.prog (s_Cur_one'p_e n) ∧ Own Try.prog 148 := ent_ok tabOK0 (.cons (s_Cur_pick'p_ok n) .nil) Try.func148 rfl (by kernel_rfl) (s_Cur_one'p_ev n)
def s_Cur_among'pl_i : CSh := ⟨[(.ptr 0 []), (.data false (.sl tI))], [.var 125 (.data true (.pair (.sl (.int .u8)) (.pair tI (.int .u64))))]⟩
def s_Cur_among'pl_o : RSh := ⟨(.data true tI), [.var 125 (.data true (.pair (.sl (.int .u8)) (.pair tI (.int .u64))))]⟩
theorem s_Cur_among'pl_ev (n : Nat) (x : TupT s_Cur_among'pl_i.tys) : evF ⟨tab, [s_Cur_pick'p_e n], n, []⟩ Try.f131 s_Cur_among'pl_i s_Cur_among'pl_o x = s_Cur_among'pl n x.1 x.2 := by kernel_rfl
noncomputable def s_Cur_among'pl_e (n : Nat) : Ent := ⟨131, s_Cur_among'pl_i, s_Cur_among'pl_o, fun x => s_Cur_among'pl n x.1 x.2⟩
theorem s_Cur_among'pl_ok (n : Nat) : EntOK Try.prog (s_Cur_among'pl_e n) ∧ Own Try.prog 131 := ent_ok tabOK0 (.cons (s_Cur_pick'p_ok n) .nil) Try.func131 rfl (by kernel_rfl) (s_Cur_among'pl_ev n)
def s_Cur_seedOf'p_i : CSh := ⟨[(.ptr 0 [])], [.var 125 (.data true (.pair (.sl (.int .u8)) (.pair tI (.int .u64))))]⟩
def s_Cur_seedOf'p_o : RSh := ⟨(.data true tI), [.var 125 (.data true (.pair (.sl (.int .u8)) (.pair tI (.int .u64))))]⟩
theorem s_Cur_seedOf'p_ev (n : Nat) (x : TupT s_Cur_seedOf'p_i.tys) : evF ⟨tab, [s_Cur_one'p_e n, s_Cur_among'pl_e n, s_Cur_pick'p_e n], n, []⟩ Try.f201 s_Cur_seedOf'p_i s_Cur_seedOf'p_o x = s_Cur_seedOf'p n x := by kernel_rfl
noncomputable def s_Cur_seedOf'p_e (n : Nat) : Ent := ⟨201, s_Cur_seedOf'p_i, s_Cur_seedOf'p_o, fun x => s_Cur_seedOf'p n x⟩
theorem s_Cur_seedOf'p_ok (n : Nat) : EntOK Try.prog (s_Cur_seedOf'p_e n) ∧ Own Try.prog 201 := ent_ok tabOK0 (.cons (s_Cur_one'p_ok n) (.cons (s_Cur_among'pl_ok n) (.cons (s_Cur_pick'p_ok n) .nil))) Try.func201 rfl (by kernel_rfl) (s_Cur_seedOf'p_ev n)
def s_l1In_i : CSh := ⟨[(.data true tI), (.data true tI), (.data true tI)], []⟩
def s_l1In_o : RSh := ⟨(.data true .bool), []⟩
theorem s_l1In_ev (n : Nat) (x : TupT s_l1In_i.tys) : evF ⟨tab, [], n, []⟩ Try.f134 s_l1In_i s_l1In_o x = s_l1In n x.1 x.2.1 x.2.2 := by kernel_rfl
noncomputable def s_l1In_e (n : Nat) : Ent := ⟨134, s_l1In_i, s_l1In_o, fun x => s_l1In n x.1 x.2.1 x.2.2⟩
theorem s_l1In_ok (n : Nat) : EntOK Try.prog (s_l1In_e n) ∧ Own Try.prog 134 := ent_ok tabOK0 .nil Try.func134 rfl (by kernel_rfl) (s_l1In_ev n)
def s_l4Seed_i : CSh := ⟨[(.data true tI)], []⟩
def s_l4Seed_o : RSh := ⟨(.data true .bool), []⟩
theorem s_l4Seed_ev (n : Nat) (x : TupT s_l4Seed_i.tys) : evF ⟨tab, [s_l1In_e n], n, []⟩ Try.f252 s_l4Seed_i s_l4Seed_o x = s_l4Seed n x := by kernel_rfl
noncomputable def s_l4Seed_e (n : Nat) : Ent := ⟨252, s_l4Seed_i, s_l4Seed_o, fun x => s_l4Seed n x⟩
theorem s_l4Seed_ok (n : Nat) : EntOK Try.prog (s_l4Seed_e n) ∧ Own Try.prog 252 := ent_ok tabOK0 (.cons (s_l1In_ok n) .nil) Try.func252 rfl (by kernel_rfl) (s_l4Seed_ev n)
def s_l2At_i : CSh := ⟨[(.data true tI)], []⟩
def s_l2At_o : RSh := ⟨(.data true (.arr 4 tI)), []⟩
theorem s_l2At_ev (n : Nat) (x : TupT s_l2At_i.tys) : evF ⟨tab, [], n, []⟩ Try.f151 s_l2At_i s_l2At_o x = s_l2At n x := by kernel_rfl
noncomputable def s_l2At_e (n : Nat) : Ent := ⟨151, s_l2At_i, s_l2At_o, fun x => s_l2At n x⟩
theorem s_l2At_ok (n : Nat) : EntOK Try.prog (s_l2At_e n) ∧ Own Try.prog 151 := ent_ok tabOK0 .nil Try.func151 rfl (by kernel_rfl) (s_l2At_ev n)
def s_l4Behind_i : CSh := ⟨[(.data true tI)], []⟩
def s_l4Behind_o : RSh := ⟨(.data true tI), []⟩
theorem s_l4Behind_ev (n : Nat) (x : TupT s_l4Behind_i.tys) : evF ⟨tab, [], n, []⟩ Try.f282 s_l4Behind_i s_l4Behind_o x = s_l4Behind n x := by kernel_rfl
noncomputable def s_l4Behind_e (n : Nat) : Ent := ⟨282, s_l4Behind_i, s_l4Behind_o, fun x => s_l4Behind n x⟩
theorem s_l4Behind_ok (n : Nat) : EntOK Try.prog (s_l4Behind_e n) ∧ Own Try.prog 282 := ent_ok tabOK0 .nil Try.func282 rfl (by kernel_rfl) (s_l4Behind_ev n)
def s_l4Pile_i : CSh := ⟨[(.data true tI)], []⟩
def s_l4Pile_o : RSh := ⟨(.own 0), [.rows 54 true (.arr 4 tI)]⟩
theorem s_l4Pile_ev (n : Nat) (x : TupT s_l4Pile_i.tys) : evF ⟨tab, [s_l2At_e n, s_l4Behind_e n], n, [(8, ⟨[(0, (.data true tI)), (3, (.own 0)), (4, (.data true tI))], [.rows 54 true (.arr 4 tI)], 0⟩), (23, ⟨[(0, (.data true tI)), (3, (.own 0)), (5, (.data true tI))], [.rows 54 true (.arr 4 tI)], 0⟩)]⟩ Try.f253 s_l4Pile_i s_l4Pile_o x = s_l4Pile n x := by kernel_rfl
noncomputable def s_l4Pile_e (n : Nat) : Ent := ⟨253, s_l4Pile_i, s_l4Pile_o, fun x => s_l4Pile n x⟩
theorem s_l4Pile_ok (n : Nat) : EntOK Try.prog (s_l4Pile_e n) ∧ Own Try.prog 253 := ent_ok tabOK0 (.cons (s_l2At_ok n) (.cons (s_l4Behind_ok n) .nil)) Try.func253 rfl (by kernel_rfl) (s_l4Pile_ev n)
def s_l2Own_i : CSh := ⟨[(.data false (.sl (.arr 4 tI)))], []⟩
def s_l2Own_o : RSh := ⟨(.own 0), [.rows 54 true (.arr 4 tI)]⟩
theorem s_l2Own_ev (n : Nat) (x : TupT s_l2Own_i.tys) : evF ⟨tab, [], n, []⟩ Try.f233 s_l2Own_i s_l2Own_o x = s_l2Own n x := by kernel_rfl
noncomputable def s_l2Own_e (n : Nat) : Ent := ⟨233, s_l2Own_i, s_l2Own_o, fun x => s_l2Own n x⟩
theorem s_l2Own_ok (n : Nat) : EntOK Try.prog (s_l2Own_e n) ∧ Own Try.prog 233 := ent_ok tabOK0 .nil Try.func233 rfl (by kernel_rfl) (s_l2Own_ev n)
def s_NewDeal_i : CSh := ⟨[(.data true tI)], []⟩
def s_NewDeal_o : RSh := ⟨(.tcons (.pr (.data true tI) (.pr (.data true tI) (.own 0))) (.tcons (.data true .bool) .tnil)), [.rows 54 true (.arr 4 tI)]⟩
theorem s_NewDeal_ev (n : Nat) (x : TupT s_NewDeal_i.tys) : evF ⟨tab, [s_l4Seed_e n, s_l4Pile_e n, s_l2Own_e n], n, []⟩ Try.f204 s_NewDeal_i s_NewDeal_o x = s_NewDeal n x := by kernel_rfl
noncomputable def s_NewDeal_e (n : Nat) : Ent := ⟨204, s_NewDeal_i, s_NewDeal_o, fun x => s_NewDeal n x⟩
theorem s_NewDeal_ok (n : Nat) : EntOK Try.prog (s_NewDeal_e n) ∧ Own Try.prog 204 := ent_ok tabOK0 (.cons (s_l4Seed_ok n) (.cons (s_l4Pile_ok n) (.cons (s_l2Own_ok n) .nil))) Try.func204 rfl (by kernel_rfl) (s_NewDeal_ev n)
def s_l2Third_i : CSh := ⟨[(.data true (.arr 4 tI)), (.data true (.arr 4 tI))], []⟩
def s_l2Third_o : RSh := ⟨(.data true (.arr 4 tI)), []⟩
theorem s_l2Third_ev (n : Nat) (x : TupT s_l2Third_i.tys) : evF ⟨tab, [], n, [(8, ⟨[(2, (.ptr 0 [])), (3, (.ptr 1 [])), (4, (.ptr 2 [])), (5, (.ptr 3 [])), (6, (.data true tI))], [.var 54 (.data true (.arr 4 tI)), .var 54 (.data true (.arr 4 tI)), .var 54 (.data true (.arr 4 tI)), .var 54 (.data true (.arr 4 tI))], 0⟩)]⟩ Try.f223 s_l2Third_i s_l2Third_o x = s_l2Third n x.1 x.2 := by kernel_rfl
noncomputable def s_l2Third_e (n : Nat) : Ent := ⟨223, s_l2Third_i, s_l2Third_o, fun x => s_l2Third n x.1 x.2⟩
theorem s_l2Third_ok (n : Nat) : EntOK Try.prog (s_l2Third_e n) ∧ Own Try.prog 223 := ent_ok tabOK0 .nil Try.func223 rfl (by kernel_rfl) (s_l2Third_ev n)
def s_l2Line_i : CSh := ⟨[(.data true (.arr 4 tI)), (.data true (.arr 4 tI)), (.data true (.arr 4 tI))], []⟩
def s_l2Line_o : RSh := ⟨(.data true .bool), []⟩
theorem s_l2Line_ev (n : Nat) (x : TupT s_l2Line_i.tys) : evF ⟨tab, [s_l2Third_e n], n, []⟩ Try.f243 s_l2Line_i s_l2Line_o x = s_l2Line n x.1 x.2.1 x.2.2 := by kernel_rfl
noncomputable def s_l2Line_e (n : Nat) : Ent := ⟨243, s_l2Line_i, s_l2Line_o, fun x => s_l2Line n x.1 x.2.1 x.2.2⟩
theorem s_l2Line_ok (n : Nat) : EntOK Try.prog (s_l2Line_e n) ∧ Own Try.prog 243 := ent_ok tabOK0 (.cons (s_l2Third_ok n) .nil) Try.func243 rfl (by kernel_rfl) (s_l2Line_ev n)
def s_l4Lines_i : CSh := ⟨[(.data false (.sl (.arr 4 tI)))], []⟩
def s_l4Lines_o : RSh := ⟨(.own 0), [.rows 62 true (.arr 3 tI)]⟩
theorem s_l4Lines_ev (n : Nat) (x : TupT s_l4Lines_i.tys) : evF ⟨tab, [s_l2Line_e n], n, [(8, ⟨[(0, (.data false (.sl (.arr 4 tI)))), (3, (.own 0)), (4, (.data true tI))], [.rows 62 true (.arr 3 tI)], 0⟩), (20, ⟨[(0, (.data false (.sl (.arr 4 tI)))), (3, (.own 0)), (4, (.data true tI)), (5, (.data true tI))], [.rows 62 true (.arr 3 tI)], 0⟩), (32, ⟨[(0, (.data false (.sl (.arr 4 tI)))), (3, (.own 0)), (4, (.data true tI)), (5, (.data true tI)), (6, (.data true tI))], [.rows 62 true (.arr 3 tI)], 0⟩)]⟩ Try.f188 s_l4Lines_i s_l4Lines_o x = s_l4Lines n x := by kernel_rfl
noncomputable def s_l4Lines_e (n : Nat) : Ent := ⟨188, s_l4Lines_i, s_l4Lines_o, fun x => s_l4Lines n x⟩
theorem s_l4Lines_ok (n : Nat) : EntOK Try.prog (s_l4Lines_e n) ∧ Own Try.prog 188 := ent_ok tabOK0 (.cons (s_l2Line_ok n) .nil) Try.func188 rfl (by kernel_rfl) (s_l4Lines_ev n)
def s_l4Over_i : CSh := ⟨[(.data false (.pair tI (.pair tI (.sl (.arr 4 tI)))))], []⟩
def s_l4Over_o : RSh := ⟨(.data true .bool), []⟩
theorem s_l4Over_ev (n : Nat) (x : TupT s_l4Over_i.tys) : evF ⟨tab, [s_l4Lines_e n], n, []⟩ Try.f280 s_l4Over_i s_l4Over_o x = s_l4Over n x := by kernel_rfl
noncomputable def s_l4Over_e (n : Nat) : Ent := ⟨280, s_l4Over_i, s_l4Over_o, fun x => s_l4Over n x⟩
theorem s_l4Over_ok (n : Nat) : EntOK Try.prog (s_l4Over_e n) ∧ Own Try.prog 280 := ent_ok tabOK0 (.cons (s_l4Lines_ok n) .nil) Try.func280 rfl (by kernel_rfl) (s_l4Over_ev n)
def s_l1Least_i : CSh := ⟨[(.data true tI), (.data true tI)], []⟩
def s_l1Least_o : RSh := ⟨(.data true tI), []⟩
theorem s_l1Least_ev (n : Nat) (x : TupT s_l1Least_i.tys) : evF ⟨tab, [], n, []⟩ Try.f263 s_l1Least_i s_l1Least_o x = s_l1Least n x.1 x.2 := by kernel_rfl
noncomputable def s_l1Least_e (n : Nat) : Ent := ⟨263, s_l1Least_i, s_l1Least_o, fun x => s_l1Least n x.1 x.2⟩
theorem s_l1Least_ok (n : Nat) : EntOK Try.prog (s_l1Least_e n) ∧ Own Try.prog 263 := ent_ok tabOK0 .nil Try.func263 rfl (by kernel_rfl) (s_l1Least_ev n)
def s_l4Lay_i : CSh := ⟨[(.data false (.pair tI (.pair tI (.sl (.arr 4 tI))))), (.data true tI)], []⟩
def s_l4Lay_o : RSh := ⟨(.pr (.data true tI) (.pr (.data true tI) (.own 0))), [.rows 54 true (.arr 4 tI)]⟩
theorem s_l4Lay_ev (n : Nat) (x : TupT s_l4Lay_i.tys) : evF ⟨tab, [s_l4Pile_e n, s_l1Least_e n, s_l2Own_e n], n, []⟩ Try.f261 s_l4Lay_i s_l4Lay_o x = s_l4Lay n x.1 x.2 := by kernel_rfl
noncomputable def s_l4Lay_e (n : Nat) : Ent := ⟨261, s_l4Lay_i, s_l4Lay_o, fun x => s_l4Lay n x.1 x.2⟩
theorem s_l4Lay_ok (n : Nat) : EntOK Try.prog (s_l4Lay_e n) ∧ Own Try.prog 261 := ent_ok tabOK0 (.cons (s_l4Pile_ok n) (.cons (s_l1Least_ok n) (.cons (s_l2Own_ok n) .nil))) Try.func261 rfl (by kernel_rfl) (s_l4Lay_ev n)
def s_l1Most_i : CSh := ⟨[(.data true tI), (.data true tI)], []⟩
def s_l1Most_o : RSh := ⟨(.data true tI), []⟩
theorem s_l1Most_ev (n : Nat) (x : TupT s_l1Most_i.tys) : evF ⟨tab, [], n, []⟩ Try.f211 s_l1Most_i s_l1Most_o x = s_l1Most n x.1 x.2 := by kernel_rfl
noncomputable def s_l1Most_e (n : Nat) : Ent := ⟨211, s_l1Most_i, s_l1Most_o, fun x => s_l1Most n x.1 x.2⟩
theorem s_l1Most_ok (n : Nat) : EntOK Try.prog (s_l1Most_e n) ∧ Own Try.prog 211 := ent_ok tabOK0 .nil Try.func211 rfl (by kernel_rfl) (s_l1Most_ev n)
def s_l4Take_i : CSh := ⟨[(.data false (.pair tI (.pair tI (.sl (.arr 4 tI))))), (.data true (.arr 3 tI))], []⟩
def s_l4Take_o : RSh := ⟨(.pr (.data true tI) (.pr (.data true tI) (.own 0))), [.rows 54 true (.arr 4 tI)]⟩
theorem s_l4Take_ev (n : Nat) (x : TupT s_l4Take_i.tys) : evF ⟨tab, [s_l1Most_e n, s_l4Lay_e n], n, [(8, ⟨[(2, (.ptr 0 [])), (3, (.ptr 1 [])), (4, (.ptr 2 [])), (5, (.ptr 3 [])), (6, (.data true tI))], [.var 64 (.data false (.pair tI (.pair tI (.sl (.arr 4 tI))))), .var 62 (.data true (.arr 3 tI)), .var 64 (.pr (.data true tI) (.pr (.data true tI) .nil)), .var 64 (.pr (.data true tI) (.pr (.data true tI) (.own 4))), .rows 54 true (.arr 4 tI)], 0⟩)]⟩ Try.f262 s_l4Take_i s_l4Take_o x = s_l4Take n x.1 x.2 := by kernel_rfl
noncomputable def s_l4Take_e (n : Nat) : Ent := ⟨262, s_l4Take_i, s_l4Take_o, fun x => s_l4Take n x.1 x.2⟩
theorem s_l4Take_ok (n : Nat) : EntOK Try.prog (s_l4Take_e n) ∧ Own Try.prog 262 := ent_ok tabOK0 (.cons (s_l1Most_ok n) (.cons (s_l4Lay_ok n) .nil)) Try.func262 rfl (by kernel_rfl) (s_l4Take_ev n)
def s_l4Step_i : CSh := ⟨[(.data false (.pair tI (.pair tI (.sl (.arr 4 tI)))))], []⟩
def s_l4Step_o : RSh := ⟨(.pr (.data true tI) (.pr (.data true tI) (.own 0))), [.rows 54 true (.arr 4 tI)]⟩
theorem s_l4Step_ev (n : Nat) (x : TupT s_l4Step_i.tys) : evF ⟨tab, [s_l4Lines_e n, s_l4Lay_e n, s_l4Take_e n], n, []⟩ Try.f281 s_l4Step_i s_l4Step_o x = s_l4Step n x := by kernel_rfl
noncomputable def s_l4Step_e (n : Nat) : Ent := ⟨281, s_l4Step_i, s_l4Step_o, fun x => s_l4Step n x⟩
theorem s_l4Step_ok (n : Nat) : EntOK Try.prog (s_l4Step_e n) ∧ Own Try.prog 281 := ent_ok tabOK0 (.cons (s_l4Lines_ok n) (.cons (s_l4Lay_ok n) (.cons (s_l4Take_ok n) .nil))) Try.func281 rfl (by kernel_rfl) (s_l4Step_ev n)
def s_Cur_card'p_i : CSh := ⟨[(.ptr 0 [])], [.var 125 (.data true (.pair (.sl (.int .u8)) (.pair tI (.int .u64))))]⟩
def s_Cur_card'p_o : RSh := ⟨(.data true (.arr 4 tI)), [.var 125 (.data true (.pair (.sl (.int .u8)) (.pair tI (.int .u64))))]⟩
theorem s_Cur_card'p_ev (n : Nat) (x : TupT s_Cur_card'p_i.tys) : evF ⟨tab, [s_Cur_pick'p_e n, s_l2At_e n, s_Cur_one'p_e n, s_Cur_among'pl_e n], n, []⟩ Try.f212 s_Cur_card'p_i s_Cur_card'p_o x = s_Cur_card'p n x := by kernel_rfl
noncomputable def s_Cur_card'p_e (n : Nat) : Ent := ⟨212, s_Cur_card'p_i, s_Cur_card'p_o, fun x => s_Cur_card'p n x⟩
theorem s_Cur_card'p_ok (n : Nat) : EntOK Try.prog (s_Cur_card'p_e n) ∧ Own Try.prog 212 := ent_ok tabOK0 (.cons (s_Cur_pick'p_ok n) (.cons (s_l2At_ok n) (.cons (s_Cur_one'p_ok n) (.cons (s_Cur_among'pl_ok n) .nil)))) Try.func212 rfl (by kernel_rfl) (s_Cur_card'p_ev n)
def s_Cur_deal'p_i : CSh := ⟨[(.ptr 0 [])], [.var 125 (.data true (.pair (.sl (.int .u8)) (.pair tI (.int .u64))))]⟩
def s_Cur_deal'p_o : RSh := ⟨(.pr (.data true tI) (.pr (.data true tI) (.own 1))), [.var 125 (.data true (.pair (.sl (.int .u8)) (.pair tI (.int .u64)))), .rows 54 true (.arr 4 tI)]⟩
theorem s_Cur_deal'p_ev (n : Nat) (x : TupT s_Cur_deal'p_i.tys) : evF ⟨tab, [s_Cur_seedOf'p_e n, s_Cur_among'pl_e n, s_NewDeal_e n, s_l4Over_e n, s_l4Step_e n, s_Cur_pick'p_e n, s_Cur_card'p_e n, s_Cur_one'p_e n], n, [(16, ⟨[(0, (.ptr 0 [])), (2, (.ptr 1 [])), (4, (.data true tI)), (5, (.ptr 2 []))], [.var 125 (.data true (.pair (.sl (.int .u8)) (.pair tI (.int .u64)))), .var 64 (.pr (.data true tI) (.pr (.data true tI) .nil)), .var 64 (.pr (.data true tI) (.pr (.data true tI) (.own 3))), .rows 54 true (.arr 4 tI)], 1⟩), (27, ⟨[(0, (.ptr 0 [])), (2, (.ptr 1 [])), (5, (.ptr 2 []))], [.var 125 (.data true (.pair (.sl (.int .u8)) (.pair tI (.int .u64)))), .var 64 (.pr (.data true tI) (.pr (.data true tI) .nil)), .var 64 (.pr (.data true tI) (.pr (.data true tI) (.own 3))), .rows 54 true (.arr 4 tI)], 1⟩)]⟩ Try.f251 s_Cur_deal'p_i s_Cur_deal'p_o x = s_Cur_deal'p n x := by kernel_rfl
noncomputable def s_Cur_deal'p_e (n : Nat) : Ent := ⟨251, s_Cur_deal'p_i, s_Cur_deal'p_o, fun x => s_Cur_deal'p n x⟩
theorem s_Cur_deal'p_ok (n : Nat) : EntOK Try.prog (s_Cur_deal'p_e n) ∧ Own Try.prog 251 := ent_ok tabOK0 (.cons (s_Cur_seedOf'p_ok n) (.cons (s_Cur_among'pl_ok n) (.cons (s_NewDeal_ok n) (.cons (s_l4Over_ok n) (.cons (s_l4Step_ok n) (.cons (s_Cur_pick'p_ok n) (.cons (s_Cur_card'p_ok n) (.cons (s_Cur_one'p_ok n) .nil)))))))) Try.func251 rfl (by kernel_rfl) (s_Cur_deal'p_ev n)
def s_Cur_game'p_i : CSh := ⟨[(.ptr 0 [])], [.var 125 (.data true (.pair (.sl (.int .u8)) (.pair tI (.int .u64))))]⟩
def s_Cur_game'p_o : RSh := ⟨(.pr (.pr (.data true tI) (.pr (.data true tI) (.own 1))) (.pr (.own 2) (.own 3))), [.var 125 (.data true (.pair (.sl (.int .u8)) (.pair tI (.int .u64)))), .rows 54 true (.arr 4 tI), .rows 3 true tI, .rows 3 true tI]⟩
theorem s_Cur_game'p_ev (n : Nat) (x : TupT s_Cur_game'p_i.tys) : evF ⟨tab, [s_Cur_deal'p_e n, s_Cur_among'pl_e n, s_Cur_pick'p_e n, s_Cur_one'p_e n], n, [(8, ⟨[(0, (.ptr 0 [])), (2, (.ptr 1 [])), (3, (.ptr 2 [])), (4, (.ptr 3 [])), (5, (.data true tI))], [.var 125 (.data true (.pair (.sl (.int .u8)) (.pair tI (.int .u64)))), .var 66 (.pr (.pr (.data true tI) (.pr (.data true tI) .nil)) (.pr .nil .nil)), .var 64 (.pr (.data true tI) (.pr (.data true tI) (.own 4))), .var 66 (.pr (.pr (.data true tI) (.pr (.data true tI) .nil)) (.pr (.own 5) (.own 6))), .rows 54 true (.arr 4 tI), .rows 3 true tI, .rows 3 true tI], 1⟩), (6000025, ⟨[(0, (.ptr 0 [])), (2, (.ptr 1 [])), (4, (.ptr 2 [])), (43, (.data true .bool))], [.var 125 (.data true (.pair (.sl (.int .u8)) (.pair tI (.int .u64)))), .var 66 (.pr (.pr (.data true tI) (.pr (.data true tI) .nil)) (.pr .nil .nil)), .var 66 (.pr (.pr (.data true tI) (.pr (.data true tI) (.own 3))) (.pr (.own 4) (.own 5))), .rows 54 true (.arr 4 tI), .rows 3 true tI, .rows 3 true tI], 1⟩)]⟩ Try.f185 s_Cur_game'p_i s_Cur_game'p_o x = s_Cur_game'p n x := by kernel_rfl
noncomputable def s_Cur_game'p_e (n : Nat) : Ent := ⟨185, s_Cur_game'p_i, s_Cur_game'p_o, fun x => s_Cur_game'p n x⟩
theorem s_Cur_game'p_ok (n : Nat) : EntOK Try.prog (s_Cur_game'p_e n) ∧ Own Try.prog 185 := ent_ok tabOK0 (.cons (s_Cur_deal'p_ok n) (.cons (s_Cur_among'pl_ok n) (.cons (s_Cur_pick'p_ok n) (.cons (s_Cur_one'p_ok n) .nil)))) Try.func185 rfl (by kernel_rfl) (s_Cur_game'p_ev n)
def s_l2Place_i : CSh := ⟨[(.data false (.sl (.arr 4 tI))), (.data true (.arr 4 tI))], []⟩
def s_l2Place_o : RSh := ⟨(.data true tI), []⟩
theorem s_l2Place_ev (n : Nat) (x : TupT s_l2Place_i.tys) : evF ⟨tab, [], n, [(6, ⟨[(0, (.data false (.sl (.arr 4 tI)))), (3, (.ptr 0 [])), (5, (.data true tI))], [.var 54 (.data true (.arr 4 tI))], 0⟩)]⟩ Try.f227 s_l2Place_i s_l2Place_o x = s_l2Place n x.1 x.2 := by kernel_rfl
noncomputable def s_l2Place_e (n : Nat) : Ent := ⟨227, s_l2Place_i, s_l2Place_o, fun x => s_l2Place n x.1 x.2⟩
theorem s_l2Place_ok (n : Nat) : EntOK Try.prog (s_l2Place_e n) ∧ Own Try.prog 227 := ent_ok tabOK0 .nil Try.func227 rfl (by kernel_rfl) (s_l2Place_ev n)
def s_l2Has_i : CSh := ⟨[(.data false (.sl (.arr 4 tI))), (.data true (.arr 4 tI))], []⟩
def s_l2Has_o : RSh := ⟨(.data true .bool), []⟩
theorem s_l2Has_ev (n : Nat) (x : TupT s_l2Has_i.tys) : evF ⟨tab, [s_l2Place_e n], n, []⟩ Try.f224 s_l2Has_i s_l2Has_o x = s_l2Has n x.1 x.2 := by kernel_rfl
noncomputable def s_l2Has_e (n : Nat) : Ent := ⟨224, s_l2Has_i, s_l2Has_o, fun x => s_l2Has n x.1 x.2⟩
theorem s_l2Has_ok (n : Nat) : EntOK Try.prog (s_l2Has_e n) ∧ Own Try.prog 224 := ent_ok tabOK0 (.cons (s_l2Place_ok n) .nil) Try.func224 rfl (by kernel_rfl) (s_l2Has_ev n)
def s_l4Deal_i : CSh := ⟨[(.data false (.pair tI (.pair tI (.sl (.arr 4 tI)))))], []⟩
def s_l4Deal_o : RSh := ⟨(.data true .bool), []⟩
theorem s_l4Deal_ev (n : Nat) (x : TupT s_l4Deal_i.tys) : evF ⟨tab, [s_l4Seed_e n, s_l1In_e n, s_l4Pile_e n, s_l2Has_e n], n, [(16, ⟨[(1, (.ptr 0 [])), (3, (.ownp 1)), (4, (.data true tI))], [.var 64 (.data false (.pair tI (.pair tI (.sl (.arr 4 tI))))), .rows 54 true (.arr 4 tI)], 0⟩)]⟩ Try.f187 s_l4Deal_i s_l4Deal_o x = s_l4Deal n x := by kernel_rfl
noncomputable def s_l4Deal_e (n : Nat) : Ent := ⟨187, s_l4Deal_i, s_l4Deal_o, fun x => s_l4Deal n x⟩
theorem s_l4Deal_ok (n : Nat) : EntOK Try.prog (s_l4Deal_e n) ∧ Own Try.prog 187 := ent_ok tabOK0 (.cons (s_l4Seed_ok n) (.cons (s_l1In_ok n) (.cons (s_l4Pile_ok n) (.cons (s_l2Has_ok n) .nil)))) Try.func187 rfl (by kernel_rfl) (s_l4Deal_ev n)
def s_Cur_lineOf'pl_i : CSh := ⟨[(.ptr 0 []), (.data false (.pair tI (.pair tI (.sl (.arr 4 tI)))))], [.var 125 (.data true (.pair (.sl (.int .u8)) (.pair tI (.int .u64))))]⟩
def s_Cur_lineOf'pl_o : RSh := ⟨(.data true (.arr 3 tI)), [.var 125 (.data true (.pair (.sl (.int .u8)) (.pair tI (.int .u64))))]⟩
theorem s_Cur_lineOf'pl_ev (n : Nat) (x : TupT s_Cur_lineOf'pl_i.tys) : evF ⟨tab, [s_l4Lines_e n, s_l4Deal_e n, s_Cur_pick'p_e n, s_Cur_one'p_e n], n, [(4000006, ⟨[(0, (.ptr 0 [])), (4, (.ptr 1 [])), (5, (.own 2)), (16, (.data true .bool))], [.var 125 (.data true (.pair (.sl (.int .u8)) (.pair tI (.int .u64)))), .var 62 (.data true (.arr 3 tI)), .rows 62 true (.arr 3 tI)], 1⟩), (9000006, ⟨[(0, (.ptr 0 [])), (4, (.ptr 1 [])), (5, (.own 2)), (21, (.data true .bool))], [.var 125 (.data true (.pair (.sl (.int .u8)) (.pair tI (.int .u64)))), .var 62 (.data true (.arr 3 tI)), .rows 62 true (.arr 3 tI)], 1⟩)]⟩ Try.f254 s_Cur_lineOf'pl_i s_Cur_lineOf'pl_o x = s_Cur_lineOf'pl n x.1 x.2 := by kernel_rfl
noncomputable def s_Cur_lineOf'pl_e (n : Nat) : Ent := ⟨254, s_Cur_lineOf'pl_i, s_Cur_lineOf'pl_o, fun x => s_Cur_lineOf'pl n x.1 x.2⟩
theorem s_Cur_lineOf'pl_ok (n : Nat) : EntOK Try.prog (s_Cur_lineOf'pl_e n) ∧ Own Try.prog 254 := ent_ok tabOK0 (.cons (s_l4Lines_ok n) (.cons (s_l4Deal_ok n) (.cons (s_Cur_pick'p_ok n) (.cons (s_Cur_one'p_ok n) .nil)))) Try.func254 rfl (by kernel_rfl) (s_Cur_lineOf'pl_ev n)
def s_Cur_claim'pl_i : CSh := ⟨[(.ptr 0 []), (.data false (.pair (.pair tI (.pair tI (.sl (.arr 4 tI)))) (.pair (.sl tI) (.sl tI))))], [.var 125 (.data true (.pair (.sl (.int .u8)) (.pair tI (.int .u64))))]⟩
def s_Cur_claim'pl_o : RSh := ⟨(.data true (.pair tI (.arr 3 tI))), [.var 125 (.data true (.pair (.sl (.int .u8)) (.pair tI (.int .u64))))]⟩
theorem s_Cur_claim'pl_ev (n : Nat) (x : TupT s_Cur_claim'pl_i.tys) : evF ⟨tab, [s_l1Most_e n, s_Cur_pick'p_e n, s_Cur_lineOf'pl_e n], n, []⟩ Try.f189 s_Cur_claim'pl_i s_Cur_claim'pl_o x = s_Cur_claim'pl n x.1 x.2 := by kernel_rfl
noncomputable def s_Cur_claim'pl_e (n : Nat) : Ent := ⟨189, s_Cur_claim'pl_i, s_Cur_claim'pl_o, fun x => s_Cur_claim'pl n x.1 x.2⟩
theorem s_Cur_claim'pl_ok (n : Nat) : EntOK Try.prog (s_Cur_claim'pl_e n) ∧ Own Try.prog 189 := ent_ok tabOK0 (.cons (s_l1Most_ok n) (.cons (s_Cur_pick'p_ok n) (.cons (s_Cur_lineOf'pl_ok n) .nil))) Try.func189 rfl (by kernel_rfl) (s_Cur_claim'pl_ev n)
def s_l2Drop_i : CSh := ⟨[(.data false (.sl (.arr 4 tI))), (.data true tI)], []⟩
def s_l2Drop_o : RSh := ⟨(.own 0), [.rows 54 true (.arr 4 tI)]⟩
theorem s_l2Drop_ev (n : Nat) (x : TupT s_l2Drop_i.tys) : evF ⟨tab, [s_l2Own_e n], n, []⟩ Try.f150 s_l2Drop_i s_l2Drop_o x = s_l2Drop n x.1 x.2 := by kernel_rfl
noncomputable def s_l2Drop_e (n : Nat) : Ent := ⟨150, s_l2Drop_i, s_l2Drop_o, fun x => s_l2Drop n x.1 x.2⟩
theorem s_l2Drop_ok (n : Nat) : EntOK Try.prog (s_l2Drop_e n) ∧ Own Try.prog 150 := ent_ok tabOK0 (.cons (s_l2Own_ok n) .nil) Try.func150 rfl (by kernel_rfl) (s_l2Drop_ev n)
def s_DrawMakeClaim_i : CSh := ⟨[(.data false (.sl (.int .u8)))], []⟩
def s_DrawMakeClaim_o : RSh := ⟨(.tcons (.pr (.pr (.data true tI) (.pr (.data true tI) (.own 0))) (.pr (.own 1) (.own 2))) (.tcons (.data true (.pair tI (.arr 3 tI))) .tnil)), [.rows 54 true (.arr 4 tI), .rows 3 true tI, .rows 3 true tI]⟩
theorem s_DrawMakeClaim_ev (n : Nat) (x : TupT s_DrawMakeClaim_i.tys) : evF ⟨tab, [s_Cur_game'p_e n, s_Cur_claim'pl_e n, s_Cur_one'p_e n, s_l4Deal_e n, s_l4Lines_e n, s_l2Drop_e n], n, [(6, ⟨[(2, (.ptr 0 [])), (3, (.ptr 1 [])), (4, (.ptr 2 [])), (5, (.ptr 3 []))], [.var 66 (.pr (.pr (.data true tI) (.pr (.data true tI) .nil)) (.pr .nil .nil)), .var 77 (.data true (.pair tI (.arr 3 tI))), .var 125 (.data false (.pair (.sl (.int .u8)) (.pair tI (.int .u64)))), .var 66 (.pr (.pr (.data true tI) (.pr (.data true tI) (.own 4))) (.pr (.own 5) (.own 6))), .rows 54 true (.arr 4 tI), .rows 3 true tI, .rows 3 true tI], 0⟩), (13, ⟨[(2, (.ptr 0 [])), (3, (.ptr 1 [])), (4, (.ptr 2 [])), (5, (.ptr 3 [])), (6, (.own 4))], [.var 66 (.pr (.pr (.data true tI) (.pr (.data true tI) .nil)) (.pr .nil .nil)), .var 77 (.data true (.pair tI (.arr 3 tI))), .var 125 (.data false (.pair (.sl (.int .u8)) (.pair tI (.int .u64)))), .var 66 (.pr (.pr (.data true tI) (.pr (.data true tI) (.own 5))) (.pr (.own 6) (.own 7))), .rows 62 true (.arr 3 tI), .rows 54 true (.arr 4 tI), .rows 3 true tI, .rows 3 true tI], 0⟩)]⟩ Try.f68 s_DrawMakeClaim_i s_DrawMakeClaim_o x = s_DrawMakeClaim n x := by kernel_rfl
noncomputable def s_DrawMakeClaim_e (n : Nat) : Ent := ⟨68, s_DrawMakeClaim_i, s_DrawMakeClaim_o, fun x => s_DrawMakeClaim n x⟩
theorem s_DrawMakeClaim_ok (n : Nat) : EntOK Try.prog (s_DrawMakeClaim_e n) ∧ Own Try.prog 68 := ent_ok tabOK0 (.cons (s_Cur_game'p_ok n) (.cons (s_Cur_claim'pl_ok n) (.cons (s_Cur_one'p_ok n) (.cons (s_l4Deal_ok n) (.cons (s_l4Lines_ok n) (.cons (s_l2Drop_ok n) .nil)))))) Try.func68 rfl (by kernel_rfl) (s_DrawMakeClaim_ev n)
def i_within_i : CSh := ⟨[(.data true tI), (.data true tI), (.data true tI)], []⟩
def i_within_o : RSh := ⟨(.data true .bool), []⟩
theorem i_within_ev (n : Nat) (x : TupT i_within_i.tys) : evF ⟨tab, [], n, []⟩ Try.f133 i_within_i i_within_o x = i_within n x.1 x.2.1 x.2.2 := by kernel_rfl
noncomputable def i_within_e (n : Nat) : Ent := ⟨133, i_within_i, i_within_o, fun x => i_within n x.1 x.2.1 x.2.2⟩
theorem i_within_ok (n : Nat) : EntOK Try.prog (i_within_e n) ∧ Own Try.prog 133 := ent_ok tabOK0 .nil Try.func133 rfl (by kernel_rfl) (i_within_ev n)
def i_allWithin_1'pp_i : CSh := ⟨[(.data true tI), (.ptr 0 []), (.ptr 1 [])], [.var 3 (.data true tI), .var 3 (.data true tI)]⟩
def i_allWithin_1'pp_o : RSh := ⟨(.data true .bool), [.var 3 (.data true tI), .var 3 (.data true tI)]⟩
theorem i_allWithin_1'pp_ev (n : Nat) (x : TupT i_allWithin_1'pp_i.tys) : evF ⟨tab, [i_within_e n], n, []⟩ Try.f250 i_allWithin_1'pp_i i_allWithin_1'pp_o x = i_allWithin_1'pp n x.1 x.2.1 x.2.2 := by kernel_rfl
noncomputable def i_allWithin_1'pp_e (n : Nat) : Ent := ⟨250, i_allWithin_1'pp_i, i_allWithin_1'pp_o, fun x => i_allWithin_1'pp n x.1 x.2.1 x.2.2⟩
theorem i_allWithin_1'pp_ok (n : Nat) : EntOK Try.prog (i_allWithin_1'pp_e n) ∧ Own Try.prog 250 := ent_ok tabOK0 (.cons (i_within_ok n) .nil) Try.func250 rfl (by kernel_rfl) (i_allWithin_1'pp_ev n)
def slices_IndexFunc_Sint_int_'l_i_allWithin_1pp_i : CSh := ⟨[(.data false (.sl tI)), (.clo 250 (.tcons (.ptr 0 []) (.tcons (.ptr 1 []) .tnil)))], [.var 3 (.data true tI), .var 3 (.data true tI)]⟩
def slices_IndexFunc_Sint_int_'l_i_allWithin_1pp_o : RSh := ⟨(.data true tI), [.var 3 (.data true tI), .var 3 (.data true tI)]⟩
theorem slices_IndexFunc_Sint_int_'l_i_allWithin_1pp_ev (n : Nat) (x : TupT slices_IndexFunc_Sint_int_'l_i_allWithin_1pp_i.tys) : evF ⟨tab, [i_allWithin_1'pp_e n], n, [(6, ⟨[(0, (.data false (.sl tI))), (1, (.clo 250 (.tcons (.ptr 0 []) (.tcons (.ptr 1 []) .tnil)))), (7, (.data true tI)), (8, (.data true tI))], [.var 3 (.data true tI), .var 3 (.data true tI)], 2⟩)]⟩ Try.f279 slices_IndexFunc_Sint_int_'l_i_allWithin_1pp_i slices_IndexFunc_Sint_int_'l_i_allWithin_1pp_o x = slices_IndexFunc_Sint_int_'l_i_allWithin_1pp n x.1 x.2.1 x.2.2 := by kernel_rfl
noncomputable def slices_IndexFunc_Sint_int_'l_i_allWithin_1pp_e (n : Nat) : Ent := ⟨279, slices_IndexFunc_Sint_int_'l_i_allWithin_1pp_i, slices_IndexFunc_Sint_int_'l_i_allWithin_1pp_o, fun x => slices_IndexFunc_Sint_int_'l_i_allWithin_1pp n x.1 x.2.1 x.2.2⟩
theorem slices_IndexFunc_Sint_int_'l_i_allWithin_1pp_ok (n : Nat) : EntOK Try.prog (slices_IndexFunc_Sint_int_'l_i_allWithin_1pp_e n) ∧ Own Try.prog 279 := ent_ok tabOK0 (.cons (i_allWithin_1'pp_ok n) .nil) Try.func279 rfl (by kernel_rfl) (slices_IndexFunc_Sint_int_'l_i_allWithin_1pp_ev n)
def slices_ContainsFunc_Sint_int_'l_i_allWithin_1pp_i : CSh := ⟨[(.data false (.sl tI)), (.clo 250 (.tcons (.ptr 0 []) (.tcons (.ptr 1 []) .tnil)))], [.var 3 (.data true tI), .var 3 (.data true tI)]⟩
def slices_ContainsFunc_Sint_int_'l_i_allWithin_1pp_o : RSh := ⟨(.data true .bool), [.var 3 (.data true tI), .var 3 (.data true tI)]⟩
theorem slices_ContainsFunc_Sint_int_'l_i_allWithin_1pp_ev (n : Nat) (x : TupT slices_ContainsFunc_Sint_int_'l_i_allWithin_1pp_i.tys) : evF ⟨tab, [slices_IndexFunc_Sint_int_'l_i_allWithin_1pp_e n], n, []⟩ Try.f249 slices_ContainsFunc_Sint_int_'l_i_allWithin_1pp_i slices_ContainsFunc_Sint_int_'l_i_allWithin_1pp_o x = slices_ContainsFunc_Sint_int_'l_i_allWithin_1pp n x.1 x.2.1 x.2.2 := by kernel_rfl
noncomputable def slices_ContainsFunc_Sint_int_'l_i_allWithin_1pp_e (n : Nat) : Ent := ⟨249, slices_ContainsFunc_Sint_int_'l_i_allWithin_1pp_i, slices_ContainsFunc_Sint_int_'l_i_allWithin_1pp_o, fun x => slices_ContainsFunc_Sint_int_'l_i_allWithin_1pp n x.1 x.2.1 x.2.2⟩
theorem slices_ContainsFunc_Sint_int_'l_i_allWithin_1pp_ok (n : Nat) : EntOK Try.prog (slices_ContainsFunc_Sint_int_'l_i_allWithin_1pp_e n) ∧ Own Try.prog 249 := ent_ok tabOK0 (.cons (slices_IndexFunc_Sint_int_'l_i_allWithin_1pp_ok n) .nil) Try.func249 rfl (by kernel_rfl) (slices_ContainsFunc_Sint_int_'l_i_allWithin_1pp_ev n)
def i_allWithin_i : CSh := ⟨[(.data false (.sl tI)), (.data true tI), (.data true tI)], []⟩
def i_allWithin_o : RSh := ⟨(.data true .bool), []⟩
theorem i_allWithin_ev (n : Nat) (x : TupT i_allWithin_i.tys) : evF ⟨tab, [slices_ContainsFunc_Sint_int_'l_i_allWithin_1pp_e n], n, []⟩ Try.f179 i_allWithin_i i_allWithin_o x = i_allWithin n x.1 x.2.1 x.2.2 := by kernel_rfl
noncomputable def i_allWithin_e (n : Nat) : Ent := ⟨179, i_allWithin_i, i_allWithin_o, fun x => i_allWithin n x.1 x.2.1 x.2.2⟩
theorem i_allWithin_ok (n : Nat) : EntOK Try.prog (i_allWithin_e n) ∧ Own Try.prog 179 := ent_ok tabOK0 (.cons (slices_ContainsFunc_Sint_int_'l_i_allWithin_1pp_ok n) .nil) Try.func179 rfl (by kernel_rfl) (i_allWithin_ev n)
def i_isSeed_i : CSh := ⟨[(.data true tI)], []⟩
def i_isSeed_o : RSh := ⟨(.data true .bool), []⟩
theorem i_isSeed_ev (n : Nat) (x : TupT i_isSeed_i.tys) : evF ⟨tab, [i_within_e n], n, []⟩ Try.f202 i_isSeed_i i_isSeed_o x = i_isSeed n x := by kernel_rfl
noncomputable def i_isSeed_e (n : Nat) : Ent := ⟨202, i_isSeed_i, i_isSeed_o, fun x => i_isSeed n x⟩
theorem i_isSeed_ok (n : Nat) : EntOK Try.prog (i_isSeed_e n) ∧ Own Try.prog 202 := ent_ok tabOK0 (.cons (i_within_ok n) .nil) Try.func202 rfl (by kernel_rfl) (i_isSeed_ev n)
def i_card_i : CSh := ⟨[(.data true tI)], []⟩
def i_card_o : RSh := ⟨(.data true (.arr 4 tI)), []⟩
theorem i_card_ev (n : Nat) (x : TupT i_card_i.tys) : evF ⟨tab, [], n, []⟩ Try.f229 i_card_i i_card_o x = i_card n x := by kernel_rfl
noncomputable def i_card_e (n : Nat) : Ent := ⟨229, i_card_i, i_card_o, fun x => i_card n x⟩
theorem i_card_ok (n : Nat) : EntOK Try.prog (i_card_e n) ∧ Own Try.prog 229 := ent_ok tabOK0 .nil Try.func229 rfl (by kernel_rfl) (i_card_ev n)
def i_behind_i : CSh := ⟨[(.data true tI)], []⟩
def i_behind_o : RSh := ⟨(.data true tI), []⟩
theorem i_behind_ev (n : Nat) (x : TupT i_behind_i.tys) : evF ⟨tab, [], n, []⟩ Try.f265 i_behind_i i_behind_o x = i_behind n x := by kernel_rfl
noncomputable def i_behind_e (n : Nat) : Ent := ⟨265, i_behind_i, i_behind_o, fun x => i_behind n x⟩
theorem i_behind_ok (n : Nat) : EntOK Try.prog (i_behind_e n) ∧ Own Try.prog 265 := ent_ok tabOK0 .nil Try.func265 rfl (by kernel_rfl) (i_behind_ev n)
def i_pile_i : CSh := ⟨[(.data true tI)], []⟩
def i_pile_o : RSh := ⟨(.own 0), [.rows 54 true (.arr 4 tI)]⟩
theorem i_pile_ev (n : Nat) (x : TupT i_pile_i.tys) : evF ⟨tab, [i_card_e n, i_behind_e n], n, [(8, ⟨[(0, (.data true tI)), (3, (.own 0)), (8, (.data true tI))], [.rows 54 true (.arr 4 tI)], 0⟩), (25, ⟨[(0, (.data true tI)), (3, (.own 0)), (5, (.data true tI))], [.rows 54 true (.arr 4 tI)], 0⟩)]⟩ Try.f205 i_pile_i i_pile_o x = i_pile n x := by kernel_rfl
noncomputable def i_pile_e (n : Nat) : Ent := ⟨205, i_pile_i, i_pile_o, fun x => i_pile n x⟩
theorem i_pile_ok (n : Nat) : EntOK Try.prog (i_pile_e n) ∧ Own Try.prog 205 := ent_ok tabOK0 (.cons (i_card_ok n) (.cons (i_behind_ok n) .nil)) Try.func205 rfl (by kernel_rfl) (i_pile_ev n)
def slices_Index_SA4_A4__i : CSh := ⟨[(.data false (.sl (.arr 4 tI))), (.data true (.arr 4 tI))], []⟩
def slices_Index_SA4_A4__o : RSh := ⟨(.data true tI), []⟩
theorem slices_Index_SA4_A4__ev (n : Nat) (x : TupT slices_Index_SA4_A4__i.tys) : evF ⟨tab, [], n, [(6, ⟨[(0, (.data false (.sl (.arr 4 tI)))), (3, (.ptr 0 [])), (7, (.data true tI)), (8, (.data true tI))], [.var 54 (.data true (.arr 4 tI))], 0⟩)]⟩ Try.f287 slices_Index_SA4_A4__i slices_Index_SA4_A4__o x = slices_Index_SA4_A4_ n x.1 x.2 := by kernel_rfl
noncomputable def slices_Index_SA4_A4__e (n : Nat) : Ent := ⟨287, slices_Index_SA4_A4__i, slices_Index_SA4_A4__o, fun x => slices_Index_SA4_A4_ n x.1 x.2⟩
theorem slices_Index_SA4_A4__ok (n : Nat) : EntOK Try.prog (slices_Index_SA4_A4__e n) ∧ Own Try.prog 287 := ent_ok tabOK0 .nil Try.func287 rfl (by kernel_rfl) (slices_Index_SA4_A4__ev n)
def slices_Contains_SA4_A4__i : CSh := ⟨[(.data false (.sl (.arr 4 tI))), (.data true (.arr 4 tI))], []⟩
def slices_Contains_SA4_A4__o : RSh := ⟨(.data true .bool), []⟩
theorem slices_Contains_SA4_A4__ev (n : Nat) (x : TupT slices_Contains_SA4_A4__i.tys) : evF ⟨tab, [slices_Index_SA4_A4__e n], n, []⟩ Try.f270 slices_Contains_SA4_A4__i slices_Contains_SA4_A4__o x = slices_Contains_SA4_A4_ n x.1 x.2 := by kernel_rfl
noncomputable def slices_Contains_SA4_A4__e (n : Nat) : Ent := ⟨270, slices_Contains_SA4_A4__i, slices_Contains_SA4_A4__o, fun x => slices_Contains_SA4_A4_ n x.1 x.2⟩
theorem slices_Contains_SA4_A4__ok (n : Nat) : EntOK Try.prog (slices_Contains_SA4_A4__e n) ∧ Own Try.prog 270 := ent_ok tabOK0 (.cons (slices_Index_SA4_A4__ok n) .nil) Try.func270 rfl (by kernel_rfl) (slices_Contains_SA4_A4__ev n)
def i_has_i : CSh := ⟨[(.data false (.sl (.arr 4 tI))), (.data true (.arr 4 tI))], []⟩
def i_has_o : RSh := ⟨(.data true .bool), []⟩
theorem i_has_ev (n : Nat) (x : TupT i_has_i.tys) : evF ⟨tab, [slices_Contains_SA4_A4__e n], n, []⟩ Try.f230 i_has_i i_has_o x = i_has n x.1 x.2 := by kernel_rfl
noncomputable def i_has_e (n : Nat) : Ent := ⟨230, i_has_i, i_has_o, fun x => i_has n x.1 x.2⟩
theorem i_has_ok (n : Nat) : EntOK Try.prog (i_has_e n) ∧ Own Try.prog 230 := ent_ok tabOK0 (.cons (slices_Contains_SA4_A4__ok n) .nil) Try.func230 rfl (by kernel_rfl) (i_has_ev n)
def i_IsDeal_i : CSh := ⟨[(.data false (.pair tI (.pair tI (.sl (.arr 4 tI)))))], []⟩
def i_IsDeal_o : RSh := ⟨(.data true .bool), []⟩
theorem i_IsDeal_ev (n : Nat) (x : TupT i_IsDeal_i.tys) : evF ⟨tab, [i_isSeed_e n, i_within_e n, i_pile_e n, i_has_e n], n, [(16, ⟨[(1, (.ptr 0 [])), (3, (.ownp 1)), (31, (.data false (.sl (.arr 4 tI)))), (32, (.data true tI)), (33, (.data true tI))], [.var 64 (.data false (.pair tI (.pair tI (.sl (.arr 4 tI))))), .rows 54 true (.arr 4 tI)], 0⟩)]⟩ Try.f180 i_IsDeal_i i_IsDeal_o x = i_IsDeal n x := by kernel_rfl
noncomputable def i_IsDeal_e (n : Nat) : Ent := ⟨180, i_IsDeal_i, i_IsDeal_o, fun x => i_IsDeal n x⟩
theorem i_IsDeal_ok (n : Nat) : EntOK Try.prog (i_IsDeal_e n) ∧ Own Try.prog 180 := ent_ok tabOK0 (.cons (i_isSeed_ok n) (.cons (i_within_ok n) (.cons (i_pile_ok n) (.cons (i_has_ok n) .nil)))) Try.func180 rfl (by kernel_rfl) (i_IsDeal_ev n)
def i_IsGame_i : CSh := ⟨[(.data false (.pair (.pair tI (.pair tI (.sl (.arr 4 tI)))) (.pair (.sl tI) (.sl tI))))], []⟩
def i_IsGame_o : RSh := ⟨(.data true .bool), []⟩
theorem i_IsGame_ev (n : Nat) (x : TupT i_IsGame_i.tys) : evF ⟨tab, [i_within_e n, i_allWithin_e n, i_IsDeal_e n], n, []⟩ Try.f56 i_IsGame_i i_IsGame_o x = i_IsGame n x := by kernel_rfl
noncomputable def i_IsGame_e (n : Nat) : Ent := ⟨56, i_IsGame_i, i_IsGame_o, fun x => i_IsGame n x⟩
theorem i_IsGame_ok (n : Nat) : EntOK Try.prog (i_IsGame_e n) ∧ Own Try.prog 56 := ent_ok tabOK0 (.cons (i_within_ok n) (.cons (i_allWithin_ok n) (.cons (i_IsDeal_ok n) .nil))) Try.func56 rfl (by kernel_rfl) (i_IsGame_ev n)
def slices_Clone_SA4_A4__i : CSh := ⟨[(.data false (.sl (.arr 4 tI)))], []⟩
def slices_Clone_SA4_A4__o : RSh := ⟨(.own 0), [.rows 54 true (.arr 4 tI)]⟩
theorem slices_Clone_SA4_A4__ev (n : Nat) (x : TupT slices_Clone_SA4_A4__i.tys) : evF ⟨tab, [], n, []⟩ Try.f255 slices_Clone_SA4_A4__i slices_Clone_SA4_A4__o x = slices_Clone_SA4_A4_ n x := by kernel_rfl
noncomputable def slices_Clone_SA4_A4__e (n : Nat) : Ent := ⟨255, slices_Clone_SA4_A4__i, slices_Clone_SA4_A4__o, fun x => slices_Clone_SA4_A4_ n x⟩
theorem slices_Clone_SA4_A4__ok (n : Nat) : EntOK Try.prog (slices_Clone_SA4_A4__e n) ∧ Own Try.prog 255 := ent_ok tabOK0 .nil Try.func255 rfl (by kernel_rfl) (slices_Clone_SA4_A4__ev n)
def slices_Clone_Sint_int__i : CSh := ⟨[(.data false (.sl tI))], []⟩
def slices_Clone_Sint_int__o : RSh := ⟨(.own 0), [.rows 3 true tI]⟩
theorem slices_Clone_Sint_int__ev (n : Nat) (x : TupT slices_Clone_Sint_int__i.tys) : evF ⟨tab, [], n, []⟩ Try.f256 slices_Clone_Sint_int__i slices_Clone_Sint_int__o x = slices_Clone_Sint_int_ n x := by kernel_rfl
noncomputable def slices_Clone_Sint_int__e (n : Nat) : Ent := ⟨256, slices_Clone_Sint_int__i, slices_Clone_Sint_int__o, fun x => slices_Clone_Sint_int_ n x⟩
theorem slices_Clone_Sint_int__ok (n : Nat) : EntOK Try.prog (slices_Clone_Sint_int__e n) ∧ Own Try.prog 256 := ent_ok tabOK0 .nil Try.func256 rfl (by kernel_rfl) (slices_Clone_Sint_int__ev n)
def _impl_Game__own_i : CSh := ⟨[(.data false (.pair (.pair tI (.pair tI (.sl (.arr 4 tI)))) (.pair (.sl tI) (.sl tI))))], []⟩
def _impl_Game__own_o : RSh := ⟨(.pr (.pr (.data true tI) (.pr (.data true tI) (.own 0))) (.pr (.own 1) (.own 2))), [.rows 54 true (.arr 4 tI), .rows 3 true tI, .rows 3 true tI]⟩
theorem _impl_Game__own_ev (n : Nat) (x : TupT _impl_Game__own_i.tys) : evF ⟨tab, [slices_Clone_SA4_A4__e n, slices_Clone_Sint_int__e n], n, []⟩ Try.f190 _impl_Game__own_i _impl_Game__own_o x = _impl_Game__own n x := by kernel_rfl
noncomputable def _impl_Game__own_e (n : Nat) : Ent := ⟨190, _impl_Game__own_i, _impl_Game__own_o, fun x => _impl_Game__own n x⟩
theorem _impl_Game__own_ok (n : Nat) : EntOK Try.prog (_impl_Game__own_e n) ∧ Own Try.prog 190 := ent_ok tabOK0 (.cons (slices_Clone_SA4_A4__ok n) (.cons (slices_Clone_Sint_int__ok n) .nil)) Try.func190 rfl (by kernel_rfl) (_impl_Game__own_ev n)
def i_number_i : CSh := ⟨[(.data true (.arr 4 tI))], []⟩
def i_number_o : RSh := ⟨(.data true tI), []⟩
theorem i_number_ev (n : Nat) (x : TupT i_number_i.tys) : evF ⟨tab, [], n, [(8, ⟨[(3, (.data true tI)), (6, (.data true (.arr 4 tI))), (7, (.data true tI))], [], 0⟩)]⟩ Try.f155 i_number_i i_number_o x = i_number n x := by kernel_rfl
noncomputable def i_number_e (n : Nat) : Ent := ⟨155, i_number_i, i_number_o, fun x => i_number n x⟩
theorem i_number_ok (n : Nat) : EntOK Try.prog (i_number_e n) ∧ Own Try.prog 155 := ent_ok tabOK0 .nil Try.func155 rfl (by kernel_rfl) (i_number_ev n)
def i_third_i : CSh := ⟨[(.data true (.arr 4 tI)), (.data true (.arr 4 tI))], []⟩
def i_third_o : RSh := ⟨(.data true (.arr 4 tI)), []⟩
theorem i_third_ev (n : Nat) (x : TupT i_third_i.tys) : evF ⟨tab, [], n, [(8, ⟨[(2, (.ptr 0 [])), (3, (.ptr 1 [])), (4, (.ptr 2 [])), (5, (.ptr 3 [])), (8, (.data true tI))], [.var 54 (.data true (.arr 4 tI)), .var 54 (.data true (.arr 4 tI)), .var 54 (.data true (.arr 4 tI)), .var 54 (.data true (.arr 4 tI))], 0⟩)]⟩ Try.f166 i_third_i i_third_o x = i_third n x.1 x.2 := by kernel_rfl
noncomputable def i_third_e (n : Nat) : Ent := ⟨166, i_third_i, i_third_o, fun x => i_third n x.1 x.2⟩
theorem i_third_ok (n : Nat) : EntOK Try.prog (i_third_e n) ∧ Own Try.prog 166 := ent_ok tabOK0 .nil Try.func166 rfl (by kernel_rfl) (i_third_ev n)
def i_linesIn_i : CSh := ⟨[(.data false (.sl (.arr 4 tI)))], []⟩
def i_linesIn_o : RSh := ⟨(.own 0), [.rows 62 true (.arr 3 tI)]⟩
theorem i_linesIn_ev (n : Nat) (x : TupT i_linesIn_i.tys) : evF ⟨tab, [i_number_e n, i_third_e n], n, [(8, ⟨[(0, (.data false (.sl (.arr 4 tI)))), (3, (.ptr 0 [])), (12, (.data false (.sl (.arr 4 tI)))), (13, (.data true tI)), (14, (.data true tI))], [.var 187 (.data true (.arr 81 tI))], 0⟩), (27, ⟨[(0, (.data false (.sl (.arr 4 tI)))), (3, (.ptr 0 [])), (6, (.own 1)), (26, (.data false (.sl (.arr 4 tI)))), (27, (.data true tI)), (28, (.data true tI))], [.var 187 (.data true (.arr 81 tI)), .rows 62 true (.arr 3 tI)], 0⟩), (41, ⟨[(0, (.data false (.sl (.arr 4 tI)))), (3, (.ptr 0 [])), (6, (.own 1)), (7, (.data true tI)), (8, (.ptr 2 [])), (9, (.data true tI)), (26, (.data false (.sl (.arr 4 tI)))), (27, (.data true tI)), (28, (.data true tI))], [.var 187 (.data true (.arr 81 tI)), .rows 62 true (.arr 3 tI), .var 54 (.data true (.arr 4 tI))], 0⟩)]⟩ Try.f125 i_linesIn_i i_linesIn_o x = i_linesIn n x := by kernel_rfl
noncomputable def i_linesIn_e (n : Nat) : Ent := ⟨125, i_linesIn_i, i_linesIn_o, fun x => i_linesIn n x⟩
theorem i_linesIn_ok (n : Nat) : EntOK Try.prog (i_linesIn_e n) ∧ Own Try.prog 125 := ent_ok tabOK0 (.cons (i_number_ok n) (.cons (i_third_ok n) .nil)) Try.func125 rfl (by kernel_rfl) (i_linesIn_ev n)
def _impl_Deal__isStuck_i : CSh := ⟨[(.data false (.pair tI (.pair tI (.sl (.arr 4 tI)))))], []⟩
def _impl_Deal__isStuck_o : RSh := ⟨(.data true .bool), []⟩
theorem _impl_Deal__isStuck_ev (n : Nat) (x : TupT _impl_Deal__isStuck_i.tys) : evF ⟨tab, [i_linesIn_e n], n, []⟩ Try.f257 _impl_Deal__isStuck_i _impl_Deal__isStuck_o x = _impl_Deal__isStuck n x := by kernel_rfl
noncomputable def _impl_Deal__isStuck_e (n : Nat) : Ent := ⟨257, _impl_Deal__isStuck_i, _impl_Deal__isStuck_o, fun x => _impl_Deal__isStuck n x⟩
theorem _impl_Deal__isStuck_ok (n : Nat) : EntOK Try.prog (_impl_Deal__isStuck_e n) ∧ Own Try.prog 257 := ent_ok tabOK0 (.cons (i_linesIn_ok n) .nil) Try.func257 rfl (by kernel_rfl) (_impl_Deal__isStuck_ev n)
def _impl_Deal__isOver_i : CSh := ⟨[(.data false (.pair tI (.pair tI (.sl (.arr 4 tI)))))], []⟩
def _impl_Deal__isOver_o : RSh := ⟨(.data true .bool), []⟩
theorem _impl_Deal__isOver_ev (n : Nat) (x : TupT _impl_Deal__isOver_i.tys) : evF ⟨tab, [_impl_Deal__isStuck_e n], n, []⟩ Try.f258 _impl_Deal__isOver_i _impl_Deal__isOver_o x = _impl_Deal__isOver n x := by kernel_rfl
noncomputable def _impl_Deal__isOver_e (n : Nat) : Ent := ⟨258, _impl_Deal__isOver_i, _impl_Deal__isOver_o, fun x => _impl_Deal__isOver n x⟩
theorem _impl_Deal__isOver_ok (n : Nat) : EntOK Try.prog (_impl_Deal__isOver_e n) ∧ Own Try.prog 258 := ent_ok tabOK0 (.cons (_impl_Deal__isStuck_ok n) .nil) Try.func258 rfl (by kernel_rfl) (_impl_Deal__isOver_ev n)
def slices_Grow_SA4_A4__i : CSh := ⟨[.nil, (.data true tI)], []⟩
def slices_Grow_SA4_A4__o : RSh := ⟨(.own 0), [.rows 54 true (.arr 4 tI)]⟩
theorem slices_Grow_SA4_A4__ev (n : Nat) (x : TupT slices_Grow_SA4_A4__i.tys) : evF ⟨tab, [], n, []⟩ Try.f290 slices_Grow_SA4_A4__i slices_Grow_SA4_A4__o x = slices_Grow_SA4_A4_ n x := by kernel_rfl
noncomputable def slices_Grow_SA4_A4__e (n : Nat) : Ent := ⟨290, slices_Grow_SA4_A4__i, slices_Grow_SA4_A4__o, fun x => slices_Grow_SA4_A4_ n x⟩
theorem slices_Grow_SA4_A4__ok (n : Nat) : EntOK Try.prog (slices_Grow_SA4_A4__e n) ∧ Own Try.prog 290 := ent_ok tabOK0 .nil Try.func290 rfl (by kernel_rfl) (slices_Grow_SA4_A4__ev n)
def slices_Concat_SA4_A4__i : CSh := ⟨[(.data false (.sl (.sl (.arr 4 tI))))], []⟩
def slices_Concat_SA4_A4__o : RSh := ⟨(.own 0), [.rows 54 true (.arr 4 tI)]⟩
theorem slices_Concat_SA4_A4__ev (n : Nat) (x : TupT slices_Concat_SA4_A4__i.tys) : evF ⟨tab, [slices_Grow_SA4_A4__e n], n, [(8, ⟨[(0, (.data false (.sl (.sl (.arr 4 tI))))), (3, (.data true tI)), (9, (.data false (.sl (.sl (.arr 4 tI))))), (10, (.data true tI)), (11, (.data true tI))], [], 0⟩), (33, ⟨[(6, (.own 0)), (25, (.data false (.sl (.sl (.arr 4 tI))))), (26, (.data true tI)), (27, (.data true tI))], [.rows 54 true (.arr 4 tI)], 0⟩)]⟩ Try.f283 slices_Concat_SA4_A4__i slices_Concat_SA4_A4__o x = slices_Concat_SA4_A4_ n x := by kernel_rfl
noncomputable def slices_Concat_SA4_A4__e (n : Nat) : Ent := ⟨283, slices_Concat_SA4_A4__i, slices_Concat_SA4_A4__o, fun x => slices_Concat_SA4_A4_ n x⟩
theorem slices_Concat_SA4_A4__ok (n : Nat) : EntOK Try.prog (slices_Concat_SA4_A4__e n) ∧ Own Try.prog 283 := ent_ok tabOK0 (.cons (slices_Grow_SA4_A4__ok n) .nil) Try.func283 rfl (by kernel_rfl) (slices_Concat_SA4_A4__ev n)
def _impl_Deal__lay_i : CSh := ⟨[(.data false (.pair tI (.pair tI (.sl (.arr 4 tI))))), (.data true tI)], []⟩
def _impl_Deal__lay_o : RSh := ⟨(.pr (.data true tI) (.pr (.data true tI) (.own 0))), [.rows 54 true (.arr 4 tI)]⟩
theorem _impl_Deal__lay_ev (n : Nat) (x : TupT _impl_Deal__lay_i.tys) : evF ⟨tab, [i_pile_e n, slices_Concat_SA4_A4__e n], n, []⟩ Try.f259 _impl_Deal__lay_i _impl_Deal__lay_o x = _impl_Deal__lay n x.1 x.2 := by kernel_rfl
noncomputable def _impl_Deal__lay_e (n : Nat) : Ent := ⟨259, _impl_Deal__lay_i, _impl_Deal__lay_o, fun x => _impl_Deal__lay n x.1 x.2⟩
theorem _impl_Deal__lay_ok (n : Nat) : EntOK Try.prog (_impl_Deal__lay_e n) ∧ Own Try.prog 259 := ent_ok tabOK0 (.cons (i_pile_ok n) (.cons (slices_Concat_SA4_A4__ok n) .nil)) Try.func259 rfl (by kernel_rfl) (_impl_Deal__lay_ev n)
def _impl_Game__isPlayer_i : CSh := ⟨[(.data false (.pair (.pair tI (.pair tI (.sl (.arr 4 tI)))) (.pair (.sl tI) (.sl tI)))), (.data true tI)], []⟩
def _impl_Game__isPlayer_o : RSh := ⟨(.data true .bool), []⟩
theorem _impl_Game__isPlayer_ev (n : Nat) (x : TupT _impl_Game__isPlayer_i.tys) : evF ⟨tab, [i_within_e n], n, []⟩ Try.f186 _impl_Game__isPlayer_i _impl_Game__isPlayer_o x = _impl_Game__isPlayer n x.1 x.2 := by kernel_rfl
noncomputable def _impl_Game__isPlayer_e (n : Nat) : Ent := ⟨186, _impl_Game__isPlayer_i, _impl_Game__isPlayer_o, fun x => _impl_Game__isPlayer n x.1 x.2⟩
theorem _impl_Game__isPlayer_ok (n : Nat) : EntOK Try.prog (_impl_Game__isPlayer_e n) ∧ Own Try.prog 186 := ent_ok tabOK0 (.cons (i_within_ok n) .nil) Try.func186 rfl (by kernel_rfl) (_impl_Game__isPlayer_ev n)
def i_isLine_i : CSh := ⟨[(.data true (.arr 4 tI)), (.data true (.arr 4 tI)), (.data true (.arr 4 tI))], []⟩
def i_isLine_o : RSh := ⟨(.data true .bool), []⟩
theorem i_isLine_ev (n : Nat) (x : TupT i_isLine_i.tys) : evF ⟨tab, [i_third_e n], n, []⟩ Try.f169 i_isLine_i i_isLine_o x = i_isLine n x.1 x.2.1 x.2.2 := by kernel_rfl
noncomputable def i_isLine_e (n : Nat) : Ent := ⟨169, i_isLine_i, i_isLine_o, fun x => i_isLine n x.1 x.2.1 x.2.2⟩
theorem i_isLine_ok (n : Nat) : EntOK Try.prog (i_isLine_e n) ∧ Own Try.prog 169 := ent_ok tabOK0 (.cons (i_third_ok n) .nil) Try.func169 rfl (by kernel_rfl) (i_isLine_ev n)
def _impl_Game__kind_i : CSh := ⟨[(.data false (.pair (.pair tI (.pair tI (.sl (.arr 4 tI)))) (.pair (.sl tI) (.sl tI)))), (.data true (.pair tI (.arr 3 tI)))], []⟩
def _impl_Game__kind_o : RSh := ⟨(.data true tI), []⟩
theorem _impl_Game__kind_ev (n : Nat) (x : TupT _impl_Game__kind_i.tys) : evF ⟨tab, [_impl_Game__isPlayer_e n, i_isLine_e n], n, []⟩ Try.f194 _impl_Game__kind_i _impl_Game__kind_o x = _impl_Game__kind n x.1 x.2 := by kernel_rfl
noncomputable def _impl_Game__kind_e (n : Nat) : Ent := ⟨194, _impl_Game__kind_i, _impl_Game__kind_o, fun x => _impl_Game__kind n x.1 x.2⟩
theorem _impl_Game__kind_ok (n : Nat) : EntOK Try.prog (_impl_Game__kind_e n) ∧ Own Try.prog 194 := ent_ok tabOK0 (.cons (_impl_Game__isPlayer_ok n) (.cons (i_isLine_ok n) .nil)) Try.func194 rfl (by kernel_rfl) (_impl_Game__kind_ev n)
def slices_Index_Sint_int__i : CSh := ⟨[(.data false (.sl tI)), (.data true tI)], []⟩
def slices_Index_Sint_int__o : RSh := ⟨(.data true tI), []⟩
theorem slices_Index_Sint_int__ev (n : Nat) (x : TupT slices_Index_Sint_int__i.tys) : evF ⟨tab, [], n, [(6, ⟨[(0, (.data false (.sl tI))), (1, (.data true tI)), (7, (.data true tI)), (8, (.data true tI))], [], 0⟩)]⟩ Try.f200 slices_Index_Sint_int__i slices_Index_Sint_int__o x = slices_Index_Sint_int_ n x.1 x.2 := by kernel_rfl
noncomputable def slices_Index_Sint_int__e (n : Nat) : Ent := ⟨200, slices_Index_Sint_int__i, slices_Index_Sint_int__o, fun x => slices_Index_Sint_int_ n x.1 x.2⟩
theorem slices_Index_Sint_int__ok (n : Nat) : EntOK Try.prog (slices_Index_Sint_int__e n) ∧ Own Try.prog 200 := ent_ok tabOK0 .nil Try.func200 rfl (by kernel_rfl) (slices_Index_Sint_int__ev n)
def slices_Contains_Sint_int__i : CSh := ⟨[(.data false (.sl tI)), (.data true tI)], []⟩
def slices_Contains_Sint_int__o : RSh := ⟨(.data true .bool), []⟩
theorem slices_Contains_Sint_int__ev (n : Nat) (x : TupT slices_Contains_Sint_int__i.tys) : evF ⟨tab, [slices_Index_Sint_int__e n], n, []⟩ Try.f238 slices_Contains_Sint_int__i slices_Contains_Sint_int__o x = slices_Contains_Sint_int_ n x.1 x.2 := by kernel_rfl
noncomputable def slices_Contains_Sint_int__e (n : Nat) : Ent := ⟨238, slices_Contains_Sint_int__i, slices_Contains_Sint_int__o, fun x => slices_Contains_Sint_int_ n x.1 x.2⟩
theorem slices_Contains_Sint_int__ok (n : Nat) : EntOK Try.prog (slices_Contains_Sint_int__e n) ∧ Own Try.prog 238 := ent_ok tabOK0 (.cons (slices_Index_Sint_int__ok n) .nil) Try.func238 rfl (by kernel_rfl) (slices_Contains_Sint_int__ev n)
def _impl_Deal__take_i : CSh := ⟨[(.data false (.pair tI (.pair tI (.sl (.arr 4 tI))))), (.data true (.arr 3 tI))], []⟩
def _impl_Deal__take_o : RSh := ⟨(.pr (.data true tI) (.pr (.data true tI) (.own 0))), [.rows 54 true (.arr 4 tI)]⟩
theorem _impl_Deal__take_ev (n : Nat) (x : TupT _impl_Deal__take_i.tys) : evF ⟨tab, [slices_Contains_Sint_int__e n, _impl_Deal__lay_e n], n, [(8, ⟨[(2, (.ptr 0 [])), (3, (.ptr 1 [])), (4, (.ptr 2 [])), (5, (.own 3)), (10, (.data false (.sl (.arr 4 tI)))), (11, (.data true tI)), (12, (.data true tI))], [.var 64 (.data false (.pair tI (.pair tI (.sl (.arr 4 tI))))), .var 62 (.data true (.arr 3 tI)), .var 64 (.pr (.data true tI) (.pr (.data true tI) .nil)), .rows 54 true (.arr 4 tI)], 0⟩)]⟩ Try.f260 _impl_Deal__take_i _impl_Deal__take_o x = _impl_Deal__take n x.1 x.2 := by kernel_rfl
noncomputable def _impl_Deal__take_e (n : Nat) : Ent := ⟨260, _impl_Deal__take_i, _impl_Deal__take_o, fun x => _impl_Deal__take n x.1 x.2⟩
theorem _impl_Deal__take_ok (n : Nat) : EntOK Try.prog (_impl_Deal__take_e n) ∧ Own Try.prog 260 := ent_ok tabOK0 (.cons (slices_Contains_Sint_int__ok n) (.cons (_impl_Deal__lay_ok n) .nil)) Try.func260 rfl (by kernel_rfl) (_impl_Deal__take_ev n)
def __impl_Game__make'p_ooo_i : CSh := ⟨[(.ptr 0 []), (.data true (.pair tI (.arr 3 tI)))], [.var 66 (.pr (.pr (.data true tI) (.pr (.data true tI) (.own 1))) (.pr (.own 2) (.own 3))), .rows 54 true (.arr 4 tI), .rows 3 true tI, .rows 3 true tI]⟩
def __impl_Game__make'p_ooo_o : RSh := ⟨(.data true tI), [.var 66 (.pr (.pr (.data true tI) (.pr (.data true tI) (.own 4))) (.pr (.own 2) (.own 3))), .gone, .rows 3 true tI, .rows 3 true tI, .rows 54 true (.arr 4 tI)]⟩
theorem __impl_Game__make'p_ooo_ev (n : Nat) (x : TupT __impl_Game__make'p_ooo_i.tys) : evF ⟨tab, [_impl_Deal__isStuck_e n, _impl_Deal__isOver_e n, _impl_Deal__lay_e n, _impl_Game__kind_e n, _impl_Deal__take_e n], n, [(4, ⟨[(0, (.ptr 0 [])), (3, (.ptr 4 []))], [.var 66 (.pr (.pr (.data true tI) (.pr (.data true tI) (.own 5))) (.pr (.own 2) (.own 3))), .gone, .rows 3 true tI, .rows 3 true tI, .var 77 (.data true (.pair tI (.arr 3 tI))), .rows 54 true (.arr 4 tI)], 4⟩)]⟩ Try.f191 __impl_Game__make'p_ooo_i __impl_Game__make'p_ooo_o x = __impl_Game__make'p_ooo n x.1 x.2.1 x.2.2.1 x.2.2.2.1 x.2.2.2.2.1 x.2.2.2.2.2 := by kernel_rfl
noncomputable def __impl_Game__make'p_ooo_e (n : Nat) : Ent := ⟨191, __impl_Game__make'p_ooo_i, __impl_Game__make'p_ooo_o, fun x => __impl_Game__make'p_ooo n x.1 x.2.1 x.2.2.1 x.2.2.2.1 x.2.2.2.2.1 x.2.2.2.2.2⟩
theorem __impl_Game__make'p_ooo_ok (n : Nat) : EntOK Try.prog (__impl_Game__make'p_ooo_e n) ∧ Own Try.prog 191 := ent_ok tabOK0 (.cons (_impl_Deal__isStuck_ok n) (.cons (_impl_Deal__isOver_ok n) (.cons (_impl_Deal__lay_ok n) (.cons (_impl_Game__kind_ok n) (.cons (_impl_Deal__take_ok n) .nil))))) Try.func191 rfl (by kernel_rfl) (__impl_Game__make'p_ooo_ev n)
def i_MakeClaim_i : CSh := ⟨[(.data false (.pair (.pair tI (.pair tI (.sl (.arr 4 tI)))) (.pair (.sl tI) (.sl tI)))), (.data true (.pair tI (.arr 3 tI)))], []⟩
def i_MakeClaim_o : RSh := ⟨(.tcons (.pr (.pr (.data true tI) (.pr (.data true tI) (.own 0))) (.pr (.own 1) (.own 2))) (.tcons (.data true tI) (.tcons (.data true .bool) .tnil))), [.rows 54 true (.arr 4 tI), .rows 3 true tI, .rows 3 true tI]⟩
theorem i_MakeClaim_ev (n : Nat) (x : TupT i_MakeClaim_i.tys) : evF ⟨tab, [i_IsGame_e n, _impl_Game__own_e n, __impl_Game__make'p_ooo_e n], n, []⟩ Try.f69 i_MakeClaim_i i_MakeClaim_o x = i_MakeClaim n x.1 x.2 := by kernel_rfl
noncomputable def i_MakeClaim_e (n : Nat) : Ent := ⟨69, i_MakeClaim_i, i_MakeClaim_o, fun x => i_MakeClaim n x.1 x.2⟩
theorem i_MakeClaim_ok (n : Nat) : EntOK Try.prog (i_MakeClaim_e n) ∧ Own Try.prog 69 := ent_ok tabOK0 (.cons (i_IsGame_ok n) (.cons (_impl_Game__own_ok n) (.cons (__impl_Game__make'p_ooo_ok n) .nil))) Try.func69 rfl (by kernel_rfl) (i_MakeClaim_ev n)
def s_l8Game_i : CSh := ⟨[(.data false (.pair (.pair tI (.pair tI (.sl (.arr 4 tI)))) (.pair (.sl tI) (.sl tI))))], []⟩
def s_l8Game_o : RSh := ⟨(.data true .bool), []⟩
theorem s_l8Game_ev (n : Nat) (x : TupT s_l8Game_i.tys) : evF ⟨tab, [s_l4Deal_e n, s_l1In_e n], n, [(14, ⟨[(1, (.ptr 0 [])), (3, (.data true tI))], [.var 66 (.data false (.pair (.pair tI (.pair tI (.sl (.arr 4 tI)))) (.pair (.sl tI) (.sl tI))))], 0⟩)]⟩ Try.f176 s_l8Game_i s_l8Game_o x = s_l8Game n x := by kernel_rfl
noncomputable def s_l8Game_e (n : Nat) : Ent := ⟨176, s_l8Game_i, s_l8Game_o, fun x => s_l8Game n x⟩
theorem s_l8Game_ok (n : Nat) : EntOK Try.prog (s_l8Game_e n) ∧ Own Try.prog 176 := ent_ok tabOK0 (.cons (s_l4Deal_ok n) (.cons (s_l1In_ok n) .nil)) Try.func176 rfl (by kernel_rfl) (s_l8Game_ev n)
def s_l1Own_i : CSh := ⟨[(.data false (.sl tI))], []⟩
def s_l1Own_o : RSh := ⟨(.own 0), [.rows 3 true tI]⟩
theorem s_l1Own_ev (n : Nat) (x : TupT s_l1Own_i.tys) : evF ⟨tab, [], n, []⟩ Try.f178 s_l1Own_i s_l1Own_o x = s_l1Own n x := by kernel_rfl
noncomputable def s_l1Own_e (n : Nat) : Ent := ⟨178, s_l1Own_i, s_l1Own_o, fun x => s_l1Own n x⟩
theorem s_l1Own_ok (n : Nat) : EntOK Try.prog (s_l1Own_e n) ∧ Own Try.prog 178 := ent_ok tabOK0 .nil Try.func178 rfl (by kernel_rfl) (s_l1Own_ev n)
def s_l8Own_i : CSh := ⟨[(.data false (.pair (.pair tI (.pair tI (.sl (.arr 4 tI)))) (.pair (.sl tI) (.sl tI))))], []⟩
def s_l8Own_o : RSh := ⟨(.pr (.pr (.data true tI) (.pr (.data true tI) (.own 0))) (.pr (.own 1) (.own 2))), [.rows 54 true (.arr 4 tI), .rows 3 true tI, .rows 3 true tI]⟩
theorem s_l8Own_ev (n : Nat) (x : TupT s_l8Own_i.tys) : evF ⟨tab, [s_l2Own_e n, s_l1Own_e n], n, []⟩ Try.f199 s_l8Own_i s_l8Own_o x = s_l8Own n x := by kernel_rfl
noncomputable def s_l8Own_e (n : Nat) : Ent := ⟨199, s_l8Own_i, s_l8Own_o, fun x => s_l8Own n x⟩
theorem s_l8Own_ok (n : Nat) : EntOK Try.prog (s_l8Own_e n) ∧ Own Try.prog 199 := ent_ok tabOK0 (.cons (s_l2Own_ok n) (.cons (s_l1Own_ok n) .nil)) Try.func199 rfl (by kernel_rfl) (s_l8Own_ev n)
def s_l4Line_i : CSh := ⟨[(.data false (.pair tI (.pair tI (.sl (.arr 4 tI))))), (.data true (.arr 3 tI))], []⟩
def s_l4Line_o : RSh := ⟨(.data true .bool), []⟩
theorem s_l4Line_ev (n : Nat) (x : TupT s_l4Line_i.tys) : evF ⟨tab, [s_l1In_e n, s_l2Line_e n], n, [(6, ⟨[(2, (.ptr 0 [])), (3, (.ptr 1 [])), (5, (.data true tI))], [.var 64 (.data false (.pair tI (.pair tI (.sl (.arr 4 tI))))), .var 62 (.data true (.arr 3 tI))], 0⟩)]⟩ Try.f264 s_l4Line_i s_l4Line_o x = s_l4Line n x.1 x.2 := by kernel_rfl
noncomputable def s_l4Line_e (n : Nat) : Ent := ⟨264, s_l4Line_i, s_l4Line_o, fun x => s_l4Line n x.1 x.2⟩
theorem s_l4Line_ok (n : Nat) : EntOK Try.prog (s_l4Line_e n) ∧ Own Try.prog 264 := ent_ok tabOK0 (.cons (s_l1In_ok n) (.cons (s_l2Line_ok n) .nil)) Try.func264 rfl (by kernel_rfl) (s_l4Line_ev n)
def s_l8Kind_i : CSh := ⟨[(.data false (.pair (.pair tI (.pair tI (.sl (.arr 4 tI)))) (.pair (.sl tI) (.sl tI)))), (.data true (.pair tI (.arr 3 tI)))], []⟩
def s_l8Kind_o : RSh := ⟨(.data true tI), []⟩
theorem s_l8Kind_ev (n : Nat) (x : TupT s_l8Kind_i.tys) : evF ⟨tab, [s_l1In_e n, s_l4Line_e n], n, [(22, ⟨[(2, (.ptr 0 [])), (3, (.ptr 1 [])), (5, (.data true tI))], [.var 66 (.data false (.pair (.pair tI (.pair tI (.sl (.arr 4 tI)))) (.pair (.sl tI) (.sl tI)))), .var 77 (.data true (.pair tI (.arr 3 tI)))], 0⟩)]⟩ Try.f195 s_l8Kind_i s_l8Kind_o x = s_l8Kind n x.1 x.2 := by kernel_rfl
noncomputable def s_l8Kind_e (n : Nat) : Ent := ⟨195, s_l8Kind_i, s_l8Kind_o, fun x => s_l8Kind n x.1 x.2⟩
theorem s_l8Kind_ok (n : Nat) : EntOK Try.prog (s_l8Kind_e n) ∧ Own Try.prog 195 := ent_ok tabOK0 (.cons (s_l1In_ok n) (.cons (s_l4Line_ok n) .nil)) Try.func195 rfl (by kernel_rfl) (s_l8Kind_ev n)
def s_l8Made_i : CSh := ⟨[(.data false (.pair (.pair tI (.pair tI (.sl (.arr 4 tI)))) (.pair (.sl tI) (.sl tI)))), (.data true (.pair tI (.arr 3 tI)))], []⟩
def s_l8Made_o : RSh := ⟨(.tcons (.pr (.pr (.data true tI) (.pr (.data true tI) (.own 0))) (.pr (.own 1) (.own 2))) (.tcons (.data true tI) .tnil)), [.rows 54 true (.arr 4 tI), .rows 3 true tI, .rows 3 true tI]⟩
theorem s_l8Made_ev (n : Nat) (x : TupT s_l8Made_i.tys) : evF ⟨tab, [s_l8Own_e n, s_l4Lines_e n, s_l4Lay_e n, s_l8Kind_e n, s_l4Take_e n, s_l1Least_e n], n, [(6, ⟨[(3, (.ptr 0 [])), (4, (.ptr 1 [])), (6, (.ptr 2 []))], [.var 77 (.data true (.pair tI (.arr 3 tI))), .var 66 (.pr (.pr (.data true tI) (.pr (.data true tI) .nil)) (.pr .nil .nil)), .var 66 (.pr (.pr (.data true tI) (.pr (.data true tI) (.own 3))) (.pr (.own 4) (.own 5))), .rows 54 true (.arr 4 tI), .rows 3 true tI, .rows 3 true tI], 0⟩)]⟩ Try.f192 s_l8Made_i s_l8Made_o x = s_l8Made n x.1 x.2 := by kernel_rfl
noncomputable def s_l8Made_e (n : Nat) : Ent := ⟨192, s_l8Made_i, s_l8Made_o, fun x => s_l8Made n x.1 x.2⟩
theorem s_l8Made_ok (n : Nat) : EntOK Try.prog (s_l8Made_e n) ∧ Own Try.prog 192 := ent_ok tabOK0 (.cons (s_l8Own_ok n) (.cons (s_l4Lines_ok n) (.cons (s_l4Lay_ok n) (.cons (s_l8Kind_ok n) (.cons (s_l4Take_ok n) (.cons (s_l1Least_ok n) .nil)))))) Try.func192 rfl (by kernel_rfl) (s_l8Made_ev n)
def s_MakeClaim_i : CSh := ⟨[(.data false (.pair (.pair tI (.pair tI (.sl (.arr 4 tI)))) (.pair (.sl tI) (.sl tI)))), (.data true (.pair tI (.arr 3 tI)))], []⟩
def s_MakeClaim_o : RSh := ⟨(.tcons (.pr (.pr (.data true tI) (.pr (.data true tI) (.own 0))) (.pr (.own 1) (.own 2))) (.tcons (.data true tI) (.tcons (.data true .bool) .tnil))), [.rows 54 true (.arr 4 tI), .rows 3 true tI, .rows 3 true tI]⟩
theorem s_MakeClaim_ev (n : Nat) (x : TupT s_MakeClaim_i.tys) : evF ⟨tab, [s_l8Game_e n, s_l8Made_e n], n, []⟩ Try.f70 s_MakeClaim_i s_MakeClaim_o x = s_MakeClaim n x.1 x.2 := by kernel_rfl
noncomputable def s_MakeClaim_e (n : Nat) : Ent := ⟨70, s_MakeClaim_i, s_MakeClaim_o, fun x => s_MakeClaim n x.1 x.2⟩
theorem s_MakeClaim_ok (n : Nat) : EntOK Try.prog (s_MakeClaim_e n) ∧ Own Try.prog 70 := ent_ok tabOK0 (.cons (s_l8Game_ok n) (.cons (s_l8Made_ok n) .nil)) Try.func70 rfl (by kernel_rfl) (s_MakeClaim_ev n)
def v_rHand_i : CSh := ⟨[(.data false (.sl (.arr 4 tI))), (.data false (.sl (.arr 4 tI)))], []⟩
def v_rHand_o : RSh := ⟨(.data true .bool), []⟩
theorem v_rHand_ev (n : Nat) (x : TupT v_rHand_i.tys) : evF ⟨tab, [], n, [(14, ⟨[(0, (.data false (.sl (.arr 4 tI)))), (1, (.data false (.sl (.arr 4 tI)))), (5, (.data true tI))], [], 0⟩)]⟩ Try.f95 v_rHand_i v_rHand_o x = v_rHand n x.1 x.2 := by kernel_rfl
noncomputable def v_rHand_e (n : Nat) : Ent := ⟨95, v_rHand_i, v_rHand_o, fun x => v_rHand n x.1 x.2⟩
theorem v_rHand_ok (n : Nat) : EntOK Try.prog (v_rHand_e n) ∧ Own Try.prog 95 := ent_ok tabOK0 .nil Try.func95 rfl (by kernel_rfl) (v_rHand_ev n)
def v_rDeal_i : CSh := ⟨[(.data false (.pair tI (.pair tI (.sl (.arr 4 tI))))), (.data false (.pair tI (.pair tI (.sl (.arr 4 tI)))))], []⟩
def v_rDeal_o : RSh := ⟨(.data true .bool), []⟩
theorem v_rDeal_ev (n : Nat) (x : TupT v_rDeal_i.tys) : evF ⟨tab, [v_rHand_e n], n, []⟩ Try.f193 v_rDeal_i v_rDeal_o x = v_rDeal n x.1 x.2 := by kernel_rfl
noncomputable def v_rDeal_e (n : Nat) : Ent := ⟨193, v_rDeal_i, v_rDeal_o, fun x => v_rDeal n x.1 x.2⟩
theorem v_rDeal_ok (n : Nat) : EntOK Try.prog (v_rDeal_e n) ∧ Own Try.prog 193 := ent_ok tabOK0 (.cons (v_rHand_ok n) .nil) Try.func193 rfl (by kernel_rfl) (v_rDeal_ev n)
def v_rInts_i : CSh := ⟨[(.data false (.sl tI)), (.data false (.sl tI))], []⟩
def v_rInts_o : RSh := ⟨(.data true .bool), []⟩
theorem v_rInts_ev (n : Nat) (x : TupT v_rInts_i.tys) : evF ⟨tab, [], n, [(14, ⟨[(0, (.data false (.sl tI))), (1, (.data false (.sl tI))), (5, (.data true tI))], [], 0⟩)]⟩ Try.f57 v_rInts_i v_rInts_o x = v_rInts n x.1 x.2 := by kernel_rfl
noncomputable def v_rInts_e (n : Nat) : Ent := ⟨57, v_rInts_i, v_rInts_o, fun x => v_rInts n x.1 x.2⟩
theorem v_rInts_ok (n : Nat) : EntOK Try.prog (v_rInts_e n) ∧ Own Try.prog 57 := ent_ok tabOK0 .nil Try.func57 rfl (by kernel_rfl) (v_rInts_ev n)
def v_rGame_i : CSh := ⟨[(.data false (.pair (.pair tI (.pair tI (.sl (.arr 4 tI)))) (.pair (.sl tI) (.sl tI)))), (.data false (.pair (.pair tI (.pair tI (.sl (.arr 4 tI)))) (.pair (.sl tI) (.sl tI))))], []⟩
def v_rGame_o : RSh := ⟨(.data true .bool), []⟩
theorem v_rGame_ev (n : Nat) (x : TupT v_rGame_i.tys) : evF ⟨tab, [v_rDeal_e n, v_rInts_e n], n, []⟩ Try.f71 v_rGame_i v_rGame_o x = v_rGame n x.1 x.2 := by kernel_rfl
noncomputable def v_rGame_e (n : Nat) : Ent := ⟨71, v_rGame_i, v_rGame_o, fun x => v_rGame n x.1 x.2⟩
theorem v_rGame_ok (n : Nat) : EntOK Try.prog (v_rGame_e n) ∧ Own Try.prog 71 := ent_ok tabOK0 (.cons (v_rDeal_ok n) (.cons (v_rInts_ok n) .nil)) Try.func71 rfl (by kernel_rfl) (v_rGame_ev n)
def s_DrawClaimKind_i : CSh := ⟨[(.data false (.sl (.int .u8)))], []⟩
def s_DrawClaimKind_o : RSh := ⟨(.tcons (.pr (.pr (.data true tI) (.pr (.data true tI) (.own 0))) (.pr (.own 1) (.own 2))) (.tcons (.data true (.pair tI (.arr 3 tI))) .tnil)), [.rows 54 true (.arr 4 tI), .rows 3 true tI, .rows 3 true tI]⟩
theorem s_DrawClaimKind_ev (n : Nat) (x : TupT s_DrawClaimKind_i.tys) : evF ⟨tab, [s_Cur_game'p_e n, s_Cur_claim'pl_e n], n, []⟩ Try.f72 s_DrawClaimKind_i s_DrawClaimKind_o x = s_DrawClaimKind n x := by kernel_rfl
noncomputable def s_DrawClaimKind_e (n : Nat) : Ent := ⟨72, s_DrawClaimKind_i, s_DrawClaimKind_o, fun x => s_DrawClaimKind n x⟩
theorem s_DrawClaimKind_ok (n : Nat) : EntOK Try.prog (s_DrawClaimKind_e n) ∧ Own Try.prog 72 := ent_ok tabOK0 (.cons (s_Cur_game'p_ok n) (.cons (s_Cur_claim'pl_ok n) .nil)) Try.func72 rfl (by kernel_rfl) (s_DrawClaimKind_ev n)
def i_ClaimKind_i : CSh := ⟨[(.data false (.pair (.pair tI (.pair tI (.sl (.arr 4 tI)))) (.pair (.sl tI) (.sl tI)))), (.data true (.pair tI (.arr 3 tI)))], []⟩
def i_ClaimKind_o : RSh := ⟨(.tcons (.data true tI) (.tcons (.data true .bool) .tnil)), []⟩
theorem i_ClaimKind_ev (n : Nat) (x : TupT i_ClaimKind_i.tys) : evF ⟨tab, [i_IsGame_e n, _impl_Game__kind_e n], n, []⟩ Try.f73 i_ClaimKind_i i_ClaimKind_o x = i_ClaimKind n x.1 x.2 := by kernel_rfl
noncomputable def i_ClaimKind_e (n : Nat) : Ent := ⟨73, i_ClaimKind_i, i_ClaimKind_o, fun x => i_ClaimKind n x.1 x.2⟩
theorem i_ClaimKind_ok (n : Nat) : EntOK Try.prog (i_ClaimKind_e n) ∧ Own Try.prog 73 := ent_ok tabOK0 (.cons (i_IsGame_ok n) (.cons (_impl_Game__kind_ok n) .nil)) Try.func73 rfl (by kernel_rfl) (i_ClaimKind_ev n)
def s_ClaimKind_i : CSh := ⟨[(.data false (.pair (.pair tI (.pair tI (.sl (.arr 4 tI)))) (.pair (.sl tI) (.sl tI)))), (.data true (.pair tI (.arr 3 tI)))], []⟩
def s_ClaimKind_o : RSh := ⟨(.tcons (.data true tI) (.tcons (.data true .bool) .tnil)), []⟩
theorem s_ClaimKind_ev (n : Nat) (x : TupT s_ClaimKind_i.tys) : evF ⟨tab, [s_l8Game_e n, s_l8Kind_e n], n, []⟩ Try.f74 s_ClaimKind_i s_ClaimKind_o x = s_ClaimKind n x.1 x.2 := by kernel_rfl
noncomputable def s_ClaimKind_e (n : Nat) : Ent := ⟨74, s_ClaimKind_i, s_ClaimKind_o, fun x => s_ClaimKind n x.1 x.2⟩
theorem s_ClaimKind_ok (n : Nat) : EntOK Try.prog (s_ClaimKind_e n) ∧ Own Try.prog 74 := ent_ok tabOK0 (.cons (s_l8Game_ok n) (.cons (s_l8Kind_ok n) .nil)) Try.func74 rfl (by kernel_rfl) (s_ClaimKind_ev n)
def s_Cur_claims'pl_i : CSh := ⟨[(.ptr 0 []), (.data false (.pair (.pair tI (.pair tI (.sl (.arr 4 tI)))) (.pair (.sl tI) (.sl tI))))], [.var 125 (.data true (.pair (.sl (.int .u8)) (.pair tI (.int .u64))))]⟩
def s_Cur_claims'pl_o : RSh := ⟨(.own 1), [.var 125 (.data true (.pair (.sl (.int .u8)) (.pair tI (.int .u64)))), .rows 77 true (.pair tI (.arr 3 tI))]⟩
theorem s_Cur_claims'pl_ev (n : Nat) (x : TupT s_Cur_claims'pl_i.tys) : evF ⟨tab, [s_Cur_among'pl_e n, s_Cur_pick'p_e n, s_Cur_claim'pl_e n, s_l8Game_e n, s_l8Made_e n], n, [(8, ⟨[(0, (.ptr 0 [])), (5, (.own 1)), (6, (.ptr 2 [])), (7, (.data true tI))], [.var 125 (.data true (.pair (.sl (.int .u8)) (.pair tI (.int .u64)))), .rows 77 true (.pair tI (.arr 3 tI)), .var 66 (.data false (.pair (.pair tI (.pair tI (.sl (.arr 4 tI)))) (.pair (.sl tI) (.sl tI))))], 1⟩)]⟩ Try.f196 s_Cur_claims'pl_i s_Cur_claims'pl_o x = s_Cur_claims'pl n x.1 x.2 := by kernel_rfl
noncomputable def s_Cur_claims'pl_e (n : Nat) : Ent := ⟨196, s_Cur_claims'pl_i, s_Cur_claims'pl_o, fun x => s_Cur_claims'pl n x.1 x.2⟩
theorem s_Cur_claims'pl_ok (n : Nat) : EntOK Try.prog (s_Cur_claims'pl_e n) ∧ Own Try.prog 196 := ent_ok tabOK0 (.cons (s_Cur_among'pl_ok n) (.cons (s_Cur_pick'p_ok n) (.cons (s_Cur_claim'pl_ok n) (.cons (s_l8Game_ok n) (.cons (s_l8Made_ok n) .nil))))) Try.func196 rfl (by kernel_rfl) (s_Cur_claims'pl_ev n)
def s_DrawRunClaims_i : CSh := ⟨[(.data false (.sl (.int .u8)))], []⟩
def s_DrawRunClaims_o : RSh := ⟨(.tcons (.pr (.pr (.data true tI) (.pr (.data true tI) (.own 0))) (.pr (.own 1) (.own 2))) (.tcons (.own 3) .tnil)), [.rows 54 true (.arr 4 tI), .rows 3 true tI, .rows 3 true tI, .rows 77 true (.pair tI (.arr 3 tI))]⟩
theorem s_DrawRunClaims_ev (n : Nat) (x : TupT s_DrawRunClaims_i.tys) : evF ⟨tab, [s_Cur_game'p_e n, s_Cur_claims'pl_e n], n, []⟩ Try.f75 s_DrawRunClaims_i s_DrawRunClaims_o x = s_DrawRunClaims n x := by kernel_rfl
noncomputable def s_DrawRunClaims_e (n : Nat) : Ent := ⟨75, s_DrawRunClaims_i, s_DrawRunClaims_o, fun x => s_DrawRunClaims n x⟩
theorem s_DrawRunClaims_ok (n : Nat) : EntOK Try.prog (s_DrawRunClaims_e n) ∧ Own Try.prog 75 := ent_ok tabOK0 (.cons (s_Cur_game'p_ok n) (.cons (s_Cur_claims'pl_ok n) .nil)) Try.func75 rfl (by kernel_rfl) (s_DrawRunClaims_ev n)
def i_areClaims_i : CSh := ⟨[(.data false (.pair (.pair tI (.pair tI (.sl (.arr 4 tI)))) (.pair (.sl tI) (.sl tI)))), (.data false (.sl (.pair tI (.arr 3 tI))))], []⟩
def i_areClaims_o : RSh := ⟨(.data true .bool), []⟩
theorem i_areClaims_ev (n : Nat) (x : TupT i_areClaims_i.tys) : evF ⟨tab, [i_IsGame_e n], n, []⟩ Try.f197 i_areClaims_i i_areClaims_o x = i_areClaims n x.1 x.2 := by kernel_rfl
noncomputable def i_areClaims_e (n : Nat) : Ent := ⟨197, i_areClaims_i, i_areClaims_o, fun x => i_areClaims n x.1 x.2⟩
theorem i_areClaims_ok (n : Nat) : EntOK Try.prog (i_areClaims_e n) ∧ Own Try.prog 197 := ent_ok tabOK0 (.cons (i_IsGame_ok n) .nil) Try.func197 rfl (by kernel_rfl) (i_areClaims_ev n)
def __impl_Game__run'pl_ooo_i : CSh := ⟨[(.ptr 0 []), (.data false (.sl (.pair tI (.arr 3 tI))))], [.var 66 (.pr (.pr (.data true tI) (.pr (.data true tI) (.own 1))) (.pr (.own 2) (.own 3))), .rows 54 true (.arr 4 tI), .rows 3 true tI, .rows 3 true tI]⟩
def __impl_Game__run'pl_ooo_o : RSh := ⟨(.own 4), [.var 66 (.pr (.pr (.data true tI) (.pr (.data true tI) (.own 5))) (.pr (.own 2) (.own 3))), .gone, .rows 3 true tI, .rows 3 true tI, .rows 3 true tI, .rows 54 true (.arr 4 tI)]⟩
theorem __impl_Game__run'pl_ooo_ev (n : Nat) (x : TupT __impl_Game__run'pl_ooo_i.tys) : evF ⟨tab, [__impl_Game__make'p_ooo_e n], n, [(8, ⟨[(0, (.ptr 0 [])), (5, (.own 4)), (9, (.data false (.sl (.pair tI (.arr 3 tI))))), (10, (.data true tI)), (11, (.data true tI))], [.var 66 (.pr (.pr (.data true tI) (.pr (.data true tI) (.own 5))) (.pr (.own 2) (.own 3))), .gone, .rows 3 true tI, .rows 3 true tI, .rows 3 true tI, .rows 54 true (.arr 4 tI)], 4⟩)]⟩ Try.f198 __impl_Game__run'pl_ooo_i __impl_Game__run'pl_ooo_o x = __impl_Game__run'pl_ooo n x.1 x.2.1 x.2.2.1 x.2.2.2.1 x.2.2.2.2.1 x.2.2.2.2.2 := by kernel_rfl
noncomputable def __impl_Game__run'pl_ooo_e (n : Nat) : Ent := ⟨198, __impl_Game__run'pl_ooo_i, __impl_Game__run'pl_ooo_o, fun x => __impl_Game__run'pl_ooo n x.1 x.2.1 x.2.2.1 x.2.2.2.1 x.2.2.2.2.1 x.2.2.2.2.2⟩
theorem __impl_Game__run'pl_ooo_ok (n : Nat) : EntOK Try.prog (__impl_Game__run'pl_ooo_e n) ∧ Own Try.prog 198 := ent_ok tabOK0 (.cons (__impl_Game__make'p_ooo_ok n) .nil) Try.func198 rfl (by kernel_rfl) (__impl_Game__run'pl_ooo_ev n)
def i_RunClaims_i : CSh := ⟨[(.data false (.pair (.pair tI (.pair tI (.sl (.arr 4 tI)))) (.pair (.sl tI) (.sl tI)))), (.data false (.sl (.pair tI (.arr 3 tI))))], []⟩
def i_RunClaims_o : RSh := ⟨(.tcons (.pr (.pr (.data true tI) (.pr (.data true tI) (.own 0))) (.pr (.own 1) (.own 2))) (.tcons (.data true (.arr 4 tI)) (.tcons (.data true .bool) .tnil))), [.rows 54 true (.arr 4 tI), .rows 3 true tI, .rows 3 true tI]⟩
theorem i_RunClaims_ev (n : Nat) (x : TupT i_RunClaims_i.tys) : evF ⟨tab, [i_areClaims_e n, _impl_Game__own_e n, __impl_Game__run'pl_ooo_e n], n, [(18, ⟨[(4, (.ptr 0 [])), (5, (.ptr 1 [])), (7, (.ptr 2 [])), (8, (.ptr 3 [])), (21, (.own 4)), (22, (.data true tI)), (23, (.data true tI))], [.var 66 (.pr (.pr (.data true tI) (.pr (.data true tI) .nil)) (.pr .nil .nil)), .var 54 (.data true (.arr 4 tI)), .var 54 (.data true (.arr 4 tI)), .var 66 (.pr (.pr (.data true tI) (.pr (.data true tI) (.own 5))) (.pr (.own 6) (.own 7))), .rows 3 true tI, .rows 54 true (.arr 4 tI), .rows 3 true tI, .rows 3 true tI], 0⟩)]⟩ Try.f76 i_RunClaims_i i_RunClaims_o x = i_RunClaims n x.1 x.2 := by kernel_rfl
noncomputable def i_RunClaims_e (n : Nat) : Ent := ⟨76, i_RunClaims_i, i_RunClaims_o, fun x => i_RunClaims n x.1 x.2⟩
theorem i_RunClaims_ok (n : Nat) : EntOK Try.prog (i_RunClaims_e n) ∧ Own Try.prog 76 := ent_ok tabOK0 (.cons (i_areClaims_ok n) (.cons (_impl_Game__own_ok n) (.cons (__impl_Game__run'pl_ooo_ok n) .nil))) Try.func76 rfl (by kernel_rfl) (i_RunClaims_ev n)
def s_RunClaims_i : CSh := ⟨[(.data false (.pair (.pair tI (.pair tI (.sl (.arr 4 tI)))) (.pair (.sl tI) (.sl tI)))), (.data false (.sl (.pair tI (.arr 3 tI))))], []⟩
def s_RunClaims_o : RSh := ⟨(.tcons (.pr (.pr (.data true tI) (.pr (.data true tI) (.own 0))) (.pr (.own 1) (.own 2))) (.tcons (.data true (.arr 4 tI)) (.tcons (.data true .bool) .tnil))), [.rows 54 true (.arr 4 tI), .rows 3 true tI, .rows 3 true tI]⟩
theorem s_RunClaims_ev (n : Nat) (x : TupT s_RunClaims_i.tys) : evF ⟨tab, [s_l8Game_e n, s_l8Own_e n, s_l8Made_e n], n, [(18, ⟨[(1, (.data false (.sl (.pair tI (.arr 3 tI))))), (4, (.ptr 0 [])), (5, (.ptr 1 [])), (7, (.ptr 2 [])), (8, (.ptr 3 [])), (9, (.data true tI))], [.var 66 (.pr (.pr (.data true tI) (.pr (.data true tI) .nil)) (.pr .nil .nil)), .var 54 (.data true (.arr 4 tI)), .var 54 (.data true (.arr 4 tI)), .var 66 (.pr (.pr (.data true tI) (.pr (.data true tI) (.own 4))) (.pr (.own 5) (.own 6))), .rows 54 true (.arr 4 tI), .rows 3 true tI, .rows 3 true tI], 0⟩)]⟩ Try.f77 s_RunClaims_i s_RunClaims_o x = s_RunClaims n x.1 x.2 := by kernel_rfl
noncomputable def s_RunClaims_e (n : Nat) : Ent := ⟨77, s_RunClaims_i, s_RunClaims_o, fun x => s_RunClaims n x.1 x.2⟩
theorem s_RunClaims_ok (n : Nat) : EntOK Try.prog (s_RunClaims_e n) ∧ Own Try.prog 77 := ent_ok tabOK0 (.cons (s_l8Game_ok n) (.cons (s_l8Own_ok n) (.cons (s_l8Made_ok n) .nil))) Try.func77 rfl (by kernel_rfl) (s_RunClaims_ev n)
def i_FirstRight_i : CSh := ⟨[(.data false (.pair (.pair tI (.pair tI (.sl (.arr 4 tI)))) (.pair (.sl tI) (.sl tI)))), (.data false (.sl (.pair tI (.arr 3 tI))))], []⟩
def i_FirstRight_o : RSh := ⟨(.tcons (.data true tI) (.tcons (.data true .bool) .tnil)), []⟩
theorem i_FirstRight_ev (n : Nat) (x : TupT i_FirstRight_i.tys) : evF ⟨tab, [i_areClaims_e n, _impl_Game__own_e n, __impl_Game__run'pl_ooo_e n, slices_Index_Sint_int__e n], n, []⟩ Try.f78 i_FirstRight_i i_FirstRight_o x = i_FirstRight n x.1 x.2 := by kernel_rfl
noncomputable def i_FirstRight_e (n : Nat) : Ent := ⟨78, i_FirstRight_i, i_FirstRight_o, fun x => i_FirstRight n x.1 x.2⟩
theorem i_FirstRight_ok (n : Nat) : EntOK Try.prog (i_FirstRight_e n) ∧ Own Try.prog 78 := ent_ok tabOK0 (.cons (i_areClaims_ok n) (.cons (_impl_Game__own_ok n) (.cons (__impl_Game__run'pl_ooo_ok n) (.cons (slices_Index_Sint_int__ok n) .nil)))) Try.func78 rfl (by kernel_rfl) (i_FirstRight_ev n)
def s_FirstRight_i : CSh := ⟨[(.data false (.pair (.pair tI (.pair tI (.sl (.arr 4 tI)))) (.pair (.sl tI) (.sl tI)))), (.data false (.sl (.pair tI (.arr 3 tI))))], []⟩
def s_FirstRight_o : RSh := ⟨(.tcons (.data true tI) (.tcons (.data true .bool) .tnil)), []⟩
theorem s_FirstRight_ev (n : Nat) (x : TupT s_FirstRight_i.tys) : evF ⟨tab, [s_l8Game_e n, s_l8Made_e n], n, [(14, ⟨[(1, (.data false (.sl (.pair tI (.arr 3 tI))))), (2, (.ptr 0 [])), (6, (.data true tI))], [.var 66 (.data false (.pair (.pair tI (.pair tI (.sl (.arr 4 tI)))) (.pair (.sl tI) (.sl tI))))], 0⟩)]⟩ Try.f79 s_FirstRight_i s_FirstRight_o x = s_FirstRight n x.1 x.2 := by kernel_rfl
noncomputable def s_FirstRight_e (n : Nat) : Ent := ⟨79, s_FirstRight_i, s_FirstRight_o, fun x => s_FirstRight n x.1 x.2⟩
theorem s_FirstRight_ok (n : Nat) : EntOK Try.prog (s_FirstRight_e n) ∧ Own Try.prog 79 := ent_ok tabOK0 (.cons (s_l8Game_ok n) (.cons (s_l8Made_ok n) .nil)) Try.func79 rfl (by kernel_rfl) (s_FirstRight_ev n)
def s_DrawWorthClaims_i : CSh := ⟨[(.data false (.sl (.int .u8)))], []⟩
def s_DrawWorthClaims_o : RSh := ⟨(.tcons (.pr (.pr (.data true tI) (.pr (.data true tI) (.own 0))) (.pr (.own 1) (.own 2))) (.tcons (.own 3) (.tcons (.data true tI) .tnil))), [.rows 54 true (.arr 4 tI), .rows 3 true tI, .rows 3 true tI, .rows 77 true (.pair tI (.arr 3 tI))]⟩
theorem s_DrawWorthClaims_ev (n : Nat) (x : TupT s_DrawWorthClaims_i.tys) : evF ⟨tab, [s_Cur_pick'p_e n, s_Cur_game'p_e n, s_Cur_claims'pl_e n], n, []⟩ Try.f80 s_DrawWorthClaims_i s_DrawWorthClaims_o x = s_DrawWorthClaims n x := by kernel_rfl
noncomputable def s_DrawWorthClaims_e (n : Nat) : Ent := ⟨80, s_DrawWorthClaims_i, s_DrawWorthClaims_o, fun x => s_DrawWorthClaims n x⟩
theorem s_DrawWorthClaims_ok (n : Nat) : EntOK Try.prog (s_DrawWorthClaims_e n) ∧ Own Try.prog 80 := ent_ok tabOK0 (.cons (s_Cur_pick'p_ok n) (.cons (s_Cur_game'p_ok n) (.cons (s_Cur_claims'pl_ok n) .nil))) Try.func80 rfl (by kernel_rfl) (s_DrawWorthClaims_ev n)
def _impl_Game__points_i : CSh := ⟨[(.data false (.pair (.pair tI (.pair tI (.sl (.arr 4 tI)))) (.pair (.sl tI) (.sl tI))))], []⟩
def _impl_Game__points_o : RSh := ⟨(.own 0), [.rows 3 true tI]⟩
theorem _impl_Game__points_ev (n : Nat) (x : TupT _impl_Game__points_i.tys) : evF ⟨tab, [], n, [(8, ⟨[(1, (.ptr 0 [])), (3, (.own 1)), (8, (.data false (.sl tI))), (9, (.data true tI)), (10, (.data true tI))], [.var 66 (.data false (.pair (.pair tI (.pair tI (.sl (.arr 4 tI)))) (.pair (.sl tI) (.sl tI)))), .rows 3 true tI], 0⟩)]⟩ Try.f171 _impl_Game__points_i _impl_Game__points_o x = _impl_Game__points n x := by kernel_rfl
noncomputable def _impl_Game__points_e (n : Nat) : Ent := ⟨171, _impl_Game__points_i, _impl_Game__points_o, fun x => _impl_Game__points n x⟩
theorem _impl_Game__points_ok (n : Nat) : EntOK Try.prog (_impl_Game__points_e n) ∧ Own Try.prog 171 := ent_ok tabOK0 .nil Try.func171 rfl (by kernel_rfl) (_impl_Game__points_ev n)
def i_WorthClaims_i : CSh := ⟨[(.data false (.pair (.pair tI (.pair tI (.sl (.arr 4 tI)))) (.pair (.sl tI) (.sl tI)))), (.data false (.sl (.pair tI (.arr 3 tI)))), (.data true tI)], []⟩
def i_WorthClaims_o : RSh := ⟨(.tcons (.data true tI) (.tcons (.data true .bool) .tnil)), []⟩
theorem i_WorthClaims_ev (n : Nat) (x : TupT i_WorthClaims_i.tys) : evF ⟨tab, [i_areClaims_e n, _impl_Game__isPlayer_e n, _impl_Game__own_e n, __impl_Game__run'pl_ooo_e n, _impl_Game__points_e n], n, []⟩ Try.f81 i_WorthClaims_i i_WorthClaims_o x = i_WorthClaims n x.1 x.2.1 x.2.2 := by kernel_rfl
noncomputable def i_WorthClaims_e (n : Nat) : Ent := ⟨81, i_WorthClaims_i, i_WorthClaims_o, fun x => i_WorthClaims n x.1 x.2.1 x.2.2⟩
theorem i_WorthClaims_ok (n : Nat) : EntOK Try.prog (i_WorthClaims_e n) ∧ Own Try.prog 81 := ent_ok tabOK0 (.cons (i_areClaims_ok n) (.cons (_impl_Game__isPlayer_ok n) (.cons (_impl_Game__own_ok n) (.cons (__impl_Game__run'pl_ooo_ok n) (.cons (_impl_Game__points_ok n) .nil))))) Try.func81 rfl (by kernel_rfl) (i_WorthClaims_ev n)
def s_l8Points_i : CSh := ⟨[(.data false (.pair (.pair tI (.pair tI (.sl (.arr 4 tI)))) (.pair (.sl tI) (.sl tI))))], []⟩
def s_l8Points_o : RSh := ⟨(.own 0), [.rows 3 true tI]⟩
theorem s_l8Points_ev (n : Nat) (x : TupT s_l8Points_i.tys) : evF ⟨tab, [], n, [(8, ⟨[(1, (.ptr 0 [])), (3, (.own 1)), (4, (.data true tI))], [.var 66 (.data false (.pair (.pair tI (.pair tI (.sl (.arr 4 tI)))) (.pair (.sl tI) (.sl tI)))), .rows 3 true tI], 0⟩)]⟩ Try.f177 s_l8Points_i s_l8Points_o x = s_l8Points n x := by kernel_rfl
noncomputable def s_l8Points_e (n : Nat) : Ent := ⟨177, s_l8Points_i, s_l8Points_o, fun x => s_l8Points n x⟩
theorem s_l8Points_ok (n : Nat) : EntOK Try.prog (s_l8Points_e n) ∧ Own Try.prog 177 := ent_ok tabOK0 .nil Try.func177 rfl (by kernel_rfl) (s_l8Points_ev n)
def s_WorthClaims_i : CSh := ⟨[(.data false (.pair (.pair tI (.pair tI (.sl (.arr 4 tI)))) (.pair (.sl tI) (.sl tI)))), (.data false (.sl (.pair tI (.arr 3 tI)))), (.data true tI)], []⟩
def s_WorthClaims_o : RSh := ⟨(.tcons (.data true tI) (.tcons (.data true .bool) .tnil)), []⟩
theorem s_WorthClaims_ev (n : Nat) (x : TupT s_WorthClaims_i.tys) : evF ⟨tab, [s_RunClaims_e n, s_l1In_e n, s_l8Points_e n], n, []⟩ Try.f82 s_WorthClaims_i s_WorthClaims_o x = s_WorthClaims n x.1 x.2.1 x.2.2 := by kernel_rfl
noncomputable def s_WorthClaims_e (n : Nat) : Ent := ⟨82, s_WorthClaims_i, s_WorthClaims_o, fun x => s_WorthClaims n x.1 x.2.1 x.2.2⟩
theorem s_WorthClaims_ok (n : Nat) : EntOK Try.prog (s_WorthClaims_e n) ∧ Own Try.prog 82 := ent_ok tabOK0 (.cons (s_RunClaims_ok n) (.cons (s_l1In_ok n) (.cons (s_l8Points_ok n) .nil))) Try.func82 rfl (by kernel_rfl) (s_WorthClaims_ev n)
def s_DrawNewGame_i : CSh := ⟨[(.data false (.sl (.int .u8)))], []⟩
def s_DrawNewGame_o : RSh := ⟨(.tcons (.data true tI) (.tcons (.data true tI) .tnil)), []⟩
theorem s_DrawNewGame_ev (n : Nat) (x : TupT s_DrawNewGame_i.tys) : evF ⟨tab, [s_Cur_seedOf'p_e n, s_Cur_among'pl_e n], n, []⟩ Try.f83 s_DrawNewGame_i s_DrawNewGame_o x = s_DrawNewGame n x := by kernel_rfl
noncomputable def s_DrawNewGame_e (n : Nat) : Ent := ⟨83, s_DrawNewGame_i, s_DrawNewGame_o, fun x => s_DrawNewGame n x⟩
theorem s_DrawNewGame_ok (n : Nat) : EntOK Try.prog (s_DrawNewGame_e n) ∧ Own Try.prog 83 := ent_ok tabOK0 (.cons (s_Cur_seedOf'p_ok n) (.cons (s_Cur_among'pl_ok n) .nil)) Try.func83 rfl (by kernel_rfl) (s_DrawNewGame_ev n)
def i_newDeal_i : CSh := ⟨[(.data true tI)], []⟩
def i_newDeal_o : RSh := ⟨(.pr (.data true tI) (.pr (.data true tI) (.own 0))), [.rows 54 true (.arr 4 tI)]⟩
theorem i_newDeal_ev (n : Nat) (x : TupT i_newDeal_i.tys) : evF ⟨tab, [i_pile_e n, slices_Clone_SA4_A4__e n], n, []⟩ Try.f203 i_newDeal_i i_newDeal_o x = i_newDeal n x := by kernel_rfl
noncomputable def i_newDeal_e (n : Nat) : Ent := ⟨203, i_newDeal_i, i_newDeal_o, fun x => i_newDeal n x⟩
theorem i_newDeal_ok (n : Nat) : EntOK Try.prog (i_newDeal_e n) ∧ Own Try.prog 203 := ent_ok tabOK0 (.cons (i_pile_ok n) (.cons (slices_Clone_SA4_A4__ok n) .nil)) Try.func203 rfl (by kernel_rfl) (i_newDeal_ev n)
def i_NewGame_i : CSh := ⟨[(.data true tI), (.data true tI)], []⟩
def i_NewGame_o : RSh := ⟨(.tcons (.pr (.pr (.data true tI) (.pr (.data true tI) (.own 0))) (.pr (.own 1) (.own 2))) (.tcons (.data true .bool) .tnil)), [.rows 54 true (.arr 4 tI), .rows 3 true tI, .rows 3 true tI]⟩
theorem i_NewGame_ev (n : Nat) (x : TupT i_NewGame_i.tys) : evF ⟨tab, [i_isSeed_e n, i_within_e n, i_newDeal_e n], n, []⟩ Try.f84 i_NewGame_i i_NewGame_o x = i_NewGame n x.1 x.2 := by kernel_rfl
noncomputable def i_NewGame_e (n : Nat) : Ent := ⟨84, i_NewGame_i, i_NewGame_o, fun x => i_NewGame n x.1 x.2⟩
theorem i_NewGame_ok (n : Nat) : EntOK Try.prog (i_NewGame_e n) ∧ Own Try.prog 84 := ent_ok tabOK0 (.cons (i_isSeed_ok n) (.cons (i_within_ok n) (.cons (i_newDeal_ok n) .nil))) Try.func84 rfl (by kernel_rfl) (i_NewGame_ev n)
def s_NewGame_i : CSh := ⟨[(.data true tI), (.data true tI)], []⟩
def s_NewGame_o : RSh := ⟨(.tcons (.pr (.pr (.data true tI) (.pr (.data true tI) (.own 0))) (.pr (.own 1) (.own 2))) (.tcons (.data true .bool) .tnil)), [.rows 54 true (.arr 4 tI), .rows 3 true tI, .rows 3 true tI]⟩
theorem s_NewGame_ev (n : Nat) (x : TupT s_NewGame_i.tys) : evF ⟨tab, [s_NewDeal_e n, s_l1In_e n], n, []⟩ Try.f85 s_NewGame_i s_NewGame_o x = s_NewGame n x.1 x.2 := by kernel_rfl
noncomputable def s_NewGame_e (n : Nat) : Ent := ⟨85, s_NewGame_i, s_NewGame_o, fun x => s_NewGame n x.1 x.2⟩
theorem s_NewGame_ok (n : Nat) : EntOK Try.prog (s_NewGame_e n) ∧ Own Try.prog 85 := ent_ok tabOK0 (.cons (s_NewDeal_ok n) (.cons (s_l1In_ok n) .nil)) Try.func85 rfl (by kernel_rfl) (s_NewGame_ev n)
def i_PileOf_i : CSh := ⟨[(.data true tI)], []⟩
def i_PileOf_o : RSh := ⟨(.tcons (.own 0) (.tcons (.data true .bool) .tnil)), [.rows 54 true (.arr 4 tI)]⟩
theorem i_PileOf_ev (n : Nat) (x : TupT i_PileOf_i.tys) : evF ⟨tab, [i_isSeed_e n, i_pile_e n], n, []⟩ Try.f86 i_PileOf_i i_PileOf_o x = i_PileOf n x := by kernel_rfl
noncomputable def i_PileOf_e (n : Nat) : Ent := ⟨86, i_PileOf_i, i_PileOf_o, fun x => i_PileOf n x⟩
theorem i_PileOf_ok (n : Nat) : EntOK Try.prog (i_PileOf_e n) ∧ Own Try.prog 86 := ent_ok tabOK0 (.cons (i_isSeed_ok n) (.cons (i_pile_ok n) .nil)) Try.func86 rfl (by kernel_rfl) (i_PileOf_ev n)
def v_rSum_i : CSh := ⟨[(.data false (.pair tI (.pair tI (.sl (.arr 4 tI))))), (.data false (.sl (.arr 4 tI)))], []⟩
def v_rSum_o : RSh := ⟨(.data true (.arr 4 tI)), []⟩
theorem v_rSum_ev (n : Nat) (x : TupT v_rSum_i.tys) : evF ⟨tab, [], n, [(8, ⟨[(1, (.data false (.sl (.arr 4 tI)))), (2, (.ptr 0 [])), (4, (.ptr 1 [])), (5, (.ptr 2 [])), (6, (.data true tI))], [.var 64 (.data false (.pair tI (.pair tI (.sl (.arr 4 tI))))), .var 54 (.data true (.arr 4 tI)), .var 54 (.data true (.arr 4 tI))], 0⟩), (20, ⟨[(1, (.data false (.sl (.arr 4 tI)))), (2, (.ptr 0 [])), (4, (.ptr 1 [])), (5, (.ptr 2 [])), (6, (.data true tI)), (7, (.data true tI))], [.var 64 (.data false (.pair tI (.pair tI (.sl (.arr 4 tI))))), .var 54 (.data true (.arr 4 tI)), .var 54 (.data true (.arr 4 tI))], 0⟩), (36, ⟨[(1, (.data false (.sl (.arr 4 tI)))), (4, (.ptr 0 [])), (5, (.ptr 1 [])), (8, (.data true tI))], [.var 54 (.data true (.arr 4 tI)), .var 54 (.data true (.arr 4 tI))], 0⟩), (48, ⟨[(1, (.data false (.sl (.arr 4 tI)))), (4, (.ptr 0 [])), (5, (.ptr 1 [])), (8, (.data true tI)), (9, (.data true tI))], [.var 54 (.data true (.arr 4 tI)), .var 54 (.data true (.arr 4 tI))], 0⟩)]⟩ Try.f87 v_rSum_i v_rSum_o x = v_rSum n x.1 x.2 := by kernel_rfl
noncomputable def v_rSum_e (n : Nat) : Ent := ⟨87, v_rSum_i, v_rSum_o, fun x => v_rSum n x.1 x.2⟩
theorem v_rSum_ok (n : Nat) : EntOK Try.prog (v_rSum_e n) ∧ Own Try.prog 87 := ent_ok tabOK0 .nil Try.func87 rfl (by kernel_rfl) (v_rSum_ev n)
def v_FnClaims_i : CSh := ⟨[(.data false (.sl (.int .u8)))], []⟩
def v_FnClaims_o : RSh := ⟨(.data true .bool), []⟩
theorem v_FnClaims_ev (n : Nat) (x : TupT v_FnClaims_i.tys) : evF ⟨tab, [v_rBig_e n, s_DrawMakeClaim_e n, i_MakeClaim_e n, s_MakeClaim_e n, v_rGame_e n, s_DrawClaimKind_e n, i_ClaimKind_e n, s_ClaimKind_e n, s_DrawRunClaims_e n, i_RunClaims_e n, s_RunClaims_e n, i_FirstRight_e n, s_FirstRight_e n, s_DrawWorthClaims_e n, i_WorthClaims_e n, s_WorthClaims_e n, s_DrawNewGame_e n, i_NewGame_e n, s_NewGame_e n, i_IsGame_e n, i_PileOf_e n, v_rSum_e n], n, [(92, ⟨[(17, (.ptr 0 [])), (18, (.own 1)), (19, (.ptr 2 [])), (20, (.ptr 3 [])), (21, (.data true .bool))], [.var 66 (.pr (.pr (.data true tI) (.pr (.data true tI) (.own 4))) (.pr (.own 5) (.own 6))), .rows 77 true (.pair tI (.arr 3 tI)), .var 66 (.pr (.pr (.data true tI) (.pr (.data true tI) (.own 7))) (.pr (.own 8) (.own 9))), .var 54 (.data true (.arr 4 tI)), .rows 54 true (.arr 4 tI), .rows 3 true tI, .rows 3 true tI, .rows 54 true (.arr 4 tI), .rows 3 true tI, .rows 3 true tI], 0⟩), (117, ⟨[(3, (.ptr 0 [])), (4, (.ptr 1 [])), (5, (.ptr 2 [])), (6, (.data true tI)), (17, (.ptr 3 [])), (18, (.own 4)), (19, (.ptr 5 [])), (20, (.ptr 6 [])), (21, (.data true .bool)), (44, (.data true tI))], [.var 66 (.pr (.pr (.data true tI) (.pr (.data true tI) (.own 7))) (.pr (.own 8) (.own 9))), .var 77 (.data true (.pair tI (.arr 3 tI))), .var 66 (.pr (.pr (.data true tI) (.pr (.data true tI) (.own 10))) (.pr (.own 11) (.own 12))), .var 66 (.pr (.pr (.data true tI) (.pr (.data true tI) (.own 13))) (.pr (.own 14) (.own 15))), .rows 77 true (.pair tI (.arr 3 tI)), .var 66 (.pr (.pr (.data true tI) (.pr (.data true tI) (.own 16))) (.pr (.own 17) (.own 18))), .var 54 (.data true (.arr 4 tI)), .rows 54 true (.arr 4 tI), .rows 3 true tI, .rows 3 true tI, .rows 54 true (.arr 4 tI), .rows 3 true tI, .rows 3 true tI, .rows 54 true (.arr 4 tI), .rows 3 true tI, .rows 3 true tI, .rows 54 true (.arr 4 tI), .rows 3 true tI, .rows 3 true tI], 0⟩), (128, ⟨[(3, (.ptr 0 [])), (4, (.ptr 1 [])), (5, (.ptr 2 [])), (6, (.data true tI)), (17, (.ptr 3 [])), (18, (.own 4)), (19, (.ptr 5 [])), (20, (.ptr 6 [])), (21, (.data true .bool)), (44, (.data true tI)), (45, (.data true tI)), (46, (.data true tI))], [.var 66 (.pr (.pr (.data true tI) (.pr (.data true tI) (.own 7))) (.pr (.own 8) (.own 9))), .var 77 (.data true (.pair tI (.arr 3 tI))), .var 66 (.pr (.pr (.data true tI) (.pr (.data true tI) (.own 10))) (.pr (.own 11) (.own 12))), .var 66 (.pr (.pr (.data true tI) (.pr (.data true tI) (.own 13))) (.pr (.own 14) (.own 15))), .rows 77 true (.pair tI (.arr 3 tI)), .var 66 (.pr (.pr (.data true tI) (.pr (.data true tI) (.own 16))) (.pr (.own 17) (.own 18))), .var 54 (.data true (.arr 4 tI)), .rows 54 true (.arr 4 tI), .rows 3 true tI, .rows 3 true tI, .rows 54 true (.arr 4 tI), .rows 3 true tI, .rows 3 true tI, .rows 54 true (.arr 4 tI), .rows 3 true tI, .rows 3 true tI, .rows 54 true (.arr 4 tI), .rows 3 true tI, .rows 3 true tI], 0⟩), (134, ⟨[(3, (.ptr 0 [])), (4, (.ptr 1 [])), (5, (.ptr 2 [])), (6, (.data true tI)), (17, (.ptr 3 [])), (18, (.own 4)), (19, (.ptr 5 [])), (20, (.ptr 6 [])), (21, (.data true .bool)), (44, (.data true tI)), (45, (.data true tI)), (46, (.data true tI))], [.var 66 (.pr (.pr (.data true tI) (.pr (.data true tI) (.own 7))) (.pr (.own 8) (.own 9))), .var 77 (.data true (.pair tI (.arr 3 tI))), .var 66 (.pr (.pr (.data true tI) (.pr (.data true tI) (.own 10))) (.pr (.own 11) (.own 12))), .var 66 (.pr (.pr (.data true tI) (.pr (.data true tI) (.own 13))) (.pr (.own 14) (.own 15))), .rows 77 true (.pair tI (.arr 3 tI)), .var 66 (.pr (.pr (.data true tI) (.pr (.data true tI) (.own 16))) (.pr (.own 17) (.own 18))), .var 54 (.data true (.arr 4 tI)), .rows 54 true (.arr 4 tI), .rows 3 true tI, .rows 3 true tI, .rows 54 true (.arr 4 tI), .rows 3 true tI, .rows 3 true tI, .rows 54 true (.arr 4 tI), .rows 3 true tI, .rows 3 true tI, .rows 54 true (.arr 4 tI), .rows 3 true tI, .rows 3 true tI], 0⟩), (165, ⟨[(18, (.own 0)), (19, (.ptr 1 [])), (20, (.ptr 2 [])), (47, (.ptr 3 [])), (48, (.ptr 4 [])), (49, (.data true tI))], [.rows 77 true (.pair tI (.arr 3 tI)), .var 66 (.pr (.pr (.data true tI) (.pr (.data true tI) (.own 5))) (.pr (.own 6) (.own 7))), .var 54 (.data true (.arr 4 tI)), .var 66 (.pr (.pr (.data true tI) (.pr (.data true tI) (.own 8))) (.pr (.own 9) (.own 10))), .var 54 (.data true (.arr 4 tI)), .rows 54 true (.arr 4 tI), .rows 3 true tI, .rows 3 true tI, .rows 54 true (.arr 4 tI), .rows 3 true tI, .rows 3 true tI], 0⟩)]⟩ Try.f6 v_FnClaims_i v_FnClaims_o x = v_FnClaims n x := by kernel_rfl
noncomputable def v_FnClaims_e (n : Nat) : Ent := ⟨6, v_FnClaims_i, v_FnClaims_o, fun x => v_FnClaims n x⟩
theorem v_FnClaims_ok (n : Nat) : EntOK Try.prog (v_FnClaims_e n) ∧ Own Try.prog 6 := ent_ok tabOK0 (.cons (v_rBig_ok n) (.cons (s_DrawMakeClaim_ok n) (.cons (i_MakeClaim_ok n) (.cons (s_MakeClaim_ok n) (.cons (v_rGame_ok n) (.cons (s_DrawClaimKind_ok n) (.cons (i_ClaimKind_ok n) (.cons (s_ClaimKind_ok n) (.cons (s_DrawRunClaims_ok n) (.cons (i_RunClaims_ok n) (.cons (s_RunClaims_ok n) (.cons (i_FirstRight_ok n) (.cons (s_FirstRight_ok n) (.cons (s_DrawWorthClaims_ok n) (.cons (i_WorthClaims_ok n) (.cons (s_WorthClaims_ok n) (.cons (s_DrawNewGame_ok n) (.cons (i_NewGame_ok n) (.cons (s_NewGame_ok n) (.cons (i_IsGame_ok n) (.cons (i_PileOf_ok n) (.cons (v_rSum_ok n) .nil)))))))))))))))))))))) Try.func6 rfl (by kernel_rfl) (v_FnClaims_ev n)
end Go.Proofs.Ytfoielhhflbbfaa
