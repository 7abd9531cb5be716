/- Printed by a program of the session: the contracts of the seat's functions. -/
import Derived.Test.YtogpfbmanlicdaaZ7
import Derived.Test.YtogpfbmanlicdaaPL
import Derived.Test.YtogpfbmanlicdaaRows
import Derived.KernelRfl
namespace Go.Proofs.Ytogpfbmanlicdaa
open Go Go.Tv Go.Pl Go.RowKit
set_option linter.unusedVariables false
abbrev tI : Ty := .int .i64
def tab : Tab := ⟨[(2, ⟨tI, 0, 8⟩), (3, ⟨tI, 0, 8⟩), (4, ⟨.bool, 0, 1⟩), (5, ⟨(.int .u8), 0, 1⟩), (6, ⟨(.int .u8), 0, 1⟩), (7, ⟨(.pair tI (.pair tI (.pair .bool (.int .u8)))), 4, 24⟩), (8, ⟨(.pair tI (.pair tI (.pair .bool (.int .u8)))), 4, 24⟩), (9, ⟨.str, 0, 16⟩), (10, ⟨.str, 0, 16⟩), (11, ⟨.str, 0, 16⟩), (12, ⟨(.int .u64), 0, 8⟩), (13, ⟨(.pair .str (.int .u64)), 2, 24⟩), (14, ⟨(.pair .str (.int .u64)), 2, 24⟩), (21, ⟨(.int .i32), 0, 4⟩), (22, ⟨(.sl (.arr 4 tI)), 51, 32⟩), (23, ⟨(.pair tI (.pair tI (.sl (.arr 4 tI)))), 3, 40⟩), (24, ⟨(.pair tI (.pair tI (.sl (.arr 4 tI)))), 3, 40⟩), (25, ⟨(.sl tI), 3, 8⟩), (26, ⟨(.pair (.pair tI (.pair tI (.sl (.arr 4 tI)))) (.pair (.sl tI) (.sl tI))), 3, 88⟩), (27, ⟨(.pair (.pair tI (.pair tI (.sl (.arr 4 tI)))) (.pair (.sl tI) (.sl tI))), 3, 88⟩), (28, ⟨(.sl (.pair tI (.arr 3 tI))), 134, 32⟩), (33, ⟨(.pair tI (.pair tI (.sl (.arr 4 tI)))), 3, 40⟩), (34, ⟨(.pair (.pair tI (.pair tI (.sl (.arr 4 tI)))) (.pair (.sl tI) (.sl tI))), 3, 88⟩), (35, ⟨(.pair (.pair tI (.pair tI (.sl (.arr 4 tI)))) (.pair (.sl tI) (.sl tI))), 3, 88⟩), (37, ⟨(.sl (.pair tI (.arr 3 tI))), 91, 32⟩), (42, ⟨(.sl (.int .u8)), 5, 1⟩), (47, ⟨(.sl (.arr 6 tI)), 50, 48⟩), (50, ⟨(.arr 6 tI), 3, 8⟩), (51, ⟨(.arr 4 tI), 3, 8⟩), (54, ⟨(.sl (.arr 3 tI)), 65, 24⟩), (58, ⟨(.arr 5 tI), 3, 8⟩), (65, ⟨(.arr 3 tI), 3, 8⟩), (90, ⟨(.pair tI (.arr 3 tI)), 2, 32⟩), (91, ⟨(.pair tI (.arr 3 tI)), 2, 32⟩), (109, ⟨(.arr 4 (.arr 3 tI)), 65, 24⟩), (110, ⟨(.pair (.arr 4 tI) (.arr 4 (.arr 3 tI))), 2, 128⟩), (111, ⟨(.pair (.arr 4 tI) (.arr 4 (.arr 3 tI))), 2, 128⟩), (134, ⟨(.pair tI (.arr 3 tI)), 2, 32⟩), (143, ⟨(.int .u64), 0, 8⟩), (144, ⟨(.pair (.sl (.int .u8)) (.pair tI (.int .u64))), 3, 40⟩), (145, ⟨(.pair (.sl (.int .u8)) (.pair tI (.int .u64))), 3, 40⟩), (158, ⟨(.sl (.sl tI)), 25, 24⟩), (170, ⟨(.int .u64), 0, 8⟩), (197, ⟨(.arr 3 (.arr 4 tI)), 51, 32⟩), (198, ⟨(.arr 81 tI), 3, 8⟩), (205, ⟨(.int .u32), 0, 4⟩), (231, ⟨tI, 0, 8⟩), (237, ⟨(.sl (.sl (.arr 4 tI))), 22, 24⟩), (240, ⟨(.int .u64), 0, 8⟩), (262, ⟨(.int .u8), 0, 1⟩), (263, ⟨(.int .u8), 0, 1⟩), (266, ⟨(.int .i32), 0, 4⟩), (267, ⟨(.int .i32), 0, 4⟩)], [7, 8, 50, 51, 58, 65, 90, 91, 109, 110, 111, 134, 197, 198], [1, 29, 30, 32, 36, 38, 39, 40, 41, 43, 44, 46, 49, 53, 56, 57, 60, 61, 62, 63, 64, 66, 68, 69, 70, 71, 72, 73, 74, 75, 77, 78, 79, 81, 82, 83, 85, 86, 87, 88, 89, 93, 95, 96, 98, 99, 101, 103, 105, 107, 108, 113, 115, 117, 118, 120, 121, 123, 124, 125, 126, 127, 128, 129, 130, 131, 132, 133, 135, 136, 137, 138, 139, 140, 141, 146, 147, 148, 149, 150, 151, 152, 153, 154, 155, 156, 157, 159, 160, 161, 162, 163, 164, 165, 167, 168, 169, 171, 172, 173, 174, 175, 176, 177, 178, 179, 180, 181, 182, 183, 184, 185, 187, 188, 189, 190, 191, 192, 193, 194, 196, 199, 200, 201, 202, 203, 204, 206, 207, 208, 209, 210, 211, 212, 213, 214, 215, 216, 217, 218, 219, 220, 221, 222, 223, 224, 225, 226, 227, 228, 229, 230, 233, 234, 235, 236, 238, 239, 241, 242, 243, 245, 246, 247, 248, 249, 250, 252, 253, 254, 255, 256, 264]⟩
theorem tabOK0 : TabOK Try.prog tab := ⟨by kernel_rfl, by kernel_rfl⟩
def v_szIntA4S_i : CSh := ⟨[(.data false (.sl (.arr 4 tI))), (.data true tI)], []⟩
def v_szIntA4S_o : RSh := ⟨(.data true tI), []⟩
theorem v_szIntA4S_ev (n : Nat) (x : TupT v_szIntA4S_i.tys) : evF ⟨tab, [], n, []⟩ Try.f41 v_szIntA4S_i v_szIntA4S_o x = v_szIntA4S n x.1 x.2 := by kernel_rfl
noncomputable def v_szIntA4S_e (n : Nat) : Ent := ⟨41, v_szIntA4S_i, v_szIntA4S_o, fun x => v_szIntA4S n x.1 x.2⟩
theorem v_szIntA4S_ok (n : Nat) : EntOK Try.prog (v_szIntA4S_e n) ∧ Own Try.prog 41 := ent_ok tabOK0 .nil Try.func41 rfl (by kernel_rfl) (v_szIntA4S_ev n)
def v_szDeal_i : CSh := ⟨[(.data false (.pair tI (.pair tI (.sl (.arr 4 tI))))), (.data true tI)], []⟩
def v_szDeal_o : RSh := ⟨(.data true tI), []⟩
theorem v_szDeal_ev (n : Nat) (x : TupT v_szDeal_i.tys) : evF ⟨tab, [v_szIntA4S_e n], n, []⟩ Try.f106 v_szDeal_i v_szDeal_o x = v_szDeal n x.1 x.2 := by kernel_rfl
noncomputable def v_szDeal_e (n : Nat) : Ent := ⟨106, v_szDeal_i, v_szDeal_o, fun x => v_szDeal n x.1 x.2⟩
theorem v_szDeal_ok (n : Nat) : EntOK Try.prog (v_szDeal_e n) ∧ Own Try.prog 106 := ent_ok tabOK0 (.cons (v_szIntA4S_ok n) .nil) Try.func106 rfl (by kernel_rfl) (v_szDeal_ev n)
def v_szIntS_i : CSh := ⟨[(.data false (.sl tI)), (.data true tI)], []⟩
def v_szIntS_o : RSh := ⟨(.data true tI), []⟩
theorem v_szIntS_ev (n : Nat) (x : TupT v_szIntS_i.tys) : evF ⟨tab, [], n, []⟩ Try.f107 v_szIntS_i v_szIntS_o x = v_szIntS n x.1 x.2 := by kernel_rfl
noncomputable def v_szIntS_e (n : Nat) : Ent := ⟨107, v_szIntS_i, v_szIntS_o, fun x => v_szIntS n x.1 x.2⟩
theorem v_szIntS_ok (n : Nat) : EntOK Try.prog (v_szIntS_e n) ∧ Own Try.prog 107 := ent_ok tabOK0 .nil Try.func107 rfl (by kernel_rfl) (v_szIntS_ev n)
def v_szGame_i : CSh := ⟨[(.data false (.pair (.pair tI (.pair tI (.sl (.arr 4 tI)))) (.pair (.sl tI) (.sl tI)))), (.data true tI)], []⟩
def v_szGame_o : RSh := ⟨(.data true tI), []⟩
theorem v_szGame_ev (n : Nat) (x : TupT v_szGame_i.tys) : evF ⟨tab, [v_szDeal_e n, v_szIntS_e n], n, []⟩ Try.f11 v_szGame_i v_szGame_o x = v_szGame n x.1 x.2 := by kernel_rfl
noncomputable def v_szGame_e (n : Nat) : Ent := ⟨11, v_szGame_i, v_szGame_o, fun x => v_szGame n x.1 x.2⟩
theorem v_szGame_ok (n : Nat) : EntOK Try.prog (v_szGame_e n) ∧ Own Try.prog 11 := ent_ok tabOK0 (.cons (v_szDeal_ok n) (.cons (v_szIntS_ok n) .nil)) Try.func11 rfl (by kernel_rfl) (v_szGame_ev n)
def v_szClaimS_i : CSh := ⟨[(.data false (.sl (.pair tI (.arr 3 tI)))), (.data true tI)], []⟩
def v_szClaimS_o : RSh := ⟨(.data true tI), []⟩
theorem v_szClaimS_ev (n : Nat) (x : TupT v_szClaimS_i.tys) : evF ⟨tab, [], n, []⟩ Try.f12 v_szClaimS_i v_szClaimS_o x = v_szClaimS n x.1 x.2 := by kernel_rfl
noncomputable def v_szClaimS_e (n : Nat) : Ent := ⟨12, v_szClaimS_i, v_szClaimS_o, fun x => v_szClaimS n x.1 x.2⟩
theorem v_szClaimS_ok (n : Nat) : EntOK Try.prog (v_szClaimS_e n) ∧ Own Try.prog 12 := ent_ok tabOK0 .nil Try.func12 rfl (by kernel_rfl) (v_szClaimS_ev n)
def v_toIntA4_i : CSh := ⟨[(.data true (.arr 4 tI))], []⟩
def v_toIntA4_o : RSh := ⟨(.data true (.arr 4 tI)), []⟩
theorem v_toIntA4_ev (n : Nat) (x : TupT v_toIntA4_i.tys) : evF ⟨tab, [], n, [(8, ⟨[(1, (.ptr 0 [])), (2, (.ptr 1 [])), (3, (.ptr 2 [])), (4, (.data true tI))], [.var 51 (.data true (.arr 4 tI)), .var 51 (.data true (.arr 4 tI)), .var 51 (.data true (.arr 4 tI))], 0⟩)]⟩ Try.f153 v_toIntA4_i v_toIntA4_o x = v_toIntA4 n x := by kernel_rfl
noncomputable def v_toIntA4_e (n : Nat) : Ent := ⟨153, v_toIntA4_i, v_toIntA4_o, fun x => v_toIntA4 n x⟩
theorem v_toIntA4_ok (n : Nat) : EntOK Try.prog (v_toIntA4_e n) ∧ Own Try.prog 153 := ent_ok tabOK0 .nil Try.func153 rfl (by kernel_rfl) (v_toIntA4_ev n)
def v_toIntA4S_i : CSh := ⟨[(.data false (.sl (.arr 4 tI)))], []⟩
def v_toIntA4S_o : RSh := ⟨(.own 0), [.rows 51 true (.arr 4 tI)]⟩
theorem v_toIntA4S_ev (n : Nat) (x : TupT v_toIntA4S_i.tys) : evF ⟨tab, [v_toIntA4_e n], n, [(8, ⟨[(0, (.data false (.sl (.arr 4 tI)))), (3, (.own 0)), (4, (.data true tI))], [.rows 51 true (.arr 4 tI)], 0⟩)]⟩ Try.f43 v_toIntA4S_i v_toIntA4S_o x = v_toIntA4S n x := by kernel_rfl
noncomputable def v_toIntA4S_e (n : Nat) : Ent := ⟨43, v_toIntA4S_i, v_toIntA4S_o, fun x => v_toIntA4S n x⟩
theorem v_toIntA4S_ok (n : Nat) : EntOK Try.prog (v_toIntA4S_e n) ∧ Own Try.prog 43 := ent_ok tabOK0 (.cons (v_toIntA4_ok n) .nil) Try.func43 rfl (by kernel_rfl) (v_toIntA4S_ev n)
def v_toDeal_i : CSh := ⟨[(.data false (.pair tI (.pair tI (.sl (.arr 4 tI)))))], []⟩
def v_toDeal_o : RSh := ⟨(.pr (.data true tI) (.pr (.data true tI) (.own 0))), [.rows 51 true (.arr 4 tI)]⟩
theorem v_toDeal_ev (n : Nat) (x : TupT v_toDeal_i.tys) : evF ⟨tab, [v_toIntA4S_e n], n, []⟩ Try.f110 v_toDeal_i v_toDeal_o x = v_toDeal n x := by kernel_rfl
noncomputable def v_toDeal_e (n : Nat) : Ent := ⟨110, v_toDeal_i, v_toDeal_o, fun x => v_toDeal n x⟩
theorem v_toDeal_ok (n : Nat) : EntOK Try.prog (v_toDeal_e n) ∧ Own Try.prog 110 := ent_ok tabOK0 (.cons (v_toIntA4S_ok n) .nil) Try.func110 rfl (by kernel_rfl) (v_toDeal_ev n)
def v_toIntS_i : CSh := ⟨[(.data false (.sl tI))], []⟩
def v_toIntS_o : RSh := ⟨(.own 0), [.rows 3 true tI]⟩
theorem v_toIntS_ev (n : Nat) (x : TupT v_toIntS_i.tys) : evF ⟨tab, [], n, [(8, ⟨[(0, (.data false (.sl tI))), (3, (.own 0)), (4, (.data true tI))], [.rows 3 true tI], 0⟩)]⟩ Try.f111 v_toIntS_i v_toIntS_o x = v_toIntS n x := by kernel_rfl
noncomputable def v_toIntS_e (n : Nat) : Ent := ⟨111, v_toIntS_i, v_toIntS_o, fun x => v_toIntS n x⟩
theorem v_toIntS_ok (n : Nat) : EntOK Try.prog (v_toIntS_e n) ∧ Own Try.prog 111 := ent_ok tabOK0 .nil Try.func111 rfl (by kernel_rfl) (v_toIntS_ev n)
def v_toGame_i : CSh := ⟨[(.data false (.pair (.pair tI (.pair tI (.sl (.arr 4 tI)))) (.pair (.sl tI) (.sl tI))))], []⟩
def v_toGame_o : RSh := ⟨(.pr (.pr (.data true tI) (.pr (.data true tI) (.own 0))) (.pr (.own 1) (.own 2))), [.rows 51 true (.arr 4 tI), .rows 3 true tI, .rows 3 true tI]⟩
theorem v_toGame_ev (n : Nat) (x : TupT v_toGame_i.tys) : evF ⟨tab, [v_toDeal_e n, v_toIntS_e n], n, []⟩ Try.f14 v_toGame_i v_toGame_o x = v_toGame n x := by kernel_rfl
noncomputable def v_toGame_e (n : Nat) : Ent := ⟨14, v_toGame_i, v_toGame_o, fun x => v_toGame n x⟩
theorem v_toGame_ok (n : Nat) : EntOK Try.prog (v_toGame_e n) ∧ Own Try.prog 14 := ent_ok tabOK0 (.cons (v_toDeal_ok n) (.cons (v_toIntS_ok n) .nil)) Try.func14 rfl (by kernel_rfl) (v_toGame_ev n)
def v_toIntA3_i : CSh := ⟨[(.data true (.arr 3 tI))], []⟩
def v_toIntA3_o : RSh := ⟨(.data true (.arr 3 tI)), []⟩
theorem v_toIntA3_ev (n : Nat) (x : TupT v_toIntA3_i.tys) : evF ⟨tab, [], n, [(8, ⟨[(1, (.ptr 0 [])), (2, (.ptr 1 [])), (3, (.ptr 2 [])), (4, (.data true tI))], [.var 65 (.data true (.arr 3 tI)), .var 65 (.data true (.arr 3 tI)), .var 65 (.data true (.arr 3 tI))], 0⟩)]⟩ Try.f202 v_toIntA3_i v_toIntA3_o x = v_toIntA3 n x := by kernel_rfl
noncomputable def v_toIntA3_e (n : Nat) : Ent := ⟨202, v_toIntA3_i, v_toIntA3_o, fun x => v_toIntA3 n x⟩
theorem v_toIntA3_ok (n : Nat) : EntOK Try.prog (v_toIntA3_e n) ∧ Own Try.prog 202 := ent_ok tabOK0 .nil Try.func202 rfl (by kernel_rfl) (v_toIntA3_ev n)
def v_toClaim_i : CSh := ⟨[(.data true (.pair tI (.arr 3 tI)))], []⟩
def v_toClaim_o : RSh := ⟨(.data true (.pair tI (.arr 3 tI))), []⟩
theorem v_toClaim_ev (n : Nat) (x : TupT v_toClaim_i.tys) : evF ⟨tab, [v_toIntA3_e n], n, []⟩ Try.f112 v_toClaim_i v_toClaim_o x = v_toClaim n x := by kernel_rfl
noncomputable def v_toClaim_e (n : Nat) : Ent := ⟨112, v_toClaim_i, v_toClaim_o, fun x => v_toClaim n x⟩
theorem v_toClaim_ok (n : Nat) : EntOK Try.prog (v_toClaim_e n) ∧ Own Try.prog 112 := ent_ok tabOK0 (.cons (v_toIntA3_ok n) .nil) Try.func112 rfl (by kernel_rfl) (v_toClaim_ev n)
def v_toClaimS_i : CSh := ⟨[(.data false (.sl (.pair tI (.arr 3 tI))))], []⟩
def v_toClaimS_o : RSh := ⟨(.own 0), [.rows 91 true (.pair tI (.arr 3 tI))]⟩
theorem v_toClaimS_ev (n : Nat) (x : TupT v_toClaimS_i.tys) : evF ⟨tab, [v_toClaim_e n], n, [(8, ⟨[(0, (.data false (.sl (.pair tI (.arr 3 tI))))), (3, (.own 0)), (4, (.data true tI))], [.rows 91 true (.pair tI (.arr 3 tI))], 0⟩)]⟩ Try.f15 v_toClaimS_i v_toClaimS_o x = v_toClaimS n x := by kernel_rfl
noncomputable def v_toClaimS_e (n : Nat) : Ent := ⟨15, v_toClaimS_i, v_toClaimS_o, fun x => v_toClaimS n x⟩
theorem v_toClaimS_ok (n : Nat) : EntOK Try.prog (v_toClaimS_e n) ∧ Own Try.prog 15 := ent_ok tabOK0 (.cons (v_toClaim_ok n) .nil) Try.func15 rfl (by kernel_rfl) (v_toClaimS_ev n)
def s_l1In_i : CSh := ⟨[(.data true tI), (.data true tI), (.data true tI)], []⟩
def s_l1In_o : RSh := ⟨(.data true .bool), []⟩
theorem s_l1In_ev (n : Nat) (x : TupT s_l1In_i.tys) : evF ⟨tab, [], n, []⟩ Try.f108 s_l1In_i s_l1In_o x = s_l1In n x.1 x.2.1 x.2.2 := by kernel_rfl
noncomputable def s_l1In_e (n : Nat) : Ent := ⟨108, s_l1In_i, s_l1In_o, fun x => s_l1In n x.1 x.2.1 x.2.2⟩
theorem s_l1In_ok (n : Nat) : EntOK Try.prog (s_l1In_e n) ∧ Own Try.prog 108 := ent_ok tabOK0 .nil Try.func108 rfl (by kernel_rfl) (s_l1In_ev n)
def s_l4Seed_i : CSh := ⟨[(.data true tI)], []⟩
def s_l4Seed_o : RSh := ⟨(.data true .bool), []⟩
theorem s_l4Seed_ev (n : Nat) (x : TupT s_l4Seed_i.tys) : evF ⟨tab, [s_l1In_e n], n, []⟩ Try.f236 s_l4Seed_i s_l4Seed_o x = s_l4Seed n x := by kernel_rfl
noncomputable def s_l4Seed_e (n : Nat) : Ent := ⟨236, s_l4Seed_i, s_l4Seed_o, fun x => s_l4Seed n x⟩
theorem s_l4Seed_ok (n : Nat) : EntOK Try.prog (s_l4Seed_e n) ∧ Own Try.prog 236 := ent_ok tabOK0 (.cons (s_l1In_ok n) .nil) Try.func236 rfl (by kernel_rfl) (s_l4Seed_ev n)
def s_l2At_i : CSh := ⟨[(.data true tI)], []⟩
def s_l2At_o : RSh := ⟨(.data true (.arr 4 tI)), []⟩
theorem s_l2At_ev (n : Nat) (x : TupT s_l2At_i.tys) : evF ⟨tab, [], n, []⟩ Try.f126 s_l2At_i s_l2At_o x = s_l2At n x := by kernel_rfl
noncomputable def s_l2At_e (n : Nat) : Ent := ⟨126, s_l2At_i, s_l2At_o, fun x => s_l2At n x⟩
theorem s_l2At_ok (n : Nat) : EntOK Try.prog (s_l2At_e n) ∧ Own Try.prog 126 := ent_ok tabOK0 .nil Try.func126 rfl (by kernel_rfl) (s_l2At_ev n)
def s_l4Behind_i : CSh := ⟨[(.data true tI)], []⟩
def s_l4Behind_o : RSh := ⟨(.data true tI), []⟩
theorem s_l4Behind_ev (n : Nat) (x : TupT s_l4Behind_i.tys) : evF ⟨tab, [], n, []⟩ Try.f267 s_l4Behind_i s_l4Behind_o x = s_l4Behind n x := by kernel_rfl
noncomputable def s_l4Behind_e (n : Nat) : Ent := ⟨267, s_l4Behind_i, s_l4Behind_o, fun x => s_l4Behind n x⟩
theorem s_l4Behind_ok (n : Nat) : EntOK Try.prog (s_l4Behind_e n) ∧ Own Try.prog 267 := ent_ok tabOK0 .nil Try.func267 rfl (by kernel_rfl) (s_l4Behind_ev n)
def s_l4Pile_i : CSh := ⟨[(.data true tI)], []⟩
def s_l4Pile_o : RSh := ⟨(.own 0), [.rows 51 true (.arr 4 tI)]⟩
theorem s_l4Pile_ev (n : Nat) (x : TupT s_l4Pile_i.tys) : evF ⟨tab, [s_l2At_e n, s_l4Behind_e n], n, [(8, ⟨[(0, (.data true tI)), (3, (.own 0)), (4, (.data true tI))], [.rows 51 true (.arr 4 tI)], 0⟩), (23, ⟨[(0, (.data true tI)), (3, (.own 0)), (5, (.data true tI))], [.rows 51 true (.arr 4 tI)], 0⟩)]⟩ Try.f237 s_l4Pile_i s_l4Pile_o x = s_l4Pile n x := by kernel_rfl
noncomputable def s_l4Pile_e (n : Nat) : Ent := ⟨237, s_l4Pile_i, s_l4Pile_o, fun x => s_l4Pile n x⟩
theorem s_l4Pile_ok (n : Nat) : EntOK Try.prog (s_l4Pile_e n) ∧ Own Try.prog 237 := ent_ok tabOK0 (.cons (s_l2At_ok n) (.cons (s_l4Behind_ok n) .nil)) Try.func237 rfl (by kernel_rfl) (s_l4Pile_ev n)
def s_l2Place_i : CSh := ⟨[(.data false (.sl (.arr 4 tI))), (.data true (.arr 4 tI))], []⟩
def s_l2Place_o : RSh := ⟨(.data true tI), []⟩
theorem s_l2Place_ev (n : Nat) (x : TupT s_l2Place_i.tys) : evF ⟨tab, [], n, [(6, ⟨[(0, (.data false (.sl (.arr 4 tI)))), (3, (.ptr 0 [])), (5, (.data true tI))], [.var 51 (.data true (.arr 4 tI))], 0⟩)]⟩ Try.f213 s_l2Place_i s_l2Place_o x = s_l2Place n x.1 x.2 := by kernel_rfl
noncomputable def s_l2Place_e (n : Nat) : Ent := ⟨213, s_l2Place_i, s_l2Place_o, fun x => s_l2Place n x.1 x.2⟩
theorem s_l2Place_ok (n : Nat) : EntOK Try.prog (s_l2Place_e n) ∧ Own Try.prog 213 := ent_ok tabOK0 .nil Try.func213 rfl (by kernel_rfl) (s_l2Place_ev n)
def s_l2Has_i : CSh := ⟨[(.data false (.sl (.arr 4 tI))), (.data true (.arr 4 tI))], []⟩
def s_l2Has_o : RSh := ⟨(.data true .bool), []⟩
theorem s_l2Has_ev (n : Nat) (x : TupT s_l2Has_i.tys) : evF ⟨tab, [s_l2Place_e n], n, []⟩ Try.f238 s_l2Has_i s_l2Has_o x = s_l2Has n x.1 x.2 := by kernel_rfl
noncomputable def s_l2Has_e (n : Nat) : Ent := ⟨238, s_l2Has_i, s_l2Has_o, fun x => s_l2Has n x.1 x.2⟩
theorem s_l2Has_ok (n : Nat) : EntOK Try.prog (s_l2Has_e n) ∧ Own Try.prog 238 := ent_ok tabOK0 (.cons (s_l2Place_ok n) .nil) Try.func238 rfl (by kernel_rfl) (s_l2Has_ev n)
def s_l4Deal_i : CSh := ⟨[(.data false (.pair tI (.pair tI (.sl (.arr 4 tI)))))], []⟩
def s_l4Deal_o : RSh := ⟨(.data true .bool), []⟩
theorem s_l4Deal_ev (n : Nat) (x : TupT s_l4Deal_i.tys) : evF ⟨tab, [s_l4Seed_e n, s_l1In_e n, s_l4Pile_e n, s_l2Has_e n], n, [(16, ⟨[(1, (.ptr 0 [])), (3, (.ownp 1)), (4, (.data true tI))], [.var 33 (.data false (.pair tI (.pair tI (.sl (.arr 4 tI))))), .rows 51 true (.arr 4 tI)], 0⟩)]⟩ Try.f179 s_l4Deal_i s_l4Deal_o x = s_l4Deal n x := by kernel_rfl
noncomputable def s_l4Deal_e (n : Nat) : Ent := ⟨179, s_l4Deal_i, s_l4Deal_o, fun x => s_l4Deal n x⟩
theorem s_l4Deal_ok (n : Nat) : EntOK Try.prog (s_l4Deal_e n) ∧ Own Try.prog 179 := ent_ok tabOK0 (.cons (s_l4Seed_ok n) (.cons (s_l1In_ok n) (.cons (s_l4Pile_ok n) (.cons (s_l2Has_ok n) .nil)))) Try.func179 rfl (by kernel_rfl) (s_l4Deal_ev n)
def s_l8Game_i : CSh := ⟨[(.data false (.pair (.pair tI (.pair tI (.sl (.arr 4 tI)))) (.pair (.sl tI) (.sl tI))))], []⟩
def s_l8Game_o : RSh := ⟨(.data true .bool), []⟩
theorem s_l8Game_ev (n : Nat) (x : TupT s_l8Game_i.tys) : evF ⟨tab, [s_l4Deal_e n, s_l1In_e n], n, [(14, ⟨[(1, (.ptr 0 [])), (3, (.data true tI))], [.var 35 (.data false (.pair (.pair tI (.pair tI (.sl (.arr 4 tI)))) (.pair (.sl tI) (.sl tI))))], 0⟩)]⟩ Try.f166 s_l8Game_i s_l8Game_o x = s_l8Game n x := by kernel_rfl
noncomputable def s_l8Game_e (n : Nat) : Ent := ⟨166, s_l8Game_i, s_l8Game_o, fun x => s_l8Game n x⟩
theorem s_l8Game_ok (n : Nat) : EntOK Try.prog (s_l8Game_e n) ∧ Own Try.prog 166 := ent_ok tabOK0 (.cons (s_l4Deal_ok n) (.cons (s_l1In_ok n) .nil)) Try.func166 rfl (by kernel_rfl) (s_l8Game_ev n)
def s_l2Own_i : CSh := ⟨[(.data false (.sl (.arr 4 tI)))], []⟩
def s_l2Own_o : RSh := ⟨(.own 0), [.rows 51 true (.arr 4 tI)]⟩
theorem s_l2Own_ev (n : Nat) (x : TupT s_l2Own_i.tys) : evF ⟨tab, [], n, []⟩ Try.f208 s_l2Own_i s_l2Own_o x = s_l2Own n x := by kernel_rfl
noncomputable def s_l2Own_e (n : Nat) : Ent := ⟨208, s_l2Own_i, s_l2Own_o, fun x => s_l2Own n x⟩
theorem s_l2Own_ok (n : Nat) : EntOK Try.prog (s_l2Own_e n) ∧ Own Try.prog 208 := ent_ok tabOK0 .nil Try.func208 rfl (by kernel_rfl) (s_l2Own_ev n)
def s_l1Own_i : CSh := ⟨[(.data false (.sl tI))], []⟩
def s_l1Own_o : RSh := ⟨(.own 0), [.rows 3 true tI]⟩
theorem s_l1Own_ev (n : Nat) (x : TupT s_l1Own_i.tys) : evF ⟨tab, [], n, []⟩ Try.f167 s_l1Own_i s_l1Own_o x = s_l1Own n x := by kernel_rfl
noncomputable def s_l1Own_e (n : Nat) : Ent := ⟨167, s_l1Own_i, s_l1Own_o, fun x => s_l1Own n x⟩
theorem s_l1Own_ok (n : Nat) : EntOK Try.prog (s_l1Own_e n) ∧ Own Try.prog 167 := ent_ok tabOK0 .nil Try.func167 rfl (by kernel_rfl) (s_l1Own_ev n)
def s_l8Own_i : CSh := ⟨[(.data false (.pair (.pair tI (.pair tI (.sl (.arr 4 tI)))) (.pair (.sl tI) (.sl tI))))], []⟩
def s_l8Own_o : RSh := ⟨(.pr (.pr (.data true tI) (.pr (.data true tI) (.own 0))) (.pr (.own 1) (.own 2))), [.rows 51 true (.arr 4 tI), .rows 3 true tI, .rows 3 true tI]⟩
theorem s_l8Own_ev (n : Nat) (x : TupT s_l8Own_i.tys) : evF ⟨tab, [s_l2Own_e n, s_l1Own_e n], n, []⟩ Try.f175 s_l8Own_i s_l8Own_o x = s_l8Own n x := by kernel_rfl
noncomputable def s_l8Own_e (n : Nat) : Ent := ⟨175, s_l8Own_i, s_l8Own_o, fun x => s_l8Own n x⟩
theorem s_l8Own_ok (n : Nat) : EntOK Try.prog (s_l8Own_e n) ∧ Own Try.prog 175 := ent_ok tabOK0 (.cons (s_l2Own_ok n) (.cons (s_l1Own_ok n) .nil)) Try.func175 rfl (by kernel_rfl) (s_l8Own_ev n)
def s_l2Third_i : CSh := ⟨[(.data true (.arr 4 tI)), (.data true (.arr 4 tI))], []⟩
def s_l2Third_o : RSh := ⟨(.data true (.arr 4 tI)), []⟩
theorem s_l2Third_ev (n : Nat) (x : TupT s_l2Third_i.tys) : evF ⟨tab, [], n, [(8, ⟨[(2, (.ptr 0 [])), (3, (.ptr 1 [])), (4, (.ptr 2 [])), (5, (.ptr 3 [])), (6, (.data true tI))], [.var 51 (.data true (.arr 4 tI)), .var 51 (.data true (.arr 4 tI)), .var 51 (.data true (.arr 4 tI)), .var 51 (.data true (.arr 4 tI))], 0⟩)]⟩ Try.f206 s_l2Third_i s_l2Third_o x = s_l2Third n x.1 x.2 := by kernel_rfl
noncomputable def s_l2Third_e (n : Nat) : Ent := ⟨206, s_l2Third_i, s_l2Third_o, fun x => s_l2Third n x.1 x.2⟩
theorem s_l2Third_ok (n : Nat) : EntOK Try.prog (s_l2Third_e n) ∧ Own Try.prog 206 := ent_ok tabOK0 .nil Try.func206 rfl (by kernel_rfl) (s_l2Third_ev n)
def s_l2Line_i : CSh := ⟨[(.data true (.arr 4 tI)), (.data true (.arr 4 tI)), (.data true (.arr 4 tI))], []⟩
def s_l2Line_o : RSh := ⟨(.data true .bool), []⟩
theorem s_l2Line_ev (n : Nat) (x : TupT s_l2Line_i.tys) : evF ⟨tab, [s_l2Third_e n], n, []⟩ Try.f211 s_l2Line_i s_l2Line_o x = s_l2Line n x.1 x.2.1 x.2.2 := by kernel_rfl
noncomputable def s_l2Line_e (n : Nat) : Ent := ⟨211, s_l2Line_i, s_l2Line_o, fun x => s_l2Line n x.1 x.2.1 x.2.2⟩
theorem s_l2Line_ok (n : Nat) : EntOK Try.prog (s_l2Line_e n) ∧ Own Try.prog 211 := ent_ok tabOK0 (.cons (s_l2Third_ok n) .nil) Try.func211 rfl (by kernel_rfl) (s_l2Line_ev n)
def s_l4Lines_i : CSh := ⟨[(.data false (.sl (.arr 4 tI)))], []⟩
def s_l4Lines_o : RSh := ⟨(.own 0), [.rows 65 true (.arr 3 tI)]⟩
theorem s_l4Lines_ev (n : Nat) (x : TupT s_l4Lines_i.tys) : evF ⟨tab, [s_l2Line_e n], n, [(8, ⟨[(0, (.data false (.sl (.arr 4 tI)))), (3, (.own 0)), (4, (.data true tI))], [.rows 65 true (.arr 3 tI)], 0⟩), (20, ⟨[(0, (.data false (.sl (.arr 4 tI)))), (3, (.own 0)), (4, (.data true tI)), (5, (.data true tI))], [.rows 65 true (.arr 3 tI)], 0⟩), (32, ⟨[(0, (.data false (.sl (.arr 4 tI)))), (3, (.own 0)), (4, (.data true tI)), (5, (.data true tI)), (6, (.data true tI))], [.rows 65 true (.arr 3 tI)], 0⟩)]⟩ Try.f180 s_l4Lines_i s_l4Lines_o x = s_l4Lines n x := by kernel_rfl
noncomputable def s_l4Lines_e (n : Nat) : Ent := ⟨180, s_l4Lines_i, s_l4Lines_o, fun x => s_l4Lines n x⟩
theorem s_l4Lines_ok (n : Nat) : EntOK Try.prog (s_l4Lines_e n) ∧ Own Try.prog 180 := ent_ok tabOK0 (.cons (s_l2Line_ok n) .nil) Try.func180 rfl (by kernel_rfl) (s_l4Lines_ev n)
def s_l1Least_i : CSh := ⟨[(.data true tI), (.data true tI)], []⟩
def s_l1Least_o : RSh := ⟨(.data true tI), []⟩
theorem s_l1Least_ev (n : Nat) (x : TupT s_l1Least_i.tys) : evF ⟨tab, [], n, []⟩ Try.f234 s_l1Least_i s_l1Least_o x = s_l1Least n x.1 x.2 := by kernel_rfl
noncomputable def s_l1Least_e (n : Nat) : Ent := ⟨234, s_l1Least_i, s_l1Least_o, fun x => s_l1Least n x.1 x.2⟩
theorem s_l1Least_ok (n : Nat) : EntOK Try.prog (s_l1Least_e n) ∧ Own Try.prog 234 := ent_ok tabOK0 .nil Try.func234 rfl (by kernel_rfl) (s_l1Least_ev n)
def s_l4Lay_i : CSh := ⟨[(.data false (.pair tI (.pair tI (.sl (.arr 4 tI))))), (.data true tI)], []⟩
def s_l4Lay_o : RSh := ⟨(.pr (.data true tI) (.pr (.data true tI) (.own 0))), [.rows 51 true (.arr 4 tI)]⟩
theorem s_l4Lay_ev (n : Nat) (x : TupT s_l4Lay_i.tys) : evF ⟨tab, [s_l4Pile_e n, s_l1Least_e n, s_l2Own_e n], n, []⟩ Try.f232 s_l4Lay_i s_l4Lay_o x = s_l4Lay n x.1 x.2 := by kernel_rfl
noncomputable def s_l4Lay_e (n : Nat) : Ent := ⟨232, s_l4Lay_i, s_l4Lay_o, fun x => s_l4Lay n x.1 x.2⟩
theorem s_l4Lay_ok (n : Nat) : EntOK Try.prog (s_l4Lay_e n) ∧ Own Try.prog 232 := ent_ok tabOK0 (.cons (s_l4Pile_ok n) (.cons (s_l1Least_ok n) (.cons (s_l2Own_ok n) .nil))) Try.func232 rfl (by kernel_rfl) (s_l4Lay_ev n)
def s_l4Line_i : CSh := ⟨[(.data false (.pair tI (.pair tI (.sl (.arr 4 tI))))), (.data true (.arr 3 tI))], []⟩
def s_l4Line_o : RSh := ⟨(.data true .bool), []⟩
theorem s_l4Line_ev (n : Nat) (x : TupT s_l4Line_i.tys) : evF ⟨tab, [s_l1In_e n, s_l2Line_e n], n, [(6, ⟨[(2, (.ptr 0 [])), (3, (.ptr 1 [])), (5, (.data true tI))], [.var 33 (.data false (.pair tI (.pair tI (.sl (.arr 4 tI))))), .var 65 (.data true (.arr 3 tI))], 0⟩)]⟩ Try.f245 s_l4Line_i s_l4Line_o x = s_l4Line n x.1 x.2 := by kernel_rfl
noncomputable def s_l4Line_e (n : Nat) : Ent := ⟨245, s_l4Line_i, s_l4Line_o, fun x => s_l4Line n x.1 x.2⟩
theorem s_l4Line_ok (n : Nat) : EntOK Try.prog (s_l4Line_e n) ∧ Own Try.prog 245 := ent_ok tabOK0 (.cons (s_l1In_ok n) (.cons (s_l2Line_ok n) .nil)) Try.func245 rfl (by kernel_rfl) (s_l4Line_ev n)
def s_l8Kind_i : CSh := ⟨[(.data false (.pair (.pair tI (.pair tI (.sl (.arr 4 tI)))) (.pair (.sl tI) (.sl tI)))), (.data true (.pair tI (.arr 3 tI)))], []⟩
def s_l8Kind_o : RSh := ⟨(.data true tI), []⟩
theorem s_l8Kind_ev (n : Nat) (x : TupT s_l8Kind_i.tys) : evF ⟨tab, [s_l1In_e n, s_l4Line_e n], n, [(22, ⟨[(2, (.ptr 0 [])), (3, (.ptr 1 [])), (5, (.data true tI))], [.var 35 (.data false (.pair (.pair tI (.pair tI (.sl (.arr 4 tI)))) (.pair (.sl tI) (.sl tI)))), .var 91 (.data true (.pair tI (.arr 3 tI)))], 0⟩)]⟩ Try.f185 s_l8Kind_i s_l8Kind_o x = s_l8Kind n x.1 x.2 := by kernel_rfl
noncomputable def s_l8Kind_e (n : Nat) : Ent := ⟨185, s_l8Kind_i, s_l8Kind_o, fun x => s_l8Kind n x.1 x.2⟩
theorem s_l8Kind_ok (n : Nat) : EntOK Try.prog (s_l8Kind_e n) ∧ Own Try.prog 185 := ent_ok tabOK0 (.cons (s_l1In_ok n) (.cons (s_l4Line_ok n) .nil)) Try.func185 rfl (by kernel_rfl) (s_l8Kind_ev n)
def s_l1Most_i : CSh := ⟨[(.data true tI), (.data true tI)], []⟩
def s_l1Most_o : RSh := ⟨(.data true tI), []⟩
theorem s_l1Most_ev (n : Nat) (x : TupT s_l1Most_i.tys) : evF ⟨tab, [], n, []⟩ Try.f230 s_l1Most_i s_l1Most_o x = s_l1Most n x.1 x.2 := by kernel_rfl
noncomputable def s_l1Most_e (n : Nat) : Ent := ⟨230, s_l1Most_i, s_l1Most_o, fun x => s_l1Most n x.1 x.2⟩
theorem s_l1Most_ok (n : Nat) : EntOK Try.prog (s_l1Most_e n) ∧ Own Try.prog 230 := ent_ok tabOK0 .nil Try.func230 rfl (by kernel_rfl) (s_l1Most_ev n)
def s_l4Take_i : CSh := ⟨[(.data false (.pair tI (.pair tI (.sl (.arr 4 tI))))), (.data true (.arr 3 tI))], []⟩
def s_l4Take_o : RSh := ⟨(.pr (.data true tI) (.pr (.data true tI) (.own 0))), [.rows 51 true (.arr 4 tI)]⟩
theorem s_l4Take_ev (n : Nat) (x : TupT s_l4Take_i.tys) : evF ⟨tab, [s_l1Most_e n, s_l4Lay_e n], n, [(8, ⟨[(2, (.ptr 0 [])), (3, (.ptr 1 [])), (4, (.ptr 2 [])), (5, (.ptr 3 [])), (6, (.data true tI))], [.var 33 (.data false (.pair tI (.pair tI (.sl (.arr 4 tI))))), .var 65 (.data true (.arr 3 tI)), .var 33 (.pr (.data true tI) (.pr (.data true tI) .nil)), .var 33 (.pr (.data true tI) (.pr (.data true tI) (.own 4))), .rows 51 true (.arr 4 tI)], 0⟩)]⟩ Try.f233 s_l4Take_i s_l4Take_o x = s_l4Take n x.1 x.2 := by kernel_rfl
noncomputable def s_l4Take_e (n : Nat) : Ent := ⟨233, s_l4Take_i, s_l4Take_o, fun x => s_l4Take n x.1 x.2⟩
theorem s_l4Take_ok (n : Nat) : EntOK Try.prog (s_l4Take_e n) ∧ Own Try.prog 233 := ent_ok tabOK0 (.cons (s_l1Most_ok n) (.cons (s_l4Lay_ok n) .nil)) Try.func233 rfl (by kernel_rfl) (s_l4Take_ev n)
def s_l8Made_i : CSh := ⟨[(.data false (.pair (.pair tI (.pair tI (.sl (.arr 4 tI)))) (.pair (.sl tI) (.sl tI)))), (.data true (.pair tI (.arr 3 tI)))], []⟩
def s_l8Made_o : RSh := ⟨(.tcons (.pr (.pr (.data true tI) (.pr (.data true tI) (.own 0))) (.pr (.own 1) (.own 2))) (.tcons (.data true tI) .tnil)), [.rows 51 true (.arr 4 tI), .rows 3 true tI, .rows 3 true tI]⟩
theorem s_l8Made_ev (n : Nat) (x : TupT s_l8Made_i.tys) : evF ⟨tab, [s_l8Own_e n, s_l4Lines_e n, s_l4Lay_e n, s_l8Kind_e n, s_l4Take_e n, s_l1Least_e n], n, [(6, ⟨[(3, (.ptr 0 [])), (4, (.ptr 1 [])), (6, (.ptr 2 []))], [.var 91 (.data true (.pair tI (.arr 3 tI))), .var 35 (.pr (.pr (.data true tI) (.pr (.data true tI) .nil)) (.pr .nil .nil)), .var 35 (.pr (.pr (.data true tI) (.pr (.data true tI) (.own 3))) (.pr (.own 4) (.own 5))), .rows 51 true (.arr 4 tI), .rows 3 true tI, .rows 3 true tI], 0⟩)]⟩ Try.f176 s_l8Made_i s_l8Made_o x = s_l8Made n x.1 x.2 := by kernel_rfl
noncomputable def s_l8Made_e (n : Nat) : Ent := ⟨176, s_l8Made_i, s_l8Made_o, fun x => s_l8Made n x.1 x.2⟩
theorem s_l8Made_ok (n : Nat) : EntOK Try.prog (s_l8Made_e n) ∧ Own Try.prog 176 := ent_ok tabOK0 (.cons (s_l8Own_ok n) (.cons (s_l4Lines_ok n) (.cons (s_l4Lay_ok n) (.cons (s_l8Kind_ok n) (.cons (s_l4Take_ok n) (.cons (s_l1Least_ok n) .nil)))))) Try.func176 rfl (by kernel_rfl) (s_l8Made_ev n)
def s_RunClaims_i : CSh := ⟨[(.data false (.pair (.pair tI (.pair tI (.sl (.arr 4 tI)))) (.pair (.sl tI) (.sl tI)))), (.data false (.sl (.pair tI (.arr 3 tI))))], []⟩
def s_RunClaims_o : RSh := ⟨(.tcons (.pr (.pr (.data true tI) (.pr (.data true tI) (.own 0))) (.pr (.own 1) (.own 2))) (.tcons (.data true (.arr 4 tI)) (.tcons (.data true .bool) .tnil))), [.rows 51 true (.arr 4 tI), .rows 3 true tI, .rows 3 true tI]⟩
theorem s_RunClaims_ev (n : Nat) (x : TupT s_RunClaims_i.tys) : evF ⟨tab, [s_l8Game_e n, s_l8Own_e n, s_l8Made_e n], n, [(18, ⟨[(1, (.data false (.sl (.pair tI (.arr 3 tI))))), (4, (.ptr 0 [])), (5, (.ptr 1 [])), (7, (.ptr 2 [])), (8, (.ptr 3 [])), (9, (.data true tI))], [.var 35 (.pr (.pr (.data true tI) (.pr (.data true tI) .nil)) (.pr .nil .nil)), .var 51 (.data true (.arr 4 tI)), .var 51 (.data true (.arr 4 tI)), .var 35 (.pr (.pr (.data true tI) (.pr (.data true tI) (.own 4))) (.pr (.own 5) (.own 6))), .rows 51 true (.arr 4 tI), .rows 3 true tI, .rows 3 true tI], 0⟩)]⟩ Try.f67 s_RunClaims_i s_RunClaims_o x = s_RunClaims n x.1 x.2 := by kernel_rfl
noncomputable def s_RunClaims_e (n : Nat) : Ent := ⟨67, s_RunClaims_i, s_RunClaims_o, fun x => s_RunClaims n x.1 x.2⟩
theorem s_RunClaims_ok (n : Nat) : EntOK Try.prog (s_RunClaims_e n) ∧ Own Try.prog 67 := ent_ok tabOK0 (.cons (s_l8Game_ok n) (.cons (s_l8Own_ok n) (.cons (s_l8Made_ok n) .nil))) Try.func67 rfl (by kernel_rfl) (s_RunClaims_ev n)
def i_within_i : CSh := ⟨[(.data true tI), (.data true tI), (.data true tI)], []⟩
def i_within_o : RSh := ⟨(.data true .bool), []⟩
theorem i_within_ev (n : Nat) (x : TupT i_within_i.tys) : evF ⟨tab, [], n, []⟩ Try.f141 i_within_i i_within_o x = i_within n x.1 x.2.1 x.2.2 := by kernel_rfl
noncomputable def i_within_e (n : Nat) : Ent := ⟨141, i_within_i, i_within_o, fun x => i_within n x.1 x.2.1 x.2.2⟩
theorem i_within_ok (n : Nat) : EntOK Try.prog (i_within_e n) ∧ Own Try.prog 141 := ent_ok tabOK0 .nil Try.func141 rfl (by kernel_rfl) (i_within_ev n)
def i_allWithin_1'pp_i : CSh := ⟨[(.data true tI), (.ptr 0 []), (.ptr 1 [])], [.var 3 (.data true tI), .var 3 (.data true tI)]⟩
def i_allWithin_1'pp_o : RSh := ⟨(.data true .bool), [.var 3 (.data true tI), .var 3 (.data true tI)]⟩
theorem i_allWithin_1'pp_ev (n : Nat) (x : TupT i_allWithin_1'pp_i.tys) : evF ⟨tab, [i_within_e n], n, []⟩ Try.f228 i_allWithin_1'pp_i i_allWithin_1'pp_o x = i_allWithin_1'pp n x.1 x.2.1 x.2.2 := by kernel_rfl
noncomputable def i_allWithin_1'pp_e (n : Nat) : Ent := ⟨228, i_allWithin_1'pp_i, i_allWithin_1'pp_o, fun x => i_allWithin_1'pp n x.1 x.2.1 x.2.2⟩
theorem i_allWithin_1'pp_ok (n : Nat) : EntOK Try.prog (i_allWithin_1'pp_e n) ∧ Own Try.prog 228 := ent_ok tabOK0 (.cons (i_within_ok n) .nil) Try.func228 rfl (by kernel_rfl) (i_allWithin_1'pp_ev n)
def slices_IndexFunc_Sint_int_'l_i_allWithin_1pp_i : CSh := ⟨[(.data false (.sl tI)), (.clo 228 (.tcons (.ptr 0 []) (.tcons (.ptr 1 []) .tnil)))], [.var 3 (.data true tI), .var 3 (.data true tI)]⟩
def slices_IndexFunc_Sint_int_'l_i_allWithin_1pp_o : RSh := ⟨(.data true tI), [.var 3 (.data true tI), .var 3 (.data true tI)]⟩
theorem slices_IndexFunc_Sint_int_'l_i_allWithin_1pp_ev (n : Nat) (x : TupT slices_IndexFunc_Sint_int_'l_i_allWithin_1pp_i.tys) : evF ⟨tab, [i_allWithin_1'pp_e n], n, [(6, ⟨[(0, (.data false (.sl tI))), (1, (.clo 228 (.tcons (.ptr 0 []) (.tcons (.ptr 1 []) .tnil)))), (7, (.data true tI)), (8, (.data true tI))], [.var 3 (.data true tI), .var 3 (.data true tI)], 2⟩)]⟩ Try.f263 slices_IndexFunc_Sint_int_'l_i_allWithin_1pp_i slices_IndexFunc_Sint_int_'l_i_allWithin_1pp_o x = slices_IndexFunc_Sint_int_'l_i_allWithin_1pp n x.1 x.2.1 x.2.2 := by kernel_rfl
noncomputable def slices_IndexFunc_Sint_int_'l_i_allWithin_1pp_e (n : Nat) : Ent := ⟨263, slices_IndexFunc_Sint_int_'l_i_allWithin_1pp_i, slices_IndexFunc_Sint_int_'l_i_allWithin_1pp_o, fun x => slices_IndexFunc_Sint_int_'l_i_allWithin_1pp n x.1 x.2.1 x.2.2⟩
theorem slices_IndexFunc_Sint_int_'l_i_allWithin_1pp_ok (n : Nat) : EntOK Try.prog (slices_IndexFunc_Sint_int_'l_i_allWithin_1pp_e n) ∧ Own Try.prog 263 := ent_ok tabOK0 (.cons (i_allWithin_1'pp_ok n) .nil) Try.func263 rfl (by kernel_rfl) (slices_IndexFunc_Sint_int_'l_i_allWithin_1pp_ev n)
def slices_ContainsFunc_Sint_int_'l_i_allWithin_1pp_i : CSh := ⟨[(.data false (.sl tI)), (.clo 228 (.tcons (.ptr 0 []) (.tcons (.ptr 1 []) .tnil)))], [.var 3 (.data true tI), .var 3 (.data true tI)]⟩
def slices_ContainsFunc_Sint_int_'l_i_allWithin_1pp_o : RSh := ⟨(.data true .bool), [.var 3 (.data true tI), .var 3 (.data true tI)]⟩
theorem slices_ContainsFunc_Sint_int_'l_i_allWithin_1pp_ev (n : Nat) (x : TupT slices_ContainsFunc_Sint_int_'l_i_allWithin_1pp_i.tys) : evF ⟨tab, [slices_IndexFunc_Sint_int_'l_i_allWithin_1pp_e n], n, []⟩ Try.f227 slices_ContainsFunc_Sint_int_'l_i_allWithin_1pp_i slices_ContainsFunc_Sint_int_'l_i_allWithin_1pp_o x = slices_ContainsFunc_Sint_int_'l_i_allWithin_1pp n x.1 x.2.1 x.2.2 := by kernel_rfl
noncomputable def slices_ContainsFunc_Sint_int_'l_i_allWithin_1pp_e (n : Nat) : Ent := ⟨227, slices_ContainsFunc_Sint_int_'l_i_allWithin_1pp_i, slices_ContainsFunc_Sint_int_'l_i_allWithin_1pp_o, fun x => slices_ContainsFunc_Sint_int_'l_i_allWithin_1pp n x.1 x.2.1 x.2.2⟩
theorem slices_ContainsFunc_Sint_int_'l_i_allWithin_1pp_ok (n : Nat) : EntOK Try.prog (slices_ContainsFunc_Sint_int_'l_i_allWithin_1pp_e n) ∧ Own Try.prog 227 := ent_ok tabOK0 (.cons (slices_IndexFunc_Sint_int_'l_i_allWithin_1pp_ok n) .nil) Try.func227 rfl (by kernel_rfl) (slices_ContainsFunc_Sint_int_'l_i_allWithin_1pp_ev n)
def i_allWithin_i : CSh := ⟨[(.data false (.sl tI)), (.data true tI), (.data true tI)], []⟩
def i_allWithin_o : RSh := ⟨(.data true .bool), []⟩
theorem i_allWithin_ev (n : Nat) (x : TupT i_allWithin_i.tys) : evF ⟨tab, [slices_ContainsFunc_Sint_int_'l_i_allWithin_1pp_e n], n, []⟩ Try.f168 i_allWithin_i i_allWithin_o x = i_allWithin n x.1 x.2.1 x.2.2 := by kernel_rfl
noncomputable def i_allWithin_e (n : Nat) : Ent := ⟨168, i_allWithin_i, i_allWithin_o, fun x => i_allWithin n x.1 x.2.1 x.2.2⟩
theorem i_allWithin_ok (n : Nat) : EntOK Try.prog (i_allWithin_e n) ∧ Own Try.prog 168 := ent_ok tabOK0 (.cons (slices_ContainsFunc_Sint_int_'l_i_allWithin_1pp_ok n) .nil) Try.func168 rfl (by kernel_rfl) (i_allWithin_ev n)
def i_isSeed_i : CSh := ⟨[(.data true tI)], []⟩
def i_isSeed_o : RSh := ⟨(.data true .bool), []⟩
theorem i_isSeed_ev (n : Nat) (x : TupT i_isSeed_i.tys) : evF ⟨tab, [i_within_e n], n, []⟩ Try.f189 i_isSeed_i i_isSeed_o x = i_isSeed n x := by kernel_rfl
noncomputable def i_isSeed_e (n : Nat) : Ent := ⟨189, i_isSeed_i, i_isSeed_o, fun x => i_isSeed n x⟩
theorem i_isSeed_ok (n : Nat) : EntOK Try.prog (i_isSeed_e n) ∧ Own Try.prog 189 := ent_ok tabOK0 (.cons (i_within_ok n) .nil) Try.func189 rfl (by kernel_rfl) (i_isSeed_ev n)
def i_card_i : CSh := ⟨[(.data true tI)], []⟩
def i_card_o : RSh := ⟨(.data true (.arr 4 tI)), []⟩
theorem i_card_ev (n : Nat) (x : TupT i_card_i.tys) : evF ⟨tab, [], n, []⟩ Try.f246 i_card_i i_card_o x = i_card n x := by kernel_rfl
noncomputable def i_card_e (n : Nat) : Ent := ⟨246, i_card_i, i_card_o, fun x => i_card n x⟩
theorem i_card_ok (n : Nat) : EntOK Try.prog (i_card_e n) ∧ Own Try.prog 246 := ent_ok tabOK0 .nil Try.func246 rfl (by kernel_rfl) (i_card_ev n)
def i_behind_i : CSh := ⟨[(.data true tI)], []⟩
def i_behind_o : RSh := ⟨(.data true tI), []⟩
theorem i_behind_ev (n : Nat) (x : TupT i_behind_i.tys) : evF ⟨tab, [], n, []⟩ Try.f247 i_behind_i i_behind_o x = i_behind n x := by kernel_rfl
noncomputable def i_behind_e (n : Nat) : Ent := ⟨247, i_behind_i, i_behind_o, fun x => i_behind n x⟩
theorem i_behind_ok (n : Nat) : EntOK Try.prog (i_behind_e n) ∧ Own Try.prog 247 := ent_ok tabOK0 .nil Try.func247 rfl (by kernel_rfl) (i_behind_ev n)
def i_pile_i : CSh := ⟨[(.data true tI)], []⟩
def i_pile_o : RSh := ⟨(.own 0), [.rows 51 true (.arr 4 tI)]⟩
theorem i_pile_ev (n : Nat) (x : TupT i_pile_i.tys) : evF ⟨tab, [i_card_e n, i_behind_e n], n, [(8, ⟨[(0, (.data true tI)), (3, (.own 0)), (8, (.data true tI))], [.rows 51 true (.arr 4 tI)], 0⟩), (25, ⟨[(0, (.data true tI)), (3, (.own 0)), (5, (.data true tI))], [.rows 51 true (.arr 4 tI)], 0⟩)]⟩ Try.f192 i_pile_i i_pile_o x = i_pile n x := by kernel_rfl
noncomputable def i_pile_e (n : Nat) : Ent := ⟨192, i_pile_i, i_pile_o, fun x => i_pile n x⟩
theorem i_pile_ok (n : Nat) : EntOK Try.prog (i_pile_e n) ∧ Own Try.prog 192 := ent_ok tabOK0 (.cons (i_card_ok n) (.cons (i_behind_ok n) .nil)) Try.func192 rfl (by kernel_rfl) (i_pile_ev n)
def slices_Index_SA4_A4__i : CSh := ⟨[(.data false (.sl (.arr 4 tI))), (.data true (.arr 4 tI))], []⟩
def slices_Index_SA4_A4__o : RSh := ⟨(.data true tI), []⟩
theorem slices_Index_SA4_A4__ev (n : Nat) (x : TupT slices_Index_SA4_A4__i.tys) : evF ⟨tab, [], n, [(6, ⟨[(0, (.data false (.sl (.arr 4 tI)))), (3, (.ptr 0 [])), (7, (.data true tI)), (8, (.data true tI))], [.var 51 (.data true (.arr 4 tI))], 0⟩)]⟩ Try.f285 slices_Index_SA4_A4__i slices_Index_SA4_A4__o x = slices_Index_SA4_A4_ n x.1 x.2 := by kernel_rfl
noncomputable def slices_Index_SA4_A4__e (n : Nat) : Ent := ⟨285, slices_Index_SA4_A4__i, slices_Index_SA4_A4__o, fun x => slices_Index_SA4_A4_ n x.1 x.2⟩
theorem slices_Index_SA4_A4__ok (n : Nat) : EntOK Try.prog (slices_Index_SA4_A4__e n) ∧ Own Try.prog 285 := ent_ok tabOK0 .nil Try.func285 rfl (by kernel_rfl) (slices_Index_SA4_A4__ev n)
def slices_Contains_SA4_A4__i : CSh := ⟨[(.data false (.sl (.arr 4 tI))), (.data true (.arr 4 tI))], []⟩
def slices_Contains_SA4_A4__o : RSh := ⟨(.data true .bool), []⟩
theorem slices_Contains_SA4_A4__ev (n : Nat) (x : TupT slices_Contains_SA4_A4__i.tys) : evF ⟨tab, [slices_Index_SA4_A4__e n], n, []⟩ Try.f264 slices_Contains_SA4_A4__i slices_Contains_SA4_A4__o x = slices_Contains_SA4_A4_ n x.1 x.2 := by kernel_rfl
noncomputable def slices_Contains_SA4_A4__e (n : Nat) : Ent := ⟨264, slices_Contains_SA4_A4__i, slices_Contains_SA4_A4__o, fun x => slices_Contains_SA4_A4_ n x.1 x.2⟩
theorem slices_Contains_SA4_A4__ok (n : Nat) : EntOK Try.prog (slices_Contains_SA4_A4__e n) ∧ Own Try.prog 264 := ent_ok tabOK0 (.cons (slices_Index_SA4_A4__ok n) .nil) Try.func264 rfl (by kernel_rfl) (slices_Contains_SA4_A4__ev n)
def i_has_i : CSh := ⟨[(.data false (.sl (.arr 4 tI))), (.data true (.arr 4 tI))], []⟩
def i_has_o : RSh := ⟨(.data true .bool), []⟩
theorem i_has_ev (n : Nat) (x : TupT i_has_i.tys) : evF ⟨tab, [slices_Contains_SA4_A4__e n], n, []⟩ Try.f229 i_has_i i_has_o x = i_has n x.1 x.2 := by kernel_rfl
noncomputable def i_has_e (n : Nat) : Ent := ⟨229, i_has_i, i_has_o, fun x => i_has n x.1 x.2⟩
theorem i_has_ok (n : Nat) : EntOK Try.prog (i_has_e n) ∧ Own Try.prog 229 := ent_ok tabOK0 (.cons (slices_Contains_SA4_A4__ok n) .nil) Try.func229 rfl (by kernel_rfl) (i_has_ev n)
def i_IsDeal_i : CSh := ⟨[(.data false (.pair tI (.pair tI (.sl (.arr 4 tI)))))], []⟩
def i_IsDeal_o : RSh := ⟨(.data true .bool), []⟩
theorem i_IsDeal_ev (n : Nat) (x : TupT i_IsDeal_i.tys) : evF ⟨tab, [i_isSeed_e n, i_within_e n, i_pile_e n, i_has_e n], n, [(16, ⟨[(1, (.ptr 0 [])), (3, (.ownp 1)), (31, (.data false (.sl (.arr 4 tI)))), (32, (.data true tI)), (33, (.data true tI))], [.var 33 (.data false (.pair tI (.pair tI (.sl (.arr 4 tI))))), .rows 51 true (.arr 4 tI)], 0⟩)]⟩ Try.f169 i_IsDeal_i i_IsDeal_o x = i_IsDeal n x := by kernel_rfl
noncomputable def i_IsDeal_e (n : Nat) : Ent := ⟨169, i_IsDeal_i, i_IsDeal_o, fun x => i_IsDeal n x⟩
theorem i_IsDeal_ok (n : Nat) : EntOK Try.prog (i_IsDeal_e n) ∧ Own Try.prog 169 := ent_ok tabOK0 (.cons (i_isSeed_ok n) (.cons (i_within_ok n) (.cons (i_pile_ok n) (.cons (i_has_ok n) .nil)))) Try.func169 rfl (by kernel_rfl) (i_IsDeal_ev n)
def i_IsGame_i : CSh := ⟨[(.data false (.pair (.pair tI (.pair tI (.sl (.arr 4 tI)))) (.pair (.sl tI) (.sl tI))))], []⟩
def i_IsGame_o : RSh := ⟨(.data true .bool), []⟩
theorem i_IsGame_ev (n : Nat) (x : TupT i_IsGame_i.tys) : evF ⟨tab, [i_within_e n, i_allWithin_e n, i_IsDeal_e n], n, []⟩ Try.f55 i_IsGame_i i_IsGame_o x = i_IsGame n x := by kernel_rfl
noncomputable def i_IsGame_e (n : Nat) : Ent := ⟨55, i_IsGame_i, i_IsGame_o, fun x => i_IsGame n x⟩
theorem i_IsGame_ok (n : Nat) : EntOK Try.prog (i_IsGame_e n) ∧ Own Try.prog 55 := ent_ok tabOK0 (.cons (i_within_ok n) (.cons (i_allWithin_ok n) (.cons (i_IsDeal_ok n) .nil))) Try.func55 rfl (by kernel_rfl) (i_IsGame_ev n)
def i_areClaims_i : CSh := ⟨[(.data false (.pair (.pair tI (.pair tI (.sl (.arr 4 tI)))) (.pair (.sl tI) (.sl tI)))), (.data false (.sl (.pair tI (.arr 3 tI))))], []⟩
def i_areClaims_o : RSh := ⟨(.data true .bool), []⟩
theorem i_areClaims_ev (n : Nat) (x : TupT i_areClaims_i.tys) : evF ⟨tab, [i_IsGame_e n], n, []⟩ Try.f113 i_areClaims_i i_areClaims_o x = i_areClaims n x.1 x.2 := by kernel_rfl
noncomputable def i_areClaims_e (n : Nat) : Ent := ⟨113, i_areClaims_i, i_areClaims_o, fun x => i_areClaims n x.1 x.2⟩
theorem i_areClaims_ok (n : Nat) : EntOK Try.prog (i_areClaims_e n) ∧ Own Try.prog 113 := ent_ok tabOK0 (.cons (i_IsGame_ok n) .nil) Try.func113 rfl (by kernel_rfl) (i_areClaims_ev n)
def slices_Clone_SA4_A4__i : CSh := ⟨[(.data false (.sl (.arr 4 tI)))], []⟩
def slices_Clone_SA4_A4__o : RSh := ⟨(.own 0), [.rows 51 true (.arr 4 tI)]⟩
theorem slices_Clone_SA4_A4__ev (n : Nat) (x : TupT slices_Clone_SA4_A4__i.tys) : evF ⟨tab, [], n, []⟩ Try.f203 slices_Clone_SA4_A4__i slices_Clone_SA4_A4__o x = slices_Clone_SA4_A4_ n x := by kernel_rfl
noncomputable def slices_Clone_SA4_A4__e (n : Nat) : Ent := ⟨203, slices_Clone_SA4_A4__i, slices_Clone_SA4_A4__o, fun x => slices_Clone_SA4_A4_ n x⟩
theorem slices_Clone_SA4_A4__ok (n : Nat) : EntOK Try.prog (slices_Clone_SA4_A4__e n) ∧ Own Try.prog 203 := ent_ok tabOK0 .nil Try.func203 rfl (by kernel_rfl) (slices_Clone_SA4_A4__ev n)
def slices_Clone_Sint_int__i : CSh := ⟨[(.data false (.sl tI))], []⟩
def slices_Clone_Sint_int__o : RSh := ⟨(.own 0), [.rows 3 true tI]⟩
theorem slices_Clone_Sint_int__ev (n : Nat) (x : TupT slices_Clone_Sint_int__i.tys) : evF ⟨tab, [], n, []⟩ Try.f204 slices_Clone_Sint_int__i slices_Clone_Sint_int__o x = slices_Clone_Sint_int_ n x := by kernel_rfl
noncomputable def slices_Clone_Sint_int__e (n : Nat) : Ent := ⟨204, slices_Clone_Sint_int__i, slices_Clone_Sint_int__o, fun x => slices_Clone_Sint_int_ n x⟩
theorem slices_Clone_Sint_int__ok (n : Nat) : EntOK Try.prog (slices_Clone_Sint_int__e n) ∧ Own Try.prog 204 := ent_ok tabOK0 .nil Try.func204 rfl (by kernel_rfl) (slices_Clone_Sint_int__ev n)
def _impl_Game__own_i : CSh := ⟨[(.data false (.pair (.pair tI (.pair tI (.sl (.arr 4 tI)))) (.pair (.sl tI) (.sl tI))))], []⟩
def _impl_Game__own_o : RSh := ⟨(.pr (.pr (.data true tI) (.pr (.data true tI) (.own 0))) (.pr (.own 1) (.own 2))), [.rows 51 true (.arr 4 tI), .rows 3 true tI, .rows 3 true tI]⟩
theorem _impl_Game__own_ev (n : Nat) (x : TupT _impl_Game__own_i.tys) : evF ⟨tab, [slices_Clone_SA4_A4__e n, slices_Clone_Sint_int__e n], n, []⟩ Try.f115 _impl_Game__own_i _impl_Game__own_o x = _impl_Game__own n x := by kernel_rfl
noncomputable def _impl_Game__own_e (n : Nat) : Ent := ⟨115, _impl_Game__own_i, _impl_Game__own_o, fun x => _impl_Game__own n x⟩
theorem _impl_Game__own_ok (n : Nat) : EntOK Try.prog (_impl_Game__own_e n) ∧ Own Try.prog 115 := ent_ok tabOK0 (.cons (slices_Clone_SA4_A4__ok n) (.cons (slices_Clone_Sint_int__ok n) .nil)) Try.func115 rfl (by kernel_rfl) (_impl_Game__own_ev n)
def i_number_i : CSh := ⟨[(.data true (.arr 4 tI))], []⟩
def i_number_o : RSh := ⟨(.data true tI), []⟩
theorem i_number_ev (n : Nat) (x : TupT i_number_i.tys) : evF ⟨tab, [], n, [(8, ⟨[(3, (.data true tI)), (6, (.data true (.arr 4 tI))), (7, (.data true tI))], [], 0⟩)]⟩ Try.f131 i_number_i i_number_o x = i_number n x := by kernel_rfl
noncomputable def i_number_e (n : Nat) : Ent := ⟨131, i_number_i, i_number_o, fun x => i_number n x⟩
theorem i_number_ok (n : Nat) : EntOK Try.prog (i_number_e n) ∧ Own Try.prog 131 := ent_ok tabOK0 .nil Try.func131 rfl (by kernel_rfl) (i_number_ev n)
def i_third_i : CSh := ⟨[(.data true (.arr 4 tI)), (.data true (.arr 4 tI))], []⟩
def i_third_o : RSh := ⟨(.data true (.arr 4 tI)), []⟩
theorem i_third_ev (n : Nat) (x : TupT i_third_i.tys) : evF ⟨tab, [], n, [(8, ⟨[(2, (.ptr 0 [])), (3, (.ptr 1 [])), (4, (.ptr 2 [])), (5, (.ptr 3 [])), (8, (.data true tI))], [.var 51 (.data true (.arr 4 tI)), .var 51 (.data true (.arr 4 tI)), .var 51 (.data true (.arr 4 tI)), .var 51 (.data true (.arr 4 tI))], 0⟩)]⟩ Try.f147 i_third_i i_third_o x = i_third n x.1 x.2 := by kernel_rfl
noncomputable def i_third_e (n : Nat) : Ent := ⟨147, i_third_i, i_third_o, fun x => i_third n x.1 x.2⟩
theorem i_third_ok (n : Nat) : EntOK Try.prog (i_third_e n) ∧ Own Try.prog 147 := ent_ok tabOK0 .nil Try.func147 rfl (by kernel_rfl) (i_third_ev n)
def i_linesIn_i : CSh := ⟨[(.data false (.sl (.arr 4 tI)))], []⟩
def i_linesIn_o : RSh := ⟨(.own 0), [.rows 65 true (.arr 3 tI)]⟩
theorem i_linesIn_ev (n : Nat) (x : TupT i_linesIn_i.tys) : evF ⟨tab, [i_number_e n, i_third_e n], n, [(8, ⟨[(0, (.data false (.sl (.arr 4 tI)))), (3, (.ptr 0 [])), (12, (.data false (.sl (.arr 4 tI)))), (13, (.data true tI)), (14, (.data true tI))], [.var 198 (.data true (.arr 81 tI))], 0⟩), (27, ⟨[(0, (.data false (.sl (.arr 4 tI)))), (3, (.ptr 0 [])), (6, (.own 1)), (26, (.data false (.sl (.arr 4 tI)))), (27, (.data true tI)), (28, (.data true tI))], [.var 198 (.data true (.arr 81 tI)), .rows 65 true (.arr 3 tI)], 0⟩), (41, ⟨[(0, (.data false (.sl (.arr 4 tI)))), (3, (.ptr 0 [])), (6, (.own 1)), (7, (.data true tI)), (8, (.ptr 2 [])), (9, (.data true tI)), (26, (.data false (.sl (.arr 4 tI)))), (27, (.data true tI)), (28, (.data true tI))], [.var 198 (.data true (.arr 81 tI)), .rows 65 true (.arr 3 tI), .var 51 (.data true (.arr 4 tI))], 0⟩)]⟩ Try.f142 i_linesIn_i i_linesIn_o x = i_linesIn n x := by kernel_rfl
noncomputable def i_linesIn_e (n : Nat) : Ent := ⟨142, i_linesIn_i, i_linesIn_o, fun x => i_linesIn n x⟩
theorem i_linesIn_ok (n : Nat) : EntOK Try.prog (i_linesIn_e n) ∧ Own Try.prog 142 := ent_ok tabOK0 (.cons (i_number_ok n) (.cons (i_third_ok n) .nil)) Try.func142 rfl (by kernel_rfl) (i_linesIn_ev n)
def _impl_Deal__isStuck_i : CSh := ⟨[(.data false (.pair tI (.pair tI (.sl (.arr 4 tI)))))], []⟩
def _impl_Deal__isStuck_o : RSh := ⟨(.data true .bool), []⟩
theorem _impl_Deal__isStuck_ev (n : Nat) (x : TupT _impl_Deal__isStuck_i.tys) : evF ⟨tab, [i_linesIn_e n], n, []⟩ Try.f240 _impl_Deal__isStuck_i _impl_Deal__isStuck_o x = _impl_Deal__isStuck n x := by kernel_rfl
noncomputable def _impl_Deal__isStuck_e (n : Nat) : Ent := ⟨240, _impl_Deal__isStuck_i, _impl_Deal__isStuck_o, fun x => _impl_Deal__isStuck n x⟩
theorem _impl_Deal__isStuck_ok (n : Nat) : EntOK Try.prog (_impl_Deal__isStuck_e n) ∧ Own Try.prog 240 := ent_ok tabOK0 (.cons (i_linesIn_ok n) .nil) Try.func240 rfl (by kernel_rfl) (_impl_Deal__isStuck_ev n)
def _impl_Deal__isOver_i : CSh := ⟨[(.data false (.pair tI (.pair tI (.sl (.arr 4 tI)))))], []⟩
def _impl_Deal__isOver_o : RSh := ⟨(.data true .bool), []⟩
theorem _impl_Deal__isOver_ev (n : Nat) (x : TupT _impl_Deal__isOver_i.tys) : evF ⟨tab, [_impl_Deal__isStuck_e n], n, []⟩ Try.f241 _impl_Deal__isOver_i _impl_Deal__isOver_o x = _impl_Deal__isOver n x := by kernel_rfl
noncomputable def _impl_Deal__isOver_e (n : Nat) : Ent := ⟨241, _impl_Deal__isOver_i, _impl_Deal__isOver_o, fun x => _impl_Deal__isOver n x⟩
theorem _impl_Deal__isOver_ok (n : Nat) : EntOK Try.prog (_impl_Deal__isOver_e n) ∧ Own Try.prog 241 := ent_ok tabOK0 (.cons (_impl_Deal__isStuck_ok n) .nil) Try.func241 rfl (by kernel_rfl) (_impl_Deal__isOver_ev n)
def slices_Grow_SA4_A4__i : CSh := ⟨[.nil, (.data true tI)], []⟩
def slices_Grow_SA4_A4__o : RSh := ⟨(.own 0), [.rows 51 true (.arr 4 tI)]⟩
theorem slices_Grow_SA4_A4__ev (n : Nat) (x : TupT slices_Grow_SA4_A4__i.tys) : evF ⟨tab, [], n, []⟩ Try.f286 slices_Grow_SA4_A4__i slices_Grow_SA4_A4__o x = slices_Grow_SA4_A4_ n x := by kernel_rfl
noncomputable def slices_Grow_SA4_A4__e (n : Nat) : Ent := ⟨286, slices_Grow_SA4_A4__i, slices_Grow_SA4_A4__o, fun x => slices_Grow_SA4_A4_ n x⟩
theorem slices_Grow_SA4_A4__ok (n : Nat) : EntOK Try.prog (slices_Grow_SA4_A4__e n) ∧ Own Try.prog 286 := ent_ok tabOK0 .nil Try.func286 rfl (by kernel_rfl) (slices_Grow_SA4_A4__ev n)
def slices_Concat_SA4_A4__i : CSh := ⟨[(.data false (.sl (.sl (.arr 4 tI))))], []⟩
def slices_Concat_SA4_A4__o : RSh := ⟨(.own 0), [.rows 51 true (.arr 4 tI)]⟩
theorem slices_Concat_SA4_A4__ev (n : Nat) (x : TupT slices_Concat_SA4_A4__i.tys) : evF ⟨tab, [slices_Grow_SA4_A4__e n], n, [(8, ⟨[(0, (.data false (.sl (.sl (.arr 4 tI))))), (3, (.data true tI)), (9, (.data false (.sl (.sl (.arr 4 tI))))), (10, (.data true tI)), (11, (.data true tI))], [], 0⟩), (33, ⟨[(6, (.own 0)), (25, (.data false (.sl (.sl (.arr 4 tI))))), (26, (.data true tI)), (27, (.data true tI))], [.rows 51 true (.arr 4 tI)], 0⟩)]⟩ Try.f268 slices_Concat_SA4_A4__i slices_Concat_SA4_A4__o x = slices_Concat_SA4_A4_ n x := by kernel_rfl
noncomputable def slices_Concat_SA4_A4__e (n : Nat) : Ent := ⟨268, slices_Concat_SA4_A4__i, slices_Concat_SA4_A4__o, fun x => slices_Concat_SA4_A4_ n x⟩
theorem slices_Concat_SA4_A4__ok (n : Nat) : EntOK Try.prog (slices_Concat_SA4_A4__e n) ∧ Own Try.prog 268 := ent_ok tabOK0 (.cons (slices_Grow_SA4_A4__ok n) .nil) Try.func268 rfl (by kernel_rfl) (slices_Concat_SA4_A4__ev n)
def _impl_Deal__lay_i : CSh := ⟨[(.data false (.pair tI (.pair tI (.sl (.arr 4 tI))))), (.data true tI)], []⟩
def _impl_Deal__lay_o : RSh := ⟨(.pr (.data true tI) (.pr (.data true tI) (.own 0))), [.rows 51 true (.arr 4 tI)]⟩
theorem _impl_Deal__lay_ev (n : Nat) (x : TupT _impl_Deal__lay_i.tys) : evF ⟨tab, [i_pile_e n, slices_Concat_SA4_A4__e n], n, []⟩ Try.f242 _impl_Deal__lay_i _impl_Deal__lay_o x = _impl_Deal__lay n x.1 x.2 := by kernel_rfl
noncomputable def _impl_Deal__lay_e (n : Nat) : Ent := ⟨242, _impl_Deal__lay_i, _impl_Deal__lay_o, fun x => _impl_Deal__lay n x.1 x.2⟩
theorem _impl_Deal__lay_ok (n : Nat) : EntOK Try.prog (_impl_Deal__lay_e n) ∧ Own Try.prog 242 := ent_ok tabOK0 (.cons (i_pile_ok n) (.cons (slices_Concat_SA4_A4__ok n) .nil)) Try.func242 rfl (by kernel_rfl) (_impl_Deal__lay_ev n)
def _impl_Game__isPlayer_i : CSh := ⟨[(.data false (.pair (.pair tI (.pair tI (.sl (.arr 4 tI)))) (.pair (.sl tI) (.sl tI)))), (.data true tI)], []⟩
def _impl_Game__isPlayer_o : RSh := ⟨(.data true .bool), []⟩
theorem _impl_Game__isPlayer_ev (n : Nat) (x : TupT _impl_Game__isPlayer_i.tys) : evF ⟨tab, [i_within_e n], n, []⟩ Try.f114 _impl_Game__isPlayer_i _impl_Game__isPlayer_o x = _impl_Game__isPlayer n x.1 x.2 := by kernel_rfl
noncomputable def _impl_Game__isPlayer_e (n : Nat) : Ent := ⟨114, _impl_Game__isPlayer_i, _impl_Game__isPlayer_o, fun x => _impl_Game__isPlayer n x.1 x.2⟩
theorem _impl_Game__isPlayer_ok (n : Nat) : EntOK Try.prog (_impl_Game__isPlayer_e n) ∧ Own Try.prog 114 := ent_ok tabOK0 (.cons (i_within_ok n) .nil) Try.func114 rfl (by kernel_rfl) (_impl_Game__isPlayer_ev n)
def i_isLine_i : CSh := ⟨[(.data true (.arr 4 tI)), (.data true (.arr 4 tI)), (.data true (.arr 4 tI))], []⟩
def i_isLine_o : RSh := ⟨(.data true .bool), []⟩
theorem i_isLine_ev (n : Nat) (x : TupT i_isLine_i.tys) : evF ⟨tab, [i_third_e n], n, []⟩ Try.f150 i_isLine_i i_isLine_o x = i_isLine n x.1 x.2.1 x.2.2 := by kernel_rfl
noncomputable def i_isLine_e (n : Nat) : Ent := ⟨150, i_isLine_i, i_isLine_o, fun x => i_isLine n x.1 x.2.1 x.2.2⟩
theorem i_isLine_ok (n : Nat) : EntOK Try.prog (i_isLine_e n) ∧ Own Try.prog 150 := ent_ok tabOK0 (.cons (i_third_ok n) .nil) Try.func150 rfl (by kernel_rfl) (i_isLine_ev n)
def _impl_Game__kind_i : CSh := ⟨[(.data false (.pair (.pair tI (.pair tI (.sl (.arr 4 tI)))) (.pair (.sl tI) (.sl tI)))), (.data true (.pair tI (.arr 3 tI)))], []⟩
def _impl_Game__kind_o : RSh := ⟨(.data true tI), []⟩
theorem _impl_Game__kind_ev (n : Nat) (x : TupT _impl_Game__kind_i.tys) : evF ⟨tab, [_impl_Game__isPlayer_e n, i_isLine_e n], n, []⟩ Try.f184 _impl_Game__kind_i _impl_Game__kind_o x = _impl_Game__kind n x.1 x.2 := by kernel_rfl
noncomputable def _impl_Game__kind_e (n : Nat) : Ent := ⟨184, _impl_Game__kind_i, _impl_Game__kind_o, fun x => _impl_Game__kind n x.1 x.2⟩
theorem _impl_Game__kind_ok (n : Nat) : EntOK Try.prog (_impl_Game__kind_e n) ∧ Own Try.prog 184 := ent_ok tabOK0 (.cons (_impl_Game__isPlayer_ok n) (.cons (i_isLine_ok n) .nil)) Try.func184 rfl (by kernel_rfl) (_impl_Game__kind_ev n)
def slices_Index_Sint_int__i : CSh := ⟨[(.data false (.sl tI)), (.data true tI)], []⟩
def slices_Index_Sint_int__o : RSh := ⟨(.data true tI), []⟩
theorem slices_Index_Sint_int__ev (n : Nat) (x : TupT slices_Index_Sint_int__i.tys) : evF ⟨tab, [], n, [(6, ⟨[(0, (.data false (.sl tI))), (1, (.data true tI)), (7, (.data true tI)), (8, (.data true tI))], [], 0⟩)]⟩ Try.f187 slices_Index_Sint_int__i slices_Index_Sint_int__o x = slices_Index_Sint_int_ n x.1 x.2 := by kernel_rfl
noncomputable def slices_Index_Sint_int__e (n : Nat) : Ent := ⟨187, slices_Index_Sint_int__i, slices_Index_Sint_int__o, fun x => slices_Index_Sint_int_ n x.1 x.2⟩
theorem slices_Index_Sint_int__ok (n : Nat) : EntOK Try.prog (slices_Index_Sint_int__e n) ∧ Own Try.prog 187 := ent_ok tabOK0 .nil Try.func187 rfl (by kernel_rfl) (slices_Index_Sint_int__ev n)
def slices_Contains_Sint_int__i : CSh := ⟨[(.data false (.sl tI)), (.data true tI)], []⟩
def slices_Contains_Sint_int__o : RSh := ⟨(.data true .bool), []⟩
theorem slices_Contains_Sint_int__ev (n : Nat) (x : TupT slices_Contains_Sint_int__i.tys) : evF ⟨tab, [slices_Index_Sint_int__e n], n, []⟩ Try.f269 slices_Contains_Sint_int__i slices_Contains_Sint_int__o x = slices_Contains_Sint_int_ n x.1 x.2 := by kernel_rfl
noncomputable def slices_Contains_Sint_int__e (n : Nat) : Ent := ⟨269, slices_Contains_Sint_int__i, slices_Contains_Sint_int__o, fun x => slices_Contains_Sint_int_ n x.1 x.2⟩
theorem slices_Contains_Sint_int__ok (n : Nat) : EntOK Try.prog (slices_Contains_Sint_int__e n) ∧ Own Try.prog 269 := ent_ok tabOK0 (.cons (slices_Index_Sint_int__ok n) .nil) Try.func269 rfl (by kernel_rfl) (slices_Contains_Sint_int__ev n)
def _impl_Deal__take_i : CSh := ⟨[(.data false (.pair tI (.pair tI (.sl (.arr 4 tI))))), (.data true (.arr 3 tI))], []⟩
def _impl_Deal__take_o : RSh := ⟨(.pr (.data true tI) (.pr (.data true tI) (.own 0))), [.rows 51 true (.arr 4 tI)]⟩
theorem _impl_Deal__take_ev (n : Nat) (x : TupT _impl_Deal__take_i.tys) : evF ⟨tab, [slices_Contains_Sint_int__e n, _impl_Deal__lay_e n], n, [(8, ⟨[(2, (.ptr 0 [])), (3, (.ptr 1 [])), (4, (.ptr 2 [])), (5, (.own 3)), (10, (.data false (.sl (.arr 4 tI)))), (11, (.data true tI)), (12, (.data true tI))], [.var 33 (.data false (.pair tI (.pair tI (.sl (.arr 4 tI))))), .var 65 (.data true (.arr 3 tI)), .var 33 (.pr (.data true tI) (.pr (.data true tI) .nil)), .rows 51 true (.arr 4 tI)], 0⟩)]⟩ Try.f243 _impl_Deal__take_i _impl_Deal__take_o x = _impl_Deal__take n x.1 x.2 := by kernel_rfl
noncomputable def _impl_Deal__take_e (n : Nat) : Ent := ⟨243, _impl_Deal__take_i, _impl_Deal__take_o, fun x => _impl_Deal__take n x.1 x.2⟩
theorem _impl_Deal__take_ok (n : Nat) : EntOK Try.prog (_impl_Deal__take_e n) ∧ Own Try.prog 243 := ent_ok tabOK0 (.cons (slices_Contains_Sint_int__ok n) (.cons (_impl_Deal__lay_ok n) .nil)) Try.func243 rfl (by kernel_rfl) (_impl_Deal__take_ev n)
def __impl_Game__make'p_ooo_i : CSh := ⟨[(.ptr 0 []), (.data true (.pair tI (.arr 3 tI)))], [.var 35 (.pr (.pr (.data true tI) (.pr (.data true tI) (.own 1))) (.pr (.own 2) (.own 3))), .rows 51 true (.arr 4 tI), .rows 3 true tI, .rows 3 true tI]⟩
def __impl_Game__make'p_ooo_o : RSh := ⟨(.data true tI), [.var 35 (.pr (.pr (.data true tI) (.pr (.data true tI) (.own 4))) (.pr (.own 2) (.own 3))), .gone, .rows 3 true tI, .rows 3 true tI, .rows 51 true (.arr 4 tI)]⟩
theorem __impl_Game__make'p_ooo_ev (n : Nat) (x : TupT __impl_Game__make'p_ooo_i.tys) : evF ⟨tab, [_impl_Deal__isStuck_e n, _impl_Deal__isOver_e n, _impl_Deal__lay_e n, _impl_Game__kind_e n, _impl_Deal__take_e n], n, [(4, ⟨[(0, (.ptr 0 [])), (3, (.ptr 4 []))], [.var 35 (.pr (.pr (.data true tI) (.pr (.data true tI) (.own 5))) (.pr (.own 2) (.own 3))), .gone, .rows 3 true tI, .rows 3 true tI, .var 91 (.data true (.pair tI (.arr 3 tI))), .rows 51 true (.arr 4 tI)], 4⟩)]⟩ Try.f182 __impl_Game__make'p_ooo_i __impl_Game__make'p_ooo_o x = __impl_Game__make'p_ooo n x.1 x.2.1 x.2.2.1 x.2.2.2.1 x.2.2.2.2.1 x.2.2.2.2.2 := by kernel_rfl
noncomputable def __impl_Game__make'p_ooo_e (n : Nat) : Ent := ⟨182, __impl_Game__make'p_ooo_i, __impl_Game__make'p_ooo_o, fun x => __impl_Game__make'p_ooo n x.1 x.2.1 x.2.2.1 x.2.2.2.1 x.2.2.2.2.1 x.2.2.2.2.2⟩
theorem __impl_Game__make'p_ooo_ok (n : Nat) : EntOK Try.prog (__impl_Game__make'p_ooo_e n) ∧ Own Try.prog 182 := ent_ok tabOK0 (.cons (_impl_Deal__isStuck_ok n) (.cons (_impl_Deal__isOver_ok n) (.cons (_impl_Deal__lay_ok n) (.cons (_impl_Game__kind_ok n) (.cons (_impl_Deal__take_ok n) .nil))))) Try.func182 rfl (by kernel_rfl) (__impl_Game__make'p_ooo_ev n)
def __impl_Game__run'pl_ooo_i : CSh := ⟨[(.ptr 0 []), (.data false (.sl (.pair tI (.arr 3 tI))))], [.var 35 (.pr (.pr (.data true tI) (.pr (.data true tI) (.own 1))) (.pr (.own 2) (.own 3))), .rows 51 true (.arr 4 tI), .rows 3 true tI, .rows 3 true tI]⟩
def __impl_Game__run'pl_ooo_o : RSh := ⟨(.own 4), [.var 35 (.pr (.pr (.data true tI) (.pr (.data true tI) (.own 5))) (.pr (.own 2) (.own 3))), .gone, .rows 3 true tI, .rows 3 true tI, .rows 3 true tI, .rows 51 true (.arr 4 tI)]⟩
theorem __impl_Game__run'pl_ooo_ev (n : Nat) (x : TupT __impl_Game__run'pl_ooo_i.tys) : evF ⟨tab, [__impl_Game__make'p_ooo_e n], n, [(8, ⟨[(0, (.ptr 0 [])), (5, (.own 4)), (9, (.data false (.sl (.pair tI (.arr 3 tI))))), (10, (.data true tI)), (11, (.data true tI))], [.var 35 (.pr (.pr (.data true tI) (.pr (.data true tI) (.own 5))) (.pr (.own 2) (.own 3))), .gone, .rows 3 true tI, .rows 3 true tI, .rows 3 true tI, .rows 51 true (.arr 4 tI)], 4⟩)]⟩ Try.f116 __impl_Game__run'pl_ooo_i __impl_Game__run'pl_ooo_o x = __impl_Game__run'pl_ooo n x.1 x.2.1 x.2.2.1 x.2.2.2.1 x.2.2.2.2.1 x.2.2.2.2.2 := by kernel_rfl
noncomputable def __impl_Game__run'pl_ooo_e (n : Nat) : Ent := ⟨116, __impl_Game__run'pl_ooo_i, __impl_Game__run'pl_ooo_o, fun x => __impl_Game__run'pl_ooo n x.1 x.2.1 x.2.2.1 x.2.2.2.1 x.2.2.2.2.1 x.2.2.2.2.2⟩
theorem __impl_Game__run'pl_ooo_ok (n : Nat) : EntOK Try.prog (__impl_Game__run'pl_ooo_e n) ∧ Own Try.prog 116 := ent_ok tabOK0 (.cons (__impl_Game__make'p_ooo_ok n) .nil) Try.func116 rfl (by kernel_rfl) (__impl_Game__run'pl_ooo_ev n)
def i_RunClaims_i : CSh := ⟨[(.data false (.pair (.pair tI (.pair tI (.sl (.arr 4 tI)))) (.pair (.sl tI) (.sl tI)))), (.data false (.sl (.pair tI (.arr 3 tI))))], []⟩
def i_RunClaims_o : RSh := ⟨(.tcons (.pr (.pr (.data true tI) (.pr (.data true tI) (.own 0))) (.pr (.own 1) (.own 2))) (.tcons (.data true (.arr 4 tI)) (.tcons (.data true .bool) .tnil))), [.rows 51 true (.arr 4 tI), .rows 3 true tI, .rows 3 true tI]⟩
theorem i_RunClaims_ev (n : Nat) (x : TupT i_RunClaims_i.tys) : evF ⟨tab, [i_areClaims_e n, _impl_Game__own_e n, __impl_Game__run'pl_ooo_e n], n, [(18, ⟨[(4, (.ptr 0 [])), (5, (.ptr 1 [])), (7, (.ptr 2 [])), (8, (.ptr 3 [])), (21, (.own 4)), (22, (.data true tI)), (23, (.data true tI))], [.var 35 (.pr (.pr (.data true tI) (.pr (.data true tI) .nil)) (.pr .nil .nil)), .var 51 (.data true (.arr 4 tI)), .var 51 (.data true (.arr 4 tI)), .var 35 (.pr (.pr (.data true tI) (.pr (.data true tI) (.own 5))) (.pr (.own 6) (.own 7))), .rows 3 true tI, .rows 51 true (.arr 4 tI), .rows 3 true tI, .rows 3 true tI], 0⟩)]⟩ Try.f68 i_RunClaims_i i_RunClaims_o x = i_RunClaims n x.1 x.2 := by kernel_rfl
noncomputable def i_RunClaims_e (n : Nat) : Ent := ⟨68, i_RunClaims_i, i_RunClaims_o, fun x => i_RunClaims n x.1 x.2⟩
theorem i_RunClaims_ok (n : Nat) : EntOK Try.prog (i_RunClaims_e n) ∧ Own Try.prog 68 := ent_ok tabOK0 (.cons (i_areClaims_ok n) (.cons (_impl_Game__own_ok n) (.cons (__impl_Game__run'pl_ooo_ok n) .nil))) Try.func68 rfl (by kernel_rfl) (i_RunClaims_ev n)
def v_eqIntA4_i : CSh := ⟨[(.data true (.arr 4 tI)), (.data true (.arr 4 tI))], []⟩
def v_eqIntA4_o : RSh := ⟨(.data true .bool), []⟩
theorem v_eqIntA4_ev (n : Nat) (x : TupT v_eqIntA4_i.tys) : evF ⟨tab, [], n, [(6, ⟨[(2, (.ptr 0 [])), (3, (.ptr 1 [])), (5, (.data true tI))], [.var 51 (.data true (.arr 4 tI)), .var 51 (.data true (.arr 4 tI))], 0⟩)]⟩ Try.f69 v_eqIntA4_i v_eqIntA4_o x = v_eqIntA4 n x.1 x.2 := by kernel_rfl
noncomputable def v_eqIntA4_e (n : Nat) : Ent := ⟨69, v_eqIntA4_i, v_eqIntA4_o, fun x => v_eqIntA4 n x.1 x.2⟩
theorem v_eqIntA4_ok (n : Nat) : EntOK Try.prog (v_eqIntA4_e n) ∧ Own Try.prog 69 := ent_ok tabOK0 .nil Try.func69 rfl (by kernel_rfl) (v_eqIntA4_ev n)
def v_eqIntA4S_i : CSh := ⟨[(.data false (.sl (.arr 4 tI))), (.data false (.sl (.arr 4 tI)))], []⟩
def v_eqIntA4S_o : RSh := ⟨(.data true .bool), []⟩
theorem v_eqIntA4S_ev (n : Nat) (x : TupT v_eqIntA4S_i.tys) : evF ⟨tab, [v_eqIntA4_e n], n, [(14, ⟨[(0, (.data false (.sl (.arr 4 tI)))), (1, (.data false (.sl (.arr 4 tI)))), (5, (.data true tI))], [], 0⟩)]⟩ Try.f46 v_eqIntA4S_i v_eqIntA4S_o x = v_eqIntA4S n x.1 x.2 := by kernel_rfl
noncomputable def v_eqIntA4S_e (n : Nat) : Ent := ⟨46, v_eqIntA4S_i, v_eqIntA4S_o, fun x => v_eqIntA4S n x.1 x.2⟩
theorem v_eqIntA4S_ok (n : Nat) : EntOK Try.prog (v_eqIntA4S_e n) ∧ Own Try.prog 46 := ent_ok tabOK0 (.cons (v_eqIntA4_ok n) .nil) Try.func46 rfl (by kernel_rfl) (v_eqIntA4S_ev n)
def v_eqDeal_i : CSh := ⟨[(.data false (.pair tI (.pair tI (.sl (.arr 4 tI))))), (.data false (.pair tI (.pair tI (.sl (.arr 4 tI)))))], []⟩
def v_eqDeal_o : RSh := ⟨(.data true .bool), []⟩
theorem v_eqDeal_ev (n : Nat) (x : TupT v_eqDeal_i.tys) : evF ⟨tab, [v_eqIntA4S_e n], n, []⟩ Try.f118 v_eqDeal_i v_eqDeal_o x = v_eqDeal n x.1 x.2 := by kernel_rfl
noncomputable def v_eqDeal_e (n : Nat) : Ent := ⟨118, v_eqDeal_i, v_eqDeal_o, fun x => v_eqDeal n x.1 x.2⟩
theorem v_eqDeal_ok (n : Nat) : EntOK Try.prog (v_eqDeal_e n) ∧ Own Try.prog 118 := ent_ok tabOK0 (.cons (v_eqIntA4S_ok n) .nil) Try.func118 rfl (by kernel_rfl) (v_eqDeal_ev n)
def v_eqIntS_i : CSh := ⟨[(.data false (.sl tI)), (.data false (.sl tI))], []⟩
def v_eqIntS_o : RSh := ⟨(.data true .bool), []⟩
theorem v_eqIntS_ev (n : Nat) (x : TupT v_eqIntS_i.tys) : evF ⟨tab, [], n, [(14, ⟨[(0, (.data false (.sl tI))), (1, (.data false (.sl tI))), (5, (.data true tI))], [], 0⟩)]⟩ Try.f45 v_eqIntS_i v_eqIntS_o x = v_eqIntS n x.1 x.2 := by kernel_rfl
noncomputable def v_eqIntS_e (n : Nat) : Ent := ⟨45, v_eqIntS_i, v_eqIntS_o, fun x => v_eqIntS n x.1 x.2⟩
theorem v_eqIntS_ok (n : Nat) : EntOK Try.prog (v_eqIntS_e n) ∧ Own Try.prog 45 := ent_ok tabOK0 .nil Try.func45 rfl (by kernel_rfl) (v_eqIntS_ev n)
def v_eqGame_i : CSh := ⟨[(.data false (.pair (.pair tI (.pair tI (.sl (.arr 4 tI)))) (.pair (.sl tI) (.sl tI)))), (.data false (.pair (.pair tI (.pair tI (.sl (.arr 4 tI)))) (.pair (.sl tI) (.sl tI))))], []⟩
def v_eqGame_o : RSh := ⟨(.data true .bool), []⟩
theorem v_eqGame_ev (n : Nat) (x : TupT v_eqGame_i.tys) : evF ⟨tab, [v_eqDeal_e n, v_eqIntS_e n], n, []⟩ Try.f17 v_eqGame_i v_eqGame_o x = v_eqGame n x.1 x.2 := by kernel_rfl
noncomputable def v_eqGame_e (n : Nat) : Ent := ⟨17, v_eqGame_i, v_eqGame_o, fun x => v_eqGame n x.1 x.2⟩
theorem v_eqGame_ok (n : Nat) : EntOK Try.prog (v_eqGame_e n) ∧ Own Try.prog 17 := ent_ok tabOK0 (.cons (v_eqDeal_ok n) (.cons (v_eqIntS_ok n) .nil)) Try.func17 rfl (by kernel_rfl) (v_eqGame_ev n)
def v_eqIntA3_i : CSh := ⟨[(.data true (.arr 3 tI)), (.data true (.arr 3 tI))], []⟩
def v_eqIntA3_o : RSh := ⟨(.data true .bool), []⟩
theorem v_eqIntA3_ev (n : Nat) (x : TupT v_eqIntA3_i.tys) : evF ⟨tab, [], n, [(6, ⟨[(2, (.ptr 0 [])), (3, (.ptr 1 [])), (5, (.data true tI))], [.var 65 (.data true (.arr 3 tI)), .var 65 (.data true (.arr 3 tI))], 0⟩)]⟩ Try.f205 v_eqIntA3_i v_eqIntA3_o x = v_eqIntA3 n x.1 x.2 := by kernel_rfl
noncomputable def v_eqIntA3_e (n : Nat) : Ent := ⟨205, v_eqIntA3_i, v_eqIntA3_o, fun x => v_eqIntA3 n x.1 x.2⟩
theorem v_eqIntA3_ok (n : Nat) : EntOK Try.prog (v_eqIntA3_e n) ∧ Own Try.prog 205 := ent_ok tabOK0 .nil Try.func205 rfl (by kernel_rfl) (v_eqIntA3_ev n)
def v_eqClaim_i : CSh := ⟨[(.data true (.pair tI (.arr 3 tI))), (.data true (.pair tI (.arr 3 tI)))], []⟩
def v_eqClaim_o : RSh := ⟨(.data true .bool), []⟩
theorem v_eqClaim_ev (n : Nat) (x : TupT v_eqClaim_i.tys) : evF ⟨tab, [v_eqIntA3_e n], n, []⟩ Try.f119 v_eqClaim_i v_eqClaim_o x = v_eqClaim n x.1 x.2 := by kernel_rfl
noncomputable def v_eqClaim_e (n : Nat) : Ent := ⟨119, v_eqClaim_i, v_eqClaim_o, fun x => v_eqClaim n x.1 x.2⟩
theorem v_eqClaim_ok (n : Nat) : EntOK Try.prog (v_eqClaim_e n) ∧ Own Try.prog 119 := ent_ok tabOK0 (.cons (v_eqIntA3_ok n) .nil) Try.func119 rfl (by kernel_rfl) (v_eqClaim_ev n)
def v_eqClaimS_i : CSh := ⟨[(.data false (.sl (.pair tI (.arr 3 tI)))), (.data false (.sl (.pair tI (.arr 3 tI))))], []⟩
def v_eqClaimS_o : RSh := ⟨(.data true .bool), []⟩
theorem v_eqClaimS_ev (n : Nat) (x : TupT v_eqClaimS_i.tys) : evF ⟨tab, [v_eqClaim_e n], n, [(14, ⟨[(0, (.data false (.sl (.pair tI (.arr 3 tI))))), (1, (.data false (.sl (.pair tI (.arr 3 tI))))), (5, (.data true tI))], [], 0⟩)]⟩ Try.f18 v_eqClaimS_i v_eqClaimS_o x = v_eqClaimS n x.1 x.2 := by kernel_rfl
noncomputable def v_eqClaimS_e (n : Nat) : Ent := ⟨18, v_eqClaimS_i, v_eqClaimS_o, fun x => v_eqClaimS n x.1 x.2⟩
theorem v_eqClaimS_ok (n : Nat) : EntOK Try.prog (v_eqClaimS_e n) ∧ Own Try.prog 18 := ent_ok tabOK0 (.cons (v_eqClaim_ok n) .nil) Try.func18 rfl (by kernel_rfl) (v_eqClaimS_ev n)
def v_markIntA4S'o_i : CSh := ⟨[(.own 0), (.data true tI)], [.rows 51 true (.arr 4 tI)]⟩
def v_markIntA4S'o_o : RSh := ⟨(.data true tI), [.rows 51 true (.arr 4 tI)]⟩
theorem v_markIntA4S'o_ev (n : Nat) (x : TupT v_markIntA4S'o_i.tys) : evF ⟨tab, [], n, [(6, ⟨[(0, (.own 0)), (1, (.data true tI)), (5, (.data true tI))], [.rows 51 true (.arr 4 tI)], 1⟩), (18, ⟨[(0, (.own 0)), (1, (.data true tI)), (5, (.data true tI)), (6, (.data true tI))], [.rows 51 true (.arr 4 tI)], 1⟩)]⟩ Try.f47 v_markIntA4S'o_i v_markIntA4S'o_o x = v_markIntA4S'o n x.1 x.2 := by kernel_rfl
noncomputable def v_markIntA4S'o_e (n : Nat) : Ent := ⟨47, v_markIntA4S'o_i, v_markIntA4S'o_o, fun x => v_markIntA4S'o n x.1 x.2⟩
theorem v_markIntA4S'o_ok (n : Nat) : EntOK Try.prog (v_markIntA4S'o_e n) ∧ Own Try.prog 47 := ent_ok tabOK0 .nil Try.func47 rfl (by kernel_rfl) (v_markIntA4S'o_ev n)
def v_markDeal'o_i : CSh := ⟨[(.pr (.data true tI) (.pr (.data true tI) (.own 0))), (.data true tI)], [.rows 51 true (.arr 4 tI)]⟩
def v_markDeal'o_o : RSh := ⟨(.data true tI), [.rows 51 true (.arr 4 tI)]⟩
theorem v_markDeal'o_ev (n : Nat) (x : TupT v_markDeal'o_i.tys) : evF ⟨tab, [v_markIntA4S'o_e n], n, []⟩ Try.f177 v_markDeal'o_i v_markDeal'o_o x = v_markDeal'o n x.1 x.2.1 x.2.2.1 x.2.2.2 := by kernel_rfl
noncomputable def v_markDeal'o_e (n : Nat) : Ent := ⟨177, v_markDeal'o_i, v_markDeal'o_o, fun x => v_markDeal'o n x.1 x.2.1 x.2.2.1 x.2.2.2⟩
theorem v_markDeal'o_ok (n : Nat) : EntOK Try.prog (v_markDeal'o_e n) ∧ Own Try.prog 177 := ent_ok tabOK0 (.cons (v_markIntA4S'o_ok n) .nil) Try.func177 rfl (by kernel_rfl) (v_markDeal'o_ev n)
def v_markIntS'o_i : CSh := ⟨[(.own 0), (.data true tI)], [.rows 3 true tI]⟩
def v_markIntS'o_o : RSh := ⟨(.data true tI), [.rows 3 true tI]⟩
theorem v_markIntS'o_ev (n : Nat) (x : TupT v_markIntS'o_i.tys) : evF ⟨tab, [], n, [(6, ⟨[(0, (.own 0)), (1, (.data true tI)), (5, (.data true tI))], [.rows 3 true tI], 1⟩)]⟩ Try.f48 v_markIntS'o_i v_markIntS'o_o x = v_markIntS'o n x.1 x.2 := by kernel_rfl
noncomputable def v_markIntS'o_e (n : Nat) : Ent := ⟨48, v_markIntS'o_i, v_markIntS'o_o, fun x => v_markIntS'o n x.1 x.2⟩
theorem v_markIntS'o_ok (n : Nat) : EntOK Try.prog (v_markIntS'o_e n) ∧ Own Try.prog 48 := ent_ok tabOK0 .nil Try.func48 rfl (by kernel_rfl) (v_markIntS'o_ev n)
def v_markGame'ooo_i : CSh := ⟨[(.pr (.pr (.data true tI) (.pr (.data true tI) (.own 0))) (.pr (.own 1) (.own 2))), (.data true tI)], [.rows 51 true (.arr 4 tI), .rows 3 true tI, .rows 3 true tI]⟩
def v_markGame'ooo_o : RSh := ⟨(.data true tI), [.rows 51 true (.arr 4 tI), .rows 3 true tI, .rows 3 true tI]⟩
theorem v_markGame'ooo_ev (n : Nat) (x : TupT v_markGame'ooo_i.tys) : evF ⟨tab, [v_markDeal'o_e n, v_markIntS'o_e n], n, []⟩ Try.f70 v_markGame'ooo_i v_markGame'ooo_o x = v_markGame'ooo n x.1 x.2.1 x.2.2.1 x.2.2.2.1 x.2.2.2.2.1 x.2.2.2.2.2 := by kernel_rfl
noncomputable def v_markGame'ooo_e (n : Nat) : Ent := ⟨70, v_markGame'ooo_i, v_markGame'ooo_o, fun x => v_markGame'ooo n x.1 x.2.1 x.2.2.1 x.2.2.2.1 x.2.2.2.2.1 x.2.2.2.2.2⟩
theorem v_markGame'ooo_ok (n : Nat) : EntOK Try.prog (v_markGame'ooo_e n) ∧ Own Try.prog 70 := ent_ok tabOK0 (.cons (v_markDeal'o_ok n) (.cons (v_markIntS'o_ok n) .nil)) Try.func70 rfl (by kernel_rfl) (v_markGame'ooo_ev n)
def v_markClaimS'o_i : CSh := ⟨[(.own 0), (.data true tI)], [.rows 91 true (.pair tI (.arr 3 tI))]⟩
def v_markClaimS'o_o : RSh := ⟨(.data true tI), [.rows 91 true (.pair tI (.arr 3 tI))]⟩
theorem v_markClaimS'o_ev (n : Nat) (x : TupT v_markClaimS'o_i.tys) : evF ⟨tab, [], n, [(6, ⟨[(0, (.own 0)), (1, (.data true tI)), (5, (.data true tI))], [.rows 91 true (.pair tI (.arr 3 tI))], 1⟩), (22, ⟨[(0, (.own 0)), (1, (.data true tI)), (5, (.data true tI)), (6, (.data true tI))], [.rows 91 true (.pair tI (.arr 3 tI))], 1⟩)]⟩ Try.f71 v_markClaimS'o_i v_markClaimS'o_o x = v_markClaimS'o n x.1 x.2 := by kernel_rfl
noncomputable def v_markClaimS'o_e (n : Nat) : Ent := ⟨71, v_markClaimS'o_i, v_markClaimS'o_o, fun x => v_markClaimS'o n x.1 x.2⟩
theorem v_markClaimS'o_ok (n : Nat) : EntOK Try.prog (v_markClaimS'o_e n) ∧ Own Try.prog 71 := ent_ok tabOK0 .nil Try.func71 rfl (by kernel_rfl) (v_markClaimS'o_ev n)
def v_heldIntA4S_i : CSh := ⟨[(.data false (.sl (.arr 4 tI))), (.data true tI)], []⟩
def v_heldIntA4S_o : RSh := ⟨(.data true tI), []⟩
theorem v_heldIntA4S_ev (n : Nat) (x : TupT v_heldIntA4S_i.tys) : evF ⟨tab, [], n, [(6, ⟨[(0, (.data false (.sl (.arr 4 tI)))), (1, (.data true tI)), (5, (.data true tI))], [], 0⟩), (18, ⟨[(0, (.data false (.sl (.arr 4 tI)))), (1, (.data true tI)), (5, (.data true tI)), (6, (.data true tI))], [], 0⟩)]⟩ Try.f235 v_heldIntA4S_i v_heldIntA4S_o x = v_heldIntA4S n x.1 x.2 := by kernel_rfl
noncomputable def v_heldIntA4S_e (n : Nat) : Ent := ⟨235, v_heldIntA4S_i, v_heldIntA4S_o, fun x => v_heldIntA4S n x.1 x.2⟩
theorem v_heldIntA4S_ok (n : Nat) : EntOK Try.prog (v_heldIntA4S_e n) ∧ Own Try.prog 235 := ent_ok tabOK0 .nil Try.func235 rfl (by kernel_rfl) (v_heldIntA4S_ev n)
def v_heldDeal_i : CSh := ⟨[(.data false (.pair tI (.pair tI (.sl (.arr 4 tI))))), (.data true tI)], []⟩
def v_heldDeal_o : RSh := ⟨(.data true tI), []⟩
theorem v_heldDeal_ev (n : Nat) (x : TupT v_heldDeal_i.tys) : evF ⟨tab, [v_heldIntA4S_e n], n, []⟩ Try.f178 v_heldDeal_i v_heldDeal_o x = v_heldDeal n x.1 x.2 := by kernel_rfl
noncomputable def v_heldDeal_e (n : Nat) : Ent := ⟨178, v_heldDeal_i, v_heldDeal_o, fun x => v_heldDeal n x.1 x.2⟩
theorem v_heldDeal_ok (n : Nat) : EntOK Try.prog (v_heldDeal_e n) ∧ Own Try.prog 178 := ent_ok tabOK0 (.cons (v_heldIntA4S_ok n) .nil) Try.func178 rfl (by kernel_rfl) (v_heldDeal_ev n)
def v_heldIntS_i : CSh := ⟨[(.data false (.sl tI)), (.data true tI)], []⟩
def v_heldIntS_o : RSh := ⟨(.data true tI), []⟩
theorem v_heldIntS_ev (n : Nat) (x : TupT v_heldIntS_i.tys) : evF ⟨tab, [], n, [(6, ⟨[(0, (.data false (.sl tI))), (1, (.data true tI)), (5, (.data true tI))], [], 0⟩)]⟩ Try.f49 v_heldIntS_i v_heldIntS_o x = v_heldIntS n x.1 x.2 := by kernel_rfl
noncomputable def v_heldIntS_e (n : Nat) : Ent := ⟨49, v_heldIntS_i, v_heldIntS_o, fun x => v_heldIntS n x.1 x.2⟩
theorem v_heldIntS_ok (n : Nat) : EntOK Try.prog (v_heldIntS_e n) ∧ Own Try.prog 49 := ent_ok tabOK0 .nil Try.func49 rfl (by kernel_rfl) (v_heldIntS_ev n)
def v_heldGame_i : CSh := ⟨[(.data false (.pair (.pair tI (.pair tI (.sl (.arr 4 tI)))) (.pair (.sl tI) (.sl tI)))), (.data true tI)], []⟩
def v_heldGame_o : RSh := ⟨(.data true tI), []⟩
theorem v_heldGame_ev (n : Nat) (x : TupT v_heldGame_i.tys) : evF ⟨tab, [v_heldDeal_e n, v_heldIntS_e n], n, []⟩ Try.f72 v_heldGame_i v_heldGame_o x = v_heldGame n x.1 x.2 := by kernel_rfl
noncomputable def v_heldGame_e (n : Nat) : Ent := ⟨72, v_heldGame_i, v_heldGame_o, fun x => v_heldGame n x.1 x.2⟩
theorem v_heldGame_ok (n : Nat) : EntOK Try.prog (v_heldGame_e n) ∧ Own Try.prog 72 := ent_ok tabOK0 (.cons (v_heldDeal_ok n) (.cons (v_heldIntS_ok n) .nil)) Try.func72 rfl (by kernel_rfl) (v_heldGame_ev n)
def v_FnExactRunClaims_i : CSh := ⟨[(.data false (.pair (.pair tI (.pair tI (.sl (.arr 4 tI)))) (.pair (.sl tI) (.sl tI)))), (.data false (.sl (.pair tI (.arr 3 tI))))], []⟩
def v_FnExactRunClaims_o : RSh := ⟨(.data true .bool), []⟩
theorem v_FnExactRunClaims_ev (n : Nat) (x : TupT v_FnExactRunClaims_i.tys) : evF ⟨tab, [v_szGame_e n, v_szClaimS_e n, v_toGame_e n, v_toClaimS_e n, s_RunClaims_e n, i_RunClaims_e n, v_eqGame_e n, v_eqIntA4_e n, v_eqClaimS_e n, v_markGame'ooo_e n, v_markClaimS'o_e n, v_heldGame_e n], n, []⟩ Try.f8 v_FnExactRunClaims_i v_FnExactRunClaims_o x = v_FnExactRunClaims n x.1 x.2 := by kernel_rfl
noncomputable def v_FnExactRunClaims_e (n : Nat) : Ent := ⟨8, v_FnExactRunClaims_i, v_FnExactRunClaims_o, fun x => v_FnExactRunClaims n x.1 x.2⟩
theorem v_FnExactRunClaims_ok (n : Nat) : EntOK Try.prog (v_FnExactRunClaims_e n) ∧ Own Try.prog 8 := ent_ok tabOK0 (.cons (v_szGame_ok n) (.cons (v_szClaimS_ok n) (.cons (v_toGame_ok n) (.cons (v_toClaimS_ok n) (.cons (s_RunClaims_ok n) (.cons (i_RunClaims_ok n) (.cons (v_eqGame_ok n) (.cons (v_eqIntA4_ok n) (.cons (v_eqClaimS_ok n) (.cons (v_markGame'ooo_ok n) (.cons (v_markClaimS'o_ok n) (.cons (v_heldGame_ok n) .nil)))))))))))) Try.func8 rfl (by kernel_rfl) (v_FnExactRunClaims_ev n)
end Go.Proofs.Ytogpfbmanlicdaa
