/- Functions of the program, each as a plain function and its contract. Printed by program. -/
import Derived.Test.YtleaogcnndhdgaaSg
import Derived.Test.YtleaogcnndhdgaaAv23
namespace Go.Proofs.Ytleaogcnndhdgaa
open Go Go.Av Go.RowKit

/-- loop.example/g01203/laws.szIntA4S -/
def F10 (n : Nat) (a0 : (List (V4 Int))) (a1 : Int) : Option (Int) :=
  lt (w64 (a1 - (a0.length : Int)) : Int) fun x1 => br (decide (x1 < 0)) (some (-1)) (some x1)
theorem own10 : Own Try.prog 10 := ⟨_, Try.func10, rfl, by kernel_rfl⟩
theorem C10 {n : Nat} {a0 : (List (V4 Int))} {a1 : Int} {r : Int} (h : F10 n a0 a1 = some r) : DCall Try.prog 10 [.ro (a0.map (V4.row aI)) false, aI a1] [] (aI r) [] := by
  refine ⟨own10, VCall.enter (G := sg) Try.func10 rfl (Nat.le_of_ble_eq_true rfl) (Nat.le_of_ble_eq_true rfl) fun B hnt hn0 => ?_⟩
  unfold F10 at h
  refine AWp.seq ?_
  refine AWp.region ?_
  refine RW.step (d := ⟨some 4, aI 0, []⟩) (k := 0) rfl (dt hnt rfl rfl) (Stp.pure (G := sg) _ (by kernel_rfl)) ?_
  refine RW.nil ?_
  refine thenN ?_
  refine AWp.seq ?_
  refine AWp.region ?_
  refine RW.step (d := ⟨some 5, aI a1, []⟩) (k := 0) rfl (dt hnt rfl rfl) (Stp.pure (G := sg) _ (by kernel_rfl)) ?_
  refine RW.step (d := ⟨some 6, .ro (a0.map (V4.row aI)) false, []⟩) (k := 0) rfl (dt hnt rfl rfl) (Stp.pure (G := sg) _ (by kernel_rfl)) ?_
  refine RW.step (d := ⟨some 7, aI (a0.length : Int), []⟩) (k := 0) rfl (dt hnt rfl rfl) (Stp.pure (G := sg) _ (P_len_ro (l := a0) (r := (V4.row aI)) (full := false) (el := 36) (by kernel_rfl) (by kernel_rfl))) ?_
  obtain ⟨x1, hx1, h⟩ := lt_inv h
  refine RW.step (d := ⟨some 8, aI x1, []⟩) (k := 0) rfl (dt hnt rfl rfl) (Stp.pure (G := sg) _ (by rw [← hx1]; kernel_rfl)) ?_
  refine RW.step (d := ⟨some 1, aI x1, []⟩) (k := 0) rfl (dt hnt rfl rfl) (Stp.pure (G := sg) _ (by kernel_rfl)) ?_
  refine RW.nil ?_
  refine thenN ?_
  refine AWp.seq ?_
  refine AWp.seq ?_
  refine AWp.region ?_
  refine RW.step (d := ⟨some 9, aI x1, []⟩) (k := 0) rfl (dt hnt rfl rfl) (Stp.pure (G := sg) _ (by kernel_rfl)) ?_
  refine RW.step (d := ⟨some 10, aB (decide (x1 < 0)), []⟩) (k := 0) rfl (dt hnt rfl rfl) (Stp.pure (G := sg) _ (by kernel_rfl)) ?_
  refine RW.nil ?_
  refine thenN ?_
  refine AWp.cond (t := decide (x1 < 0)) (by kernel_rfl) (fun hb => ?_) (fun hb => ?_)
  · have h := br_t hb h
    refine AWp.seq ?_
    refine AWp.region ?_
    refine RW.step (d := ⟨some 4, aI (-1), []⟩) (k := 0) rfl (dt hnt rfl rfl) (Stp.pure (G := sg) _ (by kernel_rfl)) ?_
    refine RW.nil ?_
    refine thenN ?_
    refine AWp.ret ?_
    refine thenR ?_
    injection h with h
    subst h
    exact ⟨[aI (-1)], _, [], _, by kernel_rfl, RetV.flat vw_v⟩
  · have h := br_f hb h
    refine AWp.skip ?_
    refine thenN ?_
    refine AWp.seq ?_
    refine AWp.region ?_
    refine RW.step (d := ⟨some 11, aI x1, []⟩) (k := 0) rfl (dt hnt rfl rfl) (Stp.pure (G := sg) _ (by kernel_rfl)) ?_
    refine RW.step (d := ⟨some 4, aI x1, []⟩) (k := 0) rfl (dt hnt rfl rfl) (Stp.pure (G := sg) _ (by kernel_rfl)) ?_
    refine RW.nil ?_
    refine thenN ?_
    refine AWp.ret ?_
    injection h with h
    subst h
    exact ⟨[aI x1], _, [], _, by kernel_rfl, RetV.flat vw_v⟩

/-- loop.example/g01203/laws.toIntA4 -/
def F21_L1 (n : Nat) (a0 : (V4 Int)) (f2 : ((V4 Int) × Int) → Option ((V4 Int))) (s1 : (V4 Int) × Int) : Option ((V4 Int)) :=
  br (decide (s1.2 < 4)) (ck (0 ≤ s1.2 ∧ s1.2 < 4) (ck (0 ≤ s1.2 ∧ s1.2 < 4) (f2 (V4.set s1.1 s1.2.toNat (V4.get a0 s1.2.toNat), w64 (s1.2 + 1))))) (some s1.1)
def F21 (n : Nat) (a0 : (V4 Int)) : Option ((V4 Int)) :=
  fx (F21_L1 n a0) n ((⟨0, 0, 0, 0⟩ : (V4 Int)), 0)
theorem own21 : Own Try.prog 21 := ⟨_, Try.func21, rfl, by kernel_rfl⟩
theorem C21 {n : Nat} {a0 : (V4 Int)} {r : (V4 Int)} (h : F21 n a0 = some r) : DCall Try.prog 21 [.agg [(V4.row aI) a0]] [] (.agg [(V4.row aI) r]) [] := by
  refine ⟨own21, VCall.enter (G := sg) Try.func21 rfl (Nat.le_of_ble_eq_true rfl) (Nat.le_of_ble_eq_true rfl) fun B hnt hn0 => ?_⟩
  unfold F21 at h
  refine AWp.seq ?_
  refine AWp.region ?_
  refine RW.step (d := ⟨some 1, .ptr 0 0 0, [(0, some ⟨36, none, [(V4.row aI) a0]⟩)]⟩) (k := 1) rfl (dt hnt rfl rfl) (Stp.new (G := sg) (by kernel_rfl)) ?_
  refine RW.step (d := ⟨some 2, .ptr 1 0 0, [(1, some ⟨36, none, [(V4.row aI) (⟨0, 0, 0, 0⟩ : (V4 Int))]⟩)]⟩) (k := 1) rfl (dt hnt rfl rfl) (Stp.new (G := sg) (by kernel_rfl)) ?_
  refine RW.nil ?_
  refine thenN ?_
  refine AWp.seq ?_
  refine AWp.region ?_
  refine RW.step (d := ⟨some 3, .ptr 2 0 0, [(2, some ⟨36, none, [(V4.row aI) (⟨0, 0, 0, 0⟩ : (V4 Int))]⟩)]⟩) (k := 1) rfl (dt hnt rfl rfl) (Stp.new (G := sg) (by kernel_rfl)) ?_
  refine RW.nil ?_
  refine thenN ?_
  refine AWp.seq ?_
  refine AWp.seq ?_
  refine AWp.region ?_
  refine RW.step (d := ⟨some 4, aI 0, []⟩) (k := 0) rfl (dt hnt rfl rfl) (Stp.pure (G := sg) _ (by kernel_rfl)) ?_
  refine RW.nil ?_
  refine thenN ?_
  refine AWp.block ?_
  refine AWp.loop (fun i st' => ∃ (s1 : (V4 Int) × Int) (names : List (Nat × Nat)), StV B.n0 st' (tabN names) ⟨tabE [(1, .ptr 0 0 0), (2, .ptr 1 0 0), (3, .ptr 2 0 0), (4, aI s1.2)], tabO [(0, ⟨36, none, [(V4.row aI) a0]⟩), (1, ⟨36, none, [(V4.row aI) (⟨0, 0, 0, 0⟩ : (V4 Int))]⟩), (2, ⟨36, none, [(V4.row aI) s1.1]⟩)], 3⟩ ∧ fx (F21_L1 n a0) i s1 = some r) n ⟨((⟨0, 0, 0, 0⟩ : (V4 Int)), 0), [(0, 0), (1, 1), (2, 2)], (StV.tab (by rw [hn0]; rfl) (E_cons (a0 := .ptr 0 0 0) (by kernel_rfl) (vw_ptr rfl) (E_cons (a0 := .ptr 1 0 0) (by kernel_rfl) (vw_ptr rfl) (E_cons (a0 := .ptr 2 0 0) (by kernel_rfl) (vw_ptr rfl) (E_cons (a0 := aI 0) (by kernel_rfl) vw_v E_nil)))) (O_cons 0 ⟨36, none, [(V4.row aI) a0]⟩ rfl (by kernel_rfl) rfl rfl (vs_cons (vwList_flat rfl) vs_nil) (O_cons 1 ⟨36, none, [(V4.row aI) (⟨0, 0, 0, 0⟩ : (V4 Int))]⟩ rfl (by kernel_rfl) rfl rfl (vs_cons (vwList_flat rfl) vs_nil) (O_cons 2 ⟨36, none, [(V4.row aI) (⟨0, 0, 0, 0⟩ : (V4 Int))]⟩ rfl (by kernel_rfl) rfl rfl (vs_cons (vwList_flat rfl) vs_nil) O_nil))) (by rw [hn0]; rfl)), h⟩ ?_
  rintro is1 st1 ⟨s1, names, hv, h⟩
  obtain ⟨ks1, f2, hks1, hfs1, h⟩ := fx_inv h
  refine AWp.view _ hv ?_
  unfold F21_L1 at h
  refine AWp.seq ?_
  refine AWp.seq ?_
  refine AWp.region ?_
  refine RW.step (d := ⟨some 5, aI s1.2, []⟩) (k := 0) rfl (dt hnt rfl rfl) (Stp.pure (G := sg) _ (by kernel_rfl)) ?_
  refine RW.step (d := ⟨some 6, aB (decide (s1.2 < 4)), []⟩) (k := 0) rfl (dt hnt rfl rfl) (Stp.pure (G := sg) _ (by kernel_rfl)) ?_
  refine RW.nil ?_
  refine thenN ?_
  refine AWp.cond (t := decide (s1.2 < 4)) (by kernel_rfl) (fun hb => ?_) (fun hb => ?_)
  · have h := br_t hb h
    refine AWp.skip ?_
    refine thenN ?_
    refine AWp.seq ?_
    refine AWp.block ?_
    refine AWp.region ?_
    refine RW.step (d := ⟨some 9, aI s1.2, []⟩) (k := 0) rfl (dt hnt rfl rfl) (Stp.pure (G := sg) _ (by kernel_rfl)) ?_
    refine RW.step (d := ⟨some 10, aI s1.2, []⟩) (k := 0) rfl (dt hnt rfl rfl) (Stp.pure (G := sg) _ (by kernel_rfl)) ?_
    obtain ⟨hc11, h⟩ := ck_inv h
    refine RW.step (d := ⟨some 11, .ptr 0 0 s1.2.toNat, []⟩) (k := 0) rfl (dt hnt rfl rfl) (Stp.pure (G := sg) _ (P_ia_arr (nm := 0) (s := 0) (len := 4) (kk := .i64) (n := s1.2) (el := 3) (by kernel_rfl) (by kernel_rfl) (by kernel_rfl) rfl (by omega))) ?_
    refine RW.step (d := ⟨some 12, aI (V4.get a0 s1.2.toNat), []⟩) (k := 0) rfl (dt hnt rfl rfl) (Stp.pure (G := sg) _ (P_ld (nm := 0) (s := 0) (j := s1.2.toNat) (o := ⟨36, none, [(V4.row aI) a0]⟩) (by kernel_rfl) (by kernel_rfl) (L_cell (row := (V4.row aI) a0) (by kernel_rfl) (by kernel_rfl) (V4.row_get _ _ (by omega))))) ?_
    obtain ⟨hc12, h⟩ := ck_inv h
    refine RW.step (d := ⟨some 13, .ptr 2 0 s1.2.toNat, []⟩) (k := 0) rfl (dt hnt rfl rfl) (Stp.pure (G := sg) _ (P_ia_arr (nm := 2) (s := 0) (len := 4) (kk := .i64) (n := s1.2) (el := 3) (by kernel_rfl) (by kernel_rfl) (by kernel_rfl) rfl (by omega))) ?_
    refine RW.step (d := ⟨none, .any, [(2, some ⟨36, none, [(V4.row aI) (V4.set s1.1 s1.2.toNat (V4.get a0 s1.2.toNat))]⟩)]⟩) (k := 0) rfl (dn rfl) (Stp.store (G := sg) _ rfl (S_st (s := 0) (j := s1.2.toNat) (o := ⟨36, none, [(V4.row aI) s1.1]⟩) (a := aI (V4.get a0 s1.2.toNat)) (by kernel_rfl) (by kernel_rfl) (by kernel_rfl) (by kernel_rfl) (by kernel_rfl) (Nat.le_of_ble_eq_true rfl) (T_cell (row := (V4.row aI) s1.1) rfl (by kernel_rfl) (show s1.2.toNat < 4 by omega) (V4.row_set _ _ _ (by omega)) (by kernel_rfl)))) ?_
    refine RW.nil ?_
    refine blockN ?_
    refine thenN ?_
    refine AWp.region ?_
    refine RW.step (d := ⟨some 7, aI s1.2, []⟩) (k := 0) rfl (dt hnt rfl rfl) (Stp.pure (G := sg) _ (by kernel_rfl)) ?_
    refine RW.step (d := ⟨some 8, aI (w64 (s1.2 + 1)), []⟩) (k := 0) rfl (dt hnt rfl rfl) (Stp.pure (G := sg) _ (by kernel_rfl)) ?_
    refine RW.step (d := ⟨some 4, aI (w64 (s1.2 + 1)), []⟩) (k := 0) rfl (dt hnt rfl rfl) (Stp.pure (G := sg) _ (by kernel_rfl)) ?_
    refine RW.nil ?_
    exact ⟨ks1, by rw [hks1]; exact Nat.lt_succ_self _, (V4.set s1.1 s1.2.toNat (V4.get a0 s1.2.toNat), w64 (s1.2 + 1)), [(0, 0), (1, 1), (2, 2)], (StV.tab (by rw [hn0]; rfl) (E_cons (a0 := .ptr 0 0 0) (by kernel_rfl) (vw_ptr rfl) (E_cons (a0 := .ptr 1 0 0) (by kernel_rfl) (vw_ptr rfl) (E_cons (a0 := .ptr 2 0 0) (by kernel_rfl) (vw_ptr rfl) (E_cons (a0 := aI (w64 (s1.2 + 1))) (by kernel_rfl) vw_v E_nil)))) (O_cons 0 ⟨36, none, [(V4.row aI) a0]⟩ rfl (by kernel_rfl) rfl rfl (vs_cons (vwList_flat rfl) vs_nil) (O_cons 1 ⟨36, none, [(V4.row aI) (⟨0, 0, 0, 0⟩ : (V4 Int))]⟩ rfl (by kernel_rfl) rfl rfl (vs_cons (vwList_flat rfl) vs_nil) (O_cons 2 ⟨36, none, [(V4.row aI) (V4.set s1.1 s1.2.toNat (V4.get a0 s1.2.toNat))]⟩ rfl (by kernel_rfl) rfl rfl (vs_cons (vwList_flat rfl) vs_nil) O_nil))) (by rw [hn0]; rfl)), by rw [← hfs1]; exact h⟩
  · have h := br_f hb h
    refine AWp.exit ?_
    refine thenX ?_
    refine thenX ?_
    refine blockH ?_
    refine thenN ?_
    refine AWp.seq ?_
    refine AWp.region ?_
    refine RW.step (d := ⟨some 14, .agg [(V4.row aI) s1.1], []⟩) (k := 0) rfl (dt hnt rfl rfl) (Stp.pure (G := sg) _ (by kernel_rfl)) ?_
    refine RW.step (d := ⟨none, .any, [(1, some ⟨36, none, [(V4.row aI) s1.1]⟩)]⟩) (k := 0) rfl (dn rfl) (Stp.store (G := sg) _ rfl (by kernel_rfl)) ?_
    refine RW.nil ?_
    refine thenN ?_
    refine AWp.ret ?_
    injection h with h
    subst h
    exact ⟨[.agg [(V4.row aI) s1.1]], _, [], _, by kernel_rfl, RetV.flat (vw_agg (vs_cons (vwList_flat rfl) vs_nil))⟩

/-- loop.example/g01203/laws.toIntA4S -/
def F12_L1 (n : Nat) (a0 : (List (V4 Int))) (f2 : ((List (V4 Int)) × Int) → Option ((List (V4 Int)))) (s1 : (List (V4 Int)) × Int) : Option ((List (V4 Int))) :=
  lt (decide (s1.2 < (a0.length : Int)) : Bool) fun x3 => br (x3) (ck (0 ≤ s1.2 ∧ s1.2 < (a0.length : Int)) (ob (F21 n (gl a0 s1.2.toNat)) fun (x4 : ((V4 Int))) => ck (0 ≤ s1.2 ∧ s1.2 < (s1.1.length : Int)) (f2 (s1.1.set s1.2.toNat x4, w64 (s1.2 + 1))))) (some s1.1)
def F12 (n : Nat) (a0 : (List (V4 Int))) : Option ((List (V4 Int))) :=
  ck (0 ≤ (a0.length : Int) ∧ (a0.length : Int) ≤ 4294967296) (fx (F12_L1 n a0) n (List.replicate (a0.length : Int).toNat (⟨0, 0, 0, 0⟩ : (V4 Int)), 0))
theorem own12 : Own Try.prog 12 := ⟨_, Try.func12, rfl, by kernel_rfl⟩
theorem C12 {n : Nat} {a0 : (List (V4 Int))} {r : (List (V4 Int))} (h : F12 n a0 = some r) : DCall Try.prog 12 [.ro (a0.map (V4.row aI)) false] [] (.sl 0 0 r.length) [some ⟨36, some 4, (r.map (V4.row aI))⟩] := by
  refine ⟨own12, VCall.enter (G := sg) Try.func12 rfl (Nat.le_of_ble_eq_true rfl) (Nat.le_of_ble_eq_true rfl) fun B hnt hn0 => ?_⟩
  unfold F12 at h
  refine AWp.seq ?_
  refine AWp.region ?_
  refine RW.step (d := ⟨some 2, .ro [] true, []⟩) (k := 0) rfl (dt hnt rfl rfl) (Stp.pure (G := sg) _ (by kernel_rfl)) ?_
  refine RW.nil ?_
  refine thenN ?_
  refine AWp.seq ?_
  refine AWp.region ?_
  refine RW.step (d := ⟨some 5, .ro (a0.map (V4.row aI)) false, []⟩) (k := 0) rfl (dt hnt rfl rfl) (Stp.pure (G := sg) _ (by kernel_rfl)) ?_
  refine RW.step (d := ⟨some 6, aI (a0.length : Int), []⟩) (k := 0) rfl (dt hnt rfl rfl) (Stp.pure (G := sg) _ (P_len_ro (l := a0) (r := (V4.row aI)) (full := false) (el := 36) (by kernel_rfl) (by kernel_rfl))) ?_
  obtain ⟨hc8, h⟩ := ck_inv h
  refine RW.step (d := ⟨some 7, .sl 0 0 ((a0.length : Int).toNat), [(0, some ⟨36, some 4, ((List.replicate (a0.length : Int).toNat (⟨0, 0, 0, 0⟩ : (V4 Int))).map (V4.row aI))⟩)]⟩) (k := 1) rfl (dt hnt rfl rfl) (Stp.new (G := sg) (N_make (el := 36) (kk := .i64) (kk' := .i64) (n := (a0.length : Int)) (b := 32) (k := 4) (by kernel_rfl) (by kernel_rfl) (by kernel_rfl) (by kernel_rfl) rfl hc8)) ?_
  refine RW.step (d := ⟨some 3, .sl 0 0 ((a0.length : Int).toNat), []⟩) (k := 0) rfl (dt hnt rfl rfl) (Stp.pure (G := sg) _ (by kernel_rfl)) ?_
  refine RW.nil ?_
  refine thenN ?_
  refine AWp.seq ?_
  refine AWp.seq ?_
  refine AWp.region ?_
  refine RW.step (d := ⟨some 4, aI 0, []⟩) (k := 0) rfl (dt hnt rfl rfl) (Stp.pure (G := sg) _ (by kernel_rfl)) ?_
  refine RW.nil ?_
  refine thenN ?_
  refine AWp.block ?_
  refine AWp.loop (fun i st' => ∃ (s1 : (List (V4 Int)) × Int) (names : List (Nat × Nat)), StV B.n0 st' (tabN names) ⟨tabE [(0, .ro (a0.map (V4.row aI)) false), (3, .sl 0 0 s1.1.length), (4, aI s1.2)], tabO [(0, ⟨36, some 4, (s1.1.map (V4.row aI))⟩)], 1⟩ ∧ fx (F12_L1 n a0) i s1 = some r) n ⟨(List.replicate (a0.length : Int).toNat (⟨0, 0, 0, 0⟩ : (V4 Int)), 0), [(0, 0)], (StV.tab (by rw [hn0]; rfl) (E_cons (a0 := .ro (a0.map (V4.row aI)) false) (by kernel_rfl) (vw_ro (fun h => h) (vwSegs_map (fun _ => rfl) _)) (E_cons (a0 := .sl 0 0 ((a0.length : Int).toNat)) (by kernel_rfl) (vw_slq rfl (by first | rfl | simp)) (E_cons (a0 := aI 0) (by kernel_rfl) vw_v E_nil))) (O_cons 0 ⟨36, some 4, ((List.replicate (a0.length : Int).toNat (⟨0, 0, 0, 0⟩ : (V4 Int))).map (V4.row aI))⟩ rfl (by kernel_rfl) rfl rfl (vwSegs_map (fun _ => rfl) _) O_nil) (by rw [hn0]; rfl)), h⟩ ?_
  rintro is1 st1 ⟨s1, names, hv, h⟩
  obtain ⟨ks1, f2, hks1, hfs1, h⟩ := fx_inv h
  refine AWp.view _ hv ?_
  unfold F12_L1 at h
  refine AWp.seq ?_
  refine AWp.seq ?_
  refine AWp.region ?_
  refine RW.step (d := ⟨some 8, aI s1.2, []⟩) (k := 0) rfl (dt hnt rfl rfl) (Stp.pure (G := sg) _ (by kernel_rfl)) ?_
  refine RW.step (d := ⟨some 9, .ro (a0.map (V4.row aI)) false, []⟩) (k := 0) rfl (dt hnt rfl rfl) (Stp.pure (G := sg) _ (by kernel_rfl)) ?_
  refine RW.step (d := ⟨some 10, aI (a0.length : Int), []⟩) (k := 0) rfl (dt hnt rfl rfl) (Stp.pure (G := sg) _ (P_len_ro (l := a0) (r := (V4.row aI)) (full := false) (el := 36) (by kernel_rfl) (by kernel_rfl))) ?_
  obtain ⟨x3, hx3, h⟩ := lt_inv h
  refine RW.step (d := ⟨some 11, aB x3, []⟩) (k := 0) rfl (dt hnt rfl rfl) (Stp.pure (G := sg) _ (by rw [← hx3]; kernel_rfl)) ?_
  refine RW.nil ?_
  refine thenN ?_
  refine AWp.cond (t := x3) (by kernel_rfl) (fun hb => ?_) (fun hb => ?_)
  · have h := br_t hb h
    refine AWp.skip ?_
    refine thenN ?_
    refine AWp.seq ?_
    refine AWp.block ?_
    refine AWp.region ?_
    refine RW.step (d := ⟨some 14, .sl 0 0 s1.1.length, []⟩) (k := 0) rfl (dt hnt rfl rfl) (Stp.pure (G := sg) _ (by kernel_rfl)) ?_
    refine RW.step (d := ⟨some 15, aI s1.2, []⟩) (k := 0) rfl (dt hnt rfl rfl) (Stp.pure (G := sg) _ (by kernel_rfl)) ?_
    refine RW.step (d := ⟨some 16, .ro (a0.map (V4.row aI)) false, []⟩) (k := 0) rfl (dt hnt rfl rfl) (Stp.pure (G := sg) _ (by kernel_rfl)) ?_
    refine RW.step (d := ⟨some 17, aI s1.2, []⟩) (k := 0) rfl (dt hnt rfl rfl) (Stp.pure (G := sg) _ (by kernel_rfl)) ?_
    obtain ⟨hc13, h⟩ := ck_inv h
    refine RW.step (d := ⟨some 18, .rp (a0.map (V4.row aI)) s1.2.toNat 0, []⟩) (k := 0) rfl (dt hnt rfl rfl) (Stp.pure (G := sg) _ (P_ia_ro (l := a0) (r := (V4.row aI)) (full := false) (kk := .i64) (n := s1.2) (el := 36) (by kernel_rfl) (by kernel_rfl) (by kernel_rfl) (fun _ => rfl) rfl hc13)) ?_
    refine RW.step (d := ⟨some 19, .agg [(V4.row aI) (gl a0 s1.2.toNat)], []⟩) (k := 0) rfl (dt hnt rfl rfl) (Stp.pure (G := sg) _ (P_ld_rp (segs := (a0.map (V4.row aI))) (s := s1.2.toNat) (j := 0) (by kernel_rfl) (L_row (by kernel_rfl) (by first | omega | (simp; omega))))) ?_
    obtain ⟨x4, hx4, h⟩ := ob_inv h
    refine RW.step (d := ⟨some 20, .agg [(V4.row aI) x4], []⟩) (k := 0) rfl (dt hnt rfl rfl) (Stp.call0 _ rfl (k := 21) (caps := []) (by kernel_rfl) (C21 hx4) (vl_cons (vw_agg (vs_cons (vwList_flat rfl) vs_nil)) vl_nil) (vw_agg (vs_cons (vwList_flat rfl) vs_nil))) ?_
    obtain ⟨hc14, h⟩ := ck_inv h
    refine RW.step (d := ⟨some 21, .ptr 0 s1.2.toNat 0, []⟩) (k := 0) rfl (dt hnt rfl rfl) (Stp.pure (G := sg) _ (P_ia_sl0 (nm := 0) (len := s1.1.length) (kk := .i64) (n := s1.2) (el := 36) (by kernel_rfl) (by kernel_rfl) (by kernel_rfl) (by kernel_rfl) rfl hc14)) ?_
    refine RW.step (d := ⟨none, .any, [(0, some ⟨36, some 4, ((s1.1.set s1.2.toNat x4).map (V4.row aI))⟩)]⟩) (k := 0) rfl (dn rfl) (Stp.store (G := sg) _ rfl (S_st (s := s1.2.toNat) (j := 0) (o := ⟨36, some 4, (s1.1.map (V4.row aI))⟩) (a := .agg [(V4.row aI) x4]) (by kernel_rfl) (by kernel_rfl) (by kernel_rfl) (by kernel_rfl) (by kernel_rfl) (by simp only [List.length_map, List.length_set, List.length_replicate]; omega) (T_row (y := x4) (n := 4) (fun _ => rfl) (by first | omega | (simp; omega))))) ?_
    refine RW.nil ?_
    refine blockN ?_
    refine thenN ?_
    refine AWp.region ?_
    refine RW.step (d := ⟨some 12, aI s1.2, []⟩) (k := 0) rfl (dt hnt rfl rfl) (Stp.pure (G := sg) _ (by kernel_rfl)) ?_
    refine RW.step (d := ⟨some 13, aI (w64 (s1.2 + 1)), []⟩) (k := 0) rfl (dt hnt rfl rfl) (Stp.pure (G := sg) _ (by kernel_rfl)) ?_
    refine RW.step (d := ⟨some 4, aI (w64 (s1.2 + 1)), []⟩) (k := 0) rfl (dt hnt rfl rfl) (Stp.pure (G := sg) _ (by kernel_rfl)) ?_
    refine RW.nil ?_
    exact ⟨ks1, by rw [hks1]; exact Nat.lt_succ_self _, (s1.1.set s1.2.toNat x4, w64 (s1.2 + 1)), [(0, 0)], (StV.tab (by rw [hn0]; rfl) (E_cons (a0 := .ro (a0.map (V4.row aI)) false) (by kernel_rfl) (vw_ro (fun h => h) (vwSegs_map (fun _ => rfl) _)) (E_cons (a0 := .sl 0 0 s1.1.length) (by kernel_rfl) (vw_slq rfl (by first | rfl | simp)) (E_cons (a0 := aI (w64 (s1.2 + 1))) (by kernel_rfl) vw_v E_nil))) (O_cons 0 ⟨36, some 4, ((s1.1.set s1.2.toNat x4).map (V4.row aI))⟩ rfl (by kernel_rfl) rfl rfl (vwSegs_map (fun _ => rfl) _) O_nil) (by rw [hn0]; rfl)), by rw [← hfs1]; exact h⟩
  · have h := br_f hb h
    refine AWp.exit ?_
    refine thenX ?_
    refine thenX ?_
    refine blockH ?_
    refine thenN ?_
    refine AWp.seq ?_
    refine AWp.region ?_
    refine RW.step (d := ⟨some 22, .sl 0 0 s1.1.length, []⟩) (k := 0) rfl (dt hnt rfl rfl) (Stp.pure (G := sg) _ (by kernel_rfl)) ?_
    refine RW.step (d := ⟨some 2, .sl 0 0 s1.1.length, []⟩) (k := 0) rfl (dt hnt rfl rfl) (Stp.pure (G := sg) _ (by kernel_rfl)) ?_
    refine RW.nil ?_
    refine thenN ?_
    refine AWp.ret ?_
    injection h with h
    subst h
    refine ⟨[.sl 0 0 s1.1.length], _, _, tabN [(0, 0)], by kernel_rfl, RetV.tab (fo' := [some ⟨36, some 4, (s1.1.map (V4.row aI))⟩]) (by rfl) (vw_slq rfl (by first | rfl | simp)) ?_ rfl⟩
    intro p o' ho
    match p, ho with
    | 0, ho => exact .inl ⟨0, ⟨36, some 4, (s1.1.map (V4.row aI))⟩, rfl, by kernel_rfl, by injection ho with ho; subst ho; rfl, by injection ho with ho; subst ho; rfl, by injection ho with ho; subst ho; exact (vwSegs_map (fun _ => rfl) _)⟩
    | p + 1, ho => exact absurd ho (by simp [lo'])

/-- loop.example/g01203/spec.l1In -/
def F67 (n : Nat) (a0 : Int) (a1 : Int) (a2 : Int) : Option (Bool) :=
  ob (br (decide (a1 ≤ a0)) (some (decide (a0 ≤ a2))) (some false)) fun (x1 : Bool) => some x1
theorem own67 : Own Try.prog 67 := ⟨_, Try.func67, rfl, by kernel_rfl⟩
theorem C67 {n : Nat} {a0 : Int} {a1 : Int} {a2 : Int} {r : Bool} (h : F67 n a0 a1 a2 = some r) : DCall Try.prog 67 [aI a0, aI a1, aI a2] [] (aB r) [] := by
  refine ⟨own67, VCall.enter (G := sg) Try.func67 rfl (Nat.le_of_ble_eq_true rfl) (Nat.le_of_ble_eq_true rfl) fun B hnt hn0 => ?_⟩
  unfold F67 at h
  refine AWp.seq ?_
  refine AWp.region ?_
  refine RW.step (d := ⟨some 6, aB false, []⟩) (k := 0) rfl (dt hnt rfl rfl) (Stp.pure (G := sg) _ (by kernel_rfl)) ?_
  refine RW.nil ?_
  refine thenN ?_
  refine AWp.seq ?_
  refine AWp.region ?_
  refine RW.step (d := ⟨some 7, aI a0, []⟩) (k := 0) rfl (dt hnt rfl rfl) (Stp.pure (G := sg) _ (by kernel_rfl)) ?_
  refine RW.step (d := ⟨some 8, aI a1, []⟩) (k := 0) rfl (dt hnt rfl rfl) (Stp.pure (G := sg) _ (by kernel_rfl)) ?_
  refine RW.step (d := ⟨some 9, aB (decide (a1 ≤ a0)), []⟩) (k := 0) rfl (dt hnt rfl rfl) (Stp.pure (G := sg) _ (by kernel_rfl)) ?_
  refine RW.step (d := ⟨some 10, aB (decide (a1 ≤ a0)), []⟩) (k := 0) rfl (dt hnt rfl rfl) (Stp.pure (G := sg) _ (by kernel_rfl)) ?_
  obtain ⟨x1, hx1, h⟩ := ob_inv h
  refine RW.mid 4 (fun st' => ∃ names, StV B.n0 st' (tabN names) ⟨tabE [(14, aB x1)], tabO [], 0⟩) ?_ ?_
  · rcases Bool.eq_false_or_eq_true (decide (a1 ≤ a0)) with hb1 | hb1
    · have hx1 := br_t hb1 hx1
      refine RW.gt (d := ⟨some 11, aI a0, []⟩) (k := 0) rfl rfl (by rw [hnt]; rfl) (b := decide (a1 ≤ a0)) (by kernel_rfl) hb1 (dt hnt rfl rfl) (Stp.pure (G := sg) _ (by kernel_rfl)) ?_
      refine RW.gt (d := ⟨some 12, aI a2, []⟩) (k := 0) rfl rfl (by rw [hnt]; rfl) (b := decide (a1 ≤ a0)) (by kernel_rfl) hb1 (dt hnt rfl rfl) (Stp.pure (G := sg) _ (by kernel_rfl)) ?_
      refine RW.gt (d := ⟨some 13, aB (decide (a0 ≤ a2)), []⟩) (k := 0) rfl rfl (by rw [hnt]; rfl) (b := decide (a1 ≤ a0)) (by kernel_rfl) hb1 (dt hnt rfl rfl) (Stp.pure (G := sg) _ (by kernel_rfl)) ?_
      refine RW.step (d := ⟨some 14, aB (decide (a0 ≤ a2)), []⟩) (k := 0) rfl (dt hnt rfl rfl) (Stp.pure (G := sg) _ (P_pick_t (t := decide (a1 ≤ a0)) (by kernel_rfl) hb1 (by kernel_rfl))) ?_
      injection hx1 with hx1
      subst hx1
      exact RW.nil (thenN ⟨[], (StV.tab (by rw [hn0]; rfl) (E_cons (a0 := aB (decide (a0 ≤ a2))) (by kernel_rfl) vw_v E_nil) O_nil (by rw [hn0]; rfl))⟩)
    · have hx1 := br_f hb1 hx1
      refine RW.gf rfl rfl (by rw [hnt]; rfl) (b := decide (a1 ≤ a0)) (by kernel_rfl) hb1 (dt hnt rfl rfl) ?_
      refine RW.gf rfl rfl (by rw [hnt]; rfl) (b := decide (a1 ≤ a0)) (by kernel_rfl) hb1 (dt hnt rfl rfl) ?_
      refine RW.gf rfl rfl (by rw [hnt]; rfl) (b := decide (a1 ≤ a0)) (by kernel_rfl) hb1 (dt hnt rfl rfl) ?_
      refine RW.step (d := ⟨some 14, aB false, []⟩) (k := 0) rfl (dt hnt rfl rfl) (Stp.pure (G := sg) _ (P_pick_f (t := decide (a1 ≤ a0)) (by kernel_rfl) hb1 (by kernel_rfl))) ?_
      injection hx1 with hx1
      subst hx1
      exact RW.nil (thenN ⟨[], (StV.tab (by rw [hn0]; rfl) (E_cons (a0 := aB false) (by kernel_rfl) vw_v E_nil) O_nil (by rw [hn0]; rfl))⟩)
  · rintro st2 ⟨names, hv⟩
    refine RW.weak _ hv ?_
    refine RW.step (d := ⟨some 6, aB x1, []⟩) (k := 0) rfl (dt hnt rfl rfl) (Stp.pure (G := sg) _ (by kernel_rfl)) ?_
    refine RW.nil ?_
    refine thenN ?_
    refine AWp.ret ?_
    injection h with h
    subst h
    exact ⟨[aB x1], _, [], _, by kernel_rfl, RetV.flat vw_v⟩

/-- loop.example/g01203/spec.l2Card -/
def F46_L1 (n : Nat) (a0 : (V4 Int)) (f2 : Int → Option (Bool)) (s1 : Int) : Option (Bool) :=
  br (decide (s1 < 4)) (ck (0 ≤ s1 ∧ s1 < 4) (ob (F67 n (V4.get a0 s1.toNat) 0 2) fun (x3 : (Bool)) => br (!x3) (some false) (f2 (w64 (s1 + 1))))) (some true)
def F46 (n : Nat) (a0 : (V4 Int)) : Option (Bool) :=
  fx (F46_L1 n a0) n 0
theorem own46 : Own Try.prog 46 := ⟨_, Try.func46, rfl, by kernel_rfl⟩
theorem C46 {n : Nat} {a0 : (V4 Int)} {r : Bool} (h : F46 n a0 = some r) : DCall Try.prog 46 [.agg [(V4.row aI) a0]] [] (aB r) [] := by
  refine ⟨own46, VCall.enter (G := sg) Try.func46 rfl (Nat.le_of_ble_eq_true rfl) (Nat.le_of_ble_eq_true rfl) fun B hnt hn0 => ?_⟩
  unfold F46 at h
  refine AWp.seq ?_
  refine AWp.region ?_
  refine RW.step (d := ⟨some 1, .ptr 0 0 0, [(0, some ⟨36, none, [(V4.row aI) a0]⟩)]⟩) (k := 1) rfl (dt hnt rfl rfl) (Stp.new (G := sg) (by kernel_rfl)) ?_
  refine RW.step (d := ⟨some 2, aB false, []⟩) (k := 0) rfl (dt hnt rfl rfl) (Stp.pure (G := sg) _ (by kernel_rfl)) ?_
  refine RW.nil ?_
  refine thenN ?_
  refine AWp.seq ?_
  refine AWp.seq ?_
  refine AWp.region ?_
  refine RW.step (d := ⟨some 3, aI 0, []⟩) (k := 0) rfl (dt hnt rfl rfl) (Stp.pure (G := sg) _ (by kernel_rfl)) ?_
  refine RW.nil ?_
  refine thenN ?_
  refine AWp.block ?_
  refine AWp.loop (fun i st' => ∃ (s1 : Int) (names : List (Nat × Nat)), StV B.n0 st' (tabN names) ⟨tabE [(1, .ptr 0 0 0), (3, aI s1)], tabO [(0, ⟨36, none, [(V4.row aI) a0]⟩)], 1⟩ ∧ fx (F46_L1 n a0) i s1 = some r) n ⟨0, [(0, 0)], (StV.tab (by rw [hn0]; rfl) (E_cons (a0 := .ptr 0 0 0) (by kernel_rfl) (vw_ptr rfl) (E_cons (a0 := aI 0) (by kernel_rfl) vw_v E_nil)) (O_cons 0 ⟨36, none, [(V4.row aI) a0]⟩ rfl (by kernel_rfl) rfl rfl (vs_cons (vwList_flat rfl) vs_nil) O_nil) (by rw [hn0]; rfl)), h⟩ ?_
  rintro is1 st1 ⟨s1, names, hv, h⟩
  obtain ⟨ks1, f2, hks1, hfs1, h⟩ := fx_inv h
  refine AWp.view _ hv ?_
  unfold F46_L1 at h
  refine AWp.seq ?_
  refine AWp.seq ?_
  refine AWp.region ?_
  refine RW.step (d := ⟨some 4, aI s1, []⟩) (k := 0) rfl (dt hnt rfl rfl) (Stp.pure (G := sg) _ (by kernel_rfl)) ?_
  refine RW.step (d := ⟨some 5, aB (decide (s1 < 4)), []⟩) (k := 0) rfl (dt hnt rfl rfl) (Stp.pure (G := sg) _ (by kernel_rfl)) ?_
  refine RW.nil ?_
  refine thenN ?_
  refine AWp.cond (t := decide (s1 < 4)) (by kernel_rfl) (fun hb => ?_) (fun hb => ?_)
  · have h := br_t hb h
    refine AWp.skip ?_
    refine thenN ?_
    refine AWp.seq ?_
    refine AWp.block ?_
    refine AWp.seq ?_
    refine AWp.region ?_
    refine RW.step (d := ⟨some 8, aI s1, []⟩) (k := 0) rfl (dt hnt rfl rfl) (Stp.pure (G := sg) _ (by kernel_rfl)) ?_
    obtain ⟨hc6, h⟩ := ck_inv h
    refine RW.step (d := ⟨some 9, .ptr 0 0 s1.toNat, []⟩) (k := 0) rfl (dt hnt rfl rfl) (Stp.pure (G := sg) _ (P_ia_arr (nm := 0) (s := 0) (len := 4) (kk := .i64) (n := s1) (el := 3) (by kernel_rfl) (by kernel_rfl) (by kernel_rfl) rfl (by omega))) ?_
    refine RW.step (d := ⟨some 10, aI (V4.get a0 s1.toNat), []⟩) (k := 0) rfl (dt hnt rfl rfl) (Stp.pure (G := sg) _ (P_ld (nm := 0) (s := 0) (j := s1.toNat) (o := ⟨36, none, [(V4.row aI) a0]⟩) (by kernel_rfl) (by kernel_rfl) (L_cell (row := (V4.row aI) a0) (by kernel_rfl) (by kernel_rfl) (V4.row_get _ _ (by omega))))) ?_
    obtain ⟨x3, hx3, h⟩ := ob_inv h
    refine RW.step (d := ⟨some 11, aB x3, []⟩) (k := 0) rfl (dt hnt rfl rfl) (Stp.call0 _ rfl (k := 67) (caps := []) (by kernel_rfl) (C67 hx3) (vl_cons vw_v (vl_cons vw_v (vl_cons vw_v vl_nil))) vw_v) ?_
    refine RW.step (d := ⟨some 12, aB (!x3), []⟩) (k := 0) rfl (dt hnt rfl rfl) (Stp.pure (G := sg) _ (by kernel_rfl)) ?_
    refine RW.nil ?_
    refine thenN ?_
    refine AWp.cond (t := !x3) (by kernel_rfl) (fun hb => ?_) (fun hb => ?_)
    · have h := br_t hb h
      refine AWp.seq ?_
      refine AWp.region ?_
      refine RW.step (d := ⟨some 2, aB false, []⟩) (k := 0) rfl (dt hnt rfl rfl) (Stp.pure (G := sg) _ (by kernel_rfl)) ?_
      refine RW.nil ?_
      refine thenN ?_
      refine AWp.ret ?_
      refine blockR ?_
      refine thenR ?_
      refine thenR ?_
      refine blockR ?_
      refine thenR ?_
      injection h with h
      subst h
      exact ⟨[aB false], _, [], _, by kernel_rfl, RetV.flat vw_v⟩
    · have h := br_f hb h
      refine AWp.skip ?_
      refine blockN ?_
      refine thenN ?_
      refine AWp.region ?_
      refine RW.step (d := ⟨some 6, aI s1, []⟩) (k := 0) rfl (dt hnt rfl rfl) (Stp.pure (G := sg) _ (by kernel_rfl)) ?_
      refine RW.step (d := ⟨some 7, aI (w64 (s1 + 1)), []⟩) (k := 0) rfl (dt hnt rfl rfl) (Stp.pure (G := sg) _ (by kernel_rfl)) ?_
      refine RW.step (d := ⟨some 3, aI (w64 (s1 + 1)), []⟩) (k := 0) rfl (dt hnt rfl rfl) (Stp.pure (G := sg) _ (by kernel_rfl)) ?_
      refine RW.nil ?_
      exact ⟨ks1, by rw [hks1]; exact Nat.lt_succ_self _, w64 (s1 + 1), [(0, 0)], (StV.tab (by rw [hn0]; rfl) (E_cons (a0 := .ptr 0 0 0) (by kernel_rfl) (vw_ptr rfl) (E_cons (a0 := aI (w64 (s1 + 1))) (by kernel_rfl) vw_v E_nil)) (O_cons 0 ⟨36, none, [(V4.row aI) a0]⟩ rfl (by kernel_rfl) rfl rfl (vs_cons (vwList_flat rfl) vs_nil) O_nil) (by rw [hn0]; rfl)), by rw [← hfs1]; exact h⟩
  · have h := br_f hb h
    refine AWp.exit ?_
    refine thenX ?_
    refine thenX ?_
    refine blockH ?_
    refine thenN ?_
    refine AWp.seq ?_
    refine AWp.region ?_
    refine RW.step (d := ⟨some 2, aB true, []⟩) (k := 0) rfl (dt hnt rfl rfl) (Stp.pure (G := sg) _ (by kernel_rfl)) ?_
    refine RW.nil ?_
    refine thenN ?_
    refine AWp.ret ?_
    injection h with h
    subst h
    exact ⟨[aB true], _, [], _, by kernel_rfl, RetV.flat vw_v⟩

/-- loop.example/g01203/spec.l11Cards -/
def F37_L1 (n : Nat) (a0 : (List (V4 Int))) (f2 : Int → Option (Bool)) (s1 : Int) : Option (Bool) :=
  lt (decide (s1 < (a0.length : Int)) : Bool) fun x3 => ob (br (x3) (some (decide (s1 ≤ 27))) (some false)) fun (x4 : Bool) => br (x4) (ck (0 ≤ s1 ∧ s1 < (a0.length : Int)) (ob (F46 n (gl a0 s1.toNat)) fun (x5 : (Bool)) => br (!x5) (some false) (f2 (w64 (s1 + 1))))) (lt (decide ((a0.length : Int) ≤ 27) : Bool) fun x6 => some x6)
def F37 (n : Nat) (a0 : (List (V4 Int))) : Option (Bool) :=
  fx (F37_L1 n a0) n 0
theorem own37 : Own Try.prog 37 := ⟨_, Try.func37, rfl, by kernel_rfl⟩
theorem C37 {n : Nat} {a0 : (List (V4 Int))} {r : Bool} (h : F37 n a0 = some r) : DCall Try.prog 37 [.ro (a0.map (V4.row aI)) false] [] (aB r) [] := by
  refine ⟨own37, VCall.enter (G := sg) Try.func37 rfl (Nat.le_of_ble_eq_true rfl) (Nat.le_of_ble_eq_true rfl) fun B hnt hn0 => ?_⟩
  unfold F37 at h
  refine AWp.seq ?_
  refine AWp.region ?_
  refine RW.step (d := ⟨some 2, aB false, []⟩) (k := 0) rfl (dt hnt rfl rfl) (Stp.pure (G := sg) _ (by kernel_rfl)) ?_
  refine RW.nil ?_
  refine thenN ?_
  refine AWp.seq ?_
  refine AWp.seq ?_
  refine AWp.region ?_
  refine RW.step (d := ⟨some 3, aI 0, []⟩) (k := 0) rfl (dt hnt rfl rfl) (Stp.pure (G := sg) _ (by kernel_rfl)) ?_
  refine RW.nil ?_
  refine thenN ?_
  refine AWp.block ?_
  refine AWp.loop (fun i st' => ∃ (s1 : Int) (names : List (Nat × Nat)), StV B.n0 st' (tabN names) ⟨tabE [(0, .ro (a0.map (V4.row aI)) false), (3, aI s1)], tabO [], 0⟩ ∧ fx (F37_L1 n a0) i s1 = some r) n ⟨0, [], (StV.tab (by rw [hn0]; rfl) (E_cons (a0 := .ro (a0.map (V4.row aI)) false) (by kernel_rfl) (vw_ro (fun h => h) (vwSegs_map (fun _ => rfl) _)) (E_cons (a0 := aI 0) (by kernel_rfl) vw_v E_nil)) O_nil (by rw [hn0]; rfl)), h⟩ ?_
  rintro is1 st1 ⟨s1, names, hv, h⟩
  obtain ⟨ks1, f2, hks1, hfs1, h⟩ := fx_inv h
  refine AWp.view _ hv ?_
  unfold F37_L1 at h
  refine AWp.seq ?_
  refine AWp.seq ?_
  refine AWp.region ?_
  refine RW.step (d := ⟨some 4, aI s1, []⟩) (k := 0) rfl (dt hnt rfl rfl) (Stp.pure (G := sg) _ (by kernel_rfl)) ?_
  refine RW.step (d := ⟨some 5, .ro (a0.map (V4.row aI)) false, []⟩) (k := 0) rfl (dt hnt rfl rfl) (Stp.pure (G := sg) _ (by kernel_rfl)) ?_
  refine RW.step (d := ⟨some 6, aI (a0.length : Int), []⟩) (k := 0) rfl (dt hnt rfl rfl) (Stp.pure (G := sg) _ (P_len_ro (l := a0) (r := (V4.row aI)) (full := false) (el := 36) (by kernel_rfl) (by kernel_rfl))) ?_
  obtain ⟨x3, hx3, h⟩ := lt_inv h
  refine RW.step (d := ⟨some 7, aB x3, []⟩) (k := 0) rfl (dt hnt rfl rfl) (Stp.pure (G := sg) _ (by rw [← hx3]; kernel_rfl)) ?_
  refine RW.step (d := ⟨some 8, aB x3, []⟩) (k := 0) rfl (dt hnt rfl rfl) (Stp.pure (G := sg) _ (by kernel_rfl)) ?_
  obtain ⟨x4, hx4, h⟩ := ob_inv h
  refine RW.mid 3 (fun st' => ∃ names, StV B.n0 st' (tabN names) ⟨tabE [(0, .ro (a0.map (V4.row aI)) false), (3, aI s1), (11, aB x4)], tabO [], 0⟩) ?_ ?_
  · rcases Bool.eq_false_or_eq_true (x3) with hb1 | hb1
    · have hx4 := br_t hb1 hx4
      refine RW.gt (d := ⟨some 9, aI s1, []⟩) (k := 0) rfl rfl (by rw [hnt]; rfl) (b := x3) (by kernel_rfl) hb1 (dt hnt rfl rfl) (Stp.pure (G := sg) _ (by kernel_rfl)) ?_
      refine RW.gt (d := ⟨some 10, aB (decide (s1 ≤ 27)), []⟩) (k := 0) rfl rfl (by rw [hnt]; rfl) (b := x3) (by kernel_rfl) hb1 (dt hnt rfl rfl) (Stp.pure (G := sg) _ (by kernel_rfl)) ?_
      refine RW.step (d := ⟨some 11, aB (decide (s1 ≤ 27)), []⟩) (k := 0) rfl (dt hnt rfl rfl) (Stp.pure (G := sg) _ (P_pick_t (t := x3) (by kernel_rfl) hb1 (by kernel_rfl))) ?_
      injection hx4 with hx4
      subst hx4
      exact RW.nil (thenN ⟨[], (StV.tab (by rw [hn0]; rfl) (E_cons (a0 := .ro (a0.map (V4.row aI)) false) (by kernel_rfl) (vw_ro (fun h => h) (vwSegs_map (fun _ => rfl) _)) (E_cons (a0 := aI s1) (by kernel_rfl) vw_v (E_cons (a0 := aB (decide (s1 ≤ 27))) (by kernel_rfl) vw_v E_nil))) O_nil (by rw [hn0]; rfl))⟩)
    · have hx4 := br_f hb1 hx4
      refine RW.gf rfl rfl (by rw [hnt]; rfl) (b := x3) (by kernel_rfl) hb1 (dt hnt rfl rfl) ?_
      refine RW.gf rfl rfl (by rw [hnt]; rfl) (b := x3) (by kernel_rfl) hb1 (dt hnt rfl rfl) ?_
      refine RW.step (d := ⟨some 11, aB false, []⟩) (k := 0) rfl (dt hnt rfl rfl) (Stp.pure (G := sg) _ (P_pick_f (t := x3) (by kernel_rfl) hb1 (by kernel_rfl))) ?_
      injection hx4 with hx4
      subst hx4
      exact RW.nil (thenN ⟨[], (StV.tab (by rw [hn0]; rfl) (E_cons (a0 := .ro (a0.map (V4.row aI)) false) (by kernel_rfl) (vw_ro (fun h => h) (vwSegs_map (fun _ => rfl) _)) (E_cons (a0 := aI s1) (by kernel_rfl) vw_v (E_cons (a0 := aB false) (by kernel_rfl) vw_v E_nil))) O_nil (by rw [hn0]; rfl))⟩)
  · rintro st2 ⟨names, hv⟩
    refine RW.weak _ hv ?_
    refine RW.nil ?_
    refine thenN ?_
    refine AWp.cond (t := x4) (by kernel_rfl) (fun hb => ?_) (fun hb => ?_)
    · have h := br_t hb h
      refine AWp.skip ?_
      refine thenN ?_
      refine AWp.seq ?_
      refine AWp.block ?_
      refine AWp.seq ?_
      refine AWp.region ?_
      refine RW.step (d := ⟨some 14, .ro (a0.map (V4.row aI)) false, []⟩) (k := 0) rfl (dt hnt rfl rfl) (Stp.pure (G := sg) _ (by kernel_rfl)) ?_
      refine RW.step (d := ⟨some 15, aI s1, []⟩) (k := 0) rfl (dt hnt rfl rfl) (Stp.pure (G := sg) _ (by kernel_rfl)) ?_
      obtain ⟨hc6, h⟩ := ck_inv h
      refine RW.step (d := ⟨some 16, .rp (a0.map (V4.row aI)) s1.toNat 0, []⟩) (k := 0) rfl (dt hnt rfl rfl) (Stp.pure (G := sg) _ (P_ia_ro (l := a0) (r := (V4.row aI)) (full := false) (kk := .i64) (n := s1) (el := 36) (by kernel_rfl) (by kernel_rfl) (by kernel_rfl) (fun _ => rfl) rfl hc6)) ?_
      refine RW.step (d := ⟨some 17, .agg [(V4.row aI) (gl a0 s1.toNat)], []⟩) (k := 0) rfl (dt hnt rfl rfl) (Stp.pure (G := sg) _ (P_ld_rp (segs := (a0.map (V4.row aI))) (s := s1.toNat) (j := 0) (by kernel_rfl) (L_row (by kernel_rfl) (by first | omega | (simp; omega))))) ?_
      obtain ⟨x5, hx5, h⟩ := ob_inv h
      refine RW.step (d := ⟨some 18, aB x5, []⟩) (k := 0) rfl (dt hnt rfl rfl) (Stp.call0 _ rfl (k := 46) (caps := []) (by kernel_rfl) (C46 hx5) (vl_cons (vw_agg (vs_cons (vwList_flat rfl) vs_nil)) vl_nil) vw_v) ?_
      refine RW.step (d := ⟨some 19, aB (!x5), []⟩) (k := 0) rfl (dt hnt rfl rfl) (Stp.pure (G := sg) _ (by kernel_rfl)) ?_
      refine RW.nil ?_
      refine thenN ?_
      refine AWp.cond (t := !x5) (by kernel_rfl) (fun hb => ?_) (fun hb => ?_)
      · have h := br_t hb h
        refine AWp.seq ?_
        refine AWp.region ?_
        refine RW.step (d := ⟨some 2, aB false, []⟩) (k := 0) rfl (dt hnt rfl rfl) (Stp.pure (G := sg) _ (by kernel_rfl)) ?_
        refine RW.nil ?_
        refine thenN ?_
        refine AWp.ret ?_
        refine blockR ?_
        refine thenR ?_
        refine thenR ?_
        refine blockR ?_
        refine thenR ?_
        injection h with h
        subst h
        exact ⟨[aB false], _, [], _, by kernel_rfl, RetV.flat vw_v⟩
      · have h := br_f hb h
        refine AWp.skip ?_
        refine blockN ?_
        refine thenN ?_
        refine AWp.region ?_
        refine RW.step (d := ⟨some 12, aI s1, []⟩) (k := 0) rfl (dt hnt rfl rfl) (Stp.pure (G := sg) _ (by kernel_rfl)) ?_
        refine RW.step (d := ⟨some 13, aI (w64 (s1 + 1)), []⟩) (k := 0) rfl (dt hnt rfl rfl) (Stp.pure (G := sg) _ (by kernel_rfl)) ?_
        refine RW.step (d := ⟨some 3, aI (w64 (s1 + 1)), []⟩) (k := 0) rfl (dt hnt rfl rfl) (Stp.pure (G := sg) _ (by kernel_rfl)) ?_
        refine RW.nil ?_
        exact ⟨ks1, by rw [hks1]; exact Nat.lt_succ_self _, w64 (s1 + 1), [], (StV.tab (by rw [hn0]; rfl) (E_cons (a0 := .ro (a0.map (V4.row aI)) false) (by kernel_rfl) (vw_ro (fun h => h) (vwSegs_map (fun _ => rfl) _)) (E_cons (a0 := aI (w64 (s1 + 1))) (by kernel_rfl) vw_v E_nil)) O_nil (by rw [hn0]; rfl)), by rw [← hfs1]; exact h⟩
    · have h := br_f hb h
      refine AWp.exit ?_
      refine thenX ?_
      refine thenX ?_
      refine blockH ?_
      refine thenN ?_
      refine AWp.seq ?_
      refine AWp.region ?_
      refine RW.step (d := ⟨some 20, .ro (a0.map (V4.row aI)) false, []⟩) (k := 0) rfl (dt hnt rfl rfl) (Stp.pure (G := sg) _ (by kernel_rfl)) ?_
      refine RW.step (d := ⟨some 21, aI (a0.length : Int), []⟩) (k := 0) rfl (dt hnt rfl rfl) (Stp.pure (G := sg) _ (P_len_ro (l := a0) (r := (V4.row aI)) (full := false) (el := 36) (by kernel_rfl) (by kernel_rfl))) ?_
      obtain ⟨x6, hx6, h⟩ := lt_inv h
      refine RW.step (d := ⟨some 22, aB x6, []⟩) (k := 0) rfl (dt hnt rfl rfl) (Stp.pure (G := sg) _ (by rw [← hx6]; kernel_rfl)) ?_
      refine RW.step (d := ⟨some 2, aB x6, []⟩) (k := 0) rfl (dt hnt rfl rfl) (Stp.pure (G := sg) _ (by kernel_rfl)) ?_
      refine RW.nil ?_
      refine thenN ?_
      refine AWp.ret ?_
      injection h with h
      subst h
      exact ⟨[aB x6], _, [], _, by kernel_rfl, RetV.flat vw_v⟩

/-- loop.example/g01203/spec.l2Differ -/
def F38_J2 (n : Nat) (s1 : (Int × Int)) (f2 : ((Int × Int) → Option (Int))) (s3 : Int) : Option (Int) :=
  f2 (s3, w64 (s1.2 + 1))
def F38_L1 (n : Nat) (a0 : (V4 Int)) (a1 : (V4 Int)) (f2 : (Int × Int) → Option (Int)) (s1 : Int × Int) : Option (Int) :=
  br (decide (s1.2 < 4)) (ck (0 ≤ s1.2 ∧ s1.2 < 4) (ck (0 ≤ s1.2 ∧ s1.2 < 4) (lt (!decide ((V4.get a0 s1.2.toNat) = (V4.get a1 s1.2.toNat)) : Bool) fun x4 => br (x4) (F38_J2 n s1 f2 (w64 (s1.1 + 1))) (F38_J2 n s1 f2 s1.1)))) (some s1.1)
def F38 (n : Nat) (a0 : (V4 Int)) (a1 : (V4 Int)) : Option (Int) :=
  fx (F38_L1 n a0 a1) n (0, 0)
theorem own38 : Own Try.prog 38 := ⟨_, Try.func38, rfl, by kernel_rfl⟩
theorem C38 {n : Nat} {a0 : (V4 Int)} {a1 : (V4 Int)} {r : Int} (h : F38 n a0 a1 = some r) : DCall Try.prog 38 [.agg [(V4.row aI) a0], .agg [(V4.row aI) a1]] [] (aI r) [] := by
  refine ⟨own38, VCall.enter (G := sg) Try.func38 rfl (Nat.le_of_ble_eq_true rfl) (Nat.le_of_ble_eq_true rfl) fun B hnt hn0 => ?_⟩
  unfold F38 at h
  refine AWp.seq ?_
  refine AWp.region ?_
  refine RW.step (d := ⟨some 2, .ptr 0 0 0, [(0, some ⟨36, none, [(V4.row aI) a0]⟩)]⟩) (k := 1) rfl (dt hnt rfl rfl) (Stp.new (G := sg) (by kernel_rfl)) ?_
  refine RW.step (d := ⟨some 3, .ptr 1 0 0, [(1, some ⟨36, none, [(V4.row aI) a1]⟩)]⟩) (k := 1) rfl (dt hnt rfl rfl) (Stp.new (G := sg) (by kernel_rfl)) ?_
  refine RW.step (d := ⟨some 4, aI 0, []⟩) (k := 0) rfl (dt hnt rfl rfl) (Stp.pure (G := sg) _ (by kernel_rfl)) ?_
  refine RW.nil ?_
  refine thenN ?_
  refine AWp.seq ?_
  refine AWp.region ?_
  refine RW.step (d := ⟨some 5, aI 0, []⟩) (k := 0) rfl (dt hnt rfl rfl) (Stp.pure (G := sg) _ (by kernel_rfl)) ?_
  refine RW.nil ?_
  refine thenN ?_
  refine AWp.seq ?_
  refine AWp.seq ?_
  refine AWp.region ?_
  refine RW.step (d := ⟨some 6, aI 0, []⟩) (k := 0) rfl (dt hnt rfl rfl) (Stp.pure (G := sg) _ (by kernel_rfl)) ?_
  refine RW.nil ?_
  refine thenN ?_
  refine AWp.block ?_
  refine AWp.loop (fun i st' => ∃ (s1 : Int × Int) (names : List (Nat × Nat)), StV B.n0 st' (tabN names) ⟨tabE [(2, .ptr 0 0 0), (3, .ptr 1 0 0), (5, aI s1.1), (6, aI s1.2)], tabO [(0, ⟨36, none, [(V4.row aI) a0]⟩), (1, ⟨36, none, [(V4.row aI) a1]⟩)], 2⟩ ∧ fx (F38_L1 n a0 a1) i s1 = some r) n ⟨(0, 0), [(0, 0), (1, 1)], (StV.tab (by rw [hn0]; rfl) (E_cons (a0 := .ptr 0 0 0) (by kernel_rfl) (vw_ptr rfl) (E_cons (a0 := .ptr 1 0 0) (by kernel_rfl) (vw_ptr rfl) (E_cons (a0 := aI 0) (by kernel_rfl) vw_v (E_cons (a0 := aI 0) (by kernel_rfl) vw_v E_nil)))) (O_cons 0 ⟨36, none, [(V4.row aI) a0]⟩ rfl (by kernel_rfl) rfl rfl (vs_cons (vwList_flat rfl) vs_nil) (O_cons 1 ⟨36, none, [(V4.row aI) a1]⟩ rfl (by kernel_rfl) rfl rfl (vs_cons (vwList_flat rfl) vs_nil) O_nil)) (by rw [hn0]; rfl)), h⟩ ?_
  rintro is1 st1 ⟨s1, names, hv, h⟩
  obtain ⟨ks1, f2, hks1, hfs1, h⟩ := fx_inv h
  refine AWp.view _ hv ?_
  unfold F38_L1 at h
  refine AWp.seq ?_
  refine AWp.seq ?_
  refine AWp.region ?_
  refine RW.step (d := ⟨some 7, aI s1.2, []⟩) (k := 0) rfl (dt hnt rfl rfl) (Stp.pure (G := sg) _ (by kernel_rfl)) ?_
  refine RW.step (d := ⟨some 8, aB (decide (s1.2 < 4)), []⟩) (k := 0) rfl (dt hnt rfl rfl) (Stp.pure (G := sg) _ (by kernel_rfl)) ?_
  refine RW.nil ?_
  refine thenN ?_
  refine AWp.cond (t := decide (s1.2 < 4)) (by kernel_rfl) (fun hb => ?_) (fun hb => ?_)
  · have h := br_t hb h
    refine AWp.skip ?_
    refine thenN ?_
    refine AWp.cut (fun st' => ∃ (s3 : Int) (names : List (Nat × Nat)), StV B.n0 st' (tabN names) ⟨tabE [(2, .ptr 0 0 0), (3, .ptr 1 0 0), (5, aI s3), (6, aI s1.2)], tabO [(0, ⟨36, none, [(V4.row aI) a0]⟩), (1, ⟨36, none, [(V4.row aI) a1]⟩)], 2⟩ ∧ F38_J2 n s1 f2 s3 = some r) ?_ ?_
    · refine AWp.block ?_
      refine AWp.seq ?_
      obtain ⟨hc23, h⟩ := ck_inv h
      obtain ⟨hc24, h⟩ := ck_inv h
      obtain ⟨x4, hx4, h⟩ := lt_inv h
      refine AWp.drw (G := sg) [⟨⟨some 11, aI s1.2, []⟩, 0⟩, ⟨⟨some 12, .ptr 0 0 s1.2.toNat, []⟩, 0⟩, ⟨⟨some 13, aI (V4.get a0 s1.2.toNat), []⟩, 0⟩, ⟨⟨some 14, aI s1.2, []⟩, 0⟩, ⟨⟨some 15, .ptr 1 0 s1.2.toNat, []⟩, 0⟩, ⟨⟨some 16, aI (V4.get a1 s1.2.toNat), []⟩, 0⟩, ⟨⟨some 17, aB x4, []⟩, 0⟩] (by kernel_rfl) (VCs.c (OpVC.p _ _ rfl rfl rfl (dt hnt rfl rfl) (Stp.pure (G := sg) _ (by kernel_rfl))) (VCs.c (OpVC.p _ _ rfl rfl rfl (dt hnt rfl rfl) (Stp.pure (G := sg) _ (P_ia_arr (nm := 0) (s := 0) (len := 4) (kk := .i64) (n := s1.2) (el := 3) (by kernel_rfl) (by kernel_rfl) (by kernel_rfl) rfl (by omega)))) (VCs.c (OpVC.p _ _ rfl rfl rfl (dt hnt rfl rfl) (Stp.pure (G := sg) _ (P_ld (nm := 0) (s := 0) (j := s1.2.toNat) (o := ⟨36, none, [(V4.row aI) a0]⟩) (by kernel_rfl) (by kernel_rfl) (L_cell (row := (V4.row aI) a0) (by kernel_rfl) (by kernel_rfl) (V4.row_get _ _ (by omega)))))) (VCs.c (OpVC.p _ _ rfl rfl rfl (dt hnt rfl rfl) (Stp.pure (G := sg) _ (by kernel_rfl))) (VCs.c (OpVC.p _ _ rfl rfl rfl (dt hnt rfl rfl) (Stp.pure (G := sg) _ (P_ia_arr (nm := 1) (s := 0) (len := 4) (kk := .i64) (n := s1.2) (el := 3) (by kernel_rfl) (by kernel_rfl) (by kernel_rfl) rfl (by omega)))) (VCs.c (OpVC.p _ _ rfl rfl rfl (dt hnt rfl rfl) (Stp.pure (G := sg) _ (P_ld (nm := 1) (s := 0) (j := s1.2.toNat) (o := ⟨36, none, [(V4.row aI) a1]⟩) (by kernel_rfl) (by kernel_rfl) (L_cell (row := (V4.row aI) a1) (by kernel_rfl) (by kernel_rfl) (V4.row_get _ _ (by omega)))))) (VCs.c (OpVC.p _ _ rfl rfl rfl (dt hnt rfl rfl) (Stp.pure (G := sg) _ (by rw [← hx4]; kernel_rfl))) VCs.n))))))) ?_
      refine thenN ?_
      refine AWp.cond (t := x4) (by kernel_rfl) (fun hb => ?_) (fun hb => ?_)
      · have h := br_t hb h
        refine AWp.region ?_
        refine RW.step (d := ⟨some 18, aI s1.1, []⟩) (k := 0) rfl (dt hnt rfl rfl) (Stp.pure (G := sg) _ (by kernel_rfl)) ?_
        refine RW.step (d := ⟨some 19, aI (w64 (s1.1 + 1)), []⟩) (k := 0) rfl (dt hnt rfl rfl) (Stp.pure (G := sg) _ (by kernel_rfl)) ?_
        refine RW.step (d := ⟨some 5, aI (w64 (s1.1 + 1)), []⟩) (k := 0) rfl (dt hnt rfl rfl) (Stp.pure (G := sg) _ (by kernel_rfl)) ?_
        refine RW.nil ?_
        refine blockN ?_
        exact ⟨w64 (s1.1 + 1), [(0, 0), (1, 1)], (StV.tab (by rw [hn0]; rfl) (E_cons (a0 := .ptr 0 0 0) (by kernel_rfl) (vw_ptr rfl) (E_cons (a0 := .ptr 1 0 0) (by kernel_rfl) (vw_ptr rfl) (E_cons (a0 := aI (w64 (s1.1 + 1))) (by kernel_rfl) vw_v (E_cons (a0 := aI s1.2) (by kernel_rfl) vw_v E_nil)))) (O_cons 0 ⟨36, none, [(V4.row aI) a0]⟩ rfl (by kernel_rfl) rfl rfl (vs_cons (vwList_flat rfl) vs_nil) (O_cons 1 ⟨36, none, [(V4.row aI) a1]⟩ rfl (by kernel_rfl) rfl rfl (vs_cons (vwList_flat rfl) vs_nil) O_nil)) (by rw [hn0]; rfl)), h⟩
      · have h := br_f hb h
        refine AWp.skip ?_
        refine blockN ?_
        exact ⟨s1.1, [(0, 0), (1, 1)], (StV.tab (by rw [hn0]; rfl) (E_cons (a0 := .ptr 0 0 0) (by kernel_rfl) (vw_ptr rfl) (E_cons (a0 := .ptr 1 0 0) (by kernel_rfl) (vw_ptr rfl) (E_cons (a0 := aI s1.1) (by kernel_rfl) vw_v (E_cons (a0 := aI s1.2) (by kernel_rfl) vw_v E_nil)))) (O_cons 0 ⟨36, none, [(V4.row aI) a0]⟩ rfl (by kernel_rfl) rfl rfl (vs_cons (vwList_flat rfl) vs_nil) (O_cons 1 ⟨36, none, [(V4.row aI) a1]⟩ rfl (by kernel_rfl) rfl rfl (vs_cons (vwList_flat rfl) vs_nil) O_nil)) (by rw [hn0]; rfl)), h⟩
    · rintro st1 ⟨s3, names, hv, h⟩
      refine AWp.view _ hv ?_
      unfold F38_J2 at h
      refine AWp.region ?_
      refine RW.step (d := ⟨some 9, aI s1.2, []⟩) (k := 0) rfl (dt hnt rfl rfl) (Stp.pure (G := sg) _ (by kernel_rfl)) ?_
      refine RW.step (d := ⟨some 10, aI (w64 (s1.2 + 1)), []⟩) (k := 0) rfl (dt hnt rfl rfl) (Stp.pure (G := sg) _ (by kernel_rfl)) ?_
      refine RW.step (d := ⟨some 6, aI (w64 (s1.2 + 1)), []⟩) (k := 0) rfl (dt hnt rfl rfl) (Stp.pure (G := sg) _ (by kernel_rfl)) ?_
      refine RW.nil ?_
      exact ⟨ks1, by rw [hks1]; exact Nat.lt_succ_self _, (s3, w64 (s1.2 + 1)), [(0, 0), (1, 1)], (StV.tab (by rw [hn0]; rfl) (E_cons (a0 := .ptr 0 0 0) (by kernel_rfl) (vw_ptr rfl) (E_cons (a0 := .ptr 1 0 0) (by kernel_rfl) (vw_ptr rfl) (E_cons (a0 := aI s3) (by kernel_rfl) vw_v (E_cons (a0 := aI (w64 (s1.2 + 1))) (by kernel_rfl) vw_v E_nil)))) (O_cons 0 ⟨36, none, [(V4.row aI) a0]⟩ rfl (by kernel_rfl) rfl rfl (vs_cons (vwList_flat rfl) vs_nil) (O_cons 1 ⟨36, none, [(V4.row aI) a1]⟩ rfl (by kernel_rfl) rfl rfl (vs_cons (vwList_flat rfl) vs_nil) O_nil)) (by rw [hn0]; rfl)), by rw [← hfs1]; exact h⟩
  · have h := br_f hb h
    refine AWp.exit ?_
    refine thenX ?_
    refine thenX ?_
    refine blockH ?_
    refine thenN ?_
    refine AWp.seq ?_
    refine AWp.region ?_
    refine RW.step (d := ⟨some 20, aI s1.1, []⟩) (k := 0) rfl (dt hnt rfl rfl) (Stp.pure (G := sg) _ (by kernel_rfl)) ?_
    refine RW.step (d := ⟨some 4, aI s1.1, []⟩) (k := 0) rfl (dt hnt rfl rfl) (Stp.pure (G := sg) _ (by kernel_rfl)) ?_
    refine RW.nil ?_
    refine thenN ?_
    refine AWp.ret ?_
    injection h with h
    subst h
    exact ⟨[aI s1.1], _, [], _, by kernel_rfl, RetV.flat vw_v⟩

/-- loop.example/g01203/spec.CodeDistance -/
def F11_L1 (n : Nat) (a0 : (List (V4 Int))) (a1 : (List (V4 Int))) (f7 : (Int × Int) → Option (Int × Bool)) (s6 : Int × Int) : Option (Int × Bool) :=
  lt (decide (s6.2 < (a0.length : Int)) : Bool) fun x8 => br (x8) (ck (0 ≤ s6.2 ∧ s6.2 < (a0.length : Int)) (ck (0 ≤ s6.2 ∧ s6.2 < (a1.length : Int)) (ob (F38 n (gl a0 s6.2.toNat) (gl a1 s6.2.toNat)) fun (x9 : (Int)) => f7 (w64 (s6.1 + x9), w64 (s6.2 + 1))))) (some (s6.1, true))
def F11 (n : Nat) (a0 : (List (V4 Int))) (a1 : (List (V4 Int))) : Option (Int × Bool) :=
  ob (F37 n a0) fun (x1 : (Bool)) => ob (br (!x1) (some true) (ob (F37 n a1) fun (x3 : (Bool)) => some (!x3))) fun (x2 : Bool) => ob (br (x2) (some true) (lt (!decide ((a0.length : Int) = (a1.length : Int)) : Bool) fun x5 => some x5)) fun (x4 : Bool) => br (x4) (some (0, false)) (fx (F11_L1 n a0 a1) n (0, 0))
theorem own11 : Own Try.prog 11 := ⟨_, Try.func11, rfl, by kernel_rfl⟩
theorem C11 {n : Nat} {a0 : (List (V4 Int))} {a1 : (List (V4 Int))} {r : Int × Bool} (h : F11 n a0 a1 = some r) : DCall Try.prog 11 [.ro (a0.map (V4.row aI)) false, .ro (a1.map (V4.row aI)) false] [] (.tup [aI r.1, aB r.2]) [] := by
  refine ⟨own11, VCall.enter (G := sg) Try.func11 rfl (Nat.le_of_ble_eq_true rfl) (Nat.le_of_ble_eq_true rfl) fun B hnt hn0 => ?_⟩
  unfold F11 at h
  refine AWp.seq ?_
  refine AWp.region ?_
  refine RW.step (d := ⟨some 4, aI 0, []⟩) (k := 0) rfl (dt hnt rfl rfl) (Stp.pure (G := sg) _ (by kernel_rfl)) ?_
  refine RW.step (d := ⟨some 5, aB false, []⟩) (k := 0) rfl (dt hnt rfl rfl) (Stp.pure (G := sg) _ (by kernel_rfl)) ?_
  refine RW.nil ?_
  refine thenN ?_
  refine AWp.seq ?_
  refine AWp.seq ?_
  refine AWp.region ?_
  refine RW.step (d := ⟨some 8, .ro (a0.map (V4.row aI)) false, []⟩) (k := 0) rfl (dt hnt rfl rfl) (Stp.pure (G := sg) _ (by kernel_rfl)) ?_
  obtain ⟨x1, hx1, h⟩ := ob_inv h
  refine RW.step (d := ⟨some 9, aB x1, []⟩) (k := 0) rfl (dt hnt rfl rfl) (Stp.call0 _ rfl (k := 37) (caps := []) (by kernel_rfl) (C37 hx1) (vl_cons (vw_ro (fun h => h) (vwSegs_map (fun _ => rfl) _)) vl_nil) vw_v) ?_
  refine RW.step (d := ⟨some 10, aB (!x1), []⟩) (k := 0) rfl (dt hnt rfl rfl) (Stp.pure (G := sg) _ (by kernel_rfl)) ?_
  refine RW.step (d := ⟨some 11, aB (!x1), []⟩) (k := 0) rfl (dt hnt rfl rfl) (Stp.pure (G := sg) _ (by kernel_rfl)) ?_
  obtain ⟨x2, hx2, h⟩ := ob_inv h
  refine RW.mid 4 (fun st' => ∃ names, StV B.n0 st' (tabN names) ⟨tabE [(0, .ro (a0.map (V4.row aI)) false), (1, .ro (a1.map (V4.row aI)) false), (15, aB x2)], tabO [], 0⟩) ?_ ?_
  · rcases Bool.eq_false_or_eq_true (!x1) with hb1 | hb1
    · have hx2 := br_t hb1 hx2
      refine RW.gf rfl rfl (by rw [hnt]; rfl) (b := !x1) (by kernel_rfl) hb1 (dt hnt rfl rfl) ?_
      refine RW.gf rfl rfl (by rw [hnt]; rfl) (b := !x1) (by kernel_rfl) hb1 (dt hnt rfl rfl) ?_
      refine RW.gf rfl rfl (by rw [hnt]; rfl) (b := !x1) (by kernel_rfl) hb1 (dt hnt rfl rfl) ?_
      refine RW.step (d := ⟨some 15, aB true, []⟩) (k := 0) rfl (dt hnt rfl rfl) (Stp.pure (G := sg) _ (P_pick_t (t := !x1) (by kernel_rfl) hb1 (by kernel_rfl))) ?_
      injection hx2 with hx2
      subst hx2
      exact RW.nil (thenN ⟨[], (StV.tab (by rw [hn0]; rfl) (E_cons (a0 := .ro (a0.map (V4.row aI)) false) (by kernel_rfl) (vw_ro (fun h => h) (vwSegs_map (fun _ => rfl) _)) (E_cons (a0 := .ro (a1.map (V4.row aI)) false) (by kernel_rfl) (vw_ro (fun h => h) (vwSegs_map (fun _ => rfl) _)) (E_cons (a0 := aB true) (by kernel_rfl) vw_v E_nil))) O_nil (by rw [hn0]; rfl))⟩)
    · have hx2 := br_f hb1 hx2
      refine RW.gt (d := ⟨some 12, .ro (a1.map (V4.row aI)) false, []⟩) (k := 0) rfl rfl (by rw [hnt]; rfl) (b := !x1) (by kernel_rfl) hb1 (dt hnt rfl rfl) (Stp.pure (G := sg) _ (by kernel_rfl)) ?_
      obtain ⟨x3, hx3, hx2⟩ := ob_inv hx2
      refine RW.gt (d := ⟨some 13, aB x3, []⟩) (k := 0) rfl rfl (by rw [hnt]; rfl) (b := !x1) (by kernel_rfl) hb1 (dt hnt rfl rfl) (Stp.call0 _ rfl (k := 37) (caps := []) (by kernel_rfl) (C37 hx3) (vl_cons (vw_ro (fun h => h) (vwSegs_map (fun _ => rfl) _)) vl_nil) vw_v) ?_
      refine RW.gt (d := ⟨some 14, aB (!x3), []⟩) (k := 0) rfl rfl (by rw [hnt]; rfl) (b := !x1) (by kernel_rfl) hb1 (dt hnt rfl rfl) (Stp.pure (G := sg) _ (by kernel_rfl)) ?_
      refine RW.step (d := ⟨some 15, aB (!x3), []⟩) (k := 0) rfl (dt hnt rfl rfl) (Stp.pure (G := sg) _ (P_pick_f (t := !x1) (by kernel_rfl) hb1 (by kernel_rfl))) ?_
      injection hx2 with hx2
      subst hx2
      exact RW.nil (thenN ⟨[], (StV.tab (by rw [hn0]; rfl) (E_cons (a0 := .ro (a0.map (V4.row aI)) false) (by kernel_rfl) (vw_ro (fun h => h) (vwSegs_map (fun _ => rfl) _)) (E_cons (a0 := .ro (a1.map (V4.row aI)) false) (by kernel_rfl) (vw_ro (fun h => h) (vwSegs_map (fun _ => rfl) _)) (E_cons (a0 := aB (!x3)) (by kernel_rfl) vw_v E_nil))) O_nil (by rw [hn0]; rfl))⟩)
  · rintro st2 ⟨names, hv⟩
    refine RW.weak _ hv ?_
    refine RW.step (d := ⟨some 16, aB x2, []⟩) (k := 0) rfl (dt hnt rfl rfl) (Stp.pure (G := sg) _ (by kernel_rfl)) ?_
    obtain ⟨x4, hx4, h⟩ := ob_inv h
    refine RW.mid 6 (fun st' => ∃ names, StV B.n0 st' (tabN names) ⟨tabE [(0, .ro (a0.map (V4.row aI)) false), (1, .ro (a1.map (V4.row aI)) false), (22, aB x4)], tabO [], 0⟩) ?_ ?_
    · rcases Bool.eq_false_or_eq_true (x2) with hb1 | hb1
      · have hx4 := br_t hb1 hx4
        refine RW.gf rfl rfl (by rw [hnt]; rfl) (b := x2) (by kernel_rfl) hb1 (dt hnt rfl rfl) ?_
        refine RW.gf rfl rfl (by rw [hnt]; rfl) (b := x2) (by kernel_rfl) hb1 (dt hnt rfl rfl) ?_
        refine RW.gf rfl rfl (by rw [hnt]; rfl) (b := x2) (by kernel_rfl) hb1 (dt hnt rfl rfl) ?_
        refine RW.gf rfl rfl (by rw [hnt]; rfl) (b := x2) (by kernel_rfl) hb1 (dt hnt rfl rfl) ?_
        refine RW.gf rfl rfl (by rw [hnt]; rfl) (b := x2) (by kernel_rfl) hb1 (dt hnt rfl rfl) ?_
        refine RW.step (d := ⟨some 22, aB true, []⟩) (k := 0) rfl (dt hnt rfl rfl) (Stp.pure (G := sg) _ (P_pick_t (t := x2) (by kernel_rfl) hb1 (by kernel_rfl))) ?_
        injection hx4 with hx4
        subst hx4
        exact RW.nil (thenN ⟨[], (StV.tab (by rw [hn0]; rfl) (E_cons (a0 := .ro (a0.map (V4.row aI)) false) (by kernel_rfl) (vw_ro (fun h => h) (vwSegs_map (fun _ => rfl) _)) (E_cons (a0 := .ro (a1.map (V4.row aI)) false) (by kernel_rfl) (vw_ro (fun h => h) (vwSegs_map (fun _ => rfl) _)) (E_cons (a0 := aB true) (by kernel_rfl) vw_v E_nil))) O_nil (by rw [hn0]; rfl))⟩)
      · have hx4 := br_f hb1 hx4
        refine RW.gt (d := ⟨some 17, .ro (a0.map (V4.row aI)) false, []⟩) (k := 0) rfl rfl (by rw [hnt]; rfl) (b := x2) (by kernel_rfl) hb1 (dt hnt rfl rfl) (Stp.pure (G := sg) _ (by kernel_rfl)) ?_
        refine RW.gt (d := ⟨some 18, aI (a0.length : Int), []⟩) (k := 0) rfl rfl (by rw [hnt]; rfl) (b := x2) (by kernel_rfl) hb1 (dt hnt rfl rfl) (Stp.pure (G := sg) _ (P_len_ro (l := a0) (r := (V4.row aI)) (full := false) (el := 36) (by kernel_rfl) (by kernel_rfl))) ?_
        refine RW.gt (d := ⟨some 19, .ro (a1.map (V4.row aI)) false, []⟩) (k := 0) rfl rfl (by rw [hnt]; rfl) (b := x2) (by kernel_rfl) hb1 (dt hnt rfl rfl) (Stp.pure (G := sg) _ (by kernel_rfl)) ?_
        refine RW.gt (d := ⟨some 20, aI (a1.length : Int), []⟩) (k := 0) rfl rfl (by rw [hnt]; rfl) (b := x2) (by kernel_rfl) hb1 (dt hnt rfl rfl) (Stp.pure (G := sg) _ (P_len_ro (l := a1) (r := (V4.row aI)) (full := false) (el := 36) (by kernel_rfl) (by kernel_rfl))) ?_
        obtain ⟨x5, hx5, hx4⟩ := lt_inv hx4
        refine RW.gt (d := ⟨some 21, aB x5, []⟩) (k := 0) rfl rfl (by rw [hnt]; rfl) (b := x2) (by kernel_rfl) hb1 (dt hnt rfl rfl) (Stp.pure (G := sg) _ (by rw [← hx5]; kernel_rfl)) ?_
        refine RW.step (d := ⟨some 22, aB x5, []⟩) (k := 0) rfl (dt hnt rfl rfl) (Stp.pure (G := sg) _ (P_pick_f (t := x2) (by kernel_rfl) hb1 (by kernel_rfl))) ?_
        injection hx4 with hx4
        subst hx4
        exact RW.nil (thenN ⟨[], (StV.tab (by rw [hn0]; rfl) (E_cons (a0 := .ro (a0.map (V4.row aI)) false) (by kernel_rfl) (vw_ro (fun h => h) (vwSegs_map (fun _ => rfl) _)) (E_cons (a0 := .ro (a1.map (V4.row aI)) false) (by kernel_rfl) (vw_ro (fun h => h) (vwSegs_map (fun _ => rfl) _)) (E_cons (a0 := aB x5) (by kernel_rfl) vw_v E_nil))) O_nil (by rw [hn0]; rfl))⟩)
    · rintro st2 ⟨names, hv⟩
      refine RW.weak _ hv ?_
      refine RW.nil ?_
      refine thenN ?_
      refine AWp.cond (t := x4) (by kernel_rfl) (fun hb => ?_) (fun hb => ?_)
      · have h := br_t hb h
        refine AWp.seq ?_
        refine AWp.region ?_
        refine RW.step (d := ⟨some 4, aI 0, []⟩) (k := 0) rfl (dt hnt rfl rfl) (Stp.pure (G := sg) _ (by kernel_rfl)) ?_
        refine RW.step (d := ⟨some 5, aB false, []⟩) (k := 0) rfl (dt hnt rfl rfl) (Stp.pure (G := sg) _ (by kernel_rfl)) ?_
        refine RW.nil ?_
        refine thenN ?_
        refine AWp.ret ?_
        refine thenR ?_
        injection h with h
        subst h
        exact ⟨[aI 0, aB false], _, [], _, by kernel_rfl, RetV.flat (vw_tup (vl_cons vw_v (vl_cons vw_v vl_nil)))⟩
      · have h := br_f hb h
        refine AWp.skip ?_
        refine thenN ?_
        refine AWp.seq ?_
        refine AWp.region ?_
        refine RW.step (d := ⟨some 6, aI 0, []⟩) (k := 0) rfl (dt hnt rfl rfl) (Stp.pure (G := sg) _ (by kernel_rfl)) ?_
        refine RW.nil ?_
        refine thenN ?_
        refine AWp.seq ?_
        refine AWp.seq ?_
        refine AWp.region ?_
        refine RW.step (d := ⟨some 7, aI 0, []⟩) (k := 0) rfl (dt hnt rfl rfl) (Stp.pure (G := sg) _ (by kernel_rfl)) ?_
        refine RW.nil ?_
        refine thenN ?_
        refine AWp.block ?_
        refine AWp.loop (fun i st' => ∃ (s6 : Int × Int) (names : List (Nat × Nat)), StV B.n0 st' (tabN names) ⟨tabE [(0, .ro (a0.map (V4.row aI)) false), (1, .ro (a1.map (V4.row aI)) false), (6, aI s6.1), (7, aI s6.2)], tabO [], 0⟩ ∧ fx (F11_L1 n a0 a1) i s6 = some r) n ⟨(0, 0), [], (StV.tab (by rw [hn0]; rfl) (E_cons (a0 := .ro (a0.map (V4.row aI)) false) (by kernel_rfl) (vw_ro (fun h => h) (vwSegs_map (fun _ => rfl) _)) (E_cons (a0 := .ro (a1.map (V4.row aI)) false) (by kernel_rfl) (vw_ro (fun h => h) (vwSegs_map (fun _ => rfl) _)) (E_cons (a0 := aI 0) (by kernel_rfl) vw_v (E_cons (a0 := aI 0) (by kernel_rfl) vw_v E_nil)))) O_nil (by rw [hn0]; rfl)), h⟩ ?_
        rintro is6 st1 ⟨s6, names, hv, h⟩
        obtain ⟨ks6, f7, hks6, hfs6, h⟩ := fx_inv h
        refine AWp.view _ hv ?_
        unfold F11_L1 at h
        refine AWp.seq ?_
        refine AWp.seq ?_
        refine AWp.region ?_
        refine RW.step (d := ⟨some 23, aI s6.2, []⟩) (k := 0) rfl (dt hnt rfl rfl) (Stp.pure (G := sg) _ (by kernel_rfl)) ?_
        refine RW.step (d := ⟨some 24, .ro (a0.map (V4.row aI)) false, []⟩) (k := 0) rfl (dt hnt rfl rfl) (Stp.pure (G := sg) _ (by kernel_rfl)) ?_
        refine RW.step (d := ⟨some 25, aI (a0.length : Int), []⟩) (k := 0) rfl (dt hnt rfl rfl) (Stp.pure (G := sg) _ (P_len_ro (l := a0) (r := (V4.row aI)) (full := false) (el := 36) (by kernel_rfl) (by kernel_rfl))) ?_
        obtain ⟨x8, hx8, h⟩ := lt_inv h
        refine RW.step (d := ⟨some 26, aB x8, []⟩) (k := 0) rfl (dt hnt rfl rfl) (Stp.pure (G := sg) _ (by rw [← hx8]; kernel_rfl)) ?_
        refine RW.nil ?_
        refine thenN ?_
        refine AWp.cond (t := x8) (by kernel_rfl) (fun hb => ?_) (fun hb => ?_)
        · have h := br_t hb h
          refine AWp.skip ?_
          refine thenN ?_
          refine AWp.seq ?_
          refine AWp.block ?_
          obtain ⟨hc11, h⟩ := ck_inv h
          obtain ⟨hc12, h⟩ := ck_inv h
          obtain ⟨x9, hx9, h⟩ := ob_inv h
          refine AWp.drw (G := sg) [⟨⟨some 29, aI s6.1, []⟩, 0⟩, ⟨⟨some 30, .ro (a0.map (V4.row aI)) false, []⟩, 0⟩, ⟨⟨some 31, aI s6.2, []⟩, 0⟩, ⟨⟨some 32, .rp (a0.map (V4.row aI)) s6.2.toNat 0, []⟩, 0⟩, ⟨⟨some 33, .agg [(V4.row aI) (gl a0 s6.2.toNat)], []⟩, 0⟩, ⟨⟨some 34, .ro (a1.map (V4.row aI)) false, []⟩, 0⟩, ⟨⟨some 35, aI s6.2, []⟩, 0⟩, ⟨⟨some 36, .rp (a1.map (V4.row aI)) s6.2.toNat 0, []⟩, 0⟩, ⟨⟨some 37, .agg [(V4.row aI) (gl a1 s6.2.toNat)], []⟩, 0⟩, ⟨⟨some 38, aI x9, []⟩, 0⟩, ⟨⟨some 39, aI (w64 (s6.1 + x9)), []⟩, 0⟩, ⟨⟨some 6, aI (w64 (s6.1 + x9)), []⟩, 0⟩] (by kernel_rfl) (VCs.c (OpVC.p _ _ rfl rfl rfl (dt hnt rfl rfl) (Stp.pure (G := sg) _ (by kernel_rfl))) (VCs.c (OpVC.p _ _ rfl rfl rfl (dt hnt rfl rfl) (Stp.pure (G := sg) _ (by kernel_rfl))) (VCs.c (OpVC.p _ _ rfl rfl rfl (dt hnt rfl rfl) (Stp.pure (G := sg) _ (by kernel_rfl))) (VCs.c (OpVC.p _ _ rfl rfl rfl (dt hnt rfl rfl) (Stp.pure (G := sg) _ (P_ia_ro (l := a0) (r := (V4.row aI)) (full := false) (kk := .i64) (n := s6.2) (el := 36) (by kernel_rfl) (by kernel_rfl) (by kernel_rfl) (fun _ => rfl) rfl hc11))) (VCs.c (OpVC.p _ _ rfl rfl rfl (dt hnt rfl rfl) (Stp.pure (G := sg) _ (P_ld_rp (segs := (a0.map (V4.row aI))) (s := s6.2.toNat) (j := 0) (by kernel_rfl) (L_row (by kernel_rfl) (by first | omega | (simp; omega)))))) (VCs.c (OpVC.p _ _ rfl rfl rfl (dt hnt rfl rfl) (Stp.pure (G := sg) _ (by kernel_rfl))) (VCs.c (OpVC.p _ _ rfl rfl rfl (dt hnt rfl rfl) (Stp.pure (G := sg) _ (by kernel_rfl))) (VCs.c (OpVC.p _ _ rfl rfl rfl (dt hnt rfl rfl) (Stp.pure (G := sg) _ (P_ia_ro (l := a1) (r := (V4.row aI)) (full := false) (kk := .i64) (n := s6.2) (el := 36) (by kernel_rfl) (by kernel_rfl) (by kernel_rfl) (fun _ => rfl) rfl hc12))) (VCs.c (OpVC.p _ _ rfl rfl rfl (dt hnt rfl rfl) (Stp.pure (G := sg) _ (P_ld_rp (segs := (a1.map (V4.row aI))) (s := s6.2.toNat) (j := 0) (by kernel_rfl) (L_row (by kernel_rfl) (by first | omega | (simp; omega)))))) (VCs.c (OpVC.p _ _ rfl rfl rfl (dt hnt rfl rfl) (Stp.call0 _ rfl (k := 38) (caps := []) (by kernel_rfl) (C38 hx9) (vl_cons (vw_agg (vs_cons (vwList_flat rfl) vs_nil)) (vl_cons (vw_agg (vs_cons (vwList_flat rfl) vs_nil)) vl_nil)) vw_v)) (VCs.c (OpVC.p _ _ rfl rfl rfl (dt hnt rfl rfl) (Stp.pure (G := sg) _ (by kernel_rfl))) (VCs.c (OpVC.p _ _ rfl rfl rfl (dt hnt rfl rfl) (Stp.pure (G := sg) _ (by kernel_rfl))) VCs.n)))))))))))) ?_
          refine blockN ?_
          refine thenN ?_
          refine AWp.region ?_
          refine RW.step (d := ⟨some 27, aI s6.2, []⟩) (k := 0) rfl (dt hnt rfl rfl) (Stp.pure (G := sg) _ (by kernel_rfl)) ?_
          refine RW.step (d := ⟨some 28, aI (w64 (s6.2 + 1)), []⟩) (k := 0) rfl (dt hnt rfl rfl) (Stp.pure (G := sg) _ (by kernel_rfl)) ?_
          refine RW.step (d := ⟨some 7, aI (w64 (s6.2 + 1)), []⟩) (k := 0) rfl (dt hnt rfl rfl) (Stp.pure (G := sg) _ (by kernel_rfl)) ?_
          refine RW.nil ?_
          exact ⟨ks6, by rw [hks6]; exact Nat.lt_succ_self _, (w64 (s6.1 + x9), w64 (s6.2 + 1)), [], (StV.tab (by rw [hn0]; rfl) (E_cons (a0 := .ro (a0.map (V4.row aI)) false) (by kernel_rfl) (vw_ro (fun h => h) (vwSegs_map (fun _ => rfl) _)) (E_cons (a0 := .ro (a1.map (V4.row aI)) false) (by kernel_rfl) (vw_ro (fun h => h) (vwSegs_map (fun _ => rfl) _)) (E_cons (a0 := aI (w64 (s6.1 + x9))) (by kernel_rfl) vw_v (E_cons (a0 := aI (w64 (s6.2 + 1))) (by kernel_rfl) vw_v E_nil)))) O_nil (by rw [hn0]; rfl)), by rw [← hfs6]; exact h⟩
        · have h := br_f hb h
          refine AWp.exit ?_
          refine thenX ?_
          refine thenX ?_
          refine blockH ?_
          refine thenN ?_
          refine AWp.seq ?_
          refine AWp.region ?_
          refine RW.step (d := ⟨some 40, aI s6.1, []⟩) (k := 0) rfl (dt hnt rfl rfl) (Stp.pure (G := sg) _ (by kernel_rfl)) ?_
          refine RW.step (d := ⟨some 4, aI s6.1, []⟩) (k := 0) rfl (dt hnt rfl rfl) (Stp.pure (G := sg) _ (by kernel_rfl)) ?_
          refine RW.step (d := ⟨some 5, aB true, []⟩) (k := 0) rfl (dt hnt rfl rfl) (Stp.pure (G := sg) _ (by kernel_rfl)) ?_
          refine RW.nil ?_
          refine thenN ?_
          refine AWp.ret ?_
          injection h with h
          subst h
          exact ⟨[aI s6.1, aB true], _, [], _, by kernel_rfl, RetV.flat (vw_tup (vl_cons vw_v (vl_cons vw_v vl_nil)))⟩

/-- loop.example/g01203/impl.within -/
def F43 (n : Nat) (a0 : Int) (a1 : Int) (a2 : Int) : Option (Bool) :=
  ob (br (decide (a1 ≤ a0)) (some (decide (a0 ≤ a2))) (some false)) fun (x1 : Bool) => some x1
theorem own43 : Own Try.prog 43 := ⟨_, Try.func43, rfl, by kernel_rfl⟩
theorem C43 {n : Nat} {a0 : Int} {a1 : Int} {a2 : Int} {r : Bool} (h : F43 n a0 a1 a2 = some r) : DCall Try.prog 43 [aI a0, aI a1, aI a2] [] (aB r) [] := by
  refine ⟨own43, VCall.enter (G := sg) Try.func43 rfl (Nat.le_of_ble_eq_true rfl) (Nat.le_of_ble_eq_true rfl) fun B hnt hn0 => ?_⟩
  unfold F43 at h
  refine AWp.seq ?_
  refine AWp.region ?_
  refine RW.step (d := ⟨some 6, aB false, []⟩) (k := 0) rfl (dt hnt rfl rfl) (Stp.pure (G := sg) _ (by kernel_rfl)) ?_
  refine RW.nil ?_
  refine thenN ?_
  refine AWp.seq ?_
  refine AWp.region ?_
  refine RW.step (d := ⟨some 7, aI a0, []⟩) (k := 0) rfl (dt hnt rfl rfl) (Stp.pure (G := sg) _ (by kernel_rfl)) ?_
  refine RW.step (d := ⟨some 8, aI a1, []⟩) (k := 0) rfl (dt hnt rfl rfl) (Stp.pure (G := sg) _ (by kernel_rfl)) ?_
  refine RW.step (d := ⟨some 9, aB (decide (a1 ≤ a0)), []⟩) (k := 0) rfl (dt hnt rfl rfl) (Stp.pure (G := sg) _ (by kernel_rfl)) ?_
  refine RW.step (d := ⟨some 10, aB (decide (a1 ≤ a0)), []⟩) (k := 0) rfl (dt hnt rfl rfl) (Stp.pure (G := sg) _ (by kernel_rfl)) ?_
  obtain ⟨x1, hx1, h⟩ := ob_inv h
  refine RW.mid 4 (fun st' => ∃ names, StV B.n0 st' (tabN names) ⟨tabE [(14, aB x1)], tabO [], 0⟩) ?_ ?_
  · rcases Bool.eq_false_or_eq_true (decide (a1 ≤ a0)) with hb1 | hb1
    · have hx1 := br_t hb1 hx1
      refine RW.gt (d := ⟨some 11, aI a0, []⟩) (k := 0) rfl rfl (by rw [hnt]; rfl) (b := decide (a1 ≤ a0)) (by kernel_rfl) hb1 (dt hnt rfl rfl) (Stp.pure (G := sg) _ (by kernel_rfl)) ?_
      refine RW.gt (d := ⟨some 12, aI a2, []⟩) (k := 0) rfl rfl (by rw [hnt]; rfl) (b := decide (a1 ≤ a0)) (by kernel_rfl) hb1 (dt hnt rfl rfl) (Stp.pure (G := sg) _ (by kernel_rfl)) ?_
      refine RW.gt (d := ⟨some 13, aB (decide (a0 ≤ a2)), []⟩) (k := 0) rfl rfl (by rw [hnt]; rfl) (b := decide (a1 ≤ a0)) (by kernel_rfl) hb1 (dt hnt rfl rfl) (Stp.pure (G := sg) _ (by kernel_rfl)) ?_
      refine RW.step (d := ⟨some 14, aB (decide (a0 ≤ a2)), []⟩) (k := 0) rfl (dt hnt rfl rfl) (Stp.pure (G := sg) _ (P_pick_t (t := decide (a1 ≤ a0)) (by kernel_rfl) hb1 (by kernel_rfl))) ?_
      injection hx1 with hx1
      subst hx1
      exact RW.nil (thenN ⟨[], (StV.tab (by rw [hn0]; rfl) (E_cons (a0 := aB (decide (a0 ≤ a2))) (by kernel_rfl) vw_v E_nil) O_nil (by rw [hn0]; rfl))⟩)
    · have hx1 := br_f hb1 hx1
      refine RW.gf rfl rfl (by rw [hnt]; rfl) (b := decide (a1 ≤ a0)) (by kernel_rfl) hb1 (dt hnt rfl rfl) ?_
      refine RW.gf rfl rfl (by rw [hnt]; rfl) (b := decide (a1 ≤ a0)) (by kernel_rfl) hb1 (dt hnt rfl rfl) ?_
      refine RW.gf rfl rfl (by rw [hnt]; rfl) (b := decide (a1 ≤ a0)) (by kernel_rfl) hb1 (dt hnt rfl rfl) ?_
      refine RW.step (d := ⟨some 14, aB false, []⟩) (k := 0) rfl (dt hnt rfl rfl) (Stp.pure (G := sg) _ (P_pick_f (t := decide (a1 ≤ a0)) (by kernel_rfl) hb1 (by kernel_rfl))) ?_
      injection hx1 with hx1
      subst hx1
      exact RW.nil (thenN ⟨[], (StV.tab (by rw [hn0]; rfl) (E_cons (a0 := aB false) (by kernel_rfl) vw_v E_nil) O_nil (by rw [hn0]; rfl))⟩)
  · rintro st2 ⟨names, hv⟩
    refine RW.weak _ hv ?_
    refine RW.step (d := ⟨some 6, aB x1, []⟩) (k := 0) rfl (dt hnt rfl rfl) (Stp.pure (G := sg) _ (by kernel_rfl)) ?_
    refine RW.nil ?_
    refine thenN ?_
    refine AWp.ret ?_
    injection h with h
    subst h
    exact ⟨[aB x1], _, [], _, by kernel_rfl, RetV.flat vw_v⟩

/-- loop.example/g01203/impl.allWithin$1 -/
def F83 (n : Nat) (a0 : Int) (a1 : Int) (a2 : Int) : Option (Bool) :=
  ob (F43 n a0 a1 a2) fun (x1 : (Bool)) => some (!x1)
theorem own83 : Own Try.prog 83 := ⟨_, Try.func83, rfl, by kernel_rfl⟩
theorem C83 {n : Nat} {a0 : Int} {a1 : Int} {a2 : Int} {r : Bool} (h : F83 n a0 a1 a2 = some r) : DCall Try.prog 83 [aI a0, .rp [[aI a1]] 0 0, .rp [[aI a2]] 0 0] [] (aB r) [] := by
  refine ⟨own83, VCall.enter (G := sg) Try.func83 rfl (Nat.le_of_ble_eq_true rfl) (Nat.le_of_ble_eq_true rfl) fun B hnt hn0 => ?_⟩
  unfold F83 at h
  refine AWp.seq ?_
  refine AWp.region ?_
  refine RW.step (d := ⟨some 4, aB false, []⟩) (k := 0) rfl (dt hnt rfl rfl) (Stp.pure (G := sg) _ (by kernel_rfl)) ?_
  refine RW.nil ?_
  refine thenN ?_
  refine AWp.seq ?_
  refine AWp.region ?_
  refine RW.step (d := ⟨some 5, aI a0, []⟩) (k := 0) rfl (dt hnt rfl rfl) (Stp.pure (G := sg) _ (by kernel_rfl)) ?_
  refine RW.step (d := ⟨some 6, aI a1, []⟩) (k := 0) rfl (dt hnt rfl rfl) (Stp.pure (G := sg) _ (by kernel_rfl)) ?_
  refine RW.step (d := ⟨some 7, aI a2, []⟩) (k := 0) rfl (dt hnt rfl rfl) (Stp.pure (G := sg) _ (by kernel_rfl)) ?_
  obtain ⟨x1, hx1, h⟩ := ob_inv h
  refine RW.step (d := ⟨some 8, aB x1, []⟩) (k := 0) rfl (dt hnt rfl rfl) (Stp.call0 _ rfl (k := 43) (caps := []) (by kernel_rfl) (C43 hx1) (vl_cons vw_v (vl_cons vw_v (vl_cons vw_v vl_nil))) vw_v) ?_
  refine RW.step (d := ⟨some 9, aB (!x1), []⟩) (k := 0) rfl (dt hnt rfl rfl) (Stp.pure (G := sg) _ (by kernel_rfl)) ?_
  refine RW.step (d := ⟨some 4, aB (!x1), []⟩) (k := 0) rfl (dt hnt rfl rfl) (Stp.pure (G := sg) _ (by kernel_rfl)) ?_
  refine RW.nil ?_
  refine thenN ?_
  refine AWp.ret ?_
  injection h with h
  subst h
  exact ⟨[aB (!x1)], _, [], _, by kernel_rfl, RetV.flat vw_v⟩

/-- slices.IndexFunc[[]int,int] -/
def F87_L1 (n : Nat) (a0 : (List Int)) (a1 : Int) (a2 : Int) (f2 : Int → Option (Int)) (s1 : Int) : Option (Int) :=
  lt (decide (s1 < (a0.length : Int)) : Bool) fun x3 => br (x3) (ck (0 ≤ s1 ∧ s1 < (a0.length : Int)) (ob (F83 n (gl a0 s1.toNat) a1 a2) fun (x4 : (Bool)) => br (x4) (some s1) (f2 (w64 (s1 + 1))))) (some (-1))
def F87 (n : Nat) (a0 : (List Int)) (a1 : Int) (a2 : Int) : Option (Int) :=
  fx (F87_L1 n a0 a1 a2) n 0
theorem own87 : Own Try.prog 87 := ⟨_, Try.func87, rfl, by kernel_rfl⟩
theorem C87 {n : Nat} {a0 : (List Int)} {a1 : Int} {a2 : Int} {r : Int} (h : F87 n a0 a1 a2 = some r) : DCall Try.prog 87 [.ro (a0.map rI) false, .clo 83 [.rp [[aI a1]] 0 0, .rp [[aI a2]] 0 0]] [] (aI r) [] := by
  refine ⟨own87, VCall.enter (G := sg) Try.func87 rfl (Nat.le_of_ble_eq_true rfl) (Nat.le_of_ble_eq_true rfl) fun B hnt hn0 => ?_⟩
  unfold F87 at h
  refine AWp.seq ?_
  refine AWp.region ?_
  refine RW.step (d := ⟨some 4, aI 0, []⟩) (k := 0) rfl (dt hnt rfl rfl) (Stp.pure (G := sg) _ (by kernel_rfl)) ?_
  refine RW.nil ?_
  refine thenN ?_
  refine AWp.seq ?_
  refine AWp.seq ?_
  refine AWp.region ?_
  refine RW.step (d := ⟨some 6, .ro (a0.map rI) false, []⟩) (k := 0) rfl (dt hnt rfl rfl) (Stp.pure (G := sg) _ (by kernel_rfl)) ?_
  refine RW.step (d := ⟨some 7, aI (a0.length : Int), []⟩) (k := 0) rfl (dt hnt rfl rfl) (Stp.pure (G := sg) _ (P_len_ro (l := a0) (r := rI) (full := false) (el := 3) (by kernel_rfl) (by kernel_rfl))) ?_
  refine RW.step (d := ⟨some 8, aI 0, []⟩) (k := 0) rfl (dt hnt rfl rfl) (Stp.pure (G := sg) _ (by kernel_rfl)) ?_
  refine RW.nil ?_
  refine thenN ?_
  refine AWp.block ?_
  refine AWp.loop (fun i st' => ∃ (s1 : Int) (names : List (Nat × Nat)), StV B.n0 st' (tabN names) ⟨tabE [(0, .ro (a0.map rI) false), (1, .clo 83 [.rp [[aI a1]] 0 0, .rp [[aI a2]] 0 0]), (7, aI (a0.length : Int)), (8, aI s1)], tabO [], 0⟩ ∧ fx (F87_L1 n a0 a1 a2) i s1 = some r) n ⟨0, [], (StV.tab (by rw [hn0]; rfl) (E_cons (a0 := .ro (a0.map rI) false) (by kernel_rfl) (vw_ro (fun h => h) (vwSegs_map (fun _ => rfl) _)) (E_cons (a0 := .clo 83 [.rp [[aI a1]] 0 0, .rp [[aI a2]] 0 0]) (by kernel_rfl) (vw_clo (vl_cons (vw_rp (vs_cons (vl_cons vw_v vl_nil) vs_nil)) (vl_cons (vw_rp (vs_cons (vl_cons vw_v vl_nil) vs_nil)) vl_nil))) (E_cons (a0 := aI (a0.length : Int)) (by kernel_rfl) vw_v (E_cons (a0 := aI 0) (by kernel_rfl) vw_v E_nil)))) O_nil (by rw [hn0]; rfl)), h⟩ ?_
  rintro is1 st1 ⟨s1, names, hv, h⟩
  obtain ⟨ks1, f2, hks1, hfs1, h⟩ := fx_inv h
  refine AWp.view _ hv ?_
  unfold F87_L1 at h
  refine AWp.seq ?_
  refine AWp.region ?_
  obtain ⟨x3, hx3, h⟩ := lt_inv h
  refine RW.step (d := ⟨some 9, aB x3, []⟩) (k := 0) rfl (dt hnt rfl rfl) (Stp.pure (G := sg) _ (by rw [← hx3]; kernel_rfl)) ?_
  refine RW.nil ?_
  refine thenN ?_
  refine AWp.seq ?_
  refine AWp.cond (t := x3) (by kernel_rfl) (fun hb => ?_) (fun hb => ?_)
  · have h := br_t hb h
    refine AWp.skip ?_
    refine thenN ?_
    refine AWp.seq ?_
    refine AWp.block ?_
    refine AWp.seq ?_
    refine AWp.region ?_
    refine RW.step (d := ⟨some 10, aI s1, []⟩) (k := 0) rfl (dt hnt rfl rfl) (Stp.pure (G := sg) _ (by kernel_rfl)) ?_
    refine RW.step (d := ⟨some 5, aI s1, []⟩) (k := 0) rfl (dt hnt rfl rfl) (Stp.pure (G := sg) _ (by kernel_rfl)) ?_
    refine RW.nil ?_
    refine thenN ?_
    refine AWp.seq ?_
    refine AWp.region ?_
    refine RW.step (d := ⟨some 11, .clo 83 [.rp [[aI a1]] 0 0, .rp [[aI a2]] 0 0], []⟩) (k := 0) rfl (dt hnt rfl rfl) (Stp.pure (G := sg) _ (by kernel_rfl)) ?_
    refine RW.step (d := ⟨some 12, .ro (a0.map rI) false, []⟩) (k := 0) rfl (dt hnt rfl rfl) (Stp.pure (G := sg) _ (by kernel_rfl)) ?_
    refine RW.step (d := ⟨some 13, aI s1, []⟩) (k := 0) rfl (dt hnt rfl rfl) (Stp.pure (G := sg) _ (by kernel_rfl)) ?_
    obtain ⟨hc6, h⟩ := ck_inv h
    refine RW.step (d := ⟨some 14, .rp (a0.map rI) s1.toNat 0, []⟩) (k := 0) rfl (dt hnt rfl rfl) (Stp.pure (G := sg) _ (P_ia_ro (l := a0) (r := rI) (full := false) (kk := .i64) (n := s1) (el := 3) (by kernel_rfl) (by kernel_rfl) (by kernel_rfl) (fun _ => rfl) rfl hc6)) ?_
    refine RW.step (d := ⟨some 15, aI (gl a0 s1.toNat), []⟩) (k := 0) rfl (dt hnt rfl rfl) (Stp.pure (G := sg) _ (P_ld_rp (segs := (a0.map rI)) (s := s1.toNat) (j := 0) (by kernel_rfl) (L_el (by kernel_rfl) (by first | omega | (simp; omega)) (by kernel_rfl)))) ?_
    obtain ⟨x4, hx4, h⟩ := ob_inv h
    refine RW.step (d := ⟨some 16, aB x4, []⟩) (k := 0) rfl (dt hnt rfl rfl) (Stp.call0 _ rfl (k := 83) (caps := [.rp [[aI a1]] 0 0, .rp [[aI a2]] 0 0]) (by kernel_rfl) (C83 hx4) (vl_cons vw_v (vl_cons (vw_rp (vs_cons (vl_cons vw_v vl_nil) vs_nil)) (vl_cons (vw_rp (vs_cons (vl_cons vw_v vl_nil) vs_nil)) vl_nil))) vw_v) ?_
    refine RW.nil ?_
    refine thenN ?_
    refine AWp.cond (t := x4) (by kernel_rfl) (fun hb => ?_) (fun hb => ?_)
    · have h := br_t hb h
      refine AWp.seq ?_
      refine AWp.region ?_
      refine RW.step (d := ⟨some 17, aI s1, []⟩) (k := 0) rfl (dt hnt rfl rfl) (Stp.pure (G := sg) _ (by kernel_rfl)) ?_
      refine RW.step (d := ⟨some 4, aI s1, []⟩) (k := 0) rfl (dt hnt rfl rfl) (Stp.pure (G := sg) _ (by kernel_rfl)) ?_
      refine RW.nil ?_
      refine thenN ?_
      refine AWp.ret ?_
      refine blockR ?_
      refine thenR ?_
      refine thenR ?_
      refine blockR ?_
      refine thenR ?_
      injection h with h
      subst h
      exact ⟨[aI s1], _, [], _, by kernel_rfl, RetV.flat vw_v⟩
    · have h := br_f hb h
      refine AWp.skip ?_
      refine blockN ?_
      refine thenN ?_
      refine AWp.region ?_
      refine RW.step (d := ⟨some 18, aI (w64 (s1 + 1)), []⟩) (k := 0) rfl (dt hnt rfl rfl) (Stp.pure (G := sg) _ (by kernel_rfl)) ?_
      refine RW.step (d := ⟨some 8, aI (w64 (s1 + 1)), []⟩) (k := 0) rfl (dt hnt rfl rfl) (Stp.pure (G := sg) _ (by kernel_rfl)) ?_
      refine RW.nil ?_
      exact ⟨ks1, by rw [hks1]; exact Nat.lt_succ_self _, w64 (s1 + 1), [], (StV.tab (by rw [hn0]; rfl) (E_cons (a0 := .ro (a0.map rI) false) (by kernel_rfl) (vw_ro (fun h => h) (vwSegs_map (fun _ => rfl) _)) (E_cons (a0 := .clo 83 [.rp [[aI a1]] 0 0, .rp [[aI a2]] 0 0]) (by kernel_rfl) (vw_clo (vl_cons (vw_rp (vs_cons (vl_cons vw_v vl_nil) vs_nil)) (vl_cons (vw_rp (vs_cons (vl_cons vw_v vl_nil) vs_nil)) vl_nil))) (E_cons (a0 := aI (a0.length : Int)) (by kernel_rfl) vw_v (E_cons (a0 := aI (w64 (s1 + 1))) (by kernel_rfl) vw_v E_nil)))) O_nil (by rw [hn0]; rfl)), by rw [← hfs1]; exact h⟩
  · have h := br_f hb h
    refine AWp.exit ?_
    refine thenX ?_
    refine thenX ?_
    refine blockH ?_
    refine thenN ?_
    refine AWp.seq ?_
    refine AWp.region ?_
    refine RW.step (d := ⟨some 4, aI (-1), []⟩) (k := 0) rfl (dt hnt rfl rfl) (Stp.pure (G := sg) _ (by kernel_rfl)) ?_
    refine RW.nil ?_
    refine thenN ?_
    refine AWp.ret ?_
    injection h with h
    subst h
    exact ⟨[aI (-1)], _, [], _, by kernel_rfl, RetV.flat vw_v⟩

/-- slices.ContainsFunc[[]int,int] -/
def F82 (n : Nat) (a0 : (List Int)) (a1 : Int) (a2 : Int) : Option (Bool) :=
  ob (F87 n a0 a1 a2) fun (x1 : (Int)) => some (decide (0 ≤ x1))
theorem own82 : Own Try.prog 82 := ⟨_, Try.func82, rfl, by kernel_rfl⟩
theorem C82 {n : Nat} {a0 : (List Int)} {a1 : Int} {a2 : Int} {r : Bool} (h : F82 n a0 a1 a2 = some r) : DCall Try.prog 82 [.ro (a0.map rI) false, .clo 83 [.rp [[aI a1]] 0 0, .rp [[aI a2]] 0 0]] [] (aB r) [] := by
  refine ⟨own82, VCall.enter (G := sg) Try.func82 rfl (Nat.le_of_ble_eq_true rfl) (Nat.le_of_ble_eq_true rfl) fun B hnt hn0 => ?_⟩
  unfold F82 at h
  refine AWp.seq ?_
  refine AWp.region ?_
  refine RW.step (d := ⟨some 4, aB false, []⟩) (k := 0) rfl (dt hnt rfl rfl) (Stp.pure (G := sg) _ (by kernel_rfl)) ?_
  refine RW.nil ?_
  refine thenN ?_
  refine AWp.seq ?_
  refine AWp.region ?_
  refine RW.step (d := ⟨some 5, .ro (a0.map rI) false, []⟩) (k := 0) rfl (dt hnt rfl rfl) (Stp.pure (G := sg) _ (by kernel_rfl)) ?_
  refine RW.step (d := ⟨some 6, .clo 83 [.rp [[aI a1]] 0 0, .rp [[aI a2]] 0 0], []⟩) (k := 0) rfl (dt hnt rfl rfl) (Stp.pure (G := sg) _ (by kernel_rfl)) ?_
  obtain ⟨x1, hx1, h⟩ := ob_inv h
  refine RW.step (d := ⟨some 7, aI x1, []⟩) (k := 0) rfl (dt hnt rfl rfl) (Stp.call0 _ rfl (k := 87) (caps := []) (by kernel_rfl) (C87 hx1) (vl_cons (vw_ro (fun h => h) (vwSegs_map (fun _ => rfl) _)) (vl_cons (vw_clo (vl_cons (vw_rp (vs_cons (vl_cons vw_v vl_nil) vs_nil)) (vl_cons (vw_rp (vs_cons (vl_cons vw_v vl_nil) vs_nil)) vl_nil))) vl_nil)) vw_v) ?_
  refine RW.step (d := ⟨some 8, aB (decide (0 ≤ x1)), []⟩) (k := 0) rfl (dt hnt rfl rfl) (Stp.pure (G := sg) _ (by kernel_rfl)) ?_
  refine RW.step (d := ⟨some 4, aB (decide (0 ≤ x1)), []⟩) (k := 0) rfl (dt hnt rfl rfl) (Stp.pure (G := sg) _ (by kernel_rfl)) ?_
  refine RW.nil ?_
  refine thenN ?_
  refine AWp.ret ?_
  injection h with h
  subst h
  exact ⟨[aB (decide (0 ≤ x1))], _, [], _, by kernel_rfl, RetV.flat vw_v⟩

/-- loop.example/g01203/impl.allWithin -/
def F71 (n : Nat) (a0 : (List Int)) (a1 : Int) (a2 : Int) : Option (Bool) :=
  ob (F82 n a0 a1 a2) fun (x1 : (Bool)) => some (!x1)
theorem own71 : Own Try.prog 71 := ⟨_, Try.func71, rfl, by kernel_rfl⟩
theorem C71 {n : Nat} {a0 : (List Int)} {a1 : Int} {a2 : Int} {r : Bool} (h : F71 n a0 a1 a2 = some r) : DCall Try.prog 71 [.ro (a0.map rI) false, aI a1, aI a2] [] (aB r) [] := by
  refine ⟨own71, VCall.enter (G := sg) Try.func71 rfl (Nat.le_of_ble_eq_true rfl) (Nat.le_of_ble_eq_true rfl) fun B hnt hn0 => ?_⟩
  unfold F71 at h
  refine AWp.seq ?_
  refine AWp.region ?_
  refine RW.step (d := ⟨some 4, .ptr 0 0 0, [(0, some ⟨3, none, [[aI a1]]⟩)]⟩) (k := 1) rfl (dt hnt rfl rfl) (Stp.new (G := sg) (by kernel_rfl)) ?_
  refine RW.step (d := ⟨some 5, .ptr 1 0 0, [(1, some ⟨3, none, [[aI a2]]⟩)]⟩) (k := 1) rfl (dt hnt rfl rfl) (Stp.new (G := sg) (by kernel_rfl)) ?_
  refine RW.step (d := ⟨some 6, aB false, []⟩) (k := 0) rfl (dt hnt rfl rfl) (Stp.pure (G := sg) _ (by kernel_rfl)) ?_
  refine RW.nil ?_
  refine thenN ?_
  refine AWp.seq ?_
  refine AWp.region ?_
  refine RW.step (d := ⟨some 7, .ro (a0.map rI) false, []⟩) (k := 0) rfl (dt hnt rfl rfl) (Stp.pure (G := sg) _ (by kernel_rfl)) ?_
  refine RW.step (d := ⟨some 8, .clo 83 [.ptr 0 0 0, .ptr 1 0 0], []⟩) (k := 0) rfl (dt hnt rfl rfl) (Stp.pure (G := sg) _ (by kernel_rfl)) ?_
  obtain ⟨x1, hx1, h⟩ := ob_inv h
  refine RW.step (d := ⟨some 9, aB x1, []⟩) (k := 0) rfl (dt hnt rfl rfl) (Stp.call0 _ rfl (k := 82) (caps := []) (by kernel_rfl) (C82 hx1) (vl_cons (vw_ro (fun h => h) (vwSegs_map (fun _ => rfl) _)) (vl_cons (vw_clo (vl_cons (vw_rp_lend (o := ⟨3, none, [[aI a1]]⟩) none_ne (by kernel_rfl) (by simp) (vs_cons (vl_cons vw_v vl_nil) vs_nil)) (vl_cons (vw_rp_lend (o := ⟨3, none, [[aI a2]]⟩) none_ne (by kernel_rfl) (by simp) (vs_cons (vl_cons vw_v vl_nil) vs_nil)) vl_nil))) vl_nil)) vw_v) ?_
  refine RW.step (d := ⟨some 10, aB (!x1), []⟩) (k := 0) rfl (dt hnt rfl rfl) (Stp.pure (G := sg) _ (by kernel_rfl)) ?_
  refine RW.step (d := ⟨some 6, aB (!x1), []⟩) (k := 0) rfl (dt hnt rfl rfl) (Stp.pure (G := sg) _ (by kernel_rfl)) ?_
  refine RW.nil ?_
  refine thenN ?_
  refine AWp.ret ?_
  injection h with h
  subst h
  exact ⟨[aB (!x1)], _, [], _, by kernel_rfl, RetV.flat vw_v⟩

/-- loop.example/g01203/impl.IsCard -/
def F49 (n : Nat) (a0 : (V4 Int)) : Option (Bool) :=
  ob (F71 n ([a0.x0, a0.x1, a0.x2, a0.x3] : List Int) 0 2) fun (x1 : (Bool)) => some x1
theorem own49 : Own Try.prog 49 := ⟨_, Try.func49, rfl, by kernel_rfl⟩
theorem C49 {n : Nat} {a0 : (V4 Int)} {r : Bool} (h : F49 n a0 = some r) : DCall Try.prog 49 [.agg [(V4.row aI) a0]] [] (aB r) [] := by
  refine ⟨own49, VCall.enter (G := sg) Try.func49 rfl (Nat.le_of_ble_eq_true rfl) (Nat.le_of_ble_eq_true rfl) fun B hnt hn0 => ?_⟩
  unfold F49 at h
  refine AWp.seq ?_
  refine AWp.region ?_
  refine RW.step (d := ⟨some 1, .ptr 0 0 0, [(0, some ⟨36, none, [(V4.row aI) a0]⟩)]⟩) (k := 1) rfl (dt hnt rfl rfl) (Stp.new (G := sg) (by kernel_rfl)) ?_
  refine RW.step (d := ⟨some 2, aB false, []⟩) (k := 0) rfl (dt hnt rfl rfl) (Stp.pure (G := sg) _ (by kernel_rfl)) ?_
  refine RW.nil ?_
  refine thenN ?_
  refine AWp.seq ?_
  refine AWp.region ?_
  refine RW.step (d := ⟨some 3, .sv 0 0 0 4, []⟩) (k := 0) rfl (dt hnt rfl rfl) (Stp.pure (G := sg) _ (by kernel_rfl)) ?_
  obtain ⟨x1, hx1, h⟩ := ob_inv h
  refine RW.step (d := ⟨some 4, aB x1, []⟩) (k := 0) rfl (dt hnt rfl rfl) (Stp.call0 _ rfl (k := 71) (caps := []) (by kernel_rfl) (C71 hx1) (vl_cons (vw_lendV (o := ⟨36, none, [(V4.row aI) a0]⟩) (row := (V4.row aI) a0) none_ne (by kernel_rfl) rfl rfl (vwSegs_map (f := rI) (fun _ => rfl) ([a0.x0, a0.x1, a0.x2, a0.x3] : List Int))) (vl_cons vw_v (vl_cons vw_v vl_nil))) vw_v) ?_
  refine RW.step (d := ⟨some 2, aB x1, []⟩) (k := 0) rfl (dt hnt rfl rfl) (Stp.pure (G := sg) _ (by kernel_rfl)) ?_
  refine RW.nil ?_
  refine thenN ?_
  refine AWp.ret ?_
  injection h with h
  subst h
  exact ⟨[aB x1], _, [], _, by kernel_rfl, RetV.flat vw_v⟩

/-- loop.example/g01203/impl.areCards$1 -/
def F66 (n : Nat) (a0 : (V4 Int)) : Option (Bool) :=
  ob (F49 n a0) fun (x1 : (Bool)) => some (!x1)
theorem own66 : Own Try.prog 66 := ⟨_, Try.func66, rfl, by kernel_rfl⟩
theorem C66 {n : Nat} {a0 : (V4 Int)} {r : Bool} (h : F66 n a0 = some r) : DCall Try.prog 66 [.agg [(V4.row aI) a0]] [] (aB r) [] := by
  refine ⟨own66, VCall.enter (G := sg) Try.func66 rfl (Nat.le_of_ble_eq_true rfl) (Nat.le_of_ble_eq_true rfl) fun B hnt hn0 => ?_⟩
  unfold F66 at h
  refine AWp.seq ?_
  refine AWp.region ?_
  refine RW.step (d := ⟨some 1, .ptr 0 0 0, [(0, some ⟨36, none, [(V4.row aI) a0]⟩)]⟩) (k := 1) rfl (dt hnt rfl rfl) (Stp.new (G := sg) (by kernel_rfl)) ?_
  refine RW.step (d := ⟨some 2, aB false, []⟩) (k := 0) rfl (dt hnt rfl rfl) (Stp.pure (G := sg) _ (by kernel_rfl)) ?_
  refine RW.nil ?_
  refine thenN ?_
  refine AWp.seq ?_
  refine AWp.region ?_
  refine RW.step (d := ⟨some 3, .agg [(V4.row aI) a0], []⟩) (k := 0) rfl (dt hnt rfl rfl) (Stp.pure (G := sg) _ (by kernel_rfl)) ?_
  obtain ⟨x1, hx1, h⟩ := ob_inv h
  refine RW.step (d := ⟨some 4, aB x1, []⟩) (k := 0) rfl (dt hnt rfl rfl) (Stp.call0 _ rfl (k := 49) (caps := []) (by kernel_rfl) (C49 hx1) (vl_cons (vw_agg (vs_cons (vwList_flat rfl) vs_nil)) vl_nil) vw_v) ?_
  refine RW.step (d := ⟨some 5, aB (!x1), []⟩) (k := 0) rfl (dt hnt rfl rfl) (Stp.pure (G := sg) _ (by kernel_rfl)) ?_
  refine RW.step (d := ⟨some 2, aB (!x1), []⟩) (k := 0) rfl (dt hnt rfl rfl) (Stp.pure (G := sg) _ (by kernel_rfl)) ?_
  refine RW.nil ?_
  refine thenN ?_
  refine AWp.ret ?_
  injection h with h
  subst h
  exact ⟨[aB (!x1)], _, [], _, by kernel_rfl, RetV.flat vw_v⟩

/-- slices.IndexFunc[[][4]int,[4]int] -/
def F80_L1 (n : Nat) (a0 : (List (V4 Int))) (f2 : Int → Option (Int)) (s1 : Int) : Option (Int) :=
  lt (decide (s1 < (a0.length : Int)) : Bool) fun x3 => br (x3) (ck (0 ≤ s1 ∧ s1 < (a0.length : Int)) (ob (F66 n (gl a0 s1.toNat)) fun (x4 : (Bool)) => br (x4) (some s1) (f2 (w64 (s1 + 1))))) (some (-1))
def F80 (n : Nat) (a0 : (List (V4 Int))) : Option (Int) :=
  fx (F80_L1 n a0) n 0
theorem own80 : Own Try.prog 80 := ⟨_, Try.func80, rfl, by kernel_rfl⟩
theorem C80 {n : Nat} {a0 : (List (V4 Int))} {r : Int} (h : F80 n a0 = some r) : DCall Try.prog 80 [.ro (a0.map (V4.row aI)) false, .clo 66 []] [] (aI r) [] := by
  refine ⟨own80, VCall.enter (G := sg) Try.func80 rfl (Nat.le_of_ble_eq_true rfl) (Nat.le_of_ble_eq_true rfl) fun B hnt hn0 => ?_⟩
  unfold F80 at h
  refine AWp.seq ?_
  refine AWp.region ?_
  refine RW.step (d := ⟨some 4, aI 0, []⟩) (k := 0) rfl (dt hnt rfl rfl) (Stp.pure (G := sg) _ (by kernel_rfl)) ?_
  refine RW.nil ?_
  refine thenN ?_
  refine AWp.seq ?_
  refine AWp.seq ?_
  refine AWp.region ?_
  refine RW.step (d := ⟨some 6, .ro (a0.map (V4.row aI)) false, []⟩) (k := 0) rfl (dt hnt rfl rfl) (Stp.pure (G := sg) _ (by kernel_rfl)) ?_
  refine RW.step (d := ⟨some 7, aI (a0.length : Int), []⟩) (k := 0) rfl (dt hnt rfl rfl) (Stp.pure (G := sg) _ (P_len_ro (l := a0) (r := (V4.row aI)) (full := false) (el := 36) (by kernel_rfl) (by kernel_rfl))) ?_
  refine RW.step (d := ⟨some 8, aI 0, []⟩) (k := 0) rfl (dt hnt rfl rfl) (Stp.pure (G := sg) _ (by kernel_rfl)) ?_
  refine RW.nil ?_
  refine thenN ?_
  refine AWp.block ?_
  refine AWp.loop (fun i st' => ∃ (s1 : Int) (names : List (Nat × Nat)), StV B.n0 st' (tabN names) ⟨tabE [(0, .ro (a0.map (V4.row aI)) false), (1, .clo 66 []), (7, aI (a0.length : Int)), (8, aI s1)], tabO [], 0⟩ ∧ fx (F80_L1 n a0) i s1 = some r) n ⟨0, [], (StV.tab (by rw [hn0]; rfl) (E_cons (a0 := .ro (a0.map (V4.row aI)) false) (by kernel_rfl) (vw_ro (fun h => h) (vwSegs_map (fun _ => rfl) _)) (E_cons (a0 := .clo 66 []) (by kernel_rfl) (vw_clo vl_nil) (E_cons (a0 := aI (a0.length : Int)) (by kernel_rfl) vw_v (E_cons (a0 := aI 0) (by kernel_rfl) vw_v E_nil)))) O_nil (by rw [hn0]; rfl)), h⟩ ?_
  rintro is1 st1 ⟨s1, names, hv, h⟩
  obtain ⟨ks1, f2, hks1, hfs1, h⟩ := fx_inv h
  refine AWp.view _ hv ?_
  unfold F80_L1 at h
  refine AWp.seq ?_
  refine AWp.region ?_
  obtain ⟨x3, hx3, h⟩ := lt_inv h
  refine RW.step (d := ⟨some 9, aB x3, []⟩) (k := 0) rfl (dt hnt rfl rfl) (Stp.pure (G := sg) _ (by rw [← hx3]; kernel_rfl)) ?_
  refine RW.nil ?_
  refine thenN ?_
  refine AWp.seq ?_
  refine AWp.cond (t := x3) (by kernel_rfl) (fun hb => ?_) (fun hb => ?_)
  · have h := br_t hb h
    refine AWp.skip ?_
    refine thenN ?_
    refine AWp.seq ?_
    refine AWp.block ?_
    refine AWp.seq ?_
    refine AWp.region ?_
    refine RW.step (d := ⟨some 10, aI s1, []⟩) (k := 0) rfl (dt hnt rfl rfl) (Stp.pure (G := sg) _ (by kernel_rfl)) ?_
    refine RW.step (d := ⟨some 5, aI s1, []⟩) (k := 0) rfl (dt hnt rfl rfl) (Stp.pure (G := sg) _ (by kernel_rfl)) ?_
    refine RW.nil ?_
    refine thenN ?_
    refine AWp.seq ?_
    refine AWp.region ?_
    refine RW.step (d := ⟨some 11, .clo 66 [], []⟩) (k := 0) rfl (dt hnt rfl rfl) (Stp.pure (G := sg) _ (by kernel_rfl)) ?_
    refine RW.step (d := ⟨some 12, .ro (a0.map (V4.row aI)) false, []⟩) (k := 0) rfl (dt hnt rfl rfl) (Stp.pure (G := sg) _ (by kernel_rfl)) ?_
    refine RW.step (d := ⟨some 13, aI s1, []⟩) (k := 0) rfl (dt hnt rfl rfl) (Stp.pure (G := sg) _ (by kernel_rfl)) ?_
    obtain ⟨hc6, h⟩ := ck_inv h
    refine RW.step (d := ⟨some 14, .rp (a0.map (V4.row aI)) s1.toNat 0, []⟩) (k := 0) rfl (dt hnt rfl rfl) (Stp.pure (G := sg) _ (P_ia_ro (l := a0) (r := (V4.row aI)) (full := false) (kk := .i64) (n := s1) (el := 36) (by kernel_rfl) (by kernel_rfl) (by kernel_rfl) (fun _ => rfl) rfl hc6)) ?_
    refine RW.step (d := ⟨some 15, .agg [(V4.row aI) (gl a0 s1.toNat)], []⟩) (k := 0) rfl (dt hnt rfl rfl) (Stp.pure (G := sg) _ (P_ld_rp (segs := (a0.map (V4.row aI))) (s := s1.toNat) (j := 0) (by kernel_rfl) (L_row (by kernel_rfl) (by first | omega | (simp; omega))))) ?_
    obtain ⟨x4, hx4, h⟩ := ob_inv h
    refine RW.step (d := ⟨some 16, aB x4, []⟩) (k := 0) rfl (dt hnt rfl rfl) (Stp.call0 _ rfl (k := 66) (caps := []) (by kernel_rfl) (C66 hx4) (vl_cons (vw_agg (vs_cons (vwList_flat rfl) vs_nil)) vl_nil) vw_v) ?_
    refine RW.nil ?_
    refine thenN ?_
    refine AWp.cond (t := x4) (by kernel_rfl) (fun hb => ?_) (fun hb => ?_)
    · have h := br_t hb h
      refine AWp.seq ?_
      refine AWp.region ?_
      refine RW.step (d := ⟨some 17, aI s1, []⟩) (k := 0) rfl (dt hnt rfl rfl) (Stp.pure (G := sg) _ (by kernel_rfl)) ?_
      refine RW.step (d := ⟨some 4, aI s1, []⟩) (k := 0) rfl (dt hnt rfl rfl) (Stp.pure (G := sg) _ (by kernel_rfl)) ?_
      refine RW.nil ?_
      refine thenN ?_
      refine AWp.ret ?_
      refine blockR ?_
      refine thenR ?_
      refine thenR ?_
      refine blockR ?_
      refine thenR ?_
      injection h with h
      subst h
      exact ⟨[aI s1], _, [], _, by kernel_rfl, RetV.flat vw_v⟩
    · have h := br_f hb h
      refine AWp.skip ?_
      refine blockN ?_
      refine thenN ?_
      refine AWp.region ?_
      refine RW.step (d := ⟨some 18, aI (w64 (s1 + 1)), []⟩) (k := 0) rfl (dt hnt rfl rfl) (Stp.pure (G := sg) _ (by kernel_rfl)) ?_
      refine RW.step (d := ⟨some 8, aI (w64 (s1 + 1)), []⟩) (k := 0) rfl (dt hnt rfl rfl) (Stp.pure (G := sg) _ (by kernel_rfl)) ?_
      refine RW.nil ?_
      exact ⟨ks1, by rw [hks1]; exact Nat.lt_succ_self _, w64 (s1 + 1), [], (StV.tab (by rw [hn0]; rfl) (E_cons (a0 := .ro (a0.map (V4.row aI)) false) (by kernel_rfl) (vw_ro (fun h => h) (vwSegs_map (fun _ => rfl) _)) (E_cons (a0 := .clo 66 []) (by kernel_rfl) (vw_clo vl_nil) (E_cons (a0 := aI (a0.length : Int)) (by kernel_rfl) vw_v (E_cons (a0 := aI (w64 (s1 + 1))) (by kernel_rfl) vw_v E_nil)))) O_nil (by rw [hn0]; rfl)), by rw [← hfs1]; exact h⟩
  · have h := br_f hb h
    refine AWp.exit ?_
    refine thenX ?_
    refine thenX ?_
    refine blockH ?_
    refine thenN ?_
    refine AWp.seq ?_
    refine AWp.region ?_
    refine RW.step (d := ⟨some 4, aI (-1), []⟩) (k := 0) rfl (dt hnt rfl rfl) (Stp.pure (G := sg) _ (by kernel_rfl)) ?_
    refine RW.nil ?_
    refine thenN ?_
    refine AWp.ret ?_
    injection h with h
    subst h
    exact ⟨[aI (-1)], _, [], _, by kernel_rfl, RetV.flat vw_v⟩

/-- slices.ContainsFunc[[][4]int,[4]int] -/
def F65 (n : Nat) (a0 : (List (V4 Int))) : Option (Bool) :=
  ob (F80 n a0) fun (x1 : (Int)) => some (decide (0 ≤ x1))
theorem own65 : Own Try.prog 65 := ⟨_, Try.func65, rfl, by kernel_rfl⟩
theorem C65 {n : Nat} {a0 : (List (V4 Int))} {r : Bool} (h : F65 n a0 = some r) : DCall Try.prog 65 [.ro (a0.map (V4.row aI)) false, .clo 66 []] [] (aB r) [] := by
  refine ⟨own65, VCall.enter (G := sg) Try.func65 rfl (Nat.le_of_ble_eq_true rfl) (Nat.le_of_ble_eq_true rfl) fun B hnt hn0 => ?_⟩
  unfold F65 at h
  refine AWp.seq ?_
  refine AWp.region ?_
  refine RW.step (d := ⟨some 4, aB false, []⟩) (k := 0) rfl (dt hnt rfl rfl) (Stp.pure (G := sg) _ (by kernel_rfl)) ?_
  refine RW.nil ?_
  refine thenN ?_
  refine AWp.seq ?_
  refine AWp.region ?_
  refine RW.step (d := ⟨some 5, .ro (a0.map (V4.row aI)) false, []⟩) (k := 0) rfl (dt hnt rfl rfl) (Stp.pure (G := sg) _ (by kernel_rfl)) ?_
  refine RW.step (d := ⟨some 6, .clo 66 [], []⟩) (k := 0) rfl (dt hnt rfl rfl) (Stp.pure (G := sg) _ (by kernel_rfl)) ?_
  obtain ⟨x1, hx1, h⟩ := ob_inv h
  refine RW.step (d := ⟨some 7, aI x1, []⟩) (k := 0) rfl (dt hnt rfl rfl) (Stp.call0 _ rfl (k := 80) (caps := []) (by kernel_rfl) (C80 hx1) (vl_cons (vw_ro (fun h => h) (vwSegs_map (fun _ => rfl) _)) (vl_cons (vw_clo vl_nil) vl_nil)) vw_v) ?_
  refine RW.step (d := ⟨some 8, aB (decide (0 ≤ x1)), []⟩) (k := 0) rfl (dt hnt rfl rfl) (Stp.pure (G := sg) _ (by kernel_rfl)) ?_
  refine RW.step (d := ⟨some 4, aB (decide (0 ≤ x1)), []⟩) (k := 0) rfl (dt hnt rfl rfl) (Stp.pure (G := sg) _ (by kernel_rfl)) ?_
  refine RW.nil ?_
  refine thenN ?_
  refine AWp.ret ?_
  injection h with h
  subst h
  exact ⟨[aB (decide (0 ≤ x1))], _, [], _, by kernel_rfl, RetV.flat vw_v⟩

/-- loop.example/g01203/impl.areCards -/
def F39 (n : Nat) (a0 : (List (V4 Int))) : Option (Bool) :=
  ob (F65 n a0) fun (x1 : (Bool)) => some (!x1)
theorem own39 : Own Try.prog 39 := ⟨_, Try.func39, rfl, by kernel_rfl⟩
theorem C39 {n : Nat} {a0 : (List (V4 Int))} {r : Bool} (h : F39 n a0 = some r) : DCall Try.prog 39 [.ro (a0.map (V4.row aI)) false] [] (aB r) [] := by
  refine ⟨own39, VCall.enter (G := sg) Try.func39 rfl (Nat.le_of_ble_eq_true rfl) (Nat.le_of_ble_eq_true rfl) fun B hnt hn0 => ?_⟩
  unfold F39 at h
  refine AWp.seq ?_
  refine AWp.region ?_
  refine RW.step (d := ⟨some 2, aB false, []⟩) (k := 0) rfl (dt hnt rfl rfl) (Stp.pure (G := sg) _ (by kernel_rfl)) ?_
  refine RW.nil ?_
  refine thenN ?_
  refine AWp.seq ?_
  refine AWp.region ?_
  refine RW.step (d := ⟨some 3, .ro (a0.map (V4.row aI)) false, []⟩) (k := 0) rfl (dt hnt rfl rfl) (Stp.pure (G := sg) _ (by kernel_rfl)) ?_
  obtain ⟨x1, hx1, h⟩ := ob_inv h
  refine RW.step (d := ⟨some 4, aB x1, []⟩) (k := 0) rfl (dt hnt rfl rfl) (Stp.call0 _ rfl (k := 65) (caps := []) (by kernel_rfl) (C65 hx1) (vl_cons (vw_ro (fun h => h) (vwSegs_map (fun _ => rfl) _)) (vl_cons (vw_clo vl_nil) vl_nil)) vw_v) ?_
  refine RW.step (d := ⟨some 5, aB (!x1), []⟩) (k := 0) rfl (dt hnt rfl rfl) (Stp.pure (G := sg) _ (by kernel_rfl)) ?_
  refine RW.step (d := ⟨some 2, aB (!x1), []⟩) (k := 0) rfl (dt hnt rfl rfl) (Stp.pure (G := sg) _ (by kernel_rfl)) ?_
  refine RW.nil ?_
  refine thenN ?_
  refine AWp.ret ?_
  injection h with h
  subst h
  exact ⟨[aB (!x1)], _, [], _, by kernel_rfl, RetV.flat vw_v⟩

/-- loop.example/g01203/impl.differ -/
def F40_J2 (n : Nat) (s1 : (Int × Int)) (f2 : ((Int × Int) → Option (Int))) (s3 : Int) : Option (Int) :=
  f2 (s3, w64 (s1.2 + 1))
def F40_L1 (n : Nat) (a0 : (V4 Int)) (a1 : (V4 Int)) (f2 : (Int × Int) → Option (Int)) (s1 : Int × Int) : Option (Int) :=
  br (decide (s1.2 < 4)) (ck (0 ≤ s1.2 ∧ s1.2 < 4) (ck (0 ≤ s1.2 ∧ s1.2 < 4) (lt (!decide ((V4.get a0 s1.2.toNat) = (V4.get a1 s1.2.toNat)) : Bool) fun x4 => br (x4) (F40_J2 n s1 f2 (w64 (s1.1 + 1))) (F40_J2 n s1 f2 s1.1)))) (some s1.1)
def F40 (n : Nat) (a0 : (V4 Int)) (a1 : (V4 Int)) : Option (Int) :=
  fx (F40_L1 n a0 a1) n (0, 0)
theorem own40 : Own Try.prog 40 := ⟨_, Try.func40, rfl, by kernel_rfl⟩
theorem C40 {n : Nat} {a0 : (V4 Int)} {a1 : (V4 Int)} {r : Int} (h : F40 n a0 a1 = some r) : DCall Try.prog 40 [.agg [(V4.row aI) a0], .agg [(V4.row aI) a1]] [] (aI r) [] := by
  refine ⟨own40, VCall.enter (G := sg) Try.func40 rfl (Nat.le_of_ble_eq_true rfl) (Nat.le_of_ble_eq_true rfl) fun B hnt hn0 => ?_⟩
  unfold F40 at h
  refine AWp.seq ?_
  refine AWp.region ?_
  refine RW.step (d := ⟨some 2, .ptr 0 0 0, [(0, some ⟨36, none, [(V4.row aI) a0]⟩)]⟩) (k := 1) rfl (dt hnt rfl rfl) (Stp.new (G := sg) (by kernel_rfl)) ?_
  refine RW.step (d := ⟨some 3, .ptr 1 0 0, [(1, some ⟨36, none, [(V4.row aI) a1]⟩)]⟩) (k := 1) rfl (dt hnt rfl rfl) (Stp.new (G := sg) (by kernel_rfl)) ?_
  refine RW.step (d := ⟨some 4, aI 0, []⟩) (k := 0) rfl (dt hnt rfl rfl) (Stp.pure (G := sg) _ (by kernel_rfl)) ?_
  refine RW.nil ?_
  refine thenN ?_
  refine AWp.seq ?_
  refine AWp.region ?_
  refine RW.step (d := ⟨some 5, aI 0, []⟩) (k := 0) rfl (dt hnt rfl rfl) (Stp.pure (G := sg) _ (by kernel_rfl)) ?_
  refine RW.nil ?_
  refine thenN ?_
  refine AWp.seq ?_
  refine AWp.seq ?_
  refine AWp.region ?_
  refine RW.step (d := ⟨some 7, aI 0, []⟩) (k := 0) rfl (dt hnt rfl rfl) (Stp.pure (G := sg) _ (by kernel_rfl)) ?_
  refine RW.nil ?_
  refine thenN ?_
  refine AWp.block ?_
  refine AWp.loop (fun i st' => ∃ (s1 : Int × Int) (names : List (Nat × Nat)), StV B.n0 st' (tabN names) ⟨tabE [(2, .ptr 0 0 0), (3, .ptr 1 0 0), (5, aI s1.1), (7, aI s1.2)], tabO [(0, ⟨36, none, [(V4.row aI) a0]⟩), (1, ⟨36, none, [(V4.row aI) a1]⟩)], 2⟩ ∧ fx (F40_L1 n a0 a1) i s1 = some r) n ⟨(0, 0), [(0, 0), (1, 1)], (StV.tab (by rw [hn0]; rfl) (E_cons (a0 := .ptr 0 0 0) (by kernel_rfl) (vw_ptr rfl) (E_cons (a0 := .ptr 1 0 0) (by kernel_rfl) (vw_ptr rfl) (E_cons (a0 := aI 0) (by kernel_rfl) vw_v (E_cons (a0 := aI 0) (by kernel_rfl) vw_v E_nil)))) (O_cons 0 ⟨36, none, [(V4.row aI) a0]⟩ rfl (by kernel_rfl) rfl rfl (vs_cons (vwList_flat rfl) vs_nil) (O_cons 1 ⟨36, none, [(V4.row aI) a1]⟩ rfl (by kernel_rfl) rfl rfl (vs_cons (vwList_flat rfl) vs_nil) O_nil)) (by rw [hn0]; rfl)), h⟩ ?_
  rintro is1 st1 ⟨s1, names, hv, h⟩
  obtain ⟨ks1, f2, hks1, hfs1, h⟩ := fx_inv h
  refine AWp.view _ hv ?_
  unfold F40_L1 at h
  refine AWp.seq ?_
  refine AWp.region ?_
  refine RW.step (d := ⟨some 8, aB (decide (s1.2 < 4)), []⟩) (k := 0) rfl (dt hnt rfl rfl) (Stp.pure (G := sg) _ (by kernel_rfl)) ?_
  refine RW.nil ?_
  refine thenN ?_
  refine AWp.seq ?_
  refine AWp.cond (t := decide (s1.2 < 4)) (by kernel_rfl) (fun hb => ?_) (fun hb => ?_)
  · have h := br_t hb h
    refine AWp.skip ?_
    refine thenN ?_
    refine AWp.cut (fun st' => ∃ (s3 : Int) (names : List (Nat × Nat)), StV B.n0 st' (tabN names) ⟨tabE [(2, .ptr 0 0 0), (3, .ptr 1 0 0), (5, aI s3), (7, aI s1.2)], tabO [(0, ⟨36, none, [(V4.row aI) a0]⟩), (1, ⟨36, none, [(V4.row aI) a1]⟩)], 2⟩ ∧ F40_J2 n s1 f2 s3 = some r) ?_ ?_
    · refine AWp.block ?_
      refine AWp.seq ?_
      refine AWp.region ?_
      refine RW.step (d := ⟨some 9, aI s1.2, []⟩) (k := 0) rfl (dt hnt rfl rfl) (Stp.pure (G := sg) _ (by kernel_rfl)) ?_
      refine RW.step (d := ⟨some 6, aI s1.2, []⟩) (k := 0) rfl (dt hnt rfl rfl) (Stp.pure (G := sg) _ (by kernel_rfl)) ?_
      refine RW.nil ?_
      refine thenN ?_
      refine AWp.seq ?_
      obtain ⟨hc23, h⟩ := ck_inv h
      obtain ⟨hc24, h⟩ := ck_inv h
      obtain ⟨x4, hx4, h⟩ := lt_inv h
      refine AWp.drw (G := sg) [⟨⟨some 10, aI s1.2, []⟩, 0⟩, ⟨⟨some 11, .ptr 0 0 s1.2.toNat, []⟩, 0⟩, ⟨⟨some 12, aI (V4.get a0 s1.2.toNat), []⟩, 0⟩, ⟨⟨some 13, aI s1.2, []⟩, 0⟩, ⟨⟨some 14, .ptr 1 0 s1.2.toNat, []⟩, 0⟩, ⟨⟨some 15, aI (V4.get a1 s1.2.toNat), []⟩, 0⟩, ⟨⟨some 16, aB x4, []⟩, 0⟩] (by kernel_rfl) (VCs.c (OpVC.p _ _ rfl rfl rfl (dt hnt rfl rfl) (Stp.pure (G := sg) _ (by kernel_rfl))) (VCs.c (OpVC.p _ _ rfl rfl rfl (dt hnt rfl rfl) (Stp.pure (G := sg) _ (P_ia_arr (nm := 0) (s := 0) (len := 4) (kk := .i64) (n := s1.2) (el := 3) (by kernel_rfl) (by kernel_rfl) (by kernel_rfl) rfl (by omega)))) (VCs.c (OpVC.p _ _ rfl rfl rfl (dt hnt rfl rfl) (Stp.pure (G := sg) _ (P_ld (nm := 0) (s := 0) (j := s1.2.toNat) (o := ⟨36, none, [(V4.row aI) a0]⟩) (by kernel_rfl) (by kernel_rfl) (L_cell (row := (V4.row aI) a0) (by kernel_rfl) (by kernel_rfl) (V4.row_get _ _ (by omega)))))) (VCs.c (OpVC.p _ _ rfl rfl rfl (dt hnt rfl rfl) (Stp.pure (G := sg) _ (by kernel_rfl))) (VCs.c (OpVC.p _ _ rfl rfl rfl (dt hnt rfl rfl) (Stp.pure (G := sg) _ (P_ia_arr (nm := 1) (s := 0) (len := 4) (kk := .i64) (n := s1.2) (el := 3) (by kernel_rfl) (by kernel_rfl) (by kernel_rfl) rfl (by omega)))) (VCs.c (OpVC.p _ _ rfl rfl rfl (dt hnt rfl rfl) (Stp.pure (G := sg) _ (P_ld (nm := 1) (s := 0) (j := s1.2.toNat) (o := ⟨36, none, [(V4.row aI) a1]⟩) (by kernel_rfl) (by kernel_rfl) (L_cell (row := (V4.row aI) a1) (by kernel_rfl) (by kernel_rfl) (V4.row_get _ _ (by omega)))))) (VCs.c (OpVC.p _ _ rfl rfl rfl (dt hnt rfl rfl) (Stp.pure (G := sg) _ (by rw [← hx4]; kernel_rfl))) VCs.n))))))) ?_
      refine thenN ?_
      refine AWp.cond (t := x4) (by kernel_rfl) (fun hb => ?_) (fun hb => ?_)
      · have h := br_t hb h
        refine AWp.region ?_
        refine RW.step (d := ⟨some 17, aI s1.1, []⟩) (k := 0) rfl (dt hnt rfl rfl) (Stp.pure (G := sg) _ (by kernel_rfl)) ?_
        refine RW.step (d := ⟨some 18, aI (w64 (s1.1 + 1)), []⟩) (k := 0) rfl (dt hnt rfl rfl) (Stp.pure (G := sg) _ (by kernel_rfl)) ?_
        refine RW.step (d := ⟨some 5, aI (w64 (s1.1 + 1)), []⟩) (k := 0) rfl (dt hnt rfl rfl) (Stp.pure (G := sg) _ (by kernel_rfl)) ?_
        refine RW.nil ?_
        refine blockN ?_
        exact ⟨w64 (s1.1 + 1), [(0, 0), (1, 1)], (StV.tab (by rw [hn0]; rfl) (E_cons (a0 := .ptr 0 0 0) (by kernel_rfl) (vw_ptr rfl) (E_cons (a0 := .ptr 1 0 0) (by kernel_rfl) (vw_ptr rfl) (E_cons (a0 := aI (w64 (s1.1 + 1))) (by kernel_rfl) vw_v (E_cons (a0 := aI s1.2) (by kernel_rfl) vw_v E_nil)))) (O_cons 0 ⟨36, none, [(V4.row aI) a0]⟩ rfl (by kernel_rfl) rfl rfl (vs_cons (vwList_flat rfl) vs_nil) (O_cons 1 ⟨36, none, [(V4.row aI) a1]⟩ rfl (by kernel_rfl) rfl rfl (vs_cons (vwList_flat rfl) vs_nil) O_nil)) (by rw [hn0]; rfl)), h⟩
      · have h := br_f hb h
        refine AWp.skip ?_
        refine blockN ?_
        exact ⟨s1.1, [(0, 0), (1, 1)], (StV.tab (by rw [hn0]; rfl) (E_cons (a0 := .ptr 0 0 0) (by kernel_rfl) (vw_ptr rfl) (E_cons (a0 := .ptr 1 0 0) (by kernel_rfl) (vw_ptr rfl) (E_cons (a0 := aI s1.1) (by kernel_rfl) vw_v (E_cons (a0 := aI s1.2) (by kernel_rfl) vw_v E_nil)))) (O_cons 0 ⟨36, none, [(V4.row aI) a0]⟩ rfl (by kernel_rfl) rfl rfl (vs_cons (vwList_flat rfl) vs_nil) (O_cons 1 ⟨36, none, [(V4.row aI) a1]⟩ rfl (by kernel_rfl) rfl rfl (vs_cons (vwList_flat rfl) vs_nil) O_nil)) (by rw [hn0]; rfl)), h⟩
    · rintro st1 ⟨s3, names, hv, h⟩
      refine AWp.view _ hv ?_
      unfold F40_J2 at h
      refine AWp.region ?_
      refine RW.step (d := ⟨some 19, aI (w64 (s1.2 + 1)), []⟩) (k := 0) rfl (dt hnt rfl rfl) (Stp.pure (G := sg) _ (by kernel_rfl)) ?_
      refine RW.step (d := ⟨some 7, aI (w64 (s1.2 + 1)), []⟩) (k := 0) rfl (dt hnt rfl rfl) (Stp.pure (G := sg) _ (by kernel_rfl)) ?_
      refine RW.nil ?_
      exact ⟨ks1, by rw [hks1]; exact Nat.lt_succ_self _, (s3, w64 (s1.2 + 1)), [(0, 0), (1, 1)], (StV.tab (by rw [hn0]; rfl) (E_cons (a0 := .ptr 0 0 0) (by kernel_rfl) (vw_ptr rfl) (E_cons (a0 := .ptr 1 0 0) (by kernel_rfl) (vw_ptr rfl) (E_cons (a0 := aI s3) (by kernel_rfl) vw_v (E_cons (a0 := aI (w64 (s1.2 + 1))) (by kernel_rfl) vw_v E_nil)))) (O_cons 0 ⟨36, none, [(V4.row aI) a0]⟩ rfl (by kernel_rfl) rfl rfl (vs_cons (vwList_flat rfl) vs_nil) (O_cons 1 ⟨36, none, [(V4.row aI) a1]⟩ rfl (by kernel_rfl) rfl rfl (vs_cons (vwList_flat rfl) vs_nil) O_nil)) (by rw [hn0]; rfl)), by rw [← hfs1]; exact h⟩
  · have h := br_f hb h
    refine AWp.exit ?_
    refine thenX ?_
    refine thenX ?_
    refine blockH ?_
    refine thenN ?_
    refine AWp.seq ?_
    refine AWp.region ?_
    refine RW.step (d := ⟨some 20, aI s1.1, []⟩) (k := 0) rfl (dt hnt rfl rfl) (Stp.pure (G := sg) _ (by kernel_rfl)) ?_
    refine RW.step (d := ⟨some 4, aI s1.1, []⟩) (k := 0) rfl (dt hnt rfl rfl) (Stp.pure (G := sg) _ (by kernel_rfl)) ?_
    refine RW.nil ?_
    refine thenN ?_
    refine AWp.ret ?_
    injection h with h
    subst h
    exact ⟨[aI s1.1], _, [], _, by kernel_rfl, RetV.flat vw_v⟩

/-- loop.example/g01203/impl.CodeDistance -/
def F13_L1 (n : Nat) (a0 : (List (V4 Int))) (a1 : (List (V4 Int))) (f9 : (Int × Int) → Option (Int × Bool)) (s8 : Int × Int) : Option (Int × Bool) :=
  lt (decide (s8.2 < (a0.length : Int)) : Bool) fun x10 => br (x10) (ck (0 ≤ s8.2 ∧ s8.2 < (a0.length : Int)) (ck (0 ≤ s8.2 ∧ s8.2 < (a1.length : Int)) (ob (F40 n (gl a0 s8.2.toNat) (gl a1 s8.2.toNat)) fun (x11 : (Int)) => f9 (w64 (s8.1 + x11), w64 (s8.2 + 1))))) (some (s8.1, true))
def F13 (n : Nat) (a0 : (List (V4 Int))) (a1 : (List (V4 Int))) : Option (Int × Bool) :=
  lt (decide (27 < (a0.length : Int)) : Bool) fun x1 => ob (br (x1) (some true) (lt (!decide ((a0.length : Int) = (a1.length : Int)) : Bool) fun x3 => some x3)) fun (x2 : Bool) => ob (br (x2) (some true) (ob (F39 n a0) fun (x5 : (Bool)) => some (!x5))) fun (x4 : Bool) => ob (br (x4) (some true) (ob (F39 n a1) fun (x7 : (Bool)) => some (!x7))) fun (x6 : Bool) => br (x6) (some (0, false)) (fx (F13_L1 n a0 a1) n (0, 0))
theorem own13 : Own Try.prog 13 := ⟨_, Try.func13, rfl, by kernel_rfl⟩
theorem C13 {n : Nat} {a0 : (List (V4 Int))} {a1 : (List (V4 Int))} {r : Int × Bool} (h : F13 n a0 a1 = some r) : DCall Try.prog 13 [.ro (a0.map (V4.row aI)) false, .ro (a1.map (V4.row aI)) false] [] (.tup [aI r.1, aB r.2]) [] := by
  refine ⟨own13, VCall.enter (G := sg) Try.func13 rfl (Nat.le_of_ble_eq_true rfl) (Nat.le_of_ble_eq_true rfl) fun B hnt hn0 => ?_⟩
  unfold F13 at h
  refine AWp.seq ?_
  refine AWp.region ?_
  refine RW.step (d := ⟨some 4, aI 0, []⟩) (k := 0) rfl (dt hnt rfl rfl) (Stp.pure (G := sg) _ (by kernel_rfl)) ?_
  refine RW.step (d := ⟨some 5, aB false, []⟩) (k := 0) rfl (dt hnt rfl rfl) (Stp.pure (G := sg) _ (by kernel_rfl)) ?_
  refine RW.nil ?_
  refine thenN ?_
  refine AWp.seq ?_
  refine AWp.seq ?_
  refine AWp.region ?_
  refine RW.step (d := ⟨some 9, .ro (a0.map (V4.row aI)) false, []⟩) (k := 0) rfl (dt hnt rfl rfl) (Stp.pure (G := sg) _ (by kernel_rfl)) ?_
  refine RW.step (d := ⟨some 10, aI (a0.length : Int), []⟩) (k := 0) rfl (dt hnt rfl rfl) (Stp.pure (G := sg) _ (P_len_ro (l := a0) (r := (V4.row aI)) (full := false) (el := 36) (by kernel_rfl) (by kernel_rfl))) ?_
  obtain ⟨x1, hx1, h⟩ := lt_inv h
  refine RW.step (d := ⟨some 11, aB x1, []⟩) (k := 0) rfl (dt hnt rfl rfl) (Stp.pure (G := sg) _ (by rw [← hx1]; kernel_rfl)) ?_
  refine RW.step (d := ⟨some 12, aB x1, []⟩) (k := 0) rfl (dt hnt rfl rfl) (Stp.pure (G := sg) _ (by kernel_rfl)) ?_
  obtain ⟨x2, hx2, h⟩ := ob_inv h
  refine RW.mid 6 (fun st' => ∃ names, StV B.n0 st' (tabN names) ⟨tabE [(0, .ro (a0.map (V4.row aI)) false), (1, .ro (a1.map (V4.row aI)) false), (18, aB x2)], tabO [], 0⟩) ?_ ?_
  · rcases Bool.eq_false_or_eq_true (x1) with hb1 | hb1
    · have hx2 := br_t hb1 hx2
      refine RW.gf rfl rfl (by rw [hnt]; rfl) (b := x1) (by kernel_rfl) hb1 (dt hnt rfl rfl) ?_
      refine RW.gf rfl rfl (by rw [hnt]; rfl) (b := x1) (by kernel_rfl) hb1 (dt hnt rfl rfl) ?_
      refine RW.gf rfl rfl (by rw [hnt]; rfl) (b := x1) (by kernel_rfl) hb1 (dt hnt rfl rfl) ?_
      refine RW.gf rfl rfl (by rw [hnt]; rfl) (b := x1) (by kernel_rfl) hb1 (dt hnt rfl rfl) ?_
      refine RW.gf rfl rfl (by rw [hnt]; rfl) (b := x1) (by kernel_rfl) hb1 (dt hnt rfl rfl) ?_
      refine RW.step (d := ⟨some 18, aB true, []⟩) (k := 0) rfl (dt hnt rfl rfl) (Stp.pure (G := sg) _ (P_pick_t (t := x1) (by kernel_rfl) hb1 (by kernel_rfl))) ?_
      injection hx2 with hx2
      subst hx2
      exact RW.nil (thenN ⟨[], (StV.tab (by rw [hn0]; rfl) (E_cons (a0 := .ro (a0.map (V4.row aI)) false) (by kernel_rfl) (vw_ro (fun h => h) (vwSegs_map (fun _ => rfl) _)) (E_cons (a0 := .ro (a1.map (V4.row aI)) false) (by kernel_rfl) (vw_ro (fun h => h) (vwSegs_map (fun _ => rfl) _)) (E_cons (a0 := aB true) (by kernel_rfl) vw_v E_nil))) O_nil (by rw [hn0]; rfl))⟩)
    · have hx2 := br_f hb1 hx2
      refine RW.gt (d := ⟨some 13, .ro (a0.map (V4.row aI)) false, []⟩) (k := 0) rfl rfl (by rw [hnt]; rfl) (b := x1) (by kernel_rfl) hb1 (dt hnt rfl rfl) (Stp.pure (G := sg) _ (by kernel_rfl)) ?_
      refine RW.gt (d := ⟨some 14, aI (a0.length : Int), []⟩) (k := 0) rfl rfl (by rw [hnt]; rfl) (b := x1) (by kernel_rfl) hb1 (dt hnt rfl rfl) (Stp.pure (G := sg) _ (P_len_ro (l := a0) (r := (V4.row aI)) (full := false) (el := 36) (by kernel_rfl) (by kernel_rfl))) ?_
      refine RW.gt (d := ⟨some 15, .ro (a1.map (V4.row aI)) false, []⟩) (k := 0) rfl rfl (by rw [hnt]; rfl) (b := x1) (by kernel_rfl) hb1 (dt hnt rfl rfl) (Stp.pure (G := sg) _ (by kernel_rfl)) ?_
      refine RW.gt (d := ⟨some 16, aI (a1.length : Int), []⟩) (k := 0) rfl rfl (by rw [hnt]; rfl) (b := x1) (by kernel_rfl) hb1 (dt hnt rfl rfl) (Stp.pure (G := sg) _ (P_len_ro (l := a1) (r := (V4.row aI)) (full := false) (el := 36) (by kernel_rfl) (by kernel_rfl))) ?_
      obtain ⟨x3, hx3, hx2⟩ := lt_inv hx2
      refine RW.gt (d := ⟨some 17, aB x3, []⟩) (k := 0) rfl rfl (by rw [hnt]; rfl) (b := x1) (by kernel_rfl) hb1 (dt hnt rfl rfl) (Stp.pure (G := sg) _ (by rw [← hx3]; kernel_rfl)) ?_
      refine RW.step (d := ⟨some 18, aB x3, []⟩) (k := 0) rfl (dt hnt rfl rfl) (Stp.pure (G := sg) _ (P_pick_f (t := x1) (by kernel_rfl) hb1 (by kernel_rfl))) ?_
      injection hx2 with hx2
      subst hx2
      exact RW.nil (thenN ⟨[], (StV.tab (by rw [hn0]; rfl) (E_cons (a0 := .ro (a0.map (V4.row aI)) false) (by kernel_rfl) (vw_ro (fun h => h) (vwSegs_map (fun _ => rfl) _)) (E_cons (a0 := .ro (a1.map (V4.row aI)) false) (by kernel_rfl) (vw_ro (fun h => h) (vwSegs_map (fun _ => rfl) _)) (E_cons (a0 := aB x3) (by kernel_rfl) vw_v E_nil))) O_nil (by rw [hn0]; rfl))⟩)
  · rintro st2 ⟨names, hv⟩
    refine RW.weak _ hv ?_
    refine RW.step (d := ⟨some 19, aB x2, []⟩) (k := 0) rfl (dt hnt rfl rfl) (Stp.pure (G := sg) _ (by kernel_rfl)) ?_
    obtain ⟨x4, hx4, h⟩ := ob_inv h
    refine RW.mid 4 (fun st' => ∃ names, StV B.n0 st' (tabN names) ⟨tabE [(0, .ro (a0.map (V4.row aI)) false), (1, .ro (a1.map (V4.row aI)) false), (23, aB x4)], tabO [], 0⟩) ?_ ?_
    · rcases Bool.eq_false_or_eq_true (x2) with hb1 | hb1
      · have hx4 := br_t hb1 hx4
        refine RW.gf rfl rfl (by rw [hnt]; rfl) (b := x2) (by kernel_rfl) hb1 (dt hnt rfl rfl) ?_
        refine RW.gf rfl rfl (by rw [hnt]; rfl) (b := x2) (by kernel_rfl) hb1 (dt hnt rfl rfl) ?_
        refine RW.gf rfl rfl (by rw [hnt]; rfl) (b := x2) (by kernel_rfl) hb1 (dt hnt rfl rfl) ?_
        refine RW.step (d := ⟨some 23, aB true, []⟩) (k := 0) rfl (dt hnt rfl rfl) (Stp.pure (G := sg) _ (P_pick_t (t := x2) (by kernel_rfl) hb1 (by kernel_rfl))) ?_
        injection hx4 with hx4
        subst hx4
        exact RW.nil (thenN ⟨[], (StV.tab (by rw [hn0]; rfl) (E_cons (a0 := .ro (a0.map (V4.row aI)) false) (by kernel_rfl) (vw_ro (fun h => h) (vwSegs_map (fun _ => rfl) _)) (E_cons (a0 := .ro (a1.map (V4.row aI)) false) (by kernel_rfl) (vw_ro (fun h => h) (vwSegs_map (fun _ => rfl) _)) (E_cons (a0 := aB true) (by kernel_rfl) vw_v E_nil))) O_nil (by rw [hn0]; rfl))⟩)
      · have hx4 := br_f hb1 hx4
        refine RW.gt (d := ⟨some 20, .ro (a0.map (V4.row aI)) false, []⟩) (k := 0) rfl rfl (by rw [hnt]; rfl) (b := x2) (by kernel_rfl) hb1 (dt hnt rfl rfl) (Stp.pure (G := sg) _ (by kernel_rfl)) ?_
        obtain ⟨x5, hx5, hx4⟩ := ob_inv hx4
        refine RW.gt (d := ⟨some 21, aB x5, []⟩) (k := 0) rfl rfl (by rw [hnt]; rfl) (b := x2) (by kernel_rfl) hb1 (dt hnt rfl rfl) (Stp.call0 _ rfl (k := 39) (caps := []) (by kernel_rfl) (C39 hx5) (vl_cons (vw_ro (fun h => h) (vwSegs_map (fun _ => rfl) _)) vl_nil) vw_v) ?_
        refine RW.gt (d := ⟨some 22, aB (!x5), []⟩) (k := 0) rfl rfl (by rw [hnt]; rfl) (b := x2) (by kernel_rfl) hb1 (dt hnt rfl rfl) (Stp.pure (G := sg) _ (by kernel_rfl)) ?_
        refine RW.step (d := ⟨some 23, aB (!x5), []⟩) (k := 0) rfl (dt hnt rfl rfl) (Stp.pure (G := sg) _ (P_pick_f (t := x2) (by kernel_rfl) hb1 (by kernel_rfl))) ?_
        injection hx4 with hx4
        subst hx4
        exact RW.nil (thenN ⟨[], (StV.tab (by rw [hn0]; rfl) (E_cons (a0 := .ro (a0.map (V4.row aI)) false) (by kernel_rfl) (vw_ro (fun h => h) (vwSegs_map (fun _ => rfl) _)) (E_cons (a0 := .ro (a1.map (V4.row aI)) false) (by kernel_rfl) (vw_ro (fun h => h) (vwSegs_map (fun _ => rfl) _)) (E_cons (a0 := aB (!x5)) (by kernel_rfl) vw_v E_nil))) O_nil (by rw [hn0]; rfl))⟩)
    · rintro st2 ⟨names, hv⟩
      refine RW.weak _ hv ?_
      refine RW.step (d := ⟨some 24, aB x4, []⟩) (k := 0) rfl (dt hnt rfl rfl) (Stp.pure (G := sg) _ (by kernel_rfl)) ?_
      obtain ⟨x6, hx6, h⟩ := ob_inv h
      refine RW.mid 4 (fun st' => ∃ names, StV B.n0 st' (tabN names) ⟨tabE [(0, .ro (a0.map (V4.row aI)) false), (1, .ro (a1.map (V4.row aI)) false), (28, aB x6)], tabO [], 0⟩) ?_ ?_
      · rcases Bool.eq_false_or_eq_true (x4) with hb1 | hb1
        · have hx6 := br_t hb1 hx6
          refine RW.gf rfl rfl (by rw [hnt]; rfl) (b := x4) (by kernel_rfl) hb1 (dt hnt rfl rfl) ?_
          refine RW.gf rfl rfl (by rw [hnt]; rfl) (b := x4) (by kernel_rfl) hb1 (dt hnt rfl rfl) ?_
          refine RW.gf rfl rfl (by rw [hnt]; rfl) (b := x4) (by kernel_rfl) hb1 (dt hnt rfl rfl) ?_
          refine RW.step (d := ⟨some 28, aB true, []⟩) (k := 0) rfl (dt hnt rfl rfl) (Stp.pure (G := sg) _ (P_pick_t (t := x4) (by kernel_rfl) hb1 (by kernel_rfl))) ?_
          injection hx6 with hx6
          subst hx6
          exact RW.nil (thenN ⟨[], (StV.tab (by rw [hn0]; rfl) (E_cons (a0 := .ro (a0.map (V4.row aI)) false) (by kernel_rfl) (vw_ro (fun h => h) (vwSegs_map (fun _ => rfl) _)) (E_cons (a0 := .ro (a1.map (V4.row aI)) false) (by kernel_rfl) (vw_ro (fun h => h) (vwSegs_map (fun _ => rfl) _)) (E_cons (a0 := aB true) (by kernel_rfl) vw_v E_nil))) O_nil (by rw [hn0]; rfl))⟩)
        · have hx6 := br_f hb1 hx6
          refine RW.gt (d := ⟨some 25, .ro (a1.map (V4.row aI)) false, []⟩) (k := 0) rfl rfl (by rw [hnt]; rfl) (b := x4) (by kernel_rfl) hb1 (dt hnt rfl rfl) (Stp.pure (G := sg) _ (by kernel_rfl)) ?_
          obtain ⟨x7, hx7, hx6⟩ := ob_inv hx6
          refine RW.gt (d := ⟨some 26, aB x7, []⟩) (k := 0) rfl rfl (by rw [hnt]; rfl) (b := x4) (by kernel_rfl) hb1 (dt hnt rfl rfl) (Stp.call0 _ rfl (k := 39) (caps := []) (by kernel_rfl) (C39 hx7) (vl_cons (vw_ro (fun h => h) (vwSegs_map (fun _ => rfl) _)) vl_nil) vw_v) ?_
          refine RW.gt (d := ⟨some 27, aB (!x7), []⟩) (k := 0) rfl rfl (by rw [hnt]; rfl) (b := x4) (by kernel_rfl) hb1 (dt hnt rfl rfl) (Stp.pure (G := sg) _ (by kernel_rfl)) ?_
          refine RW.step (d := ⟨some 28, aB (!x7), []⟩) (k := 0) rfl (dt hnt rfl rfl) (Stp.pure (G := sg) _ (P_pick_f (t := x4) (by kernel_rfl) hb1 (by kernel_rfl))) ?_
          injection hx6 with hx6
          subst hx6
          exact RW.nil (thenN ⟨[], (StV.tab (by rw [hn0]; rfl) (E_cons (a0 := .ro (a0.map (V4.row aI)) false) (by kernel_rfl) (vw_ro (fun h => h) (vwSegs_map (fun _ => rfl) _)) (E_cons (a0 := .ro (a1.map (V4.row aI)) false) (by kernel_rfl) (vw_ro (fun h => h) (vwSegs_map (fun _ => rfl) _)) (E_cons (a0 := aB (!x7)) (by kernel_rfl) vw_v E_nil))) O_nil (by rw [hn0]; rfl))⟩)
      · rintro st2 ⟨names, hv⟩
        refine RW.weak _ hv ?_
        refine RW.nil ?_
        refine thenN ?_
        refine AWp.cond (t := x6) (by kernel_rfl) (fun hb => ?_) (fun hb => ?_)
        · have h := br_t hb h
          refine AWp.seq ?_
          refine AWp.region ?_
          refine RW.step (d := ⟨some 4, aI 0, []⟩) (k := 0) rfl (dt hnt rfl rfl) (Stp.pure (G := sg) _ (by kernel_rfl)) ?_
          refine RW.step (d := ⟨some 5, aB false, []⟩) (k := 0) rfl (dt hnt rfl rfl) (Stp.pure (G := sg) _ (by kernel_rfl)) ?_
          refine RW.nil ?_
          refine thenN ?_
          refine AWp.ret ?_
          refine thenR ?_
          injection h with h
          subst h
          exact ⟨[aI 0, aB false], _, [], _, by kernel_rfl, RetV.flat (vw_tup (vl_cons vw_v (vl_cons vw_v vl_nil)))⟩
        · have h := br_f hb h
          refine AWp.skip ?_
          refine thenN ?_
          refine AWp.seq ?_
          refine AWp.region ?_
          refine RW.step (d := ⟨some 6, aI 0, []⟩) (k := 0) rfl (dt hnt rfl rfl) (Stp.pure (G := sg) _ (by kernel_rfl)) ?_
          refine RW.nil ?_
          refine thenN ?_
          refine AWp.seq ?_
          refine AWp.seq ?_
          refine AWp.region ?_
          refine RW.step (d := ⟨some 29, .ro (a0.map (V4.row aI)) false, []⟩) (k := 0) rfl (dt hnt rfl rfl) (Stp.pure (G := sg) _ (by kernel_rfl)) ?_
          refine RW.step (d := ⟨some 30, aI (a0.length : Int), []⟩) (k := 0) rfl (dt hnt rfl rfl) (Stp.pure (G := sg) _ (P_len_ro (l := a0) (r := (V4.row aI)) (full := false) (el := 36) (by kernel_rfl) (by kernel_rfl))) ?_
          refine RW.step (d := ⟨some 31, aI 0, []⟩) (k := 0) rfl (dt hnt rfl rfl) (Stp.pure (G := sg) _ (by kernel_rfl)) ?_
          refine RW.nil ?_
          refine thenN ?_
          refine AWp.block ?_
          refine AWp.loop (fun i st' => ∃ (s8 : Int × Int) (names : List (Nat × Nat)), StV B.n0 st' (tabN names) ⟨tabE [(1, .ro (a1.map (V4.row aI)) false), (6, aI s8.1), (29, .ro (a0.map (V4.row aI)) false), (30, aI (a0.length : Int)), (31, aI s8.2)], tabO [], 0⟩ ∧ fx (F13_L1 n a0 a1) i s8 = some r) n ⟨(0, 0), [], (StV.tab (by rw [hn0]; rfl) (E_cons (a0 := .ro (a1.map (V4.row aI)) false) (by kernel_rfl) (vw_ro (fun h => h) (vwSegs_map (fun _ => rfl) _)) (E_cons (a0 := aI 0) (by kernel_rfl) vw_v (E_cons (a0 := .ro (a0.map (V4.row aI)) false) (by kernel_rfl) (vw_ro (fun h => h) (vwSegs_map (fun _ => rfl) _)) (E_cons (a0 := aI (a0.length : Int)) (by kernel_rfl) vw_v (E_cons (a0 := aI 0) (by kernel_rfl) vw_v E_nil))))) O_nil (by rw [hn0]; rfl)), h⟩ ?_
          rintro is8 st1 ⟨s8, names, hv, h⟩
          obtain ⟨ks8, f9, hks8, hfs8, h⟩ := fx_inv h
          refine AWp.view _ hv ?_
          unfold F13_L1 at h
          refine AWp.seq ?_
          refine AWp.region ?_
          obtain ⟨x10, hx10, h⟩ := lt_inv h
          refine RW.step (d := ⟨some 32, aB x10, []⟩) (k := 0) rfl (dt hnt rfl rfl) (Stp.pure (G := sg) _ (by rw [← hx10]; kernel_rfl)) ?_
          refine RW.nil ?_
          refine thenN ?_
          refine AWp.seq ?_
          refine AWp.cond (t := x10) (by kernel_rfl) (fun hb => ?_) (fun hb => ?_)
          · have h := br_t hb h
            refine AWp.skip ?_
            refine thenN ?_
            refine AWp.seq ?_
            refine AWp.block ?_
            refine AWp.seq ?_
            refine AWp.region ?_
            refine RW.step (d := ⟨some 33, aI s8.2, []⟩) (k := 0) rfl (dt hnt rfl rfl) (Stp.pure (G := sg) _ (by kernel_rfl)) ?_
            obtain ⟨hc11, h⟩ := ck_inv h
            refine RW.step (d := ⟨some 34, .rp (a0.map (V4.row aI)) s8.2.toNat 0, []⟩) (k := 0) rfl (dt hnt rfl rfl) (Stp.pure (G := sg) _ (P_ia_ro (l := a0) (r := (V4.row aI)) (full := false) (kk := .i64) (n := s8.2) (el := 36) (by kernel_rfl) (by kernel_rfl) (by kernel_rfl) (fun _ => rfl) rfl hc11)) ?_
            refine RW.step (d := ⟨some 35, .agg [(V4.row aI) (gl a0 s8.2.toNat)], []⟩) (k := 0) rfl (dt hnt rfl rfl) (Stp.pure (G := sg) _ (P_ld_rp (segs := (a0.map (V4.row aI))) (s := s8.2.toNat) (j := 0) (by kernel_rfl) (L_row (by kernel_rfl) (by first | omega | (simp; omega))))) ?_
            refine RW.step (d := ⟨some 8, .ptr 0 0 0, [(0, some ⟨36, none, [(V4.row aI) (⟨0, 0, 0, 0⟩ : (V4 Int))]⟩)]⟩) (k := 1) rfl (dt hnt rfl rfl) (Stp.new (G := sg) (by kernel_rfl)) ?_
            refine RW.step (d := ⟨some 7, aI s8.2, []⟩) (k := 0) rfl (dt hnt rfl rfl) (Stp.pure (G := sg) _ (by kernel_rfl)) ?_
            refine RW.step (d := ⟨none, .any, [(0, some ⟨36, none, [(V4.row aI) (gl a0 s8.2.toNat)]⟩)]⟩) (k := 0) rfl (dn rfl) (Stp.store (G := sg) _ rfl (by kernel_rfl)) ?_
            refine RW.nil ?_
            refine thenN ?_
            obtain ⟨hc12, h⟩ := ck_inv h
            obtain ⟨x11, hx11, h⟩ := ob_inv h
            refine AWp.drw (G := sg) [⟨⟨some 36, aI s8.1, []⟩, 0⟩, ⟨⟨some 37, .agg [(V4.row aI) (gl a0 s8.2.toNat)], []⟩, 0⟩, ⟨⟨some 38, .ro (a1.map (V4.row aI)) false, []⟩, 0⟩, ⟨⟨some 39, aI s8.2, []⟩, 0⟩, ⟨⟨some 40, .rp (a1.map (V4.row aI)) s8.2.toNat 0, []⟩, 0⟩, ⟨⟨some 41, .agg [(V4.row aI) (gl a1 s8.2.toNat)], []⟩, 0⟩, ⟨⟨some 42, aI x11, []⟩, 0⟩, ⟨⟨some 43, aI (w64 (s8.1 + x11)), []⟩, 0⟩, ⟨⟨some 6, aI (w64 (s8.1 + x11)), []⟩, 0⟩] (by kernel_rfl) (VCs.c (OpVC.p _ _ rfl rfl rfl (dt hnt rfl rfl) (Stp.pure (G := sg) _ (by kernel_rfl))) (VCs.c (OpVC.p _ _ rfl rfl rfl (dt hnt rfl rfl) (Stp.pure (G := sg) _ (by kernel_rfl))) (VCs.c (OpVC.p _ _ rfl rfl rfl (dt hnt rfl rfl) (Stp.pure (G := sg) _ (by kernel_rfl))) (VCs.c (OpVC.p _ _ rfl rfl rfl (dt hnt rfl rfl) (Stp.pure (G := sg) _ (by kernel_rfl))) (VCs.c (OpVC.p _ _ rfl rfl rfl (dt hnt rfl rfl) (Stp.pure (G := sg) _ (P_ia_ro (l := a1) (r := (V4.row aI)) (full := false) (kk := .i64) (n := s8.2) (el := 36) (by kernel_rfl) (by kernel_rfl) (by kernel_rfl) (fun _ => rfl) rfl hc12))) (VCs.c (OpVC.p _ _ rfl rfl rfl (dt hnt rfl rfl) (Stp.pure (G := sg) _ (P_ld_rp (segs := (a1.map (V4.row aI))) (s := s8.2.toNat) (j := 0) (by kernel_rfl) (L_row (by kernel_rfl) (by first | omega | (simp; omega)))))) (VCs.c (OpVC.p _ _ rfl rfl rfl (dt hnt rfl rfl) (Stp.call0 _ rfl (k := 40) (caps := []) (by kernel_rfl) (C40 hx11) (vl_cons (vw_agg (vs_cons (vwList_flat rfl) vs_nil)) (vl_cons (vw_agg (vs_cons (vwList_flat rfl) vs_nil)) vl_nil)) vw_v)) (VCs.c (OpVC.p _ _ rfl rfl rfl (dt hnt rfl rfl) (Stp.pure (G := sg) _ (by kernel_rfl))) (VCs.c (OpVC.p _ _ rfl rfl rfl (dt hnt rfl rfl) (Stp.pure (G := sg) _ (by kernel_rfl))) VCs.n))))))))) ?_
            refine blockN ?_
            refine thenN ?_
            refine AWp.region ?_
            refine RW.step (d := ⟨some 44, aI (w64 (s8.2 + 1)), []⟩) (k := 0) rfl (dt hnt rfl rfl) (Stp.pure (G := sg) _ (by kernel_rfl)) ?_
            refine RW.step (d := ⟨some 31, aI (w64 (s8.2 + 1)), []⟩) (k := 0) rfl (dt hnt rfl rfl) (Stp.pure (G := sg) _ (by kernel_rfl)) ?_
            refine RW.nil ?_
            exact ⟨ks8, by rw [hks8]; exact Nat.lt_succ_self _, (w64 (s8.1 + x11), w64 (s8.2 + 1)), [], (StV.tab (by rw [hn0]; rfl) (E_cons (a0 := .ro (a1.map (V4.row aI)) false) (by kernel_rfl) (vw_ro (fun h => h) (vwSegs_map (fun _ => rfl) _)) (E_cons (a0 := aI (w64 (s8.1 + x11))) (by kernel_rfl) vw_v (E_cons (a0 := .ro (a0.map (V4.row aI)) false) (by kernel_rfl) (vw_ro (fun h => h) (vwSegs_map (fun _ => rfl) _)) (E_cons (a0 := aI (a0.length : Int)) (by kernel_rfl) vw_v (E_cons (a0 := aI (w64 (s8.2 + 1))) (by kernel_rfl) vw_v E_nil))))) O_nil (by rw [hn0]; rfl)), by rw [← hfs8]; exact h⟩
          · have h := br_f hb h
            refine AWp.exit ?_
            refine thenX ?_
            refine thenX ?_
            refine blockH ?_
            refine thenN ?_
            refine AWp.seq ?_
            refine AWp.region ?_
            refine RW.step (d := ⟨some 45, aI s8.1, []⟩) (k := 0) rfl (dt hnt rfl rfl) (Stp.pure (G := sg) _ (by kernel_rfl)) ?_
            refine RW.step (d := ⟨some 4, aI s8.1, []⟩) (k := 0) rfl (dt hnt rfl rfl) (Stp.pure (G := sg) _ (by kernel_rfl)) ?_
            refine RW.step (d := ⟨some 5, aB true, []⟩) (k := 0) rfl (dt hnt rfl rfl) (Stp.pure (G := sg) _ (by kernel_rfl)) ?_
            refine RW.nil ?_
            refine thenN ?_
            refine AWp.ret ?_
            injection h with h
            subst h
            exact ⟨[aI s8.1, aB true], _, [], _, by kernel_rfl, RetV.flat (vw_tup (vl_cons vw_v (vl_cons vw_v vl_nil)))⟩

/-- loop.example/g01203/laws.eqIntA4 -/
def F29_L1 (n : Nat) (a0 : (V4 Int)) (a1 : (V4 Int)) (f2 : Int → Option (Bool)) (s1 : Int) : Option (Bool) :=
  br (decide (s1 < 4)) (ck (0 ≤ s1 ∧ s1 < 4) (ck (0 ≤ s1 ∧ s1 < 4) (lt (!decide ((V4.get a0 s1.toNat) = (V4.get a1 s1.toNat)) : Bool) fun x3 => br (x3) (some false) (f2 (w64 (s1 + 1)))))) (some true)
def F29 (n : Nat) (a0 : (V4 Int)) (a1 : (V4 Int)) : Option (Bool) :=
  fx (F29_L1 n a0 a1) n 0
theorem own29 : Own Try.prog 29 := ⟨_, Try.func29, rfl, by kernel_rfl⟩
theorem C29 {n : Nat} {a0 : (V4 Int)} {a1 : (V4 Int)} {r : Bool} (h : F29 n a0 a1 = some r) : DCall Try.prog 29 [.agg [(V4.row aI) a0], .agg [(V4.row aI) a1]] [] (aB r) [] := by
  refine ⟨own29, VCall.enter (G := sg) Try.func29 rfl (Nat.le_of_ble_eq_true rfl) (Nat.le_of_ble_eq_true rfl) fun B hnt hn0 => ?_⟩
  unfold F29 at h
  refine AWp.seq ?_
  refine AWp.region ?_
  refine RW.step (d := ⟨some 2, .ptr 0 0 0, [(0, some ⟨36, none, [(V4.row aI) a0]⟩)]⟩) (k := 1) rfl (dt hnt rfl rfl) (Stp.new (G := sg) (by kernel_rfl)) ?_
  refine RW.step (d := ⟨some 3, .ptr 1 0 0, [(1, some ⟨36, none, [(V4.row aI) a1]⟩)]⟩) (k := 1) rfl (dt hnt rfl rfl) (Stp.new (G := sg) (by kernel_rfl)) ?_
  refine RW.step (d := ⟨some 4, aB false, []⟩) (k := 0) rfl (dt hnt rfl rfl) (Stp.pure (G := sg) _ (by kernel_rfl)) ?_
  refine RW.nil ?_
  refine thenN ?_
  refine AWp.seq ?_
  refine AWp.seq ?_
  refine AWp.region ?_
  refine RW.step (d := ⟨some 5, aI 0, []⟩) (k := 0) rfl (dt hnt rfl rfl) (Stp.pure (G := sg) _ (by kernel_rfl)) ?_
  refine RW.nil ?_
  refine thenN ?_
  refine AWp.block ?_
  refine AWp.loop (fun i st' => ∃ (s1 : Int) (names : List (Nat × Nat)), StV B.n0 st' (tabN names) ⟨tabE [(2, .ptr 0 0 0), (3, .ptr 1 0 0), (5, aI s1)], tabO [(0, ⟨36, none, [(V4.row aI) a0]⟩), (1, ⟨36, none, [(V4.row aI) a1]⟩)], 2⟩ ∧ fx (F29_L1 n a0 a1) i s1 = some r) n ⟨0, [(0, 0), (1, 1)], (StV.tab (by rw [hn0]; rfl) (E_cons (a0 := .ptr 0 0 0) (by kernel_rfl) (vw_ptr rfl) (E_cons (a0 := .ptr 1 0 0) (by kernel_rfl) (vw_ptr rfl) (E_cons (a0 := aI 0) (by kernel_rfl) vw_v E_nil))) (O_cons 0 ⟨36, none, [(V4.row aI) a0]⟩ rfl (by kernel_rfl) rfl rfl (vs_cons (vwList_flat rfl) vs_nil) (O_cons 1 ⟨36, none, [(V4.row aI) a1]⟩ rfl (by kernel_rfl) rfl rfl (vs_cons (vwList_flat rfl) vs_nil) O_nil)) (by rw [hn0]; rfl)), h⟩ ?_
  rintro is1 st1 ⟨s1, names, hv, h⟩
  obtain ⟨ks1, f2, hks1, hfs1, h⟩ := fx_inv h
  refine AWp.view _ hv ?_
  unfold F29_L1 at h
  refine AWp.seq ?_
  refine AWp.seq ?_
  refine AWp.region ?_
  refine RW.step (d := ⟨some 6, aI s1, []⟩) (k := 0) rfl (dt hnt rfl rfl) (Stp.pure (G := sg) _ (by kernel_rfl)) ?_
  refine RW.step (d := ⟨some 7, aB (decide (s1 < 4)), []⟩) (k := 0) rfl (dt hnt rfl rfl) (Stp.pure (G := sg) _ (by kernel_rfl)) ?_
  refine RW.nil ?_
  refine thenN ?_
  refine AWp.cond (t := decide (s1 < 4)) (by kernel_rfl) (fun hb => ?_) (fun hb => ?_)
  · have h := br_t hb h
    refine AWp.skip ?_
    refine thenN ?_
    refine AWp.seq ?_
    refine AWp.block ?_
    refine AWp.seq ?_
    obtain ⟨hc11, h⟩ := ck_inv h
    obtain ⟨hc12, h⟩ := ck_inv h
    obtain ⟨x3, hx3, h⟩ := lt_inv h
    refine AWp.drw (G := sg) [⟨⟨some 10, aI s1, []⟩, 0⟩, ⟨⟨some 11, .ptr 0 0 s1.toNat, []⟩, 0⟩, ⟨⟨some 12, aI (V4.get a0 s1.toNat), []⟩, 0⟩, ⟨⟨some 13, aI s1, []⟩, 0⟩, ⟨⟨some 14, .ptr 1 0 s1.toNat, []⟩, 0⟩, ⟨⟨some 15, aI (V4.get a1 s1.toNat), []⟩, 0⟩, ⟨⟨some 16, aB x3, []⟩, 0⟩] (by kernel_rfl) (VCs.c (OpVC.p _ _ rfl rfl rfl (dt hnt rfl rfl) (Stp.pure (G := sg) _ (by kernel_rfl))) (VCs.c (OpVC.p _ _ rfl rfl rfl (dt hnt rfl rfl) (Stp.pure (G := sg) _ (P_ia_arr (nm := 0) (s := 0) (len := 4) (kk := .i64) (n := s1) (el := 3) (by kernel_rfl) (by kernel_rfl) (by kernel_rfl) rfl (by omega)))) (VCs.c (OpVC.p _ _ rfl rfl rfl (dt hnt rfl rfl) (Stp.pure (G := sg) _ (P_ld (nm := 0) (s := 0) (j := s1.toNat) (o := ⟨36, none, [(V4.row aI) a0]⟩) (by kernel_rfl) (by kernel_rfl) (L_cell (row := (V4.row aI) a0) (by kernel_rfl) (by kernel_rfl) (V4.row_get _ _ (by omega)))))) (VCs.c (OpVC.p _ _ rfl rfl rfl (dt hnt rfl rfl) (Stp.pure (G := sg) _ (by kernel_rfl))) (VCs.c (OpVC.p _ _ rfl rfl rfl (dt hnt rfl rfl) (Stp.pure (G := sg) _ (P_ia_arr (nm := 1) (s := 0) (len := 4) (kk := .i64) (n := s1) (el := 3) (by kernel_rfl) (by kernel_rfl) (by kernel_rfl) rfl (by omega)))) (VCs.c (OpVC.p _ _ rfl rfl rfl (dt hnt rfl rfl) (Stp.pure (G := sg) _ (P_ld (nm := 1) (s := 0) (j := s1.toNat) (o := ⟨36, none, [(V4.row aI) a1]⟩) (by kernel_rfl) (by kernel_rfl) (L_cell (row := (V4.row aI) a1) (by kernel_rfl) (by kernel_rfl) (V4.row_get _ _ (by omega)))))) (VCs.c (OpVC.p _ _ rfl rfl rfl (dt hnt rfl rfl) (Stp.pure (G := sg) _ (by rw [← hx3]; kernel_rfl))) VCs.n))))))) ?_
    refine thenN ?_
    refine AWp.cond (t := x3) (by kernel_rfl) (fun hb => ?_) (fun hb => ?_)
    · have h := br_t hb h
      refine AWp.seq ?_
      refine AWp.region ?_
      refine RW.step (d := ⟨some 4, aB false, []⟩) (k := 0) rfl (dt hnt rfl rfl) (Stp.pure (G := sg) _ (by kernel_rfl)) ?_
      refine RW.nil ?_
      refine thenN ?_
      refine AWp.ret ?_
      refine blockR ?_
      refine thenR ?_
      refine thenR ?_
      refine blockR ?_
      refine thenR ?_
      injection h with h
      subst h
      exact ⟨[aB false], _, [], _, by kernel_rfl, RetV.flat vw_v⟩
    · have h := br_f hb h
      refine AWp.skip ?_
      refine blockN ?_
      refine thenN ?_
      refine AWp.region ?_
      refine RW.step (d := ⟨some 8, aI s1, []⟩) (k := 0) rfl (dt hnt rfl rfl) (Stp.pure (G := sg) _ (by kernel_rfl)) ?_
      refine RW.step (d := ⟨some 9, aI (w64 (s1 + 1)), []⟩) (k := 0) rfl (dt hnt rfl rfl) (Stp.pure (G := sg) _ (by kernel_rfl)) ?_
      refine RW.step (d := ⟨some 5, aI (w64 (s1 + 1)), []⟩) (k := 0) rfl (dt hnt rfl rfl) (Stp.pure (G := sg) _ (by kernel_rfl)) ?_
      refine RW.nil ?_
      exact ⟨ks1, by rw [hks1]; exact Nat.lt_succ_self _, w64 (s1 + 1), [(0, 0), (1, 1)], (StV.tab (by rw [hn0]; rfl) (E_cons (a0 := .ptr 0 0 0) (by kernel_rfl) (vw_ptr rfl) (E_cons (a0 := .ptr 1 0 0) (by kernel_rfl) (vw_ptr rfl) (E_cons (a0 := aI (w64 (s1 + 1))) (by kernel_rfl) vw_v E_nil))) (O_cons 0 ⟨36, none, [(V4.row aI) a0]⟩ rfl (by kernel_rfl) rfl rfl (vs_cons (vwList_flat rfl) vs_nil) (O_cons 1 ⟨36, none, [(V4.row aI) a1]⟩ rfl (by kernel_rfl) rfl rfl (vs_cons (vwList_flat rfl) vs_nil) O_nil)) (by rw [hn0]; rfl)), by rw [← hfs1]; exact h⟩
  · have h := br_f hb h
    refine AWp.exit ?_
    refine thenX ?_
    refine thenX ?_
    refine blockH ?_
    refine thenN ?_
    refine AWp.seq ?_
    refine AWp.region ?_
    refine RW.step (d := ⟨some 4, aB true, []⟩) (k := 0) rfl (dt hnt rfl rfl) (Stp.pure (G := sg) _ (by kernel_rfl)) ?_
    refine RW.nil ?_
    refine thenN ?_
    refine AWp.ret ?_
    injection h with h
    subst h
    exact ⟨[aB true], _, [], _, by kernel_rfl, RetV.flat vw_v⟩

/-- loop.example/g01203/laws.eqIntA4S -/
def F14_L1 (n : Nat) (a0 : (List (V4 Int))) (a1 : (List (V4 Int))) (f3 : Int → Option (Bool)) (s2 : Int) : Option (Bool) :=
  lt (decide (s2 < (a0.length : Int)) : Bool) fun x4 => br (x4) (ck (0 ≤ s2 ∧ s2 < (a0.length : Int)) (ck (0 ≤ s2 ∧ s2 < (a1.length : Int)) (ob (F29 n (gl a0 s2.toNat) (gl a1 s2.toNat)) fun (x5 : (Bool)) => br (!x5) (some false) (f3 (w64 (s2 + 1)))))) (some true)
def F14 (n : Nat) (a0 : (List (V4 Int))) (a1 : (List (V4 Int))) : Option (Bool) :=
  lt (!decide ((a0.length : Int) = (a1.length : Int)) : Bool) fun x1 => br (x1) (some false) (fx (F14_L1 n a0 a1) n 0)
theorem own14 : Own Try.prog 14 := ⟨_, Try.func14, rfl, by kernel_rfl⟩
theorem C14 {n : Nat} {a0 : (List (V4 Int))} {a1 : (List (V4 Int))} {r : Bool} (h : F14 n a0 a1 = some r) : DCall Try.prog 14 [.ro (a0.map (V4.row aI)) false, .ro (a1.map (V4.row aI)) false] [] (aB r) [] := by
  refine ⟨own14, VCall.enter (G := sg) Try.func14 rfl (Nat.le_of_ble_eq_true rfl) (Nat.le_of_ble_eq_true rfl) fun B hnt hn0 => ?_⟩
  unfold F14 at h
  refine AWp.seq ?_
  refine AWp.region ?_
  refine RW.step (d := ⟨some 4, aB false, []⟩) (k := 0) rfl (dt hnt rfl rfl) (Stp.pure (G := sg) _ (by kernel_rfl)) ?_
  refine RW.nil ?_
  refine thenN ?_
  refine AWp.seq ?_
  refine AWp.seq ?_
  refine AWp.region ?_
  refine RW.step (d := ⟨some 6, .ro (a0.map (V4.row aI)) false, []⟩) (k := 0) rfl (dt hnt rfl rfl) (Stp.pure (G := sg) _ (by kernel_rfl)) ?_
  refine RW.step (d := ⟨some 7, aI (a0.length : Int), []⟩) (k := 0) rfl (dt hnt rfl rfl) (Stp.pure (G := sg) _ (P_len_ro (l := a0) (r := (V4.row aI)) (full := false) (el := 36) (by kernel_rfl) (by kernel_rfl))) ?_
  refine RW.step (d := ⟨some 8, .ro (a1.map (V4.row aI)) false, []⟩) (k := 0) rfl (dt hnt rfl rfl) (Stp.pure (G := sg) _ (by kernel_rfl)) ?_
  refine RW.step (d := ⟨some 9, aI (a1.length : Int), []⟩) (k := 0) rfl (dt hnt rfl rfl) (Stp.pure (G := sg) _ (P_len_ro (l := a1) (r := (V4.row aI)) (full := false) (el := 36) (by kernel_rfl) (by kernel_rfl))) ?_
  obtain ⟨x1, hx1, h⟩ := lt_inv h
  refine RW.step (d := ⟨some 10, aB x1, []⟩) (k := 0) rfl (dt hnt rfl rfl) (Stp.pure (G := sg) _ (by rw [← hx1]; kernel_rfl)) ?_
  refine RW.nil ?_
  refine thenN ?_
  refine AWp.cond (t := x1) (by kernel_rfl) (fun hb => ?_) (fun hb => ?_)
  · have h := br_t hb h
    refine AWp.seq ?_
    refine AWp.region ?_
    refine RW.step (d := ⟨some 4, aB false, []⟩) (k := 0) rfl (dt hnt rfl rfl) (Stp.pure (G := sg) _ (by kernel_rfl)) ?_
    refine RW.nil ?_
    refine thenN ?_
    refine AWp.ret ?_
    refine thenR ?_
    injection h with h
    subst h
    exact ⟨[aB false], _, [], _, by kernel_rfl, RetV.flat vw_v⟩
  · have h := br_f hb h
    refine AWp.skip ?_
    refine thenN ?_
    refine AWp.seq ?_
    refine AWp.seq ?_
    refine AWp.region ?_
    refine RW.step (d := ⟨some 5, aI 0, []⟩) (k := 0) rfl (dt hnt rfl rfl) (Stp.pure (G := sg) _ (by kernel_rfl)) ?_
    refine RW.nil ?_
    refine thenN ?_
    refine AWp.block ?_
    refine AWp.loop (fun i st' => ∃ (s2 : Int) (names : List (Nat × Nat)), StV B.n0 st' (tabN names) ⟨tabE [(0, .ro (a0.map (V4.row aI)) false), (1, .ro (a1.map (V4.row aI)) false), (5, aI s2)], tabO [], 0⟩ ∧ fx (F14_L1 n a0 a1) i s2 = some r) n ⟨0, [], (StV.tab (by rw [hn0]; rfl) (E_cons (a0 := .ro (a0.map (V4.row aI)) false) (by kernel_rfl) (vw_ro (fun h => h) (vwSegs_map (fun _ => rfl) _)) (E_cons (a0 := .ro (a1.map (V4.row aI)) false) (by kernel_rfl) (vw_ro (fun h => h) (vwSegs_map (fun _ => rfl) _)) (E_cons (a0 := aI 0) (by kernel_rfl) vw_v E_nil))) O_nil (by rw [hn0]; rfl)), h⟩ ?_
    rintro is2 st1 ⟨s2, names, hv, h⟩
    obtain ⟨ks2, f3, hks2, hfs2, h⟩ := fx_inv h
    refine AWp.view _ hv ?_
    unfold F14_L1 at h
    refine AWp.seq ?_
    refine AWp.seq ?_
    refine AWp.region ?_
    refine RW.step (d := ⟨some 11, aI s2, []⟩) (k := 0) rfl (dt hnt rfl rfl) (Stp.pure (G := sg) _ (by kernel_rfl)) ?_
    refine RW.step (d := ⟨some 12, .ro (a0.map (V4.row aI)) false, []⟩) (k := 0) rfl (dt hnt rfl rfl) (Stp.pure (G := sg) _ (by kernel_rfl)) ?_
    refine RW.step (d := ⟨some 13, aI (a0.length : Int), []⟩) (k := 0) rfl (dt hnt rfl rfl) (Stp.pure (G := sg) _ (P_len_ro (l := a0) (r := (V4.row aI)) (full := false) (el := 36) (by kernel_rfl) (by kernel_rfl))) ?_
    obtain ⟨x4, hx4, h⟩ := lt_inv h
    refine RW.step (d := ⟨some 14, aB x4, []⟩) (k := 0) rfl (dt hnt rfl rfl) (Stp.pure (G := sg) _ (by rw [← hx4]; kernel_rfl)) ?_
    refine RW.nil ?_
    refine thenN ?_
    refine AWp.cond (t := x4) (by kernel_rfl) (fun hb => ?_) (fun hb => ?_)
    · have h := br_t hb h
      refine AWp.skip ?_
      refine thenN ?_
      refine AWp.seq ?_
      refine AWp.block ?_
      refine AWp.seq ?_
      obtain ⟨hc11, h⟩ := ck_inv h
      obtain ⟨hc12, h⟩ := ck_inv h
      obtain ⟨x5, hx5, h⟩ := ob_inv h
      refine AWp.drw (G := sg) [⟨⟨some 17, .ro (a0.map (V4.row aI)) false, []⟩, 0⟩, ⟨⟨some 18, aI s2, []⟩, 0⟩, ⟨⟨some 19, .rp (a0.map (V4.row aI)) s2.toNat 0, []⟩, 0⟩, ⟨⟨some 20, .agg [(V4.row aI) (gl a0 s2.toNat)], []⟩, 0⟩, ⟨⟨some 21, .ro (a1.map (V4.row aI)) false, []⟩, 0⟩, ⟨⟨some 22, aI s2, []⟩, 0⟩, ⟨⟨some 23, .rp (a1.map (V4.row aI)) s2.toNat 0, []⟩, 0⟩, ⟨⟨some 24, .agg [(V4.row aI) (gl a1 s2.toNat)], []⟩, 0⟩, ⟨⟨some 25, aB x5, []⟩, 0⟩, ⟨⟨some 26, aB (!x5), []⟩, 0⟩] (by kernel_rfl) (VCs.c (OpVC.p _ _ rfl rfl rfl (dt hnt rfl rfl) (Stp.pure (G := sg) _ (by kernel_rfl))) (VCs.c (OpVC.p _ _ rfl rfl rfl (dt hnt rfl rfl) (Stp.pure (G := sg) _ (by kernel_rfl))) (VCs.c (OpVC.p _ _ rfl rfl rfl (dt hnt rfl rfl) (Stp.pure (G := sg) _ (P_ia_ro (l := a0) (r := (V4.row aI)) (full := false) (kk := .i64) (n := s2) (el := 36) (by kernel_rfl) (by kernel_rfl) (by kernel_rfl) (fun _ => rfl) rfl hc11))) (VCs.c (OpVC.p _ _ rfl rfl rfl (dt hnt rfl rfl) (Stp.pure (G := sg) _ (P_ld_rp (segs := (a0.map (V4.row aI))) (s := s2.toNat) (j := 0) (by kernel_rfl) (L_row (by kernel_rfl) (by first | omega | (simp; omega)))))) (VCs.c (OpVC.p _ _ rfl rfl rfl (dt hnt rfl rfl) (Stp.pure (G := sg) _ (by kernel_rfl))) (VCs.c (OpVC.p _ _ rfl rfl rfl (dt hnt rfl rfl) (Stp.pure (G := sg) _ (by kernel_rfl))) (VCs.c (OpVC.p _ _ rfl rfl rfl (dt hnt rfl rfl) (Stp.pure (G := sg) _ (P_ia_ro (l := a1) (r := (V4.row aI)) (full := false) (kk := .i64) (n := s2) (el := 36) (by kernel_rfl) (by kernel_rfl) (by kernel_rfl) (fun _ => rfl) rfl hc12))) (VCs.c (OpVC.p _ _ rfl rfl rfl (dt hnt rfl rfl) (Stp.pure (G := sg) _ (P_ld_rp (segs := (a1.map (V4.row aI))) (s := s2.toNat) (j := 0) (by kernel_rfl) (L_row (by kernel_rfl) (by first | omega | (simp; omega)))))) (VCs.c (OpVC.p _ _ rfl rfl rfl (dt hnt rfl rfl) (Stp.call0 _ rfl (k := 29) (caps := []) (by kernel_rfl) (C29 hx5) (vl_cons (vw_agg (vs_cons (vwList_flat rfl) vs_nil)) (vl_cons (vw_agg (vs_cons (vwList_flat rfl) vs_nil)) vl_nil)) vw_v)) (VCs.c (OpVC.p _ _ rfl rfl rfl (dt hnt rfl rfl) (Stp.pure (G := sg) _ (by kernel_rfl))) VCs.n)))))))))) ?_
      refine thenN ?_
      refine AWp.cond (t := !x5) (by kernel_rfl) (fun hb => ?_) (fun hb => ?_)
      · have h := br_t hb h
        refine AWp.seq ?_
        refine AWp.region ?_
        refine RW.step (d := ⟨some 4, aB false, []⟩) (k := 0) rfl (dt hnt rfl rfl) (Stp.pure (G := sg) _ (by kernel_rfl)) ?_
        refine RW.nil ?_
        refine thenN ?_
        refine AWp.ret ?_
        refine blockR ?_
        refine thenR ?_
        refine thenR ?_
        refine blockR ?_
        refine thenR ?_
        injection h with h
        subst h
        exact ⟨[aB false], _, [], _, by kernel_rfl, RetV.flat vw_v⟩
      · have h := br_f hb h
        refine AWp.skip ?_
        refine blockN ?_
        refine thenN ?_
        refine AWp.region ?_
        refine RW.step (d := ⟨some 15, aI s2, []⟩) (k := 0) rfl (dt hnt rfl rfl) (Stp.pure (G := sg) _ (by kernel_rfl)) ?_
        refine RW.step (d := ⟨some 16, aI (w64 (s2 + 1)), []⟩) (k := 0) rfl (dt hnt rfl rfl) (Stp.pure (G := sg) _ (by kernel_rfl)) ?_
        refine RW.step (d := ⟨some 5, aI (w64 (s2 + 1)), []⟩) (k := 0) rfl (dt hnt rfl rfl) (Stp.pure (G := sg) _ (by kernel_rfl)) ?_
        refine RW.nil ?_
        exact ⟨ks2, by rw [hks2]; exact Nat.lt_succ_self _, w64 (s2 + 1), [], (StV.tab (by rw [hn0]; rfl) (E_cons (a0 := .ro (a0.map (V4.row aI)) false) (by kernel_rfl) (vw_ro (fun h => h) (vwSegs_map (fun _ => rfl) _)) (E_cons (a0 := .ro (a1.map (V4.row aI)) false) (by kernel_rfl) (vw_ro (fun h => h) (vwSegs_map (fun _ => rfl) _)) (E_cons (a0 := aI (w64 (s2 + 1))) (by kernel_rfl) vw_v E_nil))) O_nil (by rw [hn0]; rfl)), by rw [← hfs2]; exact h⟩
    · have h := br_f hb h
      refine AWp.exit ?_
      refine thenX ?_
      refine thenX ?_
      refine blockH ?_
      refine thenN ?_
      refine AWp.seq ?_
      refine AWp.region ?_
      refine RW.step (d := ⟨some 4, aB true, []⟩) (k := 0) rfl (dt hnt rfl rfl) (Stp.pure (G := sg) _ (by kernel_rfl)) ?_
      refine RW.nil ?_
      refine thenN ?_
      refine AWp.ret ?_
      injection h with h
      subst h
      exact ⟨[aB true], _, [], _, by kernel_rfl, RetV.flat vw_v⟩

/-- loop.example/g01203/laws.FnExactCodeDistance -/
def F3 (n : Nat) (a0 : (List (V4 Int))) (a1 : (List (V4 Int))) : Option (Bool) :=
  ob (F10 n a0 1048576) fun (x1 : (Int)) => br (decide (x1 < 0)) (some true) (ob (F10 n a1 x1) fun (x2 : (Int)) => br (decide (x2 < 0)) (some true) (ob (F12 n a0) fun (x3 : ((List (V4 Int)))) => ob (F12 n a1) fun (x4 : ((List (V4 Int)))) => ob (F11 n x3 x4) fun (x5 : (Int × Bool)) => ob (F12 n a0) fun (x6 : ((List (V4 Int)))) => ob (F12 n a1) fun (x7 : ((List (V4 Int)))) => ob (F13 n x6 x7) fun (x8 : (Int × Bool)) => ob (br (!decide (x8.1 = x5.1)) (some true) (some (!(x8.2 == x5.2)))) fun (x9 : Bool) => br (x9) (some false) (ob (F12 n a0) fun (x10 : ((List (V4 Int)))) => ob (F14 n x6 x10) fun (x11 : (Bool)) => br (!x11) (some false) (ob (F12 n a1) fun (x12 : ((List (V4 Int)))) => ob (F14 n x7 x12) fun (x13 : (Bool)) => br (!x13) (some false) (some true)))))
theorem own3 : Own Try.prog 3 := ⟨_, Try.func3, rfl, by kernel_rfl⟩
theorem C3 {n : Nat} {a0 : (List (V4 Int))} {a1 : (List (V4 Int))} {r : Bool} (h : F3 n a0 a1 = some r) : DCall Try.prog 3 [.ro (a0.map (V4.row aI)) false, .ro (a1.map (V4.row aI)) false] [] (aB r) [] := by
  refine ⟨own3, VCall.enter (G := sg) Try.func3 rfl (Nat.le_of_ble_eq_true rfl) (Nat.le_of_ble_eq_true rfl) fun B hnt hn0 => ?_⟩
  unfold F3 at h
  refine AWp.seq ?_
  refine AWp.region ?_
  refine RW.step (d := ⟨some 4, aB false, []⟩) (k := 0) rfl (dt hnt rfl rfl) (Stp.pure (G := sg) _ (by kernel_rfl)) ?_
  refine RW.nil ?_
  refine thenN ?_
  refine AWp.seq ?_
  refine AWp.region ?_
  refine RW.step (d := ⟨some 5, aI 1048576, []⟩) (k := 0) rfl (dt hnt rfl rfl) (Stp.pure (G := sg) _ (by kernel_rfl)) ?_
  refine RW.nil ?_
  refine thenN ?_
  refine AWp.seq ?_
  refine AWp.region ?_
  refine RW.step (d := ⟨some 12, .ro (a0.map (V4.row aI)) false, []⟩) (k := 0) rfl (dt hnt rfl rfl) (Stp.pure (G := sg) _ (by kernel_rfl)) ?_
  refine RW.step (d := ⟨some 13, aI 1048576, []⟩) (k := 0) rfl (dt hnt rfl rfl) (Stp.pure (G := sg) _ (by kernel_rfl)) ?_
  obtain ⟨x1, hx1, h⟩ := ob_inv h
  refine RW.step (d := ⟨some 14, aI x1, []⟩) (k := 0) rfl (dt hnt rfl rfl) (Stp.call0 _ rfl (k := 10) (caps := []) (by kernel_rfl) (C10 hx1) (vl_cons (vw_ro (fun h => h) (vwSegs_map (fun _ => rfl) _)) (vl_cons vw_v vl_nil)) vw_v) ?_
  refine RW.step (d := ⟨some 5, aI x1, []⟩) (k := 0) rfl (dt hnt rfl rfl) (Stp.pure (G := sg) _ (by kernel_rfl)) ?_
  refine RW.nil ?_
  refine thenN ?_
  refine AWp.seq ?_
  refine AWp.seq ?_
  refine AWp.region ?_
  refine RW.step (d := ⟨some 15, aI x1, []⟩) (k := 0) rfl (dt hnt rfl rfl) (Stp.pure (G := sg) _ (by kernel_rfl)) ?_
  refine RW.step (d := ⟨some 16, aB (decide (x1 < 0)), []⟩) (k := 0) rfl (dt hnt rfl rfl) (Stp.pure (G := sg) _ (by kernel_rfl)) ?_
  refine RW.nil ?_
  refine thenN ?_
  refine AWp.cond (t := decide (x1 < 0)) (by kernel_rfl) (fun hb => ?_) (fun hb => ?_)
  · have h := br_t hb h
    refine AWp.seq ?_
    refine AWp.region ?_
    refine RW.step (d := ⟨some 4, aB true, []⟩) (k := 0) rfl (dt hnt rfl rfl) (Stp.pure (G := sg) _ (by kernel_rfl)) ?_
    refine RW.nil ?_
    refine thenN ?_
    refine AWp.ret ?_
    refine thenR ?_
    injection h with h
    subst h
    exact ⟨[aB true], _, [], _, by kernel_rfl, RetV.flat vw_v⟩
  · have h := br_f hb h
    refine AWp.skip ?_
    refine thenN ?_
    refine AWp.seq ?_
    refine AWp.region ?_
    refine RW.step (d := ⟨some 17, .ro (a1.map (V4.row aI)) false, []⟩) (k := 0) rfl (dt hnt rfl rfl) (Stp.pure (G := sg) _ (by kernel_rfl)) ?_
    refine RW.step (d := ⟨some 18, aI x1, []⟩) (k := 0) rfl (dt hnt rfl rfl) (Stp.pure (G := sg) _ (by kernel_rfl)) ?_
    obtain ⟨x2, hx2, h⟩ := ob_inv h
    refine RW.step (d := ⟨some 19, aI x2, []⟩) (k := 0) rfl (dt hnt rfl rfl) (Stp.call0 _ rfl (k := 10) (caps := []) (by kernel_rfl) (C10 hx2) (vl_cons (vw_ro (fun h => h) (vwSegs_map (fun _ => rfl) _)) (vl_cons vw_v vl_nil)) vw_v) ?_
    refine RW.step (d := ⟨some 5, aI x2, []⟩) (k := 0) rfl (dt hnt rfl rfl) (Stp.pure (G := sg) _ (by kernel_rfl)) ?_
    refine RW.nil ?_
    refine thenN ?_
    refine AWp.seq ?_
    refine AWp.seq ?_
    refine AWp.region ?_
    refine RW.step (d := ⟨some 20, aI x2, []⟩) (k := 0) rfl (dt hnt rfl rfl) (Stp.pure (G := sg) _ (by kernel_rfl)) ?_
    refine RW.step (d := ⟨some 21, aB (decide (x2 < 0)), []⟩) (k := 0) rfl (dt hnt rfl rfl) (Stp.pure (G := sg) _ (by kernel_rfl)) ?_
    refine RW.nil ?_
    refine thenN ?_
    refine AWp.cond (t := decide (x2 < 0)) (by kernel_rfl) (fun hb => ?_) (fun hb => ?_)
    · have h := br_t hb h
      refine AWp.seq ?_
      refine AWp.region ?_
      refine RW.step (d := ⟨some 4, aB true, []⟩) (k := 0) rfl (dt hnt rfl rfl) (Stp.pure (G := sg) _ (by kernel_rfl)) ?_
      refine RW.nil ?_
      refine thenN ?_
      refine AWp.ret ?_
      refine thenR ?_
      injection h with h
      subst h
      exact ⟨[aB true], _, [], _, by kernel_rfl, RetV.flat vw_v⟩
    · have h := br_f hb h
      refine AWp.skip ?_
      refine thenN ?_
      refine AWp.seq ?_
      refine AWp.region ?_
      refine RW.step (d := ⟨some 23, .ro (a0.map (V4.row aI)) false, []⟩) (k := 0) rfl (dt hnt rfl rfl) (Stp.pure (G := sg) _ (by kernel_rfl)) ?_
      obtain ⟨x3, hx3, h⟩ := ob_inv h
      refine RW.step (d := ⟨some 24, .sl 0 0 x3.length, [(0, some ⟨36, some 4, (x3.map (V4.row aI))⟩)]⟩) (k := 1) rfl (dt hnt rfl rfl) (Stp.callN (n := 1) (us := [some ⟨36, some 4, (x3.map (V4.row aI))⟩]) rfl (k := 12) (caps := []) (by kernel_rfl) (C12 hx3) (vl_cons (vw_ro (fun h => h) (vwSegs_map (fun _ => rfl) _)) vl_nil) rfl (bk_cons rfl rfl (vwSegs_map (fun _ => rfl) _) bk_nil) (vw_slq rfl (by first | rfl | simp))) ?_
      refine RW.step (d := ⟨some 25, .ro (a1.map (V4.row aI)) false, []⟩) (k := 0) rfl (dt hnt rfl rfl) (Stp.pure (G := sg) _ (by kernel_rfl)) ?_
      obtain ⟨x4, hx4, h⟩ := ob_inv h
      refine RW.step (d := ⟨some 26, .sl 1 0 x4.length, [(1, some ⟨36, some 4, (x4.map (V4.row aI))⟩)]⟩) (k := 1) rfl (dt hnt rfl rfl) (Stp.callN (n := 1) (us := [some ⟨36, some 4, (x4.map (V4.row aI))⟩]) rfl (k := 12) (caps := []) (by kernel_rfl) (C12 hx4) (vl_cons (vw_ro (fun h => h) (vwSegs_map (fun _ => rfl) _)) vl_nil) rfl (bk_cons rfl rfl (vwSegs_map (fun _ => rfl) _) bk_nil) (vw_slq rfl (by first | rfl | simp))) ?_
      obtain ⟨x5, hx5, h⟩ := ob_inv h
      refine RW.step (d := ⟨some 27, .tup [aI x5.1, aB x5.2], []⟩) (k := 0) rfl (dt hnt rfl rfl) (Stp.call0 _ rfl (k := 11) (caps := []) (by kernel_rfl) (C11 hx5) (vl_cons (vw_lendM (ty := 36) (k := 4) (l := x3) none_ne (by kernel_rfl) (by first | rfl | simp) (fun _ => rfl)) (vl_cons (vw_lendM (ty := 36) (k := 4) (l := x4) none_ne (by kernel_rfl) (by first | rfl | simp) (fun _ => rfl)) vl_nil)) (vw_tup (vl_cons vw_v (vl_cons vw_v vl_nil)))) ?_
      refine RW.step (d := ⟨some 22, .tup [aI x5.1, aB x5.2], []⟩) (k := 0) rfl (dt hnt rfl rfl) (Stp.pure (G := sg) _ (by kernel_rfl)) ?_
      refine RW.step (d := ⟨some 28, aI x5.1, []⟩) (k := 0) rfl (dt hnt rfl rfl) (Stp.pure (G := sg) _ (by kernel_rfl)) ?_
      refine RW.step (d := ⟨some 29, aB x5.2, []⟩) (k := 0) rfl (dt hnt rfl rfl) (Stp.pure (G := sg) _ (by kernel_rfl)) ?_
      refine RW.step (d := ⟨some 6, aI x5.1, []⟩) (k := 0) rfl (dt hnt rfl rfl) (Stp.pure (G := sg) _ (by kernel_rfl)) ?_
      refine RW.step (d := ⟨some 7, aB x5.2, []⟩) (k := 0) rfl (dt hnt rfl rfl) (Stp.pure (G := sg) _ (by kernel_rfl)) ?_
      refine RW.nil ?_
      refine thenN ?_
      refine AWp.seq ?_
      refine AWp.region ?_
      refine RW.step (d := ⟨some 30, .ro (a0.map (V4.row aI)) false, []⟩) (k := 0) rfl (dt hnt rfl rfl) (Stp.pure (G := sg) _ (by kernel_rfl)) ?_
      obtain ⟨x6, hx6, h⟩ := ob_inv h
      refine RW.step (d := ⟨some 31, .sl 2 0 x6.length, [(2, some ⟨36, some 4, (x6.map (V4.row aI))⟩)]⟩) (k := 1) rfl (dt hnt rfl rfl) (Stp.callN (n := 1) (us := [some ⟨36, some 4, (x6.map (V4.row aI))⟩]) rfl (k := 12) (caps := []) (by kernel_rfl) (C12 hx6) (vl_cons (vw_ro (fun h => h) (vwSegs_map (fun _ => rfl) _)) vl_nil) rfl (bk_cons rfl rfl (vwSegs_map (fun _ => rfl) _) bk_nil) (vw_slq rfl (by first | rfl | simp))) ?_
      refine RW.step (d := ⟨some 8, .sl 2 0 x6.length, []⟩) (k := 0) rfl (dt hnt rfl rfl) (Stp.pure (G := sg) _ (by kernel_rfl)) ?_
      refine RW.nil ?_
      refine thenN ?_
      refine AWp.seq ?_
      refine AWp.region ?_
      refine RW.step (d := ⟨some 32, .ro (a1.map (V4.row aI)) false, []⟩) (k := 0) rfl (dt hnt rfl rfl) (Stp.pure (G := sg) _ (by kernel_rfl)) ?_
      obtain ⟨x7, hx7, h⟩ := ob_inv h
      refine RW.step (d := ⟨some 33, .sl 3 0 x7.length, [(3, some ⟨36, some 4, (x7.map (V4.row aI))⟩)]⟩) (k := 1) rfl (dt hnt rfl rfl) (Stp.callN (n := 1) (us := [some ⟨36, some 4, (x7.map (V4.row aI))⟩]) rfl (k := 12) (caps := []) (by kernel_rfl) (C12 hx7) (vl_cons (vw_ro (fun h => h) (vwSegs_map (fun _ => rfl) _)) vl_nil) rfl (bk_cons rfl rfl (vwSegs_map (fun _ => rfl) _) bk_nil) (vw_slq rfl (by first | rfl | simp))) ?_
      refine RW.step (d := ⟨some 9, .sl 3 0 x7.length, []⟩) (k := 0) rfl (dt hnt rfl rfl) (Stp.pure (G := sg) _ (by kernel_rfl)) ?_
      refine RW.nil ?_
      refine thenN ?_
      refine AWp.seq ?_
      refine AWp.region ?_
      refine RW.step (d := ⟨some 35, .sl 2 0 x6.length, []⟩) (k := 0) rfl (dt hnt rfl rfl) (Stp.pure (G := sg) _ (by kernel_rfl)) ?_
      refine RW.step (d := ⟨some 36, .sl 3 0 x7.length, []⟩) (k := 0) rfl (dt hnt rfl rfl) (Stp.pure (G := sg) _ (by kernel_rfl)) ?_
      obtain ⟨x8, hx8, h⟩ := ob_inv h
      refine RW.step (d := ⟨some 37, .tup [aI x8.1, aB x8.2], []⟩) (k := 0) rfl (dt hnt rfl rfl) (Stp.call0 _ rfl (k := 13) (caps := []) (by kernel_rfl) (C13 hx8) (vl_cons (vw_lendM (ty := 36) (k := 4) (l := x6) none_ne (by kernel_rfl) (by first | rfl | simp) (fun _ => rfl)) (vl_cons (vw_lendM (ty := 36) (k := 4) (l := x7) none_ne (by kernel_rfl) (by first | rfl | simp) (fun _ => rfl)) vl_nil)) (vw_tup (vl_cons vw_v (vl_cons vw_v vl_nil)))) ?_
      refine RW.step (d := ⟨some 34, .tup [aI x8.1, aB x8.2], []⟩) (k := 0) rfl (dt hnt rfl rfl) (Stp.pure (G := sg) _ (by kernel_rfl)) ?_
      refine RW.step (d := ⟨some 38, aI x8.1, []⟩) (k := 0) rfl (dt hnt rfl rfl) (Stp.pure (G := sg) _ (by kernel_rfl)) ?_
      refine RW.step (d := ⟨some 39, aB x8.2, []⟩) (k := 0) rfl (dt hnt rfl rfl) (Stp.pure (G := sg) _ (by kernel_rfl)) ?_
      refine RW.step (d := ⟨some 10, aI x8.1, []⟩) (k := 0) rfl (dt hnt rfl rfl) (Stp.pure (G := sg) _ (by kernel_rfl)) ?_
      refine RW.step (d := ⟨some 11, aB x8.2, []⟩) (k := 0) rfl (dt hnt rfl rfl) (Stp.pure (G := sg) _ (by kernel_rfl)) ?_
      refine RW.nil ?_
      refine thenN ?_
      refine AWp.seq ?_
      refine AWp.seq ?_
      refine AWp.region ?_
      refine RW.step (d := ⟨some 40, aI x8.1, []⟩) (k := 0) rfl (dt hnt rfl rfl) (Stp.pure (G := sg) _ (by kernel_rfl)) ?_
      refine RW.step (d := ⟨some 41, aI x5.1, []⟩) (k := 0) rfl (dt hnt rfl rfl) (Stp.pure (G := sg) _ (by kernel_rfl)) ?_
      refine RW.step (d := ⟨some 42, aB (!decide (x8.1 = x5.1)), []⟩) (k := 0) rfl (dt hnt rfl rfl) (Stp.pure (G := sg) _ (by kernel_rfl)) ?_
      refine RW.step (d := ⟨some 43, aB (!decide (x8.1 = x5.1)), []⟩) (k := 0) rfl (dt hnt rfl rfl) (Stp.pure (G := sg) _ (by kernel_rfl)) ?_
      obtain ⟨x9, hx9, h⟩ := ob_inv h
      refine RW.mid 4 (fun st' => ∃ names, StV B.n0 st' (tabN names) ⟨tabE [(0, .ro (a0.map (V4.row aI)) false), (1, .ro (a1.map (V4.row aI)) false), (8, .sl 2 0 x6.length), (9, .sl 3 0 x7.length), (47, aB x9)], tabO [(2, ⟨36, some 4, (x6.map (V4.row aI))⟩), (3, ⟨36, some 4, (x7.map (V4.row aI))⟩)], 4⟩) ?_ ?_
      · rcases Bool.eq_false_or_eq_true (!decide (x8.1 = x5.1)) with hb1 | hb1
        · have hx9 := br_t hb1 hx9
          refine RW.gf rfl rfl (by rw [hnt]; rfl) (b := !decide (x8.1 = x5.1)) (by kernel_rfl) hb1 (dt hnt rfl rfl) ?_
          refine RW.gf rfl rfl (by rw [hnt]; rfl) (b := !decide (x8.1 = x5.1)) (by kernel_rfl) hb1 (dt hnt rfl rfl) ?_
          refine RW.gf rfl rfl (by rw [hnt]; rfl) (b := !decide (x8.1 = x5.1)) (by kernel_rfl) hb1 (dt hnt rfl rfl) ?_
          refine RW.step (d := ⟨some 47, aB true, []⟩) (k := 0) rfl (dt hnt rfl rfl) (Stp.pure (G := sg) _ (P_pick_t (t := !decide (x8.1 = x5.1)) (by kernel_rfl) hb1 (by kernel_rfl))) ?_
          injection hx9 with hx9
          subst hx9
          exact RW.nil (thenN ⟨[(2, 2), (3, 3)], (StV.tab (by rw [hn0]; rfl) (E_cons (a0 := .ro (a0.map (V4.row aI)) false) (by kernel_rfl) (vw_ro (fun h => h) (vwSegs_map (fun _ => rfl) _)) (E_cons (a0 := .ro (a1.map (V4.row aI)) false) (by kernel_rfl) (vw_ro (fun h => h) (vwSegs_map (fun _ => rfl) _)) (E_cons (a0 := .sl 2 0 x6.length) (by kernel_rfl) (vw_slq rfl (by first | rfl | simp)) (E_cons (a0 := .sl 3 0 x7.length) (by kernel_rfl) (vw_slq rfl (by first | rfl | simp)) (E_cons (a0 := aB true) (by kernel_rfl) vw_v E_nil))))) (O_cons 2 ⟨36, some 4, (x6.map (V4.row aI))⟩ rfl (by kernel_rfl) rfl rfl (vwSegs_map (fun _ => rfl) _) (O_cons 3 ⟨36, some 4, (x7.map (V4.row aI))⟩ rfl (by kernel_rfl) rfl rfl (vwSegs_map (fun _ => rfl) _) O_nil)) (by rw [hn0]; rfl))⟩)
        · have hx9 := br_f hb1 hx9
          refine RW.gt (d := ⟨some 44, aB x8.2, []⟩) (k := 0) rfl rfl (by rw [hnt]; rfl) (b := !decide (x8.1 = x5.1)) (by kernel_rfl) hb1 (dt hnt rfl rfl) (Stp.pure (G := sg) _ (by kernel_rfl)) ?_
          refine RW.gt (d := ⟨some 45, aB x5.2, []⟩) (k := 0) rfl rfl (by rw [hnt]; rfl) (b := !decide (x8.1 = x5.1)) (by kernel_rfl) hb1 (dt hnt rfl rfl) (Stp.pure (G := sg) _ (by kernel_rfl)) ?_
          refine RW.gt (d := ⟨some 46, aB (!(x8.2 == x5.2)), []⟩) (k := 0) rfl rfl (by rw [hnt]; rfl) (b := !decide (x8.1 = x5.1)) (by kernel_rfl) hb1 (dt hnt rfl rfl) (Stp.pure (G := sg) _ (by kernel_rfl)) ?_
          refine RW.step (d := ⟨some 47, aB (!(x8.2 == x5.2)), []⟩) (k := 0) rfl (dt hnt rfl rfl) (Stp.pure (G := sg) _ (P_pick_f (t := !decide (x8.1 = x5.1)) (by kernel_rfl) hb1 (by kernel_rfl))) ?_
          injection hx9 with hx9
          subst hx9
          exact RW.nil (thenN ⟨[(2, 2), (3, 3)], (StV.tab (by rw [hn0]; rfl) (E_cons (a0 := .ro (a0.map (V4.row aI)) false) (by kernel_rfl) (vw_ro (fun h => h) (vwSegs_map (fun _ => rfl) _)) (E_cons (a0 := .ro (a1.map (V4.row aI)) false) (by kernel_rfl) (vw_ro (fun h => h) (vwSegs_map (fun _ => rfl) _)) (E_cons (a0 := .sl 2 0 x6.length) (by kernel_rfl) (vw_slq rfl (by first | rfl | simp)) (E_cons (a0 := .sl 3 0 x7.length) (by kernel_rfl) (vw_slq rfl (by first | rfl | simp)) (E_cons (a0 := aB (!(x8.2 == x5.2))) (by kernel_rfl) vw_v E_nil))))) (O_cons 2 ⟨36, some 4, (x6.map (V4.row aI))⟩ rfl (by kernel_rfl) rfl rfl (vwSegs_map (fun _ => rfl) _) (O_cons 3 ⟨36, some 4, (x7.map (V4.row aI))⟩ rfl (by kernel_rfl) rfl rfl (vwSegs_map (fun _ => rfl) _) O_nil)) (by rw [hn0]; rfl))⟩)
      · rintro st2 ⟨names, hv⟩
        refine RW.weak _ hv ?_
        refine RW.nil ?_
        refine thenN ?_
        refine AWp.cond (t := x9) (by kernel_rfl) (fun hb => ?_) (fun hb => ?_)
        · have h := br_t hb h
          refine AWp.seq ?_
          refine AWp.region ?_
          refine RW.step (d := ⟨some 4, aB false, []⟩) (k := 0) rfl (dt hnt rfl rfl) (Stp.pure (G := sg) _ (by kernel_rfl)) ?_
          refine RW.nil ?_
          refine thenN ?_
          refine AWp.ret ?_
          refine thenR ?_
          injection h with h
          subst h
          exact ⟨[aB false], _, [], _, by kernel_rfl, RetV.flat vw_v⟩
        · have h := br_f hb h
          refine AWp.skip ?_
          refine thenN ?_
          refine AWp.seq ?_
          refine AWp.seq ?_
          refine AWp.region ?_
          refine RW.step (d := ⟨some 48, .sl 2 0 x6.length, []⟩) (k := 0) rfl (dt hnt rfl rfl) (Stp.pure (G := sg) _ (by kernel_rfl)) ?_
          refine RW.step (d := ⟨some 49, .ro (a0.map (V4.row aI)) false, []⟩) (k := 0) rfl (dt hnt rfl rfl) (Stp.pure (G := sg) _ (by kernel_rfl)) ?_
          obtain ⟨x10, hx10, h⟩ := ob_inv h
          refine RW.step (d := ⟨some 50, .sl 4 0 x10.length, [(4, some ⟨36, some 4, (x10.map (V4.row aI))⟩)]⟩) (k := 1) rfl (dt hnt rfl rfl) (Stp.callN (n := 1) (us := [some ⟨36, some 4, (x10.map (V4.row aI))⟩]) rfl (k := 12) (caps := []) (by kernel_rfl) (C12 hx10) (vl_cons (vw_ro (fun h => h) (vwSegs_map (fun _ => rfl) _)) vl_nil) rfl (bk_cons rfl rfl (vwSegs_map (fun _ => rfl) _) bk_nil) (vw_slq rfl (by first | rfl | simp))) ?_
          obtain ⟨x11, hx11, h⟩ := ob_inv h
          refine RW.step (d := ⟨some 51, aB x11, []⟩) (k := 0) rfl (dt hnt rfl rfl) (Stp.call0 _ rfl (k := 14) (caps := []) (by kernel_rfl) (C14 hx11) (vl_cons (vw_lendM (ty := 36) (k := 4) (l := x6) none_ne (by kernel_rfl) (by first | rfl | simp) (fun _ => rfl)) (vl_cons (vw_lendM (ty := 36) (k := 4) (l := x10) none_ne (by kernel_rfl) (by first | rfl | simp) (fun _ => rfl)) vl_nil)) vw_v) ?_
          refine RW.step (d := ⟨some 52, aB (!x11), []⟩) (k := 0) rfl (dt hnt rfl rfl) (Stp.pure (G := sg) _ (by kernel_rfl)) ?_
          refine RW.nil ?_
          refine thenN ?_
          refine AWp.cond (t := !x11) (by kernel_rfl) (fun hb => ?_) (fun hb => ?_)
          · have h := br_t hb h
            refine AWp.seq ?_
            refine AWp.region ?_
            refine RW.step (d := ⟨some 4, aB false, []⟩) (k := 0) rfl (dt hnt rfl rfl) (Stp.pure (G := sg) _ (by kernel_rfl)) ?_
            refine RW.nil ?_
            refine thenN ?_
            refine AWp.ret ?_
            refine thenR ?_
            injection h with h
            subst h
            exact ⟨[aB false], _, [], _, by kernel_rfl, RetV.flat vw_v⟩
          · have h := br_f hb h
            refine AWp.skip ?_
            refine thenN ?_
            refine AWp.seq ?_
            refine AWp.seq ?_
            refine AWp.region ?_
            refine RW.step (d := ⟨some 53, .sl 3 0 x7.length, []⟩) (k := 0) rfl (dt hnt rfl rfl) (Stp.pure (G := sg) _ (by kernel_rfl)) ?_
            refine RW.step (d := ⟨some 54, .ro (a1.map (V4.row aI)) false, []⟩) (k := 0) rfl (dt hnt rfl rfl) (Stp.pure (G := sg) _ (by kernel_rfl)) ?_
            obtain ⟨x12, hx12, h⟩ := ob_inv h
            refine RW.step (d := ⟨some 55, .sl 5 0 x12.length, [(5, some ⟨36, some 4, (x12.map (V4.row aI))⟩)]⟩) (k := 1) rfl (dt hnt rfl rfl) (Stp.callN (n := 1) (us := [some ⟨36, some 4, (x12.map (V4.row aI))⟩]) rfl (k := 12) (caps := []) (by kernel_rfl) (C12 hx12) (vl_cons (vw_ro (fun h => h) (vwSegs_map (fun _ => rfl) _)) vl_nil) rfl (bk_cons rfl rfl (vwSegs_map (fun _ => rfl) _) bk_nil) (vw_slq rfl (by first | rfl | simp))) ?_
            obtain ⟨x13, hx13, h⟩ := ob_inv h
            refine RW.step (d := ⟨some 56, aB x13, []⟩) (k := 0) rfl (dt hnt rfl rfl) (Stp.call0 _ rfl (k := 14) (caps := []) (by kernel_rfl) (C14 hx13) (vl_cons (vw_lendM (ty := 36) (k := 4) (l := x7) none_ne (by kernel_rfl) (by first | rfl | simp) (fun _ => rfl)) (vl_cons (vw_lendM (ty := 36) (k := 4) (l := x12) none_ne (by kernel_rfl) (by first | rfl | simp) (fun _ => rfl)) vl_nil)) vw_v) ?_
            refine RW.step (d := ⟨some 57, aB (!x13), []⟩) (k := 0) rfl (dt hnt rfl rfl) (Stp.pure (G := sg) _ (by kernel_rfl)) ?_
            refine RW.nil ?_
            refine thenN ?_
            refine AWp.cond (t := !x13) (by kernel_rfl) (fun hb => ?_) (fun hb => ?_)
            · have h := br_t hb h
              refine AWp.seq ?_
              refine AWp.region ?_
              refine RW.step (d := ⟨some 4, aB false, []⟩) (k := 0) rfl (dt hnt rfl rfl) (Stp.pure (G := sg) _ (by kernel_rfl)) ?_
              refine RW.nil ?_
              refine thenN ?_
              refine AWp.ret ?_
              refine thenR ?_
              injection h with h
              subst h
              exact ⟨[aB false], _, [], _, by kernel_rfl, RetV.flat vw_v⟩
            · have h := br_f hb h
              refine AWp.skip ?_
              refine thenN ?_
              refine AWp.seq ?_
              refine AWp.region ?_
              refine RW.step (d := ⟨some 4, aB true, []⟩) (k := 0) rfl (dt hnt rfl rfl) (Stp.pure (G := sg) _ (by kernel_rfl)) ?_
              refine RW.nil ?_
              refine thenN ?_
              refine AWp.ret ?_
              injection h with h
              subst h
              exact ⟨[aB true], _, [], _, by kernel_rfl, RetV.flat vw_v⟩

/-- loop.example/g01203/laws.szTable -/
def F15 (n : Nat) (a0 : (List (V4 Int))) (a1 : Int) (a2 : Int) (a3 : Int) : Option (Int) :=
  ob (F10 n a0 a3) fun (x1 : (Int)) => br (decide (x1 < 0)) (some (-1)) (some x1)
theorem own15 : Own Try.prog 15 := ⟨_, Try.func15, rfl, by kernel_rfl⟩
theorem C15 {n : Nat} {a0 : (List (V4 Int))} {a1 : Int} {a2 : Int} {a3 : Int} {r : Int} (h : F15 n a0 a1 a2 a3 = some r) : DCall Try.prog 15 [.agg [[.ro (a0.map (V4.row aI)) false], [aI a1], [aI a2]], aI a3] [] (aI r) [] := by
  refine ⟨own15, VCall.enter (G := sg) Try.func15 rfl (Nat.le_of_ble_eq_true rfl) (Nat.le_of_ble_eq_true rfl) fun B hnt hn0 => ?_⟩
  unfold F15 at h
  refine AWp.seq ?_
  refine AWp.region ?_
  refine RW.step (d := ⟨some 2, .ptr 0 0 0, [(0, some ⟨29, none, [[.ro (a0.map (V4.row aI)) false], [aI a1], [aI a2]]⟩)]⟩) (k := 1) rfl (dt hnt rfl rfl) (Stp.new (G := sg) (by kernel_rfl)) ?_
  refine RW.step (d := ⟨some 4, aI 0, []⟩) (k := 0) rfl (dt hnt rfl rfl) (Stp.pure (G := sg) _ (by kernel_rfl)) ?_
  refine RW.nil ?_
  refine thenN ?_
  refine AWp.seq ?_
  refine AWp.region ?_
  refine RW.step (d := ⟨some 5, .ptr 0 0 0, []⟩) (k := 0) rfl (dt hnt rfl rfl) (Stp.pure (G := sg) _ (by kernel_rfl)) ?_
  refine RW.step (d := ⟨some 6, .ro (a0.map (V4.row aI)) false, []⟩) (k := 0) rfl (dt hnt rfl rfl) (Stp.pure (G := sg) _ (by kernel_rfl)) ?_
  refine RW.step (d := ⟨some 7, aI a3, []⟩) (k := 0) rfl (dt hnt rfl rfl) (Stp.pure (G := sg) _ (by kernel_rfl)) ?_
  obtain ⟨x1, hx1, h⟩ := ob_inv h
  refine RW.step (d := ⟨some 8, aI x1, []⟩) (k := 0) rfl (dt hnt rfl rfl) (Stp.call0 _ rfl (k := 10) (caps := []) (by kernel_rfl) (C10 hx1) (vl_cons (vw_ro (fun h => h) (vwSegs_map (fun _ => rfl) _)) (vl_cons vw_v vl_nil)) vw_v) ?_
  refine RW.step (d := ⟨some 1, aI x1, []⟩) (k := 0) rfl (dt hnt rfl rfl) (Stp.pure (G := sg) _ (by kernel_rfl)) ?_
  refine RW.nil ?_
  refine thenN ?_
  refine AWp.seq ?_
  refine AWp.seq ?_
  refine AWp.region ?_
  refine RW.step (d := ⟨some 9, aI x1, []⟩) (k := 0) rfl (dt hnt rfl rfl) (Stp.pure (G := sg) _ (by kernel_rfl)) ?_
  refine RW.step (d := ⟨some 10, aB (decide (x1 < 0)), []⟩) (k := 0) rfl (dt hnt rfl rfl) (Stp.pure (G := sg) _ (by kernel_rfl)) ?_
  refine RW.nil ?_
  refine thenN ?_
  refine AWp.cond (t := decide (x1 < 0)) (by kernel_rfl) (fun hb => ?_) (fun hb => ?_)
  · have h := br_t hb h
    refine AWp.seq ?_
    refine AWp.region ?_
    refine RW.step (d := ⟨some 4, aI (-1), []⟩) (k := 0) rfl (dt hnt rfl rfl) (Stp.pure (G := sg) _ (by kernel_rfl)) ?_
    refine RW.nil ?_
    refine thenN ?_
    refine AWp.ret ?_
    refine thenR ?_
    injection h with h
    subst h
    exact ⟨[aI (-1)], _, [], _, by kernel_rfl, RetV.flat vw_v⟩
  · have h := br_f hb h
    refine AWp.skip ?_
    refine thenN ?_
    refine AWp.seq ?_
    refine AWp.region ?_
    refine RW.step (d := ⟨some 11, aI x1, []⟩) (k := 0) rfl (dt hnt rfl rfl) (Stp.pure (G := sg) _ (by kernel_rfl)) ?_
    refine RW.step (d := ⟨some 4, aI x1, []⟩) (k := 0) rfl (dt hnt rfl rfl) (Stp.pure (G := sg) _ (by kernel_rfl)) ?_
    refine RW.nil ?_
    refine thenN ?_
    refine AWp.ret ?_
    injection h with h
    subst h
    exact ⟨[aI x1], _, [], _, by kernel_rfl, RetV.flat vw_v⟩

/-- loop.example/g01203/laws.toTable -/
def F17 (n : Nat) (a0 : (List (V4 Int))) (a1 : Int) (a2 : Int) : Option ((List (V4 Int)) × Int × Int) :=
  ob (F12 n a0) fun (x1 : ((List (V4 Int)))) => some (x1, a1, a2)
theorem own17 : Own Try.prog 17 := ⟨_, Try.func17, rfl, by kernel_rfl⟩
theorem C17 {n : Nat} {a0 : (List (V4 Int))} {a1 : Int} {a2 : Int} {r : (List (V4 Int)) × Int × Int} (h : F17 n a0 a1 a2 = some r) : DCall Try.prog 17 [.agg [[.ro (a0.map (V4.row aI)) false], [aI a1], [aI a2]]] [] (.agg [[.sl 0 0 r.1.length], [aI r.2.1], [aI r.2.2]]) [some ⟨36, some 4, (r.1.map (V4.row aI))⟩] := by
  refine ⟨own17, VCall.enter (G := sg) Try.func17 rfl (Nat.le_of_ble_eq_true rfl) (Nat.le_of_ble_eq_true rfl) fun B hnt hn0 => ?_⟩
  unfold F17 at h
  refine AWp.seq ?_
  refine AWp.region ?_
  refine RW.step (d := ⟨some 1, .ptr 0 0 0, [(0, some ⟨29, none, [[.ro (a0.map (V4.row aI)) false], [aI a1], [aI a2]]⟩)]⟩) (k := 1) rfl (dt hnt rfl rfl) (Stp.new (G := sg) (by kernel_rfl)) ?_
  refine RW.step (d := ⟨some 2, .ptr 1 0 0, [(1, some ⟨32, none, [[.ro [] true], [aI 0], [aI 0]]⟩)]⟩) (k := 1) rfl (dt hnt rfl rfl) (Stp.new (G := sg) (by kernel_rfl)) ?_
  refine RW.nil ?_
  refine thenN ?_
  refine AWp.seq ?_
  refine AWp.region ?_
  refine RW.step (d := ⟨some 3, .ptr 2 0 0, [(2, some ⟨32, none, [[.ro [] true], [aI 0], [aI 0]]⟩)]⟩) (k := 1) rfl (dt hnt rfl rfl) (Stp.new (G := sg) (by kernel_rfl)) ?_
  refine RW.nil ?_
  refine thenN ?_
  refine AWp.seq ?_
  refine AWp.region ?_
  refine RW.step (d := ⟨some 4, .ptr 0 0 0, []⟩) (k := 0) rfl (dt hnt rfl rfl) (Stp.pure (G := sg) _ (by kernel_rfl)) ?_
  refine RW.step (d := ⟨some 5, .ro (a0.map (V4.row aI)) false, []⟩) (k := 0) rfl (dt hnt rfl rfl) (Stp.pure (G := sg) _ (by kernel_rfl)) ?_
  obtain ⟨x1, hx1, h⟩ := ob_inv h
  refine RW.step (d := ⟨some 6, .sl 3 0 x1.length, [(3, some ⟨36, some 4, (x1.map (V4.row aI))⟩)]⟩) (k := 1) rfl (dt hnt rfl rfl) (Stp.callN (n := 1) (us := [some ⟨36, some 4, (x1.map (V4.row aI))⟩]) rfl (k := 12) (caps := []) (by kernel_rfl) (C12 hx1) (vl_cons (vw_ro (fun h => h) (vwSegs_map (fun _ => rfl) _)) vl_nil) rfl (bk_cons rfl rfl (vwSegs_map (fun _ => rfl) _) bk_nil) (vw_slq rfl (by first | rfl | simp))) ?_
  refine RW.step (d := ⟨some 7, .ptr 2 0 0, []⟩) (k := 0) rfl (dt hnt rfl rfl) (Stp.pure (G := sg) _ (by kernel_rfl)) ?_
  refine RW.step (d := ⟨none, .any, [(2, some ⟨32, none, [[.sl 3 0 x1.length], [aI 0], [aI 0]]⟩)]⟩) (k := 0) rfl (dn rfl) (Stp.store (G := sg) _ rfl (by kernel_rfl)) ?_
  refine RW.nil ?_
  refine thenN ?_
  refine AWp.seq ?_
  refine AWp.region ?_
  refine RW.step (d := ⟨some 8, .ptr 0 1 0, []⟩) (k := 0) rfl (dt hnt rfl rfl) (Stp.pure (G := sg) _ (by kernel_rfl)) ?_
  refine RW.step (d := ⟨some 9, aI a1, []⟩) (k := 0) rfl (dt hnt rfl rfl) (Stp.pure (G := sg) _ (by kernel_rfl)) ?_
  refine RW.step (d := ⟨some 10, .ptr 2 1 0, []⟩) (k := 0) rfl (dt hnt rfl rfl) (Stp.pure (G := sg) _ (by kernel_rfl)) ?_
  refine RW.step (d := ⟨none, .any, [(2, some ⟨32, none, [[.sl 3 0 x1.length], [aI a1], [aI 0]]⟩)]⟩) (k := 0) rfl (dn rfl) (Stp.store (G := sg) _ rfl (by kernel_rfl)) ?_
  refine RW.nil ?_
  refine thenN ?_
  refine AWp.seq ?_
  refine AWp.region ?_
  refine RW.step (d := ⟨some 11, .ptr 0 2 0, []⟩) (k := 0) rfl (dt hnt rfl rfl) (Stp.pure (G := sg) _ (by kernel_rfl)) ?_
  refine RW.step (d := ⟨some 12, aI a2, []⟩) (k := 0) rfl (dt hnt rfl rfl) (Stp.pure (G := sg) _ (by kernel_rfl)) ?_
  refine RW.step (d := ⟨some 13, .ptr 2 2 0, []⟩) (k := 0) rfl (dt hnt rfl rfl) (Stp.pure (G := sg) _ (by kernel_rfl)) ?_
  refine RW.step (d := ⟨none, .any, [(2, some ⟨32, none, [[.sl 3 0 x1.length], [aI a1], [aI a2]]⟩)]⟩) (k := 0) rfl (dn rfl) (Stp.store (G := sg) _ rfl (by kernel_rfl)) ?_
  refine RW.nil ?_
  refine thenN ?_
  refine AWp.seq ?_
  refine AWp.region ?_
  refine RW.step (d := ⟨some 14, .agg [[.sl 3 0 x1.length], [aI a1], [aI a2]], []⟩) (k := 0) rfl (dt hnt rfl rfl) (Stp.pure (G := sg) _ (by kernel_rfl)) ?_
  refine RW.step (d := ⟨none, .any, [(1, some ⟨32, none, [[.sl 3 0 x1.length], [aI a1], [aI a2]]⟩)]⟩) (k := 0) rfl (dn rfl) (Stp.store (G := sg) _ rfl (by kernel_rfl)) ?_
  refine RW.nil ?_
  refine thenN ?_
  refine AWp.ret ?_
  injection h with h
  subst h
  refine ⟨[.agg [[.sl 3 0 x1.length], [aI a1], [aI a2]]], _, _, tabN [(0, 3)], by kernel_rfl, RetV.tab (fo' := [some ⟨36, some 4, ((x1, a1, a2).1.map (V4.row aI))⟩]) (by rfl) (vw_agg (vs_cons (vl_cons (vw_slq rfl (by first | rfl | simp)) vl_nil) (vs_cons (vl_cons vw_v vl_nil) (vs_cons (vl_cons vw_v vl_nil) vs_nil)))) ?_ rfl⟩
  intro p o' ho
  match p, ho with
  | 0, ho => exact .inl ⟨3, ⟨36, some 4, (x1.map (V4.row aI))⟩, rfl, by kernel_rfl, by injection ho with ho; subst ho; rfl, by injection ho with ho; subst ho; rfl, by injection ho with ho; subst ho; exact (vwSegs_map (fun _ => rfl) _)⟩
  | p + 1, ho => exact absurd ho (by simp [lo'])

/-- loop.example/g01203/spec.l2Number -/
def F81 (n : Nat) (a0 : (V4 Int)) : Option (Int) :=
  lt (w64 ((w64 (27 * a0.x0)) + (w64 (9 * a0.x1))) : Int) fun x1 => lt (w64 (x1 + (w64 (3 * a0.x2))) : Int) fun x2 => some (w64 (x2 + a0.x3))
theorem own81 : Own Try.prog 81 := ⟨_, Try.func81, rfl, by kernel_rfl⟩
theorem C81 {n : Nat} {a0 : (V4 Int)} {r : Int} (h : F81 n a0 = some r) : DCall Try.prog 81 [.agg [(V4.row aI) a0]] [] (aI r) [] := by
  refine ⟨own81, VCall.enter (G := sg) Try.func81 rfl (Nat.le_of_ble_eq_true rfl) (Nat.le_of_ble_eq_true rfl) fun B hnt hn0 => ?_⟩
  unfold F81 at h
  refine AWp.seq ?_
  refine AWp.region ?_
  refine RW.step (d := ⟨some 1, .ptr 0 0 0, [(0, some ⟨36, none, [(V4.row aI) a0]⟩)]⟩) (k := 1) rfl (dt hnt rfl rfl) (Stp.new (G := sg) (by kernel_rfl)) ?_
  refine RW.step (d := ⟨some 2, aI 0, []⟩) (k := 0) rfl (dt hnt rfl rfl) (Stp.pure (G := sg) _ (by kernel_rfl)) ?_
  refine RW.nil ?_
  refine thenN ?_
  refine AWp.seq ?_
  refine AWp.region ?_
  refine RW.step (d := ⟨some 3, .ptr 0 0 0, []⟩) (k := 0) rfl (dt hnt rfl rfl) (Stp.pure (G := sg) _ (by kernel_rfl)) ?_
  refine RW.step (d := ⟨some 4, aI a0.x0, []⟩) (k := 0) rfl (dt hnt rfl rfl) (Stp.pure (G := sg) _ (by kernel_rfl)) ?_
  refine RW.step (d := ⟨some 5, aI (w64 (27 * a0.x0)), []⟩) (k := 0) rfl (dt hnt rfl rfl) (Stp.pure (G := sg) _ (by kernel_rfl)) ?_
  refine RW.step (d := ⟨some 6, .ptr 0 0 1, []⟩) (k := 0) rfl (dt hnt rfl rfl) (Stp.pure (G := sg) _ (by kernel_rfl)) ?_
  refine RW.step (d := ⟨some 7, aI a0.x1, []⟩) (k := 0) rfl (dt hnt rfl rfl) (Stp.pure (G := sg) _ (by kernel_rfl)) ?_
  refine RW.step (d := ⟨some 8, aI (w64 (9 * a0.x1)), []⟩) (k := 0) rfl (dt hnt rfl rfl) (Stp.pure (G := sg) _ (by kernel_rfl)) ?_
  obtain ⟨x1, hx1, h⟩ := lt_inv h
  refine RW.step (d := ⟨some 9, aI x1, []⟩) (k := 0) rfl (dt hnt rfl rfl) (Stp.pure (G := sg) _ (by rw [← hx1]; kernel_rfl)) ?_
  refine RW.step (d := ⟨some 10, .ptr 0 0 2, []⟩) (k := 0) rfl (dt hnt rfl rfl) (Stp.pure (G := sg) _ (by kernel_rfl)) ?_
  refine RW.step (d := ⟨some 11, aI a0.x2, []⟩) (k := 0) rfl (dt hnt rfl rfl) (Stp.pure (G := sg) _ (by kernel_rfl)) ?_
  refine RW.step (d := ⟨some 12, aI (w64 (3 * a0.x2)), []⟩) (k := 0) rfl (dt hnt rfl rfl) (Stp.pure (G := sg) _ (by kernel_rfl)) ?_
  obtain ⟨x2, hx2, h⟩ := lt_inv h
  refine RW.step (d := ⟨some 13, aI x2, []⟩) (k := 0) rfl (dt hnt rfl rfl) (Stp.pure (G := sg) _ (by rw [← hx2]; kernel_rfl)) ?_
  refine RW.step (d := ⟨some 14, .ptr 0 0 3, []⟩) (k := 0) rfl (dt hnt rfl rfl) (Stp.pure (G := sg) _ (by kernel_rfl)) ?_
  refine RW.step (d := ⟨some 15, aI a0.x3, []⟩) (k := 0) rfl (dt hnt rfl rfl) (Stp.pure (G := sg) _ (by kernel_rfl)) ?_
  refine RW.step (d := ⟨some 16, aI (w64 (x2 + a0.x3)), []⟩) (k := 0) rfl (dt hnt rfl rfl) (Stp.pure (G := sg) _ (by kernel_rfl)) ?_
  refine RW.step (d := ⟨some 2, aI (w64 (x2 + a0.x3)), []⟩) (k := 0) rfl (dt hnt rfl rfl) (Stp.pure (G := sg) _ (by kernel_rfl)) ?_
  refine RW.nil ?_
  refine thenN ?_
  refine AWp.ret ?_
  injection h with h
  subst h
  exact ⟨[aI (w64 (x2 + a0.x3))], _, [], _, by kernel_rfl, RetV.flat vw_v⟩

/-- loop.example/g01203/spec.l2Less -/
def F69 (n : Nat) (a0 : (V4 Int)) (a1 : (V4 Int)) : Option (Bool) :=
  ob (F81 n a0) fun (x1 : (Int)) => ob (F81 n a1) fun (x2 : (Int)) => some (decide (x1 < x2))
theorem own69 : Own Try.prog 69 := ⟨_, Try.func69, rfl, by kernel_rfl⟩
theorem C69 {n : Nat} {a0 : (V4 Int)} {a1 : (V4 Int)} {r : Bool} (h : F69 n a0 a1 = some r) : DCall Try.prog 69 [.agg [(V4.row aI) a0], .agg [(V4.row aI) a1]] [] (aB r) [] := by
  refine ⟨own69, VCall.enter (G := sg) Try.func69 rfl (Nat.le_of_ble_eq_true rfl) (Nat.le_of_ble_eq_true rfl) fun B hnt hn0 => ?_⟩
  unfold F69 at h
  refine AWp.seq ?_
  refine AWp.region ?_
  refine RW.step (d := ⟨some 2, .ptr 0 0 0, [(0, some ⟨36, none, [(V4.row aI) a0]⟩)]⟩) (k := 1) rfl (dt hnt rfl rfl) (Stp.new (G := sg) (by kernel_rfl)) ?_
  refine RW.step (d := ⟨some 3, .ptr 1 0 0, [(1, some ⟨36, none, [(V4.row aI) a1]⟩)]⟩) (k := 1) rfl (dt hnt rfl rfl) (Stp.new (G := sg) (by kernel_rfl)) ?_
  refine RW.step (d := ⟨some 4, aB false, []⟩) (k := 0) rfl (dt hnt rfl rfl) (Stp.pure (G := sg) _ (by kernel_rfl)) ?_
  refine RW.nil ?_
  refine thenN ?_
  refine AWp.seq ?_
  obtain ⟨x1, hx1, h⟩ := ob_inv h
  obtain ⟨x2, hx2, h⟩ := ob_inv h
  refine AWp.drw (G := sg) [⟨⟨some 5, .agg [(V4.row aI) a0], []⟩, 0⟩, ⟨⟨some 6, aI x1, []⟩, 0⟩, ⟨⟨some 7, .agg [(V4.row aI) a1], []⟩, 0⟩, ⟨⟨some 8, aI x2, []⟩, 0⟩, ⟨⟨some 9, aB (decide (x1 < x2)), []⟩, 0⟩, ⟨⟨some 4, aB (decide (x1 < x2)), []⟩, 0⟩] (by kernel_rfl) (VCs.c (OpVC.p _ _ rfl rfl rfl (dt hnt rfl rfl) (Stp.pure (G := sg) _ (by kernel_rfl))) (VCs.c (OpVC.p _ _ rfl rfl rfl (dt hnt rfl rfl) (Stp.call0 _ rfl (k := 81) (caps := []) (by kernel_rfl) (C81 hx1) (vl_cons (vw_agg (vs_cons (vwList_flat rfl) vs_nil)) vl_nil) vw_v)) (VCs.c (OpVC.p _ _ rfl rfl rfl (dt hnt rfl rfl) (Stp.pure (G := sg) _ (by kernel_rfl))) (VCs.c (OpVC.p _ _ rfl rfl rfl (dt hnt rfl rfl) (Stp.call0 _ rfl (k := 81) (caps := []) (by kernel_rfl) (C81 hx2) (vl_cons (vw_agg (vs_cons (vwList_flat rfl) vs_nil)) vl_nil) vw_v)) (VCs.c (OpVC.p _ _ rfl rfl rfl (dt hnt rfl rfl) (Stp.pure (G := sg) _ (by kernel_rfl))) (VCs.c (OpVC.p _ _ rfl rfl rfl (dt hnt rfl rfl) (Stp.pure (G := sg) _ (by kernel_rfl))) VCs.n)))))) ?_
  refine thenN ?_
  refine AWp.ret ?_
  injection h with h
  subst h
  exact ⟨[aB (decide (x1 < x2))], _, [], _, by kernel_rfl, RetV.flat vw_v⟩
end Go.Proofs.Ytleaogcnndhdgaa
