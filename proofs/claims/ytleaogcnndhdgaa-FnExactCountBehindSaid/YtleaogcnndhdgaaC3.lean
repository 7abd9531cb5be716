/- Functions of the program, each as a plain function and its contract. Printed by program. -/
import Derived.Test.YtleaogcnndhdgaaC2
namespace Go.Proofs.Ytleaogcnndhdgaa
open Go Go.Av Go.RowKit

/-- loop.example/g01203/spec.l2Sum -/
def F54_L2 (n : Nat) (a0 : (List (V4 Int))) (s1 : ((V4 Int) × Int)) (f2 : (((V4 Int) × Int) → Option ((V4 Int)))) (f5 : ((V4 Int) × Int) → Option ((V4 Int))) (s4 : (V4 Int) × Int) : Option ((V4 Int)) :=
  br (decide (s4.2 < 4)) (ck (0 ≤ s4.2 ∧ s4.2 < 4) (ck (0 ≤ s1.2 ∧ s1.2 < (a0.length : Int)) (ck (0 ≤ s4.2 ∧ s4.2 < 4) (lt (w64 ((V4.get s4.1 s4.2.toNat) + (V4.get (gl a0 s1.2.toNat) s4.2.toNat)) : Int) fun x6 => ck (0 ≤ s4.2 ∧ s4.2 < 4) (f5 (V4.set s4.1 s4.2.toNat (Int.tmod x6 3), w64 (s4.2 + 1))))))) (f2 (s4.1, w64 (s1.2 + 1)))
def F54_L1 (n : Nat) (a0 : (List (V4 Int))) (f2 : ((V4 Int) × Int) → Option ((V4 Int))) (s1 : (V4 Int) × Int) : Option ((V4 Int)) :=
  lt (decide (s1.2 < (a0.length : Int)) : Bool) fun x3 => br (x3) (fx (F54_L2 n a0 s1 f2) n (s1.1, 0)) (some s1.1)
def F54 (n : Nat) (a0 : (List (V4 Int))) : Option ((V4 Int)) :=
  fx (F54_L1 n a0) n ((⟨0, 0, 0, 0⟩ : (V4 Int)), 0)
theorem own54 : Own Try.prog 54 := ⟨_, Try.func54, rfl, by kernel_rfl⟩
theorem C54 {n : Nat} {a0 : (List (V4 Int))} {r : (V4 Int)} (h : F54 n a0 = some r) : DCall Try.prog 54 [.ro (a0.map (V4.row aI)) false] [] (.agg [(V4.row aI) r]) [] := by
  refine ⟨own54, VCall.enter (G := sg) Try.func54 rfl (Nat.le_of_ble_eq_true rfl) (Nat.le_of_ble_eq_true rfl) fun B hnt hn0 => ?_⟩
  unfold F54 at h
  refine AWp.seq ?_
  refine AWp.region ?_
  refine RW.step (d := ⟨some 2, .ptr 0 0 0, [(0, some ⟨36, none, [(V4.row aI) (⟨0, 0, 0, 0⟩ : (V4 Int))]⟩)]⟩) (k := 1) rfl (dt hnt rfl rfl) (Stp.new (G := sg) (by kernel_rfl)) ?_
  refine RW.nil ?_
  refine thenN ?_
  refine AWp.seq ?_
  refine AWp.region ?_
  refine RW.step (d := ⟨some 6, .agg [(V4.row aI) (⟨0, 0, 0, 0⟩ : (V4 Int))], []⟩) (k := 0) rfl (dt hnt rfl rfl) (Stp.pure (G := sg) _ (by kernel_rfl)) ?_
  refine RW.step (d := ⟨some 3, .ptr 1 0 0, [(1, some ⟨36, none, [(V4.row aI) (⟨0, 0, 0, 0⟩ : (V4 Int))]⟩)]⟩) (k := 1) rfl (dt hnt rfl rfl) (Stp.new (G := sg) (by kernel_rfl)) ?_
  refine RW.step (d := ⟨none, .any, [(1, some ⟨36, none, [(V4.row aI) (⟨0, 0, 0, 0⟩ : (V4 Int))]⟩)]⟩) (k := 0) rfl (dn rfl) (Stp.store (G := sg) _ rfl (by kernel_rfl)) ?_
  refine RW.nil ?_
  refine thenN ?_
  refine AWp.seq ?_
  refine AWp.seq ?_
  refine AWp.region ?_
  refine RW.step (d := ⟨some 4, aI 0, []⟩) (k := 0) rfl (dt hnt rfl rfl) (Stp.pure (G := sg) _ (by kernel_rfl)) ?_
  refine RW.nil ?_
  refine thenN ?_
  refine AWp.block ?_
  refine AWp.loop (fun i st' => ∃ (s1 : (V4 Int) × Int) (names : List (Nat × Nat)), StV B.n0 st' (tabN names) ⟨tabE [(0, .ro (a0.map (V4.row aI)) false), (2, .ptr 0 0 0), (3, .ptr 1 0 0), (4, aI s1.2)], tabO [(0, ⟨36, none, [(V4.row aI) (⟨0, 0, 0, 0⟩ : (V4 Int))]⟩), (1, ⟨36, none, [(V4.row aI) s1.1]⟩)], 2⟩ ∧ fx (F54_L1 n a0) i s1 = some r) n ⟨((⟨0, 0, 0, 0⟩ : (V4 Int)), 0), [(0, 0), (1, 1)], (StV.tab (by rw [hn0]; rfl) (E_cons (a0 := .ro (a0.map (V4.row aI)) false) (by kernel_rfl) (vw_ro (fun h => h) (vwSegs_map (fun _ => rfl) _)) (E_cons (a0 := .ptr 0 0 0) (by kernel_rfl) (vw_ptr rfl) (E_cons (a0 := .ptr 1 0 0) (by kernel_rfl) (vw_ptr rfl) (E_cons (a0 := aI 0) (by kernel_rfl) vw_v E_nil)))) (O_cons 0 ⟨36, none, [(V4.row aI) (⟨0, 0, 0, 0⟩ : (V4 Int))]⟩ rfl (by kernel_rfl) rfl rfl (vs_cons (vwList_flat rfl) vs_nil) (O_cons 1 ⟨36, none, [(V4.row aI) (⟨0, 0, 0, 0⟩ : (V4 Int))]⟩ rfl (by kernel_rfl) rfl rfl (vs_cons (vwList_flat rfl) vs_nil) O_nil)) (by rw [hn0]; rfl)), h⟩ ?_
  rintro is1 st1 ⟨s1, names, hv, h⟩
  obtain ⟨ks1, f2, hks1, hfs1, h⟩ := fx_inv h
  refine AWp.view _ hv ?_
  unfold F54_L1 at h
  refine AWp.seq ?_
  refine AWp.seq ?_
  refine AWp.region ?_
  refine RW.step (d := ⟨some 7, aI s1.2, []⟩) (k := 0) rfl (dt hnt rfl rfl) (Stp.pure (G := sg) _ (by kernel_rfl)) ?_
  refine RW.step (d := ⟨some 8, .ro (a0.map (V4.row aI)) false, []⟩) (k := 0) rfl (dt hnt rfl rfl) (Stp.pure (G := sg) _ (by kernel_rfl)) ?_
  refine RW.step (d := ⟨some 9, aI (a0.length : Int), []⟩) (k := 0) rfl (dt hnt rfl rfl) (Stp.pure (G := sg) _ (P_len_ro (l := a0) (r := (V4.row aI)) (full := false) (el := 36) (by kernel_rfl) (by kernel_rfl))) ?_
  obtain ⟨x3, hx3, h⟩ := lt_inv h
  refine RW.step (d := ⟨some 10, aB x3, []⟩) (k := 0) rfl (dt hnt rfl rfl) (Stp.pure (G := sg) _ (by rw [← hx3]; kernel_rfl)) ?_
  refine RW.nil ?_
  refine thenN ?_
  refine AWp.cond (t := x3) (by kernel_rfl) (fun hb => ?_) (fun hb => ?_)
  · have h := br_t hb h
    refine AWp.skip ?_
    refine thenN ?_
    refine AWp.seq ?_
    refine AWp.block ?_
    refine AWp.seq ?_
    refine AWp.region ?_
    refine RW.step (d := ⟨some 5, aI 0, []⟩) (k := 0) rfl (dt hnt rfl rfl) (Stp.pure (G := sg) _ (by kernel_rfl)) ?_
    refine RW.nil ?_
    refine thenN ?_
    refine AWp.block ?_
    refine AWp.loop (fun i st' => ∃ (s4 : (V4 Int) × Int) (names : List (Nat × Nat)), StV B.n0 st' (tabN names) ⟨tabE [(0, .ro (a0.map (V4.row aI)) false), (2, .ptr 0 0 0), (3, .ptr 1 0 0), (4, aI s1.2), (5, aI s4.2)], tabO [(0, ⟨36, none, [(V4.row aI) (⟨0, 0, 0, 0⟩ : (V4 Int))]⟩), (1, ⟨36, none, [(V4.row aI) s4.1]⟩)], 2⟩ ∧ fx (F54_L2 n a0 s1 f2) i s4 = some r) n ⟨(s1.1, 0), [(0, 0), (1, 1)], (StV.tab (by rw [hn0]; rfl) (E_cons (a0 := .ro (a0.map (V4.row aI)) false) (by kernel_rfl) (vw_ro (fun h => h) (vwSegs_map (fun _ => rfl) _)) (E_cons (a0 := .ptr 0 0 0) (by kernel_rfl) (vw_ptr rfl) (E_cons (a0 := .ptr 1 0 0) (by kernel_rfl) (vw_ptr rfl) (E_cons (a0 := aI s1.2) (by kernel_rfl) vw_v (E_cons (a0 := aI 0) (by kernel_rfl) vw_v E_nil))))) (O_cons 0 ⟨36, none, [(V4.row aI) (⟨0, 0, 0, 0⟩ : (V4 Int))]⟩ rfl (by kernel_rfl) rfl rfl (vs_cons (vwList_flat rfl) vs_nil) (O_cons 1 ⟨36, none, [(V4.row aI) s1.1]⟩ rfl (by kernel_rfl) rfl rfl (vs_cons (vwList_flat rfl) vs_nil) O_nil)) (by rw [hn0]; rfl)), h⟩ ?_
    rintro is4 st1 ⟨s4, names, hv, h⟩
    obtain ⟨ks4, f5, hks4, hfs4, h⟩ := fx_inv h
    refine AWp.view _ hv ?_
    unfold F54_L2 at h
    refine AWp.seq ?_
    refine AWp.seq ?_
    refine AWp.region ?_
    refine RW.step (d := ⟨some 13, aI s4.2, []⟩) (k := 0) rfl (dt hnt rfl rfl) (Stp.pure (G := sg) _ (by kernel_rfl)) ?_
    refine RW.step (d := ⟨some 14, aB (decide (s4.2 < 4)), []⟩) (k := 0) rfl (dt hnt rfl rfl) (Stp.pure (G := sg) _ (by kernel_rfl)) ?_
    refine RW.nil ?_
    refine thenN ?_
    refine AWp.cond (t := decide (s4.2 < 4)) (by kernel_rfl) (fun hb => ?_) (fun hb => ?_)
    · have h := br_t hb h
      refine AWp.skip ?_
      refine thenN ?_
      refine AWp.seq ?_
      refine AWp.block ?_
      obtain ⟨hc69, h⟩ := ck_inv h
      obtain ⟨hc70, h⟩ := ck_inv h
      obtain ⟨hc71, h⟩ := ck_inv h
      obtain ⟨x6, hx6, h⟩ := lt_inv h
      obtain ⟨hc72, h⟩ := ck_inv h
      refine AWp.drw (G := sg) [⟨⟨some 17, aI s4.2, []⟩, 0⟩, ⟨⟨some 18, aI s4.2, []⟩, 0⟩, ⟨⟨some 19, .ptr 1 0 s4.2.toNat, []⟩, 0⟩, ⟨⟨some 20, aI (V4.get s4.1 s4.2.toNat), []⟩, 0⟩, ⟨⟨some 21, .ro (a0.map (V4.row aI)) false, []⟩, 0⟩, ⟨⟨some 22, aI s1.2, []⟩, 0⟩, ⟨⟨some 23, aI s4.2, []⟩, 0⟩, ⟨⟨some 24, .rp (a0.map (V4.row aI)) s1.2.toNat 0, []⟩, 0⟩, ⟨⟨some 25, .rp (a0.map (V4.row aI)) s1.2.toNat s4.2.toNat, []⟩, 0⟩, ⟨⟨some 26, aI (V4.get (gl a0 s1.2.toNat) s4.2.toNat), []⟩, 0⟩, ⟨⟨some 27, aI x6, []⟩, 0⟩, ⟨⟨some 28, aI (Int.tmod x6 3), []⟩, 0⟩, ⟨⟨some 29, .ptr 1 0 s4.2.toNat, []⟩, 0⟩, ⟨⟨none, .any, [(1, some ⟨36, none, [(V4.row aI) (V4.set s4.1 s4.2.toNat (Int.tmod x6 3))]⟩)]⟩, 0⟩] (by kernel_rfl) (VCs.c (OpVC.p _ _ rfl rfl rfl (dt hnt rfl rfl) (Stp.pure (G := sg) _ (by kernel_rfl))) (VCs.c (OpVC.p _ _ rfl rfl rfl (dt hnt rfl rfl) (Stp.pure (G := sg) _ (by kernel_rfl))) (VCs.c (OpVC.p _ _ rfl rfl rfl (dt hnt rfl rfl) (Stp.pure (G := sg) _ (P_ia_arr (nm := 1) (s := 0) (len := 4) (kk := .i64) (n := s4.2) (el := 3) (by kernel_rfl) (by kernel_rfl) (by kernel_rfl) rfl (by omega)))) (VCs.c (OpVC.p _ _ rfl rfl rfl (dt hnt rfl rfl) (Stp.pure (G := sg) _ (P_ld (nm := 1) (s := 0) (j := s4.2.toNat) (o := ⟨36, none, [(V4.row aI) s4.1]⟩) (by kernel_rfl) (by kernel_rfl) (L_cell (row := (V4.row aI) s4.1) (by kernel_rfl) (by kernel_rfl) (V4.row_get _ _ (by omega)))))) (VCs.c (OpVC.p _ _ rfl rfl rfl (dt hnt rfl rfl) (Stp.pure (G := sg) _ (by kernel_rfl))) (VCs.c (OpVC.p _ _ rfl rfl rfl (dt hnt rfl rfl) (Stp.pure (G := sg) _ (by kernel_rfl))) (VCs.c (OpVC.p _ _ rfl rfl rfl (dt hnt rfl rfl) (Stp.pure (G := sg) _ (by kernel_rfl))) (VCs.c (OpVC.p _ _ rfl rfl rfl (dt hnt rfl rfl) (Stp.pure (G := sg) _ (P_ia_ro (l := a0) (r := (V4.row aI)) (full := false) (kk := .i64) (n := s1.2) (el := 36) (by kernel_rfl) (by kernel_rfl) (by kernel_rfl) (fun _ => rfl) rfl hc70))) (VCs.c (OpVC.p _ _ rfl rfl rfl (dt hnt rfl rfl) (Stp.pure (G := sg) _ (P_ia_arr_rp (segs := (a0.map (V4.row aI))) (s := s1.2.toNat) (len := 4) (kk := .i64) (n := s4.2) (el := 3) (by kernel_rfl) (by kernel_rfl) (by kernel_rfl) rfl (by omega)))) (VCs.c (OpVC.p _ _ rfl rfl rfl (dt hnt rfl rfl) (Stp.pure (G := sg) _ (P_ld_rp (segs := (a0.map (V4.row aI))) (s := s1.2.toNat) (j := s4.2.toNat) (by kernel_rfl) (L_el (by kernel_rfl) (by first | omega | (simp; omega)) (V4.row_get _ _ (by omega)))))) (VCs.c (OpVC.p _ _ rfl rfl rfl (dt hnt rfl rfl) (Stp.pure (G := sg) _ (by rw [← hx6]; kernel_rfl))) (VCs.c (OpVC.p _ _ rfl rfl rfl (dt hnt rfl rfl) (Stp.pure (G := sg) _ (by kernel_rfl))) (VCs.c (OpVC.p _ _ rfl rfl rfl (dt hnt rfl rfl) (Stp.pure (G := sg) _ (P_ia_arr (nm := 1) (s := 0) (len := 4) (kk := .i64) (n := s4.2) (el := 3) (by kernel_rfl) (by kernel_rfl) (by kernel_rfl) rfl (by omega)))) (VCs.c (OpVC.p _ _ rfl rfl rfl (dn rfl) (Stp.store (G := sg) _ rfl (S_st (s := 0) (j := s4.2.toNat) (o := ⟨36, none, [(V4.row aI) s4.1]⟩) (a := aI (Int.tmod x6 3)) (by kernel_rfl) (by kernel_rfl) (by kernel_rfl) (by kernel_rfl) (by kernel_rfl) (Nat.le_of_ble_eq_true rfl) (T_cell (row := (V4.row aI) s4.1) rfl (by kernel_rfl) (show s4.2.toNat < 4 by omega) (V4.row_set _ _ _ (by omega)) (by kernel_rfl))))) VCs.n)))))))))))))) ?_
      refine blockN ?_
      refine thenN ?_
      refine AWp.region ?_
      refine RW.step (d := ⟨some 15, aI s4.2, []⟩) (k := 0) rfl (dt hnt rfl rfl) (Stp.pure (G := sg) _ (by kernel_rfl)) ?_
      refine RW.step (d := ⟨some 16, aI (w64 (s4.2 + 1)), []⟩) (k := 0) rfl (dt hnt rfl rfl) (Stp.pure (G := sg) _ (by kernel_rfl)) ?_
      refine RW.step (d := ⟨some 5, aI (w64 (s4.2 + 1)), []⟩) (k := 0) rfl (dt hnt rfl rfl) (Stp.pure (G := sg) _ (by kernel_rfl)) ?_
      refine RW.nil ?_
      exact ⟨ks4, by rw [hks4]; exact Nat.lt_succ_self _, (V4.set s4.1 s4.2.toNat (Int.tmod x6 3), w64 (s4.2 + 1)), [(0, 0), (1, 1)], (StV.tab (by rw [hn0]; rfl) (E_cons (a0 := .ro (a0.map (V4.row aI)) false) (by kernel_rfl) (vw_ro (fun h => h) (vwSegs_map (fun _ => rfl) _)) (E_cons (a0 := .ptr 0 0 0) (by kernel_rfl) (vw_ptr rfl) (E_cons (a0 := .ptr 1 0 0) (by kernel_rfl) (vw_ptr rfl) (E_cons (a0 := aI s1.2) (by kernel_rfl) vw_v (E_cons (a0 := aI (w64 (s4.2 + 1))) (by kernel_rfl) vw_v E_nil))))) (O_cons 0 ⟨36, none, [(V4.row aI) (⟨0, 0, 0, 0⟩ : (V4 Int))]⟩ rfl (by kernel_rfl) rfl rfl (vs_cons (vwList_flat rfl) vs_nil) (O_cons 1 ⟨36, none, [(V4.row aI) (V4.set s4.1 s4.2.toNat (Int.tmod x6 3))]⟩ rfl (by kernel_rfl) rfl rfl (vs_cons (vwList_flat rfl) vs_nil) O_nil)) (by rw [hn0]; rfl)), by rw [← hfs4]; exact h⟩
    · have h := br_f hb h
      refine AWp.exit ?_
      refine thenX ?_
      refine thenX ?_
      refine blockH ?_
      refine blockN ?_
      refine thenN ?_
      refine AWp.region ?_
      refine RW.step (d := ⟨some 11, aI s1.2, []⟩) (k := 0) rfl (dt hnt rfl rfl) (Stp.pure (G := sg) _ (by kernel_rfl)) ?_
      refine RW.step (d := ⟨some 12, aI (w64 (s1.2 + 1)), []⟩) (k := 0) rfl (dt hnt rfl rfl) (Stp.pure (G := sg) _ (by kernel_rfl)) ?_
      refine RW.step (d := ⟨some 4, aI (w64 (s1.2 + 1)), []⟩) (k := 0) rfl (dt hnt rfl rfl) (Stp.pure (G := sg) _ (by kernel_rfl)) ?_
      refine RW.nil ?_
      exact ⟨ks1, by rw [hks1]; exact Nat.lt_succ_self _, (s4.1, w64 (s1.2 + 1)), [(0, 0), (1, 1)], (StV.tab (by rw [hn0]; rfl) (E_cons (a0 := .ro (a0.map (V4.row aI)) false) (by kernel_rfl) (vw_ro (fun h => h) (vwSegs_map (fun _ => rfl) _)) (E_cons (a0 := .ptr 0 0 0) (by kernel_rfl) (vw_ptr rfl) (E_cons (a0 := .ptr 1 0 0) (by kernel_rfl) (vw_ptr rfl) (E_cons (a0 := aI (w64 (s1.2 + 1))) (by kernel_rfl) vw_v E_nil)))) (O_cons 0 ⟨36, none, [(V4.row aI) (⟨0, 0, 0, 0⟩ : (V4 Int))]⟩ rfl (by kernel_rfl) rfl rfl (vs_cons (vwList_flat rfl) vs_nil) (O_cons 1 ⟨36, none, [(V4.row aI) s4.1]⟩ rfl (by kernel_rfl) rfl rfl (vs_cons (vwList_flat rfl) vs_nil) O_nil)) (by rw [hn0]; rfl)), by rw [← hfs1]; exact h⟩
  · have h := br_f hb h
    refine AWp.exit ?_
    refine thenX ?_
    refine thenX ?_
    refine blockH ?_
    refine thenN ?_
    refine AWp.seq ?_
    refine AWp.region ?_
    refine RW.step (d := ⟨some 30, .agg [(V4.row aI) s1.1], []⟩) (k := 0) rfl (dt hnt rfl rfl) (Stp.pure (G := sg) _ (by kernel_rfl)) ?_
    refine RW.step (d := ⟨none, .any, [(0, some ⟨36, none, [(V4.row aI) s1.1]⟩)]⟩) (k := 0) rfl (dn rfl) (Stp.store (G := sg) _ rfl (by kernel_rfl)) ?_
    refine RW.nil ?_
    refine thenN ?_
    refine AWp.ret ?_
    injection h with h
    subst h
    exact ⟨[.agg [(V4.row aI) s1.1]], _, [], _, by kernel_rfl, RetV.flat (vw_agg (vs_cons (vwList_flat rfl) vs_nil))⟩

/-- loop.example/g01203/spec.l2Place -/
def F76_L1 (n : Nat) (a0 : (List (V4 Int))) (a1 : (V4 Int)) (f2 : Int → Option (Int)) (s1 : Int) : Option (Int) :=
  lt (decide (s1 < (a0.length : Int)) : Bool) fun x3 => br (x3) (ck (0 ≤ s1 ∧ s1 < (a0.length : Int)) (lt (eqV4 (gl a0 s1.toNat) a1 : Bool) fun x4 => br (x4) (some s1) (f2 (w64 (s1 + 1))))) (some (-1))
def F76 (n : Nat) (a0 : (List (V4 Int))) (a1 : (V4 Int)) : Option (Int) :=
  fx (F76_L1 n a0 a1) n 0
theorem own76 : Own Try.prog 76 := ⟨_, Try.func76, rfl, by kernel_rfl⟩
theorem C76 {n : Nat} {a0 : (List (V4 Int))} {a1 : (V4 Int)} {r : Int} (h : F76 n a0 a1 = some r) : DCall Try.prog 76 [.ro (a0.map (V4.row aI)) false, .agg [(V4.row aI) a1]] [] (aI r) [] := by
  refine ⟨own76, VCall.enter (G := sg) Try.func76 rfl (Nat.le_of_ble_eq_true rfl) (Nat.le_of_ble_eq_true rfl) fun B hnt hn0 => ?_⟩
  unfold F76 at h
  refine AWp.seq ?_
  refine AWp.region ?_
  refine RW.step (d := ⟨some 3, .ptr 0 0 0, [(0, some ⟨36, none, [(V4.row aI) a1]⟩)]⟩) (k := 1) rfl (dt hnt rfl rfl) (Stp.new (G := sg) (by kernel_rfl)) ?_
  refine RW.step (d := ⟨some 4, aI 0, []⟩) (k := 0) rfl (dt hnt rfl rfl) (Stp.pure (G := sg) _ (by kernel_rfl)) ?_
  refine RW.nil ?_
  refine thenN ?_
  refine AWp.seq ?_
  refine AWp.seq ?_
  refine AWp.region ?_
  refine RW.step (d := ⟨some 5, aI 0, []⟩) (k := 0) rfl (dt hnt rfl rfl) (Stp.pure (G := sg) _ (by kernel_rfl)) ?_
  refine RW.nil ?_
  refine thenN ?_
  refine AWp.block ?_
  refine AWp.loop (fun i st' => ∃ (s1 : Int) (names : List (Nat × Nat)), StV B.n0 st' (tabN names) ⟨tabE [(0, .ro (a0.map (V4.row aI)) false), (3, .ptr 0 0 0), (5, aI s1)], tabO [(0, ⟨36, none, [(V4.row aI) a1]⟩)], 1⟩ ∧ fx (F76_L1 n a0 a1) i s1 = some r) n ⟨0, [(0, 0)], (StV.tab (by rw [hn0]; rfl) (E_cons (a0 := .ro (a0.map (V4.row aI)) false) (by kernel_rfl) (vw_ro (fun h => h) (vwSegs_map (fun _ => rfl) _)) (E_cons (a0 := .ptr 0 0 0) (by kernel_rfl) (vw_ptr rfl) (E_cons (a0 := aI 0) (by kernel_rfl) vw_v E_nil))) (O_cons 0 ⟨36, none, [(V4.row aI) a1]⟩ rfl (by kernel_rfl) rfl rfl (vs_cons (vwList_flat rfl) vs_nil) O_nil) (by rw [hn0]; rfl)), h⟩ ?_
  rintro is1 st1 ⟨s1, names, hv, h⟩
  obtain ⟨ks1, f2, hks1, hfs1, h⟩ := fx_inv h
  refine AWp.view _ hv ?_
  unfold F76_L1 at h
  refine AWp.seq ?_
  refine AWp.seq ?_
  refine AWp.region ?_
  refine RW.step (d := ⟨some 6, aI s1, []⟩) (k := 0) rfl (dt hnt rfl rfl) (Stp.pure (G := sg) _ (by kernel_rfl)) ?_
  refine RW.step (d := ⟨some 7, .ro (a0.map (V4.row aI)) false, []⟩) (k := 0) rfl (dt hnt rfl rfl) (Stp.pure (G := sg) _ (by kernel_rfl)) ?_
  refine RW.step (d := ⟨some 8, aI (a0.length : Int), []⟩) (k := 0) rfl (dt hnt rfl rfl) (Stp.pure (G := sg) _ (P_len_ro (l := a0) (r := (V4.row aI)) (full := false) (el := 36) (by kernel_rfl) (by kernel_rfl))) ?_
  obtain ⟨x3, hx3, h⟩ := lt_inv h
  refine RW.step (d := ⟨some 9, aB x3, []⟩) (k := 0) rfl (dt hnt rfl rfl) (Stp.pure (G := sg) _ (by rw [← hx3]; kernel_rfl)) ?_
  refine RW.nil ?_
  refine thenN ?_
  refine AWp.cond (t := x3) (by kernel_rfl) (fun hb => ?_) (fun hb => ?_)
  · have h := br_t hb h
    refine AWp.skip ?_
    refine thenN ?_
    refine AWp.seq ?_
    refine AWp.block ?_
    refine AWp.seq ?_
    obtain ⟨hc6, h⟩ := ck_inv h
    obtain ⟨x4, hx4, h⟩ := lt_inv h
    refine AWp.drw (G := sg) [⟨⟨some 12, .ro (a0.map (V4.row aI)) false, []⟩, 0⟩, ⟨⟨some 13, aI s1, []⟩, 0⟩, ⟨⟨some 14, .rp (a0.map (V4.row aI)) s1.toNat 0, []⟩, 0⟩, ⟨⟨some 15, .agg [(V4.row aI) (gl a0 s1.toNat)], []⟩, 0⟩, ⟨⟨some 16, .agg [(V4.row aI) a1], []⟩, 0⟩, ⟨⟨some 17, aB x4, []⟩, 0⟩] (by kernel_rfl) (VCs.c (OpVC.p _ _ rfl rfl rfl (dt hnt rfl rfl) (Stp.pure (G := sg) _ (by kernel_rfl))) (VCs.c (OpVC.p _ _ rfl rfl rfl (dt hnt rfl rfl) (Stp.pure (G := sg) _ (by kernel_rfl))) (VCs.c (OpVC.p _ _ rfl rfl rfl (dt hnt rfl rfl) (Stp.pure (G := sg) _ (P_ia_ro (l := a0) (r := (V4.row aI)) (full := false) (kk := .i64) (n := s1) (el := 36) (by kernel_rfl) (by kernel_rfl) (by kernel_rfl) (fun _ => rfl) rfl hc6))) (VCs.c (OpVC.p _ _ rfl rfl rfl (dt hnt rfl rfl) (Stp.pure (G := sg) _ (P_ld_rp (segs := (a0.map (V4.row aI))) (s := s1.toNat) (j := 0) (by kernel_rfl) (L_row (by kernel_rfl) (by first | omega | (simp; omega)))))) (VCs.c (OpVC.p _ _ rfl rfl rfl (dt hnt rfl rfl) (Stp.pure (G := sg) _ (by kernel_rfl))) (VCs.c (OpVC.p _ _ rfl rfl rfl (dt hnt rfl rfl) (Stp.pure (G := sg) _ (by rw [← hx4]; kernel_rfl))) VCs.n)))))) ?_
    refine thenN ?_
    refine AWp.cond (t := x4) (by kernel_rfl) (fun hb => ?_) (fun hb => ?_)
    · have h := br_t hb h
      refine AWp.seq ?_
      refine AWp.region ?_
      refine RW.step (d := ⟨some 18, aI s1, []⟩) (k := 0) rfl (dt hnt rfl rfl) (Stp.pure (G := sg) _ (by kernel_rfl)) ?_
      refine RW.step (d := ⟨some 4, aI s1, []⟩) (k := 0) rfl (dt hnt rfl rfl) (Stp.pure (G := sg) _ (by kernel_rfl)) ?_
      refine RW.nil ?_
      refine thenN ?_
      refine AWp.ret ?_
      refine blockR ?_
      refine thenR ?_
      refine thenR ?_
      refine blockR ?_
      refine thenR ?_
      injection h with h
      subst h
      exact ⟨[aI s1], _, [], _, by kernel_rfl, RetV.flat vw_v⟩
    · have h := br_f hb h
      refine AWp.skip ?_
      refine blockN ?_
      refine thenN ?_
      refine AWp.region ?_
      refine RW.step (d := ⟨some 10, aI s1, []⟩) (k := 0) rfl (dt hnt rfl rfl) (Stp.pure (G := sg) _ (by kernel_rfl)) ?_
      refine RW.step (d := ⟨some 11, aI (w64 (s1 + 1)), []⟩) (k := 0) rfl (dt hnt rfl rfl) (Stp.pure (G := sg) _ (by kernel_rfl)) ?_
      refine RW.step (d := ⟨some 5, aI (w64 (s1 + 1)), []⟩) (k := 0) rfl (dt hnt rfl rfl) (Stp.pure (G := sg) _ (by kernel_rfl)) ?_
      refine RW.nil ?_
      exact ⟨ks1, by rw [hks1]; exact Nat.lt_succ_self _, w64 (s1 + 1), [(0, 0)], (StV.tab (by rw [hn0]; rfl) (E_cons (a0 := .ro (a0.map (V4.row aI)) false) (by kernel_rfl) (vw_ro (fun h => h) (vwSegs_map (fun _ => rfl) _)) (E_cons (a0 := .ptr 0 0 0) (by kernel_rfl) (vw_ptr rfl) (E_cons (a0 := aI (w64 (s1 + 1))) (by kernel_rfl) vw_v E_nil))) (O_cons 0 ⟨36, none, [(V4.row aI) a1]⟩ rfl (by kernel_rfl) rfl rfl (vs_cons (vwList_flat rfl) vs_nil) O_nil) (by rw [hn0]; rfl)), by rw [← hfs1]; exact h⟩
  · have h := br_f hb h
    refine AWp.exit ?_
    refine thenX ?_
    refine thenX ?_
    refine blockH ?_
    refine thenN ?_
    refine AWp.seq ?_
    refine AWp.region ?_
    refine RW.step (d := ⟨some 4, aI (-1), []⟩) (k := 0) rfl (dt hnt rfl rfl) (Stp.pure (G := sg) _ (by kernel_rfl)) ?_
    refine RW.nil ?_
    refine thenN ?_
    refine AWp.ret ?_
    injection h with h
    subst h
    exact ⟨[aI (-1)], _, [], _, by kernel_rfl, RetV.flat vw_v⟩

/-- loop.example/g01203/spec.l2Has -/
def F55 (n : Nat) (a0 : (List (V4 Int))) (a1 : (V4 Int)) : Option (Bool) :=
  ob (F76 n a0 a1) fun (x1 : (Int)) => some (decide (0 ≤ x1))
theorem own55 : Own Try.prog 55 := ⟨_, Try.func55, rfl, by kernel_rfl⟩
theorem C55 {n : Nat} {a0 : (List (V4 Int))} {a1 : (V4 Int)} {r : Bool} (h : F55 n a0 a1 = some r) : DCall Try.prog 55 [.ro (a0.map (V4.row aI)) false, .agg [(V4.row aI) a1]] [] (aB r) [] := by
  refine ⟨own55, VCall.enter (G := sg) Try.func55 rfl (Nat.le_of_ble_eq_true rfl) (Nat.le_of_ble_eq_true rfl) fun B hnt hn0 => ?_⟩
  unfold F55 at h
  refine AWp.seq ?_
  refine AWp.region ?_
  refine RW.step (d := ⟨some 3, .ptr 0 0 0, [(0, some ⟨36, none, [(V4.row aI) a1]⟩)]⟩) (k := 1) rfl (dt hnt rfl rfl) (Stp.new (G := sg) (by kernel_rfl)) ?_
  refine RW.step (d := ⟨some 4, aB false, []⟩) (k := 0) rfl (dt hnt rfl rfl) (Stp.pure (G := sg) _ (by kernel_rfl)) ?_
  refine RW.nil ?_
  refine thenN ?_
  refine AWp.seq ?_
  refine AWp.region ?_
  refine RW.step (d := ⟨some 5, .ro (a0.map (V4.row aI)) false, []⟩) (k := 0) rfl (dt hnt rfl rfl) (Stp.pure (G := sg) _ (by kernel_rfl)) ?_
  refine RW.step (d := ⟨some 6, .agg [(V4.row aI) a1], []⟩) (k := 0) rfl (dt hnt rfl rfl) (Stp.pure (G := sg) _ (by kernel_rfl)) ?_
  obtain ⟨x1, hx1, h⟩ := ob_inv h
  refine RW.step (d := ⟨some 7, aI x1, []⟩) (k := 0) rfl (dt hnt rfl rfl) (Stp.call0 _ rfl (k := 76) (caps := []) (by kernel_rfl) (C76 hx1) (vl_cons (vw_ro (fun h => h) (vwSegs_map (fun _ => rfl) _)) (vl_cons (vw_agg (vs_cons (vwList_flat rfl) vs_nil)) vl_nil)) vw_v) ?_
  refine RW.step (d := ⟨some 8, aB (decide (0 ≤ x1)), []⟩) (k := 0) rfl (dt hnt rfl rfl) (Stp.pure (G := sg) _ (by kernel_rfl)) ?_
  refine RW.step (d := ⟨some 4, aB (decide (0 ≤ x1)), []⟩) (k := 0) rfl (dt hnt rfl rfl) (Stp.pure (G := sg) _ (by kernel_rfl)) ?_
  refine RW.nil ?_
  refine thenN ?_
  refine AWp.ret ?_
  injection h with h
  subst h
  exact ⟨[aB (decide (0 ≤ x1))], _, [], _, by kernel_rfl, RetV.flat vw_v⟩

/-- loop.example/g01203/spec.HiddenCard -/
def F27_L1 (n : Nat) (a0 : (List (V4 Int))) (a1 : (V4 Int)) (x4 : ((V4 Int))) (f6 : ((V4 Int) × Int) → Option ((V4 Int) × Bool)) (s5 : (V4 Int) × Int) : Option ((V4 Int) × Bool) :=
  br (decide (s5.2 < 4)) (ck (0 ≤ s5.2 ∧ s5.2 < 4) (ck (0 ≤ s5.2 ∧ s5.2 < 4) (lt (w64 ((V4.get a1 s5.2.toNat) - (V4.get x4 s5.2.toNat)) : Int) fun x7 => lt (Int.tmod (w64 (x7 + 3)) 3 : Int) fun x8 => ck (0 ≤ s5.2 ∧ s5.2 < 4) (f6 (V4.set s5.1 s5.2.toNat x8, w64 (s5.2 + 1)))))) (ob (F55 n a0 s5.1) fun (x9 : (Bool)) => br (x9) (some ((⟨0, 0, 0, 0⟩ : (V4 Int)), false)) (some (s5.1, true)))
def F27 (n : Nat) (a0 : (List (V4 Int))) (a1 : (V4 Int)) : Option ((V4 Int) × Bool) :=
  ob (F44 n a0) fun (x1 : (Bool)) => ob (br (!x1) (some true) (ob (F46 n a1) fun (x3 : (Bool)) => some (!x3))) fun (x2 : Bool) => br (x2) (some ((⟨0, 0, 0, 0⟩ : (V4 Int)), false)) (ob (F54 n a0) fun (x4 : ((V4 Int))) => fx (F27_L1 n a0 a1 x4) n ((⟨0, 0, 0, 0⟩ : (V4 Int)), 0))
theorem own27 : Own Try.prog 27 := ⟨_, Try.func27, rfl, by kernel_rfl⟩
theorem C27 {n : Nat} {a0 : (List (V4 Int))} {a1 : (V4 Int)} {r : (V4 Int) × Bool} (h : F27 n a0 a1 = some r) : DCall Try.prog 27 [.ro (a0.map (V4.row aI)) false, .agg [(V4.row aI) a1]] [] (.tup [.agg [(V4.row aI) r.1], aB r.2]) [] := by
  refine ⟨own27, VCall.enter (G := sg) Try.func27 rfl (Nat.le_of_ble_eq_true rfl) (Nat.le_of_ble_eq_true rfl) fun B hnt hn0 => ?_⟩
  unfold F27 at h
  refine AWp.seq ?_
  refine AWp.region ?_
  refine RW.step (d := ⟨some 3, .ptr 0 0 0, [(0, some ⟨36, none, [(V4.row aI) a1]⟩)]⟩) (k := 1) rfl (dt hnt rfl rfl) (Stp.new (G := sg) (by kernel_rfl)) ?_
  refine RW.step (d := ⟨some 4, .ptr 1 0 0, [(1, some ⟨36, none, [(V4.row aI) (⟨0, 0, 0, 0⟩ : (V4 Int))]⟩)]⟩) (k := 1) rfl (dt hnt rfl rfl) (Stp.new (G := sg) (by kernel_rfl)) ?_
  refine RW.step (d := ⟨some 5, aB false, []⟩) (k := 0) rfl (dt hnt rfl rfl) (Stp.pure (G := sg) _ (by kernel_rfl)) ?_
  refine RW.nil ?_
  refine thenN ?_
  refine AWp.seq ?_
  refine AWp.seq ?_
  refine AWp.region ?_
  refine RW.step (d := ⟨some 9, .ro (a0.map (V4.row aI)) false, []⟩) (k := 0) rfl (dt hnt rfl rfl) (Stp.pure (G := sg) _ (by kernel_rfl)) ?_
  obtain ⟨x1, hx1, h⟩ := ob_inv h
  refine RW.step (d := ⟨some 10, aB x1, []⟩) (k := 0) rfl (dt hnt rfl rfl) (Stp.call0 _ rfl (k := 44) (caps := []) (by kernel_rfl) (C44 hx1) (vl_cons (vw_ro (fun h => h) (vwSegs_map (fun _ => rfl) _)) vl_nil) vw_v) ?_
  refine RW.step (d := ⟨some 11, aB (!x1), []⟩) (k := 0) rfl (dt hnt rfl rfl) (Stp.pure (G := sg) _ (by kernel_rfl)) ?_
  refine RW.step (d := ⟨some 12, aB (!x1), []⟩) (k := 0) rfl (dt hnt rfl rfl) (Stp.pure (G := sg) _ (by kernel_rfl)) ?_
  obtain ⟨x2, hx2, h⟩ := ob_inv h
  refine RW.mid 4 (fun st' => ∃ names, StV B.n0 st' (tabN names) ⟨tabE [(0, .ro (a0.map (V4.row aI)) false), (3, .ptr 0 0 0), (4, .ptr 1 0 0), (16, aB x2)], tabO [(0, ⟨36, none, [(V4.row aI) a1]⟩), (1, ⟨36, none, [(V4.row aI) (⟨0, 0, 0, 0⟩ : (V4 Int))]⟩)], 2⟩) ?_ ?_
  · rcases Bool.eq_false_or_eq_true (!x1) with hb1 | hb1
    · have hx2 := br_t hb1 hx2
      refine RW.gf rfl rfl (by rw [hnt]; rfl) (b := !x1) (by kernel_rfl) hb1 (dt hnt rfl rfl) ?_
      refine RW.gf rfl rfl (by rw [hnt]; rfl) (b := !x1) (by kernel_rfl) hb1 (dt hnt rfl rfl) ?_
      refine RW.gf rfl rfl (by rw [hnt]; rfl) (b := !x1) (by kernel_rfl) hb1 (dt hnt rfl rfl) ?_
      refine RW.step (d := ⟨some 16, aB true, []⟩) (k := 0) rfl (dt hnt rfl rfl) (Stp.pure (G := sg) _ (P_pick_t (t := !x1) (by kernel_rfl) hb1 (by kernel_rfl))) ?_
      injection hx2 with hx2
      subst hx2
      exact RW.nil (thenN ⟨[(0, 0), (1, 1)], (StV.tab (by rw [hn0]; rfl) (E_cons (a0 := .ro (a0.map (V4.row aI)) false) (by kernel_rfl) (vw_ro (fun h => h) (vwSegs_map (fun _ => rfl) _)) (E_cons (a0 := .ptr 0 0 0) (by kernel_rfl) (vw_ptr rfl) (E_cons (a0 := .ptr 1 0 0) (by kernel_rfl) (vw_ptr rfl) (E_cons (a0 := aB true) (by kernel_rfl) vw_v E_nil)))) (O_cons 0 ⟨36, none, [(V4.row aI) a1]⟩ rfl (by kernel_rfl) rfl rfl (vs_cons (vwList_flat rfl) vs_nil) (O_cons 1 ⟨36, none, [(V4.row aI) (⟨0, 0, 0, 0⟩ : (V4 Int))]⟩ rfl (by kernel_rfl) rfl rfl (vs_cons (vwList_flat rfl) vs_nil) O_nil)) (by rw [hn0]; rfl))⟩)
    · have hx2 := br_f hb1 hx2
      refine RW.gt (d := ⟨some 13, .agg [(V4.row aI) a1], []⟩) (k := 0) rfl rfl (by rw [hnt]; rfl) (b := !x1) (by kernel_rfl) hb1 (dt hnt rfl rfl) (Stp.pure (G := sg) _ (by kernel_rfl)) ?_
      obtain ⟨x3, hx3, hx2⟩ := ob_inv hx2
      refine RW.gt (d := ⟨some 14, aB x3, []⟩) (k := 0) rfl rfl (by rw [hnt]; rfl) (b := !x1) (by kernel_rfl) hb1 (dt hnt rfl rfl) (Stp.call0 _ rfl (k := 46) (caps := []) (by kernel_rfl) (C46 hx3) (vl_cons (vw_agg (vs_cons (vwList_flat rfl) vs_nil)) vl_nil) vw_v) ?_
      refine RW.gt (d := ⟨some 15, aB (!x3), []⟩) (k := 0) rfl rfl (by rw [hnt]; rfl) (b := !x1) (by kernel_rfl) hb1 (dt hnt rfl rfl) (Stp.pure (G := sg) _ (by kernel_rfl)) ?_
      refine RW.step (d := ⟨some 16, aB (!x3), []⟩) (k := 0) rfl (dt hnt rfl rfl) (Stp.pure (G := sg) _ (P_pick_f (t := !x1) (by kernel_rfl) hb1 (by kernel_rfl))) ?_
      injection hx2 with hx2
      subst hx2
      exact RW.nil (thenN ⟨[(0, 0), (1, 1)], (StV.tab (by rw [hn0]; rfl) (E_cons (a0 := .ro (a0.map (V4.row aI)) false) (by kernel_rfl) (vw_ro (fun h => h) (vwSegs_map (fun _ => rfl) _)) (E_cons (a0 := .ptr 0 0 0) (by kernel_rfl) (vw_ptr rfl) (E_cons (a0 := .ptr 1 0 0) (by kernel_rfl) (vw_ptr rfl) (E_cons (a0 := aB (!x3)) (by kernel_rfl) vw_v E_nil)))) (O_cons 0 ⟨36, none, [(V4.row aI) a1]⟩ rfl (by kernel_rfl) rfl rfl (vs_cons (vwList_flat rfl) vs_nil) (O_cons 1 ⟨36, none, [(V4.row aI) (⟨0, 0, 0, 0⟩ : (V4 Int))]⟩ rfl (by kernel_rfl) rfl rfl (vs_cons (vwList_flat rfl) vs_nil) O_nil)) (by rw [hn0]; rfl))⟩)
  · rintro st2 ⟨names, hv⟩
    refine RW.weak _ hv ?_
    refine RW.nil ?_
    refine thenN ?_
    refine AWp.cond (t := x2) (by kernel_rfl) (fun hb => ?_) (fun hb => ?_)
    · have h := br_t hb h
      refine AWp.seq ?_
      refine AWp.region ?_
      refine RW.step (d := ⟨some 17, .agg [(V4.row aI) (⟨0, 0, 0, 0⟩ : (V4 Int))], []⟩) (k := 0) rfl (dt hnt rfl rfl) (Stp.pure (G := sg) _ (by kernel_rfl)) ?_
      refine RW.step (d := ⟨none, .any, [(1, some ⟨36, none, [(V4.row aI) (⟨0, 0, 0, 0⟩ : (V4 Int))]⟩)]⟩) (k := 0) rfl (dn rfl) (Stp.store (G := sg) _ rfl (by kernel_rfl)) ?_
      refine RW.step (d := ⟨some 5, aB false, []⟩) (k := 0) rfl (dt hnt rfl rfl) (Stp.pure (G := sg) _ (by kernel_rfl)) ?_
      refine RW.nil ?_
      refine thenN ?_
      refine AWp.ret ?_
      refine thenR ?_
      injection h with h
      subst h
      exact ⟨[.agg [(V4.row aI) (⟨0, 0, 0, 0⟩ : (V4 Int))], aB false], _, [], _, by kernel_rfl, RetV.flat (vw_tup (vl_cons (vw_agg (vs_cons (vwList_flat rfl) vs_nil)) (vl_cons vw_v vl_nil)))⟩
    · have h := br_f hb h
      refine AWp.skip ?_
      refine thenN ?_
      refine AWp.seq ?_
      refine AWp.region ?_
      refine RW.step (d := ⟨some 18, .ro (a0.map (V4.row aI)) false, []⟩) (k := 0) rfl (dt hnt rfl rfl) (Stp.pure (G := sg) _ (by kernel_rfl)) ?_
      obtain ⟨x4, hx4, h⟩ := ob_inv h
      refine RW.step (d := ⟨some 19, .agg [(V4.row aI) x4], []⟩) (k := 0) rfl (dt hnt rfl rfl) (Stp.call0 _ rfl (k := 54) (caps := []) (by kernel_rfl) (C54 hx4) (vl_cons (vw_ro (fun h => h) (vwSegs_map (fun _ => rfl) _)) vl_nil) (vw_agg (vs_cons (vwList_flat rfl) vs_nil))) ?_
      refine RW.step (d := ⟨some 20, .agg [(V4.row aI) (⟨0, 0, 0, 0⟩ : (V4 Int))], []⟩) (k := 0) rfl (dt hnt rfl rfl) (Stp.pure (G := sg) _ (by kernel_rfl)) ?_
      refine RW.step (d := ⟨some 6, .ptr 2 0 0, [(2, some ⟨36, none, [(V4.row aI) (⟨0, 0, 0, 0⟩ : (V4 Int))]⟩)]⟩) (k := 1) rfl (dt hnt rfl rfl) (Stp.new (G := sg) (by kernel_rfl)) ?_
      refine RW.step (d := ⟨some 7, .ptr 3 0 0, [(3, some ⟨36, none, [(V4.row aI) (⟨0, 0, 0, 0⟩ : (V4 Int))]⟩)]⟩) (k := 1) rfl (dt hnt rfl rfl) (Stp.new (G := sg) (by kernel_rfl)) ?_
      refine RW.step (d := ⟨none, .any, [(2, some ⟨36, none, [(V4.row aI) x4]⟩)]⟩) (k := 0) rfl (dn rfl) (Stp.store (G := sg) _ rfl (by kernel_rfl)) ?_
      refine RW.step (d := ⟨none, .any, [(3, some ⟨36, none, [(V4.row aI) (⟨0, 0, 0, 0⟩ : (V4 Int))]⟩)]⟩) (k := 0) rfl (dn rfl) (Stp.store (G := sg) _ rfl (by kernel_rfl)) ?_
      refine RW.nil ?_
      refine thenN ?_
      refine AWp.seq ?_
      refine AWp.seq ?_
      refine AWp.region ?_
      refine RW.step (d := ⟨some 8, aI 0, []⟩) (k := 0) rfl (dt hnt rfl rfl) (Stp.pure (G := sg) _ (by kernel_rfl)) ?_
      refine RW.nil ?_
      refine thenN ?_
      refine AWp.block ?_
      refine AWp.loop (fun i st' => ∃ (s5 : (V4 Int) × Int) (names : List (Nat × Nat)), StV B.n0 st' (tabN names) ⟨tabE [(0, .ro (a0.map (V4.row aI)) false), (3, .ptr 0 0 0), (4, .ptr 1 0 0), (6, .ptr 2 0 0), (7, .ptr 3 0 0), (8, aI s5.2)], tabO [(0, ⟨36, none, [(V4.row aI) a1]⟩), (1, ⟨36, none, [(V4.row aI) (⟨0, 0, 0, 0⟩ : (V4 Int))]⟩), (2, ⟨36, none, [(V4.row aI) x4]⟩), (3, ⟨36, none, [(V4.row aI) s5.1]⟩)], 4⟩ ∧ fx (F27_L1 n a0 a1 x4) i s5 = some r) n ⟨((⟨0, 0, 0, 0⟩ : (V4 Int)), 0), [(0, 0), (1, 1), (2, 2), (3, 3)], (StV.tab (by rw [hn0]; rfl) (E_cons (a0 := .ro (a0.map (V4.row aI)) false) (by kernel_rfl) (vw_ro (fun h => h) (vwSegs_map (fun _ => rfl) _)) (E_cons (a0 := .ptr 0 0 0) (by kernel_rfl) (vw_ptr rfl) (E_cons (a0 := .ptr 1 0 0) (by kernel_rfl) (vw_ptr rfl) (E_cons (a0 := .ptr 2 0 0) (by kernel_rfl) (vw_ptr rfl) (E_cons (a0 := .ptr 3 0 0) (by kernel_rfl) (vw_ptr rfl) (E_cons (a0 := aI 0) (by kernel_rfl) vw_v E_nil)))))) (O_cons 0 ⟨36, none, [(V4.row aI) a1]⟩ rfl (by kernel_rfl) rfl rfl (vs_cons (vwList_flat rfl) vs_nil) (O_cons 1 ⟨36, none, [(V4.row aI) (⟨0, 0, 0, 0⟩ : (V4 Int))]⟩ rfl (by kernel_rfl) rfl rfl (vs_cons (vwList_flat rfl) vs_nil) (O_cons 2 ⟨36, none, [(V4.row aI) x4]⟩ rfl (by kernel_rfl) rfl rfl (vs_cons (vwList_flat rfl) vs_nil) (O_cons 3 ⟨36, none, [(V4.row aI) (⟨0, 0, 0, 0⟩ : (V4 Int))]⟩ rfl (by kernel_rfl) rfl rfl (vs_cons (vwList_flat rfl) vs_nil) O_nil)))) (by rw [hn0]; rfl)), h⟩ ?_
      rintro is5 st1 ⟨s5, names, hv, h⟩
      obtain ⟨ks5, f6, hks5, hfs5, h⟩ := fx_inv h
      refine AWp.view _ hv ?_
      unfold F27_L1 at h
      refine AWp.seq ?_
      refine AWp.seq ?_
      refine AWp.region ?_
      refine RW.step (d := ⟨some 21, aI s5.2, []⟩) (k := 0) rfl (dt hnt rfl rfl) (Stp.pure (G := sg) _ (by kernel_rfl)) ?_
      refine RW.step (d := ⟨some 22, aB (decide (s5.2 < 4)), []⟩) (k := 0) rfl (dt hnt rfl rfl) (Stp.pure (G := sg) _ (by kernel_rfl)) ?_
      refine RW.nil ?_
      refine thenN ?_
      refine AWp.cond (t := decide (s5.2 < 4)) (by kernel_rfl) (fun hb => ?_) (fun hb => ?_)
      · have h := br_t hb h
        refine AWp.skip ?_
        refine thenN ?_
        refine AWp.seq ?_
        refine AWp.block ?_
        obtain ⟨hc16, h⟩ := ck_inv h
        obtain ⟨hc17, h⟩ := ck_inv h
        obtain ⟨x7, hx7, h⟩ := lt_inv h
        obtain ⟨x8, hx8, h⟩ := lt_inv h
        obtain ⟨hc18, h⟩ := ck_inv h
        refine AWp.drw (G := sg) [⟨⟨some 25, aI s5.2, []⟩, 0⟩, ⟨⟨some 26, aI s5.2, []⟩, 0⟩, ⟨⟨some 27, .ptr 0 0 s5.2.toNat, []⟩, 0⟩, ⟨⟨some 28, aI (V4.get a1 s5.2.toNat), []⟩, 0⟩, ⟨⟨some 29, aI s5.2, []⟩, 0⟩, ⟨⟨some 30, .ptr 2 0 s5.2.toNat, []⟩, 0⟩, ⟨⟨some 31, aI (V4.get x4 s5.2.toNat), []⟩, 0⟩, ⟨⟨some 32, aI x7, []⟩, 0⟩, ⟨⟨some 33, aI (w64 (x7 + 3)), []⟩, 0⟩, ⟨⟨some 34, aI x8, []⟩, 0⟩, ⟨⟨some 35, .ptr 3 0 s5.2.toNat, []⟩, 0⟩, ⟨⟨none, .any, [(3, some ⟨36, none, [(V4.row aI) (V4.set s5.1 s5.2.toNat x8)]⟩)]⟩, 0⟩] (by kernel_rfl) (VCs.c (OpVC.p _ _ rfl rfl rfl (dt hnt rfl rfl) (Stp.pure (G := sg) _ (by kernel_rfl))) (VCs.c (OpVC.p _ _ rfl rfl rfl (dt hnt rfl rfl) (Stp.pure (G := sg) _ (by kernel_rfl))) (VCs.c (OpVC.p _ _ rfl rfl rfl (dt hnt rfl rfl) (Stp.pure (G := sg) _ (P_ia_arr (nm := 0) (s := 0) (len := 4) (kk := .i64) (n := s5.2) (el := 3) (by kernel_rfl) (by kernel_rfl) (by kernel_rfl) rfl (by omega)))) (VCs.c (OpVC.p _ _ rfl rfl rfl (dt hnt rfl rfl) (Stp.pure (G := sg) _ (P_ld (nm := 0) (s := 0) (j := s5.2.toNat) (o := ⟨36, none, [(V4.row aI) a1]⟩) (by kernel_rfl) (by kernel_rfl) (L_cell (row := (V4.row aI) a1) (by kernel_rfl) (by kernel_rfl) (V4.row_get _ _ (by omega)))))) (VCs.c (OpVC.p _ _ rfl rfl rfl (dt hnt rfl rfl) (Stp.pure (G := sg) _ (by kernel_rfl))) (VCs.c (OpVC.p _ _ rfl rfl rfl (dt hnt rfl rfl) (Stp.pure (G := sg) _ (P_ia_arr (nm := 2) (s := 0) (len := 4) (kk := .i64) (n := s5.2) (el := 3) (by kernel_rfl) (by kernel_rfl) (by kernel_rfl) rfl (by omega)))) (VCs.c (OpVC.p _ _ rfl rfl rfl (dt hnt rfl rfl) (Stp.pure (G := sg) _ (P_ld (nm := 2) (s := 0) (j := s5.2.toNat) (o := ⟨36, none, [(V4.row aI) x4]⟩) (by kernel_rfl) (by kernel_rfl) (L_cell (row := (V4.row aI) x4) (by kernel_rfl) (by kernel_rfl) (V4.row_get _ _ (by omega)))))) (VCs.c (OpVC.p _ _ rfl rfl rfl (dt hnt rfl rfl) (Stp.pure (G := sg) _ (by rw [← hx7]; kernel_rfl))) (VCs.c (OpVC.p _ _ rfl rfl rfl (dt hnt rfl rfl) (Stp.pure (G := sg) _ (by kernel_rfl))) (VCs.c (OpVC.p _ _ rfl rfl rfl (dt hnt rfl rfl) (Stp.pure (G := sg) _ (by rw [← hx8]; kernel_rfl))) (VCs.c (OpVC.p _ _ rfl rfl rfl (dt hnt rfl rfl) (Stp.pure (G := sg) _ (P_ia_arr (nm := 3) (s := 0) (len := 4) (kk := .i64) (n := s5.2) (el := 3) (by kernel_rfl) (by kernel_rfl) (by kernel_rfl) rfl (by omega)))) (VCs.c (OpVC.p _ _ rfl rfl rfl (dn rfl) (Stp.store (G := sg) _ rfl (S_st (s := 0) (j := s5.2.toNat) (o := ⟨36, none, [(V4.row aI) s5.1]⟩) (a := aI x8) (by kernel_rfl) (by kernel_rfl) (by kernel_rfl) (by kernel_rfl) (by kernel_rfl) (Nat.le_of_ble_eq_true rfl) (T_cell (row := (V4.row aI) s5.1) rfl (by kernel_rfl) (show s5.2.toNat < 4 by omega) (V4.row_set _ _ _ (by omega)) (by kernel_rfl))))) VCs.n)))))))))))) ?_
        refine blockN ?_
        refine thenN ?_
        refine AWp.region ?_
        refine RW.step (d := ⟨some 23, aI s5.2, []⟩) (k := 0) rfl (dt hnt rfl rfl) (Stp.pure (G := sg) _ (by kernel_rfl)) ?_
        refine RW.step (d := ⟨some 24, aI (w64 (s5.2 + 1)), []⟩) (k := 0) rfl (dt hnt rfl rfl) (Stp.pure (G := sg) _ (by kernel_rfl)) ?_
        refine RW.step (d := ⟨some 8, aI (w64 (s5.2 + 1)), []⟩) (k := 0) rfl (dt hnt rfl rfl) (Stp.pure (G := sg) _ (by kernel_rfl)) ?_
        refine RW.nil ?_
        exact ⟨ks5, by rw [hks5]; exact Nat.lt_succ_self _, (V4.set s5.1 s5.2.toNat x8, w64 (s5.2 + 1)), [(0, 0), (1, 1), (2, 2), (3, 3)], (StV.tab (by rw [hn0]; rfl) (E_cons (a0 := .ro (a0.map (V4.row aI)) false) (by kernel_rfl) (vw_ro (fun h => h) (vwSegs_map (fun _ => rfl) _)) (E_cons (a0 := .ptr 0 0 0) (by kernel_rfl) (vw_ptr rfl) (E_cons (a0 := .ptr 1 0 0) (by kernel_rfl) (vw_ptr rfl) (E_cons (a0 := .ptr 2 0 0) (by kernel_rfl) (vw_ptr rfl) (E_cons (a0 := .ptr 3 0 0) (by kernel_rfl) (vw_ptr rfl) (E_cons (a0 := aI (w64 (s5.2 + 1))) (by kernel_rfl) vw_v E_nil)))))) (O_cons 0 ⟨36, none, [(V4.row aI) a1]⟩ rfl (by kernel_rfl) rfl rfl (vs_cons (vwList_flat rfl) vs_nil) (O_cons 1 ⟨36, none, [(V4.row aI) (⟨0, 0, 0, 0⟩ : (V4 Int))]⟩ rfl (by kernel_rfl) rfl rfl (vs_cons (vwList_flat rfl) vs_nil) (O_cons 2 ⟨36, none, [(V4.row aI) x4]⟩ rfl (by kernel_rfl) rfl rfl (vs_cons (vwList_flat rfl) vs_nil) (O_cons 3 ⟨36, none, [(V4.row aI) (V4.set s5.1 s5.2.toNat x8)]⟩ rfl (by kernel_rfl) rfl rfl (vs_cons (vwList_flat rfl) vs_nil) O_nil)))) (by rw [hn0]; rfl)), by rw [← hfs5]; exact h⟩
      · have h := br_f hb h
        refine AWp.exit ?_
        refine thenX ?_
        refine thenX ?_
        refine blockH ?_
        refine thenN ?_
        refine AWp.seq ?_
        refine AWp.seq ?_
        refine AWp.region ?_
        refine RW.step (d := ⟨some 36, .ro (a0.map (V4.row aI)) false, []⟩) (k := 0) rfl (dt hnt rfl rfl) (Stp.pure (G := sg) _ (by kernel_rfl)) ?_
        refine RW.step (d := ⟨some 37, .agg [(V4.row aI) s5.1], []⟩) (k := 0) rfl (dt hnt rfl rfl) (Stp.pure (G := sg) _ (by kernel_rfl)) ?_
        obtain ⟨x9, hx9, h⟩ := ob_inv h
        refine RW.step (d := ⟨some 38, aB x9, []⟩) (k := 0) rfl (dt hnt rfl rfl) (Stp.call0 _ rfl (k := 55) (caps := []) (by kernel_rfl) (C55 hx9) (vl_cons (vw_ro (fun h => h) (vwSegs_map (fun _ => rfl) _)) (vl_cons (vw_agg (vs_cons (vwList_flat rfl) vs_nil)) vl_nil)) vw_v) ?_
        refine RW.nil ?_
        refine thenN ?_
        refine AWp.cond (t := x9) (by kernel_rfl) (fun hb => ?_) (fun hb => ?_)
        · have h := br_t hb h
          refine AWp.seq ?_
          refine AWp.region ?_
          refine RW.step (d := ⟨some 39, .agg [(V4.row aI) (⟨0, 0, 0, 0⟩ : (V4 Int))], []⟩) (k := 0) rfl (dt hnt rfl rfl) (Stp.pure (G := sg) _ (by kernel_rfl)) ?_
          refine RW.step (d := ⟨none, .any, [(1, some ⟨36, none, [(V4.row aI) (⟨0, 0, 0, 0⟩ : (V4 Int))]⟩)]⟩) (k := 0) rfl (dn rfl) (Stp.store (G := sg) _ rfl (by kernel_rfl)) ?_
          refine RW.step (d := ⟨some 5, aB false, []⟩) (k := 0) rfl (dt hnt rfl rfl) (Stp.pure (G := sg) _ (by kernel_rfl)) ?_
          refine RW.nil ?_
          refine thenN ?_
          refine AWp.ret ?_
          refine thenR ?_
          injection h with h
          subst h
          exact ⟨[.agg [(V4.row aI) (⟨0, 0, 0, 0⟩ : (V4 Int))], aB false], _, [], _, by kernel_rfl, RetV.flat (vw_tup (vl_cons (vw_agg (vs_cons (vwList_flat rfl) vs_nil)) (vl_cons vw_v vl_nil)))⟩
        · have h := br_f hb h
          refine AWp.skip ?_
          refine thenN ?_
          refine AWp.seq ?_
          refine AWp.region ?_
          refine RW.step (d := ⟨some 40, .agg [(V4.row aI) s5.1], []⟩) (k := 0) rfl (dt hnt rfl rfl) (Stp.pure (G := sg) _ (by kernel_rfl)) ?_
          refine RW.step (d := ⟨none, .any, [(1, some ⟨36, none, [(V4.row aI) s5.1]⟩)]⟩) (k := 0) rfl (dn rfl) (Stp.store (G := sg) _ rfl (by kernel_rfl)) ?_
          refine RW.step (d := ⟨some 5, aB true, []⟩) (k := 0) rfl (dt hnt rfl rfl) (Stp.pure (G := sg) _ (by kernel_rfl)) ?_
          refine RW.nil ?_
          refine thenN ?_
          refine AWp.ret ?_
          injection h with h
          subst h
          exact ⟨[.agg [(V4.row aI) s5.1], aB true], _, [], _, by kernel_rfl, RetV.flat (vw_tup (vl_cons (vw_agg (vs_cons (vwList_flat rfl) vs_nil)) (vl_cons vw_v vl_nil)))⟩

/-- loop.example/g01203/impl.sum -/
def F56_L2 (n : Nat) (a0 : (List (V4 Int))) (s1 : ((V4 Int) × Int)) (f2 : (((V4 Int) × Int) → Option ((V4 Int)))) (f5 : ((V4 Int) × Int) → Option ((V4 Int))) (s4 : (V4 Int) × Int) : Option ((V4 Int)) :=
  br (decide (s4.2 < 4)) (ck (0 ≤ s4.2 ∧ s4.2 < 4) (lt (V4.get (gl a0 s1.2.toNat) s4.2.toNat : Int) fun x6 => ck (0 ≤ s4.2 ∧ s4.2 < 4) (lt (w64 ((V4.get s4.1 s4.2.toNat) + x6) : Int) fun x7 => ck (0 ≤ s4.2 ∧ s4.2 < 4) (f5 (V4.set s4.1 s4.2.toNat (Int.tmod x7 3), w64 (s4.2 + 1)))))) (f2 (s4.1, w64 (s1.2 + 1)))
def F56_L1 (n : Nat) (a0 : (List (V4 Int))) (f2 : ((V4 Int) × Int) → Option ((V4 Int))) (s1 : (V4 Int) × Int) : Option ((V4 Int)) :=
  lt (decide (s1.2 < (a0.length : Int)) : Bool) fun x3 => br (x3) (ck (0 ≤ s1.2 ∧ s1.2 < (a0.length : Int)) (fx (F56_L2 n a0 s1 f2) n (s1.1, 0))) (some s1.1)
def F56 (n : Nat) (a0 : (List (V4 Int))) : Option ((V4 Int)) :=
  fx (F56_L1 n a0) n ((⟨0, 0, 0, 0⟩ : (V4 Int)), 0)
theorem own56 : Own Try.prog 56 := ⟨_, Try.func56, rfl, by kernel_rfl⟩
theorem C56 {n : Nat} {a0 : (List (V4 Int))} {r : (V4 Int)} (h : F56 n a0 = some r) : DCall Try.prog 56 [.ro (a0.map (V4.row aI)) false] [] (.agg [(V4.row aI) r]) [] := by
  refine ⟨own56, VCall.enter (G := sg) Try.func56 rfl (Nat.le_of_ble_eq_true rfl) (Nat.le_of_ble_eq_true rfl) fun B hnt hn0 => ?_⟩
  unfold F56 at h
  refine AWp.seq ?_
  refine AWp.region ?_
  refine RW.step (d := ⟨some 2, .ptr 0 0 0, [(0, some ⟨36, none, [(V4.row aI) (⟨0, 0, 0, 0⟩ : (V4 Int))]⟩)]⟩) (k := 1) rfl (dt hnt rfl rfl) (Stp.new (G := sg) (by kernel_rfl)) ?_
  refine RW.nil ?_
  refine thenN ?_
  refine AWp.seq ?_
  refine AWp.region ?_
  refine RW.step (d := ⟨some 8, .agg [(V4.row aI) (⟨0, 0, 0, 0⟩ : (V4 Int))], []⟩) (k := 0) rfl (dt hnt rfl rfl) (Stp.pure (G := sg) _ (by kernel_rfl)) ?_
  refine RW.step (d := ⟨some 3, .ptr 1 0 0, [(1, some ⟨36, none, [(V4.row aI) (⟨0, 0, 0, 0⟩ : (V4 Int))]⟩)]⟩) (k := 1) rfl (dt hnt rfl rfl) (Stp.new (G := sg) (by kernel_rfl)) ?_
  refine RW.step (d := ⟨none, .any, [(1, some ⟨36, none, [(V4.row aI) (⟨0, 0, 0, 0⟩ : (V4 Int))]⟩)]⟩) (k := 0) rfl (dn rfl) (Stp.store (G := sg) _ rfl (by kernel_rfl)) ?_
  refine RW.nil ?_
  refine thenN ?_
  refine AWp.seq ?_
  refine AWp.seq ?_
  refine AWp.region ?_
  refine RW.step (d := ⟨some 9, .ro (a0.map (V4.row aI)) false, []⟩) (k := 0) rfl (dt hnt rfl rfl) (Stp.pure (G := sg) _ (by kernel_rfl)) ?_
  refine RW.step (d := ⟨some 10, aI (a0.length : Int), []⟩) (k := 0) rfl (dt hnt rfl rfl) (Stp.pure (G := sg) _ (P_len_ro (l := a0) (r := (V4.row aI)) (full := false) (el := 36) (by kernel_rfl) (by kernel_rfl))) ?_
  refine RW.step (d := ⟨some 11, aI 0, []⟩) (k := 0) rfl (dt hnt rfl rfl) (Stp.pure (G := sg) _ (by kernel_rfl)) ?_
  refine RW.nil ?_
  refine thenN ?_
  refine AWp.block ?_
  refine AWp.loop (fun i st' => ∃ (s1 : (V4 Int) × Int) (names : List (Nat × Nat)), StV B.n0 st' (tabN names) ⟨tabE [(2, .ptr 0 0 0), (3, .ptr 1 0 0), (9, .ro (a0.map (V4.row aI)) false), (10, aI (a0.length : Int)), (11, aI s1.2)], tabO [(0, ⟨36, none, [(V4.row aI) (⟨0, 0, 0, 0⟩ : (V4 Int))]⟩), (1, ⟨36, none, [(V4.row aI) s1.1]⟩)], 2⟩ ∧ fx (F56_L1 n a0) i s1 = some r) n ⟨((⟨0, 0, 0, 0⟩ : (V4 Int)), 0), [(0, 0), (1, 1)], (StV.tab (by rw [hn0]; rfl) (E_cons (a0 := .ptr 0 0 0) (by kernel_rfl) (vw_ptr rfl) (E_cons (a0 := .ptr 1 0 0) (by kernel_rfl) (vw_ptr rfl) (E_cons (a0 := .ro (a0.map (V4.row aI)) false) (by kernel_rfl) (vw_ro (fun h => h) (vwSegs_map (fun _ => rfl) _)) (E_cons (a0 := aI (a0.length : Int)) (by kernel_rfl) vw_v (E_cons (a0 := aI 0) (by kernel_rfl) vw_v E_nil))))) (O_cons 0 ⟨36, none, [(V4.row aI) (⟨0, 0, 0, 0⟩ : (V4 Int))]⟩ rfl (by kernel_rfl) rfl rfl (vs_cons (vwList_flat rfl) vs_nil) (O_cons 1 ⟨36, none, [(V4.row aI) (⟨0, 0, 0, 0⟩ : (V4 Int))]⟩ rfl (by kernel_rfl) rfl rfl (vs_cons (vwList_flat rfl) vs_nil) O_nil)) (by rw [hn0]; rfl)), h⟩ ?_
  rintro is1 st1 ⟨s1, names, hv, h⟩
  obtain ⟨ks1, f2, hks1, hfs1, h⟩ := fx_inv h
  refine AWp.view _ hv ?_
  unfold F56_L1 at h
  refine AWp.seq ?_
  refine AWp.region ?_
  obtain ⟨x3, hx3, h⟩ := lt_inv h
  refine RW.step (d := ⟨some 12, aB x3, []⟩) (k := 0) rfl (dt hnt rfl rfl) (Stp.pure (G := sg) _ (by rw [← hx3]; kernel_rfl)) ?_
  refine RW.nil ?_
  refine thenN ?_
  refine AWp.seq ?_
  refine AWp.cond (t := x3) (by kernel_rfl) (fun hb => ?_) (fun hb => ?_)
  · have h := br_t hb h
    refine AWp.skip ?_
    refine thenN ?_
    refine AWp.seq ?_
    refine AWp.block ?_
    refine AWp.seq ?_
    refine AWp.region ?_
    obtain ⟨hc51, h⟩ := ck_inv h
    refine RW.step (d := ⟨some 13, .rp (a0.map (V4.row aI)) s1.2.toNat 0, []⟩) (k := 0) rfl (dt hnt rfl rfl) (Stp.pure (G := sg) _ (P_ia_ro (l := a0) (r := (V4.row aI)) (full := false) (kk := .i64) (n := s1.2) (el := 36) (by kernel_rfl) (by kernel_rfl) (by kernel_rfl) (fun _ => rfl) rfl hc51)) ?_
    refine RW.step (d := ⟨some 14, .agg [(V4.row aI) (gl a0 s1.2.toNat)], []⟩) (k := 0) rfl (dt hnt rfl rfl) (Stp.pure (G := sg) _ (P_ld_rp (segs := (a0.map (V4.row aI))) (s := s1.2.toNat) (j := 0) (by kernel_rfl) (L_row (by kernel_rfl) (by first | omega | (simp; omega))))) ?_
    refine RW.step (d := ⟨some 5, .ptr 2 0 0, [(2, some ⟨36, none, [(V4.row aI) (⟨0, 0, 0, 0⟩ : (V4 Int))]⟩)]⟩) (k := 1) rfl (dt hnt rfl rfl) (Stp.new (G := sg) (by kernel_rfl)) ?_
    refine RW.step (d := ⟨none, .any, [(2, some ⟨36, none, [(V4.row aI) (gl a0 s1.2.toNat)]⟩)]⟩) (k := 0) rfl (dn rfl) (Stp.store (G := sg) _ rfl (by kernel_rfl)) ?_
    refine RW.nil ?_
    refine thenN ?_
    refine AWp.seq ?_
    refine AWp.region ?_
    refine RW.step (d := ⟨some 15, .agg [(V4.row aI) (gl a0 s1.2.toNat)], []⟩) (k := 0) rfl (dt hnt rfl rfl) (Stp.pure (G := sg) _ (by kernel_rfl)) ?_
    refine RW.step (d := ⟨some 16, aI 0, []⟩) (k := 0) rfl (dt hnt rfl rfl) (Stp.pure (G := sg) _ (by kernel_rfl)) ?_
    refine RW.nil ?_
    refine thenN ?_
    refine AWp.block ?_
    refine AWp.loop (fun i st' => ∃ (s4 : (V4 Int) × Int) (names : List (Nat × Nat)), StV B.n0 st' (tabN names) ⟨tabE [(2, .ptr 0 0 0), (3, .ptr 1 0 0), (9, .ro (a0.map (V4.row aI)) false), (10, aI (a0.length : Int)), (11, aI s1.2), (15, .agg [(V4.row aI) (gl a0 s1.2.toNat)]), (16, aI s4.2)], tabO [(0, ⟨36, none, [(V4.row aI) (⟨0, 0, 0, 0⟩ : (V4 Int))]⟩), (1, ⟨36, none, [(V4.row aI) s4.1]⟩)], 2⟩ ∧ fx (F56_L2 n a0 s1 f2) i s4 = some r) n ⟨(s1.1, 0), [(0, 0), (1, 1)], (StV.tab (by rw [hn0]; rfl) (E_cons (a0 := .ptr 0 0 0) (by kernel_rfl) (vw_ptr rfl) (E_cons (a0 := .ptr 1 0 0) (by kernel_rfl) (vw_ptr rfl) (E_cons (a0 := .ro (a0.map (V4.row aI)) false) (by kernel_rfl) (vw_ro (fun h => h) (vwSegs_map (fun _ => rfl) _)) (E_cons (a0 := aI (a0.length : Int)) (by kernel_rfl) vw_v (E_cons (a0 := aI s1.2) (by kernel_rfl) vw_v (E_cons (a0 := .agg [(V4.row aI) (gl a0 s1.2.toNat)]) (by kernel_rfl) (vw_agg (vs_cons (vwList_flat rfl) vs_nil)) (E_cons (a0 := aI 0) (by kernel_rfl) vw_v E_nil))))))) (O_cons 0 ⟨36, none, [(V4.row aI) (⟨0, 0, 0, 0⟩ : (V4 Int))]⟩ rfl (by kernel_rfl) rfl rfl (vs_cons (vwList_flat rfl) vs_nil) (O_cons 1 ⟨36, none, [(V4.row aI) s1.1]⟩ rfl (by kernel_rfl) rfl rfl (vs_cons (vwList_flat rfl) vs_nil) O_nil)) (by rw [hn0]; rfl)), h⟩ ?_
    rintro is4 st1 ⟨s4, names, hv, h⟩
    obtain ⟨ks4, f5, hks4, hfs4, h⟩ := fx_inv h
    refine AWp.view _ hv ?_
    unfold F56_L2 at h
    refine AWp.seq ?_
    refine AWp.region ?_
    refine RW.step (d := ⟨some 17, aB (decide (s4.2 < 4)), []⟩) (k := 0) rfl (dt hnt rfl rfl) (Stp.pure (G := sg) _ (by kernel_rfl)) ?_
    refine RW.nil ?_
    refine thenN ?_
    refine AWp.seq ?_
    refine AWp.cond (t := decide (s4.2 < 4)) (by kernel_rfl) (fun hb => ?_) (fun hb => ?_)
    · have h := br_t hb h
      refine AWp.skip ?_
      refine thenN ?_
      refine AWp.seq ?_
      refine AWp.block ?_
      refine AWp.seq ?_
      refine AWp.region ?_
      refine RW.step (d := ⟨some 18, aI s4.2, []⟩) (k := 0) rfl (dt hnt rfl rfl) (Stp.pure (G := sg) _ (by kernel_rfl)) ?_
      obtain ⟨hc58, h⟩ := ck_inv h
      obtain ⟨x6, hx6, h⟩ := lt_inv h
      refine RW.step (d := ⟨some 19, aI x6, []⟩) (k := 0) rfl (dt hnt rfl rfl) (Stp.pure (G := sg) _ (by rw [← hx6]; exact P_ix_row (row := (V4.row aI) (gl a0 s1.2.toNat)) (len := 4) (el := 3) (kk := .i64) (n := s4.2) (by kernel_rfl) (by kernel_rfl) (by kernel_rfl) rfl (by kernel_rfl) (by omega) (V4.row_get _ _ (by omega)))) ?_
      refine RW.step (d := ⟨some 6, aI s4.2, []⟩) (k := 0) rfl (dt hnt rfl rfl) (Stp.pure (G := sg) _ (by kernel_rfl)) ?_
      refine RW.step (d := ⟨some 7, aI x6, []⟩) (k := 0) rfl (dt hnt rfl rfl) (Stp.pure (G := sg) _ (by kernel_rfl)) ?_
      refine RW.nil ?_
      refine thenN ?_
      refine AWp.region ?_
      refine RW.step (d := ⟨some 20, aI s4.2, []⟩) (k := 0) rfl (dt hnt rfl rfl) (Stp.pure (G := sg) _ (by kernel_rfl)) ?_
      refine RW.step (d := ⟨some 21, aI s4.2, []⟩) (k := 0) rfl (dt hnt rfl rfl) (Stp.pure (G := sg) _ (by kernel_rfl)) ?_
      obtain ⟨hc59, h⟩ := ck_inv h
      refine RW.step (d := ⟨some 22, .ptr 1 0 s4.2.toNat, []⟩) (k := 0) rfl (dt hnt rfl rfl) (Stp.pure (G := sg) _ (P_ia_arr (nm := 1) (s := 0) (len := 4) (kk := .i64) (n := s4.2) (el := 3) (by kernel_rfl) (by kernel_rfl) (by kernel_rfl) rfl (by omega))) ?_
      refine RW.step (d := ⟨some 23, aI (V4.get s4.1 s4.2.toNat), []⟩) (k := 0) rfl (dt hnt rfl rfl) (Stp.pure (G := sg) _ (P_ld (nm := 1) (s := 0) (j := s4.2.toNat) (o := ⟨36, none, [(V4.row aI) s4.1]⟩) (by kernel_rfl) (by kernel_rfl) (L_cell (row := (V4.row aI) s4.1) (by kernel_rfl) (by kernel_rfl) (V4.row_get _ _ (by omega))))) ?_
      refine RW.step (d := ⟨some 24, aI x6, []⟩) (k := 0) rfl (dt hnt rfl rfl) (Stp.pure (G := sg) _ (by kernel_rfl)) ?_
      obtain ⟨x7, hx7, h⟩ := lt_inv h
      refine RW.step (d := ⟨some 25, aI x7, []⟩) (k := 0) rfl (dt hnt rfl rfl) (Stp.pure (G := sg) _ (by rw [← hx7]; kernel_rfl)) ?_
      refine RW.step (d := ⟨some 26, aI (Int.tmod x7 3), []⟩) (k := 0) rfl (dt hnt rfl rfl) (Stp.pure (G := sg) _ (by kernel_rfl)) ?_
      obtain ⟨hc60, h⟩ := ck_inv h
      refine RW.step (d := ⟨some 27, .ptr 1 0 s4.2.toNat, []⟩) (k := 0) rfl (dt hnt rfl rfl) (Stp.pure (G := sg) _ (P_ia_arr (nm := 1) (s := 0) (len := 4) (kk := .i64) (n := s4.2) (el := 3) (by kernel_rfl) (by kernel_rfl) (by kernel_rfl) rfl (by omega))) ?_
      refine RW.step (d := ⟨none, .any, [(1, some ⟨36, none, [(V4.row aI) (V4.set s4.1 s4.2.toNat (Int.tmod x7 3))]⟩)]⟩) (k := 0) rfl (dn rfl) (Stp.store (G := sg) _ rfl (S_st (s := 0) (j := s4.2.toNat) (o := ⟨36, none, [(V4.row aI) s4.1]⟩) (a := aI (Int.tmod x7 3)) (by kernel_rfl) (by kernel_rfl) (by kernel_rfl) (by kernel_rfl) (by kernel_rfl) (Nat.le_of_ble_eq_true rfl) (T_cell (row := (V4.row aI) s4.1) rfl (by kernel_rfl) (show s4.2.toNat < 4 by omega) (V4.row_set _ _ _ (by omega)) (by kernel_rfl)))) ?_
      refine RW.nil ?_
      refine blockN ?_
      refine thenN ?_
      refine AWp.region ?_
      refine RW.step (d := ⟨some 28, aI (w64 (s4.2 + 1)), []⟩) (k := 0) rfl (dt hnt rfl rfl) (Stp.pure (G := sg) _ (by kernel_rfl)) ?_
      refine RW.step (d := ⟨some 16, aI (w64 (s4.2 + 1)), []⟩) (k := 0) rfl (dt hnt rfl rfl) (Stp.pure (G := sg) _ (by kernel_rfl)) ?_
      refine RW.nil ?_
      exact ⟨ks4, by rw [hks4]; exact Nat.lt_succ_self _, (V4.set s4.1 s4.2.toNat (Int.tmod x7 3), w64 (s4.2 + 1)), [(0, 0), (1, 1)], (StV.tab (by rw [hn0]; rfl) (E_cons (a0 := .ptr 0 0 0) (by kernel_rfl) (vw_ptr rfl) (E_cons (a0 := .ptr 1 0 0) (by kernel_rfl) (vw_ptr rfl) (E_cons (a0 := .ro (a0.map (V4.row aI)) false) (by kernel_rfl) (vw_ro (fun h => h) (vwSegs_map (fun _ => rfl) _)) (E_cons (a0 := aI (a0.length : Int)) (by kernel_rfl) vw_v (E_cons (a0 := aI s1.2) (by kernel_rfl) vw_v (E_cons (a0 := .agg [(V4.row aI) (gl a0 s1.2.toNat)]) (by kernel_rfl) (vw_agg (vs_cons (vwList_flat rfl) vs_nil)) (E_cons (a0 := aI (w64 (s4.2 + 1))) (by kernel_rfl) vw_v E_nil))))))) (O_cons 0 ⟨36, none, [(V4.row aI) (⟨0, 0, 0, 0⟩ : (V4 Int))]⟩ rfl (by kernel_rfl) rfl rfl (vs_cons (vwList_flat rfl) vs_nil) (O_cons 1 ⟨36, none, [(V4.row aI) (V4.set s4.1 s4.2.toNat (Int.tmod x7 3))]⟩ rfl (by kernel_rfl) rfl rfl (vs_cons (vwList_flat rfl) vs_nil) O_nil)) (by rw [hn0]; rfl)), by rw [← hfs4]; exact h⟩
    · have h := br_f hb h
      refine AWp.exit ?_
      refine thenX ?_
      refine thenX ?_
      refine blockH ?_
      refine blockN ?_
      refine thenN ?_
      refine AWp.region ?_
      refine RW.step (d := ⟨some 29, aI (w64 (s1.2 + 1)), []⟩) (k := 0) rfl (dt hnt rfl rfl) (Stp.pure (G := sg) _ (by kernel_rfl)) ?_
      refine RW.step (d := ⟨some 11, aI (w64 (s1.2 + 1)), []⟩) (k := 0) rfl (dt hnt rfl rfl) (Stp.pure (G := sg) _ (by kernel_rfl)) ?_
      refine RW.nil ?_
      exact ⟨ks1, by rw [hks1]; exact Nat.lt_succ_self _, (s4.1, w64 (s1.2 + 1)), [(0, 0), (1, 1)], (StV.tab (by rw [hn0]; rfl) (E_cons (a0 := .ptr 0 0 0) (by kernel_rfl) (vw_ptr rfl) (E_cons (a0 := .ptr 1 0 0) (by kernel_rfl) (vw_ptr rfl) (E_cons (a0 := .ro (a0.map (V4.row aI)) false) (by kernel_rfl) (vw_ro (fun h => h) (vwSegs_map (fun _ => rfl) _)) (E_cons (a0 := aI (a0.length : Int)) (by kernel_rfl) vw_v (E_cons (a0 := aI (w64 (s1.2 + 1))) (by kernel_rfl) vw_v E_nil))))) (O_cons 0 ⟨36, none, [(V4.row aI) (⟨0, 0, 0, 0⟩ : (V4 Int))]⟩ rfl (by kernel_rfl) rfl rfl (vs_cons (vwList_flat rfl) vs_nil) (O_cons 1 ⟨36, none, [(V4.row aI) s4.1]⟩ rfl (by kernel_rfl) rfl rfl (vs_cons (vwList_flat rfl) vs_nil) O_nil)) (by rw [hn0]; rfl)), by rw [← hfs1]; exact h⟩
  · have h := br_f hb h
    refine AWp.exit ?_
    refine thenX ?_
    refine thenX ?_
    refine blockH ?_
    refine thenN ?_
    refine AWp.seq ?_
    refine AWp.region ?_
    refine RW.step (d := ⟨some 30, .agg [(V4.row aI) s1.1], []⟩) (k := 0) rfl (dt hnt rfl rfl) (Stp.pure (G := sg) _ (by kernel_rfl)) ?_
    refine RW.step (d := ⟨none, .any, [(0, some ⟨36, none, [(V4.row aI) s1.1]⟩)]⟩) (k := 0) rfl (dn rfl) (Stp.store (G := sg) _ rfl (by kernel_rfl)) ?_
    refine RW.nil ?_
    refine thenN ?_
    refine AWp.ret ?_
    injection h with h
    subst h
    exact ⟨[.agg [(V4.row aI) s1.1]], _, [], _, by kernel_rfl, RetV.flat (vw_agg (vs_cons (vwList_flat rfl) vs_nil))⟩

/-- slices.Index[[][4]int,[4]int] -/
def F85_L1 (n : Nat) (a0 : (List (V4 Int))) (a1 : (V4 Int)) (f2 : Int → Option (Int)) (s1 : Int) : Option (Int) :=
  lt (decide (s1 < (a0.length : Int)) : Bool) fun x3 => br (x3) (ck (0 ≤ s1 ∧ s1 < (a0.length : Int)) (lt (eqV4 a1 (gl a0 s1.toNat) : Bool) fun x4 => br (x4) (some s1) (f2 (w64 (s1 + 1))))) (some (-1))
def F85 (n : Nat) (a0 : (List (V4 Int))) (a1 : (V4 Int)) : Option (Int) :=
  fx (F85_L1 n a0 a1) n 0
theorem own85 : Own Try.prog 85 := ⟨_, Try.func85, rfl, by kernel_rfl⟩
theorem C85 {n : Nat} {a0 : (List (V4 Int))} {a1 : (V4 Int)} {r : Int} (h : F85 n a0 a1 = some r) : DCall Try.prog 85 [.ro (a0.map (V4.row aI)) false, .agg [(V4.row aI) a1]] [] (aI r) [] := by
  refine ⟨own85, VCall.enter (G := sg) Try.func85 rfl (Nat.le_of_ble_eq_true rfl) (Nat.le_of_ble_eq_true rfl) fun B hnt hn0 => ?_⟩
  unfold F85 at h
  refine AWp.seq ?_
  refine AWp.region ?_
  refine RW.step (d := ⟨some 3, .ptr 0 0 0, [(0, some ⟨36, none, [(V4.row aI) a1]⟩)]⟩) (k := 1) rfl (dt hnt rfl rfl) (Stp.new (G := sg) (by kernel_rfl)) ?_
  refine RW.step (d := ⟨some 4, aI 0, []⟩) (k := 0) rfl (dt hnt rfl rfl) (Stp.pure (G := sg) _ (by kernel_rfl)) ?_
  refine RW.nil ?_
  refine thenN ?_
  refine AWp.seq ?_
  refine AWp.seq ?_
  refine AWp.region ?_
  refine RW.step (d := ⟨some 6, .ro (a0.map (V4.row aI)) false, []⟩) (k := 0) rfl (dt hnt rfl rfl) (Stp.pure (G := sg) _ (by kernel_rfl)) ?_
  refine RW.step (d := ⟨some 7, aI (a0.length : Int), []⟩) (k := 0) rfl (dt hnt rfl rfl) (Stp.pure (G := sg) _ (P_len_ro (l := a0) (r := (V4.row aI)) (full := false) (el := 36) (by kernel_rfl) (by kernel_rfl))) ?_
  refine RW.step (d := ⟨some 8, aI 0, []⟩) (k := 0) rfl (dt hnt rfl rfl) (Stp.pure (G := sg) _ (by kernel_rfl)) ?_
  refine RW.nil ?_
  refine thenN ?_
  refine AWp.block ?_
  refine AWp.loop (fun i st' => ∃ (s1 : Int) (names : List (Nat × Nat)), StV B.n0 st' (tabN names) ⟨tabE [(0, .ro (a0.map (V4.row aI)) false), (3, .ptr 0 0 0), (7, aI (a0.length : Int)), (8, aI s1)], tabO [(0, ⟨36, none, [(V4.row aI) a1]⟩)], 1⟩ ∧ fx (F85_L1 n a0 a1) i s1 = some r) n ⟨0, [(0, 0)], (StV.tab (by rw [hn0]; rfl) (E_cons (a0 := .ro (a0.map (V4.row aI)) false) (by kernel_rfl) (vw_ro (fun h => h) (vwSegs_map (fun _ => rfl) _)) (E_cons (a0 := .ptr 0 0 0) (by kernel_rfl) (vw_ptr rfl) (E_cons (a0 := aI (a0.length : Int)) (by kernel_rfl) vw_v (E_cons (a0 := aI 0) (by kernel_rfl) vw_v E_nil)))) (O_cons 0 ⟨36, none, [(V4.row aI) a1]⟩ rfl (by kernel_rfl) rfl rfl (vs_cons (vwList_flat rfl) vs_nil) O_nil) (by rw [hn0]; rfl)), h⟩ ?_
  rintro is1 st1 ⟨s1, names, hv, h⟩
  obtain ⟨ks1, f2, hks1, hfs1, h⟩ := fx_inv h
  refine AWp.view _ hv ?_
  unfold F85_L1 at h
  refine AWp.seq ?_
  refine AWp.region ?_
  obtain ⟨x3, hx3, h⟩ := lt_inv h
  refine RW.step (d := ⟨some 9, aB x3, []⟩) (k := 0) rfl (dt hnt rfl rfl) (Stp.pure (G := sg) _ (by rw [← hx3]; kernel_rfl)) ?_
  refine RW.nil ?_
  refine thenN ?_
  refine AWp.seq ?_
  refine AWp.cond (t := x3) (by kernel_rfl) (fun hb => ?_) (fun hb => ?_)
  · have h := br_t hb h
    refine AWp.skip ?_
    refine thenN ?_
    refine AWp.seq ?_
    refine AWp.block ?_
    refine AWp.seq ?_
    refine AWp.region ?_
    refine RW.step (d := ⟨some 10, aI s1, []⟩) (k := 0) rfl (dt hnt rfl rfl) (Stp.pure (G := sg) _ (by kernel_rfl)) ?_
    refine RW.step (d := ⟨some 5, aI s1, []⟩) (k := 0) rfl (dt hnt rfl rfl) (Stp.pure (G := sg) _ (by kernel_rfl)) ?_
    refine RW.nil ?_
    refine thenN ?_
    refine AWp.seq ?_
    obtain ⟨hc6, h⟩ := ck_inv h
    obtain ⟨x4, hx4, h⟩ := lt_inv h
    refine AWp.drw (G := sg) [⟨⟨some 11, .agg [(V4.row aI) a1], []⟩, 0⟩, ⟨⟨some 12, .ro (a0.map (V4.row aI)) false, []⟩, 0⟩, ⟨⟨some 13, aI s1, []⟩, 0⟩, ⟨⟨some 14, .rp (a0.map (V4.row aI)) s1.toNat 0, []⟩, 0⟩, ⟨⟨some 15, .agg [(V4.row aI) (gl a0 s1.toNat)], []⟩, 0⟩, ⟨⟨some 16, aB x4, []⟩, 0⟩] (by kernel_rfl) (VCs.c (OpVC.p _ _ rfl rfl rfl (dt hnt rfl rfl) (Stp.pure (G := sg) _ (by kernel_rfl))) (VCs.c (OpVC.p _ _ rfl rfl rfl (dt hnt rfl rfl) (Stp.pure (G := sg) _ (by kernel_rfl))) (VCs.c (OpVC.p _ _ rfl rfl rfl (dt hnt rfl rfl) (Stp.pure (G := sg) _ (by kernel_rfl))) (VCs.c (OpVC.p _ _ rfl rfl rfl (dt hnt rfl rfl) (Stp.pure (G := sg) _ (P_ia_ro (l := a0) (r := (V4.row aI)) (full := false) (kk := .i64) (n := s1) (el := 36) (by kernel_rfl) (by kernel_rfl) (by kernel_rfl) (fun _ => rfl) rfl hc6))) (VCs.c (OpVC.p _ _ rfl rfl rfl (dt hnt rfl rfl) (Stp.pure (G := sg) _ (P_ld_rp (segs := (a0.map (V4.row aI))) (s := s1.toNat) (j := 0) (by kernel_rfl) (L_row (by kernel_rfl) (by first | omega | (simp; omega)))))) (VCs.c (OpVC.p _ _ rfl rfl rfl (dt hnt rfl rfl) (Stp.pure (G := sg) _ (by rw [← hx4]; kernel_rfl))) VCs.n)))))) ?_
    refine thenN ?_
    refine AWp.cond (t := x4) (by kernel_rfl) (fun hb => ?_) (fun hb => ?_)
    · have h := br_t hb h
      refine AWp.seq ?_
      refine AWp.region ?_
      refine RW.step (d := ⟨some 17, aI s1, []⟩) (k := 0) rfl (dt hnt rfl rfl) (Stp.pure (G := sg) _ (by kernel_rfl)) ?_
      refine RW.step (d := ⟨some 4, aI s1, []⟩) (k := 0) rfl (dt hnt rfl rfl) (Stp.pure (G := sg) _ (by kernel_rfl)) ?_
      refine RW.nil ?_
      refine thenN ?_
      refine AWp.ret ?_
      refine blockR ?_
      refine thenR ?_
      refine thenR ?_
      refine blockR ?_
      refine thenR ?_
      injection h with h
      subst h
      exact ⟨[aI s1], _, [], _, by kernel_rfl, RetV.flat vw_v⟩
    · have h := br_f hb h
      refine AWp.skip ?_
      refine blockN ?_
      refine thenN ?_
      refine AWp.region ?_
      refine RW.step (d := ⟨some 18, aI (w64 (s1 + 1)), []⟩) (k := 0) rfl (dt hnt rfl rfl) (Stp.pure (G := sg) _ (by kernel_rfl)) ?_
      refine RW.step (d := ⟨some 8, aI (w64 (s1 + 1)), []⟩) (k := 0) rfl (dt hnt rfl rfl) (Stp.pure (G := sg) _ (by kernel_rfl)) ?_
      refine RW.nil ?_
      exact ⟨ks1, by rw [hks1]; exact Nat.lt_succ_self _, w64 (s1 + 1), [(0, 0)], (StV.tab (by rw [hn0]; rfl) (E_cons (a0 := .ro (a0.map (V4.row aI)) false) (by kernel_rfl) (vw_ro (fun h => h) (vwSegs_map (fun _ => rfl) _)) (E_cons (a0 := .ptr 0 0 0) (by kernel_rfl) (vw_ptr rfl) (E_cons (a0 := aI (a0.length : Int)) (by kernel_rfl) vw_v (E_cons (a0 := aI (w64 (s1 + 1))) (by kernel_rfl) vw_v E_nil)))) (O_cons 0 ⟨36, none, [(V4.row aI) a1]⟩ rfl (by kernel_rfl) rfl rfl (vs_cons (vwList_flat rfl) vs_nil) O_nil) (by rw [hn0]; rfl)), by rw [← hfs1]; exact h⟩
  · have h := br_f hb h
    refine AWp.exit ?_
    refine thenX ?_
    refine thenX ?_
    refine blockH ?_
    refine thenN ?_
    refine AWp.seq ?_
    refine AWp.region ?_
    refine RW.step (d := ⟨some 4, aI (-1), []⟩) (k := 0) rfl (dt hnt rfl rfl) (Stp.pure (G := sg) _ (by kernel_rfl)) ?_
    refine RW.nil ?_
    refine thenN ?_
    refine AWp.ret ?_
    injection h with h
    subst h
    exact ⟨[aI (-1)], _, [], _, by kernel_rfl, RetV.flat vw_v⟩

/-- slices.Contains[[][4]int,[4]int] -/
def F77 (n : Nat) (a0 : (List (V4 Int))) (a1 : (V4 Int)) : Option (Bool) :=
  ob (F85 n a0 a1) fun (x1 : (Int)) => some (decide (0 ≤ x1))
theorem own77 : Own Try.prog 77 := ⟨_, Try.func77, rfl, by kernel_rfl⟩
theorem C77 {n : Nat} {a0 : (List (V4 Int))} {a1 : (V4 Int)} {r : Bool} (h : F77 n a0 a1 = some r) : DCall Try.prog 77 [.ro (a0.map (V4.row aI)) false, .agg [(V4.row aI) a1]] [] (aB r) [] := by
  refine ⟨own77, VCall.enter (G := sg) Try.func77 rfl (Nat.le_of_ble_eq_true rfl) (Nat.le_of_ble_eq_true rfl) fun B hnt hn0 => ?_⟩
  unfold F77 at h
  refine AWp.seq ?_
  refine AWp.region ?_
  refine RW.step (d := ⟨some 3, .ptr 0 0 0, [(0, some ⟨36, none, [(V4.row aI) a1]⟩)]⟩) (k := 1) rfl (dt hnt rfl rfl) (Stp.new (G := sg) (by kernel_rfl)) ?_
  refine RW.step (d := ⟨some 4, aB false, []⟩) (k := 0) rfl (dt hnt rfl rfl) (Stp.pure (G := sg) _ (by kernel_rfl)) ?_
  refine RW.nil ?_
  refine thenN ?_
  refine AWp.seq ?_
  refine AWp.region ?_
  refine RW.step (d := ⟨some 5, .ro (a0.map (V4.row aI)) false, []⟩) (k := 0) rfl (dt hnt rfl rfl) (Stp.pure (G := sg) _ (by kernel_rfl)) ?_
  refine RW.step (d := ⟨some 6, .agg [(V4.row aI) a1], []⟩) (k := 0) rfl (dt hnt rfl rfl) (Stp.pure (G := sg) _ (by kernel_rfl)) ?_
  obtain ⟨x1, hx1, h⟩ := ob_inv h
  refine RW.step (d := ⟨some 7, aI x1, []⟩) (k := 0) rfl (dt hnt rfl rfl) (Stp.call0 _ rfl (k := 85) (caps := []) (by kernel_rfl) (C85 hx1) (vl_cons (vw_ro (fun h => h) (vwSegs_map (fun _ => rfl) _)) (vl_cons (vw_agg (vs_cons (vwList_flat rfl) vs_nil)) vl_nil)) vw_v) ?_
  refine RW.step (d := ⟨some 8, aB (decide (0 ≤ x1)), []⟩) (k := 0) rfl (dt hnt rfl rfl) (Stp.pure (G := sg) _ (by kernel_rfl)) ?_
  refine RW.step (d := ⟨some 4, aB (decide (0 ≤ x1)), []⟩) (k := 0) rfl (dt hnt rfl rfl) (Stp.pure (G := sg) _ (by kernel_rfl)) ?_
  refine RW.nil ?_
  refine thenN ?_
  refine AWp.ret ?_
  injection h with h
  subst h
  exact ⟨[aB (decide (0 ≤ x1))], _, [], _, by kernel_rfl, RetV.flat vw_v⟩

/-- loop.example/g01203/impl.has -/
def F57 (n : Nat) (a0 : (List (V4 Int))) (a1 : (V4 Int)) : Option (Bool) :=
  ob (F77 n a0 a1) fun (x1 : (Bool)) => some x1
theorem own57 : Own Try.prog 57 := ⟨_, Try.func57, rfl, by kernel_rfl⟩
theorem C57 {n : Nat} {a0 : (List (V4 Int))} {a1 : (V4 Int)} {r : Bool} (h : F57 n a0 a1 = some r) : DCall Try.prog 57 [.ro (a0.map (V4.row aI)) false, .agg [(V4.row aI) a1]] [] (aB r) [] := by
  refine ⟨own57, VCall.enter (G := sg) Try.func57 rfl (Nat.le_of_ble_eq_true rfl) (Nat.le_of_ble_eq_true rfl) fun B hnt hn0 => ?_⟩
  unfold F57 at h
  refine AWp.seq ?_
  refine AWp.region ?_
  refine RW.step (d := ⟨some 3, .ptr 0 0 0, [(0, some ⟨36, none, [(V4.row aI) a1]⟩)]⟩) (k := 1) rfl (dt hnt rfl rfl) (Stp.new (G := sg) (by kernel_rfl)) ?_
  refine RW.step (d := ⟨some 4, aB false, []⟩) (k := 0) rfl (dt hnt rfl rfl) (Stp.pure (G := sg) _ (by kernel_rfl)) ?_
  refine RW.nil ?_
  refine thenN ?_
  refine AWp.seq ?_
  refine AWp.region ?_
  refine RW.step (d := ⟨some 5, .ro (a0.map (V4.row aI)) false, []⟩) (k := 0) rfl (dt hnt rfl rfl) (Stp.pure (G := sg) _ (by kernel_rfl)) ?_
  refine RW.step (d := ⟨some 6, .agg [(V4.row aI) a1], []⟩) (k := 0) rfl (dt hnt rfl rfl) (Stp.pure (G := sg) _ (by kernel_rfl)) ?_
  obtain ⟨x1, hx1, h⟩ := ob_inv h
  refine RW.step (d := ⟨some 7, aB x1, []⟩) (k := 0) rfl (dt hnt rfl rfl) (Stp.call0 _ rfl (k := 77) (caps := []) (by kernel_rfl) (C77 hx1) (vl_cons (vw_ro (fun h => h) (vwSegs_map (fun _ => rfl) _)) (vl_cons (vw_agg (vs_cons (vwList_flat rfl) vs_nil)) vl_nil)) vw_v) ?_
  refine RW.step (d := ⟨some 4, aB x1, []⟩) (k := 0) rfl (dt hnt rfl rfl) (Stp.pure (G := sg) _ (by kernel_rfl)) ?_
  refine RW.nil ?_
  refine thenN ?_
  refine AWp.ret ?_
  injection h with h
  subst h
  exact ⟨[aB x1], _, [], _, by kernel_rfl, RetV.flat vw_v⟩

/-- loop.example/g01203/impl.HiddenCard -/
def F28_L1 (n : Nat) (a0 : (List (V4 Int))) (a1 : (V4 Int)) (x4 : ((V4 Int))) (f6 : ((V4 Int) × Int) → Option ((V4 Int) × Bool)) (s5 : (V4 Int) × Int) : Option ((V4 Int) × Bool) :=
  br (decide (s5.2 < 4)) (ck (0 ≤ s5.2 ∧ s5.2 < 4) (ck (0 ≤ s5.2 ∧ s5.2 < 4) (lt (w64 ((V4.get a1 s5.2.toNat) - (V4.get x4 s5.2.toNat)) : Int) fun x7 => lt (Int.tmod (w64 (x7 + 3)) 3 : Int) fun x8 => ck (0 ≤ s5.2 ∧ s5.2 < 4) (f6 (V4.set s5.1 s5.2.toNat x8, w64 (s5.2 + 1)))))) (ob (F57 n a0 s5.1) fun (x9 : (Bool)) => br (x9) (some ((⟨0, 0, 0, 0⟩ : (V4 Int)), false)) (some (s5.1, true)))
def F28 (n : Nat) (a0 : (List (V4 Int))) (a1 : (V4 Int)) : Option ((V4 Int) × Bool) :=
  ob (F42 n a0) fun (x1 : (Bool)) => ob (br (!x1) (some true) (ob (F49 n a1) fun (x3 : (Bool)) => some (!x3))) fun (x2 : Bool) => br (x2) (some ((⟨0, 0, 0, 0⟩ : (V4 Int)), false)) (ob (F56 n a0) fun (x4 : ((V4 Int))) => fx (F28_L1 n a0 a1 x4) n ((⟨0, 0, 0, 0⟩ : (V4 Int)), 0))
theorem own28 : Own Try.prog 28 := ⟨_, Try.func28, rfl, by kernel_rfl⟩
theorem C28 {n : Nat} {a0 : (List (V4 Int))} {a1 : (V4 Int)} {r : (V4 Int) × Bool} (h : F28 n a0 a1 = some r) : DCall Try.prog 28 [.ro (a0.map (V4.row aI)) false, .agg [(V4.row aI) a1]] [] (.tup [.agg [(V4.row aI) r.1], aB r.2]) [] := by
  refine ⟨own28, VCall.enter (G := sg) Try.func28 rfl (Nat.le_of_ble_eq_true rfl) (Nat.le_of_ble_eq_true rfl) fun B hnt hn0 => ?_⟩
  unfold F28 at h
  refine AWp.seq ?_
  refine AWp.region ?_
  refine RW.step (d := ⟨some 3, .ptr 0 0 0, [(0, some ⟨36, none, [(V4.row aI) a1]⟩)]⟩) (k := 1) rfl (dt hnt rfl rfl) (Stp.new (G := sg) (by kernel_rfl)) ?_
  refine RW.step (d := ⟨some 4, .ptr 1 0 0, [(1, some ⟨36, none, [(V4.row aI) (⟨0, 0, 0, 0⟩ : (V4 Int))]⟩)]⟩) (k := 1) rfl (dt hnt rfl rfl) (Stp.new (G := sg) (by kernel_rfl)) ?_
  refine RW.step (d := ⟨some 5, aB false, []⟩) (k := 0) rfl (dt hnt rfl rfl) (Stp.pure (G := sg) _ (by kernel_rfl)) ?_
  refine RW.nil ?_
  refine thenN ?_
  refine AWp.seq ?_
  refine AWp.seq ?_
  refine AWp.region ?_
  refine RW.step (d := ⟨some 9, .ro (a0.map (V4.row aI)) false, []⟩) (k := 0) rfl (dt hnt rfl rfl) (Stp.pure (G := sg) _ (by kernel_rfl)) ?_
  obtain ⟨x1, hx1, h⟩ := ob_inv h
  refine RW.step (d := ⟨some 10, aB x1, []⟩) (k := 0) rfl (dt hnt rfl rfl) (Stp.call0 _ rfl (k := 42) (caps := []) (by kernel_rfl) (C42 hx1) (vl_cons (vw_ro (fun h => h) (vwSegs_map (fun _ => rfl) _)) vl_nil) vw_v) ?_
  refine RW.step (d := ⟨some 11, aB (!x1), []⟩) (k := 0) rfl (dt hnt rfl rfl) (Stp.pure (G := sg) _ (by kernel_rfl)) ?_
  refine RW.step (d := ⟨some 12, aB (!x1), []⟩) (k := 0) rfl (dt hnt rfl rfl) (Stp.pure (G := sg) _ (by kernel_rfl)) ?_
  obtain ⟨x2, hx2, h⟩ := ob_inv h
  refine RW.mid 4 (fun st' => ∃ names, StV B.n0 st' (tabN names) ⟨tabE [(0, .ro (a0.map (V4.row aI)) false), (3, .ptr 0 0 0), (4, .ptr 1 0 0), (16, aB x2)], tabO [(0, ⟨36, none, [(V4.row aI) a1]⟩), (1, ⟨36, none, [(V4.row aI) (⟨0, 0, 0, 0⟩ : (V4 Int))]⟩)], 2⟩) ?_ ?_
  · rcases Bool.eq_false_or_eq_true (!x1) with hb1 | hb1
    · have hx2 := br_t hb1 hx2
      refine RW.gf rfl rfl (by rw [hnt]; rfl) (b := !x1) (by kernel_rfl) hb1 (dt hnt rfl rfl) ?_
      refine RW.gf rfl rfl (by rw [hnt]; rfl) (b := !x1) (by kernel_rfl) hb1 (dt hnt rfl rfl) ?_
      refine RW.gf rfl rfl (by rw [hnt]; rfl) (b := !x1) (by kernel_rfl) hb1 (dt hnt rfl rfl) ?_
      refine RW.step (d := ⟨some 16, aB true, []⟩) (k := 0) rfl (dt hnt rfl rfl) (Stp.pure (G := sg) _ (P_pick_t (t := !x1) (by kernel_rfl) hb1 (by kernel_rfl))) ?_
      injection hx2 with hx2
      subst hx2
      exact RW.nil (thenN ⟨[(0, 0), (1, 1)], (StV.tab (by rw [hn0]; rfl) (E_cons (a0 := .ro (a0.map (V4.row aI)) false) (by kernel_rfl) (vw_ro (fun h => h) (vwSegs_map (fun _ => rfl) _)) (E_cons (a0 := .ptr 0 0 0) (by kernel_rfl) (vw_ptr rfl) (E_cons (a0 := .ptr 1 0 0) (by kernel_rfl) (vw_ptr rfl) (E_cons (a0 := aB true) (by kernel_rfl) vw_v E_nil)))) (O_cons 0 ⟨36, none, [(V4.row aI) a1]⟩ rfl (by kernel_rfl) rfl rfl (vs_cons (vwList_flat rfl) vs_nil) (O_cons 1 ⟨36, none, [(V4.row aI) (⟨0, 0, 0, 0⟩ : (V4 Int))]⟩ rfl (by kernel_rfl) rfl rfl (vs_cons (vwList_flat rfl) vs_nil) O_nil)) (by rw [hn0]; rfl))⟩)
    · have hx2 := br_f hb1 hx2
      refine RW.gt (d := ⟨some 13, .agg [(V4.row aI) a1], []⟩) (k := 0) rfl rfl (by rw [hnt]; rfl) (b := !x1) (by kernel_rfl) hb1 (dt hnt rfl rfl) (Stp.pure (G := sg) _ (by kernel_rfl)) ?_
      obtain ⟨x3, hx3, hx2⟩ := ob_inv hx2
      refine RW.gt (d := ⟨some 14, aB x3, []⟩) (k := 0) rfl rfl (by rw [hnt]; rfl) (b := !x1) (by kernel_rfl) hb1 (dt hnt rfl rfl) (Stp.call0 _ rfl (k := 49) (caps := []) (by kernel_rfl) (C49 hx3) (vl_cons (vw_agg (vs_cons (vwList_flat rfl) vs_nil)) vl_nil) vw_v) ?_
      refine RW.gt (d := ⟨some 15, aB (!x3), []⟩) (k := 0) rfl rfl (by rw [hnt]; rfl) (b := !x1) (by kernel_rfl) hb1 (dt hnt rfl rfl) (Stp.pure (G := sg) _ (by kernel_rfl)) ?_
      refine RW.step (d := ⟨some 16, aB (!x3), []⟩) (k := 0) rfl (dt hnt rfl rfl) (Stp.pure (G := sg) _ (P_pick_f (t := !x1) (by kernel_rfl) hb1 (by kernel_rfl))) ?_
      injection hx2 with hx2
      subst hx2
      exact RW.nil (thenN ⟨[(0, 0), (1, 1)], (StV.tab (by rw [hn0]; rfl) (E_cons (a0 := .ro (a0.map (V4.row aI)) false) (by kernel_rfl) (vw_ro (fun h => h) (vwSegs_map (fun _ => rfl) _)) (E_cons (a0 := .ptr 0 0 0) (by kernel_rfl) (vw_ptr rfl) (E_cons (a0 := .ptr 1 0 0) (by kernel_rfl) (vw_ptr rfl) (E_cons (a0 := aB (!x3)) (by kernel_rfl) vw_v E_nil)))) (O_cons 0 ⟨36, none, [(V4.row aI) a1]⟩ rfl (by kernel_rfl) rfl rfl (vs_cons (vwList_flat rfl) vs_nil) (O_cons 1 ⟨36, none, [(V4.row aI) (⟨0, 0, 0, 0⟩ : (V4 Int))]⟩ rfl (by kernel_rfl) rfl rfl (vs_cons (vwList_flat rfl) vs_nil) O_nil)) (by rw [hn0]; rfl))⟩)
  · rintro st2 ⟨names, hv⟩
    refine RW.weak _ hv ?_
    refine RW.nil ?_
    refine thenN ?_
    refine AWp.cond (t := x2) (by kernel_rfl) (fun hb => ?_) (fun hb => ?_)
    · have h := br_t hb h
      refine AWp.seq ?_
      refine AWp.region ?_
      refine RW.step (d := ⟨some 17, .agg [(V4.row aI) (⟨0, 0, 0, 0⟩ : (V4 Int))], []⟩) (k := 0) rfl (dt hnt rfl rfl) (Stp.pure (G := sg) _ (by kernel_rfl)) ?_
      refine RW.step (d := ⟨none, .any, [(1, some ⟨36, none, [(V4.row aI) (⟨0, 0, 0, 0⟩ : (V4 Int))]⟩)]⟩) (k := 0) rfl (dn rfl) (Stp.store (G := sg) _ rfl (by kernel_rfl)) ?_
      refine RW.step (d := ⟨some 5, aB false, []⟩) (k := 0) rfl (dt hnt rfl rfl) (Stp.pure (G := sg) _ (by kernel_rfl)) ?_
      refine RW.nil ?_
      refine thenN ?_
      refine AWp.ret ?_
      refine thenR ?_
      injection h with h
      subst h
      exact ⟨[.agg [(V4.row aI) (⟨0, 0, 0, 0⟩ : (V4 Int))], aB false], _, [], _, by kernel_rfl, RetV.flat (vw_tup (vl_cons (vw_agg (vs_cons (vwList_flat rfl) vs_nil)) (vl_cons vw_v vl_nil)))⟩
    · have h := br_f hb h
      refine AWp.skip ?_
      refine thenN ?_
      refine AWp.seq ?_
      refine AWp.region ?_
      refine RW.step (d := ⟨some 18, .agg [(V4.row aI) (⟨0, 0, 0, 0⟩ : (V4 Int))], []⟩) (k := 0) rfl (dt hnt rfl rfl) (Stp.pure (G := sg) _ (by kernel_rfl)) ?_
      refine RW.step (d := ⟨some 19, .ro (a0.map (V4.row aI)) false, []⟩) (k := 0) rfl (dt hnt rfl rfl) (Stp.pure (G := sg) _ (by kernel_rfl)) ?_
      obtain ⟨x4, hx4, h⟩ := ob_inv h
      refine RW.step (d := ⟨some 20, .agg [(V4.row aI) x4], []⟩) (k := 0) rfl (dt hnt rfl rfl) (Stp.call0 _ rfl (k := 56) (caps := []) (by kernel_rfl) (C56 hx4) (vl_cons (vw_ro (fun h => h) (vwSegs_map (fun _ => rfl) _)) vl_nil) (vw_agg (vs_cons (vwList_flat rfl) vs_nil))) ?_
      refine RW.step (d := ⟨some 6, .ptr 2 0 0, [(2, some ⟨36, none, [(V4.row aI) (⟨0, 0, 0, 0⟩ : (V4 Int))]⟩)]⟩) (k := 1) rfl (dt hnt rfl rfl) (Stp.new (G := sg) (by kernel_rfl)) ?_
      refine RW.step (d := ⟨some 7, .ptr 3 0 0, [(3, some ⟨36, none, [(V4.row aI) (⟨0, 0, 0, 0⟩ : (V4 Int))]⟩)]⟩) (k := 1) rfl (dt hnt rfl rfl) (Stp.new (G := sg) (by kernel_rfl)) ?_
      refine RW.step (d := ⟨none, .any, [(2, some ⟨36, none, [(V4.row aI) (⟨0, 0, 0, 0⟩ : (V4 Int))]⟩)]⟩) (k := 0) rfl (dn rfl) (Stp.store (G := sg) _ rfl (by kernel_rfl)) ?_
      refine RW.step (d := ⟨none, .any, [(3, some ⟨36, none, [(V4.row aI) x4]⟩)]⟩) (k := 0) rfl (dn rfl) (Stp.store (G := sg) _ rfl (by kernel_rfl)) ?_
      refine RW.nil ?_
      refine thenN ?_
      refine AWp.seq ?_
      refine AWp.seq ?_
      refine AWp.region ?_
      refine RW.step (d := ⟨some 21, aI 0, []⟩) (k := 0) rfl (dt hnt rfl rfl) (Stp.pure (G := sg) _ (by kernel_rfl)) ?_
      refine RW.nil ?_
      refine thenN ?_
      refine AWp.block ?_
      refine AWp.loop (fun i st' => ∃ (s5 : (V4 Int) × Int) (names : List (Nat × Nat)), StV B.n0 st' (tabN names) ⟨tabE [(0, .ro (a0.map (V4.row aI)) false), (3, .ptr 0 0 0), (4, .ptr 1 0 0), (6, .ptr 2 0 0), (7, .ptr 3 0 0), (21, aI s5.2)], tabO [(0, ⟨36, none, [(V4.row aI) a1]⟩), (1, ⟨36, none, [(V4.row aI) (⟨0, 0, 0, 0⟩ : (V4 Int))]⟩), (2, ⟨36, none, [(V4.row aI) s5.1]⟩), (3, ⟨36, none, [(V4.row aI) x4]⟩)], 4⟩ ∧ fx (F28_L1 n a0 a1 x4) i s5 = some r) n ⟨((⟨0, 0, 0, 0⟩ : (V4 Int)), 0), [(0, 0), (1, 1), (2, 2), (3, 3)], (StV.tab (by rw [hn0]; rfl) (E_cons (a0 := .ro (a0.map (V4.row aI)) false) (by kernel_rfl) (vw_ro (fun h => h) (vwSegs_map (fun _ => rfl) _)) (E_cons (a0 := .ptr 0 0 0) (by kernel_rfl) (vw_ptr rfl) (E_cons (a0 := .ptr 1 0 0) (by kernel_rfl) (vw_ptr rfl) (E_cons (a0 := .ptr 2 0 0) (by kernel_rfl) (vw_ptr rfl) (E_cons (a0 := .ptr 3 0 0) (by kernel_rfl) (vw_ptr rfl) (E_cons (a0 := aI 0) (by kernel_rfl) vw_v E_nil)))))) (O_cons 0 ⟨36, none, [(V4.row aI) a1]⟩ rfl (by kernel_rfl) rfl rfl (vs_cons (vwList_flat rfl) vs_nil) (O_cons 1 ⟨36, none, [(V4.row aI) (⟨0, 0, 0, 0⟩ : (V4 Int))]⟩ rfl (by kernel_rfl) rfl rfl (vs_cons (vwList_flat rfl) vs_nil) (O_cons 2 ⟨36, none, [(V4.row aI) (⟨0, 0, 0, 0⟩ : (V4 Int))]⟩ rfl (by kernel_rfl) rfl rfl (vs_cons (vwList_flat rfl) vs_nil) (O_cons 3 ⟨36, none, [(V4.row aI) x4]⟩ rfl (by kernel_rfl) rfl rfl (vs_cons (vwList_flat rfl) vs_nil) O_nil)))) (by rw [hn0]; rfl)), h⟩ ?_
      rintro is5 st1 ⟨s5, names, hv, h⟩
      obtain ⟨ks5, f6, hks5, hfs5, h⟩ := fx_inv h
      refine AWp.view _ hv ?_
      unfold F28_L1 at h
      refine AWp.seq ?_
      refine AWp.region ?_
      refine RW.step (d := ⟨some 22, aB (decide (s5.2 < 4)), []⟩) (k := 0) rfl (dt hnt rfl rfl) (Stp.pure (G := sg) _ (by kernel_rfl)) ?_
      refine RW.nil ?_
      refine thenN ?_
      refine AWp.seq ?_
      refine AWp.cond (t := decide (s5.2 < 4)) (by kernel_rfl) (fun hb => ?_) (fun hb => ?_)
      · have h := br_t hb h
        refine AWp.skip ?_
        refine thenN ?_
        refine AWp.seq ?_
        refine AWp.block ?_
        refine AWp.seq ?_
        refine AWp.region ?_
        refine RW.step (d := ⟨some 23, aI s5.2, []⟩) (k := 0) rfl (dt hnt rfl rfl) (Stp.pure (G := sg) _ (by kernel_rfl)) ?_
        refine RW.step (d := ⟨some 8, aI s5.2, []⟩) (k := 0) rfl (dt hnt rfl rfl) (Stp.pure (G := sg) _ (by kernel_rfl)) ?_
        refine RW.nil ?_
        refine thenN ?_
        obtain ⟨hc16, h⟩ := ck_inv h
        obtain ⟨hc17, h⟩ := ck_inv h
        obtain ⟨x7, hx7, h⟩ := lt_inv h
        obtain ⟨x8, hx8, h⟩ := lt_inv h
        obtain ⟨hc18, h⟩ := ck_inv h
        refine AWp.drw (G := sg) [⟨⟨some 24, aI s5.2, []⟩, 0⟩, ⟨⟨some 25, aI s5.2, []⟩, 0⟩, ⟨⟨some 26, .ptr 0 0 s5.2.toNat, []⟩, 0⟩, ⟨⟨some 27, aI (V4.get a1 s5.2.toNat), []⟩, 0⟩, ⟨⟨some 28, aI s5.2, []⟩, 0⟩, ⟨⟨some 29, .ptr 3 0 s5.2.toNat, []⟩, 0⟩, ⟨⟨some 30, aI (V4.get x4 s5.2.toNat), []⟩, 0⟩, ⟨⟨some 31, aI x7, []⟩, 0⟩, ⟨⟨some 32, aI (w64 (x7 + 3)), []⟩, 0⟩, ⟨⟨some 33, aI x8, []⟩, 0⟩, ⟨⟨some 34, .ptr 2 0 s5.2.toNat, []⟩, 0⟩, ⟨⟨none, .any, [(2, some ⟨36, none, [(V4.row aI) (V4.set s5.1 s5.2.toNat x8)]⟩)]⟩, 0⟩] (by kernel_rfl) (VCs.c (OpVC.p _ _ rfl rfl rfl (dt hnt rfl rfl) (Stp.pure (G := sg) _ (by kernel_rfl))) (VCs.c (OpVC.p _ _ rfl rfl rfl (dt hnt rfl rfl) (Stp.pure (G := sg) _ (by kernel_rfl))) (VCs.c (OpVC.p _ _ rfl rfl rfl (dt hnt rfl rfl) (Stp.pure (G := sg) _ (P_ia_arr (nm := 0) (s := 0) (len := 4) (kk := .i64) (n := s5.2) (el := 3) (by kernel_rfl) (by kernel_rfl) (by kernel_rfl) rfl (by omega)))) (VCs.c (OpVC.p _ _ rfl rfl rfl (dt hnt rfl rfl) (Stp.pure (G := sg) _ (P_ld (nm := 0) (s := 0) (j := s5.2.toNat) (o := ⟨36, none, [(V4.row aI) a1]⟩) (by kernel_rfl) (by kernel_rfl) (L_cell (row := (V4.row aI) a1) (by kernel_rfl) (by kernel_rfl) (V4.row_get _ _ (by omega)))))) (VCs.c (OpVC.p _ _ rfl rfl rfl (dt hnt rfl rfl) (Stp.pure (G := sg) _ (by kernel_rfl))) (VCs.c (OpVC.p _ _ rfl rfl rfl (dt hnt rfl rfl) (Stp.pure (G := sg) _ (P_ia_arr (nm := 3) (s := 0) (len := 4) (kk := .i64) (n := s5.2) (el := 3) (by kernel_rfl) (by kernel_rfl) (by kernel_rfl) rfl (by omega)))) (VCs.c (OpVC.p _ _ rfl rfl rfl (dt hnt rfl rfl) (Stp.pure (G := sg) _ (P_ld (nm := 3) (s := 0) (j := s5.2.toNat) (o := ⟨36, none, [(V4.row aI) x4]⟩) (by kernel_rfl) (by kernel_rfl) (L_cell (row := (V4.row aI) x4) (by kernel_rfl) (by kernel_rfl) (V4.row_get _ _ (by omega)))))) (VCs.c (OpVC.p _ _ rfl rfl rfl (dt hnt rfl rfl) (Stp.pure (G := sg) _ (by rw [← hx7]; kernel_rfl))) (VCs.c (OpVC.p _ _ rfl rfl rfl (dt hnt rfl rfl) (Stp.pure (G := sg) _ (by kernel_rfl))) (VCs.c (OpVC.p _ _ rfl rfl rfl (dt hnt rfl rfl) (Stp.pure (G := sg) _ (by rw [← hx8]; kernel_rfl))) (VCs.c (OpVC.p _ _ rfl rfl rfl (dt hnt rfl rfl) (Stp.pure (G := sg) _ (P_ia_arr (nm := 2) (s := 0) (len := 4) (kk := .i64) (n := s5.2) (el := 3) (by kernel_rfl) (by kernel_rfl) (by kernel_rfl) rfl (by omega)))) (VCs.c (OpVC.p _ _ rfl rfl rfl (dn rfl) (Stp.store (G := sg) _ rfl (S_st (s := 0) (j := s5.2.toNat) (o := ⟨36, none, [(V4.row aI) s5.1]⟩) (a := aI x8) (by kernel_rfl) (by kernel_rfl) (by kernel_rfl) (by kernel_rfl) (by kernel_rfl) (Nat.le_of_ble_eq_true rfl) (T_cell (row := (V4.row aI) s5.1) rfl (by kernel_rfl) (show s5.2.toNat < 4 by omega) (V4.row_set _ _ _ (by omega)) (by kernel_rfl))))) VCs.n)))))))))))) ?_
        refine blockN ?_
        refine thenN ?_
        refine AWp.region ?_
        refine RW.step (d := ⟨some 35, aI (w64 (s5.2 + 1)), []⟩) (k := 0) rfl (dt hnt rfl rfl) (Stp.pure (G := sg) _ (by kernel_rfl)) ?_
        refine RW.step (d := ⟨some 21, aI (w64 (s5.2 + 1)), []⟩) (k := 0) rfl (dt hnt rfl rfl) (Stp.pure (G := sg) _ (by kernel_rfl)) ?_
        refine RW.nil ?_
        exact ⟨ks5, by rw [hks5]; exact Nat.lt_succ_self _, (V4.set s5.1 s5.2.toNat x8, w64 (s5.2 + 1)), [(0, 0), (1, 1), (2, 2), (3, 3)], (StV.tab (by rw [hn0]; rfl) (E_cons (a0 := .ro (a0.map (V4.row aI)) false) (by kernel_rfl) (vw_ro (fun h => h) (vwSegs_map (fun _ => rfl) _)) (E_cons (a0 := .ptr 0 0 0) (by kernel_rfl) (vw_ptr rfl) (E_cons (a0 := .ptr 1 0 0) (by kernel_rfl) (vw_ptr rfl) (E_cons (a0 := .ptr 2 0 0) (by kernel_rfl) (vw_ptr rfl) (E_cons (a0 := .ptr 3 0 0) (by kernel_rfl) (vw_ptr rfl) (E_cons (a0 := aI (w64 (s5.2 + 1))) (by kernel_rfl) vw_v E_nil)))))) (O_cons 0 ⟨36, none, [(V4.row aI) a1]⟩ rfl (by kernel_rfl) rfl rfl (vs_cons (vwList_flat rfl) vs_nil) (O_cons 1 ⟨36, none, [(V4.row aI) (⟨0, 0, 0, 0⟩ : (V4 Int))]⟩ rfl (by kernel_rfl) rfl rfl (vs_cons (vwList_flat rfl) vs_nil) (O_cons 2 ⟨36, none, [(V4.row aI) (V4.set s5.1 s5.2.toNat x8)]⟩ rfl (by kernel_rfl) rfl rfl (vs_cons (vwList_flat rfl) vs_nil) (O_cons 3 ⟨36, none, [(V4.row aI) x4]⟩ rfl (by kernel_rfl) rfl rfl (vs_cons (vwList_flat rfl) vs_nil) O_nil)))) (by rw [hn0]; rfl)), by rw [← hfs5]; exact h⟩
      · have h := br_f hb h
        refine AWp.exit ?_
        refine thenX ?_
        refine thenX ?_
        refine blockH ?_
        refine thenN ?_
        refine AWp.seq ?_
        refine AWp.seq ?_
        refine AWp.region ?_
        refine RW.step (d := ⟨some 36, .ro (a0.map (V4.row aI)) false, []⟩) (k := 0) rfl (dt hnt rfl rfl) (Stp.pure (G := sg) _ (by kernel_rfl)) ?_
        refine RW.step (d := ⟨some 37, .agg [(V4.row aI) s5.1], []⟩) (k := 0) rfl (dt hnt rfl rfl) (Stp.pure (G := sg) _ (by kernel_rfl)) ?_
        obtain ⟨x9, hx9, h⟩ := ob_inv h
        refine RW.step (d := ⟨some 38, aB x9, []⟩) (k := 0) rfl (dt hnt rfl rfl) (Stp.call0 _ rfl (k := 57) (caps := []) (by kernel_rfl) (C57 hx9) (vl_cons (vw_ro (fun h => h) (vwSegs_map (fun _ => rfl) _)) (vl_cons (vw_agg (vs_cons (vwList_flat rfl) vs_nil)) vl_nil)) vw_v) ?_
        refine RW.nil ?_
        refine thenN ?_
        refine AWp.cond (t := x9) (by kernel_rfl) (fun hb => ?_) (fun hb => ?_)
        · have h := br_t hb h
          refine AWp.seq ?_
          refine AWp.region ?_
          refine RW.step (d := ⟨some 39, .agg [(V4.row aI) (⟨0, 0, 0, 0⟩ : (V4 Int))], []⟩) (k := 0) rfl (dt hnt rfl rfl) (Stp.pure (G := sg) _ (by kernel_rfl)) ?_
          refine RW.step (d := ⟨none, .any, [(1, some ⟨36, none, [(V4.row aI) (⟨0, 0, 0, 0⟩ : (V4 Int))]⟩)]⟩) (k := 0) rfl (dn rfl) (Stp.store (G := sg) _ rfl (by kernel_rfl)) ?_
          refine RW.step (d := ⟨some 5, aB false, []⟩) (k := 0) rfl (dt hnt rfl rfl) (Stp.pure (G := sg) _ (by kernel_rfl)) ?_
          refine RW.nil ?_
          refine thenN ?_
          refine AWp.ret ?_
          refine thenR ?_
          injection h with h
          subst h
          exact ⟨[.agg [(V4.row aI) (⟨0, 0, 0, 0⟩ : (V4 Int))], aB false], _, [], _, by kernel_rfl, RetV.flat (vw_tup (vl_cons (vw_agg (vs_cons (vwList_flat rfl) vs_nil)) (vl_cons vw_v vl_nil)))⟩
        · have h := br_f hb h
          refine AWp.skip ?_
          refine thenN ?_
          refine AWp.seq ?_
          refine AWp.region ?_
          refine RW.step (d := ⟨some 40, .agg [(V4.row aI) s5.1], []⟩) (k := 0) rfl (dt hnt rfl rfl) (Stp.pure (G := sg) _ (by kernel_rfl)) ?_
          refine RW.step (d := ⟨none, .any, [(1, some ⟨36, none, [(V4.row aI) s5.1]⟩)]⟩) (k := 0) rfl (dn rfl) (Stp.store (G := sg) _ rfl (by kernel_rfl)) ?_
          refine RW.step (d := ⟨some 5, aB true, []⟩) (k := 0) rfl (dt hnt rfl rfl) (Stp.pure (G := sg) _ (by kernel_rfl)) ?_
          refine RW.nil ?_
          refine thenN ?_
          refine AWp.ret ?_
          injection h with h
          subst h
          exact ⟨[.agg [(V4.row aI) s5.1], aB true], _, [], _, by kernel_rfl, RetV.flat (vw_tup (vl_cons (vw_agg (vs_cons (vwList_flat rfl) vs_nil)) (vl_cons vw_v vl_nil)))⟩

/-- loop.example/g01203/laws.FnExactHiddenCard -/
def F7 (n : Nat) (a0 : (List (V4 Int))) (a1 : (V4 Int)) : Option (Bool) :=
  ob (F10 n a0 1048576) fun (x1 : (Int)) => br (decide (x1 < 0)) (some true) (ob (F12 n a0) fun (x2 : ((List (V4 Int)))) => ob (F21 n a1) fun (x3 : ((V4 Int))) => ob (F27 n x2 x3) fun (x4 : ((V4 Int) × Bool)) => ob (F12 n a0) fun (x5 : ((List (V4 Int)))) => ob (F21 n a1) fun (x6 : ((V4 Int))) => ob (F28 n x5 x6) fun (x7 : ((V4 Int) × Bool)) => ob (F29 n x7.1 x4.1) fun (x8 : (Bool)) => ob (br (!x8) (some true) (some (!(x7.2 == x4.2)))) fun (x9 : Bool) => br (x9) (some false) (ob (F12 n a0) fun (x10 : ((List (V4 Int)))) => ob (F14 n x5 x10) fun (x11 : (Bool)) => br (!x11) (some false) (some true)))
theorem own7 : Own Try.prog 7 := ⟨_, Try.func7, rfl, by kernel_rfl⟩
theorem C7 {n : Nat} {a0 : (List (V4 Int))} {a1 : (V4 Int)} {r : Bool} (h : F7 n a0 a1 = some r) : DCall Try.prog 7 [.ro (a0.map (V4.row aI)) false, .agg [(V4.row aI) a1]] [] (aB r) [] := by
  refine ⟨own7, VCall.enter (G := sg) Try.func7 rfl (Nat.le_of_ble_eq_true rfl) (Nat.le_of_ble_eq_true rfl) fun B hnt hn0 => ?_⟩
  unfold F7 at h
  refine AWp.seq ?_
  refine AWp.region ?_
  refine RW.step (d := ⟨some 3, .ptr 0 0 0, [(0, some ⟨36, none, [(V4.row aI) a1]⟩)]⟩) (k := 1) rfl (dt hnt rfl rfl) (Stp.new (G := sg) (by kernel_rfl)) ?_
  refine RW.step (d := ⟨some 4, aB false, []⟩) (k := 0) rfl (dt hnt rfl rfl) (Stp.pure (G := sg) _ (by kernel_rfl)) ?_
  refine RW.nil ?_
  refine thenN ?_
  refine AWp.seq ?_
  refine AWp.region ?_
  refine RW.step (d := ⟨some 5, aI 1048576, []⟩) (k := 0) rfl (dt hnt rfl rfl) (Stp.pure (G := sg) _ (by kernel_rfl)) ?_
  refine RW.nil ?_
  refine thenN ?_
  refine AWp.seq ?_
  refine AWp.region ?_
  refine RW.step (d := ⟨some 11, .ro (a0.map (V4.row aI)) false, []⟩) (k := 0) rfl (dt hnt rfl rfl) (Stp.pure (G := sg) _ (by kernel_rfl)) ?_
  refine RW.step (d := ⟨some 12, aI 1048576, []⟩) (k := 0) rfl (dt hnt rfl rfl) (Stp.pure (G := sg) _ (by kernel_rfl)) ?_
  obtain ⟨x1, hx1, h⟩ := ob_inv h
  refine RW.step (d := ⟨some 13, aI x1, []⟩) (k := 0) rfl (dt hnt rfl rfl) (Stp.call0 _ rfl (k := 10) (caps := []) (by kernel_rfl) (C10 hx1) (vl_cons (vw_ro (fun h => h) (vwSegs_map (fun _ => rfl) _)) (vl_cons vw_v vl_nil)) vw_v) ?_
  refine RW.step (d := ⟨some 5, aI x1, []⟩) (k := 0) rfl (dt hnt rfl rfl) (Stp.pure (G := sg) _ (by kernel_rfl)) ?_
  refine RW.nil ?_
  refine thenN ?_
  refine AWp.seq ?_
  refine AWp.seq ?_
  refine AWp.region ?_
  refine RW.step (d := ⟨some 14, aI x1, []⟩) (k := 0) rfl (dt hnt rfl rfl) (Stp.pure (G := sg) _ (by kernel_rfl)) ?_
  refine RW.step (d := ⟨some 15, aB (decide (x1 < 0)), []⟩) (k := 0) rfl (dt hnt rfl rfl) (Stp.pure (G := sg) _ (by kernel_rfl)) ?_
  refine RW.nil ?_
  refine thenN ?_
  refine AWp.cond (t := decide (x1 < 0)) (by kernel_rfl) (fun hb => ?_) (fun hb => ?_)
  · have h := br_t hb h
    refine AWp.seq ?_
    refine AWp.region ?_
    refine RW.step (d := ⟨some 4, aB true, []⟩) (k := 0) rfl (dt hnt rfl rfl) (Stp.pure (G := sg) _ (by kernel_rfl)) ?_
    refine RW.nil ?_
    refine thenN ?_
    refine AWp.ret ?_
    refine thenR ?_
    injection h with h
    subst h
    exact ⟨[aB true], _, [], _, by kernel_rfl, RetV.flat vw_v⟩
  · have h := br_f hb h
    refine AWp.skip ?_
    refine thenN ?_
    refine AWp.seq ?_
    obtain ⟨x2, hx2, h⟩ := ob_inv h
    obtain ⟨x3, hx3, h⟩ := ob_inv h
    obtain ⟨x4, hx4, h⟩ := ob_inv h
    refine AWp.drw (G := sg) [⟨⟨some 17, .ro (a0.map (V4.row aI)) false, []⟩, 0⟩, ⟨⟨some 18, .sl 1 0 x2.length, [(1, some ⟨36, some 4, (x2.map (V4.row aI))⟩)]⟩, 1⟩, ⟨⟨some 19, .agg [(V4.row aI) a1], []⟩, 0⟩, ⟨⟨some 20, .agg [(V4.row aI) x3], []⟩, 0⟩, ⟨⟨some 21, .tup [.agg [(V4.row aI) x4.1], aB x4.2], []⟩, 0⟩, ⟨⟨some 16, .tup [.agg [(V4.row aI) x4.1], aB x4.2], []⟩, 0⟩, ⟨⟨some 22, .agg [(V4.row aI) x4.1], []⟩, 0⟩, ⟨⟨some 23, aB x4.2, []⟩, 0⟩, ⟨⟨some 6, .ptr 2 0 0, [(2, some ⟨36, none, [(V4.row aI) (⟨0, 0, 0, 0⟩ : (V4 Int))]⟩)]⟩, 1⟩, ⟨⟨none, .any, [(2, some ⟨36, none, [(V4.row aI) x4.1]⟩)]⟩, 0⟩, ⟨⟨some 7, aB x4.2, []⟩, 0⟩] (by kernel_rfl) (VCs.c (OpVC.p _ _ rfl rfl rfl (dt hnt rfl rfl) (Stp.pure (G := sg) _ (by kernel_rfl))) (VCs.c (OpVC.p _ _ rfl rfl rfl (dt hnt rfl rfl) (Stp.callN (n := 1) (us := [some ⟨36, some 4, (x2.map (V4.row aI))⟩]) rfl (k := 12) (caps := []) (by kernel_rfl) (C12 hx2) (vl_cons (vw_ro (fun h => h) (vwSegs_map (fun _ => rfl) _)) vl_nil) rfl (bk_cons rfl rfl (vwSegs_map (fun _ => rfl) _) bk_nil) (vw_slq rfl (by first | rfl | simp)))) (VCs.c (OpVC.p _ _ rfl rfl rfl (dt hnt rfl rfl) (Stp.pure (G := sg) _ (by kernel_rfl))) (VCs.c (OpVC.p _ _ rfl rfl rfl (dt hnt rfl rfl) (Stp.call0 _ rfl (k := 21) (caps := []) (by kernel_rfl) (C21 hx3) (vl_cons (vw_agg (vs_cons (vwList_flat rfl) vs_nil)) vl_nil) (vw_agg (vs_cons (vwList_flat rfl) vs_nil)))) (VCs.c (OpVC.p _ _ rfl rfl rfl (dt hnt rfl rfl) (Stp.call0 _ rfl (k := 27) (caps := []) (by kernel_rfl) (C27 hx4) (vl_cons (vw_lendM (ty := 36) (k := 4) (l := x2) none_ne (by kernel_rfl) (by first | rfl | simp) (fun _ => rfl)) (vl_cons (vw_agg (vs_cons (vwList_flat rfl) vs_nil)) vl_nil)) (vw_tup (vl_cons (vw_agg (vs_cons (vwList_flat rfl) vs_nil)) (vl_cons vw_v vl_nil))))) (VCs.c (OpVC.p _ _ rfl rfl rfl (dt hnt rfl rfl) (Stp.pure (G := sg) _ (by kernel_rfl))) (VCs.c (OpVC.p _ _ rfl rfl rfl (dt hnt rfl rfl) (Stp.pure (G := sg) _ (by kernel_rfl))) (VCs.c (OpVC.p _ _ rfl rfl rfl (dt hnt rfl rfl) (Stp.pure (G := sg) _ (by kernel_rfl))) (VCs.c (OpVC.p _ _ rfl rfl rfl (dt hnt rfl rfl) (Stp.new (G := sg) (by kernel_rfl))) (VCs.c (OpVC.p _ _ rfl rfl rfl (dn rfl) (Stp.store (G := sg) _ rfl (by kernel_rfl))) (VCs.c (OpVC.p _ _ rfl rfl rfl (dt hnt rfl rfl) (Stp.pure (G := sg) _ (by kernel_rfl))) VCs.n))))))))))) ?_
    refine thenN ?_
    refine AWp.seq ?_
    refine AWp.region ?_
    refine RW.step (d := ⟨some 24, .ro (a0.map (V4.row aI)) false, []⟩) (k := 0) rfl (dt hnt rfl rfl) (Stp.pure (G := sg) _ (by kernel_rfl)) ?_
    obtain ⟨x5, hx5, h⟩ := ob_inv h
    refine RW.step (d := ⟨some 25, .sl 3 0 x5.length, [(3, some ⟨36, some 4, (x5.map (V4.row aI))⟩)]⟩) (k := 1) rfl (dt hnt rfl rfl) (Stp.callN (n := 1) (us := [some ⟨36, some 4, (x5.map (V4.row aI))⟩]) rfl (k := 12) (caps := []) (by kernel_rfl) (C12 hx5) (vl_cons (vw_ro (fun h => h) (vwSegs_map (fun _ => rfl) _)) vl_nil) rfl (bk_cons rfl rfl (vwSegs_map (fun _ => rfl) _) bk_nil) (vw_slq rfl (by first | rfl | simp))) ?_
    refine RW.step (d := ⟨some 8, .sl 3 0 x5.length, []⟩) (k := 0) rfl (dt hnt rfl rfl) (Stp.pure (G := sg) _ (by kernel_rfl)) ?_
    refine RW.nil ?_
    refine thenN ?_
    refine AWp.seq ?_
    refine AWp.region ?_
    refine RW.step (d := ⟨some 27, .sl 3 0 x5.length, []⟩) (k := 0) rfl (dt hnt rfl rfl) (Stp.pure (G := sg) _ (by kernel_rfl)) ?_
    refine RW.step (d := ⟨some 28, .agg [(V4.row aI) a1], []⟩) (k := 0) rfl (dt hnt rfl rfl) (Stp.pure (G := sg) _ (by kernel_rfl)) ?_
    obtain ⟨x6, hx6, h⟩ := ob_inv h
    refine RW.step (d := ⟨some 29, .agg [(V4.row aI) x6], []⟩) (k := 0) rfl (dt hnt rfl rfl) (Stp.call0 _ rfl (k := 21) (caps := []) (by kernel_rfl) (C21 hx6) (vl_cons (vw_agg (vs_cons (vwList_flat rfl) vs_nil)) vl_nil) (vw_agg (vs_cons (vwList_flat rfl) vs_nil))) ?_
    obtain ⟨x7, hx7, h⟩ := ob_inv h
    refine RW.step (d := ⟨some 30, .tup [.agg [(V4.row aI) x7.1], aB x7.2], []⟩) (k := 0) rfl (dt hnt rfl rfl) (Stp.call0 _ rfl (k := 28) (caps := []) (by kernel_rfl) (C28 hx7) (vl_cons (vw_lendM (ty := 36) (k := 4) (l := x5) none_ne (by kernel_rfl) (by first | rfl | simp) (fun _ => rfl)) (vl_cons (vw_agg (vs_cons (vwList_flat rfl) vs_nil)) vl_nil)) (vw_tup (vl_cons (vw_agg (vs_cons (vwList_flat rfl) vs_nil)) (vl_cons vw_v vl_nil)))) ?_
    refine RW.step (d := ⟨some 26, .tup [.agg [(V4.row aI) x7.1], aB x7.2], []⟩) (k := 0) rfl (dt hnt rfl rfl) (Stp.pure (G := sg) _ (by kernel_rfl)) ?_
    refine RW.step (d := ⟨some 31, .agg [(V4.row aI) x7.1], []⟩) (k := 0) rfl (dt hnt rfl rfl) (Stp.pure (G := sg) _ (by kernel_rfl)) ?_
    refine RW.step (d := ⟨some 32, aB x7.2, []⟩) (k := 0) rfl (dt hnt rfl rfl) (Stp.pure (G := sg) _ (by kernel_rfl)) ?_
    refine RW.step (d := ⟨some 9, .ptr 4 0 0, [(4, some ⟨36, none, [(V4.row aI) (⟨0, 0, 0, 0⟩ : (V4 Int))]⟩)]⟩) (k := 1) rfl (dt hnt rfl rfl) (Stp.new (G := sg) (by kernel_rfl)) ?_
    refine RW.step (d := ⟨none, .any, [(4, some ⟨36, none, [(V4.row aI) x7.1]⟩)]⟩) (k := 0) rfl (dn rfl) (Stp.store (G := sg) _ rfl (by kernel_rfl)) ?_
    refine RW.step (d := ⟨some 10, aB x7.2, []⟩) (k := 0) rfl (dt hnt rfl rfl) (Stp.pure (G := sg) _ (by kernel_rfl)) ?_
    refine RW.nil ?_
    refine thenN ?_
    refine AWp.seq ?_
    refine AWp.seq ?_
    refine AWp.region ?_
    refine RW.step (d := ⟨some 33, .agg [(V4.row aI) x7.1], []⟩) (k := 0) rfl (dt hnt rfl rfl) (Stp.pure (G := sg) _ (by kernel_rfl)) ?_
    refine RW.step (d := ⟨some 34, .agg [(V4.row aI) x4.1], []⟩) (k := 0) rfl (dt hnt rfl rfl) (Stp.pure (G := sg) _ (by kernel_rfl)) ?_
    obtain ⟨x8, hx8, h⟩ := ob_inv h
    refine RW.step (d := ⟨some 35, aB x8, []⟩) (k := 0) rfl (dt hnt rfl rfl) (Stp.call0 _ rfl (k := 29) (caps := []) (by kernel_rfl) (C29 hx8) (vl_cons (vw_agg (vs_cons (vwList_flat rfl) vs_nil)) (vl_cons (vw_agg (vs_cons (vwList_flat rfl) vs_nil)) vl_nil)) vw_v) ?_
    refine RW.step (d := ⟨some 36, aB (!x8), []⟩) (k := 0) rfl (dt hnt rfl rfl) (Stp.pure (G := sg) _ (by kernel_rfl)) ?_
    refine RW.step (d := ⟨some 37, aB (!x8), []⟩) (k := 0) rfl (dt hnt rfl rfl) (Stp.pure (G := sg) _ (by kernel_rfl)) ?_
    obtain ⟨x9, hx9, h⟩ := ob_inv h
    refine RW.mid 4 (fun st' => ∃ names, StV B.n0 st' (tabN names) ⟨tabE [(0, .ro (a0.map (V4.row aI)) false), (8, .sl 3 0 x5.length), (41, aB x9)], tabO [(3, ⟨36, some 4, (x5.map (V4.row aI))⟩)], 5⟩) ?_ ?_
    · rcases Bool.eq_false_or_eq_true (!x8) with hb1 | hb1
      · have hx9 := br_t hb1 hx9
        refine RW.gf rfl rfl (by rw [hnt]; rfl) (b := !x8) (by kernel_rfl) hb1 (dt hnt rfl rfl) ?_
        refine RW.gf rfl rfl (by rw [hnt]; rfl) (b := !x8) (by kernel_rfl) hb1 (dt hnt rfl rfl) ?_
        refine RW.gf rfl rfl (by rw [hnt]; rfl) (b := !x8) (by kernel_rfl) hb1 (dt hnt rfl rfl) ?_
        refine RW.step (d := ⟨some 41, aB true, []⟩) (k := 0) rfl (dt hnt rfl rfl) (Stp.pure (G := sg) _ (P_pick_t (t := !x8) (by kernel_rfl) hb1 (by kernel_rfl))) ?_
        injection hx9 with hx9
        subst hx9
        exact RW.nil (thenN ⟨[(3, 3)], (StV.tab (by rw [hn0]; rfl) (E_cons (a0 := .ro (a0.map (V4.row aI)) false) (by kernel_rfl) (vw_ro (fun h => h) (vwSegs_map (fun _ => rfl) _)) (E_cons (a0 := .sl 3 0 x5.length) (by kernel_rfl) (vw_slq rfl (by first | rfl | simp)) (E_cons (a0 := aB true) (by kernel_rfl) vw_v E_nil))) (O_cons 3 ⟨36, some 4, (x5.map (V4.row aI))⟩ rfl (by kernel_rfl) rfl rfl (vwSegs_map (fun _ => rfl) _) O_nil) (by rw [hn0]; rfl))⟩)
      · have hx9 := br_f hb1 hx9
        refine RW.gt (d := ⟨some 38, aB x7.2, []⟩) (k := 0) rfl rfl (by rw [hnt]; rfl) (b := !x8) (by kernel_rfl) hb1 (dt hnt rfl rfl) (Stp.pure (G := sg) _ (by kernel_rfl)) ?_
        refine RW.gt (d := ⟨some 39, aB x4.2, []⟩) (k := 0) rfl rfl (by rw [hnt]; rfl) (b := !x8) (by kernel_rfl) hb1 (dt hnt rfl rfl) (Stp.pure (G := sg) _ (by kernel_rfl)) ?_
        refine RW.gt (d := ⟨some 40, aB (!(x7.2 == x4.2)), []⟩) (k := 0) rfl rfl (by rw [hnt]; rfl) (b := !x8) (by kernel_rfl) hb1 (dt hnt rfl rfl) (Stp.pure (G := sg) _ (by kernel_rfl)) ?_
        refine RW.step (d := ⟨some 41, aB (!(x7.2 == x4.2)), []⟩) (k := 0) rfl (dt hnt rfl rfl) (Stp.pure (G := sg) _ (P_pick_f (t := !x8) (by kernel_rfl) hb1 (by kernel_rfl))) ?_
        injection hx9 with hx9
        subst hx9
        exact RW.nil (thenN ⟨[(3, 3)], (StV.tab (by rw [hn0]; rfl) (E_cons (a0 := .ro (a0.map (V4.row aI)) false) (by kernel_rfl) (vw_ro (fun h => h) (vwSegs_map (fun _ => rfl) _)) (E_cons (a0 := .sl 3 0 x5.length) (by kernel_rfl) (vw_slq rfl (by first | rfl | simp)) (E_cons (a0 := aB (!(x7.2 == x4.2))) (by kernel_rfl) vw_v E_nil))) (O_cons 3 ⟨36, some 4, (x5.map (V4.row aI))⟩ rfl (by kernel_rfl) rfl rfl (vwSegs_map (fun _ => rfl) _) O_nil) (by rw [hn0]; rfl))⟩)
    · rintro st2 ⟨names, hv⟩
      refine RW.weak _ hv ?_
      refine RW.nil ?_
      refine thenN ?_
      refine AWp.cond (t := x9) (by kernel_rfl) (fun hb => ?_) (fun hb => ?_)
      · have h := br_t hb h
        refine AWp.seq ?_
        refine AWp.region ?_
        refine RW.step (d := ⟨some 4, aB false, []⟩) (k := 0) rfl (dt hnt rfl rfl) (Stp.pure (G := sg) _ (by kernel_rfl)) ?_
        refine RW.nil ?_
        refine thenN ?_
        refine AWp.ret ?_
        refine thenR ?_
        injection h with h
        subst h
        exact ⟨[aB false], _, [], _, by kernel_rfl, RetV.flat vw_v⟩
      · have h := br_f hb h
        refine AWp.skip ?_
        refine thenN ?_
        refine AWp.seq ?_
        refine AWp.seq ?_
        refine AWp.region ?_
        refine RW.step (d := ⟨some 42, .sl 3 0 x5.length, []⟩) (k := 0) rfl (dt hnt rfl rfl) (Stp.pure (G := sg) _ (by kernel_rfl)) ?_
        refine RW.step (d := ⟨some 43, .ro (a0.map (V4.row aI)) false, []⟩) (k := 0) rfl (dt hnt rfl rfl) (Stp.pure (G := sg) _ (by kernel_rfl)) ?_
        obtain ⟨x10, hx10, h⟩ := ob_inv h
        refine RW.step (d := ⟨some 44, .sl 5 0 x10.length, [(5, some ⟨36, some 4, (x10.map (V4.row aI))⟩)]⟩) (k := 1) rfl (dt hnt rfl rfl) (Stp.callN (n := 1) (us := [some ⟨36, some 4, (x10.map (V4.row aI))⟩]) rfl (k := 12) (caps := []) (by kernel_rfl) (C12 hx10) (vl_cons (vw_ro (fun h => h) (vwSegs_map (fun _ => rfl) _)) vl_nil) rfl (bk_cons rfl rfl (vwSegs_map (fun _ => rfl) _) bk_nil) (vw_slq rfl (by first | rfl | simp))) ?_
        obtain ⟨x11, hx11, h⟩ := ob_inv h
        refine RW.step (d := ⟨some 45, aB x11, []⟩) (k := 0) rfl (dt hnt rfl rfl) (Stp.call0 _ rfl (k := 14) (caps := []) (by kernel_rfl) (C14 hx11) (vl_cons (vw_lendM (ty := 36) (k := 4) (l := x5) none_ne (by kernel_rfl) (by first | rfl | simp) (fun _ => rfl)) (vl_cons (vw_lendM (ty := 36) (k := 4) (l := x10) none_ne (by kernel_rfl) (by first | rfl | simp) (fun _ => rfl)) vl_nil)) vw_v) ?_
        refine RW.step (d := ⟨some 46, aB (!x11), []⟩) (k := 0) rfl (dt hnt rfl rfl) (Stp.pure (G := sg) _ (by kernel_rfl)) ?_
        refine RW.nil ?_
        refine thenN ?_
        refine AWp.cond (t := !x11) (by kernel_rfl) (fun hb => ?_) (fun hb => ?_)
        · have h := br_t hb h
          refine AWp.seq ?_
          refine AWp.region ?_
          refine RW.step (d := ⟨some 4, aB false, []⟩) (k := 0) rfl (dt hnt rfl rfl) (Stp.pure (G := sg) _ (by kernel_rfl)) ?_
          refine RW.nil ?_
          refine thenN ?_
          refine AWp.ret ?_
          refine thenR ?_
          injection h with h
          subst h
          exact ⟨[aB false], _, [], _, by kernel_rfl, RetV.flat vw_v⟩
        · have h := br_f hb h
          refine AWp.skip ?_
          refine thenN ?_
          refine AWp.seq ?_
          refine AWp.region ?_
          refine RW.step (d := ⟨some 4, aB true, []⟩) (k := 0) rfl (dt hnt rfl rfl) (Stp.pure (G := sg) _ (by kernel_rfl)) ?_
          refine RW.nil ?_
          refine thenN ?_
          refine AWp.ret ?_
          injection h with h
          subst h
          exact ⟨[aB true], _, [], _, by kernel_rfl, RetV.flat vw_v⟩
end Go.Proofs.Ytleaogcnndhdgaa
