/- Functions of the program, each as a plain function and its contract. Printed by program. -/
import Derived.Test.YtleaogcnndhdgaaC1
namespace Go.Proofs.Ytleaogcnndhdgaa
open Go Go.Av Go.RowKit

/-- loop.example/g01203/spec.l2Hand -/
def F44_L1 (n : Nat) (a0 : (List (V4 Int))) (f2 : Int → Option (Bool)) (s1 : Int) : Option (Bool) :=
  lt (decide (s1 < (a0.length : Int)) : Bool) fun x3 => ob (br (x3) (some (decide (s1 ≤ 27))) (some false)) fun (x4 : Bool) => br (x4) (ck (0 ≤ s1 ∧ s1 < (a0.length : Int)) (ob (F46 n (gl a0 s1.toNat)) fun (x5 : (Bool)) => ob (br (!x5) (some true) (ob (br (decide (0 < s1)) (ck (0 ≤ (w64 (s1 - 1)) ∧ (w64 (s1 - 1)) < (a0.length : Int)) (ck (0 ≤ s1 ∧ s1 < (a0.length : Int)) (ob (F69 n (gl a0 ((w64 (s1 - 1)).toNat)) (gl a0 s1.toNat)) fun (x8 : (Bool)) => some (!x8)))) (some false)) fun (x7 : Bool) => some x7)) fun (x6 : Bool) => br (x6) (some false) (f2 (w64 (s1 + 1))))) (lt (decide ((a0.length : Int) ≤ 27) : Bool) fun x9 => some x9)
def F44 (n : Nat) (a0 : (List (V4 Int))) : Option (Bool) :=
  fx (F44_L1 n a0) n 0
theorem own44 : Own Try.prog 44 := ⟨_, Try.func44, rfl, by kernel_rfl⟩
theorem C44 {n : Nat} {a0 : (List (V4 Int))} {r : Bool} (h : F44 n a0 = some r) : DCall Try.prog 44 [.ro (a0.map (V4.row aI)) false] [] (aB r) [] := by
  refine ⟨own44, VCall.enter (G := sg) Try.func44 rfl (Nat.le_of_ble_eq_true rfl) (Nat.le_of_ble_eq_true rfl) fun B hnt hn0 => ?_⟩
  unfold F44 at h
  refine AWp.seq ?_
  refine AWp.region ?_
  refine RW.step (d := ⟨some 2, aB false, []⟩) (k := 0) rfl (dt hnt rfl rfl) (Stp.pure (G := sg) _ (by kernel_rfl)) ?_
  refine RW.nil ?_
  refine thenN ?_
  refine AWp.seq ?_
  refine AWp.seq ?_
  refine AWp.region ?_
  refine RW.step (d := ⟨some 3, aI 0, []⟩) (k := 0) rfl (dt hnt rfl rfl) (Stp.pure (G := sg) _ (by kernel_rfl)) ?_
  refine RW.nil ?_
  refine thenN ?_
  refine AWp.block ?_
  refine AWp.loop (fun i st' => ∃ (s1 : Int) (names : List (Nat × Nat)), StV B.n0 st' (tabN names) ⟨tabE [(0, .ro (a0.map (V4.row aI)) false), (3, aI s1)], tabO [], 0⟩ ∧ fx (F44_L1 n a0) i s1 = some r) n ⟨0, [], (StV.tab (by rw [hn0]; rfl) (E_cons (a0 := .ro (a0.map (V4.row aI)) false) (by kernel_rfl) (vw_ro (fun h => h) (vwSegs_map (fun _ => rfl) _)) (E_cons (a0 := aI 0) (by kernel_rfl) vw_v E_nil)) O_nil (by rw [hn0]; rfl)), h⟩ ?_
  rintro is1 st1 ⟨s1, names, hv, h⟩
  obtain ⟨ks1, f2, hks1, hfs1, h⟩ := fx_inv h
  refine AWp.view _ hv ?_
  unfold F44_L1 at h
  refine AWp.seq ?_
  refine AWp.seq ?_
  refine AWp.region ?_
  refine RW.step (d := ⟨some 4, aI s1, []⟩) (k := 0) rfl (dt hnt rfl rfl) (Stp.pure (G := sg) _ (by kernel_rfl)) ?_
  refine RW.step (d := ⟨some 5, .ro (a0.map (V4.row aI)) false, []⟩) (k := 0) rfl (dt hnt rfl rfl) (Stp.pure (G := sg) _ (by kernel_rfl)) ?_
  refine RW.step (d := ⟨some 6, aI (a0.length : Int), []⟩) (k := 0) rfl (dt hnt rfl rfl) (Stp.pure (G := sg) _ (P_len_ro (l := a0) (r := (V4.row aI)) (full := false) (el := 36) (by kernel_rfl) (by kernel_rfl))) ?_
  obtain ⟨x3, hx3, h⟩ := lt_inv h
  refine RW.step (d := ⟨some 7, aB x3, []⟩) (k := 0) rfl (dt hnt rfl rfl) (Stp.pure (G := sg) _ (by rw [← hx3]; kernel_rfl)) ?_
  refine RW.step (d := ⟨some 8, aB x3, []⟩) (k := 0) rfl (dt hnt rfl rfl) (Stp.pure (G := sg) _ (by kernel_rfl)) ?_
  obtain ⟨x4, hx4, h⟩ := ob_inv h
  refine RW.mid 3 (fun st' => ∃ names, StV B.n0 st' (tabN names) ⟨tabE [(0, .ro (a0.map (V4.row aI)) false), (3, aI s1), (11, aB x4)], tabO [], 0⟩) ?_ ?_
  · rcases Bool.eq_false_or_eq_true (x3) with hb1 | hb1
    · have hx4 := br_t hb1 hx4
      refine RW.gt (d := ⟨some 9, aI s1, []⟩) (k := 0) rfl rfl (by rw [hnt]; rfl) (b := x3) (by kernel_rfl) hb1 (dt hnt rfl rfl) (Stp.pure (G := sg) _ (by kernel_rfl)) ?_
      refine RW.gt (d := ⟨some 10, aB (decide (s1 ≤ 27)), []⟩) (k := 0) rfl rfl (by rw [hnt]; rfl) (b := x3) (by kernel_rfl) hb1 (dt hnt rfl rfl) (Stp.pure (G := sg) _ (by kernel_rfl)) ?_
      refine RW.step (d := ⟨some 11, aB (decide (s1 ≤ 27)), []⟩) (k := 0) rfl (dt hnt rfl rfl) (Stp.pure (G := sg) _ (P_pick_t (t := x3) (by kernel_rfl) hb1 (by kernel_rfl))) ?_
      injection hx4 with hx4
      subst hx4
      exact RW.nil (thenN ⟨[], (StV.tab (by rw [hn0]; rfl) (E_cons (a0 := .ro (a0.map (V4.row aI)) false) (by kernel_rfl) (vw_ro (fun h => h) (vwSegs_map (fun _ => rfl) _)) (E_cons (a0 := aI s1) (by kernel_rfl) vw_v (E_cons (a0 := aB (decide (s1 ≤ 27))) (by kernel_rfl) vw_v E_nil))) O_nil (by rw [hn0]; rfl))⟩)
    · have hx4 := br_f hb1 hx4
      refine RW.gf rfl rfl (by rw [hnt]; rfl) (b := x3) (by kernel_rfl) hb1 (dt hnt rfl rfl) ?_
      refine RW.gf rfl rfl (by rw [hnt]; rfl) (b := x3) (by kernel_rfl) hb1 (dt hnt rfl rfl) ?_
      refine RW.step (d := ⟨some 11, aB false, []⟩) (k := 0) rfl (dt hnt rfl rfl) (Stp.pure (G := sg) _ (P_pick_f (t := x3) (by kernel_rfl) hb1 (by kernel_rfl))) ?_
      injection hx4 with hx4
      subst hx4
      exact RW.nil (thenN ⟨[], (StV.tab (by rw [hn0]; rfl) (E_cons (a0 := .ro (a0.map (V4.row aI)) false) (by kernel_rfl) (vw_ro (fun h => h) (vwSegs_map (fun _ => rfl) _)) (E_cons (a0 := aI s1) (by kernel_rfl) vw_v (E_cons (a0 := aB false) (by kernel_rfl) vw_v E_nil))) O_nil (by rw [hn0]; rfl))⟩)
  · rintro st2 ⟨names, hv⟩
    refine RW.weak _ hv ?_
    refine RW.nil ?_
    refine thenN ?_
    refine AWp.cond (t := x4) (by kernel_rfl) (fun hb => ?_) (fun hb => ?_)
    · have h := br_t hb h
      refine AWp.skip ?_
      refine thenN ?_
      refine AWp.seq ?_
      refine AWp.block ?_
      obtain ⟨hc16, h⟩ := ck_inv h
      obtain ⟨x5, hx5, h⟩ := ob_inv h
      obtain ⟨x6, hx6, h⟩ := ob_inv h
      refine AWp.cut (fun st' => ∃ names, StV B.n0 st' (tabN names) ⟨tabE [(0, .ro (a0.map (V4.row aI)) false), (3, aI s1), (36, aB x6)], tabO [], 0⟩) ?_ ?_
      · rcases Bool.eq_false_or_eq_true (!x5) with hbx6 | hbx6
        · have hx6 := br_t hbx6 hx6
          injection hx6 with hx6
          subst hx6
          refine AWp.drw (G := sg) [⟨⟨some 14, .ro (a0.map (V4.row aI)) false, []⟩, 0⟩, ⟨⟨some 15, aI s1, []⟩, 0⟩, ⟨⟨some 16, .rp (a0.map (V4.row aI)) s1.toNat 0, []⟩, 0⟩, ⟨⟨some 17, .agg [(V4.row aI) (gl a0 s1.toNat)], []⟩, 0⟩, ⟨⟨some 18, aB x5, []⟩, 0⟩, ⟨⟨some 19, aB (!x5), []⟩, 0⟩, ⟨⟨some 20, aB (!x5), []⟩, 0⟩, ⟨⟨some 21, .tup [], []⟩, 0⟩, ⟨⟨some 22, .tup [], []⟩, 0⟩, ⟨⟨some 23, .tup [], []⟩, 0⟩, ⟨⟨some 24, .tup [], []⟩, 0⟩, ⟨⟨some 25, .tup [], []⟩, 0⟩, ⟨⟨some 26, .tup [], []⟩, 0⟩, ⟨⟨some 27, .tup [], []⟩, 0⟩, ⟨⟨some 28, .tup [], []⟩, 0⟩, ⟨⟨some 29, .tup [], []⟩, 0⟩, ⟨⟨some 30, .tup [], []⟩, 0⟩, ⟨⟨some 31, .tup [], []⟩, 0⟩, ⟨⟨some 32, .tup [], []⟩, 0⟩, ⟨⟨some 33, .tup [], []⟩, 0⟩, ⟨⟨some 34, .tup [], []⟩, 0⟩, ⟨⟨some 35, .tup [], []⟩, 0⟩, ⟨⟨some 36, aB true, []⟩, 0⟩] (by kernel_rfl) (VCs.c (OpVC.p _ _ rfl rfl rfl (dt hnt rfl rfl) (Stp.pure (G := sg) _ (by kernel_rfl))) (VCs.c (OpVC.p _ _ rfl rfl rfl (dt hnt rfl rfl) (Stp.pure (G := sg) _ (by kernel_rfl))) (VCs.c (OpVC.p _ _ rfl rfl rfl (dt hnt rfl rfl) (Stp.pure (G := sg) _ (P_ia_ro (l := a0) (r := (V4.row aI)) (full := false) (kk := .i64) (n := s1) (el := 36) (by kernel_rfl) (by kernel_rfl) (by kernel_rfl) (fun _ => rfl) rfl hc16))) (VCs.c (OpVC.p _ _ rfl rfl rfl (dt hnt rfl rfl) (Stp.pure (G := sg) _ (P_ld_rp (segs := (a0.map (V4.row aI))) (s := s1.toNat) (j := 0) (by kernel_rfl) (L_row (by kernel_rfl) (by first | omega | (simp; omega)))))) (VCs.c (OpVC.p _ _ rfl rfl rfl (dt hnt rfl rfl) (Stp.call0 _ rfl (k := 46) (caps := []) (by kernel_rfl) (C46 hx5) (vl_cons (vw_agg (vs_cons (vwList_flat rfl) vs_nil)) vl_nil) vw_v)) (VCs.c (OpVC.p _ _ rfl rfl rfl (dt hnt rfl rfl) (Stp.pure (G := sg) _ (by kernel_rfl))) (VCs.c (OpVC.p _ _ rfl rfl rfl (dt hnt rfl rfl) (Stp.pure (G := sg) _ (by kernel_rfl))) (VCs.c (OpVC.gf _ rfl rfl rfl rfl (by rw [hnt]; rfl) (b := !x5) (by kernel_rfl) hbx6 (dt hnt rfl rfl)) (VCs.c (OpVC.gf _ rfl rfl rfl rfl (by rw [hnt]; rfl) (b := !x5) (by kernel_rfl) hbx6 (dt hnt rfl rfl)) (VCs.c (OpVC.gf _ rfl rfl rfl rfl (by rw [hnt]; rfl) (b := !x5) (by kernel_rfl) hbx6 (dt hnt rfl rfl)) (VCs.c (OpVC.gu _ rfl rfl rfl rfl (by rw [hnt]; rfl) (by kernel_rfl) (dt hnt rfl rfl)) (VCs.c (OpVC.gu _ rfl rfl rfl rfl (by rw [hnt]; rfl) (by kernel_rfl) (dt hnt rfl rfl)) (VCs.c (OpVC.gu _ rfl rfl rfl rfl (by rw [hnt]; rfl) (by kernel_rfl) (dt hnt rfl rfl)) (VCs.c (OpVC.gu _ rfl rfl rfl rfl (by rw [hnt]; rfl) (by kernel_rfl) (dt hnt rfl rfl)) (VCs.c (OpVC.gu _ rfl rfl rfl rfl (by rw [hnt]; rfl) (by kernel_rfl) (dt hnt rfl rfl)) (VCs.c (OpVC.gu _ rfl rfl rfl rfl (by rw [hnt]; rfl) (by kernel_rfl) (dt hnt rfl rfl)) (VCs.c (OpVC.gu _ rfl rfl rfl rfl (by rw [hnt]; rfl) (by kernel_rfl) (dt hnt rfl rfl)) (VCs.c (OpVC.gu _ rfl rfl rfl rfl (by rw [hnt]; rfl) (by kernel_rfl) (dt hnt rfl rfl)) (VCs.c (OpVC.gu _ rfl rfl rfl rfl (by rw [hnt]; rfl) (by kernel_rfl) (dt hnt rfl rfl)) (VCs.c (OpVC.gu _ rfl rfl rfl rfl (by rw [hnt]; rfl) (by kernel_rfl) (dt hnt rfl rfl)) (VCs.c (OpVC.gu _ rfl rfl rfl rfl (by rw [hnt]; rfl) (by kernel_rfl) (dt hnt rfl rfl)) (VCs.c (OpVC.gf _ rfl rfl rfl rfl (by rw [hnt]; rfl) (b := !x5) (by kernel_rfl) hbx6 (dt hnt rfl rfl)) (VCs.c (OpVC.p _ _ rfl rfl rfl (dt hnt rfl rfl) (Stp.pure (G := sg) _ (P_pick_t (t := !x5) (by kernel_rfl) hbx6 (by kernel_rfl)))) VCs.n))))))))))))))))))))))) ?_
          exact thenN ⟨[], (StV.tab (by rw [hn0]; rfl) (E_cons (a0 := .ro (a0.map (V4.row aI)) false) (by kernel_rfl) (vw_ro (fun h => h) (vwSegs_map (fun _ => rfl) _)) (E_cons (a0 := aI s1) (by kernel_rfl) vw_v (E_cons (a0 := aB true) (by kernel_rfl) vw_v E_nil))) O_nil (by rw [hn0]; rfl))⟩
        · have hx6 := br_f hbx6 hx6
          obtain ⟨x7, hx7, hx6⟩ := ob_inv hx6
          injection hx6 with hx6
          subst hx6
          rcases Bool.eq_false_or_eq_true (decide (0 < s1)) with hbx7 | hbx7
          · have hx7 := br_t hbx7 hx7
            obtain ⟨hc17, hx7⟩ := ck_inv hx7
            obtain ⟨hc18, hx7⟩ := ck_inv hx7
            obtain ⟨x8, hx8, hx7⟩ := ob_inv hx7
            injection hx7 with hx7
            subst hx7
            refine AWp.drw (G := sg) [⟨⟨some 14, .ro (a0.map (V4.row aI)) false, []⟩, 0⟩, ⟨⟨some 15, aI s1, []⟩, 0⟩, ⟨⟨some 16, .rp (a0.map (V4.row aI)) s1.toNat 0, []⟩, 0⟩, ⟨⟨some 17, .agg [(V4.row aI) (gl a0 s1.toNat)], []⟩, 0⟩, ⟨⟨some 18, aB x5, []⟩, 0⟩, ⟨⟨some 19, aB (!x5), []⟩, 0⟩, ⟨⟨some 20, aB (!x5), []⟩, 0⟩, ⟨⟨some 21, aI s1, []⟩, 0⟩, ⟨⟨some 22, aB (decide (0 < s1)), []⟩, 0⟩, ⟨⟨some 23, aB (decide (0 < s1)), []⟩, 0⟩, ⟨⟨some 24, .ro (a0.map (V4.row aI)) false, []⟩, 0⟩, ⟨⟨some 25, aI s1, []⟩, 0⟩, ⟨⟨some 26, aI (w64 (s1 - 1)), []⟩, 0⟩, ⟨⟨some 27, .rp (a0.map (V4.row aI)) ((w64 (s1 - 1)).toNat) 0, []⟩, 0⟩, ⟨⟨some 28, .agg [(V4.row aI) (gl a0 ((w64 (s1 - 1)).toNat))], []⟩, 0⟩, ⟨⟨some 29, .ro (a0.map (V4.row aI)) false, []⟩, 0⟩, ⟨⟨some 30, aI s1, []⟩, 0⟩, ⟨⟨some 31, .rp (a0.map (V4.row aI)) s1.toNat 0, []⟩, 0⟩, ⟨⟨some 32, .agg [(V4.row aI) (gl a0 s1.toNat)], []⟩, 0⟩, ⟨⟨some 33, aB x8, []⟩, 0⟩, ⟨⟨some 34, aB (!x8), []⟩, 0⟩, ⟨⟨some 35, aB (!x8), []⟩, 0⟩, ⟨⟨some 36, aB (!x8), []⟩, 0⟩] (by kernel_rfl) (VCs.c (OpVC.p _ _ rfl rfl rfl (dt hnt rfl rfl) (Stp.pure (G := sg) _ (by kernel_rfl))) (VCs.c (OpVC.p _ _ rfl rfl rfl (dt hnt rfl rfl) (Stp.pure (G := sg) _ (by kernel_rfl))) (VCs.c (OpVC.p _ _ rfl rfl rfl (dt hnt rfl rfl) (Stp.pure (G := sg) _ (P_ia_ro (l := a0) (r := (V4.row aI)) (full := false) (kk := .i64) (n := s1) (el := 36) (by kernel_rfl) (by kernel_rfl) (by kernel_rfl) (fun _ => rfl) rfl hc16))) (VCs.c (OpVC.p _ _ rfl rfl rfl (dt hnt rfl rfl) (Stp.pure (G := sg) _ (P_ld_rp (segs := (a0.map (V4.row aI))) (s := s1.toNat) (j := 0) (by kernel_rfl) (L_row (by kernel_rfl) (by first | omega | (simp; omega)))))) (VCs.c (OpVC.p _ _ rfl rfl rfl (dt hnt rfl rfl) (Stp.call0 _ rfl (k := 46) (caps := []) (by kernel_rfl) (C46 hx5) (vl_cons (vw_agg (vs_cons (vwList_flat rfl) vs_nil)) vl_nil) vw_v)) (VCs.c (OpVC.p _ _ rfl rfl rfl (dt hnt rfl rfl) (Stp.pure (G := sg) _ (by kernel_rfl))) (VCs.c (OpVC.p _ _ rfl rfl rfl (dt hnt rfl rfl) (Stp.pure (G := sg) _ (by kernel_rfl))) (VCs.c (OpVC.gt _ _ rfl rfl rfl rfl (by rw [hnt]; rfl) (b := !x5) (by kernel_rfl) hbx6 (dt hnt rfl rfl) (Stp.pure (G := sg) _ (by kernel_rfl))) (VCs.c (OpVC.gt _ _ rfl rfl rfl rfl (by rw [hnt]; rfl) (b := !x5) (by kernel_rfl) hbx6 (dt hnt rfl rfl) (Stp.pure (G := sg) _ (by kernel_rfl))) (VCs.c (OpVC.gt _ _ rfl rfl rfl rfl (by rw [hnt]; rfl) (b := !x5) (by kernel_rfl) hbx6 (dt hnt rfl rfl) (Stp.pure (G := sg) _ (by kernel_rfl))) (VCs.c (OpVC.gt _ _ rfl rfl rfl rfl (by rw [hnt]; rfl) (b := decide (0 < s1)) (by kernel_rfl) hbx7 (dt hnt rfl rfl) (Stp.pure (G := sg) _ (by kernel_rfl))) (VCs.c (OpVC.gt _ _ rfl rfl rfl rfl (by rw [hnt]; rfl) (b := decide (0 < s1)) (by kernel_rfl) hbx7 (dt hnt rfl rfl) (Stp.pure (G := sg) _ (by kernel_rfl))) (VCs.c (OpVC.gt _ _ rfl rfl rfl rfl (by rw [hnt]; rfl) (b := decide (0 < s1)) (by kernel_rfl) hbx7 (dt hnt rfl rfl) (Stp.pure (G := sg) _ (by kernel_rfl))) (VCs.c (OpVC.gt _ _ rfl rfl rfl rfl (by rw [hnt]; rfl) (b := decide (0 < s1)) (by kernel_rfl) hbx7 (dt hnt rfl rfl) (Stp.pure (G := sg) _ (P_ia_ro (l := a0) (r := (V4.row aI)) (full := false) (kk := .i64) (n := (w64 (s1 - 1))) (el := 36) (by kernel_rfl) (by kernel_rfl) (by kernel_rfl) (fun _ => rfl) rfl hc17))) (VCs.c (OpVC.gt _ _ rfl rfl rfl rfl (by rw [hnt]; rfl) (b := decide (0 < s1)) (by kernel_rfl) hbx7 (dt hnt rfl rfl) (Stp.pure (G := sg) _ (P_ld_rp (segs := (a0.map (V4.row aI))) (s := ((w64 (s1 - 1)).toNat)) (j := 0) (by kernel_rfl) (L_row (by kernel_rfl) (by first | omega | (simp; omega)))))) (VCs.c (OpVC.gt _ _ rfl rfl rfl rfl (by rw [hnt]; rfl) (b := decide (0 < s1)) (by kernel_rfl) hbx7 (dt hnt rfl rfl) (Stp.pure (G := sg) _ (by kernel_rfl))) (VCs.c (OpVC.gt _ _ rfl rfl rfl rfl (by rw [hnt]; rfl) (b := decide (0 < s1)) (by kernel_rfl) hbx7 (dt hnt rfl rfl) (Stp.pure (G := sg) _ (by kernel_rfl))) (VCs.c (OpVC.gt _ _ rfl rfl rfl rfl (by rw [hnt]; rfl) (b := decide (0 < s1)) (by kernel_rfl) hbx7 (dt hnt rfl rfl) (Stp.pure (G := sg) _ (P_ia_ro (l := a0) (r := (V4.row aI)) (full := false) (kk := .i64) (n := s1) (el := 36) (by kernel_rfl) (by kernel_rfl) (by kernel_rfl) (fun _ => rfl) rfl hc18))) (VCs.c (OpVC.gt _ _ rfl rfl rfl rfl (by rw [hnt]; rfl) (b := decide (0 < s1)) (by kernel_rfl) hbx7 (dt hnt rfl rfl) (Stp.pure (G := sg) _ (P_ld_rp (segs := (a0.map (V4.row aI))) (s := s1.toNat) (j := 0) (by kernel_rfl) (L_row (by kernel_rfl) (by first | omega | (simp; omega)))))) (VCs.c (OpVC.gt _ _ rfl rfl rfl rfl (by rw [hnt]; rfl) (b := decide (0 < s1)) (by kernel_rfl) hbx7 (dt hnt rfl rfl) (Stp.call0 _ rfl (k := 69) (caps := []) (by kernel_rfl) (C69 hx8) (vl_cons (vw_agg (vs_cons (vwList_flat rfl) vs_nil)) (vl_cons (vw_agg (vs_cons (vwList_flat rfl) vs_nil)) vl_nil)) vw_v)) (VCs.c (OpVC.gt _ _ rfl rfl rfl rfl (by rw [hnt]; rfl) (b := decide (0 < s1)) (by kernel_rfl) hbx7 (dt hnt rfl rfl) (Stp.pure (G := sg) _ (by kernel_rfl))) (VCs.c (OpVC.gt _ _ rfl rfl rfl rfl (by rw [hnt]; rfl) (b := !x5) (by kernel_rfl) hbx6 (dt hnt rfl rfl) (Stp.pure (G := sg) _ (P_pick_t (t := decide (0 < s1)) (by kernel_rfl) hbx7 (by kernel_rfl)))) (VCs.c (OpVC.p _ _ rfl rfl rfl (dt hnt rfl rfl) (Stp.pure (G := sg) _ (P_pick_f (t := !x5) (by kernel_rfl) hbx6 (by kernel_rfl)))) VCs.n))))))))))))))))))))))) ?_
            exact thenN ⟨[], (StV.tab (by rw [hn0]; rfl) (E_cons (a0 := .ro (a0.map (V4.row aI)) false) (by kernel_rfl) (vw_ro (fun h => h) (vwSegs_map (fun _ => rfl) _)) (E_cons (a0 := aI s1) (by kernel_rfl) vw_v (E_cons (a0 := aB (!x8)) (by kernel_rfl) vw_v E_nil))) O_nil (by rw [hn0]; rfl))⟩
          · have hx7 := br_f hbx7 hx7
            injection hx7 with hx7
            subst hx7
            refine AWp.drw (G := sg) [⟨⟨some 14, .ro (a0.map (V4.row aI)) false, []⟩, 0⟩, ⟨⟨some 15, aI s1, []⟩, 0⟩, ⟨⟨some 16, .rp (a0.map (V4.row aI)) s1.toNat 0, []⟩, 0⟩, ⟨⟨some 17, .agg [(V4.row aI) (gl a0 s1.toNat)], []⟩, 0⟩, ⟨⟨some 18, aB x5, []⟩, 0⟩, ⟨⟨some 19, aB (!x5), []⟩, 0⟩, ⟨⟨some 20, aB (!x5), []⟩, 0⟩, ⟨⟨some 21, aI s1, []⟩, 0⟩, ⟨⟨some 22, aB (decide (0 < s1)), []⟩, 0⟩, ⟨⟨some 23, aB (decide (0 < s1)), []⟩, 0⟩, ⟨⟨some 24, .tup [], []⟩, 0⟩, ⟨⟨some 25, .tup [], []⟩, 0⟩, ⟨⟨some 26, .tup [], []⟩, 0⟩, ⟨⟨some 27, .tup [], []⟩, 0⟩, ⟨⟨some 28, .tup [], []⟩, 0⟩, ⟨⟨some 29, .tup [], []⟩, 0⟩, ⟨⟨some 30, .tup [], []⟩, 0⟩, ⟨⟨some 31, .tup [], []⟩, 0⟩, ⟨⟨some 32, .tup [], []⟩, 0⟩, ⟨⟨some 33, .tup [], []⟩, 0⟩, ⟨⟨some 34, .tup [], []⟩, 0⟩, ⟨⟨some 35, aB false, []⟩, 0⟩, ⟨⟨some 36, aB false, []⟩, 0⟩] (by kernel_rfl) (VCs.c (OpVC.p _ _ rfl rfl rfl (dt hnt rfl rfl) (Stp.pure (G := sg) _ (by kernel_rfl))) (VCs.c (OpVC.p _ _ rfl rfl rfl (dt hnt rfl rfl) (Stp.pure (G := sg) _ (by kernel_rfl))) (VCs.c (OpVC.p _ _ rfl rfl rfl (dt hnt rfl rfl) (Stp.pure (G := sg) _ (P_ia_ro (l := a0) (r := (V4.row aI)) (full := false) (kk := .i64) (n := s1) (el := 36) (by kernel_rfl) (by kernel_rfl) (by kernel_rfl) (fun _ => rfl) rfl hc16))) (VCs.c (OpVC.p _ _ rfl rfl rfl (dt hnt rfl rfl) (Stp.pure (G := sg) _ (P_ld_rp (segs := (a0.map (V4.row aI))) (s := s1.toNat) (j := 0) (by kernel_rfl) (L_row (by kernel_rfl) (by first | omega | (simp; omega)))))) (VCs.c (OpVC.p _ _ rfl rfl rfl (dt hnt rfl rfl) (Stp.call0 _ rfl (k := 46) (caps := []) (by kernel_rfl) (C46 hx5) (vl_cons (vw_agg (vs_cons (vwList_flat rfl) vs_nil)) vl_nil) vw_v)) (VCs.c (OpVC.p _ _ rfl rfl rfl (dt hnt rfl rfl) (Stp.pure (G := sg) _ (by kernel_rfl))) (VCs.c (OpVC.p _ _ rfl rfl rfl (dt hnt rfl rfl) (Stp.pure (G := sg) _ (by kernel_rfl))) (VCs.c (OpVC.gt _ _ rfl rfl rfl rfl (by rw [hnt]; rfl) (b := !x5) (by kernel_rfl) hbx6 (dt hnt rfl rfl) (Stp.pure (G := sg) _ (by kernel_rfl))) (VCs.c (OpVC.gt _ _ rfl rfl rfl rfl (by rw [hnt]; rfl) (b := !x5) (by kernel_rfl) hbx6 (dt hnt rfl rfl) (Stp.pure (G := sg) _ (by kernel_rfl))) (VCs.c (OpVC.gt _ _ rfl rfl rfl rfl (by rw [hnt]; rfl) (b := !x5) (by kernel_rfl) hbx6 (dt hnt rfl rfl) (Stp.pure (G := sg) _ (by kernel_rfl))) (VCs.c (OpVC.gf _ rfl rfl rfl rfl (by rw [hnt]; rfl) (b := decide (0 < s1)) (by kernel_rfl) hbx7 (dt hnt rfl rfl)) (VCs.c (OpVC.gf _ rfl rfl rfl rfl (by rw [hnt]; rfl) (b := decide (0 < s1)) (by kernel_rfl) hbx7 (dt hnt rfl rfl)) (VCs.c (OpVC.gf _ rfl rfl rfl rfl (by rw [hnt]; rfl) (b := decide (0 < s1)) (by kernel_rfl) hbx7 (dt hnt rfl rfl)) (VCs.c (OpVC.gf _ rfl rfl rfl rfl (by rw [hnt]; rfl) (b := decide (0 < s1)) (by kernel_rfl) hbx7 (dt hnt rfl rfl)) (VCs.c (OpVC.gf _ rfl rfl rfl rfl (by rw [hnt]; rfl) (b := decide (0 < s1)) (by kernel_rfl) hbx7 (dt hnt rfl rfl)) (VCs.c (OpVC.gf _ rfl rfl rfl rfl (by rw [hnt]; rfl) (b := decide (0 < s1)) (by kernel_rfl) hbx7 (dt hnt rfl rfl)) (VCs.c (OpVC.gf _ rfl rfl rfl rfl (by rw [hnt]; rfl) (b := decide (0 < s1)) (by kernel_rfl) hbx7 (dt hnt rfl rfl)) (VCs.c (OpVC.gf _ rfl rfl rfl rfl (by rw [hnt]; rfl) (b := decide (0 < s1)) (by kernel_rfl) hbx7 (dt hnt rfl rfl)) (VCs.c (OpVC.gf _ rfl rfl rfl rfl (by rw [hnt]; rfl) (b := decide (0 < s1)) (by kernel_rfl) hbx7 (dt hnt rfl rfl)) (VCs.c (OpVC.gf _ rfl rfl rfl rfl (by rw [hnt]; rfl) (b := decide (0 < s1)) (by kernel_rfl) hbx7 (dt hnt rfl rfl)) (VCs.c (OpVC.gf _ rfl rfl rfl rfl (by rw [hnt]; rfl) (b := decide (0 < s1)) (by kernel_rfl) hbx7 (dt hnt rfl rfl)) (VCs.c (OpVC.gt _ _ rfl rfl rfl rfl (by rw [hnt]; rfl) (b := !x5) (by kernel_rfl) hbx6 (dt hnt rfl rfl) (Stp.pure (G := sg) _ (P_pick_f (t := decide (0 < s1)) (by kernel_rfl) hbx7 (by kernel_rfl)))) (VCs.c (OpVC.p _ _ rfl rfl rfl (dt hnt rfl rfl) (Stp.pure (G := sg) _ (P_pick_f (t := !x5) (by kernel_rfl) hbx6 (by kernel_rfl)))) VCs.n))))))))))))))))))))))) ?_
            exact thenN ⟨[], (StV.tab (by rw [hn0]; rfl) (E_cons (a0 := .ro (a0.map (V4.row aI)) false) (by kernel_rfl) (vw_ro (fun h => h) (vwSegs_map (fun _ => rfl) _)) (E_cons (a0 := aI s1) (by kernel_rfl) vw_v (E_cons (a0 := aB false) (by kernel_rfl) vw_v E_nil))) O_nil (by rw [hn0]; rfl))⟩
      · rintro st2 ⟨names, hv⟩
        refine AWp.view _ hv ?_
        refine AWp.cond (t := x6) (by kernel_rfl) (fun hb => ?_) (fun hb => ?_)
        · have h := br_t hb h
          refine AWp.seq ?_
          refine AWp.region ?_
          refine RW.step (d := ⟨some 2, aB false, []⟩) (k := 0) rfl (dt hnt rfl rfl) (Stp.pure (G := sg) _ (by kernel_rfl)) ?_
          refine RW.nil ?_
          refine thenN ?_
          refine AWp.ret ?_
          refine blockR ?_
          refine thenR ?_
          refine thenR ?_
          refine blockR ?_
          refine thenR ?_
          injection h with h
          subst h
          exact ⟨[aB false], _, [], _, by kernel_rfl, RetV.flat vw_v⟩
        · have h := br_f hb h
          refine AWp.skip ?_
          refine blockN ?_
          refine thenN ?_
          refine AWp.region ?_
          refine RW.step (d := ⟨some 12, aI s1, []⟩) (k := 0) rfl (dt hnt rfl rfl) (Stp.pure (G := sg) _ (by kernel_rfl)) ?_
          refine RW.step (d := ⟨some 13, aI (w64 (s1 + 1)), []⟩) (k := 0) rfl (dt hnt rfl rfl) (Stp.pure (G := sg) _ (by kernel_rfl)) ?_
          refine RW.step (d := ⟨some 3, aI (w64 (s1 + 1)), []⟩) (k := 0) rfl (dt hnt rfl rfl) (Stp.pure (G := sg) _ (by kernel_rfl)) ?_
          refine RW.nil ?_
          exact ⟨ks1, by rw [hks1]; exact Nat.lt_succ_self _, w64 (s1 + 1), [], (StV.tab (by rw [hn0]; rfl) (E_cons (a0 := .ro (a0.map (V4.row aI)) false) (by kernel_rfl) (vw_ro (fun h => h) (vwSegs_map (fun _ => rfl) _)) (E_cons (a0 := aI (w64 (s1 + 1))) (by kernel_rfl) vw_v E_nil)) O_nil (by rw [hn0]; rfl)), by rw [← hfs1]; exact h⟩
    · have h := br_f hb h
      refine AWp.exit ?_
      refine thenX ?_
      refine thenX ?_
      refine blockH ?_
      refine thenN ?_
      refine AWp.seq ?_
      refine AWp.region ?_
      refine RW.step (d := ⟨some 37, .ro (a0.map (V4.row aI)) false, []⟩) (k := 0) rfl (dt hnt rfl rfl) (Stp.pure (G := sg) _ (by kernel_rfl)) ?_
      refine RW.step (d := ⟨some 38, aI (a0.length : Int), []⟩) (k := 0) rfl (dt hnt rfl rfl) (Stp.pure (G := sg) _ (P_len_ro (l := a0) (r := (V4.row aI)) (full := false) (el := 36) (by kernel_rfl) (by kernel_rfl))) ?_
      obtain ⟨x9, hx9, h⟩ := lt_inv h
      refine RW.step (d := ⟨some 39, aB x9, []⟩) (k := 0) rfl (dt hnt rfl rfl) (Stp.pure (G := sg) _ (by rw [← hx9]; kernel_rfl)) ?_
      refine RW.step (d := ⟨some 2, aB x9, []⟩) (k := 0) rfl (dt hnt rfl rfl) (Stp.pure (G := sg) _ (by kernel_rfl)) ?_
      refine RW.nil ?_
      refine thenN ?_
      refine AWp.ret ?_
      injection h with h
      subst h
      exact ⟨[aB x9], _, [], _, by kernel_rfl, RetV.flat vw_v⟩

/-- loop.example/g01203/spec.l12Good -/
def F41 (n : Nat) (a0 : (List (V4 Int))) (a1 : Int) (a2 : Int) : Option (Bool) :=
  ob (F44 n a0) fun (x1 : (Bool)) => ob (br (x1) (ob (F67 n a1 0 1000) fun (x3 : (Bool)) => some x3) (some false)) fun (x2 : Bool) => ob (br (x2) (ob (F67 n a2 0 1000) fun (x5 : (Bool)) => some x5) (some false)) fun (x4 : Bool) => some x4
theorem own41 : Own Try.prog 41 := ⟨_, Try.func41, rfl, by kernel_rfl⟩
theorem C41 {n : Nat} {a0 : (List (V4 Int))} {a1 : Int} {a2 : Int} {r : Bool} (h : F41 n a0 a1 a2 = some r) : DCall Try.prog 41 [.agg [[.ro (a0.map (V4.row aI)) false], [aI a1], [aI a2]]] [] (aB r) [] := by
  refine ⟨own41, VCall.enter (G := sg) Try.func41 rfl (Nat.le_of_ble_eq_true rfl) (Nat.le_of_ble_eq_true rfl) fun B hnt hn0 => ?_⟩
  unfold F41 at h
  refine AWp.seq ?_
  refine AWp.region ?_
  refine RW.step (d := ⟨some 1, .ptr 0 0 0, [(0, some ⟨32, none, [[.ro (a0.map (V4.row aI)) false], [aI a1], [aI a2]]⟩)]⟩) (k := 1) rfl (dt hnt rfl rfl) (Stp.new (G := sg) (by kernel_rfl)) ?_
  refine RW.step (d := ⟨some 2, aB false, []⟩) (k := 0) rfl (dt hnt rfl rfl) (Stp.pure (G := sg) _ (by kernel_rfl)) ?_
  refine RW.nil ?_
  refine thenN ?_
  refine AWp.seq ?_
  refine AWp.region ?_
  refine RW.step (d := ⟨some 3, .ptr 0 0 0, []⟩) (k := 0) rfl (dt hnt rfl rfl) (Stp.pure (G := sg) _ (by kernel_rfl)) ?_
  refine RW.step (d := ⟨some 4, .ro (a0.map (V4.row aI)) false, []⟩) (k := 0) rfl (dt hnt rfl rfl) (Stp.pure (G := sg) _ (by kernel_rfl)) ?_
  obtain ⟨x1, hx1, h⟩ := ob_inv h
  refine RW.step (d := ⟨some 5, aB x1, []⟩) (k := 0) rfl (dt hnt rfl rfl) (Stp.call0 _ rfl (k := 44) (caps := []) (by kernel_rfl) (C44 hx1) (vl_cons (vw_ro (fun h => h) (vwSegs_map (fun _ => rfl) _)) vl_nil) vw_v) ?_
  refine RW.step (d := ⟨some 6, aB x1, []⟩) (k := 0) rfl (dt hnt rfl rfl) (Stp.pure (G := sg) _ (by kernel_rfl)) ?_
  obtain ⟨x2, hx2, h⟩ := ob_inv h
  refine RW.mid 4 (fun st' => ∃ names, StV B.n0 st' (tabN names) ⟨tabE [(1, .ptr 0 0 0), (10, aB x2)], tabO [(0, ⟨32, none, [[.ro (a0.map (V4.row aI)) false], [aI a1], [aI a2]]⟩)], 1⟩) ?_ ?_
  · rcases Bool.eq_false_or_eq_true (x1) with hb1 | hb1
    · have hx2 := br_t hb1 hx2
      refine RW.gt (d := ⟨some 7, .ptr 0 1 0, []⟩) (k := 0) rfl rfl (by rw [hnt]; rfl) (b := x1) (by kernel_rfl) hb1 (dt hnt rfl rfl) (Stp.pure (G := sg) _ (by kernel_rfl)) ?_
      refine RW.gt (d := ⟨some 8, aI a1, []⟩) (k := 0) rfl rfl (by rw [hnt]; rfl) (b := x1) (by kernel_rfl) hb1 (dt hnt rfl rfl) (Stp.pure (G := sg) _ (by kernel_rfl)) ?_
      obtain ⟨x3, hx3, hx2⟩ := ob_inv hx2
      refine RW.gt (d := ⟨some 9, aB x3, []⟩) (k := 0) rfl rfl (by rw [hnt]; rfl) (b := x1) (by kernel_rfl) hb1 (dt hnt rfl rfl) (Stp.call0 _ rfl (k := 67) (caps := []) (by kernel_rfl) (C67 hx3) (vl_cons vw_v (vl_cons vw_v (vl_cons vw_v vl_nil))) vw_v) ?_
      refine RW.step (d := ⟨some 10, aB x3, []⟩) (k := 0) rfl (dt hnt rfl rfl) (Stp.pure (G := sg) _ (P_pick_t (t := x1) (by kernel_rfl) hb1 (by kernel_rfl))) ?_
      injection hx2 with hx2
      subst hx2
      exact RW.nil (thenN ⟨[(0, 0)], (StV.tab (by rw [hn0]; rfl) (E_cons (a0 := .ptr 0 0 0) (by kernel_rfl) (vw_ptr rfl) (E_cons (a0 := aB x3) (by kernel_rfl) vw_v E_nil)) (O_cons 0 ⟨32, none, [[.ro (a0.map (V4.row aI)) false], [aI a1], [aI a2]]⟩ rfl (by kernel_rfl) rfl rfl (vs_cons (vl_cons (vw_ro (fun h => h) (vwSegs_map (fun _ => rfl) _)) vl_nil) (vs_cons (vl_cons vw_v vl_nil) (vs_cons (vl_cons vw_v vl_nil) vs_nil))) O_nil) (by rw [hn0]; rfl))⟩)
    · have hx2 := br_f hb1 hx2
      refine RW.gf rfl rfl (by rw [hnt]; rfl) (b := x1) (by kernel_rfl) hb1 (dt hnt rfl rfl) ?_
      refine RW.gf rfl rfl (by rw [hnt]; rfl) (b := x1) (by kernel_rfl) hb1 (dt hnt rfl rfl) ?_
      refine RW.gf rfl rfl (by rw [hnt]; rfl) (b := x1) (by kernel_rfl) hb1 (dt hnt rfl rfl) ?_
      refine RW.step (d := ⟨some 10, aB false, []⟩) (k := 0) rfl (dt hnt rfl rfl) (Stp.pure (G := sg) _ (P_pick_f (t := x1) (by kernel_rfl) hb1 (by kernel_rfl))) ?_
      injection hx2 with hx2
      subst hx2
      exact RW.nil (thenN ⟨[(0, 0)], (StV.tab (by rw [hn0]; rfl) (E_cons (a0 := .ptr 0 0 0) (by kernel_rfl) (vw_ptr rfl) (E_cons (a0 := aB false) (by kernel_rfl) vw_v E_nil)) (O_cons 0 ⟨32, none, [[.ro (a0.map (V4.row aI)) false], [aI a1], [aI a2]]⟩ rfl (by kernel_rfl) rfl rfl (vs_cons (vl_cons (vw_ro (fun h => h) (vwSegs_map (fun _ => rfl) _)) vl_nil) (vs_cons (vl_cons vw_v vl_nil) (vs_cons (vl_cons vw_v vl_nil) vs_nil))) O_nil) (by rw [hn0]; rfl))⟩)
  · rintro st2 ⟨names, hv⟩
    refine RW.weak _ hv ?_
    refine RW.step (d := ⟨some 11, aB x2, []⟩) (k := 0) rfl (dt hnt rfl rfl) (Stp.pure (G := sg) _ (by kernel_rfl)) ?_
    obtain ⟨x4, hx4, h⟩ := ob_inv h
    refine RW.mid 4 (fun st' => ∃ names, StV B.n0 st' (tabN names) ⟨tabE [(15, aB x4)], tabO [], 1⟩) ?_ ?_
    · rcases Bool.eq_false_or_eq_true (x2) with hb1 | hb1
      · have hx4 := br_t hb1 hx4
        refine RW.gt (d := ⟨some 12, .ptr 0 2 0, []⟩) (k := 0) rfl rfl (by rw [hnt]; rfl) (b := x2) (by kernel_rfl) hb1 (dt hnt rfl rfl) (Stp.pure (G := sg) _ (by kernel_rfl)) ?_
        refine RW.gt (d := ⟨some 13, aI a2, []⟩) (k := 0) rfl rfl (by rw [hnt]; rfl) (b := x2) (by kernel_rfl) hb1 (dt hnt rfl rfl) (Stp.pure (G := sg) _ (by kernel_rfl)) ?_
        obtain ⟨x5, hx5, hx4⟩ := ob_inv hx4
        refine RW.gt (d := ⟨some 14, aB x5, []⟩) (k := 0) rfl rfl (by rw [hnt]; rfl) (b := x2) (by kernel_rfl) hb1 (dt hnt rfl rfl) (Stp.call0 _ rfl (k := 67) (caps := []) (by kernel_rfl) (C67 hx5) (vl_cons vw_v (vl_cons vw_v (vl_cons vw_v vl_nil))) vw_v) ?_
        refine RW.step (d := ⟨some 15, aB x5, []⟩) (k := 0) rfl (dt hnt rfl rfl) (Stp.pure (G := sg) _ (P_pick_t (t := x2) (by kernel_rfl) hb1 (by kernel_rfl))) ?_
        injection hx4 with hx4
        subst hx4
        exact RW.nil (thenN ⟨[], (StV.tab (by rw [hn0]; rfl) (E_cons (a0 := aB x5) (by kernel_rfl) vw_v E_nil) O_nil (by rw [hn0]; rfl))⟩)
      · have hx4 := br_f hb1 hx4
        refine RW.gf rfl rfl (by rw [hnt]; rfl) (b := x2) (by kernel_rfl) hb1 (dt hnt rfl rfl) ?_
        refine RW.gf rfl rfl (by rw [hnt]; rfl) (b := x2) (by kernel_rfl) hb1 (dt hnt rfl rfl) ?_
        refine RW.gf rfl rfl (by rw [hnt]; rfl) (b := x2) (by kernel_rfl) hb1 (dt hnt rfl rfl) ?_
        refine RW.step (d := ⟨some 15, aB false, []⟩) (k := 0) rfl (dt hnt rfl rfl) (Stp.pure (G := sg) _ (P_pick_f (t := x2) (by kernel_rfl) hb1 (by kernel_rfl))) ?_
        injection hx4 with hx4
        subst hx4
        exact RW.nil (thenN ⟨[], (StV.tab (by rw [hn0]; rfl) (E_cons (a0 := aB false) (by kernel_rfl) vw_v E_nil) O_nil (by rw [hn0]; rfl))⟩)
    · rintro st2 ⟨names, hv⟩
      refine RW.weak _ hv ?_
      refine RW.step (d := ⟨some 2, aB x4, []⟩) (k := 0) rfl (dt hnt rfl rfl) (Stp.pure (G := sg) _ (by kernel_rfl)) ?_
      refine RW.nil ?_
      refine thenN ?_
      refine AWp.ret ?_
      injection h with h
      subst h
      exact ⟨[aB x4], _, [], _, by kernel_rfl, RetV.flat vw_v⟩

/-- loop.example/g01203/spec.IsTable -/
def F16 (n : Nat) (a0 : (List (V4 Int))) (a1 : Int) (a2 : Int) : Option (Bool) :=
  ob (F41 n a0 a1 a2) fun (x1 : (Bool)) => some x1
theorem own16 : Own Try.prog 16 := ⟨_, Try.func16, rfl, by kernel_rfl⟩
theorem C16 {n : Nat} {a0 : (List (V4 Int))} {a1 : Int} {a2 : Int} {r : Bool} (h : F16 n a0 a1 a2 = some r) : DCall Try.prog 16 [.agg [[.ro (a0.map (V4.row aI)) false], [aI a1], [aI a2]]] [] (aB r) [] := by
  refine ⟨own16, VCall.enter (G := sg) Try.func16 rfl (Nat.le_of_ble_eq_true rfl) (Nat.le_of_ble_eq_true rfl) fun B hnt hn0 => ?_⟩
  unfold F16 at h
  refine AWp.seq ?_
  refine AWp.region ?_
  refine RW.step (d := ⟨some 1, .ptr 0 0 0, [(0, some ⟨32, none, [[.ro (a0.map (V4.row aI)) false], [aI a1], [aI a2]]⟩)]⟩) (k := 1) rfl (dt hnt rfl rfl) (Stp.new (G := sg) (by kernel_rfl)) ?_
  refine RW.step (d := ⟨some 2, aB false, []⟩) (k := 0) rfl (dt hnt rfl rfl) (Stp.pure (G := sg) _ (by kernel_rfl)) ?_
  refine RW.nil ?_
  refine thenN ?_
  refine AWp.seq ?_
  refine AWp.region ?_
  refine RW.step (d := ⟨some 3, .agg [[.ro (a0.map (V4.row aI)) false], [aI a1], [aI a2]], []⟩) (k := 0) rfl (dt hnt rfl rfl) (Stp.pure (G := sg) _ (by kernel_rfl)) ?_
  obtain ⟨x1, hx1, h⟩ := ob_inv h
  refine RW.step (d := ⟨some 4, aB x1, []⟩) (k := 0) rfl (dt hnt rfl rfl) (Stp.call0 _ rfl (k := 41) (caps := []) (by kernel_rfl) (C41 hx1) (vl_cons (vw_agg (vs_cons (vl_cons (vw_ro (fun h => h) (vwSegs_map (fun _ => rfl) _)) vl_nil) (vs_cons (vl_cons vw_v vl_nil) (vs_cons (vl_cons vw_v vl_nil) vs_nil)))) vl_nil) vw_v) ?_
  refine RW.step (d := ⟨some 2, aB x1, []⟩) (k := 0) rfl (dt hnt rfl rfl) (Stp.pure (G := sg) _ (by kernel_rfl)) ?_
  refine RW.nil ?_
  refine thenN ?_
  refine AWp.ret ?_
  injection h with h
  subst h
  exact ⟨[aB x1], _, [], _, by kernel_rfl, RetV.flat vw_v⟩

/-- loop.example/g01203/impl.number -/
def F68_L1 (n : Nat) (a0 : (V4 Int)) (f2 : (Int × Int) → Option (Int)) (s1 : Int × Int) : Option (Int) :=
  br (decide (s1.2 < 4)) (ck (0 ≤ s1.2 ∧ s1.2 < 4) (lt (w64 ((w64 (3 * s1.1)) + (V4.get a0 s1.2.toNat)) : Int) fun x3 => f2 (x3, w64 (s1.2 + 1)))) (some s1.1)
def F68 (n : Nat) (a0 : (V4 Int)) : Option (Int) :=
  fx (F68_L1 n a0) n (0, 0)
theorem own68 : Own Try.prog 68 := ⟨_, Try.func68, rfl, by kernel_rfl⟩
theorem C68 {n : Nat} {a0 : (V4 Int)} {r : Int} (h : F68 n a0 = some r) : DCall Try.prog 68 [.agg [(V4.row aI) a0]] [] (aI r) [] := by
  refine ⟨own68, VCall.enter (G := sg) Try.func68 rfl (Nat.le_of_ble_eq_true rfl) (Nat.le_of_ble_eq_true rfl) fun B hnt hn0 => ?_⟩
  unfold F68 at h
  refine AWp.seq ?_
  refine AWp.region ?_
  refine RW.step (d := ⟨some 1, .ptr 0 0 0, [(0, some ⟨36, none, [(V4.row aI) a0]⟩)]⟩) (k := 1) rfl (dt hnt rfl rfl) (Stp.new (G := sg) (by kernel_rfl)) ?_
  refine RW.step (d := ⟨some 2, aI 0, []⟩) (k := 0) rfl (dt hnt rfl rfl) (Stp.pure (G := sg) _ (by kernel_rfl)) ?_
  refine RW.nil ?_
  refine thenN ?_
  refine AWp.seq ?_
  refine AWp.region ?_
  refine RW.step (d := ⟨some 3, aI 0, []⟩) (k := 0) rfl (dt hnt rfl rfl) (Stp.pure (G := sg) _ (by kernel_rfl)) ?_
  refine RW.nil ?_
  refine thenN ?_
  refine AWp.seq ?_
  refine AWp.seq ?_
  refine AWp.region ?_
  refine RW.step (d := ⟨some 6, .agg [(V4.row aI) a0], []⟩) (k := 0) rfl (dt hnt rfl rfl) (Stp.pure (G := sg) _ (by kernel_rfl)) ?_
  refine RW.step (d := ⟨some 7, aI 0, []⟩) (k := 0) rfl (dt hnt rfl rfl) (Stp.pure (G := sg) _ (by kernel_rfl)) ?_
  refine RW.nil ?_
  refine thenN ?_
  refine AWp.block ?_
  refine AWp.loop (fun i st' => ∃ (s1 : Int × Int) (names : List (Nat × Nat)), StV B.n0 st' (tabN names) ⟨tabE [(3, aI s1.1), (6, .agg [(V4.row aI) a0]), (7, aI s1.2)], tabO [], 0⟩ ∧ fx (F68_L1 n a0) i s1 = some r) n ⟨(0, 0), [], (StV.tab (by rw [hn0]; rfl) (E_cons (a0 := aI 0) (by kernel_rfl) vw_v (E_cons (a0 := .agg [(V4.row aI) a0]) (by kernel_rfl) (vw_agg (vs_cons (vwList_flat rfl) vs_nil)) (E_cons (a0 := aI 0) (by kernel_rfl) vw_v E_nil))) O_nil (by rw [hn0]; rfl)), h⟩ ?_
  rintro is1 st1 ⟨s1, names, hv, h⟩
  obtain ⟨ks1, f2, hks1, hfs1, h⟩ := fx_inv h
  refine AWp.view _ hv ?_
  unfold F68_L1 at h
  refine AWp.seq ?_
  refine AWp.region ?_
  refine RW.step (d := ⟨some 8, aB (decide (s1.2 < 4)), []⟩) (k := 0) rfl (dt hnt rfl rfl) (Stp.pure (G := sg) _ (by kernel_rfl)) ?_
  refine RW.nil ?_
  refine thenN ?_
  refine AWp.seq ?_
  refine AWp.cond (t := decide (s1.2 < 4)) (by kernel_rfl) (fun hb => ?_) (fun hb => ?_)
  · have h := br_t hb h
    refine AWp.skip ?_
    refine thenN ?_
    refine AWp.seq ?_
    refine AWp.block ?_
    refine AWp.seq ?_
    refine AWp.region ?_
    obtain ⟨hc6, h⟩ := ck_inv h
    refine RW.step (d := ⟨some 9, aI (V4.get a0 s1.2.toNat), []⟩) (k := 0) rfl (dt hnt rfl rfl) (Stp.pure (G := sg) _ (P_ix_row (row := (V4.row aI) a0) (len := 4) (el := 3) (kk := .i64) (n := s1.2) (by kernel_rfl) (by kernel_rfl) (by kernel_rfl) rfl (by kernel_rfl) (by omega) (V4.row_get _ _ (by omega)))) ?_
    refine RW.step (d := ⟨some 5, aI (V4.get a0 s1.2.toNat), []⟩) (k := 0) rfl (dt hnt rfl rfl) (Stp.pure (G := sg) _ (by kernel_rfl)) ?_
    refine RW.nil ?_
    refine thenN ?_
    refine AWp.region ?_
    refine RW.step (d := ⟨some 10, aI s1.1, []⟩) (k := 0) rfl (dt hnt rfl rfl) (Stp.pure (G := sg) _ (by kernel_rfl)) ?_
    refine RW.step (d := ⟨some 11, aI (w64 (3 * s1.1)), []⟩) (k := 0) rfl (dt hnt rfl rfl) (Stp.pure (G := sg) _ (by kernel_rfl)) ?_
    refine RW.step (d := ⟨some 12, aI (V4.get a0 s1.2.toNat), []⟩) (k := 0) rfl (dt hnt rfl rfl) (Stp.pure (G := sg) _ (by kernel_rfl)) ?_
    obtain ⟨x3, hx3, h⟩ := lt_inv h
    refine RW.step (d := ⟨some 13, aI x3, []⟩) (k := 0) rfl (dt hnt rfl rfl) (Stp.pure (G := sg) _ (by rw [← hx3]; kernel_rfl)) ?_
    refine RW.step (d := ⟨some 3, aI x3, []⟩) (k := 0) rfl (dt hnt rfl rfl) (Stp.pure (G := sg) _ (by kernel_rfl)) ?_
    refine RW.nil ?_
    refine blockN ?_
    refine thenN ?_
    refine AWp.region ?_
    refine RW.step (d := ⟨some 14, aI (w64 (s1.2 + 1)), []⟩) (k := 0) rfl (dt hnt rfl rfl) (Stp.pure (G := sg) _ (by kernel_rfl)) ?_
    refine RW.step (d := ⟨some 7, aI (w64 (s1.2 + 1)), []⟩) (k := 0) rfl (dt hnt rfl rfl) (Stp.pure (G := sg) _ (by kernel_rfl)) ?_
    refine RW.nil ?_
    exact ⟨ks1, by rw [hks1]; exact Nat.lt_succ_self _, (x3, w64 (s1.2 + 1)), [], (StV.tab (by rw [hn0]; rfl) (E_cons (a0 := aI x3) (by kernel_rfl) vw_v (E_cons (a0 := .agg [(V4.row aI) a0]) (by kernel_rfl) (vw_agg (vs_cons (vwList_flat rfl) vs_nil)) (E_cons (a0 := aI (w64 (s1.2 + 1))) (by kernel_rfl) vw_v E_nil))) O_nil (by rw [hn0]; rfl)), by rw [← hfs1]; exact h⟩
  · have h := br_f hb h
    refine AWp.exit ?_
    refine thenX ?_
    refine thenX ?_
    refine blockH ?_
    refine thenN ?_
    refine AWp.seq ?_
    refine AWp.region ?_
    refine RW.step (d := ⟨some 15, aI s1.1, []⟩) (k := 0) rfl (dt hnt rfl rfl) (Stp.pure (G := sg) _ (by kernel_rfl)) ?_
    refine RW.step (d := ⟨some 2, aI s1.1, []⟩) (k := 0) rfl (dt hnt rfl rfl) (Stp.pure (G := sg) _ (by kernel_rfl)) ?_
    refine RW.nil ?_
    refine thenN ?_
    refine AWp.ret ?_
    injection h with h
    subst h
    exact ⟨[aI s1.1], _, [], _, by kernel_rfl, RetV.flat vw_v⟩

/-- loop.example/g01203/impl.IsHand -/
def F42_L1 (n : Nat) (a0 : (List (V4 Int))) (f2 : Int → Option (Bool)) (s1 : Int) : Option (Bool) :=
  lt (decide (s1 < (a0.length : Int)) : Bool) fun x3 => br (x3) (ck (0 ≤ s1 ∧ s1 < (a0.length : Int)) (ob (F49 n (gl a0 s1.toNat)) fun (x4 : (Bool)) => ob (br (!x4) (some true) (ob (br (decide (0 < s1)) (ck (0 ≤ (w64 (s1 - 1)) ∧ (w64 (s1 - 1)) < (a0.length : Int)) (ob (F68 n (gl a0 ((w64 (s1 - 1)).toNat))) fun (x7 : (Int)) => ob (F68 n (gl a0 s1.toNat)) fun (x8 : (Int)) => some (decide (x8 ≤ x7)))) (some false)) fun (x6 : Bool) => some x6)) fun (x5 : Bool) => br (x5) (some false) (f2 (w64 (s1 + 1))))) (lt (decide ((a0.length : Int) ≤ 27) : Bool) fun x9 => some x9)
def F42 (n : Nat) (a0 : (List (V4 Int))) : Option (Bool) :=
  fx (F42_L1 n a0) n 0
theorem own42 : Own Try.prog 42 := ⟨_, Try.func42, rfl, by kernel_rfl⟩
theorem C42 {n : Nat} {a0 : (List (V4 Int))} {r : Bool} (h : F42 n a0 = some r) : DCall Try.prog 42 [.ro (a0.map (V4.row aI)) false] [] (aB r) [] := by
  refine ⟨own42, VCall.enter (G := sg) Try.func42 rfl (Nat.le_of_ble_eq_true rfl) (Nat.le_of_ble_eq_true rfl) fun B hnt hn0 => ?_⟩
  unfold F42 at h
  refine AWp.seq ?_
  refine AWp.region ?_
  refine RW.step (d := ⟨some 2, aB false, []⟩) (k := 0) rfl (dt hnt rfl rfl) (Stp.pure (G := sg) _ (by kernel_rfl)) ?_
  refine RW.nil ?_
  refine thenN ?_
  refine AWp.seq ?_
  refine AWp.seq ?_
  refine AWp.region ?_
  refine RW.step (d := ⟨some 5, .ro (a0.map (V4.row aI)) false, []⟩) (k := 0) rfl (dt hnt rfl rfl) (Stp.pure (G := sg) _ (by kernel_rfl)) ?_
  refine RW.step (d := ⟨some 6, aI (a0.length : Int), []⟩) (k := 0) rfl (dt hnt rfl rfl) (Stp.pure (G := sg) _ (P_len_ro (l := a0) (r := (V4.row aI)) (full := false) (el := 36) (by kernel_rfl) (by kernel_rfl))) ?_
  refine RW.step (d := ⟨some 7, aI 0, []⟩) (k := 0) rfl (dt hnt rfl rfl) (Stp.pure (G := sg) _ (by kernel_rfl)) ?_
  refine RW.nil ?_
  refine thenN ?_
  refine AWp.block ?_
  refine AWp.loop (fun i st' => ∃ (s1 : Int) (names : List (Nat × Nat)), StV B.n0 st' (tabN names) ⟨tabE [(0, .ro (a0.map (V4.row aI)) false), (5, .ro (a0.map (V4.row aI)) false), (6, aI (a0.length : Int)), (7, aI s1)], tabO [], 0⟩ ∧ fx (F42_L1 n a0) i s1 = some r) n ⟨0, [], (StV.tab (by rw [hn0]; rfl) (E_cons (a0 := .ro (a0.map (V4.row aI)) false) (by kernel_rfl) (vw_ro (fun h => h) (vwSegs_map (fun _ => rfl) _)) (E_cons (a0 := .ro (a0.map (V4.row aI)) false) (by kernel_rfl) (vw_ro (fun h => h) (vwSegs_map (fun _ => rfl) _)) (E_cons (a0 := aI (a0.length : Int)) (by kernel_rfl) vw_v (E_cons (a0 := aI 0) (by kernel_rfl) vw_v E_nil)))) O_nil (by rw [hn0]; rfl)), h⟩ ?_
  rintro is1 st1 ⟨s1, names, hv, h⟩
  obtain ⟨ks1, f2, hks1, hfs1, h⟩ := fx_inv h
  refine AWp.view _ hv ?_
  unfold F42_L1 at h
  refine AWp.seq ?_
  refine AWp.region ?_
  obtain ⟨x3, hx3, h⟩ := lt_inv h
  refine RW.step (d := ⟨some 8, aB x3, []⟩) (k := 0) rfl (dt hnt rfl rfl) (Stp.pure (G := sg) _ (by rw [← hx3]; kernel_rfl)) ?_
  refine RW.nil ?_
  refine thenN ?_
  refine AWp.seq ?_
  refine AWp.cond (t := x3) (by kernel_rfl) (fun hb => ?_) (fun hb => ?_)
  · have h := br_t hb h
    refine AWp.skip ?_
    refine thenN ?_
    refine AWp.seq ?_
    refine AWp.block ?_
    refine AWp.seq ?_
    refine AWp.region ?_
    refine RW.step (d := ⟨some 9, aI s1, []⟩) (k := 0) rfl (dt hnt rfl rfl) (Stp.pure (G := sg) _ (by kernel_rfl)) ?_
    obtain ⟨hc11, h⟩ := ck_inv h
    refine RW.step (d := ⟨some 10, .rp (a0.map (V4.row aI)) s1.toNat 0, []⟩) (k := 0) rfl (dt hnt rfl rfl) (Stp.pure (G := sg) _ (P_ia_ro (l := a0) (r := (V4.row aI)) (full := false) (kk := .i64) (n := s1) (el := 36) (by kernel_rfl) (by kernel_rfl) (by kernel_rfl) (fun _ => rfl) rfl hc11)) ?_
    refine RW.step (d := ⟨some 11, .agg [(V4.row aI) (gl a0 s1.toNat)], []⟩) (k := 0) rfl (dt hnt rfl rfl) (Stp.pure (G := sg) _ (P_ld_rp (segs := (a0.map (V4.row aI))) (s := s1.toNat) (j := 0) (by kernel_rfl) (L_row (by kernel_rfl) (by first | omega | (simp; omega))))) ?_
    refine RW.step (d := ⟨some 4, .ptr 0 0 0, [(0, some ⟨36, none, [(V4.row aI) (⟨0, 0, 0, 0⟩ : (V4 Int))]⟩)]⟩) (k := 1) rfl (dt hnt rfl rfl) (Stp.new (G := sg) (by kernel_rfl)) ?_
    refine RW.step (d := ⟨some 3, aI s1, []⟩) (k := 0) rfl (dt hnt rfl rfl) (Stp.pure (G := sg) _ (by kernel_rfl)) ?_
    refine RW.step (d := ⟨none, .any, [(0, some ⟨36, none, [(V4.row aI) (gl a0 s1.toNat)]⟩)]⟩) (k := 0) rfl (dn rfl) (Stp.store (G := sg) _ rfl (by kernel_rfl)) ?_
    refine RW.nil ?_
    refine thenN ?_
    obtain ⟨x4, hx4, h⟩ := ob_inv h
    obtain ⟨x5, hx5, h⟩ := ob_inv h
    refine AWp.cut (fun st' => ∃ names, StV B.n0 st' (tabN names) ⟨tabE [(0, .ro (a0.map (V4.row aI)) false), (5, .ro (a0.map (V4.row aI)) false), (6, aI (a0.length : Int)), (7, aI s1), (29, aB x5)], tabO [], 1⟩) ?_ ?_
    · rcases Bool.eq_false_or_eq_true (!x4) with hbx5 | hbx5
      · have hx5 := br_t hbx5 hx5
        injection hx5 with hx5
        subst hx5
        refine AWp.drw (G := sg) [⟨⟨some 12, .agg [(V4.row aI) (gl a0 s1.toNat)], []⟩, 0⟩, ⟨⟨some 13, aB x4, []⟩, 0⟩, ⟨⟨some 14, aB (!x4), []⟩, 0⟩, ⟨⟨some 15, aB (!x4), []⟩, 0⟩, ⟨⟨some 16, .tup [], []⟩, 0⟩, ⟨⟨some 17, .tup [], []⟩, 0⟩, ⟨⟨some 18, .tup [], []⟩, 0⟩, ⟨⟨some 19, .tup [], []⟩, 0⟩, ⟨⟨some 20, .tup [], []⟩, 0⟩, ⟨⟨some 21, .tup [], []⟩, 0⟩, ⟨⟨some 22, .tup [], []⟩, 0⟩, ⟨⟨some 23, .tup [], []⟩, 0⟩, ⟨⟨some 24, .tup [], []⟩, 0⟩, ⟨⟨some 25, .tup [], []⟩, 0⟩, ⟨⟨some 26, .tup [], []⟩, 0⟩, ⟨⟨some 27, .tup [], []⟩, 0⟩, ⟨⟨some 28, .tup [], []⟩, 0⟩, ⟨⟨some 29, aB true, []⟩, 0⟩] (by kernel_rfl) (VCs.c (OpVC.p _ _ rfl rfl rfl (dt hnt rfl rfl) (Stp.pure (G := sg) _ (by kernel_rfl))) (VCs.c (OpVC.p _ _ rfl rfl rfl (dt hnt rfl rfl) (Stp.call0 _ rfl (k := 49) (caps := []) (by kernel_rfl) (C49 hx4) (vl_cons (vw_agg (vs_cons (vwList_flat rfl) vs_nil)) vl_nil) vw_v)) (VCs.c (OpVC.p _ _ rfl rfl rfl (dt hnt rfl rfl) (Stp.pure (G := sg) _ (by kernel_rfl))) (VCs.c (OpVC.p _ _ rfl rfl rfl (dt hnt rfl rfl) (Stp.pure (G := sg) _ (by kernel_rfl))) (VCs.c (OpVC.gf _ rfl rfl rfl rfl (by rw [hnt]; rfl) (b := !x4) (by kernel_rfl) hbx5 (dt hnt rfl rfl)) (VCs.c (OpVC.gf _ rfl rfl rfl rfl (by rw [hnt]; rfl) (b := !x4) (by kernel_rfl) hbx5 (dt hnt rfl rfl)) (VCs.c (OpVC.gf _ rfl rfl rfl rfl (by rw [hnt]; rfl) (b := !x4) (by kernel_rfl) hbx5 (dt hnt rfl rfl)) (VCs.c (OpVC.gu _ rfl rfl rfl rfl (by rw [hnt]; rfl) (by kernel_rfl) (dt hnt rfl rfl)) (VCs.c (OpVC.gu _ rfl rfl rfl rfl (by rw [hnt]; rfl) (by kernel_rfl) (dt hnt rfl rfl)) (VCs.c (OpVC.gu _ rfl rfl rfl rfl (by rw [hnt]; rfl) (by kernel_rfl) (dt hnt rfl rfl)) (VCs.c (OpVC.gu _ rfl rfl rfl rfl (by rw [hnt]; rfl) (by kernel_rfl) (dt hnt rfl rfl)) (VCs.c (OpVC.gu _ rfl rfl rfl rfl (by rw [hnt]; rfl) (by kernel_rfl) (dt hnt rfl rfl)) (VCs.c (OpVC.gu _ rfl rfl rfl rfl (by rw [hnt]; rfl) (by kernel_rfl) (dt hnt rfl rfl)) (VCs.c (OpVC.gu _ rfl rfl rfl rfl (by rw [hnt]; rfl) (by kernel_rfl) (dt hnt rfl rfl)) (VCs.c (OpVC.gu _ rfl rfl rfl rfl (by rw [hnt]; rfl) (by kernel_rfl) (dt hnt rfl rfl)) (VCs.c (OpVC.gu _ rfl rfl rfl rfl (by rw [hnt]; rfl) (by kernel_rfl) (dt hnt rfl rfl)) (VCs.c (OpVC.gf _ rfl rfl rfl rfl (by rw [hnt]; rfl) (b := !x4) (by kernel_rfl) hbx5 (dt hnt rfl rfl)) (VCs.c (OpVC.p _ _ rfl rfl rfl (dt hnt rfl rfl) (Stp.pure (G := sg) _ (P_pick_t (t := !x4) (by kernel_rfl) hbx5 (by kernel_rfl)))) VCs.n)))))))))))))))))) ?_
        exact thenN ⟨[], (StV.tab (by rw [hn0]; rfl) (E_cons (a0 := .ro (a0.map (V4.row aI)) false) (by kernel_rfl) (vw_ro (fun h => h) (vwSegs_map (fun _ => rfl) _)) (E_cons (a0 := .ro (a0.map (V4.row aI)) false) (by kernel_rfl) (vw_ro (fun h => h) (vwSegs_map (fun _ => rfl) _)) (E_cons (a0 := aI (a0.length : Int)) (by kernel_rfl) vw_v (E_cons (a0 := aI s1) (by kernel_rfl) vw_v (E_cons (a0 := aB true) (by kernel_rfl) vw_v E_nil))))) O_nil (by rw [hn0]; rfl))⟩
      · have hx5 := br_f hbx5 hx5
        obtain ⟨x6, hx6, hx5⟩ := ob_inv hx5
        injection hx5 with hx5
        subst hx5
        rcases Bool.eq_false_or_eq_true (decide (0 < s1)) with hbx6 | hbx6
        · have hx6 := br_t hbx6 hx6
          obtain ⟨hc12, hx6⟩ := ck_inv hx6
          obtain ⟨x7, hx7, hx6⟩ := ob_inv hx6
          obtain ⟨x8, hx8, hx6⟩ := ob_inv hx6
          injection hx6 with hx6
          subst hx6
          refine AWp.drw (G := sg) [⟨⟨some 12, .agg [(V4.row aI) (gl a0 s1.toNat)], []⟩, 0⟩, ⟨⟨some 13, aB x4, []⟩, 0⟩, ⟨⟨some 14, aB (!x4), []⟩, 0⟩, ⟨⟨some 15, aB (!x4), []⟩, 0⟩, ⟨⟨some 16, aI s1, []⟩, 0⟩, ⟨⟨some 17, aB (decide (0 < s1)), []⟩, 0⟩, ⟨⟨some 18, aB (decide (0 < s1)), []⟩, 0⟩, ⟨⟨some 19, .ro (a0.map (V4.row aI)) false, []⟩, 0⟩, ⟨⟨some 20, aI s1, []⟩, 0⟩, ⟨⟨some 21, aI (w64 (s1 - 1)), []⟩, 0⟩, ⟨⟨some 22, .rp (a0.map (V4.row aI)) ((w64 (s1 - 1)).toNat) 0, []⟩, 0⟩, ⟨⟨some 23, .agg [(V4.row aI) (gl a0 ((w64 (s1 - 1)).toNat))], []⟩, 0⟩, ⟨⟨some 24, aI x7, []⟩, 0⟩, ⟨⟨some 25, .agg [(V4.row aI) (gl a0 s1.toNat)], []⟩, 0⟩, ⟨⟨some 26, aI x8, []⟩, 0⟩, ⟨⟨some 27, aB (decide (x8 ≤ x7)), []⟩, 0⟩, ⟨⟨some 28, aB (decide (x8 ≤ x7)), []⟩, 0⟩, ⟨⟨some 29, aB (decide (x8 ≤ x7)), []⟩, 0⟩] (by kernel_rfl) (VCs.c (OpVC.p _ _ rfl rfl rfl (dt hnt rfl rfl) (Stp.pure (G := sg) _ (by kernel_rfl))) (VCs.c (OpVC.p _ _ rfl rfl rfl (dt hnt rfl rfl) (Stp.call0 _ rfl (k := 49) (caps := []) (by kernel_rfl) (C49 hx4) (vl_cons (vw_agg (vs_cons (vwList_flat rfl) vs_nil)) vl_nil) vw_v)) (VCs.c (OpVC.p _ _ rfl rfl rfl (dt hnt rfl rfl) (Stp.pure (G := sg) _ (by kernel_rfl))) (VCs.c (OpVC.p _ _ rfl rfl rfl (dt hnt rfl rfl) (Stp.pure (G := sg) _ (by kernel_rfl))) (VCs.c (OpVC.gt _ _ rfl rfl rfl rfl (by rw [hnt]; rfl) (b := !x4) (by kernel_rfl) hbx5 (dt hnt rfl rfl) (Stp.pure (G := sg) _ (by kernel_rfl))) (VCs.c (OpVC.gt _ _ rfl rfl rfl rfl (by rw [hnt]; rfl) (b := !x4) (by kernel_rfl) hbx5 (dt hnt rfl rfl) (Stp.pure (G := sg) _ (by kernel_rfl))) (VCs.c (OpVC.gt _ _ rfl rfl rfl rfl (by rw [hnt]; rfl) (b := !x4) (by kernel_rfl) hbx5 (dt hnt rfl rfl) (Stp.pure (G := sg) _ (by kernel_rfl))) (VCs.c (OpVC.gt _ _ rfl rfl rfl rfl (by rw [hnt]; rfl) (b := decide (0 < s1)) (by kernel_rfl) hbx6 (dt hnt rfl rfl) (Stp.pure (G := sg) _ (by kernel_rfl))) (VCs.c (OpVC.gt _ _ rfl rfl rfl rfl (by rw [hnt]; rfl) (b := decide (0 < s1)) (by kernel_rfl) hbx6 (dt hnt rfl rfl) (Stp.pure (G := sg) _ (by kernel_rfl))) (VCs.c (OpVC.gt _ _ rfl rfl rfl rfl (by rw [hnt]; rfl) (b := decide (0 < s1)) (by kernel_rfl) hbx6 (dt hnt rfl rfl) (Stp.pure (G := sg) _ (by kernel_rfl))) (VCs.c (OpVC.gt _ _ rfl rfl rfl rfl (by rw [hnt]; rfl) (b := decide (0 < s1)) (by kernel_rfl) hbx6 (dt hnt rfl rfl) (Stp.pure (G := sg) _ (P_ia_ro (l := a0) (r := (V4.row aI)) (full := false) (kk := .i64) (n := (w64 (s1 - 1))) (el := 36) (by kernel_rfl) (by kernel_rfl) (by kernel_rfl) (fun _ => rfl) rfl hc12))) (VCs.c (OpVC.gt _ _ rfl rfl rfl rfl (by rw [hnt]; rfl) (b := decide (0 < s1)) (by kernel_rfl) hbx6 (dt hnt rfl rfl) (Stp.pure (G := sg) _ (P_ld_rp (segs := (a0.map (V4.row aI))) (s := ((w64 (s1 - 1)).toNat)) (j := 0) (by kernel_rfl) (L_row (by kernel_rfl) (by first | omega | (simp; omega)))))) (VCs.c (OpVC.gt _ _ rfl rfl rfl rfl (by rw [hnt]; rfl) (b := decide (0 < s1)) (by kernel_rfl) hbx6 (dt hnt rfl rfl) (Stp.call0 _ rfl (k := 68) (caps := []) (by kernel_rfl) (C68 hx7) (vl_cons (vw_agg (vs_cons (vwList_flat rfl) vs_nil)) vl_nil) vw_v)) (VCs.c (OpVC.gt _ _ rfl rfl rfl rfl (by rw [hnt]; rfl) (b := decide (0 < s1)) (by kernel_rfl) hbx6 (dt hnt rfl rfl) (Stp.pure (G := sg) _ (by kernel_rfl))) (VCs.c (OpVC.gt _ _ rfl rfl rfl rfl (by rw [hnt]; rfl) (b := decide (0 < s1)) (by kernel_rfl) hbx6 (dt hnt rfl rfl) (Stp.call0 _ rfl (k := 68) (caps := []) (by kernel_rfl) (C68 hx8) (vl_cons (vw_agg (vs_cons (vwList_flat rfl) vs_nil)) vl_nil) vw_v)) (VCs.c (OpVC.gt _ _ rfl rfl rfl rfl (by rw [hnt]; rfl) (b := decide (0 < s1)) (by kernel_rfl) hbx6 (dt hnt rfl rfl) (Stp.pure (G := sg) _ (by kernel_rfl))) (VCs.c (OpVC.gt _ _ rfl rfl rfl rfl (by rw [hnt]; rfl) (b := !x4) (by kernel_rfl) hbx5 (dt hnt rfl rfl) (Stp.pure (G := sg) _ (P_pick_t (t := decide (0 < s1)) (by kernel_rfl) hbx6 (by kernel_rfl)))) (VCs.c (OpVC.p _ _ rfl rfl rfl (dt hnt rfl rfl) (Stp.pure (G := sg) _ (P_pick_f (t := !x4) (by kernel_rfl) hbx5 (by kernel_rfl)))) VCs.n)))))))))))))))))) ?_
          exact thenN ⟨[], (StV.tab (by rw [hn0]; rfl) (E_cons (a0 := .ro (a0.map (V4.row aI)) false) (by kernel_rfl) (vw_ro (fun h => h) (vwSegs_map (fun _ => rfl) _)) (E_cons (a0 := .ro (a0.map (V4.row aI)) false) (by kernel_rfl) (vw_ro (fun h => h) (vwSegs_map (fun _ => rfl) _)) (E_cons (a0 := aI (a0.length : Int)) (by kernel_rfl) vw_v (E_cons (a0 := aI s1) (by kernel_rfl) vw_v (E_cons (a0 := aB (decide (x8 ≤ x7))) (by kernel_rfl) vw_v E_nil))))) O_nil (by rw [hn0]; rfl))⟩
        · have hx6 := br_f hbx6 hx6
          injection hx6 with hx6
          subst hx6
          refine AWp.drw (G := sg) [⟨⟨some 12, .agg [(V4.row aI) (gl a0 s1.toNat)], []⟩, 0⟩, ⟨⟨some 13, aB x4, []⟩, 0⟩, ⟨⟨some 14, aB (!x4), []⟩, 0⟩, ⟨⟨some 15, aB (!x4), []⟩, 0⟩, ⟨⟨some 16, aI s1, []⟩, 0⟩, ⟨⟨some 17, aB (decide (0 < s1)), []⟩, 0⟩, ⟨⟨some 18, aB (decide (0 < s1)), []⟩, 0⟩, ⟨⟨some 19, .tup [], []⟩, 0⟩, ⟨⟨some 20, .tup [], []⟩, 0⟩, ⟨⟨some 21, .tup [], []⟩, 0⟩, ⟨⟨some 22, .tup [], []⟩, 0⟩, ⟨⟨some 23, .tup [], []⟩, 0⟩, ⟨⟨some 24, .tup [], []⟩, 0⟩, ⟨⟨some 25, .tup [], []⟩, 0⟩, ⟨⟨some 26, .tup [], []⟩, 0⟩, ⟨⟨some 27, .tup [], []⟩, 0⟩, ⟨⟨some 28, aB false, []⟩, 0⟩, ⟨⟨some 29, aB false, []⟩, 0⟩] (by kernel_rfl) (VCs.c (OpVC.p _ _ rfl rfl rfl (dt hnt rfl rfl) (Stp.pure (G := sg) _ (by kernel_rfl))) (VCs.c (OpVC.p _ _ rfl rfl rfl (dt hnt rfl rfl) (Stp.call0 _ rfl (k := 49) (caps := []) (by kernel_rfl) (C49 hx4) (vl_cons (vw_agg (vs_cons (vwList_flat rfl) vs_nil)) vl_nil) vw_v)) (VCs.c (OpVC.p _ _ rfl rfl rfl (dt hnt rfl rfl) (Stp.pure (G := sg) _ (by kernel_rfl))) (VCs.c (OpVC.p _ _ rfl rfl rfl (dt hnt rfl rfl) (Stp.pure (G := sg) _ (by kernel_rfl))) (VCs.c (OpVC.gt _ _ rfl rfl rfl rfl (by rw [hnt]; rfl) (b := !x4) (by kernel_rfl) hbx5 (dt hnt rfl rfl) (Stp.pure (G := sg) _ (by kernel_rfl))) (VCs.c (OpVC.gt _ _ rfl rfl rfl rfl (by rw [hnt]; rfl) (b := !x4) (by kernel_rfl) hbx5 (dt hnt rfl rfl) (Stp.pure (G := sg) _ (by kernel_rfl))) (VCs.c (OpVC.gt _ _ rfl rfl rfl rfl (by rw [hnt]; rfl) (b := !x4) (by kernel_rfl) hbx5 (dt hnt rfl rfl) (Stp.pure (G := sg) _ (by kernel_rfl))) (VCs.c (OpVC.gf _ rfl rfl rfl rfl (by rw [hnt]; rfl) (b := decide (0 < s1)) (by kernel_rfl) hbx6 (dt hnt rfl rfl)) (VCs.c (OpVC.gf _ rfl rfl rfl rfl (by rw [hnt]; rfl) (b := decide (0 < s1)) (by kernel_rfl) hbx6 (dt hnt rfl rfl)) (VCs.c (OpVC.gf _ rfl rfl rfl rfl (by rw [hnt]; rfl) (b := decide (0 < s1)) (by kernel_rfl) hbx6 (dt hnt rfl rfl)) (VCs.c (OpVC.gf _ rfl rfl rfl rfl (by rw [hnt]; rfl) (b := decide (0 < s1)) (by kernel_rfl) hbx6 (dt hnt rfl rfl)) (VCs.c (OpVC.gf _ rfl rfl rfl rfl (by rw [hnt]; rfl) (b := decide (0 < s1)) (by kernel_rfl) hbx6 (dt hnt rfl rfl)) (VCs.c (OpVC.gf _ rfl rfl rfl rfl (by rw [hnt]; rfl) (b := decide (0 < s1)) (by kernel_rfl) hbx6 (dt hnt rfl rfl)) (VCs.c (OpVC.gf _ rfl rfl rfl rfl (by rw [hnt]; rfl) (b := decide (0 < s1)) (by kernel_rfl) hbx6 (dt hnt rfl rfl)) (VCs.c (OpVC.gf _ rfl rfl rfl rfl (by rw [hnt]; rfl) (b := decide (0 < s1)) (by kernel_rfl) hbx6 (dt hnt rfl rfl)) (VCs.c (OpVC.gf _ rfl rfl rfl rfl (by rw [hnt]; rfl) (b := decide (0 < s1)) (by kernel_rfl) hbx6 (dt hnt rfl rfl)) (VCs.c (OpVC.gt _ _ rfl rfl rfl rfl (by rw [hnt]; rfl) (b := !x4) (by kernel_rfl) hbx5 (dt hnt rfl rfl) (Stp.pure (G := sg) _ (P_pick_f (t := decide (0 < s1)) (by kernel_rfl) hbx6 (by kernel_rfl)))) (VCs.c (OpVC.p _ _ rfl rfl rfl (dt hnt rfl rfl) (Stp.pure (G := sg) _ (P_pick_f (t := !x4) (by kernel_rfl) hbx5 (by kernel_rfl)))) VCs.n)))))))))))))))))) ?_
          exact thenN ⟨[], (StV.tab (by rw [hn0]; rfl) (E_cons (a0 := .ro (a0.map (V4.row aI)) false) (by kernel_rfl) (vw_ro (fun h => h) (vwSegs_map (fun _ => rfl) _)) (E_cons (a0 := .ro (a0.map (V4.row aI)) false) (by kernel_rfl) (vw_ro (fun h => h) (vwSegs_map (fun _ => rfl) _)) (E_cons (a0 := aI (a0.length : Int)) (by kernel_rfl) vw_v (E_cons (a0 := aI s1) (by kernel_rfl) vw_v (E_cons (a0 := aB false) (by kernel_rfl) vw_v E_nil))))) O_nil (by rw [hn0]; rfl))⟩
    · rintro st2 ⟨names, hv⟩
      refine AWp.view _ hv ?_
      refine AWp.cond (t := x5) (by kernel_rfl) (fun hb => ?_) (fun hb => ?_)
      · have h := br_t hb h
        refine AWp.seq ?_
        refine AWp.region ?_
        refine RW.step (d := ⟨some 2, aB false, []⟩) (k := 0) rfl (dt hnt rfl rfl) (Stp.pure (G := sg) _ (by kernel_rfl)) ?_
        refine RW.nil ?_
        refine thenN ?_
        refine AWp.ret ?_
        refine blockR ?_
        refine thenR ?_
        refine thenR ?_
        refine blockR ?_
        refine thenR ?_
        injection h with h
        subst h
        exact ⟨[aB false], _, [], _, by kernel_rfl, RetV.flat vw_v⟩
      · have h := br_f hb h
        refine AWp.skip ?_
        refine blockN ?_
        refine thenN ?_
        refine AWp.region ?_
        refine RW.step (d := ⟨some 30, aI (w64 (s1 + 1)), []⟩) (k := 0) rfl (dt hnt rfl rfl) (Stp.pure (G := sg) _ (by kernel_rfl)) ?_
        refine RW.step (d := ⟨some 7, aI (w64 (s1 + 1)), []⟩) (k := 0) rfl (dt hnt rfl rfl) (Stp.pure (G := sg) _ (by kernel_rfl)) ?_
        refine RW.nil ?_
        exact ⟨ks1, by rw [hks1]; exact Nat.lt_succ_self _, w64 (s1 + 1), [], (StV.tab (by rw [hn0]; rfl) (E_cons (a0 := .ro (a0.map (V4.row aI)) false) (by kernel_rfl) (vw_ro (fun h => h) (vwSegs_map (fun _ => rfl) _)) (E_cons (a0 := .ro (a0.map (V4.row aI)) false) (by kernel_rfl) (vw_ro (fun h => h) (vwSegs_map (fun _ => rfl) _)) (E_cons (a0 := aI (a0.length : Int)) (by kernel_rfl) vw_v (E_cons (a0 := aI (w64 (s1 + 1))) (by kernel_rfl) vw_v E_nil)))) O_nil (by rw [hn0]; rfl)), by rw [← hfs1]; exact h⟩
  · have h := br_f hb h
    refine AWp.exit ?_
    refine thenX ?_
    refine thenX ?_
    refine blockH ?_
    refine thenN ?_
    refine AWp.seq ?_
    refine AWp.region ?_
    refine RW.step (d := ⟨some 31, .ro (a0.map (V4.row aI)) false, []⟩) (k := 0) rfl (dt hnt rfl rfl) (Stp.pure (G := sg) _ (by kernel_rfl)) ?_
    refine RW.step (d := ⟨some 32, aI (a0.length : Int), []⟩) (k := 0) rfl (dt hnt rfl rfl) (Stp.pure (G := sg) _ (P_len_ro (l := a0) (r := (V4.row aI)) (full := false) (el := 36) (by kernel_rfl) (by kernel_rfl))) ?_
    obtain ⟨x9, hx9, h⟩ := lt_inv h
    refine RW.step (d := ⟨some 33, aB x9, []⟩) (k := 0) rfl (dt hnt rfl rfl) (Stp.pure (G := sg) _ (by rw [← hx9]; kernel_rfl)) ?_
    refine RW.step (d := ⟨some 2, aB x9, []⟩) (k := 0) rfl (dt hnt rfl rfl) (Stp.pure (G := sg) _ (by kernel_rfl)) ?_
    refine RW.nil ?_
    refine thenN ?_
    refine AWp.ret ?_
    injection h with h
    subst h
    exact ⟨[aB x9], _, [], _, by kernel_rfl, RetV.flat vw_v⟩

/-- loop.example/g01203/impl.IsTable -/
def F18 (n : Nat) (a0 : (List (V4 Int))) (a1 : Int) (a2 : Int) : Option (Bool) :=
  ob (F42 n a0) fun (x1 : (Bool)) => ob (br (x1) (ob (F43 n a1 0 1000) fun (x3 : (Bool)) => some x3) (some false)) fun (x2 : Bool) => ob (br (x2) (ob (F43 n a2 0 1000) fun (x5 : (Bool)) => some x5) (some false)) fun (x4 : Bool) => some x4
theorem own18 : Own Try.prog 18 := ⟨_, Try.func18, rfl, by kernel_rfl⟩
theorem C18 {n : Nat} {a0 : (List (V4 Int))} {a1 : Int} {a2 : Int} {r : Bool} (h : F18 n a0 a1 a2 = some r) : DCall Try.prog 18 [.agg [[.ro (a0.map (V4.row aI)) false], [aI a1], [aI a2]]] [] (aB r) [] := by
  refine ⟨own18, VCall.enter (G := sg) Try.func18 rfl (Nat.le_of_ble_eq_true rfl) (Nat.le_of_ble_eq_true rfl) fun B hnt hn0 => ?_⟩
  unfold F18 at h
  refine AWp.seq ?_
  refine AWp.region ?_
  refine RW.step (d := ⟨some 1, .ptr 0 0 0, [(0, some ⟨32, none, [[.ro (a0.map (V4.row aI)) false], [aI a1], [aI a2]]⟩)]⟩) (k := 1) rfl (dt hnt rfl rfl) (Stp.new (G := sg) (by kernel_rfl)) ?_
  refine RW.step (d := ⟨some 2, aB false, []⟩) (k := 0) rfl (dt hnt rfl rfl) (Stp.pure (G := sg) _ (by kernel_rfl)) ?_
  refine RW.nil ?_
  refine thenN ?_
  refine AWp.seq ?_
  refine AWp.region ?_
  refine RW.step (d := ⟨some 3, .ptr 0 0 0, []⟩) (k := 0) rfl (dt hnt rfl rfl) (Stp.pure (G := sg) _ (by kernel_rfl)) ?_
  refine RW.step (d := ⟨some 4, .ro (a0.map (V4.row aI)) false, []⟩) (k := 0) rfl (dt hnt rfl rfl) (Stp.pure (G := sg) _ (by kernel_rfl)) ?_
  obtain ⟨x1, hx1, h⟩ := ob_inv h
  refine RW.step (d := ⟨some 5, aB x1, []⟩) (k := 0) rfl (dt hnt rfl rfl) (Stp.call0 _ rfl (k := 42) (caps := []) (by kernel_rfl) (C42 hx1) (vl_cons (vw_ro (fun h => h) (vwSegs_map (fun _ => rfl) _)) vl_nil) vw_v) ?_
  refine RW.step (d := ⟨some 6, aB x1, []⟩) (k := 0) rfl (dt hnt rfl rfl) (Stp.pure (G := sg) _ (by kernel_rfl)) ?_
  obtain ⟨x2, hx2, h⟩ := ob_inv h
  refine RW.mid 4 (fun st' => ∃ names, StV B.n0 st' (tabN names) ⟨tabE [(1, .ptr 0 0 0), (10, aB x2)], tabO [(0, ⟨32, none, [[.ro (a0.map (V4.row aI)) false], [aI a1], [aI a2]]⟩)], 1⟩) ?_ ?_
  · rcases Bool.eq_false_or_eq_true (x1) with hb1 | hb1
    · have hx2 := br_t hb1 hx2
      refine RW.gt (d := ⟨some 7, .ptr 0 1 0, []⟩) (k := 0) rfl rfl (by rw [hnt]; rfl) (b := x1) (by kernel_rfl) hb1 (dt hnt rfl rfl) (Stp.pure (G := sg) _ (by kernel_rfl)) ?_
      refine RW.gt (d := ⟨some 8, aI a1, []⟩) (k := 0) rfl rfl (by rw [hnt]; rfl) (b := x1) (by kernel_rfl) hb1 (dt hnt rfl rfl) (Stp.pure (G := sg) _ (by kernel_rfl)) ?_
      obtain ⟨x3, hx3, hx2⟩ := ob_inv hx2
      refine RW.gt (d := ⟨some 9, aB x3, []⟩) (k := 0) rfl rfl (by rw [hnt]; rfl) (b := x1) (by kernel_rfl) hb1 (dt hnt rfl rfl) (Stp.call0 _ rfl (k := 43) (caps := []) (by kernel_rfl) (C43 hx3) (vl_cons vw_v (vl_cons vw_v (vl_cons vw_v vl_nil))) vw_v) ?_
      refine RW.step (d := ⟨some 10, aB x3, []⟩) (k := 0) rfl (dt hnt rfl rfl) (Stp.pure (G := sg) _ (P_pick_t (t := x1) (by kernel_rfl) hb1 (by kernel_rfl))) ?_
      injection hx2 with hx2
      subst hx2
      exact RW.nil (thenN ⟨[(0, 0)], (StV.tab (by rw [hn0]; rfl) (E_cons (a0 := .ptr 0 0 0) (by kernel_rfl) (vw_ptr rfl) (E_cons (a0 := aB x3) (by kernel_rfl) vw_v E_nil)) (O_cons 0 ⟨32, none, [[.ro (a0.map (V4.row aI)) false], [aI a1], [aI a2]]⟩ rfl (by kernel_rfl) rfl rfl (vs_cons (vl_cons (vw_ro (fun h => h) (vwSegs_map (fun _ => rfl) _)) vl_nil) (vs_cons (vl_cons vw_v vl_nil) (vs_cons (vl_cons vw_v vl_nil) vs_nil))) O_nil) (by rw [hn0]; rfl))⟩)
    · have hx2 := br_f hb1 hx2
      refine RW.gf rfl rfl (by rw [hnt]; rfl) (b := x1) (by kernel_rfl) hb1 (dt hnt rfl rfl) ?_
      refine RW.gf rfl rfl (by rw [hnt]; rfl) (b := x1) (by kernel_rfl) hb1 (dt hnt rfl rfl) ?_
      refine RW.gf rfl rfl (by rw [hnt]; rfl) (b := x1) (by kernel_rfl) hb1 (dt hnt rfl rfl) ?_
      refine RW.step (d := ⟨some 10, aB false, []⟩) (k := 0) rfl (dt hnt rfl rfl) (Stp.pure (G := sg) _ (P_pick_f (t := x1) (by kernel_rfl) hb1 (by kernel_rfl))) ?_
      injection hx2 with hx2
      subst hx2
      exact RW.nil (thenN ⟨[(0, 0)], (StV.tab (by rw [hn0]; rfl) (E_cons (a0 := .ptr 0 0 0) (by kernel_rfl) (vw_ptr rfl) (E_cons (a0 := aB false) (by kernel_rfl) vw_v E_nil)) (O_cons 0 ⟨32, none, [[.ro (a0.map (V4.row aI)) false], [aI a1], [aI a2]]⟩ rfl (by kernel_rfl) rfl rfl (vs_cons (vl_cons (vw_ro (fun h => h) (vwSegs_map (fun _ => rfl) _)) vl_nil) (vs_cons (vl_cons vw_v vl_nil) (vs_cons (vl_cons vw_v vl_nil) vs_nil))) O_nil) (by rw [hn0]; rfl))⟩)
  · rintro st2 ⟨names, hv⟩
    refine RW.weak _ hv ?_
    refine RW.step (d := ⟨some 11, aB x2, []⟩) (k := 0) rfl (dt hnt rfl rfl) (Stp.pure (G := sg) _ (by kernel_rfl)) ?_
    obtain ⟨x4, hx4, h⟩ := ob_inv h
    refine RW.mid 4 (fun st' => ∃ names, StV B.n0 st' (tabN names) ⟨tabE [(15, aB x4)], tabO [], 1⟩) ?_ ?_
    · rcases Bool.eq_false_or_eq_true (x2) with hb1 | hb1
      · have hx4 := br_t hb1 hx4
        refine RW.gt (d := ⟨some 12, .ptr 0 2 0, []⟩) (k := 0) rfl rfl (by rw [hnt]; rfl) (b := x2) (by kernel_rfl) hb1 (dt hnt rfl rfl) (Stp.pure (G := sg) _ (by kernel_rfl)) ?_
        refine RW.gt (d := ⟨some 13, aI a2, []⟩) (k := 0) rfl rfl (by rw [hnt]; rfl) (b := x2) (by kernel_rfl) hb1 (dt hnt rfl rfl) (Stp.pure (G := sg) _ (by kernel_rfl)) ?_
        obtain ⟨x5, hx5, hx4⟩ := ob_inv hx4
        refine RW.gt (d := ⟨some 14, aB x5, []⟩) (k := 0) rfl rfl (by rw [hnt]; rfl) (b := x2) (by kernel_rfl) hb1 (dt hnt rfl rfl) (Stp.call0 _ rfl (k := 43) (caps := []) (by kernel_rfl) (C43 hx5) (vl_cons vw_v (vl_cons vw_v (vl_cons vw_v vl_nil))) vw_v) ?_
        refine RW.step (d := ⟨some 15, aB x5, []⟩) (k := 0) rfl (dt hnt rfl rfl) (Stp.pure (G := sg) _ (P_pick_t (t := x2) (by kernel_rfl) hb1 (by kernel_rfl))) ?_
        injection hx4 with hx4
        subst hx4
        exact RW.nil (thenN ⟨[], (StV.tab (by rw [hn0]; rfl) (E_cons (a0 := aB x5) (by kernel_rfl) vw_v E_nil) O_nil (by rw [hn0]; rfl))⟩)
      · have hx4 := br_f hb1 hx4
        refine RW.gf rfl rfl (by rw [hnt]; rfl) (b := x2) (by kernel_rfl) hb1 (dt hnt rfl rfl) ?_
        refine RW.gf rfl rfl (by rw [hnt]; rfl) (b := x2) (by kernel_rfl) hb1 (dt hnt rfl rfl) ?_
        refine RW.gf rfl rfl (by rw [hnt]; rfl) (b := x2) (by kernel_rfl) hb1 (dt hnt rfl rfl) ?_
        refine RW.step (d := ⟨some 15, aB false, []⟩) (k := 0) rfl (dt hnt rfl rfl) (Stp.pure (G := sg) _ (P_pick_f (t := x2) (by kernel_rfl) hb1 (by kernel_rfl))) ?_
        injection hx4 with hx4
        subst hx4
        exact RW.nil (thenN ⟨[], (StV.tab (by rw [hn0]; rfl) (E_cons (a0 := aB false) (by kernel_rfl) vw_v E_nil) O_nil (by rw [hn0]; rfl))⟩)
    · rintro st2 ⟨names, hv⟩
      refine RW.weak _ hv ?_
      refine RW.step (d := ⟨some 2, aB x4, []⟩) (k := 0) rfl (dt hnt rfl rfl) (Stp.pure (G := sg) _ (by kernel_rfl)) ?_
      refine RW.nil ?_
      refine thenN ?_
      refine AWp.ret ?_
      injection h with h
      subst h
      exact ⟨[aB x4], _, [], _, by kernel_rfl, RetV.flat vw_v⟩

/-- loop.example/g01203/laws.eqTable -/
def F19 (n : Nat) (a0 : (List (V4 Int))) (a1 : Int) (a2 : Int) (a3 : (List (V4 Int))) (a4 : Int) (a5 : Int) : Option (Bool) :=
  ob (F14 n a0 a3) fun (x1 : (Bool)) => br (!x1) (some false) (br (!decide (a1 = a4)) (some false) (br (!decide (a2 = a5)) (some false) (some true)))
theorem own19 : Own Try.prog 19 := ⟨_, Try.func19, rfl, by kernel_rfl⟩
theorem C19 {n : Nat} {a0 : (List (V4 Int))} {a1 : Int} {a2 : Int} {a3 : (List (V4 Int))} {a4 : Int} {a5 : Int} {r : Bool} (h : F19 n a0 a1 a2 a3 a4 a5 = some r) : DCall Try.prog 19 [.agg [[.ro (a0.map (V4.row aI)) false], [aI a1], [aI a2]], .agg [[.ro (a3.map (V4.row aI)) false], [aI a4], [aI a5]]] [] (aB r) [] := by
  refine ⟨own19, VCall.enter (G := sg) Try.func19 rfl (Nat.le_of_ble_eq_true rfl) (Nat.le_of_ble_eq_true rfl) fun B hnt hn0 => ?_⟩
  unfold F19 at h
  refine AWp.seq ?_
  refine AWp.region ?_
  refine RW.step (d := ⟨some 2, .ptr 0 0 0, [(0, some ⟨32, none, [[.ro (a0.map (V4.row aI)) false], [aI a1], [aI a2]]⟩)]⟩) (k := 1) rfl (dt hnt rfl rfl) (Stp.new (G := sg) (by kernel_rfl)) ?_
  refine RW.step (d := ⟨some 3, .ptr 1 0 0, [(1, some ⟨32, none, [[.ro (a3.map (V4.row aI)) false], [aI a4], [aI a5]]⟩)]⟩) (k := 1) rfl (dt hnt rfl rfl) (Stp.new (G := sg) (by kernel_rfl)) ?_
  refine RW.step (d := ⟨some 4, aB false, []⟩) (k := 0) rfl (dt hnt rfl rfl) (Stp.pure (G := sg) _ (by kernel_rfl)) ?_
  refine RW.nil ?_
  refine thenN ?_
  refine AWp.seq ?_
  refine AWp.seq ?_
  refine AWp.region ?_
  refine RW.step (d := ⟨some 5, .ptr 0 0 0, []⟩) (k := 0) rfl (dt hnt rfl rfl) (Stp.pure (G := sg) _ (by kernel_rfl)) ?_
  refine RW.step (d := ⟨some 6, .ro (a0.map (V4.row aI)) false, []⟩) (k := 0) rfl (dt hnt rfl rfl) (Stp.pure (G := sg) _ (by kernel_rfl)) ?_
  refine RW.step (d := ⟨some 7, .ptr 1 0 0, []⟩) (k := 0) rfl (dt hnt rfl rfl) (Stp.pure (G := sg) _ (by kernel_rfl)) ?_
  refine RW.step (d := ⟨some 8, .ro (a3.map (V4.row aI)) false, []⟩) (k := 0) rfl (dt hnt rfl rfl) (Stp.pure (G := sg) _ (by kernel_rfl)) ?_
  obtain ⟨x1, hx1, h⟩ := ob_inv h
  refine RW.step (d := ⟨some 9, aB x1, []⟩) (k := 0) rfl (dt hnt rfl rfl) (Stp.call0 _ rfl (k := 14) (caps := []) (by kernel_rfl) (C14 hx1) (vl_cons (vw_ro (fun h => h) (vwSegs_map (fun _ => rfl) _)) (vl_cons (vw_ro (fun h => h) (vwSegs_map (fun _ => rfl) _)) vl_nil)) vw_v) ?_
  refine RW.step (d := ⟨some 10, aB (!x1), []⟩) (k := 0) rfl (dt hnt rfl rfl) (Stp.pure (G := sg) _ (by kernel_rfl)) ?_
  refine RW.nil ?_
  refine thenN ?_
  refine AWp.cond (t := !x1) (by kernel_rfl) (fun hb => ?_) (fun hb => ?_)
  · have h := br_t hb h
    refine AWp.seq ?_
    refine AWp.region ?_
    refine RW.step (d := ⟨some 4, aB false, []⟩) (k := 0) rfl (dt hnt rfl rfl) (Stp.pure (G := sg) _ (by kernel_rfl)) ?_
    refine RW.nil ?_
    refine thenN ?_
    refine AWp.ret ?_
    refine thenR ?_
    injection h with h
    subst h
    exact ⟨[aB false], _, [], _, by kernel_rfl, RetV.flat vw_v⟩
  · have h := br_f hb h
    refine AWp.skip ?_
    refine thenN ?_
    refine AWp.seq ?_
    refine AWp.seq ?_
    refine AWp.region ?_
    refine RW.step (d := ⟨some 11, .ptr 0 1 0, []⟩) (k := 0) rfl (dt hnt rfl rfl) (Stp.pure (G := sg) _ (by kernel_rfl)) ?_
    refine RW.step (d := ⟨some 12, aI a1, []⟩) (k := 0) rfl (dt hnt rfl rfl) (Stp.pure (G := sg) _ (by kernel_rfl)) ?_
    refine RW.step (d := ⟨some 13, .ptr 1 1 0, []⟩) (k := 0) rfl (dt hnt rfl rfl) (Stp.pure (G := sg) _ (by kernel_rfl)) ?_
    refine RW.step (d := ⟨some 14, aI a4, []⟩) (k := 0) rfl (dt hnt rfl rfl) (Stp.pure (G := sg) _ (by kernel_rfl)) ?_
    refine RW.step (d := ⟨some 15, aB (!decide (a1 = a4)), []⟩) (k := 0) rfl (dt hnt rfl rfl) (Stp.pure (G := sg) _ (by kernel_rfl)) ?_
    refine RW.nil ?_
    refine thenN ?_
    refine AWp.cond (t := !decide (a1 = a4)) (by kernel_rfl) (fun hb => ?_) (fun hb => ?_)
    · have h := br_t hb h
      refine AWp.seq ?_
      refine AWp.region ?_
      refine RW.step (d := ⟨some 4, aB false, []⟩) (k := 0) rfl (dt hnt rfl rfl) (Stp.pure (G := sg) _ (by kernel_rfl)) ?_
      refine RW.nil ?_
      refine thenN ?_
      refine AWp.ret ?_
      refine thenR ?_
      injection h with h
      subst h
      exact ⟨[aB false], _, [], _, by kernel_rfl, RetV.flat vw_v⟩
    · have h := br_f hb h
      refine AWp.skip ?_
      refine thenN ?_
      refine AWp.seq ?_
      refine AWp.seq ?_
      refine AWp.region ?_
      refine RW.step (d := ⟨some 16, .ptr 0 2 0, []⟩) (k := 0) rfl (dt hnt rfl rfl) (Stp.pure (G := sg) _ (by kernel_rfl)) ?_
      refine RW.step (d := ⟨some 17, aI a2, []⟩) (k := 0) rfl (dt hnt rfl rfl) (Stp.pure (G := sg) _ (by kernel_rfl)) ?_
      refine RW.step (d := ⟨some 18, .ptr 1 2 0, []⟩) (k := 0) rfl (dt hnt rfl rfl) (Stp.pure (G := sg) _ (by kernel_rfl)) ?_
      refine RW.step (d := ⟨some 19, aI a5, []⟩) (k := 0) rfl (dt hnt rfl rfl) (Stp.pure (G := sg) _ (by kernel_rfl)) ?_
      refine RW.step (d := ⟨some 20, aB (!decide (a2 = a5)), []⟩) (k := 0) rfl (dt hnt rfl rfl) (Stp.pure (G := sg) _ (by kernel_rfl)) ?_
      refine RW.nil ?_
      refine thenN ?_
      refine AWp.cond (t := !decide (a2 = a5)) (by kernel_rfl) (fun hb => ?_) (fun hb => ?_)
      · have h := br_t hb h
        refine AWp.seq ?_
        refine AWp.region ?_
        refine RW.step (d := ⟨some 4, aB false, []⟩) (k := 0) rfl (dt hnt rfl rfl) (Stp.pure (G := sg) _ (by kernel_rfl)) ?_
        refine RW.nil ?_
        refine thenN ?_
        refine AWp.ret ?_
        refine thenR ?_
        injection h with h
        subst h
        exact ⟨[aB false], _, [], _, by kernel_rfl, RetV.flat vw_v⟩
      · have h := br_f hb h
        refine AWp.skip ?_
        refine thenN ?_
        refine AWp.seq ?_
        refine AWp.region ?_
        refine RW.step (d := ⟨some 4, aB true, []⟩) (k := 0) rfl (dt hnt rfl rfl) (Stp.pure (G := sg) _ (by kernel_rfl)) ?_
        refine RW.nil ?_
        refine thenN ?_
        refine AWp.ret ?_
        injection h with h
        subst h
        exact ⟨[aB true], _, [], _, by kernel_rfl, RetV.flat vw_v⟩

/-- loop.example/g01203/laws.FnExactIsTable -/
def F4 (n : Nat) (a0 : (List (V4 Int))) (a1 : Int) (a2 : Int) : Option (Bool) :=
  ob (F15 n a0 a1 a2 1048576) fun (x1 : (Int)) => br (decide (x1 < 0)) (some true) (ob (F17 n a0 a1 a2) fun (x2 : ((List (V4 Int)) × Int × Int)) => ob (F16 n x2.1 x2.2.1 x2.2.2) fun (x3 : (Bool)) => ob (F17 n a0 a1 a2) fun (x4 : ((List (V4 Int)) × Int × Int)) => ob (F18 n x4.1 x4.2.1 x4.2.2) fun (x5 : (Bool)) => br (!(x5 == x3)) (some false) (ob (F17 n a0 a1 a2) fun (x6 : ((List (V4 Int)) × Int × Int)) => ob (F19 n x4.1 x4.2.1 x4.2.2 x6.1 x6.2.1 x6.2.2) fun (x7 : (Bool)) => br (!x7) (some false) (some true)))
theorem own4 : Own Try.prog 4 := ⟨_, Try.func4, rfl, by kernel_rfl⟩
theorem C4 {n : Nat} {a0 : (List (V4 Int))} {a1 : Int} {a2 : Int} {r : Bool} (h : F4 n a0 a1 a2 = some r) : DCall Try.prog 4 [.agg [[.ro (a0.map (V4.row aI)) false], [aI a1], [aI a2]]] [] (aB r) [] := by
  refine ⟨own4, VCall.enter (G := sg) Try.func4 rfl (Nat.le_of_ble_eq_true rfl) (Nat.le_of_ble_eq_true rfl) fun B hnt hn0 => ?_⟩
  unfold F4 at h
  refine AWp.seq ?_
  refine AWp.region ?_
  refine RW.step (d := ⟨some 1, .ptr 0 0 0, [(0, some ⟨29, none, [[.ro (a0.map (V4.row aI)) false], [aI a1], [aI a2]]⟩)]⟩) (k := 1) rfl (dt hnt rfl rfl) (Stp.new (G := sg) (by kernel_rfl)) ?_
  refine RW.step (d := ⟨some 2, aB false, []⟩) (k := 0) rfl (dt hnt rfl rfl) (Stp.pure (G := sg) _ (by kernel_rfl)) ?_
  refine RW.nil ?_
  refine thenN ?_
  refine AWp.seq ?_
  refine AWp.region ?_
  refine RW.step (d := ⟨some 3, aI 1048576, []⟩) (k := 0) rfl (dt hnt rfl rfl) (Stp.pure (G := sg) _ (by kernel_rfl)) ?_
  refine RW.nil ?_
  refine thenN ?_
  refine AWp.seq ?_
  refine AWp.region ?_
  refine RW.step (d := ⟨some 7, .agg [[.ro (a0.map (V4.row aI)) false], [aI a1], [aI a2]], []⟩) (k := 0) rfl (dt hnt rfl rfl) (Stp.pure (G := sg) _ (by kernel_rfl)) ?_
  refine RW.step (d := ⟨some 8, aI 1048576, []⟩) (k := 0) rfl (dt hnt rfl rfl) (Stp.pure (G := sg) _ (by kernel_rfl)) ?_
  obtain ⟨x1, hx1, h⟩ := ob_inv h
  refine RW.step (d := ⟨some 9, aI x1, []⟩) (k := 0) rfl (dt hnt rfl rfl) (Stp.call0 _ rfl (k := 15) (caps := []) (by kernel_rfl) (C15 hx1) (vl_cons (vw_agg (vs_cons (vl_cons (vw_ro (fun h => h) (vwSegs_map (fun _ => rfl) _)) vl_nil) (vs_cons (vl_cons vw_v vl_nil) (vs_cons (vl_cons vw_v vl_nil) vs_nil)))) (vl_cons vw_v vl_nil)) vw_v) ?_
  refine RW.step (d := ⟨some 3, aI x1, []⟩) (k := 0) rfl (dt hnt rfl rfl) (Stp.pure (G := sg) _ (by kernel_rfl)) ?_
  refine RW.nil ?_
  refine thenN ?_
  refine AWp.seq ?_
  refine AWp.seq ?_
  refine AWp.region ?_
  refine RW.step (d := ⟨some 10, aI x1, []⟩) (k := 0) rfl (dt hnt rfl rfl) (Stp.pure (G := sg) _ (by kernel_rfl)) ?_
  refine RW.step (d := ⟨some 11, aB (decide (x1 < 0)), []⟩) (k := 0) rfl (dt hnt rfl rfl) (Stp.pure (G := sg) _ (by kernel_rfl)) ?_
  refine RW.nil ?_
  refine thenN ?_
  refine AWp.cond (t := decide (x1 < 0)) (by kernel_rfl) (fun hb => ?_) (fun hb => ?_)
  · have h := br_t hb h
    refine AWp.seq ?_
    refine AWp.region ?_
    refine RW.step (d := ⟨some 2, aB true, []⟩) (k := 0) rfl (dt hnt rfl rfl) (Stp.pure (G := sg) _ (by kernel_rfl)) ?_
    refine RW.nil ?_
    refine thenN ?_
    refine AWp.ret ?_
    refine thenR ?_
    injection h with h
    subst h
    exact ⟨[aB true], _, [], _, by kernel_rfl, RetV.flat vw_v⟩
  · have h := br_f hb h
    refine AWp.skip ?_
    refine thenN ?_
    refine AWp.seq ?_
    refine AWp.region ?_
    refine RW.step (d := ⟨some 12, .agg [[.ro (a0.map (V4.row aI)) false], [aI a1], [aI a2]], []⟩) (k := 0) rfl (dt hnt rfl rfl) (Stp.pure (G := sg) _ (by kernel_rfl)) ?_
    obtain ⟨x2, hx2, h⟩ := ob_inv h
    refine RW.step (d := ⟨some 13, .agg [[.sl 1 0 x2.1.length], [aI x2.2.1], [aI x2.2.2]], [(1, some ⟨36, some 4, (x2.1.map (V4.row aI))⟩)]⟩) (k := 1) rfl (dt hnt rfl rfl) (Stp.callN (n := 1) (us := [some ⟨36, some 4, (x2.1.map (V4.row aI))⟩]) rfl (k := 17) (caps := []) (by kernel_rfl) (C17 hx2) (vl_cons (vw_agg (vs_cons (vl_cons (vw_ro (fun h => h) (vwSegs_map (fun _ => rfl) _)) vl_nil) (vs_cons (vl_cons vw_v vl_nil) (vs_cons (vl_cons vw_v vl_nil) vs_nil)))) vl_nil) rfl (bk_cons rfl rfl (vwSegs_map (fun _ => rfl) _) bk_nil) (vw_agg (vs_cons (vl_cons (vw_slq rfl (by first | rfl | simp)) vl_nil) (vs_cons (vl_cons vw_v vl_nil) (vs_cons (vl_cons vw_v vl_nil) vs_nil))))) ?_
    obtain ⟨x3, hx3, h⟩ := ob_inv h
    refine RW.step (d := ⟨some 14, aB x3, []⟩) (k := 0) rfl (dt hnt rfl rfl) (Stp.call0 _ rfl (k := 16) (caps := []) (by kernel_rfl) (C16 hx3) (vl_cons (vw_agg (vs_cons (vl_cons (vw_lendM (ty := 36) (k := 4) (l := x2.1) none_ne (by kernel_rfl) (by first | rfl | simp) (fun _ => rfl)) vl_nil) (vs_cons (vl_cons vw_v vl_nil) (vs_cons (vl_cons vw_v vl_nil) vs_nil)))) vl_nil) vw_v) ?_
    refine RW.step (d := ⟨some 4, aB x3, []⟩) (k := 0) rfl (dt hnt rfl rfl) (Stp.pure (G := sg) _ (by kernel_rfl)) ?_
    refine RW.nil ?_
    refine thenN ?_
    refine AWp.seq ?_
    refine AWp.region ?_
    refine RW.step (d := ⟨some 15, .agg [[.ro (a0.map (V4.row aI)) false], [aI a1], [aI a2]], []⟩) (k := 0) rfl (dt hnt rfl rfl) (Stp.pure (G := sg) _ (by kernel_rfl)) ?_
    obtain ⟨x4, hx4, h⟩ := ob_inv h
    refine RW.step (d := ⟨some 16, .agg [[.sl 2 0 x4.1.length], [aI x4.2.1], [aI x4.2.2]], [(2, some ⟨36, some 4, (x4.1.map (V4.row aI))⟩)]⟩) (k := 1) rfl (dt hnt rfl rfl) (Stp.callN (n := 1) (us := [some ⟨36, some 4, (x4.1.map (V4.row aI))⟩]) rfl (k := 17) (caps := []) (by kernel_rfl) (C17 hx4) (vl_cons (vw_agg (vs_cons (vl_cons (vw_ro (fun h => h) (vwSegs_map (fun _ => rfl) _)) vl_nil) (vs_cons (vl_cons vw_v vl_nil) (vs_cons (vl_cons vw_v vl_nil) vs_nil)))) vl_nil) rfl (bk_cons rfl rfl (vwSegs_map (fun _ => rfl) _) bk_nil) (vw_agg (vs_cons (vl_cons (vw_slq rfl (by first | rfl | simp)) vl_nil) (vs_cons (vl_cons vw_v vl_nil) (vs_cons (vl_cons vw_v vl_nil) vs_nil))))) ?_
    refine RW.step (d := ⟨some 5, .ptr 3 0 0, [(3, some ⟨32, none, [[.ro [] true], [aI 0], [aI 0]]⟩)]⟩) (k := 1) rfl (dt hnt rfl rfl) (Stp.new (G := sg) (by kernel_rfl)) ?_
    refine RW.step (d := ⟨none, .any, [(3, some ⟨32, none, [[.sl 2 0 x4.1.length], [aI x4.2.1], [aI x4.2.2]]⟩)]⟩) (k := 0) rfl (dn rfl) (Stp.store (G := sg) _ rfl (by kernel_rfl)) ?_
    refine RW.nil ?_
    refine thenN ?_
    refine AWp.seq ?_
    refine AWp.region ?_
    refine RW.step (d := ⟨some 17, .agg [[.sl 2 0 x4.1.length], [aI x4.2.1], [aI x4.2.2]], []⟩) (k := 0) rfl (dt hnt rfl rfl) (Stp.pure (G := sg) _ (by kernel_rfl)) ?_
    obtain ⟨x5, hx5, h⟩ := ob_inv h
    refine RW.step (d := ⟨some 18, aB x5, []⟩) (k := 0) rfl (dt hnt rfl rfl) (Stp.call0 _ rfl (k := 18) (caps := []) (by kernel_rfl) (C18 hx5) (vl_cons (vw_agg (vs_cons (vl_cons (vw_lendM (ty := 36) (k := 4) (l := x4.1) none_ne (by kernel_rfl) (by first | rfl | simp) (fun _ => rfl)) vl_nil) (vs_cons (vl_cons vw_v vl_nil) (vs_cons (vl_cons vw_v vl_nil) vs_nil)))) vl_nil) vw_v) ?_
    refine RW.step (d := ⟨some 6, aB x5, []⟩) (k := 0) rfl (dt hnt rfl rfl) (Stp.pure (G := sg) _ (by kernel_rfl)) ?_
    refine RW.nil ?_
    refine thenN ?_
    refine AWp.seq ?_
    refine AWp.seq ?_
    refine AWp.region ?_
    refine RW.step (d := ⟨some 19, aB x5, []⟩) (k := 0) rfl (dt hnt rfl rfl) (Stp.pure (G := sg) _ (by kernel_rfl)) ?_
    refine RW.step (d := ⟨some 20, aB x3, []⟩) (k := 0) rfl (dt hnt rfl rfl) (Stp.pure (G := sg) _ (by kernel_rfl)) ?_
    refine RW.step (d := ⟨some 21, aB (!(x5 == x3)), []⟩) (k := 0) rfl (dt hnt rfl rfl) (Stp.pure (G := sg) _ (by kernel_rfl)) ?_
    refine RW.nil ?_
    refine thenN ?_
    refine AWp.cond (t := !(x5 == x3)) (by kernel_rfl) (fun hb => ?_) (fun hb => ?_)
    · have h := br_t hb h
      refine AWp.seq ?_
      refine AWp.region ?_
      refine RW.step (d := ⟨some 2, aB false, []⟩) (k := 0) rfl (dt hnt rfl rfl) (Stp.pure (G := sg) _ (by kernel_rfl)) ?_
      refine RW.nil ?_
      refine thenN ?_
      refine AWp.ret ?_
      refine thenR ?_
      injection h with h
      subst h
      exact ⟨[aB false], _, [], _, by kernel_rfl, RetV.flat vw_v⟩
    · have h := br_f hb h
      refine AWp.skip ?_
      refine thenN ?_
      refine AWp.seq ?_
      refine AWp.seq ?_
      obtain ⟨x6, hx6, h⟩ := ob_inv h
      obtain ⟨x7, hx7, h⟩ := ob_inv h
      refine AWp.drw (G := sg) [⟨⟨some 22, .agg [[.sl 2 0 x4.1.length], [aI x4.2.1], [aI x4.2.2]], []⟩, 0⟩, ⟨⟨some 23, .agg [[.ro (a0.map (V4.row aI)) false], [aI a1], [aI a2]], []⟩, 0⟩, ⟨⟨some 24, .agg [[.sl 4 0 x6.1.length], [aI x6.2.1], [aI x6.2.2]], [(4, some ⟨36, some 4, (x6.1.map (V4.row aI))⟩)]⟩, 1⟩, ⟨⟨some 25, aB x7, []⟩, 0⟩, ⟨⟨some 26, aB (!x7), []⟩, 0⟩] (by kernel_rfl) (VCs.c (OpVC.p _ _ rfl rfl rfl (dt hnt rfl rfl) (Stp.pure (G := sg) _ (by kernel_rfl))) (VCs.c (OpVC.p _ _ rfl rfl rfl (dt hnt rfl rfl) (Stp.pure (G := sg) _ (by kernel_rfl))) (VCs.c (OpVC.p _ _ rfl rfl rfl (dt hnt rfl rfl) (Stp.callN (n := 1) (us := [some ⟨36, some 4, (x6.1.map (V4.row aI))⟩]) rfl (k := 17) (caps := []) (by kernel_rfl) (C17 hx6) (vl_cons (vw_agg (vs_cons (vl_cons (vw_ro (fun h => h) (vwSegs_map (fun _ => rfl) _)) vl_nil) (vs_cons (vl_cons vw_v vl_nil) (vs_cons (vl_cons vw_v vl_nil) vs_nil)))) vl_nil) rfl (bk_cons rfl rfl (vwSegs_map (fun _ => rfl) _) bk_nil) (vw_agg (vs_cons (vl_cons (vw_slq rfl (by first | rfl | simp)) vl_nil) (vs_cons (vl_cons vw_v vl_nil) (vs_cons (vl_cons vw_v vl_nil) vs_nil)))))) (VCs.c (OpVC.p _ _ rfl rfl rfl (dt hnt rfl rfl) (Stp.call0 _ rfl (k := 19) (caps := []) (by kernel_rfl) (C19 hx7) (vl_cons (vw_agg (vs_cons (vl_cons (vw_lendM (ty := 36) (k := 4) (l := x4.1) none_ne (by kernel_rfl) (by first | rfl | simp) (fun _ => rfl)) vl_nil) (vs_cons (vl_cons vw_v vl_nil) (vs_cons (vl_cons vw_v vl_nil) vs_nil)))) (vl_cons (vw_agg (vs_cons (vl_cons (vw_lendM (ty := 36) (k := 4) (l := x6.1) none_ne (by kernel_rfl) (by first | rfl | simp) (fun _ => rfl)) vl_nil) (vs_cons (vl_cons vw_v vl_nil) (vs_cons (vl_cons vw_v vl_nil) vs_nil)))) vl_nil)) vw_v)) (VCs.c (OpVC.p _ _ rfl rfl rfl (dt hnt rfl rfl) (Stp.pure (G := sg) _ (by kernel_rfl))) VCs.n))))) ?_
      refine thenN ?_
      refine AWp.cond (t := !x7) (by kernel_rfl) (fun hb => ?_) (fun hb => ?_)
      · have h := br_t hb h
        refine AWp.seq ?_
        refine AWp.region ?_
        refine RW.step (d := ⟨some 2, aB false, []⟩) (k := 0) rfl (dt hnt rfl rfl) (Stp.pure (G := sg) _ (by kernel_rfl)) ?_
        refine RW.nil ?_
        refine thenN ?_
        refine AWp.ret ?_
        refine thenR ?_
        injection h with h
        subst h
        exact ⟨[aB false], _, [], _, by kernel_rfl, RetV.flat vw_v⟩
      · have h := br_f hb h
        refine AWp.skip ?_
        refine thenN ?_
        refine AWp.seq ?_
        refine AWp.region ?_
        refine RW.step (d := ⟨some 2, aB true, []⟩) (k := 0) rfl (dt hnt rfl rfl) (Stp.pure (G := sg) _ (by kernel_rfl)) ?_
        refine RW.nil ?_
        refine thenN ?_
        refine AWp.ret ?_
        injection h with h
        subst h
        exact ⟨[aB true], _, [], _, by kernel_rfl, RetV.flat vw_v⟩

/-- loop.example/g01203/spec.l11Mask -/
def F45 (n : Nat) (a0 : Int) : Option (Bool) :=
  ob (F67 n a0 1 15) fun (x1 : (Bool)) => some x1
theorem own45 : Own Try.prog 45 := ⟨_, Try.func45, rfl, by kernel_rfl⟩
theorem C45 {n : Nat} {a0 : Int} {r : Bool} (h : F45 n a0 = some r) : DCall Try.prog 45 [aI a0] [] (aB r) [] := by
  refine ⟨own45, VCall.enter (G := sg) Try.func45 rfl (Nat.le_of_ble_eq_true rfl) (Nat.le_of_ble_eq_true rfl) fun B hnt hn0 => ?_⟩
  unfold F45 at h
  refine AWp.seq ?_
  refine AWp.region ?_
  refine RW.step (d := ⟨some 2, aB false, []⟩) (k := 0) rfl (dt hnt rfl rfl) (Stp.pure (G := sg) _ (by kernel_rfl)) ?_
  refine RW.nil ?_
  refine thenN ?_
  refine AWp.seq ?_
  refine AWp.region ?_
  refine RW.step (d := ⟨some 3, aI a0, []⟩) (k := 0) rfl (dt hnt rfl rfl) (Stp.pure (G := sg) _ (by kernel_rfl)) ?_
  obtain ⟨x1, hx1, h⟩ := ob_inv h
  refine RW.step (d := ⟨some 4, aB x1, []⟩) (k := 0) rfl (dt hnt rfl rfl) (Stp.call0 _ rfl (k := 67) (caps := []) (by kernel_rfl) (C67 hx1) (vl_cons vw_v (vl_cons vw_v (vl_cons vw_v vl_nil))) vw_v) ?_
  refine RW.step (d := ⟨some 2, aB x1, []⟩) (k := 0) rfl (dt hnt rfl rfl) (Stp.pure (G := sg) _ (by kernel_rfl)) ?_
  refine RW.nil ?_
  refine thenN ?_
  refine AWp.ret ?_
  injection h with h
  subst h
  exact ⟨[aB x1], _, [], _, by kernel_rfl, RetV.flat vw_v⟩

/-- loop.example/g01203/spec.l11Shadow -/
def F70_J2 (n : Nat) (s1 : ((V4 Int) × Int)) (f2 : (((V4 Int) × Int) → Option ((V4 Int)))) (s3 : (V4 Int)) : Option ((V4 Int)) :=
  f2 (s3, w64 (s1.2 + 1))
def F70_L1 (n : Nat) (a1 : Int) (f2 : ((V4 Int) × Int) → Option ((V4 Int))) (s1 : (V4 Int) × Int) : Option ((V4 Int)) :=
  br (decide (s1.2 < 4)) (ck (0 ≤ s1.2) (lt (bits .and .i64 (sr64 a1 s1.2) 1 : Int) fun x4 => br (decide (x4 = 0)) (ck (0 ≤ s1.2 ∧ s1.2 < 4) (F70_J2 n s1 f2 (V4.set s1.1 s1.2.toNat 0))) (F70_J2 n s1 f2 s1.1))) (some s1.1)
def F70 (n : Nat) (a0 : (V4 Int)) (a1 : Int) : Option ((V4 Int)) :=
  fx (F70_L1 n a1) n (a0, 0)
theorem own70 : Own Try.prog 70 := ⟨_, Try.func70, rfl, by kernel_rfl⟩
theorem C70 {n : Nat} {a0 : (V4 Int)} {a1 : Int} {r : (V4 Int)} (h : F70 n a0 a1 = some r) : DCall Try.prog 70 [.agg [(V4.row aI) a0], aI a1] [] (.agg [(V4.row aI) r]) [] := by
  refine ⟨own70, VCall.enter (G := sg) Try.func70 rfl (Nat.le_of_ble_eq_true rfl) (Nat.le_of_ble_eq_true rfl) fun B hnt hn0 => ?_⟩
  unfold F70 at h
  refine AWp.seq ?_
  refine AWp.region ?_
  refine RW.step (d := ⟨some 2, .ptr 0 0 0, [(0, some ⟨36, none, [(V4.row aI) a0]⟩)]⟩) (k := 1) rfl (dt hnt rfl rfl) (Stp.new (G := sg) (by kernel_rfl)) ?_
  refine RW.step (d := ⟨some 4, .ptr 1 0 0, [(1, some ⟨36, none, [(V4.row aI) (⟨0, 0, 0, 0⟩ : (V4 Int))]⟩)]⟩) (k := 1) rfl (dt hnt rfl rfl) (Stp.new (G := sg) (by kernel_rfl)) ?_
  refine RW.nil ?_
  refine thenN ?_
  refine AWp.seq ?_
  refine AWp.seq ?_
  refine AWp.region ?_
  refine RW.step (d := ⟨some 5, aI 0, []⟩) (k := 0) rfl (dt hnt rfl rfl) (Stp.pure (G := sg) _ (by kernel_rfl)) ?_
  refine RW.nil ?_
  refine thenN ?_
  refine AWp.block ?_
  refine AWp.loop (fun i st' => ∃ (s1 : (V4 Int) × Int) (names : List (Nat × Nat)), StV B.n0 st' (tabN names) ⟨tabE [(1, aI a1), (2, .ptr 0 0 0), (4, .ptr 1 0 0), (5, aI s1.2)], tabO [(0, ⟨36, none, [(V4.row aI) s1.1]⟩), (1, ⟨36, none, [(V4.row aI) (⟨0, 0, 0, 0⟩ : (V4 Int))]⟩)], 2⟩ ∧ fx (F70_L1 n a1) i s1 = some r) n ⟨(a0, 0), [(0, 0), (1, 1)], (StV.tab (by rw [hn0]; rfl) (E_cons (a0 := aI a1) (by kernel_rfl) vw_v (E_cons (a0 := .ptr 0 0 0) (by kernel_rfl) (vw_ptr rfl) (E_cons (a0 := .ptr 1 0 0) (by kernel_rfl) (vw_ptr rfl) (E_cons (a0 := aI 0) (by kernel_rfl) vw_v E_nil)))) (O_cons 0 ⟨36, none, [(V4.row aI) a0]⟩ rfl (by kernel_rfl) rfl rfl (vs_cons (vwList_flat rfl) vs_nil) (O_cons 1 ⟨36, none, [(V4.row aI) (⟨0, 0, 0, 0⟩ : (V4 Int))]⟩ rfl (by kernel_rfl) rfl rfl (vs_cons (vwList_flat rfl) vs_nil) O_nil)) (by rw [hn0]; rfl)), h⟩ ?_
  rintro is1 st1 ⟨s1, names, hv, h⟩
  obtain ⟨ks1, f2, hks1, hfs1, h⟩ := fx_inv h
  refine AWp.view _ hv ?_
  unfold F70_L1 at h
  refine AWp.seq ?_
  refine AWp.seq ?_
  refine AWp.region ?_
  refine RW.step (d := ⟨some 6, aI s1.2, []⟩) (k := 0) rfl (dt hnt rfl rfl) (Stp.pure (G := sg) _ (by kernel_rfl)) ?_
  refine RW.step (d := ⟨some 7, aB (decide (s1.2 < 4)), []⟩) (k := 0) rfl (dt hnt rfl rfl) (Stp.pure (G := sg) _ (by kernel_rfl)) ?_
  refine RW.nil ?_
  refine thenN ?_
  refine AWp.cond (t := decide (s1.2 < 4)) (by kernel_rfl) (fun hb => ?_) (fun hb => ?_)
  · have h := br_t hb h
    refine AWp.skip ?_
    refine thenN ?_
    refine AWp.cut (fun st' => ∃ (s3 : (V4 Int)) (names : List (Nat × Nat)), StV B.n0 st' (tabN names) ⟨tabE [(1, aI a1), (2, .ptr 0 0 0), (4, .ptr 1 0 0), (5, aI s1.2)], tabO [(0, ⟨36, none, [(V4.row aI) s3]⟩), (1, ⟨36, none, [(V4.row aI) (⟨0, 0, 0, 0⟩ : (V4 Int))]⟩)], 2⟩ ∧ F70_J2 n s1 f2 s3 = some r) ?_ ?_
    · refine AWp.block ?_
      refine AWp.seq ?_
      refine AWp.region ?_
      refine RW.step (d := ⟨some 10, aI a1, []⟩) (k := 0) rfl (dt hnt rfl rfl) (Stp.pure (G := sg) _ (by kernel_rfl)) ?_
      refine RW.step (d := ⟨some 11, aI s1.2, []⟩) (k := 0) rfl (dt hnt rfl rfl) (Stp.pure (G := sg) _ (by kernel_rfl)) ?_
      obtain ⟨hc19, h⟩ := ck_inv h
      refine RW.step (d := ⟨some 12, aI (sr64 a1 s1.2), []⟩) (k := 0) rfl (dt hnt rfl rfl) (Stp.pure (G := sg) _ (P_shr (a := a1) (k := .i64) (b := s1.2) (by kernel_rfl) (by kernel_rfl) hc19)) ?_
      obtain ⟨x4, hx4, h⟩ := lt_inv h
      refine RW.step (d := ⟨some 13, aI x4, []⟩) (k := 0) rfl (dt hnt rfl rfl) (Stp.pure (G := sg) _ (by rw [← hx4]; kernel_rfl)) ?_
      refine RW.step (d := ⟨some 14, aB (decide (x4 = 0)), []⟩) (k := 0) rfl (dt hnt rfl rfl) (Stp.pure (G := sg) _ (by kernel_rfl)) ?_
      refine RW.nil ?_
      refine thenN ?_
      refine AWp.cond (t := decide (x4 = 0)) (by kernel_rfl) (fun hb => ?_) (fun hb => ?_)
      · have h := br_t hb h
        refine AWp.region ?_
        refine RW.step (d := ⟨some 15, aI s1.2, []⟩) (k := 0) rfl (dt hnt rfl rfl) (Stp.pure (G := sg) _ (by kernel_rfl)) ?_
        obtain ⟨hc20, h⟩ := ck_inv h
        refine RW.step (d := ⟨some 16, .ptr 0 0 s1.2.toNat, []⟩) (k := 0) rfl (dt hnt rfl rfl) (Stp.pure (G := sg) _ (P_ia_arr (nm := 0) (s := 0) (len := 4) (kk := .i64) (n := s1.2) (el := 3) (by kernel_rfl) (by kernel_rfl) (by kernel_rfl) rfl (by omega))) ?_
        refine RW.step (d := ⟨none, .any, [(0, some ⟨36, none, [(V4.row aI) (V4.set s1.1 s1.2.toNat 0)]⟩)]⟩) (k := 0) rfl (dn rfl) (Stp.store (G := sg) _ rfl (S_st (s := 0) (j := s1.2.toNat) (o := ⟨36, none, [(V4.row aI) s1.1]⟩) (a := aI 0) (by kernel_rfl) (by kernel_rfl) (by kernel_rfl) (by kernel_rfl) (by kernel_rfl) (Nat.le_of_ble_eq_true rfl) (T_cell (row := (V4.row aI) s1.1) rfl (by kernel_rfl) (show s1.2.toNat < 4 by omega) (V4.row_set _ _ _ (by omega)) (by kernel_rfl)))) ?_
        refine RW.nil ?_
        refine blockN ?_
        exact ⟨V4.set s1.1 s1.2.toNat 0, [(0, 0), (1, 1)], (StV.tab (by rw [hn0]; rfl) (E_cons (a0 := aI a1) (by kernel_rfl) vw_v (E_cons (a0 := .ptr 0 0 0) (by kernel_rfl) (vw_ptr rfl) (E_cons (a0 := .ptr 1 0 0) (by kernel_rfl) (vw_ptr rfl) (E_cons (a0 := aI s1.2) (by kernel_rfl) vw_v E_nil)))) (O_cons 0 ⟨36, none, [(V4.row aI) (V4.set s1.1 s1.2.toNat 0)]⟩ rfl (by kernel_rfl) rfl rfl (vs_cons (vwList_flat rfl) vs_nil) (O_cons 1 ⟨36, none, [(V4.row aI) (⟨0, 0, 0, 0⟩ : (V4 Int))]⟩ rfl (by kernel_rfl) rfl rfl (vs_cons (vwList_flat rfl) vs_nil) O_nil)) (by rw [hn0]; rfl)), h⟩
      · have h := br_f hb h
        refine AWp.skip ?_
        refine blockN ?_
        exact ⟨s1.1, [(0, 0), (1, 1)], (StV.tab (by rw [hn0]; rfl) (E_cons (a0 := aI a1) (by kernel_rfl) vw_v (E_cons (a0 := .ptr 0 0 0) (by kernel_rfl) (vw_ptr rfl) (E_cons (a0 := .ptr 1 0 0) (by kernel_rfl) (vw_ptr rfl) (E_cons (a0 := aI s1.2) (by kernel_rfl) vw_v E_nil)))) (O_cons 0 ⟨36, none, [(V4.row aI) s1.1]⟩ rfl (by kernel_rfl) rfl rfl (vs_cons (vwList_flat rfl) vs_nil) (O_cons 1 ⟨36, none, [(V4.row aI) (⟨0, 0, 0, 0⟩ : (V4 Int))]⟩ rfl (by kernel_rfl) rfl rfl (vs_cons (vwList_flat rfl) vs_nil) O_nil)) (by rw [hn0]; rfl)), h⟩
    · rintro st1 ⟨s3, names, hv, h⟩
      refine AWp.view _ hv ?_
      unfold F70_J2 at h
      refine AWp.region ?_
      refine RW.step (d := ⟨some 8, aI s1.2, []⟩) (k := 0) rfl (dt hnt rfl rfl) (Stp.pure (G := sg) _ (by kernel_rfl)) ?_
      refine RW.step (d := ⟨some 9, aI (w64 (s1.2 + 1)), []⟩) (k := 0) rfl (dt hnt rfl rfl) (Stp.pure (G := sg) _ (by kernel_rfl)) ?_
      refine RW.step (d := ⟨some 5, aI (w64 (s1.2 + 1)), []⟩) (k := 0) rfl (dt hnt rfl rfl) (Stp.pure (G := sg) _ (by kernel_rfl)) ?_
      refine RW.nil ?_
      exact ⟨ks1, by rw [hks1]; exact Nat.lt_succ_self _, (s3, w64 (s1.2 + 1)), [(0, 0), (1, 1)], (StV.tab (by rw [hn0]; rfl) (E_cons (a0 := aI a1) (by kernel_rfl) vw_v (E_cons (a0 := .ptr 0 0 0) (by kernel_rfl) (vw_ptr rfl) (E_cons (a0 := .ptr 1 0 0) (by kernel_rfl) (vw_ptr rfl) (E_cons (a0 := aI (w64 (s1.2 + 1))) (by kernel_rfl) vw_v E_nil)))) (O_cons 0 ⟨36, none, [(V4.row aI) s3]⟩ rfl (by kernel_rfl) rfl rfl (vs_cons (vwList_flat rfl) vs_nil) (O_cons 1 ⟨36, none, [(V4.row aI) (⟨0, 0, 0, 0⟩ : (V4 Int))]⟩ rfl (by kernel_rfl) rfl rfl (vs_cons (vwList_flat rfl) vs_nil) O_nil)) (by rw [hn0]; rfl)), by rw [← hfs1]; exact h⟩
  · have h := br_f hb h
    refine AWp.exit ?_
    refine thenX ?_
    refine thenX ?_
    refine blockH ?_
    refine thenN ?_
    refine AWp.seq ?_
    refine AWp.region ?_
    refine RW.step (d := ⟨some 17, .agg [(V4.row aI) s1.1], []⟩) (k := 0) rfl (dt hnt rfl rfl) (Stp.pure (G := sg) _ (by kernel_rfl)) ?_
    refine RW.step (d := ⟨none, .any, [(1, some ⟨36, none, [(V4.row aI) s1.1]⟩)]⟩) (k := 0) rfl (dn rfl) (Stp.store (G := sg) _ rfl (by kernel_rfl)) ?_
    refine RW.nil ?_
    refine thenN ?_
    refine AWp.ret ?_
    injection h with h
    subst h
    exact ⟨[.agg [(V4.row aI) s1.1]], _, [], _, by kernel_rfl, RetV.flat (vw_agg (vs_cons (vwList_flat rfl) vs_nil))⟩

/-- loop.example/g01203/spec.l11All -/
def F47_L1 (n : Nat) (a0 : (List (V4 Int))) (a1 : Int) (f2 : ((List (V4 Int)) × Int) → Option ((List (V4 Int)))) (s1 : (List (V4 Int)) × Int) : Option ((List (V4 Int))) :=
  lt (decide (s1.2 < (a0.length : Int)) : Bool) fun x3 => br (x3) (ck (0 ≤ s1.2 ∧ s1.2 < (a0.length : Int)) (ob (F70 n (gl a0 s1.2.toNat) a1) fun (x4 : ((V4 Int))) => ck (s1.1.length + ([x4] : List (V4 Int)).length ≤ 4294967296) (f2 (s1.1 ++ ([x4] : List (V4 Int)), w64 (s1.2 + 1))))) (some s1.1)
def F47 (n : Nat) (a0 : (List (V4 Int))) (a1 : Int) : Option ((List (V4 Int))) :=
  fx (F47_L1 n a0 a1) n (([] : List (V4 Int)), 0)
theorem own47 : Own Try.prog 47 := ⟨_, Try.func47, rfl, by kernel_rfl⟩
theorem C47 {n : Nat} {a0 : (List (V4 Int))} {a1 : Int} {r : (List (V4 Int))} (h : F47 n a0 a1 = some r) : DCall Try.prog 47 [.ro (a0.map (V4.row aI)) false, aI a1] [] (.sl 0 0 r.length) [some ⟨36, some 4, (r.map (V4.row aI))⟩] := by
  refine ⟨own47, VCall.enter (G := sg) Try.func47 rfl (Nat.le_of_ble_eq_true rfl) (Nat.le_of_ble_eq_true rfl) fun B hnt hn0 => ?_⟩
  unfold F47 at h
  refine AWp.seq ?_
  refine AWp.region ?_
  refine RW.step (d := ⟨some 4, .ro [] true, []⟩) (k := 0) rfl (dt hnt rfl rfl) (Stp.pure (G := sg) _ (by kernel_rfl)) ?_
  refine RW.nil ?_
  refine thenN ?_
  refine AWp.seq ?_
  refine AWp.region ?_
  refine RW.step (d := ⟨some 7, .sl 0 0 (([] : List (V4 Int)).length), [(0, some ⟨36, some 4, (([] : List (V4 Int)).map (V4.row aI))⟩)]⟩) (k := 1) rfl (dt hnt rfl rfl) (Stp.new (G := sg) (by kernel_rfl)) ?_
  refine RW.step (d := ⟨some 5, .sl 0 0 (([] : List (V4 Int)).length), []⟩) (k := 0) rfl (dt hnt rfl rfl) (Stp.pure (G := sg) _ (by kernel_rfl)) ?_
  refine RW.nil ?_
  refine thenN ?_
  refine AWp.seq ?_
  refine AWp.seq ?_
  refine AWp.region ?_
  refine RW.step (d := ⟨some 6, aI 0, []⟩) (k := 0) rfl (dt hnt rfl rfl) (Stp.pure (G := sg) _ (by kernel_rfl)) ?_
  refine RW.nil ?_
  refine thenN ?_
  refine AWp.block ?_
  refine AWp.loop (fun i st' => ∃ (s1 : (List (V4 Int)) × Int) (names : List (Nat × Nat)), StV B.n0 st' (tabN names) ⟨tabE [(0, .ro (a0.map (V4.row aI)) false), (1, aI a1), (5, .sl 0 0 s1.1.length), (6, aI s1.2)], tabO [(0, ⟨36, some 4, (s1.1.map (V4.row aI))⟩)], 1⟩ ∧ fx (F47_L1 n a0 a1) i s1 = some r) n ⟨(([] : List (V4 Int)), 0), [(0, 0)], (StV.tab (by rw [hn0]; rfl) (E_cons (a0 := .ro (a0.map (V4.row aI)) false) (by kernel_rfl) (vw_ro (fun h => h) (vwSegs_map (fun _ => rfl) _)) (E_cons (a0 := aI a1) (by kernel_rfl) vw_v (E_cons (a0 := .sl 0 0 (([] : List (V4 Int)).length)) (by kernel_rfl) (vw_slq rfl (by first | rfl | simp)) (E_cons (a0 := aI 0) (by kernel_rfl) vw_v E_nil)))) (O_cons 0 ⟨36, some 4, (([] : List (V4 Int)).map (V4.row aI))⟩ rfl (by kernel_rfl) rfl rfl (vwSegs_map (fun _ => rfl) _) O_nil) (by rw [hn0]; rfl)), h⟩ ?_
  rintro is1 st1 ⟨s1, names, hv, h⟩
  obtain ⟨ks1, f2, hks1, hfs1, h⟩ := fx_inv h
  refine AWp.view _ hv ?_
  unfold F47_L1 at h
  refine AWp.seq ?_
  refine AWp.seq ?_
  refine AWp.region ?_
  refine RW.step (d := ⟨some 8, aI s1.2, []⟩) (k := 0) rfl (dt hnt rfl rfl) (Stp.pure (G := sg) _ (by kernel_rfl)) ?_
  refine RW.step (d := ⟨some 9, .ro (a0.map (V4.row aI)) false, []⟩) (k := 0) rfl (dt hnt rfl rfl) (Stp.pure (G := sg) _ (by kernel_rfl)) ?_
  refine RW.step (d := ⟨some 10, aI (a0.length : Int), []⟩) (k := 0) rfl (dt hnt rfl rfl) (Stp.pure (G := sg) _ (P_len_ro (l := a0) (r := (V4.row aI)) (full := false) (el := 36) (by kernel_rfl) (by kernel_rfl))) ?_
  obtain ⟨x3, hx3, h⟩ := lt_inv h
  refine RW.step (d := ⟨some 11, aB x3, []⟩) (k := 0) rfl (dt hnt rfl rfl) (Stp.pure (G := sg) _ (by rw [← hx3]; kernel_rfl)) ?_
  refine RW.nil ?_
  refine thenN ?_
  refine AWp.cond (t := x3) (by kernel_rfl) (fun hb => ?_) (fun hb => ?_)
  · have h := br_t hb h
    refine AWp.skip ?_
    refine thenN ?_
    refine AWp.seq ?_
    refine AWp.block ?_
    refine AWp.region ?_
    refine RW.step (d := ⟨some 14, .sl 0 0 s1.1.length, []⟩) (k := 0) rfl (dt hnt rfl rfl) (Stp.pure (G := sg) _ (by kernel_rfl)) ?_
    refine RW.step (d := ⟨some 15, .ro (a0.map (V4.row aI)) false, []⟩) (k := 0) rfl (dt hnt rfl rfl) (Stp.pure (G := sg) _ (by kernel_rfl)) ?_
    refine RW.step (d := ⟨some 16, aI s1.2, []⟩) (k := 0) rfl (dt hnt rfl rfl) (Stp.pure (G := sg) _ (by kernel_rfl)) ?_
    obtain ⟨hc11, h⟩ := ck_inv h
    refine RW.step (d := ⟨some 17, .rp (a0.map (V4.row aI)) s1.2.toNat 0, []⟩) (k := 0) rfl (dt hnt rfl rfl) (Stp.pure (G := sg) _ (P_ia_ro (l := a0) (r := (V4.row aI)) (full := false) (kk := .i64) (n := s1.2) (el := 36) (by kernel_rfl) (by kernel_rfl) (by kernel_rfl) (fun _ => rfl) rfl hc11)) ?_
    refine RW.step (d := ⟨some 18, .agg [(V4.row aI) (gl a0 s1.2.toNat)], []⟩) (k := 0) rfl (dt hnt rfl rfl) (Stp.pure (G := sg) _ (P_ld_rp (segs := (a0.map (V4.row aI))) (s := s1.2.toNat) (j := 0) (by kernel_rfl) (L_row (by kernel_rfl) (by first | omega | (simp; omega))))) ?_
    refine RW.step (d := ⟨some 19, aI a1, []⟩) (k := 0) rfl (dt hnt rfl rfl) (Stp.pure (G := sg) _ (by kernel_rfl)) ?_
    obtain ⟨x4, hx4, h⟩ := ob_inv h
    refine RW.step (d := ⟨some 20, .agg [(V4.row aI) x4], []⟩) (k := 0) rfl (dt hnt rfl rfl) (Stp.call0 _ rfl (k := 70) (caps := []) (by kernel_rfl) (C70 hx4) (vl_cons (vw_agg (vs_cons (vwList_flat rfl) vs_nil)) (vl_cons vw_v vl_nil)) (vw_agg (vs_cons (vwList_flat rfl) vs_nil))) ?_
    refine RW.step (d := ⟨some 21, .sl 1 0 (([x4] : List (V4 Int)).length), [(1, some ⟨36, some 4, (([x4] : List (V4 Int)).map (V4.row aI))⟩)]⟩) (k := 1) rfl (dt hnt rfl rfl) (Stp.new (G := sg) (by kernel_rfl)) ?_
    obtain ⟨hc12, h⟩ := ck_inv h
    refine RW.step (d := ⟨some 22, .sl 2 0 ((s1.1 ++ ([x4] : List (V4 Int))).length), [(2, some ⟨36, some 4, ((s1.1 ++ ([x4] : List (V4 Int))).map (V4.row aI))⟩), (0, none)]⟩) (k := 1) rfl (dt hnt rfl rfl) (Stp.append (G := sg) (t := 22) rfl (A_app (nm := 0) (len := s1.1.length) (el := 36) (l := s1.1) (m := ([x4] : List (V4 Int))) (r := (V4.row aI)) (k := 4) (b := 32) (by kernel_rfl) (by kernel_rfl) (by kernel_rfl) (by first | rfl | simp) (by kernel_rfl) (src_sl (nm := 1) (len := (([x4] : List (V4 Int)).length)) (ty := 36) (m := ([x4] : List (V4 Int))) (by kernel_rfl) (by first | rfl | simp) (by kernel_rfl)) (fun _ => rfl) rfl hc12)) ?_
    refine RW.step (d := ⟨some 5, .sl 2 0 ((s1.1 ++ ([x4] : List (V4 Int))).length), []⟩) (k := 0) rfl (dt hnt rfl rfl) (Stp.pure (G := sg) _ (by kernel_rfl)) ?_
    refine RW.nil ?_
    refine blockN ?_
    refine thenN ?_
    refine AWp.region ?_
    refine RW.step (d := ⟨some 12, aI s1.2, []⟩) (k := 0) rfl (dt hnt rfl rfl) (Stp.pure (G := sg) _ (by kernel_rfl)) ?_
    refine RW.step (d := ⟨some 13, aI (w64 (s1.2 + 1)), []⟩) (k := 0) rfl (dt hnt rfl rfl) (Stp.pure (G := sg) _ (by kernel_rfl)) ?_
    refine RW.step (d := ⟨some 6, aI (w64 (s1.2 + 1)), []⟩) (k := 0) rfl (dt hnt rfl rfl) (Stp.pure (G := sg) _ (by kernel_rfl)) ?_
    refine RW.nil ?_
    exact ⟨ks1, by rw [hks1]; exact Nat.lt_succ_self _, (s1.1 ++ ([x4] : List (V4 Int)), w64 (s1.2 + 1)), [(0, 2)], (StV.tab (by rw [hn0]; rfl) (E_cons (a0 := .ro (a0.map (V4.row aI)) false) (by kernel_rfl) (vw_ro (fun h => h) (vwSegs_map (fun _ => rfl) _)) (E_cons (a0 := aI a1) (by kernel_rfl) vw_v (E_cons (a0 := .sl 2 0 ((s1.1 ++ ([x4] : List (V4 Int))).length)) (by kernel_rfl) (vw_slq rfl (by first | rfl | simp)) (E_cons (a0 := aI (w64 (s1.2 + 1))) (by kernel_rfl) vw_v E_nil)))) (O_cons 2 ⟨36, some 4, ((s1.1 ++ ([x4] : List (V4 Int))).map (V4.row aI))⟩ rfl (by kernel_rfl) rfl rfl (vwSegs_map (fun _ => rfl) _) O_nil) (by rw [hn0]; rfl)), by rw [← hfs1]; exact h⟩
  · have h := br_f hb h
    refine AWp.exit ?_
    refine thenX ?_
    refine thenX ?_
    refine blockH ?_
    refine thenN ?_
    refine AWp.seq ?_
    refine AWp.region ?_
    refine RW.step (d := ⟨some 23, .sl 0 0 s1.1.length, []⟩) (k := 0) rfl (dt hnt rfl rfl) (Stp.pure (G := sg) _ (by kernel_rfl)) ?_
    refine RW.step (d := ⟨some 4, .sl 0 0 s1.1.length, []⟩) (k := 0) rfl (dt hnt rfl rfl) (Stp.pure (G := sg) _ (by kernel_rfl)) ?_
    refine RW.nil ?_
    refine thenN ?_
    refine AWp.ret ?_
    injection h with h
    subst h
    refine ⟨[.sl 0 0 s1.1.length], _, _, tabN [(0, 0)], by kernel_rfl, RetV.tab (fo' := [some ⟨36, some 4, (s1.1.map (V4.row aI))⟩]) (by rfl) (vw_slq rfl (by first | rfl | simp)) ?_ rfl⟩
    intro p o' ho
    match p, ho with
    | 0, ho => exact .inl ⟨0, ⟨36, some 4, (s1.1.map (V4.row aI))⟩, rfl, by kernel_rfl, by injection ho with ho; subst ho; rfl, by injection ho with ho; subst ho; rfl, by injection ho with ho; subst ho; exact (vwSegs_map (fun _ => rfl) _)⟩
    | p + 1, ho => exact absurd ho (by simp [lo'])

/-- loop.example/g01203/spec.CountBehind -/
def F20_J2 (n : Nat) (s7 : (Int × Int)) (f8 : ((Int × Int) → Option (Int × Bool))) (s10 : Int) : Option (Int × Bool) :=
  f8 (s10, w64 (s7.2 + 1))
def F20_L1 (n : Nat) (a2 : (V4 Int)) (x6 : ((List (V4 Int)))) (f8 : (Int × Int) → Option (Int × Bool)) (s7 : Int × Int) : Option (Int × Bool) :=
  lt (decide (s7.2 < (x6.length : Int)) : Bool) fun x9 => br (x9) (ck (0 ≤ s7.2 ∧ s7.2 < (x6.length : Int)) (lt (eqV4 (gl x6 s7.2.toNat) a2 : Bool) fun x11 => br (x11) (F20_J2 n s7 f8 (w64 (s7.1 + 1))) (F20_J2 n s7 f8 s7.1))) (some (s7.1, true))
def F20 (n : Nat) (a0 : (List (V4 Int))) (a1 : Int) (a2 : (V4 Int)) : Option (Int × Bool) :=
  ob (F44 n a0) fun (x1 : (Bool)) => ob (br (!x1) (some true) (ob (F45 n a1) fun (x3 : (Bool)) => some (!x3))) fun (x2 : Bool) => ob (br (x2) (some true) (ob (F46 n a2) fun (x5 : (Bool)) => some (!x5))) fun (x4 : Bool) => br (x4) (some (0, false)) (ob (F47 n a0 a1) fun (x6 : ((List (V4 Int)))) => fx (F20_L1 n a2 x6) n (0, 0))
theorem own20 : Own Try.prog 20 := ⟨_, Try.func20, rfl, by kernel_rfl⟩
theorem C20 {n : Nat} {a0 : (List (V4 Int))} {a1 : Int} {a2 : (V4 Int)} {r : Int × Bool} (h : F20 n a0 a1 a2 = some r) : DCall Try.prog 20 [.ro (a0.map (V4.row aI)) false, aI a1, .agg [(V4.row aI) a2]] [] (.tup [aI r.1, aB r.2]) [] := by
  refine ⟨own20, VCall.enter (G := sg) Try.func20 rfl (Nat.le_of_ble_eq_true rfl) (Nat.le_of_ble_eq_true rfl) fun B hnt hn0 => ?_⟩
  unfold F20 at h
  refine AWp.seq ?_
  refine AWp.region ?_
  refine RW.step (d := ⟨some 5, .ptr 0 0 0, [(0, some ⟨36, none, [(V4.row aI) a2]⟩)]⟩) (k := 1) rfl (dt hnt rfl rfl) (Stp.new (G := sg) (by kernel_rfl)) ?_
  refine RW.step (d := ⟨some 6, aI 0, []⟩) (k := 0) rfl (dt hnt rfl rfl) (Stp.pure (G := sg) _ (by kernel_rfl)) ?_
  refine RW.step (d := ⟨some 7, aB false, []⟩) (k := 0) rfl (dt hnt rfl rfl) (Stp.pure (G := sg) _ (by kernel_rfl)) ?_
  refine RW.nil ?_
  refine thenN ?_
  refine AWp.seq ?_
  refine AWp.seq ?_
  refine AWp.region ?_
  refine RW.step (d := ⟨some 11, .ro (a0.map (V4.row aI)) false, []⟩) (k := 0) rfl (dt hnt rfl rfl) (Stp.pure (G := sg) _ (by kernel_rfl)) ?_
  obtain ⟨x1, hx1, h⟩ := ob_inv h
  refine RW.step (d := ⟨some 12, aB x1, []⟩) (k := 0) rfl (dt hnt rfl rfl) (Stp.call0 _ rfl (k := 44) (caps := []) (by kernel_rfl) (C44 hx1) (vl_cons (vw_ro (fun h => h) (vwSegs_map (fun _ => rfl) _)) vl_nil) vw_v) ?_
  refine RW.step (d := ⟨some 13, aB (!x1), []⟩) (k := 0) rfl (dt hnt rfl rfl) (Stp.pure (G := sg) _ (by kernel_rfl)) ?_
  refine RW.step (d := ⟨some 14, aB (!x1), []⟩) (k := 0) rfl (dt hnt rfl rfl) (Stp.pure (G := sg) _ (by kernel_rfl)) ?_
  obtain ⟨x2, hx2, h⟩ := ob_inv h
  refine RW.mid 4 (fun st' => ∃ names, StV B.n0 st' (tabN names) ⟨tabE [(0, .ro (a0.map (V4.row aI)) false), (1, aI a1), (5, .ptr 0 0 0), (18, aB x2)], tabO [(0, ⟨36, none, [(V4.row aI) a2]⟩)], 1⟩) ?_ ?_
  · rcases Bool.eq_false_or_eq_true (!x1) with hb1 | hb1
    · have hx2 := br_t hb1 hx2
      refine RW.gf rfl rfl (by rw [hnt]; rfl) (b := !x1) (by kernel_rfl) hb1 (dt hnt rfl rfl) ?_
      refine RW.gf rfl rfl (by rw [hnt]; rfl) (b := !x1) (by kernel_rfl) hb1 (dt hnt rfl rfl) ?_
      refine RW.gf rfl rfl (by rw [hnt]; rfl) (b := !x1) (by kernel_rfl) hb1 (dt hnt rfl rfl) ?_
      refine RW.step (d := ⟨some 18, aB true, []⟩) (k := 0) rfl (dt hnt rfl rfl) (Stp.pure (G := sg) _ (P_pick_t (t := !x1) (by kernel_rfl) hb1 (by kernel_rfl))) ?_
      injection hx2 with hx2
      subst hx2
      exact RW.nil (thenN ⟨[(0, 0)], (StV.tab (by rw [hn0]; rfl) (E_cons (a0 := .ro (a0.map (V4.row aI)) false) (by kernel_rfl) (vw_ro (fun h => h) (vwSegs_map (fun _ => rfl) _)) (E_cons (a0 := aI a1) (by kernel_rfl) vw_v (E_cons (a0 := .ptr 0 0 0) (by kernel_rfl) (vw_ptr rfl) (E_cons (a0 := aB true) (by kernel_rfl) vw_v E_nil)))) (O_cons 0 ⟨36, none, [(V4.row aI) a2]⟩ rfl (by kernel_rfl) rfl rfl (vs_cons (vwList_flat rfl) vs_nil) O_nil) (by rw [hn0]; rfl))⟩)
    · have hx2 := br_f hb1 hx2
      refine RW.gt (d := ⟨some 15, aI a1, []⟩) (k := 0) rfl rfl (by rw [hnt]; rfl) (b := !x1) (by kernel_rfl) hb1 (dt hnt rfl rfl) (Stp.pure (G := sg) _ (by kernel_rfl)) ?_
      obtain ⟨x3, hx3, hx2⟩ := ob_inv hx2
      refine RW.gt (d := ⟨some 16, aB x3, []⟩) (k := 0) rfl rfl (by rw [hnt]; rfl) (b := !x1) (by kernel_rfl) hb1 (dt hnt rfl rfl) (Stp.call0 _ rfl (k := 45) (caps := []) (by kernel_rfl) (C45 hx3) (vl_cons vw_v vl_nil) vw_v) ?_
      refine RW.gt (d := ⟨some 17, aB (!x3), []⟩) (k := 0) rfl rfl (by rw [hnt]; rfl) (b := !x1) (by kernel_rfl) hb1 (dt hnt rfl rfl) (Stp.pure (G := sg) _ (by kernel_rfl)) ?_
      refine RW.step (d := ⟨some 18, aB (!x3), []⟩) (k := 0) rfl (dt hnt rfl rfl) (Stp.pure (G := sg) _ (P_pick_f (t := !x1) (by kernel_rfl) hb1 (by kernel_rfl))) ?_
      injection hx2 with hx2
      subst hx2
      exact RW.nil (thenN ⟨[(0, 0)], (StV.tab (by rw [hn0]; rfl) (E_cons (a0 := .ro (a0.map (V4.row aI)) false) (by kernel_rfl) (vw_ro (fun h => h) (vwSegs_map (fun _ => rfl) _)) (E_cons (a0 := aI a1) (by kernel_rfl) vw_v (E_cons (a0 := .ptr 0 0 0) (by kernel_rfl) (vw_ptr rfl) (E_cons (a0 := aB (!x3)) (by kernel_rfl) vw_v E_nil)))) (O_cons 0 ⟨36, none, [(V4.row aI) a2]⟩ rfl (by kernel_rfl) rfl rfl (vs_cons (vwList_flat rfl) vs_nil) O_nil) (by rw [hn0]; rfl))⟩)
  · rintro st2 ⟨names, hv⟩
    refine RW.weak _ hv ?_
    refine RW.step (d := ⟨some 19, aB x2, []⟩) (k := 0) rfl (dt hnt rfl rfl) (Stp.pure (G := sg) _ (by kernel_rfl)) ?_
    obtain ⟨x4, hx4, h⟩ := ob_inv h
    refine RW.mid 4 (fun st' => ∃ names, StV B.n0 st' (tabN names) ⟨tabE [(0, .ro (a0.map (V4.row aI)) false), (1, aI a1), (5, .ptr 0 0 0), (23, aB x4)], tabO [(0, ⟨36, none, [(V4.row aI) a2]⟩)], 1⟩) ?_ ?_
    · rcases Bool.eq_false_or_eq_true (x2) with hb1 | hb1
      · have hx4 := br_t hb1 hx4
        refine RW.gf rfl rfl (by rw [hnt]; rfl) (b := x2) (by kernel_rfl) hb1 (dt hnt rfl rfl) ?_
        refine RW.gf rfl rfl (by rw [hnt]; rfl) (b := x2) (by kernel_rfl) hb1 (dt hnt rfl rfl) ?_
        refine RW.gf rfl rfl (by rw [hnt]; rfl) (b := x2) (by kernel_rfl) hb1 (dt hnt rfl rfl) ?_
        refine RW.step (d := ⟨some 23, aB true, []⟩) (k := 0) rfl (dt hnt rfl rfl) (Stp.pure (G := sg) _ (P_pick_t (t := x2) (by kernel_rfl) hb1 (by kernel_rfl))) ?_
        injection hx4 with hx4
        subst hx4
        exact RW.nil (thenN ⟨[(0, 0)], (StV.tab (by rw [hn0]; rfl) (E_cons (a0 := .ro (a0.map (V4.row aI)) false) (by kernel_rfl) (vw_ro (fun h => h) (vwSegs_map (fun _ => rfl) _)) (E_cons (a0 := aI a1) (by kernel_rfl) vw_v (E_cons (a0 := .ptr 0 0 0) (by kernel_rfl) (vw_ptr rfl) (E_cons (a0 := aB true) (by kernel_rfl) vw_v E_nil)))) (O_cons 0 ⟨36, none, [(V4.row aI) a2]⟩ rfl (by kernel_rfl) rfl rfl (vs_cons (vwList_flat rfl) vs_nil) O_nil) (by rw [hn0]; rfl))⟩)
      · have hx4 := br_f hb1 hx4
        refine RW.gt (d := ⟨some 20, .agg [(V4.row aI) a2], []⟩) (k := 0) rfl rfl (by rw [hnt]; rfl) (b := x2) (by kernel_rfl) hb1 (dt hnt rfl rfl) (Stp.pure (G := sg) _ (by kernel_rfl)) ?_
        obtain ⟨x5, hx5, hx4⟩ := ob_inv hx4
        refine RW.gt (d := ⟨some 21, aB x5, []⟩) (k := 0) rfl rfl (by rw [hnt]; rfl) (b := x2) (by kernel_rfl) hb1 (dt hnt rfl rfl) (Stp.call0 _ rfl (k := 46) (caps := []) (by kernel_rfl) (C46 hx5) (vl_cons (vw_agg (vs_cons (vwList_flat rfl) vs_nil)) vl_nil) vw_v) ?_
        refine RW.gt (d := ⟨some 22, aB (!x5), []⟩) (k := 0) rfl rfl (by rw [hnt]; rfl) (b := x2) (by kernel_rfl) hb1 (dt hnt rfl rfl) (Stp.pure (G := sg) _ (by kernel_rfl)) ?_
        refine RW.step (d := ⟨some 23, aB (!x5), []⟩) (k := 0) rfl (dt hnt rfl rfl) (Stp.pure (G := sg) _ (P_pick_f (t := x2) (by kernel_rfl) hb1 (by kernel_rfl))) ?_
        injection hx4 with hx4
        subst hx4
        exact RW.nil (thenN ⟨[(0, 0)], (StV.tab (by rw [hn0]; rfl) (E_cons (a0 := .ro (a0.map (V4.row aI)) false) (by kernel_rfl) (vw_ro (fun h => h) (vwSegs_map (fun _ => rfl) _)) (E_cons (a0 := aI a1) (by kernel_rfl) vw_v (E_cons (a0 := .ptr 0 0 0) (by kernel_rfl) (vw_ptr rfl) (E_cons (a0 := aB (!x5)) (by kernel_rfl) vw_v E_nil)))) (O_cons 0 ⟨36, none, [(V4.row aI) a2]⟩ rfl (by kernel_rfl) rfl rfl (vs_cons (vwList_flat rfl) vs_nil) O_nil) (by rw [hn0]; rfl))⟩)
    · rintro st2 ⟨names, hv⟩
      refine RW.weak _ hv ?_
      refine RW.nil ?_
      refine thenN ?_
      refine AWp.cond (t := x4) (by kernel_rfl) (fun hb => ?_) (fun hb => ?_)
      · have h := br_t hb h
        refine AWp.seq ?_
        refine AWp.region ?_
        refine RW.step (d := ⟨some 6, aI 0, []⟩) (k := 0) rfl (dt hnt rfl rfl) (Stp.pure (G := sg) _ (by kernel_rfl)) ?_
        refine RW.step (d := ⟨some 7, aB false, []⟩) (k := 0) rfl (dt hnt rfl rfl) (Stp.pure (G := sg) _ (by kernel_rfl)) ?_
        refine RW.nil ?_
        refine thenN ?_
        refine AWp.ret ?_
        refine thenR ?_
        injection h with h
        subst h
        exact ⟨[aI 0, aB false], _, [], _, by kernel_rfl, RetV.flat (vw_tup (vl_cons vw_v (vl_cons vw_v vl_nil)))⟩
      · have h := br_f hb h
        refine AWp.skip ?_
        refine thenN ?_
        refine AWp.seq ?_
        refine AWp.region ?_
        refine RW.step (d := ⟨some 24, .ro (a0.map (V4.row aI)) false, []⟩) (k := 0) rfl (dt hnt rfl rfl) (Stp.pure (G := sg) _ (by kernel_rfl)) ?_
        refine RW.step (d := ⟨some 25, aI a1, []⟩) (k := 0) rfl (dt hnt rfl rfl) (Stp.pure (G := sg) _ (by kernel_rfl)) ?_
        obtain ⟨x6, hx6, h⟩ := ob_inv h
        refine RW.step (d := ⟨some 26, .sl 1 0 x6.length, [(1, some ⟨36, some 4, (x6.map (V4.row aI))⟩)]⟩) (k := 1) rfl (dt hnt rfl rfl) (Stp.callN (n := 1) (us := [some ⟨36, some 4, (x6.map (V4.row aI))⟩]) rfl (k := 47) (caps := []) (by kernel_rfl) (C47 hx6) (vl_cons (vw_ro (fun h => h) (vwSegs_map (fun _ => rfl) _)) (vl_cons vw_v vl_nil)) rfl (bk_cons rfl rfl (vwSegs_map (fun _ => rfl) _) bk_nil) (vw_slq rfl (by first | rfl | simp))) ?_
        refine RW.step (d := ⟨some 8, aI 0, []⟩) (k := 0) rfl (dt hnt rfl rfl) (Stp.pure (G := sg) _ (by kernel_rfl)) ?_
        refine RW.step (d := ⟨some 9, .sl 1 0 x6.length, []⟩) (k := 0) rfl (dt hnt rfl rfl) (Stp.pure (G := sg) _ (by kernel_rfl)) ?_
        refine RW.nil ?_
        refine thenN ?_
        refine AWp.seq ?_
        refine AWp.seq ?_
        refine AWp.region ?_
        refine RW.step (d := ⟨some 10, aI 0, []⟩) (k := 0) rfl (dt hnt rfl rfl) (Stp.pure (G := sg) _ (by kernel_rfl)) ?_
        refine RW.nil ?_
        refine thenN ?_
        refine AWp.block ?_
        refine AWp.loop (fun i st' => ∃ (s7 : Int × Int) (names : List (Nat × Nat)), StV B.n0 st' (tabN names) ⟨tabE [(5, .ptr 0 0 0), (8, aI s7.1), (9, .sl 1 0 x6.length), (10, aI s7.2)], tabO [(0, ⟨36, none, [(V4.row aI) a2]⟩), (1, ⟨36, some 4, (x6.map (V4.row aI))⟩)], 2⟩ ∧ fx (F20_L1 n a2 x6) i s7 = some r) n ⟨(0, 0), [(0, 0), (1, 1)], (StV.tab (by rw [hn0]; rfl) (E_cons (a0 := .ptr 0 0 0) (by kernel_rfl) (vw_ptr rfl) (E_cons (a0 := aI 0) (by kernel_rfl) vw_v (E_cons (a0 := .sl 1 0 x6.length) (by kernel_rfl) (vw_slq rfl (by first | rfl | simp)) (E_cons (a0 := aI 0) (by kernel_rfl) vw_v E_nil)))) (O_cons 0 ⟨36, none, [(V4.row aI) a2]⟩ rfl (by kernel_rfl) rfl rfl (vs_cons (vwList_flat rfl) vs_nil) (O_cons 1 ⟨36, some 4, (x6.map (V4.row aI))⟩ rfl (by kernel_rfl) rfl rfl (vwSegs_map (fun _ => rfl) _) O_nil)) (by rw [hn0]; rfl)), h⟩ ?_
        rintro is7 st1 ⟨s7, names, hv, h⟩
        obtain ⟨ks7, f8, hks7, hfs7, h⟩ := fx_inv h
        refine AWp.view _ hv ?_
        unfold F20_L1 at h
        refine AWp.seq ?_
        refine AWp.seq ?_
        refine AWp.region ?_
        refine RW.step (d := ⟨some 27, aI s7.2, []⟩) (k := 0) rfl (dt hnt rfl rfl) (Stp.pure (G := sg) _ (by kernel_rfl)) ?_
        refine RW.step (d := ⟨some 28, .sl 1 0 x6.length, []⟩) (k := 0) rfl (dt hnt rfl rfl) (Stp.pure (G := sg) _ (by kernel_rfl)) ?_
        refine RW.step (d := ⟨some 29, aI (x6.length : Int), []⟩) (k := 0) rfl (dt hnt rfl rfl) (Stp.pure (G := sg) _ (by kernel_rfl)) ?_
        obtain ⟨x9, hx9, h⟩ := lt_inv h
        refine RW.step (d := ⟨some 30, aB x9, []⟩) (k := 0) rfl (dt hnt rfl rfl) (Stp.pure (G := sg) _ (by rw [← hx9]; kernel_rfl)) ?_
        refine RW.nil ?_
        refine thenN ?_
        refine AWp.cond (t := x9) (by kernel_rfl) (fun hb => ?_) (fun hb => ?_)
        · have h := br_t hb h
          refine AWp.skip ?_
          refine thenN ?_
          refine AWp.cut (fun st' => ∃ (s10 : Int) (names : List (Nat × Nat)), StV B.n0 st' (tabN names) ⟨tabE [(5, .ptr 0 0 0), (8, aI s10), (9, .sl 1 0 x6.length), (10, aI s7.2)], tabO [(0, ⟨36, none, [(V4.row aI) a2]⟩), (1, ⟨36, some 4, (x6.map (V4.row aI))⟩)], 2⟩ ∧ F20_J2 n s7 f8 s10 = some r) ?_ ?_
          · refine AWp.block ?_
            refine AWp.seq ?_
            obtain ⟨hc12, h⟩ := ck_inv h
            obtain ⟨x11, hx11, h⟩ := lt_inv h
            refine AWp.drw (G := sg) [⟨⟨some 33, .sl 1 0 x6.length, []⟩, 0⟩, ⟨⟨some 34, aI s7.2, []⟩, 0⟩, ⟨⟨some 35, .ptr 1 s7.2.toNat 0, []⟩, 0⟩, ⟨⟨some 36, .agg [(V4.row aI) (gl x6 s7.2.toNat)], []⟩, 0⟩, ⟨⟨some 37, .agg [(V4.row aI) a2], []⟩, 0⟩, ⟨⟨some 38, aB x11, []⟩, 0⟩] (by kernel_rfl) (VCs.c (OpVC.p _ _ rfl rfl rfl (dt hnt rfl rfl) (Stp.pure (G := sg) _ (by kernel_rfl))) (VCs.c (OpVC.p _ _ rfl rfl rfl (dt hnt rfl rfl) (Stp.pure (G := sg) _ (by kernel_rfl))) (VCs.c (OpVC.p _ _ rfl rfl rfl (dt hnt rfl rfl) (Stp.pure (G := sg) _ (P_ia_sl0 (nm := 1) (len := x6.length) (kk := .i64) (n := s7.2) (el := 36) (by kernel_rfl) (by kernel_rfl) (by kernel_rfl) (by kernel_rfl) rfl hc12))) (VCs.c (OpVC.p _ _ rfl rfl rfl (dt hnt rfl rfl) (Stp.pure (G := sg) _ (P_ld (nm := 1) (s := s7.2.toNat) (j := 0) (o := ⟨36, some 4, (x6.map (V4.row aI))⟩) (by kernel_rfl) (by kernel_rfl) (L_row (by kernel_rfl) (by first | omega | (simp; omega)))))) (VCs.c (OpVC.p _ _ rfl rfl rfl (dt hnt rfl rfl) (Stp.pure (G := sg) _ (by kernel_rfl))) (VCs.c (OpVC.p _ _ rfl rfl rfl (dt hnt rfl rfl) (Stp.pure (G := sg) _ (by rw [← hx11]; kernel_rfl))) VCs.n)))))) ?_
            refine thenN ?_
            refine AWp.cond (t := x11) (by kernel_rfl) (fun hb => ?_) (fun hb => ?_)
            · have h := br_t hb h
              refine AWp.region ?_
              refine RW.step (d := ⟨some 39, aI s7.1, []⟩) (k := 0) rfl (dt hnt rfl rfl) (Stp.pure (G := sg) _ (by kernel_rfl)) ?_
              refine RW.step (d := ⟨some 40, aI (w64 (s7.1 + 1)), []⟩) (k := 0) rfl (dt hnt rfl rfl) (Stp.pure (G := sg) _ (by kernel_rfl)) ?_
              refine RW.step (d := ⟨some 8, aI (w64 (s7.1 + 1)), []⟩) (k := 0) rfl (dt hnt rfl rfl) (Stp.pure (G := sg) _ (by kernel_rfl)) ?_
              refine RW.nil ?_
              refine blockN ?_
              exact ⟨w64 (s7.1 + 1), [(0, 0), (1, 1)], (StV.tab (by rw [hn0]; rfl) (E_cons (a0 := .ptr 0 0 0) (by kernel_rfl) (vw_ptr rfl) (E_cons (a0 := aI (w64 (s7.1 + 1))) (by kernel_rfl) vw_v (E_cons (a0 := .sl 1 0 x6.length) (by kernel_rfl) (vw_slq rfl (by first | rfl | simp)) (E_cons (a0 := aI s7.2) (by kernel_rfl) vw_v E_nil)))) (O_cons 0 ⟨36, none, [(V4.row aI) a2]⟩ rfl (by kernel_rfl) rfl rfl (vs_cons (vwList_flat rfl) vs_nil) (O_cons 1 ⟨36, some 4, (x6.map (V4.row aI))⟩ rfl (by kernel_rfl) rfl rfl (vwSegs_map (fun _ => rfl) _) O_nil)) (by rw [hn0]; rfl)), h⟩
            · have h := br_f hb h
              refine AWp.skip ?_
              refine blockN ?_
              exact ⟨s7.1, [(0, 0), (1, 1)], (StV.tab (by rw [hn0]; rfl) (E_cons (a0 := .ptr 0 0 0) (by kernel_rfl) (vw_ptr rfl) (E_cons (a0 := aI s7.1) (by kernel_rfl) vw_v (E_cons (a0 := .sl 1 0 x6.length) (by kernel_rfl) (vw_slq rfl (by first | rfl | simp)) (E_cons (a0 := aI s7.2) (by kernel_rfl) vw_v E_nil)))) (O_cons 0 ⟨36, none, [(V4.row aI) a2]⟩ rfl (by kernel_rfl) rfl rfl (vs_cons (vwList_flat rfl) vs_nil) (O_cons 1 ⟨36, some 4, (x6.map (V4.row aI))⟩ rfl (by kernel_rfl) rfl rfl (vwSegs_map (fun _ => rfl) _) O_nil)) (by rw [hn0]; rfl)), h⟩
          · rintro st1 ⟨s10, names, hv, h⟩
            refine AWp.view _ hv ?_
            unfold F20_J2 at h
            refine AWp.region ?_
            refine RW.step (d := ⟨some 31, aI s7.2, []⟩) (k := 0) rfl (dt hnt rfl rfl) (Stp.pure (G := sg) _ (by kernel_rfl)) ?_
            refine RW.step (d := ⟨some 32, aI (w64 (s7.2 + 1)), []⟩) (k := 0) rfl (dt hnt rfl rfl) (Stp.pure (G := sg) _ (by kernel_rfl)) ?_
            refine RW.step (d := ⟨some 10, aI (w64 (s7.2 + 1)), []⟩) (k := 0) rfl (dt hnt rfl rfl) (Stp.pure (G := sg) _ (by kernel_rfl)) ?_
            refine RW.nil ?_
            exact ⟨ks7, by rw [hks7]; exact Nat.lt_succ_self _, (s10, w64 (s7.2 + 1)), [(0, 0), (1, 1)], (StV.tab (by rw [hn0]; rfl) (E_cons (a0 := .ptr 0 0 0) (by kernel_rfl) (vw_ptr rfl) (E_cons (a0 := aI s10) (by kernel_rfl) vw_v (E_cons (a0 := .sl 1 0 x6.length) (by kernel_rfl) (vw_slq rfl (by first | rfl | simp)) (E_cons (a0 := aI (w64 (s7.2 + 1))) (by kernel_rfl) vw_v E_nil)))) (O_cons 0 ⟨36, none, [(V4.row aI) a2]⟩ rfl (by kernel_rfl) rfl rfl (vs_cons (vwList_flat rfl) vs_nil) (O_cons 1 ⟨36, some 4, (x6.map (V4.row aI))⟩ rfl (by kernel_rfl) rfl rfl (vwSegs_map (fun _ => rfl) _) O_nil)) (by rw [hn0]; rfl)), by rw [← hfs7]; exact h⟩
        · have h := br_f hb h
          refine AWp.exit ?_
          refine thenX ?_
          refine thenX ?_
          refine blockH ?_
          refine thenN ?_
          refine AWp.seq ?_
          refine AWp.region ?_
          refine RW.step (d := ⟨some 41, aI s7.1, []⟩) (k := 0) rfl (dt hnt rfl rfl) (Stp.pure (G := sg) _ (by kernel_rfl)) ?_
          refine RW.step (d := ⟨some 6, aI s7.1, []⟩) (k := 0) rfl (dt hnt rfl rfl) (Stp.pure (G := sg) _ (by kernel_rfl)) ?_
          refine RW.step (d := ⟨some 7, aB true, []⟩) (k := 0) rfl (dt hnt rfl rfl) (Stp.pure (G := sg) _ (by kernel_rfl)) ?_
          refine RW.nil ?_
          refine thenN ?_
          refine AWp.ret ?_
          injection h with h
          subst h
          exact ⟨[aI s7.1, aB true], _, [], _, by kernel_rfl, RetV.flat (vw_tup (vl_cons vw_v (vl_cons vw_v vl_nil)))⟩

/-- loop.example/g01203/impl.IsMask -/
def F48 (n : Nat) (a0 : Int) : Option (Bool) :=
  ob (F43 n a0 1 15) fun (x1 : (Bool)) => some x1
theorem own48 : Own Try.prog 48 := ⟨_, Try.func48, rfl, by kernel_rfl⟩
theorem C48 {n : Nat} {a0 : Int} {r : Bool} (h : F48 n a0 = some r) : DCall Try.prog 48 [aI a0] [] (aB r) [] := by
  refine ⟨own48, VCall.enter (G := sg) Try.func48 rfl (Nat.le_of_ble_eq_true rfl) (Nat.le_of_ble_eq_true rfl) fun B hnt hn0 => ?_⟩
  unfold F48 at h
  refine AWp.seq ?_
  refine AWp.region ?_
  refine RW.step (d := ⟨some 2, aB false, []⟩) (k := 0) rfl (dt hnt rfl rfl) (Stp.pure (G := sg) _ (by kernel_rfl)) ?_
  refine RW.nil ?_
  refine thenN ?_
  refine AWp.seq ?_
  refine AWp.region ?_
  refine RW.step (d := ⟨some 3, aI a0, []⟩) (k := 0) rfl (dt hnt rfl rfl) (Stp.pure (G := sg) _ (by kernel_rfl)) ?_
  obtain ⟨x1, hx1, h⟩ := ob_inv h
  refine RW.step (d := ⟨some 4, aB x1, []⟩) (k := 0) rfl (dt hnt rfl rfl) (Stp.call0 _ rfl (k := 43) (caps := []) (by kernel_rfl) (C43 hx1) (vl_cons vw_v (vl_cons vw_v (vl_cons vw_v vl_nil))) vw_v) ?_
  refine RW.step (d := ⟨some 2, aB x1, []⟩) (k := 0) rfl (dt hnt rfl rfl) (Stp.pure (G := sg) _ (by kernel_rfl)) ?_
  refine RW.nil ?_
  refine thenN ?_
  refine AWp.ret ?_
  injection h with h
  subst h
  exact ⟨[aB x1], _, [], _, by kernel_rfl, RetV.flat vw_v⟩

/-- loop.example/g01203/impl.shadow -/
def F72_J2 (n : Nat) (s1 : ((V4 Int) × Int)) (f2 : (((V4 Int) × Int) → Option ((V4 Int)))) (s3 : (V4 Int)) : Option ((V4 Int)) :=
  f2 (s3, w64 (s1.2 + 1))
def F72_L1 (n : Nat) (a1 : Int) (f2 : ((V4 Int) × Int) → Option ((V4 Int))) (s1 : (V4 Int) × Int) : Option ((V4 Int)) :=
  br (decide (s1.2 < 4)) (ck (0 ≤ s1.2) (lt (bits .and .i64 (sr64 a1 s1.2) 1 : Int) fun x4 => br (decide (x4 = 0)) (ck (0 ≤ s1.2 ∧ s1.2 < 4) (F72_J2 n s1 f2 (V4.set s1.1 s1.2.toNat 0))) (F72_J2 n s1 f2 s1.1))) (some s1.1)
def F72 (n : Nat) (a0 : (V4 Int)) (a1 : Int) : Option ((V4 Int)) :=
  fx (F72_L1 n a1) n (a0, 0)
theorem own72 : Own Try.prog 72 := ⟨_, Try.func72, rfl, by kernel_rfl⟩
theorem C72 {n : Nat} {a0 : (V4 Int)} {a1 : Int} {r : (V4 Int)} (h : F72 n a0 a1 = some r) : DCall Try.prog 72 [.agg [(V4.row aI) a0], aI a1] [] (.agg [(V4.row aI) r]) [] := by
  refine ⟨own72, VCall.enter (G := sg) Try.func72 rfl (Nat.le_of_ble_eq_true rfl) (Nat.le_of_ble_eq_true rfl) fun B hnt hn0 => ?_⟩
  unfold F72 at h
  refine AWp.seq ?_
  refine AWp.region ?_
  refine RW.step (d := ⟨some 2, .ptr 0 0 0, [(0, some ⟨36, none, [(V4.row aI) a0]⟩)]⟩) (k := 1) rfl (dt hnt rfl rfl) (Stp.new (G := sg) (by kernel_rfl)) ?_
  refine RW.step (d := ⟨some 4, .ptr 1 0 0, [(1, some ⟨36, none, [(V4.row aI) (⟨0, 0, 0, 0⟩ : (V4 Int))]⟩)]⟩) (k := 1) rfl (dt hnt rfl rfl) (Stp.new (G := sg) (by kernel_rfl)) ?_
  refine RW.nil ?_
  refine thenN ?_
  refine AWp.seq ?_
  refine AWp.seq ?_
  refine AWp.region ?_
  refine RW.step (d := ⟨some 6, aI 0, []⟩) (k := 0) rfl (dt hnt rfl rfl) (Stp.pure (G := sg) _ (by kernel_rfl)) ?_
  refine RW.nil ?_
  refine thenN ?_
  refine AWp.block ?_
  refine AWp.loop (fun i st' => ∃ (s1 : (V4 Int) × Int) (names : List (Nat × Nat)), StV B.n0 st' (tabN names) ⟨tabE [(1, aI a1), (2, .ptr 0 0 0), (4, .ptr 1 0 0), (6, aI s1.2)], tabO [(0, ⟨36, none, [(V4.row aI) s1.1]⟩), (1, ⟨36, none, [(V4.row aI) (⟨0, 0, 0, 0⟩ : (V4 Int))]⟩)], 2⟩ ∧ fx (F72_L1 n a1) i s1 = some r) n ⟨(a0, 0), [(0, 0), (1, 1)], (StV.tab (by rw [hn0]; rfl) (E_cons (a0 := aI a1) (by kernel_rfl) vw_v (E_cons (a0 := .ptr 0 0 0) (by kernel_rfl) (vw_ptr rfl) (E_cons (a0 := .ptr 1 0 0) (by kernel_rfl) (vw_ptr rfl) (E_cons (a0 := aI 0) (by kernel_rfl) vw_v E_nil)))) (O_cons 0 ⟨36, none, [(V4.row aI) a0]⟩ rfl (by kernel_rfl) rfl rfl (vs_cons (vwList_flat rfl) vs_nil) (O_cons 1 ⟨36, none, [(V4.row aI) (⟨0, 0, 0, 0⟩ : (V4 Int))]⟩ rfl (by kernel_rfl) rfl rfl (vs_cons (vwList_flat rfl) vs_nil) O_nil)) (by rw [hn0]; rfl)), h⟩ ?_
  rintro is1 st1 ⟨s1, names, hv, h⟩
  obtain ⟨ks1, f2, hks1, hfs1, h⟩ := fx_inv h
  refine AWp.view _ hv ?_
  unfold F72_L1 at h
  refine AWp.seq ?_
  refine AWp.region ?_
  refine RW.step (d := ⟨some 7, aB (decide (s1.2 < 4)), []⟩) (k := 0) rfl (dt hnt rfl rfl) (Stp.pure (G := sg) _ (by kernel_rfl)) ?_
  refine RW.nil ?_
  refine thenN ?_
  refine AWp.seq ?_
  refine AWp.cond (t := decide (s1.2 < 4)) (by kernel_rfl) (fun hb => ?_) (fun hb => ?_)
  · have h := br_t hb h
    refine AWp.skip ?_
    refine thenN ?_
    refine AWp.cut (fun st' => ∃ (s3 : (V4 Int)) (names : List (Nat × Nat)), StV B.n0 st' (tabN names) ⟨tabE [(1, aI a1), (2, .ptr 0 0 0), (4, .ptr 1 0 0), (6, aI s1.2)], tabO [(0, ⟨36, none, [(V4.row aI) s3]⟩), (1, ⟨36, none, [(V4.row aI) (⟨0, 0, 0, 0⟩ : (V4 Int))]⟩)], 2⟩ ∧ F72_J2 n s1 f2 s3 = some r) ?_ ?_
    · refine AWp.block ?_
      refine AWp.seq ?_
      refine AWp.region ?_
      refine RW.step (d := ⟨some 8, aI s1.2, []⟩) (k := 0) rfl (dt hnt rfl rfl) (Stp.pure (G := sg) _ (by kernel_rfl)) ?_
      refine RW.step (d := ⟨some 5, aI s1.2, []⟩) (k := 0) rfl (dt hnt rfl rfl) (Stp.pure (G := sg) _ (by kernel_rfl)) ?_
      refine RW.nil ?_
      refine thenN ?_
      refine AWp.seq ?_
      refine AWp.region ?_
      refine RW.step (d := ⟨some 9, aI a1, []⟩) (k := 0) rfl (dt hnt rfl rfl) (Stp.pure (G := sg) _ (by kernel_rfl)) ?_
      refine RW.step (d := ⟨some 10, aI s1.2, []⟩) (k := 0) rfl (dt hnt rfl rfl) (Stp.pure (G := sg) _ (by kernel_rfl)) ?_
      obtain ⟨hc19, h⟩ := ck_inv h
      refine RW.step (d := ⟨some 11, aI (sr64 a1 s1.2), []⟩) (k := 0) rfl (dt hnt rfl rfl) (Stp.pure (G := sg) _ (P_shr (a := a1) (k := .i64) (b := s1.2) (by kernel_rfl) (by kernel_rfl) hc19)) ?_
      obtain ⟨x4, hx4, h⟩ := lt_inv h
      refine RW.step (d := ⟨some 12, aI x4, []⟩) (k := 0) rfl (dt hnt rfl rfl) (Stp.pure (G := sg) _ (by rw [← hx4]; kernel_rfl)) ?_
      refine RW.step (d := ⟨some 13, aB (decide (x4 = 0)), []⟩) (k := 0) rfl (dt hnt rfl rfl) (Stp.pure (G := sg) _ (by kernel_rfl)) ?_
      refine RW.nil ?_
      refine thenN ?_
      refine AWp.cond (t := decide (x4 = 0)) (by kernel_rfl) (fun hb => ?_) (fun hb => ?_)
      · have h := br_t hb h
        refine AWp.region ?_
        refine RW.step (d := ⟨some 14, aI s1.2, []⟩) (k := 0) rfl (dt hnt rfl rfl) (Stp.pure (G := sg) _ (by kernel_rfl)) ?_
        obtain ⟨hc20, h⟩ := ck_inv h
        refine RW.step (d := ⟨some 15, .ptr 0 0 s1.2.toNat, []⟩) (k := 0) rfl (dt hnt rfl rfl) (Stp.pure (G := sg) _ (P_ia_arr (nm := 0) (s := 0) (len := 4) (kk := .i64) (n := s1.2) (el := 3) (by kernel_rfl) (by kernel_rfl) (by kernel_rfl) rfl (by omega))) ?_
        refine RW.step (d := ⟨none, .any, [(0, some ⟨36, none, [(V4.row aI) (V4.set s1.1 s1.2.toNat 0)]⟩)]⟩) (k := 0) rfl (dn rfl) (Stp.store (G := sg) _ rfl (S_st (s := 0) (j := s1.2.toNat) (o := ⟨36, none, [(V4.row aI) s1.1]⟩) (a := aI 0) (by kernel_rfl) (by kernel_rfl) (by kernel_rfl) (by kernel_rfl) (by kernel_rfl) (Nat.le_of_ble_eq_true rfl) (T_cell (row := (V4.row aI) s1.1) rfl (by kernel_rfl) (show s1.2.toNat < 4 by omega) (V4.row_set _ _ _ (by omega)) (by kernel_rfl)))) ?_
        refine RW.nil ?_
        refine blockN ?_
        exact ⟨V4.set s1.1 s1.2.toNat 0, [(0, 0), (1, 1)], (StV.tab (by rw [hn0]; rfl) (E_cons (a0 := aI a1) (by kernel_rfl) vw_v (E_cons (a0 := .ptr 0 0 0) (by kernel_rfl) (vw_ptr rfl) (E_cons (a0 := .ptr 1 0 0) (by kernel_rfl) (vw_ptr rfl) (E_cons (a0 := aI s1.2) (by kernel_rfl) vw_v E_nil)))) (O_cons 0 ⟨36, none, [(V4.row aI) (V4.set s1.1 s1.2.toNat 0)]⟩ rfl (by kernel_rfl) rfl rfl (vs_cons (vwList_flat rfl) vs_nil) (O_cons 1 ⟨36, none, [(V4.row aI) (⟨0, 0, 0, 0⟩ : (V4 Int))]⟩ rfl (by kernel_rfl) rfl rfl (vs_cons (vwList_flat rfl) vs_nil) O_nil)) (by rw [hn0]; rfl)), h⟩
      · have h := br_f hb h
        refine AWp.skip ?_
        refine blockN ?_
        exact ⟨s1.1, [(0, 0), (1, 1)], (StV.tab (by rw [hn0]; rfl) (E_cons (a0 := aI a1) (by kernel_rfl) vw_v (E_cons (a0 := .ptr 0 0 0) (by kernel_rfl) (vw_ptr rfl) (E_cons (a0 := .ptr 1 0 0) (by kernel_rfl) (vw_ptr rfl) (E_cons (a0 := aI s1.2) (by kernel_rfl) vw_v E_nil)))) (O_cons 0 ⟨36, none, [(V4.row aI) s1.1]⟩ rfl (by kernel_rfl) rfl rfl (vs_cons (vwList_flat rfl) vs_nil) (O_cons 1 ⟨36, none, [(V4.row aI) (⟨0, 0, 0, 0⟩ : (V4 Int))]⟩ rfl (by kernel_rfl) rfl rfl (vs_cons (vwList_flat rfl) vs_nil) O_nil)) (by rw [hn0]; rfl)), h⟩
    · rintro st1 ⟨s3, names, hv, h⟩
      refine AWp.view _ hv ?_
      unfold F72_J2 at h
      refine AWp.region ?_
      refine RW.step (d := ⟨some 16, aI (w64 (s1.2 + 1)), []⟩) (k := 0) rfl (dt hnt rfl rfl) (Stp.pure (G := sg) _ (by kernel_rfl)) ?_
      refine RW.step (d := ⟨some 6, aI (w64 (s1.2 + 1)), []⟩) (k := 0) rfl (dt hnt rfl rfl) (Stp.pure (G := sg) _ (by kernel_rfl)) ?_
      refine RW.nil ?_
      exact ⟨ks1, by rw [hks1]; exact Nat.lt_succ_self _, (s3, w64 (s1.2 + 1)), [(0, 0), (1, 1)], (StV.tab (by rw [hn0]; rfl) (E_cons (a0 := aI a1) (by kernel_rfl) vw_v (E_cons (a0 := .ptr 0 0 0) (by kernel_rfl) (vw_ptr rfl) (E_cons (a0 := .ptr 1 0 0) (by kernel_rfl) (vw_ptr rfl) (E_cons (a0 := aI (w64 (s1.2 + 1))) (by kernel_rfl) vw_v E_nil)))) (O_cons 0 ⟨36, none, [(V4.row aI) s3]⟩ rfl (by kernel_rfl) rfl rfl (vs_cons (vwList_flat rfl) vs_nil) (O_cons 1 ⟨36, none, [(V4.row aI) (⟨0, 0, 0, 0⟩ : (V4 Int))]⟩ rfl (by kernel_rfl) rfl rfl (vs_cons (vwList_flat rfl) vs_nil) O_nil)) (by rw [hn0]; rfl)), by rw [← hfs1]; exact h⟩
  · have h := br_f hb h
    refine AWp.exit ?_
    refine thenX ?_
    refine thenX ?_
    refine blockH ?_
    refine thenN ?_
    refine AWp.seq ?_
    refine AWp.region ?_
    refine RW.step (d := ⟨some 17, .agg [(V4.row aI) s1.1], []⟩) (k := 0) rfl (dt hnt rfl rfl) (Stp.pure (G := sg) _ (by kernel_rfl)) ?_
    refine RW.step (d := ⟨none, .any, [(1, some ⟨36, none, [(V4.row aI) s1.1]⟩)]⟩) (k := 0) rfl (dn rfl) (Stp.store (G := sg) _ rfl (by kernel_rfl)) ?_
    refine RW.nil ?_
    refine thenN ?_
    refine AWp.ret ?_
    injection h with h
    subst h
    exact ⟨[.agg [(V4.row aI) s1.1]], _, [], _, by kernel_rfl, RetV.flat (vw_agg (vs_cons (vwList_flat rfl) vs_nil))⟩

/-- loop.example/g01203/impl.shadows -/
def F50_L1 (n : Nat) (a0 : (List (V4 Int))) (a1 : Int) (f2 : ((List (V4 Int)) × Int) → Option ((List (V4 Int)))) (s1 : (List (V4 Int)) × Int) : Option ((List (V4 Int))) :=
  lt (decide (s1.2 < (a0.length : Int)) : Bool) fun x3 => br (x3) (ck (0 ≤ s1.2 ∧ s1.2 < (a0.length : Int)) (ob (F72 n (gl a0 s1.2.toNat) a1) fun (x4 : ((V4 Int))) => ck (s1.1.length + ([x4] : List (V4 Int)).length ≤ 4294967296) (f2 (s1.1 ++ ([x4] : List (V4 Int)), w64 (s1.2 + 1))))) (some s1.1)
def F50 (n : Nat) (a0 : (List (V4 Int))) (a1 : Int) : Option ((List (V4 Int))) :=
  fx (F50_L1 n a0 a1) n (([] : List (V4 Int)), 0)
theorem own50 : Own Try.prog 50 := ⟨_, Try.func50, rfl, by kernel_rfl⟩
theorem C50 {n : Nat} {a0 : (List (V4 Int))} {a1 : Int} {r : (List (V4 Int))} (h : F50 n a0 a1 = some r) : DCall Try.prog 50 [.ro (a0.map (V4.row aI)) false, aI a1] [] (.sl 0 0 r.length) [some ⟨36, some 4, (r.map (V4.row aI))⟩] := by
  refine ⟨own50, VCall.enter (G := sg) Try.func50 rfl (Nat.le_of_ble_eq_true rfl) (Nat.le_of_ble_eq_true rfl) fun B hnt hn0 => ?_⟩
  unfold F50 at h
  refine AWp.seq ?_
  refine AWp.region ?_
  refine RW.step (d := ⟨some 4, .ro [] true, []⟩) (k := 0) rfl (dt hnt rfl rfl) (Stp.pure (G := sg) _ (by kernel_rfl)) ?_
  refine RW.nil ?_
  refine thenN ?_
  refine AWp.seq ?_
  refine AWp.region ?_
  refine RW.step (d := ⟨some 8, .sl 0 0 (([] : List (V4 Int)).length), [(0, some ⟨36, some 4, (([] : List (V4 Int)).map (V4.row aI))⟩)]⟩) (k := 1) rfl (dt hnt rfl rfl) (Stp.new (G := sg) (by kernel_rfl)) ?_
  refine RW.step (d := ⟨some 5, .sl 0 0 (([] : List (V4 Int)).length), []⟩) (k := 0) rfl (dt hnt rfl rfl) (Stp.pure (G := sg) _ (by kernel_rfl)) ?_
  refine RW.nil ?_
  refine thenN ?_
  refine AWp.seq ?_
  refine AWp.seq ?_
  refine AWp.region ?_
  refine RW.step (d := ⟨some 9, .ro (a0.map (V4.row aI)) false, []⟩) (k := 0) rfl (dt hnt rfl rfl) (Stp.pure (G := sg) _ (by kernel_rfl)) ?_
  refine RW.step (d := ⟨some 10, aI (a0.length : Int), []⟩) (k := 0) rfl (dt hnt rfl rfl) (Stp.pure (G := sg) _ (P_len_ro (l := a0) (r := (V4.row aI)) (full := false) (el := 36) (by kernel_rfl) (by kernel_rfl))) ?_
  refine RW.step (d := ⟨some 11, aI 0, []⟩) (k := 0) rfl (dt hnt rfl rfl) (Stp.pure (G := sg) _ (by kernel_rfl)) ?_
  refine RW.nil ?_
  refine thenN ?_
  refine AWp.block ?_
  refine AWp.loop (fun i st' => ∃ (s1 : (List (V4 Int)) × Int) (names : List (Nat × Nat)), StV B.n0 st' (tabN names) ⟨tabE [(1, aI a1), (5, .sl 0 0 s1.1.length), (9, .ro (a0.map (V4.row aI)) false), (10, aI (a0.length : Int)), (11, aI s1.2)], tabO [(0, ⟨36, some 4, (s1.1.map (V4.row aI))⟩)], 1⟩ ∧ fx (F50_L1 n a0 a1) i s1 = some r) n ⟨(([] : List (V4 Int)), 0), [(0, 0)], (StV.tab (by rw [hn0]; rfl) (E_cons (a0 := aI a1) (by kernel_rfl) vw_v (E_cons (a0 := .sl 0 0 (([] : List (V4 Int)).length)) (by kernel_rfl) (vw_slq rfl (by first | rfl | simp)) (E_cons (a0 := .ro (a0.map (V4.row aI)) false) (by kernel_rfl) (vw_ro (fun h => h) (vwSegs_map (fun _ => rfl) _)) (E_cons (a0 := aI (a0.length : Int)) (by kernel_rfl) vw_v (E_cons (a0 := aI 0) (by kernel_rfl) vw_v E_nil))))) (O_cons 0 ⟨36, some 4, (([] : List (V4 Int)).map (V4.row aI))⟩ rfl (by kernel_rfl) rfl rfl (vwSegs_map (fun _ => rfl) _) O_nil) (by rw [hn0]; rfl)), h⟩ ?_
  rintro is1 st1 ⟨s1, names, hv, h⟩
  obtain ⟨ks1, f2, hks1, hfs1, h⟩ := fx_inv h
  refine AWp.view _ hv ?_
  unfold F50_L1 at h
  refine AWp.seq ?_
  refine AWp.region ?_
  obtain ⟨x3, hx3, h⟩ := lt_inv h
  refine RW.step (d := ⟨some 12, aB x3, []⟩) (k := 0) rfl (dt hnt rfl rfl) (Stp.pure (G := sg) _ (by rw [← hx3]; kernel_rfl)) ?_
  refine RW.nil ?_
  refine thenN ?_
  refine AWp.seq ?_
  refine AWp.cond (t := x3) (by kernel_rfl) (fun hb => ?_) (fun hb => ?_)
  · have h := br_t hb h
    refine AWp.skip ?_
    refine thenN ?_
    refine AWp.seq ?_
    refine AWp.block ?_
    refine AWp.seq ?_
    refine AWp.region ?_
    obtain ⟨hc11, h⟩ := ck_inv h
    refine RW.step (d := ⟨some 13, .rp (a0.map (V4.row aI)) s1.2.toNat 0, []⟩) (k := 0) rfl (dt hnt rfl rfl) (Stp.pure (G := sg) _ (P_ia_ro (l := a0) (r := (V4.row aI)) (full := false) (kk := .i64) (n := s1.2) (el := 36) (by kernel_rfl) (by kernel_rfl) (by kernel_rfl) (fun _ => rfl) rfl hc11)) ?_
    refine RW.step (d := ⟨some 14, .agg [(V4.row aI) (gl a0 s1.2.toNat)], []⟩) (k := 0) rfl (dt hnt rfl rfl) (Stp.pure (G := sg) _ (P_ld_rp (segs := (a0.map (V4.row aI))) (s := s1.2.toNat) (j := 0) (by kernel_rfl) (L_row (by kernel_rfl) (by first | omega | (simp; omega))))) ?_
    refine RW.step (d := ⟨some 7, .ptr 1 0 0, [(1, some ⟨36, none, [(V4.row aI) (⟨0, 0, 0, 0⟩ : (V4 Int))]⟩)]⟩) (k := 1) rfl (dt hnt rfl rfl) (Stp.new (G := sg) (by kernel_rfl)) ?_
    refine RW.step (d := ⟨none, .any, [(1, some ⟨36, none, [(V4.row aI) (gl a0 s1.2.toNat)]⟩)]⟩) (k := 0) rfl (dn rfl) (Stp.store (G := sg) _ rfl (by kernel_rfl)) ?_
    refine RW.nil ?_
    refine thenN ?_
    refine AWp.region ?_
    refine RW.step (d := ⟨some 15, .sl 0 0 s1.1.length, []⟩) (k := 0) rfl (dt hnt rfl rfl) (Stp.pure (G := sg) _ (by kernel_rfl)) ?_
    refine RW.step (d := ⟨some 16, .agg [(V4.row aI) (gl a0 s1.2.toNat)], []⟩) (k := 0) rfl (dt hnt rfl rfl) (Stp.pure (G := sg) _ (by kernel_rfl)) ?_
    refine RW.step (d := ⟨some 17, aI a1, []⟩) (k := 0) rfl (dt hnt rfl rfl) (Stp.pure (G := sg) _ (by kernel_rfl)) ?_
    obtain ⟨x4, hx4, h⟩ := ob_inv h
    refine RW.step (d := ⟨some 18, .agg [(V4.row aI) x4], []⟩) (k := 0) rfl (dt hnt rfl rfl) (Stp.call0 _ rfl (k := 72) (caps := []) (by kernel_rfl) (C72 hx4) (vl_cons (vw_agg (vs_cons (vwList_flat rfl) vs_nil)) (vl_cons vw_v vl_nil)) (vw_agg (vs_cons (vwList_flat rfl) vs_nil))) ?_
    refine RW.step (d := ⟨some 19, .sl 2 0 (([x4] : List (V4 Int)).length), [(2, some ⟨36, some 4, (([x4] : List (V4 Int)).map (V4.row aI))⟩)]⟩) (k := 1) rfl (dt hnt rfl rfl) (Stp.new (G := sg) (by kernel_rfl)) ?_
    obtain ⟨hc12, h⟩ := ck_inv h
    refine RW.step (d := ⟨some 20, .sl 3 0 ((s1.1 ++ ([x4] : List (V4 Int))).length), [(3, some ⟨36, some 4, ((s1.1 ++ ([x4] : List (V4 Int))).map (V4.row aI))⟩), (0, none)]⟩) (k := 1) rfl (dt hnt rfl rfl) (Stp.append (G := sg) (t := 22) rfl (A_app (nm := 0) (len := s1.1.length) (el := 36) (l := s1.1) (m := ([x4] : List (V4 Int))) (r := (V4.row aI)) (k := 4) (b := 32) (by kernel_rfl) (by kernel_rfl) (by kernel_rfl) (by first | rfl | simp) (by kernel_rfl) (src_sl (nm := 2) (len := (([x4] : List (V4 Int)).length)) (ty := 36) (m := ([x4] : List (V4 Int))) (by kernel_rfl) (by first | rfl | simp) (by kernel_rfl)) (fun _ => rfl) rfl hc12)) ?_
    refine RW.step (d := ⟨some 5, .sl 3 0 ((s1.1 ++ ([x4] : List (V4 Int))).length), []⟩) (k := 0) rfl (dt hnt rfl rfl) (Stp.pure (G := sg) _ (by kernel_rfl)) ?_
    refine RW.nil ?_
    refine blockN ?_
    refine thenN ?_
    refine AWp.region ?_
    refine RW.step (d := ⟨some 21, aI (w64 (s1.2 + 1)), []⟩) (k := 0) rfl (dt hnt rfl rfl) (Stp.pure (G := sg) _ (by kernel_rfl)) ?_
    refine RW.step (d := ⟨some 11, aI (w64 (s1.2 + 1)), []⟩) (k := 0) rfl (dt hnt rfl rfl) (Stp.pure (G := sg) _ (by kernel_rfl)) ?_
    refine RW.nil ?_
    exact ⟨ks1, by rw [hks1]; exact Nat.lt_succ_self _, (s1.1 ++ ([x4] : List (V4 Int)), w64 (s1.2 + 1)), [(0, 3)], (StV.tab (by rw [hn0]; rfl) (E_cons (a0 := aI a1) (by kernel_rfl) vw_v (E_cons (a0 := .sl 3 0 ((s1.1 ++ ([x4] : List (V4 Int))).length)) (by kernel_rfl) (vw_slq rfl (by first | rfl | simp)) (E_cons (a0 := .ro (a0.map (V4.row aI)) false) (by kernel_rfl) (vw_ro (fun h => h) (vwSegs_map (fun _ => rfl) _)) (E_cons (a0 := aI (a0.length : Int)) (by kernel_rfl) vw_v (E_cons (a0 := aI (w64 (s1.2 + 1))) (by kernel_rfl) vw_v E_nil))))) (O_cons 3 ⟨36, some 4, ((s1.1 ++ ([x4] : List (V4 Int))).map (V4.row aI))⟩ rfl (by kernel_rfl) rfl rfl (vwSegs_map (fun _ => rfl) _) O_nil) (by rw [hn0]; rfl)), by rw [← hfs1]; exact h⟩
  · have h := br_f hb h
    refine AWp.exit ?_
    refine thenX ?_
    refine thenX ?_
    refine blockH ?_
    refine thenN ?_
    refine AWp.seq ?_
    refine AWp.region ?_
    refine RW.step (d := ⟨some 22, .sl 0 0 s1.1.length, []⟩) (k := 0) rfl (dt hnt rfl rfl) (Stp.pure (G := sg) _ (by kernel_rfl)) ?_
    refine RW.step (d := ⟨some 4, .sl 0 0 s1.1.length, []⟩) (k := 0) rfl (dt hnt rfl rfl) (Stp.pure (G := sg) _ (by kernel_rfl)) ?_
    refine RW.nil ?_
    refine thenN ?_
    refine AWp.ret ?_
    injection h with h
    subst h
    refine ⟨[.sl 0 0 s1.1.length], _, _, tabN [(0, 0)], by kernel_rfl, RetV.tab (fo' := [some ⟨36, some 4, (s1.1.map (V4.row aI))⟩]) (by rfl) (vw_slq rfl (by first | rfl | simp)) ?_ rfl⟩
    intro p o' ho
    match p, ho with
    | 0, ho => exact .inl ⟨0, ⟨36, some 4, (s1.1.map (V4.row aI))⟩, rfl, by kernel_rfl, by injection ho with ho; subst ho; rfl, by injection ho with ho; subst ho; rfl, by injection ho with ho; subst ho; exact (vwSegs_map (fun _ => rfl) _)⟩
    | p + 1, ho => exact absurd ho (by simp [lo'])

/-- loop.example/g01203/impl.CountBehind -/
def F22_J2 (n : Nat) (s7 : (Int × Int)) (f8 : ((Int × Int) → Option (Int × Bool))) (s10 : Int) : Option (Int × Bool) :=
  f8 (s10, w64 (s7.2 + 1))
def F22_L1 (n : Nat) (a2 : (V4 Int)) (x6 : ((List (V4 Int)))) (f8 : (Int × Int) → Option (Int × Bool)) (s7 : Int × Int) : Option (Int × Bool) :=
  lt (decide (s7.2 < (x6.length : Int)) : Bool) fun x9 => br (x9) (ck (0 ≤ s7.2 ∧ s7.2 < (x6.length : Int)) (lt (eqV4 (gl x6 s7.2.toNat) a2 : Bool) fun x11 => br (x11) (F22_J2 n s7 f8 (w64 (s7.1 + 1))) (F22_J2 n s7 f8 s7.1))) (some (s7.1, true))
def F22 (n : Nat) (a0 : (List (V4 Int))) (a1 : Int) (a2 : (V4 Int)) : Option (Int × Bool) :=
  ob (F42 n a0) fun (x1 : (Bool)) => ob (br (!x1) (some true) (ob (F48 n a1) fun (x3 : (Bool)) => some (!x3))) fun (x2 : Bool) => ob (br (x2) (some true) (ob (F49 n a2) fun (x5 : (Bool)) => some (!x5))) fun (x4 : Bool) => br (x4) (some (0, false)) (ob (F50 n a0 a1) fun (x6 : ((List (V4 Int)))) => fx (F22_L1 n a2 x6) n (0, 0))
theorem own22 : Own Try.prog 22 := ⟨_, Try.func22, rfl, by kernel_rfl⟩
theorem C22 {n : Nat} {a0 : (List (V4 Int))} {a1 : Int} {a2 : (V4 Int)} {r : Int × Bool} (h : F22 n a0 a1 a2 = some r) : DCall Try.prog 22 [.ro (a0.map (V4.row aI)) false, aI a1, .agg [(V4.row aI) a2]] [] (.tup [aI r.1, aB r.2]) [] := by
  refine ⟨own22, VCall.enter (G := sg) Try.func22 rfl (Nat.le_of_ble_eq_true rfl) (Nat.le_of_ble_eq_true rfl) fun B hnt hn0 => ?_⟩
  unfold F22 at h
  refine AWp.seq ?_
  refine AWp.region ?_
  refine RW.step (d := ⟨some 5, .ptr 0 0 0, [(0, some ⟨36, none, [(V4.row aI) a2]⟩)]⟩) (k := 1) rfl (dt hnt rfl rfl) (Stp.new (G := sg) (by kernel_rfl)) ?_
  refine RW.step (d := ⟨some 6, aI 0, []⟩) (k := 0) rfl (dt hnt rfl rfl) (Stp.pure (G := sg) _ (by kernel_rfl)) ?_
  refine RW.step (d := ⟨some 7, aB false, []⟩) (k := 0) rfl (dt hnt rfl rfl) (Stp.pure (G := sg) _ (by kernel_rfl)) ?_
  refine RW.nil ?_
  refine thenN ?_
  refine AWp.seq ?_
  refine AWp.seq ?_
  refine AWp.region ?_
  refine RW.step (d := ⟨some 11, .ro (a0.map (V4.row aI)) false, []⟩) (k := 0) rfl (dt hnt rfl rfl) (Stp.pure (G := sg) _ (by kernel_rfl)) ?_
  obtain ⟨x1, hx1, h⟩ := ob_inv h
  refine RW.step (d := ⟨some 12, aB x1, []⟩) (k := 0) rfl (dt hnt rfl rfl) (Stp.call0 _ rfl (k := 42) (caps := []) (by kernel_rfl) (C42 hx1) (vl_cons (vw_ro (fun h => h) (vwSegs_map (fun _ => rfl) _)) vl_nil) vw_v) ?_
  refine RW.step (d := ⟨some 13, aB (!x1), []⟩) (k := 0) rfl (dt hnt rfl rfl) (Stp.pure (G := sg) _ (by kernel_rfl)) ?_
  refine RW.step (d := ⟨some 14, aB (!x1), []⟩) (k := 0) rfl (dt hnt rfl rfl) (Stp.pure (G := sg) _ (by kernel_rfl)) ?_
  obtain ⟨x2, hx2, h⟩ := ob_inv h
  refine RW.mid 4 (fun st' => ∃ names, StV B.n0 st' (tabN names) ⟨tabE [(0, .ro (a0.map (V4.row aI)) false), (1, aI a1), (5, .ptr 0 0 0), (18, aB x2)], tabO [(0, ⟨36, none, [(V4.row aI) a2]⟩)], 1⟩) ?_ ?_
  · rcases Bool.eq_false_or_eq_true (!x1) with hb1 | hb1
    · have hx2 := br_t hb1 hx2
      refine RW.gf rfl rfl (by rw [hnt]; rfl) (b := !x1) (by kernel_rfl) hb1 (dt hnt rfl rfl) ?_
      refine RW.gf rfl rfl (by rw [hnt]; rfl) (b := !x1) (by kernel_rfl) hb1 (dt hnt rfl rfl) ?_
      refine RW.gf rfl rfl (by rw [hnt]; rfl) (b := !x1) (by kernel_rfl) hb1 (dt hnt rfl rfl) ?_
      refine RW.step (d := ⟨some 18, aB true, []⟩) (k := 0) rfl (dt hnt rfl rfl) (Stp.pure (G := sg) _ (P_pick_t (t := !x1) (by kernel_rfl) hb1 (by kernel_rfl))) ?_
      injection hx2 with hx2
      subst hx2
      exact RW.nil (thenN ⟨[(0, 0)], (StV.tab (by rw [hn0]; rfl) (E_cons (a0 := .ro (a0.map (V4.row aI)) false) (by kernel_rfl) (vw_ro (fun h => h) (vwSegs_map (fun _ => rfl) _)) (E_cons (a0 := aI a1) (by kernel_rfl) vw_v (E_cons (a0 := .ptr 0 0 0) (by kernel_rfl) (vw_ptr rfl) (E_cons (a0 := aB true) (by kernel_rfl) vw_v E_nil)))) (O_cons 0 ⟨36, none, [(V4.row aI) a2]⟩ rfl (by kernel_rfl) rfl rfl (vs_cons (vwList_flat rfl) vs_nil) O_nil) (by rw [hn0]; rfl))⟩)
    · have hx2 := br_f hb1 hx2
      refine RW.gt (d := ⟨some 15, aI a1, []⟩) (k := 0) rfl rfl (by rw [hnt]; rfl) (b := !x1) (by kernel_rfl) hb1 (dt hnt rfl rfl) (Stp.pure (G := sg) _ (by kernel_rfl)) ?_
      obtain ⟨x3, hx3, hx2⟩ := ob_inv hx2
      refine RW.gt (d := ⟨some 16, aB x3, []⟩) (k := 0) rfl rfl (by rw [hnt]; rfl) (b := !x1) (by kernel_rfl) hb1 (dt hnt rfl rfl) (Stp.call0 _ rfl (k := 48) (caps := []) (by kernel_rfl) (C48 hx3) (vl_cons vw_v vl_nil) vw_v) ?_
      refine RW.gt (d := ⟨some 17, aB (!x3), []⟩) (k := 0) rfl rfl (by rw [hnt]; rfl) (b := !x1) (by kernel_rfl) hb1 (dt hnt rfl rfl) (Stp.pure (G := sg) _ (by kernel_rfl)) ?_
      refine RW.step (d := ⟨some 18, aB (!x3), []⟩) (k := 0) rfl (dt hnt rfl rfl) (Stp.pure (G := sg) _ (P_pick_f (t := !x1) (by kernel_rfl) hb1 (by kernel_rfl))) ?_
      injection hx2 with hx2
      subst hx2
      exact RW.nil (thenN ⟨[(0, 0)], (StV.tab (by rw [hn0]; rfl) (E_cons (a0 := .ro (a0.map (V4.row aI)) false) (by kernel_rfl) (vw_ro (fun h => h) (vwSegs_map (fun _ => rfl) _)) (E_cons (a0 := aI a1) (by kernel_rfl) vw_v (E_cons (a0 := .ptr 0 0 0) (by kernel_rfl) (vw_ptr rfl) (E_cons (a0 := aB (!x3)) (by kernel_rfl) vw_v E_nil)))) (O_cons 0 ⟨36, none, [(V4.row aI) a2]⟩ rfl (by kernel_rfl) rfl rfl (vs_cons (vwList_flat rfl) vs_nil) O_nil) (by rw [hn0]; rfl))⟩)
  · rintro st2 ⟨names, hv⟩
    refine RW.weak _ hv ?_
    refine RW.step (d := ⟨some 19, aB x2, []⟩) (k := 0) rfl (dt hnt rfl rfl) (Stp.pure (G := sg) _ (by kernel_rfl)) ?_
    obtain ⟨x4, hx4, h⟩ := ob_inv h
    refine RW.mid 4 (fun st' => ∃ names, StV B.n0 st' (tabN names) ⟨tabE [(0, .ro (a0.map (V4.row aI)) false), (1, aI a1), (5, .ptr 0 0 0), (23, aB x4)], tabO [(0, ⟨36, none, [(V4.row aI) a2]⟩)], 1⟩) ?_ ?_
    · rcases Bool.eq_false_or_eq_true (x2) with hb1 | hb1
      · have hx4 := br_t hb1 hx4
        refine RW.gf rfl rfl (by rw [hnt]; rfl) (b := x2) (by kernel_rfl) hb1 (dt hnt rfl rfl) ?_
        refine RW.gf rfl rfl (by rw [hnt]; rfl) (b := x2) (by kernel_rfl) hb1 (dt hnt rfl rfl) ?_
        refine RW.gf rfl rfl (by rw [hnt]; rfl) (b := x2) (by kernel_rfl) hb1 (dt hnt rfl rfl) ?_
        refine RW.step (d := ⟨some 23, aB true, []⟩) (k := 0) rfl (dt hnt rfl rfl) (Stp.pure (G := sg) _ (P_pick_t (t := x2) (by kernel_rfl) hb1 (by kernel_rfl))) ?_
        injection hx4 with hx4
        subst hx4
        exact RW.nil (thenN ⟨[(0, 0)], (StV.tab (by rw [hn0]; rfl) (E_cons (a0 := .ro (a0.map (V4.row aI)) false) (by kernel_rfl) (vw_ro (fun h => h) (vwSegs_map (fun _ => rfl) _)) (E_cons (a0 := aI a1) (by kernel_rfl) vw_v (E_cons (a0 := .ptr 0 0 0) (by kernel_rfl) (vw_ptr rfl) (E_cons (a0 := aB true) (by kernel_rfl) vw_v E_nil)))) (O_cons 0 ⟨36, none, [(V4.row aI) a2]⟩ rfl (by kernel_rfl) rfl rfl (vs_cons (vwList_flat rfl) vs_nil) O_nil) (by rw [hn0]; rfl))⟩)
      · have hx4 := br_f hb1 hx4
        refine RW.gt (d := ⟨some 20, .agg [(V4.row aI) a2], []⟩) (k := 0) rfl rfl (by rw [hnt]; rfl) (b := x2) (by kernel_rfl) hb1 (dt hnt rfl rfl) (Stp.pure (G := sg) _ (by kernel_rfl)) ?_
        obtain ⟨x5, hx5, hx4⟩ := ob_inv hx4
        refine RW.gt (d := ⟨some 21, aB x5, []⟩) (k := 0) rfl rfl (by rw [hnt]; rfl) (b := x2) (by kernel_rfl) hb1 (dt hnt rfl rfl) (Stp.call0 _ rfl (k := 49) (caps := []) (by kernel_rfl) (C49 hx5) (vl_cons (vw_agg (vs_cons (vwList_flat rfl) vs_nil)) vl_nil) vw_v) ?_
        refine RW.gt (d := ⟨some 22, aB (!x5), []⟩) (k := 0) rfl rfl (by rw [hnt]; rfl) (b := x2) (by kernel_rfl) hb1 (dt hnt rfl rfl) (Stp.pure (G := sg) _ (by kernel_rfl)) ?_
        refine RW.step (d := ⟨some 23, aB (!x5), []⟩) (k := 0) rfl (dt hnt rfl rfl) (Stp.pure (G := sg) _ (P_pick_f (t := x2) (by kernel_rfl) hb1 (by kernel_rfl))) ?_
        injection hx4 with hx4
        subst hx4
        exact RW.nil (thenN ⟨[(0, 0)], (StV.tab (by rw [hn0]; rfl) (E_cons (a0 := .ro (a0.map (V4.row aI)) false) (by kernel_rfl) (vw_ro (fun h => h) (vwSegs_map (fun _ => rfl) _)) (E_cons (a0 := aI a1) (by kernel_rfl) vw_v (E_cons (a0 := .ptr 0 0 0) (by kernel_rfl) (vw_ptr rfl) (E_cons (a0 := aB (!x5)) (by kernel_rfl) vw_v E_nil)))) (O_cons 0 ⟨36, none, [(V4.row aI) a2]⟩ rfl (by kernel_rfl) rfl rfl (vs_cons (vwList_flat rfl) vs_nil) O_nil) (by rw [hn0]; rfl))⟩)
    · rintro st2 ⟨names, hv⟩
      refine RW.weak _ hv ?_
      refine RW.nil ?_
      refine thenN ?_
      refine AWp.cond (t := x4) (by kernel_rfl) (fun hb => ?_) (fun hb => ?_)
      · have h := br_t hb h
        refine AWp.seq ?_
        refine AWp.region ?_
        refine RW.step (d := ⟨some 6, aI 0, []⟩) (k := 0) rfl (dt hnt rfl rfl) (Stp.pure (G := sg) _ (by kernel_rfl)) ?_
        refine RW.step (d := ⟨some 7, aB false, []⟩) (k := 0) rfl (dt hnt rfl rfl) (Stp.pure (G := sg) _ (by kernel_rfl)) ?_
        refine RW.nil ?_
        refine thenN ?_
        refine AWp.ret ?_
        refine thenR ?_
        injection h with h
        subst h
        exact ⟨[aI 0, aB false], _, [], _, by kernel_rfl, RetV.flat (vw_tup (vl_cons vw_v (vl_cons vw_v vl_nil)))⟩
      · have h := br_f hb h
        refine AWp.skip ?_
        refine thenN ?_
        refine AWp.seq ?_
        refine AWp.region ?_
        refine RW.step (d := ⟨some 8, aI 0, []⟩) (k := 0) rfl (dt hnt rfl rfl) (Stp.pure (G := sg) _ (by kernel_rfl)) ?_
        refine RW.nil ?_
        refine thenN ?_
        refine AWp.seq ?_
        refine AWp.seq ?_
        refine AWp.region ?_
        refine RW.step (d := ⟨some 24, .ro (a0.map (V4.row aI)) false, []⟩) (k := 0) rfl (dt hnt rfl rfl) (Stp.pure (G := sg) _ (by kernel_rfl)) ?_
        refine RW.step (d := ⟨some 25, aI a1, []⟩) (k := 0) rfl (dt hnt rfl rfl) (Stp.pure (G := sg) _ (by kernel_rfl)) ?_
        obtain ⟨x6, hx6, h⟩ := ob_inv h
        refine RW.step (d := ⟨some 26, .sl 1 0 x6.length, [(1, some ⟨36, some 4, (x6.map (V4.row aI))⟩)]⟩) (k := 1) rfl (dt hnt rfl rfl) (Stp.callN (n := 1) (us := [some ⟨36, some 4, (x6.map (V4.row aI))⟩]) rfl (k := 50) (caps := []) (by kernel_rfl) (C50 hx6) (vl_cons (vw_ro (fun h => h) (vwSegs_map (fun _ => rfl) _)) (vl_cons vw_v vl_nil)) rfl (bk_cons rfl rfl (vwSegs_map (fun _ => rfl) _) bk_nil) (vw_slq rfl (by first | rfl | simp))) ?_
        refine RW.step (d := ⟨some 27, aI (x6.length : Int), []⟩) (k := 0) rfl (dt hnt rfl rfl) (Stp.pure (G := sg) _ (by kernel_rfl)) ?_
        refine RW.step (d := ⟨some 28, aI 0, []⟩) (k := 0) rfl (dt hnt rfl rfl) (Stp.pure (G := sg) _ (by kernel_rfl)) ?_
        refine RW.nil ?_
        refine thenN ?_
        refine AWp.block ?_
        refine AWp.loop (fun i st' => ∃ (s7 : Int × Int) (names : List (Nat × Nat)), StV B.n0 st' (tabN names) ⟨tabE [(5, .ptr 0 0 0), (8, aI s7.1), (26, .sl 1 0 x6.length), (27, aI (x6.length : Int)), (28, aI s7.2)], tabO [(0, ⟨36, none, [(V4.row aI) a2]⟩), (1, ⟨36, some 4, (x6.map (V4.row aI))⟩)], 2⟩ ∧ fx (F22_L1 n a2 x6) i s7 = some r) n ⟨(0, 0), [(0, 0), (1, 1)], (StV.tab (by rw [hn0]; rfl) (E_cons (a0 := .ptr 0 0 0) (by kernel_rfl) (vw_ptr rfl) (E_cons (a0 := aI 0) (by kernel_rfl) vw_v (E_cons (a0 := .sl 1 0 x6.length) (by kernel_rfl) (vw_slq rfl (by first | rfl | simp)) (E_cons (a0 := aI (x6.length : Int)) (by kernel_rfl) vw_v (E_cons (a0 := aI 0) (by kernel_rfl) vw_v E_nil))))) (O_cons 0 ⟨36, none, [(V4.row aI) a2]⟩ rfl (by kernel_rfl) rfl rfl (vs_cons (vwList_flat rfl) vs_nil) (O_cons 1 ⟨36, some 4, (x6.map (V4.row aI))⟩ rfl (by kernel_rfl) rfl rfl (vwSegs_map (fun _ => rfl) _) O_nil)) (by rw [hn0]; rfl)), h⟩ ?_
        rintro is7 st1 ⟨s7, names, hv, h⟩
        obtain ⟨ks7, f8, hks7, hfs7, h⟩ := fx_inv h
        refine AWp.view _ hv ?_
        unfold F22_L1 at h
        refine AWp.seq ?_
        refine AWp.region ?_
        obtain ⟨x9, hx9, h⟩ := lt_inv h
        refine RW.step (d := ⟨some 29, aB x9, []⟩) (k := 0) rfl (dt hnt rfl rfl) (Stp.pure (G := sg) _ (by rw [← hx9]; kernel_rfl)) ?_
        refine RW.nil ?_
        refine thenN ?_
        refine AWp.seq ?_
        refine AWp.cond (t := x9) (by kernel_rfl) (fun hb => ?_) (fun hb => ?_)
        · have h := br_t hb h
          refine AWp.skip ?_
          refine thenN ?_
          refine AWp.cut (fun st' => ∃ (s10 : Int) (names : List (Nat × Nat)), StV B.n0 st' (tabN names) ⟨tabE [(5, .ptr 0 0 0), (8, aI s10), (26, .sl 1 0 x6.length), (27, aI (x6.length : Int)), (28, aI s7.2)], tabO [(0, ⟨36, none, [(V4.row aI) a2]⟩), (1, ⟨36, some 4, (x6.map (V4.row aI))⟩)], 2⟩ ∧ F22_J2 n s7 f8 s10 = some r) ?_ ?_
          · refine AWp.block ?_
            refine AWp.seq ?_
            refine AWp.region ?_
            obtain ⟨hc12, h⟩ := ck_inv h
            refine RW.step (d := ⟨some 30, .ptr 1 s7.2.toNat 0, []⟩) (k := 0) rfl (dt hnt rfl rfl) (Stp.pure (G := sg) _ (P_ia_sl0 (nm := 1) (len := x6.length) (kk := .i64) (n := s7.2) (el := 36) (by kernel_rfl) (by kernel_rfl) (by kernel_rfl) (by kernel_rfl) rfl hc12)) ?_
            refine RW.step (d := ⟨some 31, .agg [(V4.row aI) (gl x6 s7.2.toNat)], []⟩) (k := 0) rfl (dt hnt rfl rfl) (Stp.pure (G := sg) _ (P_ld (nm := 1) (s := s7.2.toNat) (j := 0) (o := ⟨36, some 4, (x6.map (V4.row aI))⟩) (by kernel_rfl) (by kernel_rfl) (L_row (by kernel_rfl) (by first | omega | (simp; omega))))) ?_
            refine RW.step (d := ⟨some 10, .ptr 2 0 0, [(2, some ⟨36, none, [(V4.row aI) (⟨0, 0, 0, 0⟩ : (V4 Int))]⟩)]⟩) (k := 1) rfl (dt hnt rfl rfl) (Stp.new (G := sg) (by kernel_rfl)) ?_
            refine RW.step (d := ⟨none, .any, [(2, some ⟨36, none, [(V4.row aI) (gl x6 s7.2.toNat)]⟩)]⟩) (k := 0) rfl (dn rfl) (Stp.store (G := sg) _ rfl (by kernel_rfl)) ?_
            refine RW.nil ?_
            refine thenN ?_
            refine AWp.seq ?_
            refine AWp.region ?_
            refine RW.step (d := ⟨some 32, .agg [(V4.row aI) (gl x6 s7.2.toNat)], []⟩) (k := 0) rfl (dt hnt rfl rfl) (Stp.pure (G := sg) _ (by kernel_rfl)) ?_
            refine RW.step (d := ⟨some 33, .agg [(V4.row aI) a2], []⟩) (k := 0) rfl (dt hnt rfl rfl) (Stp.pure (G := sg) _ (by kernel_rfl)) ?_
            obtain ⟨x11, hx11, h⟩ := lt_inv h
            refine RW.step (d := ⟨some 34, aB x11, []⟩) (k := 0) rfl (dt hnt rfl rfl) (Stp.pure (G := sg) _ (by rw [← hx11]; kernel_rfl)) ?_
            refine RW.nil ?_
            refine thenN ?_
            refine AWp.cond (t := x11) (by kernel_rfl) (fun hb => ?_) (fun hb => ?_)
            · have h := br_t hb h
              refine AWp.region ?_
              refine RW.step (d := ⟨some 35, aI s7.1, []⟩) (k := 0) rfl (dt hnt rfl rfl) (Stp.pure (G := sg) _ (by kernel_rfl)) ?_
              refine RW.step (d := ⟨some 36, aI (w64 (s7.1 + 1)), []⟩) (k := 0) rfl (dt hnt rfl rfl) (Stp.pure (G := sg) _ (by kernel_rfl)) ?_
              refine RW.step (d := ⟨some 8, aI (w64 (s7.1 + 1)), []⟩) (k := 0) rfl (dt hnt rfl rfl) (Stp.pure (G := sg) _ (by kernel_rfl)) ?_
              refine RW.nil ?_
              refine blockN ?_
              exact ⟨w64 (s7.1 + 1), [(0, 0), (1, 1)], (StV.tab (by rw [hn0]; rfl) (E_cons (a0 := .ptr 0 0 0) (by kernel_rfl) (vw_ptr rfl) (E_cons (a0 := aI (w64 (s7.1 + 1))) (by kernel_rfl) vw_v (E_cons (a0 := .sl 1 0 x6.length) (by kernel_rfl) (vw_slq rfl (by first | rfl | simp)) (E_cons (a0 := aI (x6.length : Int)) (by kernel_rfl) vw_v (E_cons (a0 := aI s7.2) (by kernel_rfl) vw_v E_nil))))) (O_cons 0 ⟨36, none, [(V4.row aI) a2]⟩ rfl (by kernel_rfl) rfl rfl (vs_cons (vwList_flat rfl) vs_nil) (O_cons 1 ⟨36, some 4, (x6.map (V4.row aI))⟩ rfl (by kernel_rfl) rfl rfl (vwSegs_map (fun _ => rfl) _) O_nil)) (by rw [hn0]; rfl)), h⟩
            · have h := br_f hb h
              refine AWp.skip ?_
              refine blockN ?_
              exact ⟨s7.1, [(0, 0), (1, 1)], (StV.tab (by rw [hn0]; rfl) (E_cons (a0 := .ptr 0 0 0) (by kernel_rfl) (vw_ptr rfl) (E_cons (a0 := aI s7.1) (by kernel_rfl) vw_v (E_cons (a0 := .sl 1 0 x6.length) (by kernel_rfl) (vw_slq rfl (by first | rfl | simp)) (E_cons (a0 := aI (x6.length : Int)) (by kernel_rfl) vw_v (E_cons (a0 := aI s7.2) (by kernel_rfl) vw_v E_nil))))) (O_cons 0 ⟨36, none, [(V4.row aI) a2]⟩ rfl (by kernel_rfl) rfl rfl (vs_cons (vwList_flat rfl) vs_nil) (O_cons 1 ⟨36, some 4, (x6.map (V4.row aI))⟩ rfl (by kernel_rfl) rfl rfl (vwSegs_map (fun _ => rfl) _) O_nil)) (by rw [hn0]; rfl)), h⟩
          · rintro st1 ⟨s10, names, hv, h⟩
            refine AWp.view _ hv ?_
            unfold F22_J2 at h
            refine AWp.region ?_
            refine RW.step (d := ⟨some 37, aI (w64 (s7.2 + 1)), []⟩) (k := 0) rfl (dt hnt rfl rfl) (Stp.pure (G := sg) _ (by kernel_rfl)) ?_
            refine RW.step (d := ⟨some 28, aI (w64 (s7.2 + 1)), []⟩) (k := 0) rfl (dt hnt rfl rfl) (Stp.pure (G := sg) _ (by kernel_rfl)) ?_
            refine RW.nil ?_
            exact ⟨ks7, by rw [hks7]; exact Nat.lt_succ_self _, (s10, w64 (s7.2 + 1)), [(0, 0), (1, 1)], (StV.tab (by rw [hn0]; rfl) (E_cons (a0 := .ptr 0 0 0) (by kernel_rfl) (vw_ptr rfl) (E_cons (a0 := aI s10) (by kernel_rfl) vw_v (E_cons (a0 := .sl 1 0 x6.length) (by kernel_rfl) (vw_slq rfl (by first | rfl | simp)) (E_cons (a0 := aI (x6.length : Int)) (by kernel_rfl) vw_v (E_cons (a0 := aI (w64 (s7.2 + 1))) (by kernel_rfl) vw_v E_nil))))) (O_cons 0 ⟨36, none, [(V4.row aI) a2]⟩ rfl (by kernel_rfl) rfl rfl (vs_cons (vwList_flat rfl) vs_nil) (O_cons 1 ⟨36, some 4, (x6.map (V4.row aI))⟩ rfl (by kernel_rfl) rfl rfl (vwSegs_map (fun _ => rfl) _) O_nil)) (by rw [hn0]; rfl)), by rw [← hfs7]; exact h⟩
        · have h := br_f hb h
          refine AWp.exit ?_
          refine thenX ?_
          refine thenX ?_
          refine blockH ?_
          refine thenN ?_
          refine AWp.seq ?_
          refine AWp.region ?_
          refine RW.step (d := ⟨some 38, aI s7.1, []⟩) (k := 0) rfl (dt hnt rfl rfl) (Stp.pure (G := sg) _ (by kernel_rfl)) ?_
          refine RW.step (d := ⟨some 6, aI s7.1, []⟩) (k := 0) rfl (dt hnt rfl rfl) (Stp.pure (G := sg) _ (by kernel_rfl)) ?_
          refine RW.step (d := ⟨some 7, aB true, []⟩) (k := 0) rfl (dt hnt rfl rfl) (Stp.pure (G := sg) _ (by kernel_rfl)) ?_
          refine RW.nil ?_
          refine thenN ?_
          refine AWp.ret ?_
          injection h with h
          subst h
          exact ⟨[aI s7.1, aB true], _, [], _, by kernel_rfl, RetV.flat (vw_tup (vl_cons vw_v (vl_cons vw_v vl_nil)))⟩

/-- loop.example/g01203/laws.FnExactCountBehind -/
def F5 (n : Nat) (a0 : (List (V4 Int))) (a1 : Int) (a2 : (V4 Int)) : Option (Bool) :=
  ob (F10 n a0 1048576) fun (x1 : (Int)) => br (decide (x1 < 0)) (some true) (ob (F12 n a0) fun (x2 : ((List (V4 Int)))) => ob (F21 n a2) fun (x3 : ((V4 Int))) => ob (F20 n x2 a1 x3) fun (x4 : (Int × Bool)) => ob (F12 n a0) fun (x5 : ((List (V4 Int)))) => ob (F21 n a2) fun (x6 : ((V4 Int))) => ob (F22 n x5 a1 x6) fun (x7 : (Int × Bool)) => ob (br (!decide (x7.1 = x4.1)) (some true) (some (!(x7.2 == x4.2)))) fun (x8 : Bool) => br (x8) (some false) (ob (F12 n a0) fun (x9 : ((List (V4 Int)))) => ob (F14 n x5 x9) fun (x10 : (Bool)) => br (!x10) (some false) (some true)))
theorem own5 : Own Try.prog 5 := ⟨_, Try.func5, rfl, by kernel_rfl⟩
theorem C5 {n : Nat} {a0 : (List (V4 Int))} {a1 : Int} {a2 : (V4 Int)} {r : Bool} (h : F5 n a0 a1 a2 = some r) : DCall Try.prog 5 [.ro (a0.map (V4.row aI)) false, aI a1, .agg [(V4.row aI) a2]] [] (aB r) [] := by
  refine ⟨own5, VCall.enter (G := sg) Try.func5 rfl (Nat.le_of_ble_eq_true rfl) (Nat.le_of_ble_eq_true rfl) fun B hnt hn0 => ?_⟩
  unfold F5 at h
  refine AWp.seq ?_
  refine AWp.region ?_
  refine RW.step (d := ⟨some 5, .ptr 0 0 0, [(0, some ⟨36, none, [(V4.row aI) a2]⟩)]⟩) (k := 1) rfl (dt hnt rfl rfl) (Stp.new (G := sg) (by kernel_rfl)) ?_
  refine RW.step (d := ⟨some 6, aB false, []⟩) (k := 0) rfl (dt hnt rfl rfl) (Stp.pure (G := sg) _ (by kernel_rfl)) ?_
  refine RW.nil ?_
  refine thenN ?_
  refine AWp.seq ?_
  refine AWp.region ?_
  refine RW.step (d := ⟨some 7, aI 1048576, []⟩) (k := 0) rfl (dt hnt rfl rfl) (Stp.pure (G := sg) _ (by kernel_rfl)) ?_
  refine RW.nil ?_
  refine thenN ?_
  refine AWp.seq ?_
  refine AWp.region ?_
  refine RW.step (d := ⟨some 13, .ro (a0.map (V4.row aI)) false, []⟩) (k := 0) rfl (dt hnt rfl rfl) (Stp.pure (G := sg) _ (by kernel_rfl)) ?_
  refine RW.step (d := ⟨some 14, aI 1048576, []⟩) (k := 0) rfl (dt hnt rfl rfl) (Stp.pure (G := sg) _ (by kernel_rfl)) ?_
  obtain ⟨x1, hx1, h⟩ := ob_inv h
  refine RW.step (d := ⟨some 15, aI x1, []⟩) (k := 0) rfl (dt hnt rfl rfl) (Stp.call0 _ rfl (k := 10) (caps := []) (by kernel_rfl) (C10 hx1) (vl_cons (vw_ro (fun h => h) (vwSegs_map (fun _ => rfl) _)) (vl_cons vw_v vl_nil)) vw_v) ?_
  refine RW.step (d := ⟨some 7, aI x1, []⟩) (k := 0) rfl (dt hnt rfl rfl) (Stp.pure (G := sg) _ (by kernel_rfl)) ?_
  refine RW.nil ?_
  refine thenN ?_
  refine AWp.seq ?_
  refine AWp.seq ?_
  refine AWp.region ?_
  refine RW.step (d := ⟨some 16, aI x1, []⟩) (k := 0) rfl (dt hnt rfl rfl) (Stp.pure (G := sg) _ (by kernel_rfl)) ?_
  refine RW.step (d := ⟨some 17, aB (decide (x1 < 0)), []⟩) (k := 0) rfl (dt hnt rfl rfl) (Stp.pure (G := sg) _ (by kernel_rfl)) ?_
  refine RW.nil ?_
  refine thenN ?_
  refine AWp.cond (t := decide (x1 < 0)) (by kernel_rfl) (fun hb => ?_) (fun hb => ?_)
  · have h := br_t hb h
    refine AWp.seq ?_
    refine AWp.region ?_
    refine RW.step (d := ⟨some 6, aB true, []⟩) (k := 0) rfl (dt hnt rfl rfl) (Stp.pure (G := sg) _ (by kernel_rfl)) ?_
    refine RW.nil ?_
    refine thenN ?_
    refine AWp.ret ?_
    refine thenR ?_
    injection h with h
    subst h
    exact ⟨[aB true], _, [], _, by kernel_rfl, RetV.flat vw_v⟩
  · have h := br_f hb h
    refine AWp.skip ?_
    refine thenN ?_
    refine AWp.seq ?_
    obtain ⟨x2, hx2, h⟩ := ob_inv h
    obtain ⟨x3, hx3, h⟩ := ob_inv h
    obtain ⟨x4, hx4, h⟩ := ob_inv h
    refine AWp.drw (G := sg) [⟨⟨some 19, .ro (a0.map (V4.row aI)) false, []⟩, 0⟩, ⟨⟨some 20, .sl 1 0 x2.length, [(1, some ⟨36, some 4, (x2.map (V4.row aI))⟩)]⟩, 1⟩, ⟨⟨some 21, aI a1, []⟩, 0⟩, ⟨⟨some 22, .agg [(V4.row aI) a2], []⟩, 0⟩, ⟨⟨some 23, .agg [(V4.row aI) x3], []⟩, 0⟩, ⟨⟨some 24, .tup [aI x4.1, aB x4.2], []⟩, 0⟩, ⟨⟨some 18, .tup [aI x4.1, aB x4.2], []⟩, 0⟩, ⟨⟨some 25, aI x4.1, []⟩, 0⟩, ⟨⟨some 26, aB x4.2, []⟩, 0⟩, ⟨⟨some 8, aI x4.1, []⟩, 0⟩, ⟨⟨some 9, aB x4.2, []⟩, 0⟩] (by kernel_rfl) (VCs.c (OpVC.p _ _ rfl rfl rfl (dt hnt rfl rfl) (Stp.pure (G := sg) _ (by kernel_rfl))) (VCs.c (OpVC.p _ _ rfl rfl rfl (dt hnt rfl rfl) (Stp.callN (n := 1) (us := [some ⟨36, some 4, (x2.map (V4.row aI))⟩]) rfl (k := 12) (caps := []) (by kernel_rfl) (C12 hx2) (vl_cons (vw_ro (fun h => h) (vwSegs_map (fun _ => rfl) _)) vl_nil) rfl (bk_cons rfl rfl (vwSegs_map (fun _ => rfl) _) bk_nil) (vw_slq rfl (by first | rfl | simp)))) (VCs.c (OpVC.p _ _ rfl rfl rfl (dt hnt rfl rfl) (Stp.pure (G := sg) _ (by kernel_rfl))) (VCs.c (OpVC.p _ _ rfl rfl rfl (dt hnt rfl rfl) (Stp.pure (G := sg) _ (by kernel_rfl))) (VCs.c (OpVC.p _ _ rfl rfl rfl (dt hnt rfl rfl) (Stp.call0 _ rfl (k := 21) (caps := []) (by kernel_rfl) (C21 hx3) (vl_cons (vw_agg (vs_cons (vwList_flat rfl) vs_nil)) vl_nil) (vw_agg (vs_cons (vwList_flat rfl) vs_nil)))) (VCs.c (OpVC.p _ _ rfl rfl rfl (dt hnt rfl rfl) (Stp.call0 _ rfl (k := 20) (caps := []) (by kernel_rfl) (C20 hx4) (vl_cons (vw_lendM (ty := 36) (k := 4) (l := x2) none_ne (by kernel_rfl) (by first | rfl | simp) (fun _ => rfl)) (vl_cons vw_v (vl_cons (vw_agg (vs_cons (vwList_flat rfl) vs_nil)) vl_nil))) (vw_tup (vl_cons vw_v (vl_cons vw_v vl_nil))))) (VCs.c (OpVC.p _ _ rfl rfl rfl (dt hnt rfl rfl) (Stp.pure (G := sg) _ (by kernel_rfl))) (VCs.c (OpVC.p _ _ rfl rfl rfl (dt hnt rfl rfl) (Stp.pure (G := sg) _ (by kernel_rfl))) (VCs.c (OpVC.p _ _ rfl rfl rfl (dt hnt rfl rfl) (Stp.pure (G := sg) _ (by kernel_rfl))) (VCs.c (OpVC.p _ _ rfl rfl rfl (dt hnt rfl rfl) (Stp.pure (G := sg) _ (by kernel_rfl))) (VCs.c (OpVC.p _ _ rfl rfl rfl (dt hnt rfl rfl) (Stp.pure (G := sg) _ (by kernel_rfl))) VCs.n))))))))))) ?_
    refine thenN ?_
    refine AWp.seq ?_
    refine AWp.region ?_
    refine RW.step (d := ⟨some 27, .ro (a0.map (V4.row aI)) false, []⟩) (k := 0) rfl (dt hnt rfl rfl) (Stp.pure (G := sg) _ (by kernel_rfl)) ?_
    obtain ⟨x5, hx5, h⟩ := ob_inv h
    refine RW.step (d := ⟨some 28, .sl 2 0 x5.length, [(2, some ⟨36, some 4, (x5.map (V4.row aI))⟩)]⟩) (k := 1) rfl (dt hnt rfl rfl) (Stp.callN (n := 1) (us := [some ⟨36, some 4, (x5.map (V4.row aI))⟩]) rfl (k := 12) (caps := []) (by kernel_rfl) (C12 hx5) (vl_cons (vw_ro (fun h => h) (vwSegs_map (fun _ => rfl) _)) vl_nil) rfl (bk_cons rfl rfl (vwSegs_map (fun _ => rfl) _) bk_nil) (vw_slq rfl (by first | rfl | simp))) ?_
    refine RW.step (d := ⟨some 10, .sl 2 0 x5.length, []⟩) (k := 0) rfl (dt hnt rfl rfl) (Stp.pure (G := sg) _ (by kernel_rfl)) ?_
    refine RW.nil ?_
    refine thenN ?_
    refine AWp.seq ?_
    refine AWp.region ?_
    refine RW.step (d := ⟨some 30, .sl 2 0 x5.length, []⟩) (k := 0) rfl (dt hnt rfl rfl) (Stp.pure (G := sg) _ (by kernel_rfl)) ?_
    refine RW.step (d := ⟨some 31, aI a1, []⟩) (k := 0) rfl (dt hnt rfl rfl) (Stp.pure (G := sg) _ (by kernel_rfl)) ?_
    refine RW.step (d := ⟨some 32, .agg [(V4.row aI) a2], []⟩) (k := 0) rfl (dt hnt rfl rfl) (Stp.pure (G := sg) _ (by kernel_rfl)) ?_
    obtain ⟨x6, hx6, h⟩ := ob_inv h
    refine RW.step (d := ⟨some 33, .agg [(V4.row aI) x6], []⟩) (k := 0) rfl (dt hnt rfl rfl) (Stp.call0 _ rfl (k := 21) (caps := []) (by kernel_rfl) (C21 hx6) (vl_cons (vw_agg (vs_cons (vwList_flat rfl) vs_nil)) vl_nil) (vw_agg (vs_cons (vwList_flat rfl) vs_nil))) ?_
    obtain ⟨x7, hx7, h⟩ := ob_inv h
    refine RW.step (d := ⟨some 34, .tup [aI x7.1, aB x7.2], []⟩) (k := 0) rfl (dt hnt rfl rfl) (Stp.call0 _ rfl (k := 22) (caps := []) (by kernel_rfl) (C22 hx7) (vl_cons (vw_lendM (ty := 36) (k := 4) (l := x5) none_ne (by kernel_rfl) (by first | rfl | simp) (fun _ => rfl)) (vl_cons vw_v (vl_cons (vw_agg (vs_cons (vwList_flat rfl) vs_nil)) vl_nil))) (vw_tup (vl_cons vw_v (vl_cons vw_v vl_nil)))) ?_
    refine RW.step (d := ⟨some 29, .tup [aI x7.1, aB x7.2], []⟩) (k := 0) rfl (dt hnt rfl rfl) (Stp.pure (G := sg) _ (by kernel_rfl)) ?_
    refine RW.step (d := ⟨some 35, aI x7.1, []⟩) (k := 0) rfl (dt hnt rfl rfl) (Stp.pure (G := sg) _ (by kernel_rfl)) ?_
    refine RW.step (d := ⟨some 36, aB x7.2, []⟩) (k := 0) rfl (dt hnt rfl rfl) (Stp.pure (G := sg) _ (by kernel_rfl)) ?_
    refine RW.step (d := ⟨some 11, aI x7.1, []⟩) (k := 0) rfl (dt hnt rfl rfl) (Stp.pure (G := sg) _ (by kernel_rfl)) ?_
    refine RW.step (d := ⟨some 12, aB x7.2, []⟩) (k := 0) rfl (dt hnt rfl rfl) (Stp.pure (G := sg) _ (by kernel_rfl)) ?_
    refine RW.nil ?_
    refine thenN ?_
    refine AWp.seq ?_
    refine AWp.seq ?_
    refine AWp.region ?_
    refine RW.step (d := ⟨some 37, aI x7.1, []⟩) (k := 0) rfl (dt hnt rfl rfl) (Stp.pure (G := sg) _ (by kernel_rfl)) ?_
    refine RW.step (d := ⟨some 38, aI x4.1, []⟩) (k := 0) rfl (dt hnt rfl rfl) (Stp.pure (G := sg) _ (by kernel_rfl)) ?_
    refine RW.step (d := ⟨some 39, aB (!decide (x7.1 = x4.1)), []⟩) (k := 0) rfl (dt hnt rfl rfl) (Stp.pure (G := sg) _ (by kernel_rfl)) ?_
    refine RW.step (d := ⟨some 40, aB (!decide (x7.1 = x4.1)), []⟩) (k := 0) rfl (dt hnt rfl rfl) (Stp.pure (G := sg) _ (by kernel_rfl)) ?_
    obtain ⟨x8, hx8, h⟩ := ob_inv h
    refine RW.mid 4 (fun st' => ∃ names, StV B.n0 st' (tabN names) ⟨tabE [(0, .ro (a0.map (V4.row aI)) false), (10, .sl 2 0 x5.length), (44, aB x8)], tabO [(2, ⟨36, some 4, (x5.map (V4.row aI))⟩)], 3⟩) ?_ ?_
    · rcases Bool.eq_false_or_eq_true (!decide (x7.1 = x4.1)) with hb1 | hb1
      · have hx8 := br_t hb1 hx8
        refine RW.gf rfl rfl (by rw [hnt]; rfl) (b := !decide (x7.1 = x4.1)) (by kernel_rfl) hb1 (dt hnt rfl rfl) ?_
        refine RW.gf rfl rfl (by rw [hnt]; rfl) (b := !decide (x7.1 = x4.1)) (by kernel_rfl) hb1 (dt hnt rfl rfl) ?_
        refine RW.gf rfl rfl (by rw [hnt]; rfl) (b := !decide (x7.1 = x4.1)) (by kernel_rfl) hb1 (dt hnt rfl rfl) ?_
        refine RW.step (d := ⟨some 44, aB true, []⟩) (k := 0) rfl (dt hnt rfl rfl) (Stp.pure (G := sg) _ (P_pick_t (t := !decide (x7.1 = x4.1)) (by kernel_rfl) hb1 (by kernel_rfl))) ?_
        injection hx8 with hx8
        subst hx8
        exact RW.nil (thenN ⟨[(2, 2)], (StV.tab (by rw [hn0]; rfl) (E_cons (a0 := .ro (a0.map (V4.row aI)) false) (by kernel_rfl) (vw_ro (fun h => h) (vwSegs_map (fun _ => rfl) _)) (E_cons (a0 := .sl 2 0 x5.length) (by kernel_rfl) (vw_slq rfl (by first | rfl | simp)) (E_cons (a0 := aB true) (by kernel_rfl) vw_v E_nil))) (O_cons 2 ⟨36, some 4, (x5.map (V4.row aI))⟩ rfl (by kernel_rfl) rfl rfl (vwSegs_map (fun _ => rfl) _) O_nil) (by rw [hn0]; rfl))⟩)
      · have hx8 := br_f hb1 hx8
        refine RW.gt (d := ⟨some 41, aB x7.2, []⟩) (k := 0) rfl rfl (by rw [hnt]; rfl) (b := !decide (x7.1 = x4.1)) (by kernel_rfl) hb1 (dt hnt rfl rfl) (Stp.pure (G := sg) _ (by kernel_rfl)) ?_
        refine RW.gt (d := ⟨some 42, aB x4.2, []⟩) (k := 0) rfl rfl (by rw [hnt]; rfl) (b := !decide (x7.1 = x4.1)) (by kernel_rfl) hb1 (dt hnt rfl rfl) (Stp.pure (G := sg) _ (by kernel_rfl)) ?_
        refine RW.gt (d := ⟨some 43, aB (!(x7.2 == x4.2)), []⟩) (k := 0) rfl rfl (by rw [hnt]; rfl) (b := !decide (x7.1 = x4.1)) (by kernel_rfl) hb1 (dt hnt rfl rfl) (Stp.pure (G := sg) _ (by kernel_rfl)) ?_
        refine RW.step (d := ⟨some 44, aB (!(x7.2 == x4.2)), []⟩) (k := 0) rfl (dt hnt rfl rfl) (Stp.pure (G := sg) _ (P_pick_f (t := !decide (x7.1 = x4.1)) (by kernel_rfl) hb1 (by kernel_rfl))) ?_
        injection hx8 with hx8
        subst hx8
        exact RW.nil (thenN ⟨[(2, 2)], (StV.tab (by rw [hn0]; rfl) (E_cons (a0 := .ro (a0.map (V4.row aI)) false) (by kernel_rfl) (vw_ro (fun h => h) (vwSegs_map (fun _ => rfl) _)) (E_cons (a0 := .sl 2 0 x5.length) (by kernel_rfl) (vw_slq rfl (by first | rfl | simp)) (E_cons (a0 := aB (!(x7.2 == x4.2))) (by kernel_rfl) vw_v E_nil))) (O_cons 2 ⟨36, some 4, (x5.map (V4.row aI))⟩ rfl (by kernel_rfl) rfl rfl (vwSegs_map (fun _ => rfl) _) O_nil) (by rw [hn0]; rfl))⟩)
    · rintro st2 ⟨names, hv⟩
      refine RW.weak _ hv ?_
      refine RW.nil ?_
      refine thenN ?_
      refine AWp.cond (t := x8) (by kernel_rfl) (fun hb => ?_) (fun hb => ?_)
      · have h := br_t hb h
        refine AWp.seq ?_
        refine AWp.region ?_
        refine RW.step (d := ⟨some 6, aB false, []⟩) (k := 0) rfl (dt hnt rfl rfl) (Stp.pure (G := sg) _ (by kernel_rfl)) ?_
        refine RW.nil ?_
        refine thenN ?_
        refine AWp.ret ?_
        refine thenR ?_
        injection h with h
        subst h
        exact ⟨[aB false], _, [], _, by kernel_rfl, RetV.flat vw_v⟩
      · have h := br_f hb h
        refine AWp.skip ?_
        refine thenN ?_
        refine AWp.seq ?_
        refine AWp.seq ?_
        refine AWp.region ?_
        refine RW.step (d := ⟨some 45, .sl 2 0 x5.length, []⟩) (k := 0) rfl (dt hnt rfl rfl) (Stp.pure (G := sg) _ (by kernel_rfl)) ?_
        refine RW.step (d := ⟨some 46, .ro (a0.map (V4.row aI)) false, []⟩) (k := 0) rfl (dt hnt rfl rfl) (Stp.pure (G := sg) _ (by kernel_rfl)) ?_
        obtain ⟨x9, hx9, h⟩ := ob_inv h
        refine RW.step (d := ⟨some 47, .sl 3 0 x9.length, [(3, some ⟨36, some 4, (x9.map (V4.row aI))⟩)]⟩) (k := 1) rfl (dt hnt rfl rfl) (Stp.callN (n := 1) (us := [some ⟨36, some 4, (x9.map (V4.row aI))⟩]) rfl (k := 12) (caps := []) (by kernel_rfl) (C12 hx9) (vl_cons (vw_ro (fun h => h) (vwSegs_map (fun _ => rfl) _)) vl_nil) rfl (bk_cons rfl rfl (vwSegs_map (fun _ => rfl) _) bk_nil) (vw_slq rfl (by first | rfl | simp))) ?_
        obtain ⟨x10, hx10, h⟩ := ob_inv h
        refine RW.step (d := ⟨some 48, aB x10, []⟩) (k := 0) rfl (dt hnt rfl rfl) (Stp.call0 _ rfl (k := 14) (caps := []) (by kernel_rfl) (C14 hx10) (vl_cons (vw_lendM (ty := 36) (k := 4) (l := x5) none_ne (by kernel_rfl) (by first | rfl | simp) (fun _ => rfl)) (vl_cons (vw_lendM (ty := 36) (k := 4) (l := x9) none_ne (by kernel_rfl) (by first | rfl | simp) (fun _ => rfl)) vl_nil)) vw_v) ?_
        refine RW.step (d := ⟨some 49, aB (!x10), []⟩) (k := 0) rfl (dt hnt rfl rfl) (Stp.pure (G := sg) _ (by kernel_rfl)) ?_
        refine RW.nil ?_
        refine thenN ?_
        refine AWp.cond (t := !x10) (by kernel_rfl) (fun hb => ?_) (fun hb => ?_)
        · have h := br_t hb h
          refine AWp.seq ?_
          refine AWp.region ?_
          refine RW.step (d := ⟨some 6, aB false, []⟩) (k := 0) rfl (dt hnt rfl rfl) (Stp.pure (G := sg) _ (by kernel_rfl)) ?_
          refine RW.nil ?_
          refine thenN ?_
          refine AWp.ret ?_
          refine thenR ?_
          injection h with h
          subst h
          exact ⟨[aB false], _, [], _, by kernel_rfl, RetV.flat vw_v⟩
        · have h := br_f hb h
          refine AWp.skip ?_
          refine thenN ?_
          refine AWp.seq ?_
          refine AWp.region ?_
          refine RW.step (d := ⟨some 6, aB true, []⟩) (k := 0) rfl (dt hnt rfl rfl) (Stp.pure (G := sg) _ (by kernel_rfl)) ?_
          refine RW.nil ?_
          refine thenN ?_
          refine AWp.ret ?_
          injection h with h
          subst h
          exact ⟨[aB true], _, [], _, by kernel_rfl, RetV.flat vw_v⟩
end Go.Proofs.Ytleaogcnndhdgaa
