/- Plain laws: R39. -/
import Derived.Test.YtfoielhhflbbfaaG9
set_option linter.unusedVariables false
set_option linter.unusedSimpArgs false
namespace Go.Pl
open Go Go.Tv Go.RowKit
set_option linter.unusedVariables false
set_option linter.unusedSimpArgs false
theorem claims_L1 {n : Nat} (hn : BIG ≤ n) {mm : Nat} (hm : mm + 100 < 4611686018427300000) : ∀ (k : Nat) (cnt : Int) (c : Cu) (out : List Claim) (g : Game) (m : Nat), CuOK m c → m + 50 * cnt.toNat ≤ mm → cnt ≤ 61 → out.length + cnt.toNat ≤ 61 → Len g 90 → cnt.toNat < k →
    ∃ c' L, fx (s_Cur_claims'pl_L1 n) k (cnt, c, out, g) = some (c', L) ∧ L.length ≤ 61
  | 0, _, _, _, _, _, _, _, _, _, _, h => by omega
  | k + 1, cnt, c, out, g, m, hc, hmm, h61, ho, hL, hk => by
    rw [fx_succ]
    simp only [s_Cur_claims'pl_L1, lt_eq]
    rw [br_dec]
    split
    · rw [br_dec]
      split
      · obtain ⟨q, c1, e1, k1, q0, q1⟩ := pick_ok n hc (by omega) (a := 2) (by omega)
        rw [e1, ob_some]
        simp only []
        rw [w64_id (by omega), ckb_pos (mkok_ok (by omega) (by omega) (by omega) (by omega))]
        exact ⟨_, _, rfl, by rw [List.length_replicate]; omega⟩
      · obtain ⟨t, c1, e1, k1⟩ := claim_ok hn hc (by omega) g hL.1
        rw [e1, ob_some]
        simp only []
        obtain ⟨b, g1, _, hb⟩ := isGame_eq hn g (by have := hL.1; omega) (by have := hL.2.1; omega) (by have := hL.2.2; omega)
        rw [g1, ob_some, w64_id (by omega), ckb_pos (apok_ok (by omega) (by omega))]
        have hl' : (out ++ [t]).length = out.length + 1 := by simp
        cases b with
        | false =>
          rw [br_false]
          exact claims_L1 hn hm k (cnt - 1) c1 (out ++ [t]) g _ k1 (by omega) (by omega) (by rw [hl']; omega) hL (by omega)
        | true =>
          obtain ⟨p, P, G⟩ := hb rfl
          rw [br_true, s_l8Made_eq hn P G t, ob_some, ckb_pos (apok_ok (by omega) (by omega))]
          have M := madeG_ok P.perm (n := n) G t
          have l1 := M.deal.len (pile_facts P.perm).1
          have l2 := M.n4
          have l3 := M.eq
          exact claims_L1 hn hm k (cnt - 1) c1 (out ++ [t]) (madeG p n g t).2 _ k1 (by omega) (by omega) (by rw [hl']; omega) ⟨by omega, by omega, by omega⟩ (by omega)
    · exact ⟨_, _, rfl, by omega⟩
theorem claims_ok {n : Nat} (hn : BIG ≤ n) {m : Nat} {c : Cu} (hc : CuOK m c) (hm : m + 4000 < 4611686018427300000) (g : Game) (hL : Len g 90) : ∃ c' L, s_Cur_claims'pl n g c = some (c', L) ∧ L.length ≤ 61 := by
  unfold s_Cur_claims'pl
  obtain ⟨q, c1, e1, k1, hq⟩ := among_ok n hc (by omega) (l := [3, 5, 8, 1, 0, 2, 61]) (by decide)
  rw [e1, ob_some]
  have hq2 : 0 ≤ q ∧ q ≤ 61 := by simp at hq; omega
  exact claims_L1 hn (mm := m + 3100) (by omega) n q c1 [] g _ k1 (by omega) (by omega) (by simp; omega) hL (big_gt hn (by omega))
theorem DrawRunClaims_ok {n : Nat} (hn : BIG ≤ n) {a : List Int} (ha : ByB a) : ∃ (g : Game) (L : List Claim), s_DrawRunClaims n a = some (g.1.1, g.1.2.1, g.1.2.2, g.2.1, g.2.2, L) ∧ Len g 90 ∧ L.length ≤ 61 := by
  unfold s_DrawRunClaims
  obtain ⟨s, l, c1, h, x, y, e1, h1, h2, h3, k1⟩ := game_ok hn (cu0 ha) (by omega)
  rw [lt_eq, e1, ob_some]
  have hL : Len ((s, (l, h)), (x, y)) 90 := ⟨by show h.length ≤ 90; omega, by show x.length ≤ 90; omega, by show y.length ≤ 90; omega⟩
  obtain ⟨c2, L, e2, hl⟩ := claims_ok hn k1 (by omega) ((s, (l, h)), (x, y)) hL
  simp only []
  rw [e2, ob_some]
  exact ⟨((s, (l, h)), (x, y)), L, rfl, hL, hl⟩
theorem DrawWorthClaims_ok {n : Nat} (hn : BIG ≤ n) {a : List Int} (ha : ByB a) : ∃ (g : Game) (k : Int) (L : List Claim), s_DrawWorthClaims n a = some (g.1.1, g.1.2.1, k, g.1.2.2, g.2.1, g.2.2, L) ∧ Len g 90 ∧ L.length ≤ 61 := by
  unfold s_DrawWorthClaims
  obtain ⟨p, c3, e3, k3, _⟩ := pick_ok n (cu0 ha) (by omega) (a := 4) (by omega)
  rw [lt_eq, e3, ob_some]
  obtain ⟨q, c4, e4, k4, _⟩ := pick_ok n k3 (by omega) (a := 24) (by omega)
  rw [e4, ob_some]
  simp only [lt_eq]
  obtain ⟨s, l, c1, h, x, y, e1, h1, h2, h3, k1⟩ := game_ok hn k4 (by omega)
  rw [e1, ob_some]
  have hL : Len ((s, (l, h)), (x, y)) 90 := ⟨by show h.length ≤ 90; omega, by show x.length ≤ 90; omega, by show y.length ≤ 90; omega⟩
  obtain ⟨c2, L, e2, hl⟩ := claims_ok hn k1 (by omega) ((s, (l, h)), (x, y)) hL
  simp only []
  rw [e2, ob_some]
  exact ⟨((s, (l, h)), (x, y)), _, L, rfl, hL, hl⟩
theorem DrawClaimKind_ok {n : Nat} (hn : BIG ≤ n) {a : List Int} (ha : ByB a) : ∃ (g : Game) (c : Claim), s_DrawClaimKind n a = some (g.1.1, g.1.2.1, c, g.1.2.2, g.2.1, g.2.2) ∧ Len g 90 := by
  unfold s_DrawClaimKind
  obtain ⟨s, l, c1, h, x, y, e1, h1, h2, h3, k1⟩ := game_ok hn (cu0 ha) (by omega)
  rw [lt_eq, e1, ob_some]
  have hL : Len ((s, (l, h)), (x, y)) 90 := ⟨by show h.length ≤ 90; omega, by show x.length ≤ 90; omega, by show y.length ≤ 90; omega⟩
  obtain ⟨t, c2, e2, _⟩ := claim_ok hn k1 (by omega) ((s, (l, h)), (x, y)) hL.1
  simp only []
  rw [e2, ob_some]
  exact ⟨((s, (l, h)), (x, y)), t, rfl, hL⟩
theorem DrawNewGame_ok {n : Nat} (hn : BIG ≤ n) {a : List Int} (ha : ByB a) : ∃ s k, s_DrawNewGame n a = some (s, k) := by
  unfold s_DrawNewGame
  obtain ⟨r, c1, e1, k1⟩ := seedOf_ok (n := n) (cu0 ha) (by omega)
  rw [lt_eq, e1, ob_some]
  obtain ⟨q, c2, e2, k2, _⟩ := among_ok n k1 (by omega) (l := [2, 1, 3, 4, 0, 5, (-1)]) (by decide)
  rw [e2, ob_some]
  exact ⟨_, _, rfl⟩
theorem l2Drop_at {n : Nat} {h : List Card} (hl : h.length ≤ 1000000) {k : Nat} (hk : k < h.length) : s_l2Drop n h (k : Int) = some (h.take k ++ h.drop (k + 1)) := by
  unfold s_l2Drop
  have e1 : sub h 0 (k : Int).toNat = h.take k := by unfold sub; simp
  have e2 : sub h ((k + 1 : Nat) : Int).toNat h.length = h.drop (k + 1) := by unfold sub; rw [toNat_cast, List.take_of_length_le (by rw [List.length_drop]; omega)]
  have l1 : (h.take k).length ≤ 1000000 := by rw [List.length_take]; omega
  have l2 : (h.drop (k + 1)).length ≤ 1000000 := by rw [List.length_drop]; omega
  rw [ckb_pos (slb_ok (by omega) (by omega) (by omega)), e1, s_l2Own_eq (by omega), ob_some, lt_eq, w64_succ (by omega), ckb_pos (slb_ok (by omega) (by omega) (by omega)), e2, ckb_pos (apok_ok (by omega) (by omega))]
def DMC (o : Opt (Int × Int × Claim × List Card × List Int × List Int)) : Prop := ∃ (g : Game) (c : Claim), o = some (g.1.1, g.1.2.1, c, g.1.2.2, g.2.1, g.2.2) ∧ Len g 90
theorem dmc_J1 {n : Nat} (hn : BIG ≤ n) {m : Nat} {c : Cu} (hc : CuOK m c) (hm : m + 100 < 4611686018427300000) (u v : Int) (w : Claim) (g : Game) (hL : Len g 90) : DMC (s_DrawMakeClaim_J1 n (u, v, w, c, g.1.1, g.1.2.1, g.1.2.2, g.2.1, g.2.2)) := by
  unfold s_DrawMakeClaim_J1
  obtain ⟨t, c2, e2, _⟩ := claim_ok hn hc (by omega) g hL.1
  have e2 : s_Cur_claim'pl n ((g.1.1, (g.1.2.1, g.1.2.2)), (g.2.1, g.2.2)) c = some (t, c2) := e2
  simp only []
  rw [e2, ob_some]
  exact ⟨g, t, rfl, hL⟩
theorem dmc_L2 {n : Nat} (hn : BIG ≤ n) {m : Nat} {c : Cu} (hc : CuOK m c) (hm : m + 100 < 4611686018427300000) (u v : Int) (w : Claim) (s l : Int) (x y : List Int) (hx : x.length ≤ 90) (hy : y.length ≤ 90) : ∀ (k : Nat) (h : List Card), AllC h → h.Nodup → h.length ≤ 81 → h.length < k →
    DMC (fx (s_DrawMakeClaim_L2 n) k (u, v, w, c, s, l, linesOf h, h, x, y))
  | 0, _, _, _, _, hk => by omega
  | k + 1, h, ha, hnd, h81, hk => by
    rw [fx_succ]
    simp only [s_DrawMakeClaim_L2]
    rw [br_dec]
    split
    · rename_i h0
      have h0 : 0 < (linesOf h).length := by omega
      have hm0 : gl (⟨0, 0, 0⟩ : V3 Int) (linesOf h) 0 ∈ linesOf h := by rw [gl_eq h0]; exact List.getElem_mem h0
      obtain ⟨i, j, q, e, LA⟩ := (mem_lines ⟨ha, hnd, by omega⟩).1 hm0
      have hq := LA.kl
      have hsl : (h.take q ++ h.drop (q + 1)).Sublist h := by
        conv => rhs; rw [← List.take_append_drop q h]
        refine List.Sublist.append (List.Sublist.refl _) ?_
        rw [drop_cons hq]
        exact List.sublist_cons_self _ _
      have hl2 : (h.take q ++ h.drop (q + 1)).length + 1 = h.length := by rw [List.length_append, List.length_take, List.length_drop]; omega
      have ha2 : AllC (h.take q ++ h.drop (q + 1)) := fun z hz => ha z (hsl.subset hz)
      have hi : inb 0 (linesOf h).length = true := inb_ok (i := 0) h0
      rw [ckb_pos hi, e]
      simp only []
      rw [l2Drop_at (by omega) hq, ob_some, s_l4Lines_eq hn (by omega) ha2, lns_eq (hnd.sublist hsl), ob_some]
      exact dmc_L2 hn hc hm u v w s l x y hx hy k _ ha2 (hnd.sublist hsl) (by omega) (by omega)
    · exact dmc_J1 hn hc hm u v w ((s, (l, h)), (x, y)) ⟨by show h.length ≤ 90; omega, hx, hy⟩
theorem DrawMakeClaim_ok {n : Nat} (hn : BIG ≤ n) {a : List Int} (ha : ByB a) : DMC (s_DrawMakeClaim n a) := by
  unfold s_DrawMakeClaim
  obtain ⟨s, l, c1, h, x, y, e1, h1, h2, h3, k1⟩ := game_ok hn (cu0 ha) (by omega)
  rw [lt_eq, e1, ob_some]
  obtain ⟨b, c2, e2, k2⟩ := one_ok n k1 (by omega) (a := 3) (by omega)
  rw [e2, ob_some]
  have hL : Len ((s, (l, h)), (x, y)) 90 := ⟨by show h.length ≤ 90; omega, by show x.length ≤ 90; omega, by show y.length ≤ 90; omega⟩
  obtain ⟨z, g1, _, hz⟩ := isDeal_eq hn (s, (l, h)) (by show h.length ≤ 2000000; omega)
  simp only []
  have J1 := dmc_J1 hn k2 (by omega) 0 0 (0, ⟨0, 0, 0⟩) ((s, (l, h)), (x, y)) hL
  cases b with
  | false => exact J1
  | true =>
    rw [br_true, g1]
    simp only [ob_some]
    cases z with
    | false => exact J1
    | true =>
      obtain ⟨p, _, _, pp, D⟩ := hz rfl
      have hc := D.isC pp
      have h81 := D.len (pile_facts pp).1
      have hnd := D.nodup
      rw [br_true, s_l4Lines_eq hn h81 hc, lns_eq hnd, ob_some]
      exact dmc_L2 hn k2 (by omega) 0 0 (0, ⟨0, 0, 0⟩) s l x y (by omega) (by omega) n h hc hnd h81 (big_gt hn (by simp only [] at h81; omega))
theorem ClaimKind_eq {n : Nat} (hn : BIG ≤ n) (g : Game) (c : Claim) (h : Len g 90) : ∃ r, i_ClaimKind n g c = some r ∧ s_ClaimKind n g c = some r ∧ (r.2 = true → 1 ≤ r.1 ∧ r.1 ≤ 3) := by
  obtain ⟨h1, h2, h3⟩ := h
  obtain ⟨b, e1, e2, hb⟩ := isGame_eq hn g (by omega) (by omega) (by omega)
  unfold i_ClaimKind s_ClaimKind
  rw [e1, e2, ob_some, ob_some]
  cases b with
  | false => exact ⟨_, rfl, rfl, fun h => by cases h⟩
  | true =>
    obtain ⟨p, P, G⟩ := hb rfl
    have hl := G.deal.len (pile_facts P.perm).1
    have hk := kind_cases g c
    rw [Bool.not_true, br_false, br_false, i_kind_eq hn c hl (by omega) (G.deal.isC P.perm), s_l8Kind_eq hn c hl (by omega) (G.deal.isC P.perm)]
    exact ⟨_, rfl, rfl, fun _ => by show 1 ≤ kindG g c ∧ kindG g c ≤ 3; omega⟩
theorem NewGame_eq {n : Nat} (hn : BIG ≤ n) (r k : Int) : ∃ (q : Game) (b : Bool), i_NewGame n r k = some (q.1.1, q.1.2.1, b, q.1.2.2, q.2.1, q.2.2) ∧ s_NewGame n r k = some (q.1.1, q.1.2.1, b, q.1.2.2, q.2.1, q.2.2) ∧ Len q 90 ∧ i_IsGame n q = some b := by
  unfold i_NewGame s_NewGame
  have bad : Len (((0 : Int), ((0 : Int), ([] : List Card))), (([] : List Int), ([] : List Int))) 90 ∧ i_IsGame n (((0 : Int), ((0 : Int), ([] : List Card))), (([] : List Int), ([] : List Int))) = some false := by
    refine ⟨⟨by decide, by decide, by decide⟩, ?_⟩
    obtain ⟨b, _, e2, hb⟩ := isGame_eq hn (((0 : Int), ((0 : Int), ([] : List Card))), (([] : List Int), ([] : List Int))) (by decide) (by decide) (by decide)
    rw [e2]
    cases b with
    | false => rfl
    | true =>
      obtain ⟨p, P, G⟩ := hb rfl
      have := G.n1
      simp at this
  by_cases hr : 0 ≤ r ∧ r ≤ 65535
  · obtain ⟨p, P, es, ei, e3, D⟩ := newDeal_ok hn hr
    rw [e3, es, ob_some, ob_some, i_within_eq, s_l1In_eq]
    by_cases hk : 1 ≤ k ∧ k ≤ 4
    · rw [decide_eq_true hk]
      simp only [Bool.not_true, br_false, ob_some]
      rw [ei, ob_some, ckb_pos (mkok_ok (by omega) (by omega) (by omega) (by omega)), ckb_pos (mkok_ok (by omega) (by omega) (by omega) (by omega))]
      have hz : ∀ x, x ∈ List.replicate k.toNat (0 : Int) → 0 ≤ x ∧ x ≤ 60 := fun x hx => by rw [List.eq_of_mem_replicate hx]; omega
      have hlr : (List.replicate k.toNat (0 : Int)).length = k.toNat := List.length_replicate
      have G : GameOK p ((r, (12, p.take 12)), (List.replicate k.toNat 0, List.replicate k.toNat 0)) := ⟨D, by show 1 ≤ (List.replicate k.toNat (0 : Int)).length; omega, by show (List.replicate k.toNat (0 : Int)).length ≤ 4; omega, rfl, hz, hz⟩
      refine ⟨((r, (12, p.take 12)), (List.replicate k.toNat 0, List.replicate k.toNat 0)), true, rfl, rfl, ⟨?_, ?_, ?_⟩, isGame_true hn P G⟩
      · show (p.take 12).length ≤ 90
        rw [List.length_take]; omega
      · show (List.replicate k.toNat (0 : Int)).length ≤ 90
        omega
      · show (List.replicate k.toNat (0 : Int)).length ≤ 90
        omega
    · rw [decide_eq_false hk]
      exact ⟨_, false, rfl, rfl, bad.1, bad.2⟩
  · obtain ⟨b1, b2⟩ := newDeal_no (n := n) hr
    rw [b1, b2]
    exact ⟨_, false, rfl, rfl, bad.1, bad.2⟩
theorem MC_ok {n : Nat} (hn : BIG ≤ n) {p : List Card} {g : Game} (c : Claim) (P : Piles n g.1.1 p) (G : GameOK p g) :
    i_MakeClaim n g c = some ((madeG p n g c).2.1.1, (madeG p n g c).2.1.2.1, (madeG p n g c).1, true, (madeG p n g c).2.1.2.2, (madeG p n g c).2.2.1, (madeG p n g c).2.2.2) := by
  obtain ⟨h1, h2, h3⟩ := G.lens (pile_facts P.perm).1
  unfold i_MakeClaim
  rw [isGame_true hn P G, ob_some, Bool.not_true, br_false, i_own_eq h1 h2 h3, ob_some, i_make_eq hn P G c, ob_some]; rfl
theorem cl_L1 {n : Nat} (hn : BIG ≤ n) {p : List Card} : ∀ (l done : List Claim) (g : Game) (v : V4 Int), Piles n g.1.1 p → GameOK p g → done.length + l.length ≤ 1000 → ∀ j, l.length < j →
    fx (v_FnClaims_L1 n) j ((done.length : Int), done ++ l, (lastG p n g l).1.1, (lastG p n g l).1.2.1, (kinds p n g l).foldl addK v, g.1.1, g.1.2.1, v, (lastG p n g l).1.2.2, (lastG p n g l).2.1, (lastG p n g l).2.2, g.1.2.2, g.2.1, g.2.2) = some true
  | [], done, g, v, hP, h, _, j + 1, _ => by
    rw [fx_succ]
    simp only [v_FnClaims_L1, List.append_nil, kinds, lastG, List.foldl_nil]
    have hs := v_rGame_self hn (h.lens (pile_facts hP.perm).1)
    have hs : v_rGame n ((g.1.1, (g.1.2.1, g.1.2.2)), (g.2.1, g.2.2)) ((g.1.1, (g.1.2.1, g.1.2.2)), (g.2.1, g.2.2)) = some true := hs
    rw [decide_eq_false (by omega), br_false, hs]
    simp [eqd]
  | c :: l, done, g, v, hP, h, hl, j + 1, hj => by
    simp only [List.length_cons] at hl hj
    have ih := cl_L1 hn l (done ++ [c]) (madeG p n g c).2 (addK v (madeG p n g c).1) (by rw [madeG_seed]; exact hP) (madeG_ok hP.perm h c) (by simp; omega) j (by omega)
    rw [fx_succ]
    generalize hgo : fx (v_FnClaims_L1 n) j = go at ih ⊢
    have hk := madeG_kind p n g c
    have hm := MC_ok hn c hP h
    have hm : i_MakeClaim n ((g.1.1, (g.1.2.1, g.1.2.2)), (g.2.1, g.2.2)) c = some ((madeG p n g c).2.1.1, (madeG p n g c).2.1.2.1, (madeG p n g c).1, true, (madeG p n g c).2.1.2.2, (madeG p n g c).2.2.1, (madeG p n g c).2.2.2) := hm
    unfold v_FnClaims_L1
    simp only [lt_eq]
    rw [decide_eq_true (show (done.length : Int) < ((done ++ c :: l).length : Int) by simp; omega), br_true, ckb_pos (inb_ok (by simp)), toNat_cast, gl_eq (by simp)]
    simp only [List.getElem_append_right (Nat.le_refl _), Nat.sub_self, List.getElem_cons_zero]
    rw [hm, ob_some]
    simp only [kinds, lastG, List.foldl_cons, Bool.not_true, br_false]
    rw [ckb_pos (inb_pos (by omega) (by omega)), ckb_pos (inb_pos (by omega) (by omega)), w64_succ (by omega)]
    simp only [List.append_assoc, List.singleton_append, List.length_append, List.length_singleton] at ih
    exact ih
theorem cl_J2 {n : Nat} (hn : BIG ≤ n) {g : Game} {l : List Claim} {r : RunR} (h : RunP n g l r) : v_FnClaims_J2 n (r.2.2.2.1, g.1.1, g.1.2.1, l, r.1, r.2.1, r.2.2.1, g.1.2.2, g.2.1, g.2.2, r.2.2.2.2.1, r.2.2.2.2.2.1, r.2.2.2.2.2.2) = some true := by
  unfold v_FnClaims_J2
  rcases h with rfl | ⟨p, P, G, h60, rfl⟩
  · rfl
  · have := cl_L1 hn l [] g ⟨0, 0, 0, 0⟩ P G (by simp; omega) n (big_gt hn (by omega))
    exact this
theorem bump {β : Type} (a b : Bool) {x : Int} (hx : 0 ≤ x ∧ x ≤ 60) (f : Int → Opt β) :
    (ob (br a (some b) (some false)) fun x63 => ob (br x63 (some (decide (x < 60))) (some false)) fun x64 => br x64 (Tv.lt (w64 (x + 1)) fun y => f y) (f x)) = f (if (a && b && decide (x < 60)) = true then x + 1 else x) := by
  rw [lt_eq, w64_id (by omega)]
  cases a <;> cases b <;> cases decide (x < 60) <;> rfl
theorem inc_gl {l : List Int} {i : Nat} (hb : ∀ x, x ∈ l → 0 ≤ x ∧ x ≤ 60) {j : Nat} (hj : j < l.length) : gl 0 (inc l i) j = if (decide (j = i) && decide (gl 0 l j < 60)) = true then gl 0 l j + 1 else gl 0 l j := by
  have hjb := hb _ (List.getElem_mem hj)
  have e : gl 0 l j = l[j] := gl_eq hj
  unfold inc
  have hs : j < (l.set i (if gl 0 l i + 1 < 60 then gl 0 l i + 1 else 60)).length := by rw [List.length_set]; exact hj
  rw [gl_eq hs, List.getElem_set]
  by_cases h : i = j
  · subst h
    rw [if_pos rfl, e]
    simp only [decide_true, Bool.true_and, decide_eq_true_eq]
    split <;> split <;> omega
  · rw [if_neg h, e, decide_eq_false (show ¬ j = i by omega)]
    simp
theorem made_sc {n : Nat} {p : List Card} {g : Game} (h : GameOK p g) (c : Claim) {j : Nat} (hj : j < g.2.1.length) : gl 0 (madeG p n g c).2.2.1 j = if (decide ((madeG p n g c).1 = 1) && decide ((j : Int) = c.1) && decide (gl 0 g.2.1 j < 60)) = true then gl 0 g.2.1 j + 1 else gl 0 g.2.1 j := by
  unfold madeG endG
  have hk := kind_player (g := withD g (layN p n g.1)) (c := c)
  split
  · rename_i h1
    have := hk (by omega)
    show gl 0 (inc g.2.1 c.1.toNat) j = _
    rw [inc_gl h.sc hj]
    have : decide ((j : Int) = c.1) = decide (j = c.1.toNat) := by congr 1; apply propext; omega
    rw [this]; simp
  · split
    · rfl
    · rfl
theorem made_mi {n : Nat} {p : List Card} {g : Game} (h : GameOK p g) (c : Claim) {j : Nat} (hj : j < g.2.1.length) : gl 0 (madeG p n g c).2.2.2 j = if (decide ((madeG p n g c).1 = 2) && decide ((j : Int) = c.1) && decide (gl 0 g.2.2 j < 60)) = true then gl 0 g.2.2 j + 1 else gl 0 g.2.2 j := by
  unfold madeG endG
  have hk := kind_player (g := withD g (layN p n g.1)) (c := c)
  split
  · rfl
  · split
    · rename_i h1
      have := hk (by omega)
      show gl 0 (inc g.2.2 c.1.toNat) j = _
      rw [inc_gl h.mi (by have := h.eq; omega)]
      have : decide ((j : Int) = c.1) = decide (j = c.1.toNat) := by congr 1; apply propext; omega
      rw [this]; simp
    · rfl
theorem made_len {n : Nat} {p : List Card} {g : Game} (c : Claim) : (madeG p n g c).2.2.1.length = g.2.1.length ∧ (madeG p n g c).2.2.2.length = g.2.2.length := by
  unfold madeG endG
  split
  · exact ⟨inc_len _ _, rfl⟩
  · split
    · exact ⟨rfl, inc_len _ _⟩
    · exact ⟨rfl, rfl⟩
theorem cl_L5 {n : Nat} (hn : BIG ≤ n) {p : List Card} {g : Game} (P : Piles n g.1.1 p) (G : GameOK p g) (c : Claim) {h : Game} {l : List Claim} {r : RunR} (hr : RunP n h l r) :
    fx (v_FnClaims_L5 n) n ((madeG p n g c).1, r.2.2.2.1, 0, g.1.1, g.1.2.1, c, (madeG p n g c).2.1.1, (madeG p n g c).2.1.2.1, h.1.1, h.1.2.1, l, r.1, r.2.1, r.2.2.1, g.1.2.2, g.2.1, g.2.2, (madeG p n g c).2.1.2.2, (madeG p n g c).2.2.1, (madeG p n g c).2.2.2, h.1.2.2, h.2.1, h.2.2, r.2.2.2.2.1, r.2.2.2.2.2.1, r.2.2.2.2.2.2) = some true := by
  have J2 := cl_J2 hn hr
  have n4 := G.n4
  have he := G.eq
  obtain ⟨l1, l2⟩ := made_len (n := n) (p := p) (g := g) c
  have hsc := fun j (hj : j < g.2.1.length) => made_sc (n := n) G c hj
  have hmi := fun j (hj : j < g.2.1.length) => made_mi (n := n) G c hj
  generalize madeG p n g c = Q at *
  have := fx_cnt (B := v_FnClaims_L5 n) g.2.1.length (fun i => (Q.1, r.2.2.2.1, (i : Int), g.1.1, g.1.2.1, c, Q.2.1.1, Q.2.1.2.1, h.1.1, h.1.2.1, l, r.1, r.2.1, r.2.2.1, g.1.2.2, g.2.1, g.2.2, Q.2.1.2.2, Q.2.2.1, Q.2.2.2, h.1.2.2, h.2.1, h.2.2, r.2.2.2.2.1, r.2.2.2.2.2.1, r.2.2.2.2.2.2)) (fun _ => True) (fun _ => some true) (fun self i hi _ ih => by
    simp only [v_FnClaims_L5]
    by_cases h1 : i < g.2.1.length
    · have ih := ih h1 trivial
      have b1 : 0 ≤ gl 0 g.2.1 i ∧ gl 0 g.2.1 i ≤ 60 := by rw [gl_eq h1]; exact G.sc _ (List.getElem_mem h1)
      have b2 : 0 ≤ gl 0 g.2.2 i ∧ gl 0 g.2.2 i ≤ 60 := by rw [gl_eq (by omega)]; exact G.mi _ (List.getElem_mem _)
      rw [br_pos (decide_eq_true (show (i : Int) < (g.2.1.length : Int) by omega)), ckb_pos (inb_ok h1), ckb_pos (inb_ok (by omega)), toNat_cast]
      refine (bump (decide (Q.1 = 1)) (decide ((i : Int) = c.1)) b1 fun y => v_FnClaims_J4 n self (Q.1, r.2.2.2.1, (i : Int), y, gl 0 g.2.2 i, g.1.1, g.1.2.1, c, Q.2.1.1, Q.2.1.2.1, h.1.1, h.1.2.1, l, r.1, r.2.1, r.2.2.1, g.1.2.2, g.2.1, g.2.2, Q.2.1.2.2, Q.2.2.1, Q.2.2.2, h.1.2.2, h.2.1, h.2.2, r.2.2.2.2.1, r.2.2.2.2.2.1, r.2.2.2.2.2.2)).trans ?_
      unfold v_FnClaims_J4
      simp only []
      refine (bump (decide (Q.1 = 2)) (decide ((i : Int) = c.1)) b2 fun y => v_FnClaims_J3 n self (Q.1, r.2.2.2.1, (i : Int), (if (decide (Q.1 = 1) && decide ((i : Int) = c.1) && decide (gl 0 g.2.1 i < 60)) = true then gl 0 g.2.1 i + 1 else gl 0 g.2.1 i), y, g.1.1, g.1.2.1, c, Q.2.1.1, Q.2.1.2.1, h.1.1, h.1.2.1, l, r.1, r.2.1, r.2.2.1, g.1.2.2, g.2.1, g.2.2, Q.2.1.2.2, Q.2.2.1, Q.2.2.2, h.1.2.2, h.2.1, h.2.2, r.2.2.2.2.1, r.2.2.2.2.2.1, r.2.2.2.2.2.2)).trans ?_
      unfold v_FnClaims_J3
      simp only []
      rw [← hsc i h1, ← hmi i h1, ckb_pos (inb_ok (by omega)), ckb_pos (inb_ok (by omega)), toNat_cast, decide_eq_true rfl, decide_eq_true rfl, lt_eq, w64_succ (by omega)]
      exact ih
    · have : i = g.2.1.length := by omega
      subst this
      rw [br_neg (decide_eq_false (by omega))]
      exact J2) n 0 (Nat.zero_le _) trivial (big_gt hn (by omega))
  exact this
theorem i_PileOf_eq {n : Nat} {p : List Card} {r : Int} (P : Piles n r p) (hr : 0 ≤ r ∧ r ≤ 65535) : i_PileOf n r = some (true, p) := by
  unfold i_PileOf i_isSeed
  rw [i_within_eq, decide_eq_true hr, P.ii]; rfl
theorem law_FnClaims {n : Nat} (hn : BIG ≤ n) (a : List Int) (ok : (Ty.sl (.int .u8)).ok a) : v_FnClaims n a = some true := by
  have hb : ByB a := ok_bytes' ok
  unfold v_FnClaims v_rBig
  rw [ob_some, br_dec]
  split
  · rfl
  obtain ⟨g, c, e1, gl⟩ := DrawMakeClaim_ok hn hb
  obtain ⟨f, d, e2, fl⟩ := DrawClaimKind_ok hn hb
  obtain ⟨h, L, e3, hl, hL⟩ := DrawRunClaims_ok hn hb
  obtain ⟨w, k, M, e4, wl, hM⟩ := DrawWorthClaims_ok hn hb
  obtain ⟨s, y, e5⟩ := DrawNewGame_ok hn hb
  have up : ∀ {g : Game}, Len g 90 → Len g 1048576 := fun h => ⟨by have := h.1; omega, by have := h.2.1; omega, by have := h.2.2; omega⟩
  obtain ⟨kd, b, q, m1, m2, m3, m4, m5⟩ := MC_eq hn g c (up gl)
  obtain ⟨u, k1, k2, k3⟩ := ClaimKind_eq hn f d fl
  obtain ⟨r, t, r1, r2, r3, r4, r5, r6⟩ := Run2 hn h L (up hl) (by omega)
  obtain ⟨v, v1, v2⟩ := WorthClaims_eq hn w M k (up wl) (by omega)
  obtain ⟨z, z0, z1, z2, z3, z4⟩ := NewGame_eq hn s y
  have m1 : s_MakeClaim n ((g.1.1, (g.1.2.1, g.1.2.2)), (g.2.1, g.2.2)) c = _ := m1
  have m2 : i_MakeClaim n ((g.1.1, (g.1.2.1, g.1.2.2)), (g.2.1, g.2.2)) c = _ := m2
  have k1 : i_ClaimKind n ((f.1.1, (f.1.2.1, f.1.2.2)), (f.2.1, f.2.2)) d = _ := k1
  have k2 : s_ClaimKind n ((f.1.1, (f.1.2.1, f.1.2.2)), (f.2.1, f.2.2)) d = _ := k2
  have r1 : s_RunClaims n ((h.1.1, (h.1.2.1, h.1.2.2)), (h.2.1, h.2.2)) L = _ := r1
  have r2 : i_RunClaims n ((h.1.1, (h.1.2.1, h.1.2.2)), (h.2.1, h.2.2)) L = _ := r2
  have r3 : s_FirstRight n ((h.1.1, (h.1.2.1, h.1.2.2)), (h.2.1, h.2.2)) L = _ := r3
  have r4 : i_FirstRight n ((h.1.1, (h.1.2.1, h.1.2.2)), (h.2.1, h.2.2)) L = _ := r4
  have v1 : s_WorthClaims n ((w.1.1, (w.1.2.1, w.1.2.2)), (w.2.1, w.2.2)) M k = _ := v1
  have v2 : i_WorthClaims n ((w.1.1, (w.1.2.1, w.1.2.2)), (w.2.1, w.2.2)) M k = _ := v2
  have g1 : v_rGame n ((q.1.1, (q.1.2.1, q.1.2.2)), (q.2.1, q.2.2)) ((q.1.1, (q.1.2.1, q.1.2.2)), (q.2.1, q.2.2)) = some true := v_rGame_self hn m3
  have g2 : v_rGame n ((r.1, (r.2.1, r.2.2.2.2.1)), (r.2.2.2.2.2.1, r.2.2.2.2.2.2)) ((r.1, (r.2.1, r.2.2.2.2.1)), (r.2.2.2.2.2.1, r.2.2.2.2.2.2)) = some true := v_rGame_self hn r5.len
  have g3 : v_rGame n ((z.1.1, (z.1.2.1, z.1.2.2)), (z.2.1, z.2.2)) ((z.1.1, (z.1.2.1, z.1.2.2)), (z.2.1, z.2.2)) = some true := v_rGame_self hn (up z3)
  have z4 : i_IsGame n ((z.1.1, (z.1.2.1, z.1.2.2)), (z.2.1, z.2.2)) = some z0 := z4
  have c1 : (ob (br u.2 (ob (br (decide (u.1 < 1)) (some true) (some (decide (3 < u.1)))) fun x13 => some x13) (some false)) fun x14 => some x14) = some false := by
    cases hu : u.2 with
    | false => rfl
    | true =>
      have := k3 hu
      rw [br_true, decide_eq_false (show ¬ u.1 < 1 by omega), br_false, decide_eq_false (show ¬ 3 < u.1 by omega)]; rfl
  have c2 : (ob (br r.2.2.2.1 (some (decide (0 < r.2.2.1.x1))) (some false)) fun x25 => some (!(t.2 == x25))) = some false := by
    rw [r6]
    cases r.2.2.2.1 <;> simp
  have J2 := cl_J2 hn r5
  rw [e1, ob_some]
  simp only []
  rw [m2, ob_some, m1, ob_some]
  simp only [decide_true, Bool.not_true, beq_self_eq_true, br_false, ob_some]
  rw [g1, ob_some, Bool.not_true, ob_some, br_false, e2, ob_some]
  simp only []
  rw [k1, ob_some, k2, ob_some]
  simp only [decide_true, Bool.not_true, beq_self_eq_true, br_false, ob_some]
  rw [c1, ob_some, br_false, e3, ob_some]
  simp only []
  rw [r2, ob_some, r1, ob_some]
  simp only [eqd, decide_true, Bool.not_true, beq_self_eq_true, br_false, ob_some]
  rw [g2, ob_some, Bool.not_true, ob_some, br_false, r4, ob_some, r3, ob_some]
  simp only [eqd, decide_true, Bool.not_true, beq_self_eq_true, br_false, ob_some]
  rw [c2, ob_some, br_false, e4, ob_some]
  simp only []
  rw [v2, ob_some, v1, ob_some]
  simp only [decide_true, Bool.not_true, beq_self_eq_true, br_false, ob_some]
  rw [e5, ob_some]
  simp only []
  rw [z1, ob_some, z2, ob_some]
  simp only [decide_true, Bool.not_true, beq_self_eq_true, br_false, ob_some]
  rw [g3, ob_some, Bool.not_true, ob_some, br_false, z4, ob_some]
  simp only [Bool.not_true, beq_self_eq_true, br_false, ob_some]
  cases b with
  | false => exact J2
  | true =>
    obtain ⟨p, P, G, rfl, rfl⟩ := m5 rfl
    have G' := madeG_ok P.perm (n := n) G c
    have P' : Piles n (madeG p n g c).2.1.1 p := by rw [madeG_seed]; exact P
    have ig := isGame_true hn P' G'
    have ig : i_IsGame n (((madeG p n g c).2.1.1, ((madeG p n g c).2.1.2.1, (madeG p n g c).2.1.2.2)), ((madeG p n g c).2.2.1, (madeG p n g c).2.2.2)) = some true := ig
    have L5 := cl_L5 hn P G c r5
    have s1 : v_rSum n ((madeG p n g c).2.1.1, ((madeG p n g c).2.1.2.1, (madeG p n g c).2.1.2.2)) p = some (TS p g.1) := by
      have := v_rSum_eq hn P.perm G'.deal
      rw [TS_made P.perm G c] at this
      exact this
    have s2 : v_rSum n (g.1.1, (g.1.2.1, g.1.2.2)) p = some (TS p g.1) := v_rSum_eq hn P.perm G.deal
    obtain ⟨l1, l2⟩ := made_len (n := n) (p := p) (g := g) c
    rw [br_true, ig, ob_some, Bool.not_true, br_false, l1, decide_eq_true rfl]
    simp only [Bool.not_true, br_false, ob_some]
    rw [i_PileOf_eq P G.deal.seed, ob_some]
    simp only [Bool.not_true, br_false]
    rw [s1, s2]
    simp only [eqd, ob_some, decide_true, Bool.not_true, br_false]
    exact L5
end Go.Pl
