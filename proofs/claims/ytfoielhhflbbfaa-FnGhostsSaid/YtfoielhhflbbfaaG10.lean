/- Plain laws: R33. -/
import Derived.Test.YtfoielhhflbbfaaG9
import Derived.Test.YtfoielhhflbbfaaG3
set_option linter.unusedVariables false
set_option linter.unusedSimpArgs false
namespace Go.Pl
open Go Go.Tv Go.RowKit
set_option linter.unusedVariables false
set_option linter.unusedSimpArgs false
theorem foldl_app {α β : Type} (g : α → List β) : ∀ (l : List α) (a : List β), l.foldl (fun a x => a ++ g x) a = a ++ l.flatMap g
  | [], a => by simp
  | x :: l, a => by rw [List.foldl_cons, foldl_app g l, List.flatMap_cons, List.append_assoc]
abbrev V6I := V6 Int
def v6 (J : List Nat) : V6I := ⟨gl 0 (iz J) 0, gl 0 (iz J) 1, gl 0 (iz J) 2, gl 0 (iz J) 3, gl 0 (iz J) 4, gl 0 (iz J) 5⟩
theorem v6_get (J : List Nat) {k : Nat} (hk : k < 6) : V6.get (v6 J) k = gl 0 (iz J) k := by
  rcases (show k = 0 ∨ k = 1 ∨ k = 2 ∨ k = 3 ∨ k = 4 ∨ k = 5 by omega) with rfl | rfl | rfl | rfl | rfl | rfl <;> rfl
def gV (h : List Card) (J : List Nat) : List V6I := if ghB (J.map (gz h)) = true then [v6 J] else []
def GL (h : List Card) : List V6I := (ch h.length 6 0 []).flatMap (gV h)
theorem gV_len (h : List Card) (J : List Nat) : (gV h J).length ≤ 1 := by unfold gV; split <;> simp
theorem glJ {J : List Nat} {N k : Nat} (P : Pk J N) (hk : k < J.length) : ∃ q : Nat, gl 0 (iz J) k = (q : Int) ∧ q < N ∧ gl 0 J k = q := by
  refine ⟨gl 0 J k, iz_gl hk, ?_, rfl⟩
  rw [gl_eq hk]
  exact P.lt _ (List.getElem_mem hk)
theorem i_at_eq {n : Nat} (hn : BIG ≤ n) {h : List Card} {J : List Nat} (P : Pk J h.length) (hl : h.length ≤ 1000) : i_at n h (iz J) = some (J.map (gz h)) := by
  have hJ := P.len
  unfold i_at
  have := fx_cnt (B := i_at_L1 n) J.length (fun k => (h, iz J, ((iz J).length : Int), (k : Int), (J.take k).map (gz h))) (fun _ => True) (fun _ => some (J.map (gz h))) (fun self k hk _ ih => by
    simp only [i_at_L1]
    rw [iz_len]
    by_cases h1 : k < J.length
    · obtain ⟨q, e1, e2, e3⟩ := glJ P h1
      have ih := ih h1 trivial
      rw [take_snoc h1, List.map_append] at ih
      have hq : J[k] = q := by rw [← e3, gl_eq h1]
      rw [hq, iz_len] at ih
      have hl2 : ((J.take k).map (gz h)).length = k := by rw [List.length_map, List.length_take]; omega
      rw [br_pos (decide_eq_true (show (k : Int) < (J.length : Int) by omega)), ckb_pos (inb_ok h1), toNat_cast, e1, ckb_pos (inb_ok e2), toNat_cast, ckb_pos (apok_ok (by omega) (by omega)), lt_eq, w64_succ (by omega)]
      exact ih
    · have : k = J.length := by omega
      subst this
      rw [br_neg (decide_eq_false (by omega)), List.take_length]) n 0 (Nat.zero_le _) trivial (big_gt hn (by omega))
  exact this
theorem six_pk {h : List Card} (hh : hand h = true) {J : List Nat} (P : Pk J h.length) (h6 : J.length = 6) : ∃ a b c d e f, J.map (gz h) = [a, b, c, d, e, f] ∧ Six a b c d e f ∧ sixB (J.map (gz h)) = true := by
  have H := pk_hand hh P
  obtain ⟨a, b, c, d, e, f, e1⟩ := six_of (h := J.map (gz h)) (by rw [List.length_map]; exact h6)
  refine ⟨a, b, c, d, e, f, e1, ⟨by rw [← e1]; exact hand_all H, by rw [← e1]; exact hand_nodup H⟩, ?_⟩
  unfold sixB
  rw [H, List.length_map, decide_eq_true h6]; rfl
theorem visitG {n : Nat} (hn : BIG ≤ n) {h : List Card} (hh : hand h = true) (J : List Nat) (out : List V6I) (P : Pk J h.length) (h6 : J.length = 6) (hM : out.length + (gV h J).length ≤ 1000000000) : i_GhostsIn_1'lpp_ko n (iz J) h out = some (h, out ++ gV h J) := by
  have h27 := hand_len hh
  obtain ⟨a, b, c, d, e, f, e1, S, _⟩ := six_pk hh P h6
  unfold i_GhostsIn_1'lpp_ko
  rw [i_at_eq hn P (by omega), ob_some, e1, i_isGhost_eq hn S, ob_some]
  unfold gV at hM ⊢
  rw [e1] at hM ⊢
  have e2 : ghB [a, b, c, d, e, f] = gh6 a b c d e f := rfl
  rw [e2] at hM ⊢
  cases hg : gh6 a b c d e f with
  | false => rw [br_false]; simp
  | true =>
    rw [hg, if_pos rfl, List.length_singleton] at hM
    rw [br_true, ckb_pos (slb_ok (by omega) (by omega) (by rw [iz_len]; omega)), ckb_pos (apok_ok (by omega) (by omega)), if_pos rfl]; rfl
theorem ch_flat_len {β : Type} {N m s : Nat} {I : List Nat} (V : List Nat → List β) (hV : ∀ J, (V J).length ≤ 1) (hN : N ^ m ≤ 100000000) : ((ch N m s I).flatMap V).length ≤ 100000000 := by
  have := flen (l := ch N m s I) (f := V) (M := 1) fun J _ => hV J
  have := ch_len N m s I
  omega
def GI (h : List Card) : Bool × List V6I := if hand h && decide (h.length ≤ 10) then (true, GL h) else (false, [])
theorem gi_cond (h : List Card) : (br (!hand h) (some true) (some (decide (10 < (h.length : Int))))) = some (!(hand h && decide (h.length ≤ 10))) := by
  have : decide (10 < (h.length : Int)) = !decide (h.length ≤ 10) := by rw [← decide_not]; congr 1; apply propext; omega
  rw [this]
  cases hand h <;> cases decide (h.length ≤ 10) <;> rfl
theorem pow10 {N m : Nat} (hN : N ≤ 10) (hm : m ≤ 6) : N ^ m ≤ 1000000 := Nat.le_trans (Nat.pow_le_pow_left hN m) (Nat.le_trans (Nat.pow_le_pow_right (by omega) hm) (by decide))
theorem i_GhostsIn_eq {n : Nat} (hn : BIG ≤ n) {h : List Card} (hl : h.length ≤ 1048576) : i_GhostsIn n h = some (GI h) := by
  unfold i_GhostsIn GI
  rw [i_IsHand_eq hn (by omega), ob_some, gi_cond, ob_some]
  cases hx : (hand h && decide (h.length ≤ 10)) with
  | false => rfl
  | true =>
    rw [Bool.and_eq_true, decide_eq_true_iff] at hx
    have hp := pow10 hx.2 (Nat.le_refl 6)
    have hG : (GL h).length ≤ 100000000 := ch_flat_len (gV h) (gV_len h) (by omega)
    have := chI_GhostsIn hn (h := h) (by omega) (gV h) 6 (by omega) (fun J out P h6 hM => visitG hn hx.1 J out P h6 hM) 6 n 0 [] [] (big_gt hn (by omega)) (pk_nil 0) (Nat.zero_le _) rfl (.inl ⟨rfl, rfl⟩) (by unfold GL at hG; simp only [List.length_nil]; omega)
    rw [Bool.not_true, br_false, if_pos rfl]
    unfold i_choices'l_i_GhostsIn_1pp_ko
    have e : fx (i_choices'l_i_GhostsIn_1pp_ko_R n) n ([], 6, (h.length : Int), h, []) = some (h, [] ++ GL h) := this
    rw [e]; rfl
def v6s (J : List Nat) : Nat → V6I
  | 0 => ⟨0, 0, 0, 0, 0, 0⟩
  | k + 1 => V6.set (v6s J k) k (gl 0 (iz J) k)
theorem gh_in {n : Nat} (hn : BIG ≤ n) {h : List Card} (hh : hand h = true) {all : List (List Int)} {i : Nat} (hi : i < all.length) (ha : all.length ≤ 1000000) {J : List Nat} (hJ : gl ([] : List Int) all i = iz J) (P : Pk J h.length) (h6 : J.length = 6) (out : List V6I) (ho : out.length ≤ 1000000) (go : List Card × Int × List V6I × List (List Int) → Opt (Bool × List V6I)) :
    fx (s_GhostsIn_L1 n go) n (h, (i : Int), 0, out, all, [], ⟨0, 0, 0, 0, 0, 0⟩) = go (h, ((i + 1 : Nat) : Int), out ++ gV h J, all) := by
  obtain ⟨a, b, c, d, e, f, e1, S, _⟩ := six_pk hh P h6
  have := fx_cnt (B := s_GhostsIn_L1 n go) 6 (fun k => (h, (i : Int), (k : Int), out, all, (J.take k).map (gz h), v6s J k)) (fun _ => True) (fun _ => go (h, ((i + 1 : Nat) : Int), out ++ gV h J, all)) (fun self k hk _ ih => by
    simp only [s_GhostsIn_L1, lt_eq]
    by_cases h1 : k < 6
    · obtain ⟨q, g1, g2, g3⟩ := glJ P (show k < J.length by omega)
      have ih := ih h1 trivial
      rw [take_snoc (show k < J.length by omega), List.map_append] at ih
      have hq : J[k]'(by omega) = q := by rw [← g3, gl_eq (by omega)]
      have hs6 : v6s J (k + 1) = V6.set (v6s J k) k (gl 0 (iz J) k) := rfl
      rw [hq, hs6, g1] at ih
      have hl2 : ((J.take k).map (gz h)).length = k := by rw [List.length_map, List.length_take]; omega
      have bk : inb (k : Int) (iz J).length = true := inb_ok (by rw [iz_len]; omega)
      rw [br_pos (decide_eq_true (show (k : Int) < 6 by omega)), ckb_pos (inb_ok hi), toNat_cast, hJ, ckb_pos bk, toNat_cast, g1, ckb_pos (inb_ok g2), toNat_cast, ckb_pos (apok_ok (by omega) (by omega)), ckb_pos (inb_ok hi), ckb_pos bk, ckb_pos (inb_ok h1), w64_succ (by omega)]
      exact ih
    · have : k = 6 := by omega
      subst this
      have hs6 : v6s J 6 = v6 J := rfl
      have ht : J.take 6 = J := List.take_of_length_le (by omega)
      rw [br_neg (decide_eq_false (by omega)), hs6, ht, e1, s_l10Thirds_eq hn S.al, ob_some, w64_succ (by omega), ckb_pos (apok_ok (by omega) (by omega))]
      unfold gV
      rw [e1]
      have e2 : ghB [a, b, c, d, e, f] = gh6 a b c d e f := rfl
      rw [e2]
      cases gh6 a b c d e f with
      | true => rfl
      | false => rw [br_false, if_neg (by decide), List.append_nil]) n 0 (Nat.zero_le _) trivial (big_gt hn (by omega))
  exact this
theorem s_GhostsIn_eq {n : Nat} (hn : BIG ≤ n) {h : List Card} (hl : h.length ≤ 1048576) : s_GhostsIn n h = some (GI h) := by
  unfold s_GhostsIn GI
  rw [s_l2Hand_eq hn (by omega), ob_some, gi_cond, ob_some]
  cases hx : (hand h && decide (h.length ≤ 10)) with
  | false => rfl
  | true =>
    rw [Bool.and_eq_true, decide_eq_true_iff] at hx
    have hp := pow10 hx.2 (Nat.le_refl 6)
    have hcl := ch_len h.length 6 0 []
    have hc : s_l10Choose n (h.length : Int) 0 6 [] = some ((ch h.length 6 0 []).map iz) := s_l10Choose_eq hn hx.2 6 n 0 [] (big_gt hn (by omega)) (Nat.le_refl _) (Nat.zero_le _) (by simp)
    have hpk : ∀ J ∈ ch h.length 6 0 [], Pk J h.length ∧ J.length = 6 := fun J hJ => by
      have := ch_pk (pk_nil 0) (Nat.zero_le _) J hJ
      simpa using this
    rw [Bool.not_true, br_false, if_pos rfl, hc, ob_some]
    unfold GL
    generalize ch h.length 6 0 [] = L at *
    have := fx_foldl (B := s_GhostsIn_L2 n) L (fun i o => (h, (i : Int), o, L.map iz)) (fun o J => o ++ gV h J) (fun o => some (true, o)) (fun i o => o.length ≤ i) (fun i o hi ho => by
      have := gV_len h L[i]
      rw [List.length_append]; omega) (fun self i o hi ho => by
      obtain ⟨P, h6⟩ := hpk _ (List.getElem_mem hi)
      simp only [s_GhostsIn_L2, lt_eq]
      rw [List.length_map, br_pos (decide_eq_true (show (i : Int) < (L.length : Int) by omega))]
      exact gh_in hn hx.1 (by rw [List.length_map]; exact hi) (by rw [List.length_map]; omega) (by rw [gl_eq (by rw [List.length_map]; exact hi), List.getElem_map]) P h6 o (by omega) self) (fun self o _ => by
      simp only [s_GhostsIn_L2]
      rw [List.length_map, br_neg (decide_eq_false (by omega))]) n (big_gt hn (by omega)) [] (Nat.le_refl _)
    rw [foldl_app, List.nil_append] at this
    exact this
theorem good_eq {n : Nat} (hn : BIG ≤ n) {a b c : Card} (ka : isC a = true) (kb : isC b = true) (kc : isC c = true) : s_l10Good n a b c = some (4 - dif (third a b) c) := by
  have ka := isC_iff.1 ka
  have kb := isC_iff.1 kb
  have kc := isC_iff.1 kc
  have st : ∀ (m : Nat) (k i : Int) (x y z : Int), 0 ≤ i → i < 4 → 0 ≤ k ∧ k ≤ 10 → V4.get a i.toNat = x → V4.get b i.toNat = y → V4.get c i.toNat = z → (0 ≤ x ∧ x ≤ 2) → (0 ≤ y ∧ y ≤ 2) → (0 ≤ z ∧ z ≤ 2) →
      s_l10Good_L1 n (fx (s_l10Good_L1 n) m) (k, i, a, b, c) = fx (s_l10Good_L1 n) m (k + (1 - d1 (t3 x y) z), i + 1, a, b, c) := fun m k i x y z h0 h4 hk hx hy hz bx bY bz => by
    simp only [s_l10Good_L1, lt_eq]
    have b4 : inb i 4 = true := inb_pos h0 h4
    have e : decide (Int.tmod (x + y + z) 3 = 0) = decide (t3 x y = z) := by
      unfold t3
      rw [Int.tmod_eq_emod_of_nonneg (by omega), Int.tmod_eq_emod_of_nonneg (by omega)]
      congr 1; apply propext; omega
    rw [br_pos (decide_eq_true h4), ckb_pos b4, ckb_pos b4, ckb_pos b4, hx, hy, hz, w64_id (x := x + y) (by omega), w64_id (x := x + y + z) (by omega), e, w64_id (x := k + 1) (by omega), w64_id (x := i + 1) (by omega), br_dec]
    unfold d1
    split
    · rfl
    · congr 2; omega
  obtain ⟨q, hq⟩ : ∃ q, n = q + 5 := ⟨n - 5, by unfold BIG at hn; omega⟩
  unfold s_l10Good dif third
  have b0 := d1_bd (t3 a.x0 b.x0) c.x0
  have b1 := d1_bd (t3 a.x1 b.x1) c.x1
  have b2 := d1_bd (t3 a.x2 b.x2) c.x2
  conv => lhs; arg 2; rw [hq]
  rw [fx_succ, st _ 0 0 a.x0 b.x0 c.x0 (by omega) (by omega) (by omega) rfl rfl rfl ka.1 kb.1 kc.1, fx_succ, st _ _ (0 + 1) a.x1 b.x1 c.x1 (by omega) (by omega) (by omega) rfl rfl rfl ka.2.1 kb.2.1 kc.2.1, fx_succ, st _ _ (0 + 1 + 1) a.x2 b.x2 c.x2 (by omega) (by omega) (by omega) rfl rfl rfl ka.2.2.1 kb.2.2.1 kc.2.2.1, fx_succ, st _ _ (0 + 1 + 1 + 1) a.x3 b.x3 c.x3 (by omega) (by omega) (by omega) rfl rfl rfl ka.2.2.2 kb.2.2.2 kc.2.2.2, fx_succ]
  simp only [s_l10Good_L1]
  rw [br_neg (show decide ((0 : Int) + 1 + 1 + 1 + 1 < 4) = false by decide)]
  congr 1
  omega
def nearB (h : List Card) (i j k : Nat) : Bool := decide (dif (third (gz h i) (gz h j)) (gz h k) = 1)
def n1 (h : List Card) (i j k : Nat) : List (V3 Int) := if nearB h i j k = true then [⟨(i : Int), (j : Int), (k : Int)⟩] else []
def nV (h : List Card) (J : List Nat) : List (V3 Int) := n1 h (gl 0 J 0) (gl 0 J 1) (gl 0 J 2)
theorem n1_len (h : List Card) (i j k : Nat) : (n1 h i j k).length ≤ 1 := by unfold n1; split <;> simp
def NLs (h : List Card) : List (V3 Int) := (ch h.length 3 0 []).flatMap (nV h)
def NL3 (h : List Card) : List (V3 Int) := (List.range' 0 (h.length - 0)).flatMap fun i => (List.range' (i + 1) (h.length - (i + 1))).flatMap fun j => (List.range' (j + 1) (h.length - (j + 1))).flatMap fun k => n1 h i j k
theorem NL_eq (h : List Card) : NLs h = NL3 h := by
  unfold NLs NL3
  simp only [ch, List.flatMap_assoc]
  refine flatMap_congr' fun i _ => flatMap_congr' fun j _ => flatMap_congr' fun k _ => ?_
  rw [List.flatMap_cons, List.flatMap_nil, List.append_nil]
  rfl
theorem visitN {n : Nat} (hn : BIG ≤ n) {h : List Card} (hh : hand h = true) (J : List Nat) (out : List (V3 Int)) (P : Pk J h.length) (h3 : J.length = 3) (hM : out.length + (nV h J).length ≤ 1000000000) : i_NearLines_1'lpp_ko n (iz J) h out = some (h, out ++ nV h J) := by
  have hc : AllC h := hand_all hh
  obtain ⟨a, a1, a2, a3⟩ := glJ P (k := 0) (by omega)
  obtain ⟨b, b1, b2, b3⟩ := glJ P (k := 1) (by omega)
  obtain ⟨c, c1, c2, c3⟩ := glJ P (k := 2) (by omega)
  have i0 : inb 0 (iz J).length = true := inb_ok (i := 0) (by rw [iz_len]; omega)
  have i1 : inb 1 (iz J).length = true := inb_ok (i := 1) (by rw [iz_len]; omega)
  have i2 : inb 2 (iz J).length = true := inb_ok (i := 2) (by rw [iz_len]; omega)
  unfold i_NearLines_1'lpp_ko
  rw [ckb_pos i0, a1, ckb_pos (inb_ok a2), ckb_pos i1, b1, ckb_pos (inb_ok b2), toNat_cast, toNat_cast, i_third_eq hn (gl_C hc a2) (gl_C hc b2), ob_some, ckb_pos i2, c1, ckb_pos (inb_ok c2), toNat_cast, i_differ_eq hn, ob_some]
  unfold nV n1 at hM ⊢
  rw [a3, b3, c3] at hM ⊢
  have e : decide (dif (third (gl (⟨0, 0, 0, 0⟩ : Card) h a) (gl (⟨0, 0, 0, 0⟩ : Card) h b)) (gl (⟨0, 0, 0, 0⟩ : Card) h c) = 1) = nearB h a b c := rfl
  rw [e]
  cases hg : nearB h a b c with
  | false => rw [br_false]; simp
  | true =>
    rw [hg, if_pos rfl, List.length_singleton] at hM
    rw [br_true, ckb_pos (slb_ok (by omega) (by omega) (by rw [iz_len]; omega)), ckb_pos (apok_ok (by omega) (by omega)), if_pos rfl]
def NLr (h : List Card) : Bool × List (V3 Int) := if hand h then (true, NLs h) else (false, [])
theorem NLs_len {h : List Card} (h27 : h.length ≤ 27) : (NLs h).length ≤ 19683 := by
  have := flen (l := ch h.length 3 0 []) (f := nV h) (M := 1) fun J _ => n1_len h _ _ _
  have := ch_len h.length 3 0 []
  have : h.length ^ 3 ≤ 27 ^ 3 := Nat.pow_le_pow_left h27 3
  unfold NLs; omega
theorem i_NearLines_eq {n : Nat} (hn : BIG ≤ n) {h : List Card} (hl : h.length ≤ 1048576) : i_NearLines n h = some (NLr h) := by
  unfold i_NearLines NLr
  rw [i_IsHand_eq hn (by omega), ob_some]
  cases hh : hand h with
  | false => rfl
  | true =>
    have h27 := hand_len hh
    have hG := NLs_len h27
    have := chI_NearLines hn (h := h) (by omega) (nV h) 3 (by omega) (fun J out P h6 hM => visitN hn hh J out P h6 hM) 3 n 0 [] [] (big_gt hn (by omega)) (pk_nil 0) (Nat.zero_le _) rfl (.inl ⟨rfl, rfl⟩) (by unfold NLs at hG; simp only [List.length_nil]; omega)
    rw [Bool.not_true, br_false, if_pos rfl]
    unfold i_choices'l_i_NearLines_1pp_ko
    have e : fx (i_choices'l_i_NearLines_1pp_ko_R n) n ([], 3, (h.length : Int), h, []) = some (h, [] ++ NLs h) := this
    rw [e]; rfl
theorem s_NearLines_eq {n : Nat} (hn : BIG ≤ n) {h : List Card} (hl : h.length ≤ 1048576) : s_NearLines n h = some (NLr h) := by
  unfold s_NearLines NLr
  rw [s_l2Hand_eq hn (by omega), ob_some]
  cases hh : hand h with
  | false => rfl
  | true =>
    have h27 := hand_len hh
    have hc : AllC h := hand_all hh
    have hG := NLs_len h27
    rw [NL_eq] at hG ⊢
    rw [Bool.not_true, br_false, if_pos rfl]
    have e : ∀ i : Nat, i < h.length → decide ((i : Int) < (h.length : Int)) = true := fun i h => decide_eq_true (by omega)
    have e' : decide ((h.length : Int) < (h.length : Int)) = false := decide_eq_false (by omega)
    have := fx_app (B := s_NearLines_L3 n) h.length (fun i a => (h, (i : Int), a)) (fun i => (List.range' (i + 1) (h.length - (i + 1))).flatMap fun j => (List.range' (j + 1) (h.length - (j + 1))).flatMap fun k => n1 h i j k) (fun a => some (true, a)) 1000000 (fun self i a hi hM => ?_) (fun self a => by simp only [s_NearLines_L3, e', br_false]) n 0 [] (Nat.zero_le _) (big_gt hn (by omega)) (by unfold NL3 at hG; simp only [List.length_nil]; omega)
    · rw [List.nil_append] at this
      exact this
    · simp only [s_NearLines_L3, e i hi, br_true, lt_eq]
      rw [w64_succ (by omega)]
      refine fx_app (B := s_NearLines_L2 n self) h.length (fun j a => (h, (i : Int), (j : Int), a)) (fun j => (List.range' (j + 1) (h.length - (j + 1))).flatMap fun k => n1 h i j k) (fun a => self (h, ((i + 1 : Nat) : Int), a)) 1000000 (fun self2 j a hj hM2 => ?_) (fun self2 a => by
        simp only [s_NearLines_L2, e', br_false, lt_eq]; rw [w64_succ (by omega)]) n (i + 1) a (by omega) (big_gt hn (by omega)) hM
      simp only [s_NearLines_L2, e j hj, br_true, lt_eq]
      rw [w64_succ (by omega)]
      refine fx_app (B := s_NearLines_L1 n self2) h.length (fun k a => (h, (i : Int), (j : Int), (k : Int), a)) (fun k => n1 h i j k) (fun a => self2 (h, (i : Int), ((j + 1 : Nat) : Int), a)) 1000000 (fun self3 k a hk hM3 => ?_) (fun self3 a => by
        simp only [s_NearLines_L1, e', br_false, lt_eq]; rw [w64_succ (by omega)]) n (j + 1) a (by omega) (big_gt hn (by omega)) hM2
      simp only [s_NearLines_L1, e k hk, br_true, inb_ok hi, inb_ok hj, inb_ok hk, ckb_true, toNat_cast, lt_eq]
      rw [good_eq hn (gl_C hc hi) (gl_C hc hj) (gl_C hc hk), ob_some, w64_succ (by omega)]
      have eg : decide (4 - dif (third (gl (⟨0, 0, 0, 0⟩ : Card) h i) (gl (⟨0, 0, 0, 0⟩ : Card) h j)) (gl (⟨0, 0, 0, 0⟩ : Card) h k) = 3) = nearB h i j k := by
        unfold nearB gz
        congr 1; apply propext; omega
      rw [eg]
      unfold n1 at hM3 ⊢
      cases hb : nearB h i j k with
      | false => simp
      | true =>
        rw [hb, if_pos rfl, List.length_singleton] at hM3
        rw [br_true, ckb_pos (apok_ok (by omega) (by omega)), if_pos rfl]
def kd (h : List Card) (l : V3 Int) : Int := dif (gl (⟨0, 0, 0, 0⟩ : Card) h l.x0.toNat) (gl (⟨0, 0, 0, 0⟩ : Card) h l.x1.toNat)
structure LnF (h : List Card) (l : V3 Int) : Prop where
  a0 : inb l.x0 h.length = true
  a1 : inb l.x1 h.length = true
  k : 1 ≤ kd h l ∧ kd h l ≤ 4
theorem lnF {h : List Card} (hh : hand h = true) {l : V3 Int} (hl : l ∈ linesOf h) : LnF h l := by
  have H := HandL.of hh
  obtain ⟨i, j, k, rfl, LA⟩ := (mem_lines H).1 hl
  have a := LA.ij
  have b := LA.jk
  have c := LA.kl
  refine ⟨inb_ok (by omega), inb_ok (by omega), ?_⟩
  unfold kd
  simp only [toNat_cast]
  have hne := H.ne (show i < h.length by omega) (show j < h.length by omega) (by omega)
  generalize gl (⟨0, 0, 0, 0⟩ : Card) h i = x at *
  generalize gl (⟨0, 0, 0, 0⟩ : Card) h j = y at *
  have h1 := dif_pos x y
  rw [decide_eq_false hne] at h1
  have h1 := of_decide_eq_true h1
  have b0 := d1_bd x.x0 y.x0
  have b1 := d1_bd x.x1 y.x1
  have b2 := d1_bd x.x2 y.x2
  have b3 := d1_bd x.x3 y.x3
  refine ⟨by omega, ?_⟩
  unfold dif; omega
def kc (h : List Card) (v : Nat) (L : List (V3 Int)) : Nat := L.countP fun l => decide (kd h l = (v : Int))
def kV (h : List Card) (L : List (V3 Int)) : V5 Int := ⟨(kc h 0 L : Int), (kc h 1 L : Int), (kc h 2 L : Int), (kc h 3 L : Int), (kc h 4 L : Int)⟩
theorem kc_snoc (h : List Card) (v : Nat) (L : List (V3 Int)) (l : V3 Int) : kc h v (L ++ [l]) = kc h v L + if kd h l = (v : Int) then 1 else 0 := by
  unfold kc
  rw [List.countP_append, List.countP_singleton]
  simp
theorem kV_step {h : List Card} {L : List (V3 Int)} {l : V3 Int} (hk : 1 ≤ kd h l ∧ kd h l ≤ 4) (hl : L.length ≤ 100000) : V5.set (kV h L) (kd h l).toNat (w64 (V5.get (kV h L) (kd h l).toNat + 1)) = kV h (L ++ [l]) := by
  have e := fun v => kc_snoc h v L l
  have c : ∀ v, kc h v L ≤ L.length := fun v => List.countP_le_length
  have c1 := c 1
  have c2 := c 2
  have c3 := c 3
  have c4 := c 4
  unfold kV
  rw [e 0, e 1, e 2, e 3, e 4]
  rcases (show kd h l = 1 ∨ kd h l = 2 ∨ kd h l = 3 ∨ kd h l = 4 by omega) with hx | hx | hx | hx <;> rw [hx]
  · simp only [show (1 : Int).toNat = 1 from rfl, V5.get, V5.set]
    rw [w64_succ (by omega)]; simp
  · simp only [show (2 : Int).toNat = 2 from rfl, V5.get, V5.set]
    rw [w64_succ (by omega)]; simp
  · simp only [show (3 : Int).toNat = 3 from rfl, V5.get, V5.set]
    rw [w64_succ (by omega)]; simp
  · simp only [show (4 : Int).toNat = 4 from rfl, V5.get, V5.set]
    rw [w64_succ (by omega)]; simp
def CK (h : List Card) : V5 Int × Bool := if hand h then (kV h (linesOf h), true) else (⟨0, 0, 0, 0, 0⟩, false)
theorem CountKinds_eq {n : Nat} (hn : BIG ≤ n) {h : List Card} (hl : h.length ≤ 1048576) : i_CountKinds n h = some (CK h) ∧ s_CountKinds n h = some (CK h) := by
  unfold i_CountKinds s_CountKinds CK
  rw [lt_eq, lt_eq, i_IsHand_eq hn (by omega), s_l2Hand_eq hn (by omega), ob_some, ob_some]
  cases hh : hand h with
  | false => exact ⟨rfl, rfl⟩
  | true =>
    have h27 := hand_len hh
    have h729 := lines_len27 hh
    have hf := fun l (hl : l ∈ linesOf h) => lnF hh hl
    rw [Bool.not_true, br_false, br_false, if_pos rfl, i_linesIn_eq hn (by omega) (hand_all hh) (hand_nodup hh), s_l2Lines_eq hn (by omega) (hand_all hh), ob_some, ob_some]
    generalize linesOf h = L at *
    constructor
    · have := fx_cnt (B := i_CountKinds_L1 n) L.length (fun k => (h, (L.length : Int), (k : Int), (⟨0, 0, 0, 0, 0⟩ : V5 Int), kV h (L.take k), L)) (fun _ => True) (fun _ => some (kV h L, true)) (fun self k hk _ ih => by
        simp only [i_CountKinds_L1]
        by_cases h1 : k < L.length
        · have ih := ih h1 trivial
          obtain ⟨f0, f1, fk⟩ := hf _ (List.getElem_mem h1)
          have g : gl (⟨0, 0, 0⟩ : V3 Int) L k = L[k] := gl_eq h1
          have b5 : inb (kd h L[k]) 5 = true := inb_pos (by omega) (by omega)
          have stp := kV_step (L := L.take k) fk (by rw [List.length_take]; omega)
          rw [← take_snoc h1] at stp
          have ed : i_differ n (gl (⟨0, 0, 0, 0⟩ : Card) h L[k].x0.toNat) (gl (⟨0, 0, 0, 0⟩ : Card) h L[k].x1.toNat) = some (kd h L[k]) := i_differ_eq hn _ _
          rw [br_pos (decide_eq_true (show (k : Int) < (L.length : Int) by omega)), ckb_pos (inb_ok h1), toNat_cast, g, ckb_pos f0, ckb_pos f1, ed, ob_some, ckb_pos b5, lt_eq, ckb_pos b5, lt_eq, lt_eq, stp, w64_succ (by omega)]
          exact ih
        · have : k = L.length := by omega
          subst this
          rw [br_neg (decide_eq_false (by omega)), List.take_length]) n 0 (Nat.zero_le _) trivial (big_gt hn (by omega))
      exact this
    · have := fx_cnt (B := s_CountKinds_L1 n) L.length (fun k => (h, (k : Int), (⟨0, 0, 0, 0, 0⟩ : V5 Int), kV h (L.take k), L)) (fun _ => True) (fun _ => some (kV h L, true)) (fun self k hk _ ih => by
        simp only [s_CountKinds_L1]
        by_cases h1 : k < L.length
        · have ih := ih h1 trivial
          obtain ⟨f0, f1, fk⟩ := hf _ (List.getElem_mem h1)
          have g : gl (⟨0, 0, 0⟩ : V3 Int) L k = L[k] := gl_eq h1
          have b5 : inb (kd h L[k]) 5 = true := inb_pos (by omega) (by omega)
          have stp := kV_step (L := L.take k) fk (by rw [List.length_take]; omega)
          rw [← take_snoc h1] at stp
          have ed : s_l2Differ n (gl (⟨0, 0, 0, 0⟩ : Card) h L[k].x0.toNat) (gl (⟨0, 0, 0, 0⟩ : Card) h L[k].x1.toNat) = some (kd h L[k]) := s_l2Differ_eq hn _ _
          rw [br_pos (decide_eq_true (show (k : Int) < (L.length : Int) by omega)), ckb_pos (inb_ok h1), toNat_cast, g, ckb_pos f0, ckb_pos (inb_ok h1), ckb_pos f1, ed, ob_some, ckb_pos b5, lt_eq, ckb_pos b5, lt_eq, lt_eq, stp, w64_succ (by omega)]
          exact ih
        · have : k = L.length := by omega
          subst this
          rw [br_neg (decide_eq_false (by omega)), List.take_length]) n 0 (Nat.zero_le _) trivial (big_gt hn (by omega))
      exact this
def LKf (h : List Card) (k : Int) (l : V3 Int) : Bool := decide (kd h l = k)
def LKn (h : List Card) (k : Int) : Bool × List (V3 Int) := if hand h && decide (1 ≤ k ∧ k ≤ 4) then (true, (linesOf h).filter (LKf h k)) else (false, [])
theorem fold_filter3 (p : V3 Int → Bool) : ∀ (l a : List (V3 Int)), l.foldl (fun a w => if p w = true then a ++ [w] else a) a = a ++ l.filter p
  | [], a => by simp
  | w :: l, a => by
    rw [List.foldl_cons, fold_filter3 p l, List.filter_cons]
    split <;> simp
theorem LinesOfKind_eq {n : Nat} (hn : BIG ≤ n) {h : List Card} (hl : h.length ≤ 1048576) (q : Int) : i_LinesOfKind n h q = some (LKn h q) ∧ s_LinesOfKind n h q = some (LKn h q) := by
  unfold i_LinesOfKind s_LinesOfKind LKn
  rw [i_IsHand_eq hn (by omega), s_l2Hand_eq hn (by omega), ob_some, ob_some, i_within_eq, s_l1In_eq]
  cases hh : hand h with
  | false => exact ⟨rfl, rfl⟩
  | true =>
    cases hq : decide (1 ≤ q ∧ q ≤ 4) with
    | false => exact ⟨rfl, rfl⟩
    | true =>
      have h27 := hand_len hh
      have h729 := lines_len27 hh
      have hf := fun l (hl : l ∈ linesOf h) => lnF hh hl
      simp only [Bool.not_true, br_false, ob_some, Bool.and_self, if_true]
      rw [i_linesIn_eq hn (by omega) (hand_all hh) (hand_nodup hh), s_l2Lines_eq hn (by omega) (hand_all hh), ob_some, ob_some]
      generalize linesOf h = L at *
      have hI : ∀ i (a : List (V3 Int)) (hi : i < L.length), a.length ≤ i → (if LKf h q L[i] = true then a ++ [L[i]] else a).length ≤ i + 1 := fun i a hi ha => by
        split
        · rw [List.length_append, List.length_singleton]; omega
        · omega
      constructor
      · have := fx_foldl (B := i_LinesOfKind_L1 n) L (fun k a => (h, q, (L.length : Int), (k : Int), a, L)) (fun a w => if LKf h q w = true then a ++ [w] else a) (fun a => some (true, a)) (fun i a => a.length ≤ i) hI (fun self k a h1 ha => by
          obtain ⟨f0, f1, fk⟩ := hf _ (List.getElem_mem h1)
          have g : gl (⟨0, 0, 0⟩ : V3 Int) L k = L[k] := gl_eq h1
          have ed : i_differ n (gl (⟨0, 0, 0, 0⟩ : Card) h L[k].x0.toNat) (gl (⟨0, 0, 0, 0⟩ : Card) h L[k].x1.toNat) = some (kd h L[k]) := i_differ_eq hn _ _
          have ek : decide (kd h L[k] = q) = LKf h q L[k] := rfl
          simp only [i_LinesOfKind_L1, lt_eq]
          rw [br_pos (decide_eq_true (show (k : Int) < (L.length : Int) by omega)), ckb_pos (inb_ok h1), toNat_cast, g, ckb_pos f0, ckb_pos f1, ed, ob_some, ek, ckb_pos (apok_ok (by omega) (by omega)), w64_succ (by omega)]
          cases LKf h q L[k] <;> rfl) (fun self a _ => by
          simp only [i_LinesOfKind_L1]
          rw [br_neg (decide_eq_false (by omega))]) n (big_gt hn (by omega)) [] (Nat.le_refl _)
        rw [fold_filter3, List.nil_append] at this
        exact this
      · have := fx_foldl (B := s_LinesOfKind_L1 n) L (fun k a => (h, q, (k : Int), a, L)) (fun a w => if LKf h q w = true then a ++ [w] else a) (fun a => some (true, a)) (fun i a => a.length ≤ i) hI (fun self k a h1 ha => by
          obtain ⟨f0, f1, fk⟩ := hf _ (List.getElem_mem h1)
          have g : gl (⟨0, 0, 0⟩ : V3 Int) L k = L[k] := gl_eq h1
          have ed : s_l2Differ n (gl (⟨0, 0, 0, 0⟩ : Card) h L[k].x0.toNat) (gl (⟨0, 0, 0, 0⟩ : Card) h L[k].x1.toNat) = some (kd h L[k]) := s_l2Differ_eq hn _ _
          have ek : decide (kd h L[k] = q) = LKf h q L[k] := rfl
          simp only [s_LinesOfKind_L1, lt_eq]
          rw [br_pos (decide_eq_true (show (k : Int) < (L.length : Int) by omega)), ckb_pos (inb_ok h1), toNat_cast, g, ckb_pos f0, ckb_pos (inb_ok h1), ckb_pos f1, ed, ob_some, ek, ckb_pos (inb_ok h1), ckb_pos (apok_ok (by omega) (by omega)), w64_succ (by omega)]
          cases LKf h q L[k] <;> rfl) (fun self a _ => by
          simp only [s_LinesOfKind_L1]
          rw [br_neg (decide_eq_false (by omega))]) n (big_gt hn (by omega)) [] (Nat.le_refl _)
        rw [fold_filter3, List.nil_append] at this
        exact this
theorem AllOfKind_eq (n : Nat) (d : Int) : ∃ r, i_AllOfKind n d = some r ∧ s_AllOfKind n d = some r := by
  unfold i_AllOfKind s_AllOfKind
  rw [i_within_eq, s_l1In_eq, ob_some, ob_some]
  by_cases h : 1 ≤ d ∧ d ≤ 4
  · rw [decide_eq_true h]
    rcases (show d = 1 ∨ d = 2 ∨ d = 3 ∨ d = 4 by omega) with rfl | rfl | rfl | rfl <;> exact ⟨_, rfl, rfl⟩
  · rw [decide_eq_false h]; exact ⟨_, rfl, rfl⟩
theorem ghost_L1 {n : Nat} (hn : BIG ≤ n) {mm : Nat} (hm : mm + 100 < 4611686018427300000) : ∀ (k : Nat) (cnt : Int) (c : Cu) (h : List Card) (m : Nat), CuOK m c → m + 2 * cnt.toNat ≤ mm → AllC h → h.length + cnt.toNat ≤ 20 → cnt.toNat < k →
    ∃ c' h', fx (s_Cur_ghost'p_L1 n) k (cnt, c, h) = some (c', h') ∧ h'.length ≤ 20 ∧ AllC h' ∧ CuOK (mm + 10) c'
  | 0, _, _, _, _, _, _, _, _, hk => by omega
  | k + 1, cnt, c, h, m, hc, hmm, ha, hl, hk => by
    rw [fx_succ]
    simp only [s_Cur_ghost'p_L1, lt_eq]
    rw [br_dec]
    split
    · obtain ⟨q, c1, e1, k1, q0, q1⟩ := pick_ok n hc (by omega) (a := 81) (by omega)
      have kx := cardAt_isC (r := q) (by omega)
      have il := ins_len (c := cardAt q) (l := h)
      rw [e1, ob_some, s_l2At_eq n (by omega), ob_some, s_l2Put_eq hn ha (by omega) kx, ob_some, w64_id (by omega)]
      exact ghost_L1 hn hm k (cnt - 1) c1 _ _ k1 (by omega) (ins_allC kx ha) (by omega) (by omega)
    · exact ⟨_, _, rfl, by omega, ha, hc.mono (by omega)⟩
theorem ghost_ok {n : Nat} (hn : BIG ≤ n) {m : Nat} {c : Cu} (hc : CuOK m c) (hm : m + 200 < 4611686018427300000) {g : Int} (hg : 0 ≤ g ∧ g ≤ 5) : ∃ c' h', s_Cur_ghost'p n g c = some (c', h') ∧ h'.length ≤ 20 ∧ AllC h' ∧ CuOK (m + 60) c' := by
  unfold s_Cur_ghost'p
  obtain ⟨q, c1, e1, k1, q0, q1⟩ := pick_ok n hc (by omega) (a := 81) (by omega)
  obtain ⟨r, c2, e2, k2, r0, r1⟩ := pick_ok n k1 (by omega) (a := 81) (by omega)
  have kq := cardAt_isC (r := q) (by omega)
  have kr := cardAt_isC (r := r) (by omega)
  have kt := third_isC kq kr
  rw [e1, ob_some, s_l2At_eq n (by omega), ob_some, e2, ob_some, s_l2At_eq n (by omega), ob_some, s_l2Third_eq hn kq kr, ob_some, lt_eq]
  have hv : ∀ i : Nat, i < 3 → isC (V3.get (⟨cardAt q, cardAt r, third (cardAt q) (cardAt r)⟩ : V3 Card) i) = true := fun i hi => by
    rcases (show i = 0 ∨ i = 1 ∨ i = 2 by omega) with rfl | rfl | rfl
    · exact kq
    · exact kr
    · exact kt
  generalize (⟨cardAt q, cardAt r, third (cardAt q) (cardAt r)⟩ : V3 Card) = v at hv
  have go : ∀ (k i : Nat) (c : Cu) (h : List Card) (mi : Nat), CuOK mi c → mi + 2 * (3 - i) ≤ m + 20 → AllC h → h.length + 2 * (3 - i) ≤ 6 → i ≤ 3 → 3 - i < k → ∃ c' h', fx (s_Cur_ghost'p_L2 n) k (g, (i : Int), c, h, v) = some (c', h') ∧ h'.length ≤ 20 ∧ AllC h' ∧ CuOK (m + 60) c' := by
    intro k
    induction k with
    | zero => intro i c h mi _ _ _ _ _ hk; omega
    | succ k ih =>
      intro i c h mi hc hmi ha hl hi hk
      rw [fx_succ]
      simp only [s_Cur_ghost'p_L2, lt_eq]
      by_cases h1 : i < 3
      · obtain ⟨x, c1, e1, k1, x0, x1⟩ := pick_ok n hc (by omega) (a := 81) (by omega)
        have kx := cardAt_isC (r := x) (by omega)
        have ka := ins_allC kx ha
        have l1 := ins_len (c := cardAt x) (l := h)
        have kt := third_isC kx (hv i h1)
        have l2 := ins_len (c := third (cardAt x) (V3.get v i)) (l := ins (cardAt x) h)
        rw [br_pos (decide_eq_true (show (i : Int) < 3 by omega)), e1, ob_some, s_l2At_eq n (by omega), ob_some, s_l2Put_eq hn ha (by omega) kx, ob_some, ckb_pos (inb_ok h1), toNat_cast, s_l2Third_eq hn kx (hv i h1), ob_some, s_l2Put_eq hn ka (by omega) kt, ob_some, w64_succ (by omega)]
        exact ih (i + 1) c1 _ _ k1 (by omega) (ins_allC kt ka) (by omega) (by omega) (by omega)
      · rw [br_neg (decide_eq_false (by omega))]
        obtain ⟨c', h', e, h1, h2, h3⟩ := ghost_L1 hn (mm := m + 40) (by omega) n g c h mi hc (by omega) ha (by omega) (big_gt hn (by omega))
        exact ⟨c', h', e, h1, h2, h3.mono (by omega)⟩
  exact go n 0 c2 [] _ k2 (by omega) (fun x hx => by cases hx) (by simp) (by omega) (big_gt hn (by omega))
theorem DrawIsGhost_ok {n : Nat} (hn : BIG ≤ n) {a : List Int} (ha : ByB a) : ∃ h, s_DrawIsGhost n a = some h ∧ h.length ≤ 29 := by
  unfold s_DrawIsGhost
  obtain ⟨c1, h, e1, hl, hA, k1⟩ := ghost_ok hn (cu0 ha) (by omega) (g := 0) (by omega)
  obtain ⟨b, c2, e2, k2⟩ := one_ok n k1 (by omega) (a := 3) (by omega)
  rw [lt_eq, e1, ob_some, e2, ob_some]
  have J : ∀ (b : Bool) (c : Cu) (m : Nat), CuOK m c → m ≤ 1000 → (b = true → h.length = 6) → ∃ h', s_DrawIsGhost_J1 n (b, c, h) = some h' ∧ h'.length ≤ 29 := fun b c m hc hm hb => by
    unfold s_DrawIsGhost_J1
    simp only []
    cases b with
    | false => exact ⟨h, rfl, by omega⟩
    | true =>
      have h6 := hb rfl
      obtain ⟨q, c3, e3, k3, q0, q1⟩ := pick_ok n hc (by omega) (a := 6) (by omega)
      obtain ⟨r, c4, e4, k4, r0, r1⟩ := pick_ok n k3 (by omega) (a := 81) (by omega)
      obtain ⟨p, rfl⟩ : ∃ p : Nat, q = p := ⟨q.toNat, by omega⟩
      have kr := cardAt_isC (r := r) (by omega)
      have hd : (h.take p ++ h.drop (p + 1)).length ≤ 20 := by rw [List.length_append, List.length_take, List.length_drop]; omega
      have hdA : AllC (h.take p ++ h.drop (p + 1)) := fun x hx => by
        rcases List.mem_append.1 hx with hx | hx
        · exact hA x (List.mem_of_mem_take hx)
        · exact hA x (List.mem_of_mem_drop hx)
      have il := ins_len (c := cardAt r) (l := h.take p ++ h.drop (p + 1))
      rw [br_true, e3, ob_some, dropA (by omega) (show p < h.length by omega), ob_some, e4, ob_some, s_l2At_eq n (by omega), ob_some, s_l2Put_eq hn hdA (by omega) kr, ob_some]
      exact ⟨_, rfl, by omega⟩
  cases b with
  | true =>
    obtain ⟨c3, h', e3, hl', _⟩ := hand_ok hn k2 (by omega)
    rw [br_true, e3, ob_some]
    exact ⟨h', rfl, hl'⟩
  | false =>
    simp only [br_false]
    rw [br_dec]
    split
    · obtain ⟨b, c3, e3, k3⟩ := one_ok n k2 (by omega) (a := 3) (by omega)
      rw [e3, ob_some]
      exact J _ _ _ k3 (by omega) (fun _ => by omega)
    · exact J _ _ _ k2 (by omega) (fun h => by cases h)
theorem DrawGhostsIn_ok {n : Nat} (hn : BIG ≤ n) {a : List Int} (ha : ByB a) : ∃ h, s_DrawGhostsIn n a = some h ∧ h.length ≤ 29 := by
  unfold s_DrawGhostsIn
  obtain ⟨q, c1, e1, k1, hq⟩ := among_ok n (cu0 ha) (by omega) (l := [1, 2, 0, 3, 4, 5]) (by decide)
  obtain ⟨b, c2, e2, k2⟩ := one_ok n k1 (by omega) (a := 4) (by omega)
  rw [lt_eq, e1, ob_some, e2, ob_some]
  cases b with
  | true =>
    obtain ⟨c3, h', e3, hl', _⟩ := hand_ok hn k2 (by omega)
    rw [br_true, e3, ob_some]
    exact ⟨h', rfl, hl'⟩
  | false =>
    obtain ⟨c3, h', e3, hl', _⟩ := ghost_ok hn k2 (by omega) (g := q) (by simp at hq; omega)
    rw [br_false, e3, ob_some]
    exact ⟨h', rfl, by omega⟩
theorem DrawLinesOfKind_ok {n : Nat} (hn : BIG ≤ n) {a : List Int} (ha : ByB a) : ∃ k h, s_DrawLinesOfKind n a = some (k, h) ∧ h.length ≤ 29 := by
  unfold s_DrawLinesOfKind
  obtain ⟨p, c1, e1, k1, _⟩ := pick_ok n (cu0 ha) (by omega) (a := 4) (by omega)
  rw [lt_eq, e1, ob_some]
  simp only [lt_eq]
  obtain ⟨q, c2, e2, k2, _⟩ := pick_ok n k1 (by omega) (a := 24) (by omega)
  rw [e2, ob_some]
  obtain ⟨r, c3, e3, k3, _⟩ := pick_ok n k2 (by omega) (a := 24) (by omega)
  rw [e3, ob_some]
  obtain ⟨c4, h, e4, hl, _⟩ := someHand_ok hn k3 (by omega)
  rw [e4, ob_some]
  exact ⟨_, h, rfl, hl⟩
theorem DrawAllOfKind_ok {n : Nat} {a : List Int} (ha : ByB a) : ∃ d, s_DrawAllOfKind n a = some d := by
  unfold s_DrawAllOfKind
  obtain ⟨y, c2, e2, _⟩ := pick_ok n (cu0 ha) (by omega) (a := 7) (by omega)
  rw [lt_eq, e2, ob_some]
  exact ⟨_, rfl⟩
theorem near_mem {h : List Card} (hh : hand h = true) {t : V3 Int} (ht : t ∈ NLs h) : ∃ i j k : Nat, t = ⟨(i : Int), (j : Int), (k : Int)⟩ ∧ i < h.length ∧ j < h.length ∧ k < h.length ∧ nearB h i j k = true := by
  unfold NLs at ht
  rw [List.mem_flatMap] at ht
  obtain ⟨J, hJ, ht⟩ := ht
  obtain ⟨P, h3⟩ := ch_pk (pk_nil 0) (Nat.zero_le _) J hJ
  rw [List.length_nil, Nat.zero_add] at h3
  unfold nV n1 at ht
  obtain ⟨a, _, a2, a3⟩ := glJ P (k := 0) (by omega)
  obtain ⟨b, _, b2, b3⟩ := glJ P (k := 1) (by omega)
  obtain ⟨c, _, c2, c3⟩ := glJ P (k := 2) (by omega)
  rw [a3, b3, c3] at ht
  split at ht
  · rename_i hb
    rw [List.mem_singleton] at ht
    exact ⟨a, b, c, ht, a2, b2, c2, hb⟩
  · cases ht
theorem gh_J3 {n : Nat} (hn : BIG ≤ n) {h : List Card} (hl : h.length ≤ 29) : v_FnGhosts_J3 n (h, (NLr h).2) = some true := by
  unfold v_FnGhosts_J3 NLr
  cases hh : hand h with
  | false =>
    rw [if_neg (by decide)]
    simp only []
    obtain ⟨q, rfl⟩ : ∃ q, n = q + 1 := ⟨n - 1, by unfold BIG at hn; omega⟩
    rfl
  | true =>
    have h27 := hand_len hh
    have hc : AllC h := hand_all hh
    have hG := NLs_len h27
    have hm := fun t (ht : t ∈ NLs h) => near_mem hh ht
    rw [if_pos rfl]
    simp only []
    generalize NLs h = L at *
    have := fx_cnt (B := v_FnGhosts_L2 n) L.length (fun i => ((i : Int), h, L)) (fun _ => True) (fun _ => some true) (fun self i hi _ ih => by
      simp only [v_FnGhosts_L2]
      by_cases h1 : i < L.length
      · obtain ⟨p, q, r, e, p1, q1, r1, hb⟩ := hm _ (List.getElem_mem h1)
        have g : gl (⟨0, 0, 0⟩ : V3 Int) L i = ⟨(p : Int), (q : Int), (r : Int)⟩ := by rw [gl_eq h1, e]
        have kp := gl_C hc p1
        have kq := gl_C hc q1
        have kr := gl_C hc r1
        have e3 : I3 (gl (⟨0, 0, 0, 0⟩ : Card) h p) (gl (⟨0, 0, 0, 0⟩ : Card) h q) (gl (⟨0, 0, 0, 0⟩ : Card) h r) = (false, true) := by
          unfold I3 lineB
          rw [kp, kq, kr]
          have hne : ¬ third (gl (⟨0, 0, 0, 0⟩ : Card) h p) (gl (⟨0, 0, 0, 0⟩ : Card) h q) = gl (⟨0, 0, 0, 0⟩ : Card) h r := fun he => by
            have hb : dif (third (gl (⟨0, 0, 0, 0⟩ : Card) h p) (gl (⟨0, 0, 0, 0⟩ : Card) h q)) (gl (⟨0, 0, 0, 0⟩ : Card) h r) = 1 := of_decide_eq_true hb
            rw [he] at hb
            have := dif_pos (gl (⟨0, 0, 0, 0⟩ : Card) h r) (gl (⟨0, 0, 0, 0⟩ : Card) h r)
            rw [hb] at this
            simp at this
          rw [decide_eq_false hne]
          simp
        rw [br_pos (decide_eq_true (show (i : Int) < (L.length : Int) by omega)), ckb_pos (inb_ok h1), toNat_cast, g]
        simp only [toNat_cast]
        rw [ckb_pos (inb_ok p1), ckb_pos (inb_ok h1), ckb_pos (inb_ok q1), ckb_pos (inb_ok h1), ckb_pos (inb_ok r1), i_IsLine_eq hn, ob_some, e3, lt_eq, w64_succ (by omega)]
        exact ih h1 trivial
      · rw [br_neg (decide_eq_false (by omega))]) n 0 (Nat.zero_le _) trivial (big_gt hn (by omega))
    exact this
theorem GL_mem {h : List Card} {t : V6I} (ht : t ∈ GL h) : ∃ J, t = v6 J ∧ Pk J h.length ∧ J.length = 6 ∧ ghB (J.map (gz h)) = true := by
  unfold GL at ht
  rw [List.mem_flatMap] at ht
  obtain ⟨J, hJ, ht⟩ := ht
  obtain ⟨P, h6⟩ := ch_pk (pk_nil 0) (Nat.zero_le _) J hJ
  rw [List.length_nil, Nat.zero_add] at h6
  unfold gV at ht
  split at ht
  · rename_i hb
    exact ⟨J, List.mem_singleton.1 ht, P, h6, hb⟩
  · cases ht
theorem gh_L1' {n : Nat} (hn : BIG ≤ n) {h : List Card} (hh : hand h = true) (a : List Int) (L W : List V6I) {i : Nat} (hi : i < L.length) (hL : L.length ≤ 100000000) {J : List Nat} (e : L[i] = v6 J) (P : Pk J h.length) (h6 : J.length = 6) (hg : ghB (J.map (gz h)) = true) (go : List Int × Int × List Card × List V6I × List V6I → Opt Bool) :
    fx (v_FnGhosts_L1 n go) n (a, (i : Int), 0, h, L, W, []) = go (a, ((i + 1 : Nat) : Int), h, L, W) := by
  obtain ⟨_, _, _, _, _, _, _, _, S6⟩ := six_pk hh P h6
  have h27 := hand_len hh
  have g : gl (⟨0, 0, 0, 0, 0, 0⟩ : V6I) L i = v6 J := by rw [gl_eq hi, e]
  have := fx_cnt (B := v_FnGhosts_L1 n go) 6 (fun k => (a, (i : Int), (k : Int), h, L, W, (J.take k).map (gz h))) (fun _ => True) (fun _ => go (a, ((i + 1 : Nat) : Int), h, L, W)) (fun self k hk _ ih => by
    simp only [v_FnGhosts_L1, lt_eq]
    by_cases h1 : k < 6
    · obtain ⟨q, g1, g2, g3⟩ := glJ P (show k < J.length by omega)
      have ih := ih h1 trivial
      rw [take_snoc (show k < J.length by omega), List.map_append] at ih
      have hq : J[k]'(by omega) = q := by rw [← g3, gl_eq (by omega)]
      rw [hq] at ih
      have hl2 : ((J.take k).map (gz h)).length = k := by rw [List.length_map, List.length_take]; omega
      rw [br_pos (decide_eq_true (show (k : Int) < 6 by omega)), ckb_pos (inb_ok hi), ckb_pos (inb_ok h1), toNat_cast, toNat_cast, g, v6_get J h1, g1, ckb_pos (inb_ok g2), toNat_cast, ckb_pos (apok_ok (by omega) (by omega)), w64_succ (by omega)]
      exact ih
    · have : k = 6 := by omega
      subst this
      have ht : J.take 6 = J := List.take_of_length_le (by omega)
      rw [br_neg (decide_eq_false (by omega)), ht, (IsGhost_eq hn (h := J.map (gz h)) (by rw [List.length_map]; omega)).1, S6, hg, w64_succ (by omega)]
      rfl) n 0 (Nat.zero_le _) trivial (big_gt hn (by omega))
  exact this
theorem v_rThrees_eq {n : Nat} (hn : BIG ≤ n) {a b : List (V3 Int)} (hl : a.length ≤ 9223372036854775806) : v_rThrees n a b = some (decide (a = b)) := v_vLines_eq hn hl
theorem kc_sum {h : List Card} : ∀ {L : List (V3 Int)}, (∀ l ∈ L, LnF h l) → kc h 1 L + kc h 2 L + kc h 3 L + kc h 4 L = L.length ∧ kc h 0 L = 0
  | [], _ => ⟨rfl, rfl⟩
  | l :: L, hf => by
    obtain ⟨i1, i2⟩ := kc_sum (L := L) fun x hx => hf x (List.mem_cons_of_mem _ hx)
    have fk := (hf l (List.mem_cons_self ..)).k
    unfold kc at i1 i2 ⊢
    simp only [List.countP_cons, List.length_cons]
    have e0 : ((0 : Nat) : Int) = 0 := rfl
    have e1 : ((1 : Nat) : Int) = 1 := rfl
    have e2 : ((2 : Nat) : Int) = 2 := rfl
    have e3 : ((3 : Nat) : Int) = 3 := rfl
    have e4 : ((4 : Nat) : Int) = 4 := rfl
    simp only [e0, e1, e2, e3, e4] at i1 i2 ⊢
    refine ⟨?_, ?_⟩
    · rcases (show kd h l = 1 ∨ kd h l = 2 ∨ kd h l = 3 ∨ kd h l = 4 by omega) with hx | hx | hx | hx <;> rw [hx] <;> simp <;> omega
    · rw [i2, if_neg (by rw [decide_eq_true_iff]; omega)]
theorem law_FnGhosts {n : Nat} (hn : BIG ≤ n) (a : List Int) (ok : (Ty.sl (.int .u8)).ok a) : v_FnGhosts n a = some true := by
  have hb : ByB a := ok_bytes' ok
  unfold v_FnGhosts v_rBig
  rw [ob_some, br_dec]
  split
  · rfl
  obtain ⟨h, e1, hl⟩ := DrawIsGhost_ok hn hb
  obtain ⟨g, e2, gl'⟩ := DrawGhostsIn_ok hn hb
  obtain ⟨k, u, e3, ul⟩ := DrawLinesOfKind_ok hn hb
  obtain ⟨d, e4⟩ := DrawAllOfKind_ok (n := n) hb
  obtain ⟨r, f1, f2⟩ := AllOfKind_eq n d
  obtain ⟨g1, g2⟩ := IsGhost_eq hn (h := h) (by omega)
  obtain ⟨g3, g4⟩ := SumGhost_eq hn (h := h) (by omega)
  obtain ⟨k1, k2⟩ := CountKinds_eq hn (h := u) (by omega)
  obtain ⟨l1, l2⟩ := LinesOfKind_eq hn (h := u) (by omega) k
  have J3 := gh_J3 hn ul
  have c1 : (ob (br (if sixB h then (ghB h, true) else (false, false)).1 (some (! (if sixB h then (decide (sumC h = ⟨0, 0, 0, 0⟩), true) else (false, false)).1)) (some false)) fun x11 => some x11) = some false := by
    cases hs : sixB h with
    | false => rfl
    | true =>
      simp only [if_true]
      unfold sixB at hs
      rw [Bool.and_eq_true] at hs
      have hc := hand_all hs.1
      obtain ⟨x0, x1, x2, x3, x4, x5, rfl⟩ := six_of (of_decide_eq_true hs.2)
      cases hg : gh6 x0 x1 x2 x3 x4 x5 with
      | false =>
        have : ghB [x0, x1, x2, x3, x4, x5] = false := hg
        rw [this]; rfl
      | true =>
        have e : ghB [x0, x1, x2, x3, x4, x5] = true := hg
        rw [e, gh_zero hc hg]; rfl
  have c0 : (if sixB h then (decide (sumC h = ⟨0, 0, 0, 0⟩), true) else (false, false)).2 = (if sixB h then (ghB h, true) else (false, false)).2 := by cases sixB h <;> rfl
  have hCK : (NLr u).1 = (CK u).2 := by unfold NLr CK; cases hand u <;> rfl
  have hLl : (LKn u k).2.length ≤ 1000 := by
    unfold LKn
    split
    · rename_i hx
      rw [Bool.and_eq_true] at hx
      have := lines_len27 hx.1
      have := List.length_filter_le (LKf u k) (linesOf u)
      simp only []; omega
    · simp
  have hNl : (NLr u).2.length ≤ 100000 := by
    unfold NLr
    split
    · rename_i hx
      have := NLs_len (hand_len hx)
      simp only []; omega
    · simp
  have c2 : (ob (br (LKn u k).1 (ckb (inb k 5) (some (!decide ((V5.get (CK u).1 k.toNat) = ((LKn u k).2.length : Int))))) (some false)) fun x33 => some x33) = some false := by
    unfold LKn CK
    cases hx : (hand u && decide (1 ≤ k ∧ k ≤ 4)) with
    | false => rfl
    | true =>
      rw [Bool.and_eq_true] at hx
      have hk := of_decide_eq_true hx.2
      rw [hx.1, if_pos rfl, if_pos rfl, br_true, ckb_pos (inb_pos (by omega) (by omega))]
      have e : V5.get (kV u (linesOf u)) k.toNat = (((linesOf u).filter (LKf u k)).length : Int) := by
        rw [← List.countP_eq_length_filter]
        rcases (show k = 1 ∨ k = 2 ∨ k = 3 ∨ k = 4 by omega) with rfl | rfl | rfl | rfl <;> rfl
      simp only []
      rw [e, decide_eq_true rfl]; rfl
  rw [e1, ob_some, g1, ob_some, g2, ob_some]
  simp only [beq_self_eq_true, Bool.not_true, br_false, ob_some]
  rw [g3, ob_some, g4, ob_some, c0]
  simp only [beq_self_eq_true, Bool.not_true, br_false, ob_some]
  rw [c1, ob_some, br_false, e2, ob_some, i_GhostsIn_eq hn (by omega), ob_some, s_GhostsIn_eq hn (by omega), ob_some]
  simp only [beq_self_eq_true, decide_true, Bool.not_true, br_false, ob_some]
  have fin : ∀ (self : List Int × Int × List Card × List V6I × List V6I → Opt Bool) (W : List V6I), v_FnGhosts_L4 n self (a, (W.length : Int), g, W, W) = some true := fun self W => by
    simp only [v_FnGhosts_L4]
    rw [br_neg (decide_eq_false (by omega)), e3, ob_some]
    simp only []
    rw [l1, ob_some, l2, ob_some, v_rThrees_eq hn (by omega)]
    simp only [beq_self_eq_true, decide_true, Bool.not_true, br_false, ob_some]
    rw [k1, ob_some, k2, ob_some]
    simp only [eqd, beq_self_eq_true, decide_true, Bool.not_true, br_false, ob_some]
    rw [c2, ob_some, br_false, e4, ob_some, f1, ob_some, f2, ob_some]
    simp only [beq_self_eq_true, decide_true, Bool.not_true, br_false, ob_some]
    rw [i_NearLines_eq hn (by omega), ob_some, s_NearLines_eq hn (by omega), ob_some, v_rThrees_eq hn (by omega), hCK]
    simp only [beq_self_eq_true, decide_true, Bool.not_true, br_false, ob_some]
    rw [J3]
    cases hh : hand u with
    | false =>
      have : (CK u).2 = false := by unfold CK; rw [hh]; rfl
      rw [this]; rfl
    | true =>
      have h729 := lines_len27 hh
      have e5 : CK u = (kV u (linesOf u), true) := by unfold CK; rw [hh]; rfl
      obtain ⟨s1, s2⟩ := kc_sum (h := u) (L := linesOf u) fun l hl => lnF hh hl
      have k0 : (kV u (linesOf u)).x0 = 0 := by show ((kc u 0 (linesOf u) : Nat) : Int) = 0; rw [s2]; rfl
      have k1' : (kV u (linesOf u)).x1 = (kc u 1 (linesOf u) : Int) := rfl
      have k2' : (kV u (linesOf u)).x2 = (kc u 2 (linesOf u) : Int) := rfl
      have k3' : (kV u (linesOf u)).x3 = (kc u 3 (linesOf u) : Int) := rfl
      have k4' : (kV u (linesOf u)).x4 = (kc u 4 (linesOf u) : Int) := rfl
      rw [e5]
      generalize kV u (linesOf u) = K at *
      rw [br_true, i_LinesIn_eq hn (by omega), hh]
      simp only [if_true, ob_some, Bool.not_true, br_false, lt_eq]
      rw [w64_id (x := K.x1 + K.x2) (by omega), w64_id (x := K.x1 + K.x2 + K.x3) (by omega), w64_id (by omega), decide_eq_true (show K.x1 + K.x2 + K.x3 + K.x4 = ((linesOf u).length : Int) by omega), decide_eq_true k0]
      rfl
  unfold GI
  cases hx : (hand g && decide (g.length ≤ 10)) with
  | false =>
    obtain ⟨q, rfl⟩ : ∃ q, n = q + 1 := ⟨n - 1, by unfold BIG at hn; omega⟩
    exact fin _ []
  | true =>
    rw [Bool.and_eq_true, decide_eq_true_iff] at hx
    have hm := fun t (ht : t ∈ GL g) => GL_mem ht
    have hp := pow10 hx.2 (Nat.le_refl 6)
    have hG : (GL g).length ≤ 100000000 := ch_flat_len (gV g) (gV_len g) (by omega)
    rw [if_pos rfl]
    simp only []
    generalize GL g = L at *
    have := fx_cnt (B := v_FnGhosts_L4 n) L.length (fun i => (a, (i : Int), g, L, L)) (fun _ => True) (fun _ => some true) (fun self i hi _ ih => by
      by_cases h1 : i < L.length
      · obtain ⟨J, e, P, h6, hg⟩ := hm _ (List.getElem_mem h1)
        simp only [v_FnGhosts_L4]
        rw [br_pos (decide_eq_true (show (i : Int) < (L.length : Int) by omega)), ckb_pos (inb_ok h1), ckb_pos (inb_ok h1)]
        simp only [eqd, decide_true, Bool.not_true, br_false]
        rw [gh_L1' hn hx.1 a L L h1 hG e P h6 hg self]
        exact ih h1 trivial
      · have : i = L.length := by omega
        subst this
        exact fin self L) n 0 (Nat.zero_le _) trivial (big_gt hn (by omega))
    exact this
end Go.Pl
