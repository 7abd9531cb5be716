/- Plain laws: LY. -/
import Derived.Test.YtogpfbmanlicdaaLLX3
set_option linter.unusedVariables false
set_option linter.unusedSimpArgs false
namespace Go.Pl
open Go Go.Tv Go.RowKit
set_option linter.unusedVariables false

/-! the first right claim -/
def firstK (p : List Card) (n : Nat) : Game → List Claim → Nat → Option Nat
  | _, [], _ => none
  | g, c :: l, i => if (madeG p n g c).1 = 1 then some i else firstK p n (madeG p n g c).2 l (i + 1)
def kinds (p : List Card) (n : Nat) : Game → List Claim → List Int
  | _, [] => []
  | g, c :: l => (madeG p n g c).1 :: kinds p n (madeG p n g c).2 l
def lastG (p : List Card) (n : Nat) : Game → List Claim → Game
  | g, [] => g
  | g, c :: l => lastG p n (madeG p n g c).2 l
theorem kinds_len (p : List Card) (n : Nat) : ∀ (l : List Claim) (g : Game), (kinds p n g l).length = l.length
  | [], _ => rfl
  | c :: l, g => by simp [kinds, kinds_len p n l]
theorem firstK_eq (p : List Card) (n : Nat) : ∀ (l : List Claim) (g : Game) (i : Nat), firstK p n g l i = ((kinds p n g l).findIdx? fun x => decide (x = 1)).map (· + i)
  | [], _, _ => rfl
  | c :: l, g, i => by
    unfold firstK kinds
    rw [List.findIdx?_cons]
    by_cases h : (madeG p n g c).1 = 1
    · simp [h]
    · rw [if_neg h, firstK_eq p n l]
      simp only [h, decide_false, Bool.false_eq_true, if_false]
      cases List.findIdx? (fun x => decide (x = 1)) (kinds p n (madeG p n g c).2 l) with
      | none => rfl
      | some j => simp only [Option.map_some]; congr 1; omega
theorem s_first_go {n : Nat} (hn : BIG ≤ n) {p : List Card} : ∀ (l done : List Claim) (g : Game), Piles n g.1.1 p → GameOK p g → done.length + l.length ≤ 1000 → ∀ j, l.length < j →
    fx (s_FirstRight_L1 n) j (done ++ l, (done.length : Int), g) = some (match firstK p n g l done.length with | some i => ((i : Int), true) | none => (0, false))
  | [], done, g, hP, h, _, j + 1, _ => by
    rw [fx_succ]
    unfold s_FirstRight_L1
    simp only [List.append_nil]
    rw [decide_eq_false (by omega), br_false]; rfl
  | c :: l, done, g, hP, h, hl, j + 1, hj => by
    simp only [List.length_cons] at hl hj
    have ih := s_first_go hn l (done ++ [c]) (madeG p n g c).2 (by rw [madeG_seed]; exact hP) (madeG_ok hP.perm h c) (by simp; omega) j (by omega)
    rw [fx_succ]
    generalize hgo : fx (s_FirstRight_L1 n) j = go at ih ⊢
    unfold s_FirstRight_L1
    simp only [lt_eq]
    rw [decide_eq_true (show (done.length : Int) < ((done ++ c :: l).length : Int) by simp; omega), br_true, ckb_pos (inb_ok (by simp)), toNat_cast, gl_eq (by simp)]
    simp only [List.getElem_append_right (Nat.le_refl _), Nat.sub_self, List.getElem_cons_zero]
    rw [s_l8Made_eq hn hP h c, ob_some]
    unfold firstK
    by_cases hk : (madeG p n g c).1 = 1
    · rw [if_pos hk]
      show br (decide ((madeG p n g c).1 = 1)) _ _ = _
      rw [decide_eq_true hk]; rfl
    · rw [if_neg hk]
      show br (decide ((madeG p n g c).1 = 1)) _ (go (done ++ c :: l, w64 ((done.length : Int) + 1), (madeG p n g c).2)) = _
      rw [decide_eq_false hk, br_false, w64_succ (by omega)]
      simp only [List.append_assoc, List.singleton_append, List.length_append, List.length_singleton] at ih
      exact ih
theorem i_run_go {n : Nat} (hn : BIG ≤ n) {p : List Card} : ∀ (l done : List Claim) (g : Game) (out : List Int), Piles n g.1.1 p → GameOK p g → done.length + l.length ≤ 1000 → out.length + l.length ≤ 1000 → ∀ j, l.length < j →
    fx (__impl_Game__run'pl_ooo_L1 n) j (done ++ l, ((done ++ l).length : Int), (done.length : Int), g.1.1, g.1.2.1, g.2.1, g.2.2, out, g.1.2.2) =
      some ((lastG p n g l).1.1, (lastG p n g l).1.2.1, (lastG p n g l).2.1, (lastG p n g l).2.2, out ++ kinds p n g l, (lastG p n g l).1.2.2)
  | [], done, g, out, hP, h, _, _, j + 1, _ => by
    rw [fx_succ]
    unfold __impl_Game__run'pl_ooo_L1
    simp only [List.append_nil, kinds, lastG]
    rw [decide_eq_false (by omega), br_false]
  | c :: l, done, g, out, hP, h, hl, ho, j + 1, hj => by
    simp only [List.length_cons] at hl hj ho
    have ih := i_run_go hn l (done ++ [c]) (madeG p n g c).2 (out ++ [(madeG p n g c).1]) (by rw [madeG_seed]; exact hP) (madeG_ok hP.perm h c) (by simp; omega) (by simp; omega) j (by omega)
    rw [fx_succ]
    generalize hgo : fx (__impl_Game__run'pl_ooo_L1 n) j = go at ih ⊢
    unfold __impl_Game__run'pl_ooo_L1
    simp only [lt_eq]
    rw [decide_eq_true (show (done.length : Int) < ((done ++ c :: l).length : Int) by simp; omega), br_true, ckb_pos (inb_ok (by simp)), toNat_cast, gl_eq (by simp)]
    simp only [List.getElem_append_right (Nat.le_refl _), Nat.sub_self, List.getElem_cons_zero]
    rw [i_make_eq hn hP h c, ob_some, ckb_pos (apok_ok (by omega) (by omega)), w64_succ (by omega)]
    simp only [List.append_assoc, List.singleton_append, List.length_append, List.length_singleton] at ih
    simp only [kinds, lastG]
    refine Eq.trans ?_ ih
    simp only [List.length_append]
    rfl

theorem v_eqClaim_self {n : Nat} (hn : BIG ≤ n) (c : Claim) : v_eqClaim n c c = some true := by
  unfold v_eqClaim
  have e : v_eqIntA3 n c.2 c.2 = some true := by
    obtain ⟨m, rfl⟩ : ∃ m, n = m + 5 := ⟨n - 5, by unfold BIG at hn; omega⟩
    unfold v_eqIntA3
    simp only [fx_succ, v_eqIntA3_L1]
    simp [inb, V3.get]
  rw [e]; simp
theorem v_szClaimS_eq {n : Nat} {a : List Claim} {left : Int} (hl : a.length ≤ 9223372036854775807) (h : 0 ≤ left ∧ left ≤ 9223372036854775807) : v_szClaimS n a left = some (if left - a.length < 0 then -1 else left - a.length) := by
  unfold v_szClaimS
  rw [lt_eq, w64_id (by omega), br_dec]
  split <;> rfl
theorem v_toClaimS_go {n : Nat} (hn : BIG ≤ n) : ∀ (l done : List Claim) (w : List Claim), w.length = l.length → done.length + l.length ≤ 1099511627776 → ∀ j, l.length < j →
    fx (v_toClaimS_L1 n) j (done ++ l, (done.length : Int), done ++ w) = some (done ++ l)
  | [], done, w, hw, _, j + 1, _ => by
    rw [fx_succ]
    have : w = [] := List.length_eq_zero_iff.1 hw
    subst this
    simp [v_toClaimS_L1]
  | c :: l, done, [], hw, _, j + 1, _ => by simp at hw
  | c :: l, done, x :: w, hw, h2, j + 1, hj => by
    rw [fx_succ]
    simp only [List.length_cons] at hw h2 hj
    have e1 : decide ((done.length : Int) < ((done ++ c :: l).length : Int)) = true := decide_eq_true (by simp; omega)
    have ih := v_toClaimS_go hn l (done ++ [c]) w (by omega) (by simp; omega) j (by omega)
    simp only [v_toClaimS_L1, e1, br_true, lt_eq]
    rw [ckb_pos (inb_ok (by simp)), toNat_cast, gl_eq (by simp), v_toClaim_eq hn, ob_some, ckb_pos (inb_ok (by simp)), w64_succ (by omega), set_mid]
    simp only [List.append_assoc, List.singleton_append, List.length_append, List.length_singleton] at ih
    simp only [List.getElem_append_right (Nat.le_refl _), Nat.sub_self, List.getElem_cons_zero]
    exact ih
theorem v_toClaimS_eq {n : Nat} (hn : BIG ≤ n) {a : List Claim} (hl : a.length ≤ 1099511627776) : v_toClaimS n a = some a := by
  unfold v_toClaimS
  rw [ckb_pos (mkok_ok (by omega) (by omega) (by omega) (by omega))]
  have := v_toClaimS_go hn a [] (List.replicate a.length (0, ⟨0, 0, 0⟩)) (by simp) (by simp; omega) n (big_gt hn (by omega))
  simpa using this
theorem v_eqClaimS_self {n : Nat} (hn : BIG ≤ n) {a : List Claim} (hl : a.length ≤ 9223372036854775806) : v_eqClaimS n a a = some true := by
  unfold v_eqClaimS
  rw [decide_eq_true rfl, Bool.not_true, br_false]
  have := fx_cnt (B := v_eqClaimS_L1 n) a.length (fun i => (a, a, (i : Int))) (fun _ => True) (fun i => some true) (fun self i hi _ ih => by
    simp only [v_eqClaimS_L1]
    by_cases h : i < a.length
    · rw [decide_eq_true (show (i : Int) < (a.length : Int) by omega), br_true, ckb_pos (inb_ok h), ckb_pos (inb_ok h), v_eqClaim_self hn, ob_some, Bool.not_true, br_false, lt_eq, w64_succ (by omega)]
      exact ih h trivial
    · rw [decide_eq_false (show ¬ (i : Int) < (a.length : Int) by omega), br_false]) n 0 (Nat.zero_le _) trivial (big_gt hn (by omega))
  exact this
theorem FirstRight_eq {n : Nat} (hn : BIG ≤ n) (g : Game) (l : List Claim) (h : Len g 1048576) (hl : l.length ≤ 1048576) : ∃ r, s_FirstRight n g l = some r ∧ i_FirstRight n g l = some r := by
  obtain ⟨h1, h2, h3⟩ := h
  obtain ⟨b, e1, e2, hb⟩ := isGame_eq hn g (by omega) (by omega) (by omega)
  unfold s_FirstRight i_FirstRight i_areClaims
  rw [e1, e2]
  simp only [ob_some, br_some]
  cases b with
  | false => exact ⟨_, rfl, rfl⟩
  | true =>
    by_cases h60 : l.length ≤ 60
    · obtain ⟨p, hP, hG⟩ := hb rfl
      have s1 := s_first_go hn l [] g hP hG (by simp; omega) n (big_gt hn (by omega))
      have s2 := i_run_go hn l [] g [] hP hG (by simp; omega) (by simp; omega) n (big_gt hn (by omega))
      simp only [List.nil_append, List.length_nil] at s1 s2
      refine ⟨match firstK p n g l 0 with | some i => ((i : Int), true) | none => (0, false), ?_, ?_⟩
      · rw [decide_eq_false (show ¬ (60 : Int) < (l.length : Int) by omega)]
        exact s1
      · rw [decide_eq_true (show (l.length : Int) ≤ 60 by omega)]
        show br (! (if true = true then true else false)) _ _ = _
        rw [if_pos rfl, Bool.not_true, br_false, i_own_eq h1 h2 h3, ob_some]
        unfold __impl_Game__run'pl_ooo
        refine Eq.trans (congrArg (fun o => ob o _) s2) ?_
        rw [ob_some, slices_Index_int_eq hn (by rw [kinds_len]; omega), ob_some, firstK_eq]
        have e : ((kinds p n g l).findIdx? fun x => decide ((1 : Int) = x)) = (kinds p n g l).findIdx? fun x => decide (x = 1) := by
          congr 1; funext x; exact decide_eq_decide.2 ⟨Eq.symm, Eq.symm⟩
        rw [e]
        cases (kinds p n g l).findIdx? fun x => decide (x = 1) with
        | none => rfl
        | some i =>
          show some (mxI 0 (i : Int), decide (0 ≤ (i : Int))) = some (((i + 0 : Nat) : Int), true)
          rw [decide_eq_true (by omega)]
          unfold mxI; split
          · rfl
          · congr 2; omega
    · refine ⟨(0, false), ?_, ?_⟩
      · rw [decide_eq_true (show (60 : Int) < (l.length : Int) by omega)]; rfl
      · rw [decide_eq_false (show ¬ (l.length : Int) ≤ 60 by omega)]; rfl
end Go.Pl
