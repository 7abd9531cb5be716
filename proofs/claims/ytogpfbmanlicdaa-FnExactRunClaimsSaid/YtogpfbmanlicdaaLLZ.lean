/- Plain laws: LZ. -/
import Derived.Test.YtogpfbmanlicdaaLLY
set_option linter.unusedVariables false
set_option linter.unusedSimpArgs false
namespace Go.Pl
open Go Go.Tv Go.RowKit
set_option linter.unusedVariables false

/-! running claims: the last game, and how many of each kind -/
def addK (v : V4 Int) (k : Int) : V4 Int := V4.set v k.toNat (w64 (V4.get v k.toNat + 1))
abbrev RunR := Int × Int × (V4 Int) × Bool × (List Card) × (List Int) × (List Int)
def runOut (g : Game) (v : V4 Int) : RunR := (g.1.1, g.1.2.1, v, true, g.1.2.2, g.2.1, g.2.2)
theorem madeG_kind (p : List Card) (n : Nat) (g : Game) (c : Claim) : (madeG p n g c).1 = 1 ∨ (madeG p n g c).1 = 2 ∨ (madeG p n g c).1 = 3 := by
  unfold madeG endG
  have := kind_cases (withD g (layN p n g.1)) c
  split <;> first | (simp_all; done) | (split <;> simp_all) | skip
theorem s_runC_go {n : Nat} (hn : BIG ≤ n) {p : List Card} : ∀ (l done : List Claim) (g : Game) (v : V4 Int), Piles n g.1.1 p → GameOK p g → done.length + l.length ≤ 1000 → ∀ j, l.length < j →
    fx (s_RunClaims_L1 n) j (done ++ l, (done.length : Int), 0, 0, ⟨0, 0, 0, 0⟩, v, g.1.1, g.1.2.1, g.1.2.2, g.2.1, g.2.2) = some (runOut (lastG p n g l) ((kinds p n g l).foldl addK v))
  | [], done, g, v, hP, h, _, j + 1, _ => by
    rw [fx_succ]
    unfold s_RunClaims_L1
    simp only [List.append_nil, kinds, lastG, List.foldl_nil]
    rw [decide_eq_false (by omega), br_false]; rfl
  | c :: l, done, g, v, hP, h, hl, j + 1, hj => by
    simp only [List.length_cons] at hl hj
    have ih := s_runC_go hn l (done ++ [c]) (madeG p n g c).2 (addK v (madeG p n g c).1) (by rw [madeG_seed]; exact hP) (madeG_ok hP.perm h c) (by simp; omega) j (by omega)
    rw [fx_succ]
    generalize hgo : fx (s_RunClaims_L1 n) j = go at ih ⊢
    have hk := madeG_kind p n g c
    unfold s_RunClaims_L1
    simp only [lt_eq]
    rw [decide_eq_true (show (done.length : Int) < ((done ++ c :: l).length : Int) by simp; omega), br_true, ckb_pos (inb_ok (by simp)), toNat_cast, gl_eq (by simp)]
    simp only [List.getElem_append_right (Nat.le_refl _), Nat.sub_self, List.getElem_cons_zero]
    rw [s_l8Made_eq hn hP h c, ob_some]
    simp only [sOut, kinds, lastG, List.foldl_cons]
    rw [ckb_pos (inb_pos (by omega) (by omega)), ckb_pos (inb_pos (by omega) (by omega)), w64_succ (by omega)]
    simp only [List.append_assoc, List.singleton_append, List.length_append, List.length_singleton] at ih
    exact ih
theorem kinds_mem (p : List Card) (n : Nat) : ∀ (l : List Claim) (g : Game), ∀ k ∈ kinds p n g l, k = 1 ∨ k = 2 ∨ k = 3
  | [], _, k, hk => by cases hk
  | c :: l, g, k, hk => by
    rcases List.mem_cons.1 hk with rfl | hk
    · exact madeG_kind p n g c
    · exact kinds_mem p n l _ k hk
theorem lastG_ok {n : Nat} {p : List Card} : ∀ (l : List Claim) (g : Game), Piles n g.1.1 p → GameOK p g → GameOK p (lastG p n g l) ∧ (lastG p n g l).1.1 = g.1.1
  | [], g, _, h => ⟨h, rfl⟩
  | c :: l, g, hP, h => by
    obtain ⟨h1, h2⟩ := lastG_ok l (madeG p n g c).2 (by rw [madeG_seed]; exact hP) (madeG_ok hP.perm h c)
    exact ⟨h1, by rw [lastG, h2, madeG_seed]⟩
/-- what running gives -/
def RunP (n : Nat) (g : Game) (l : List Claim) (r : RunR) : Prop :=
  (r = (0, 0, ⟨0, 0, 0, 0⟩, false, [], [], [])) ∨ ∃ p, Piles n g.1.1 p ∧ GameOK p g ∧ l.length ≤ 60 ∧ r = runOut (lastG p n g l) ((kinds p n g l).foldl addK ⟨0, 0, 0, 0⟩)
theorem RunClaims_eq {n : Nat} (hn : BIG ≤ n) (g : Game) (l : List Claim) (h : Len g 1048576) (hl : l.length ≤ 1048576) : ∃ r, s_RunClaims n g l = some r ∧ i_RunClaims n g l = some r ∧ RunP n g l r := by
  obtain ⟨h1, h2, h3⟩ := h
  obtain ⟨b, e1, e2, hb⟩ := isGame_eq hn g (by omega) (by omega) (by omega)
  unfold s_RunClaims i_RunClaims i_areClaims
  rw [e1, e2]
  simp only [ob_some, br_some, lt_eq]
  cases b with
  | false => exact ⟨_, rfl, rfl, .inl rfl⟩
  | true =>
    by_cases h60 : l.length ≤ 60
    · obtain ⟨p, hP, hG⟩ := hb rfl
      have s1 := s_runC_go hn l [] g ⟨0, 0, 0, 0⟩ hP hG (by simp; omega) n (big_gt hn (by omega))
      have s2 := i_run_go hn l [] g [] hP hG (by simp; omega) (by simp; omega) n (big_gt hn (by omega))
      simp only [List.nil_append, List.length_nil] at s1 s2
      refine ⟨runOut (lastG p n g l) ((kinds p n g l).foldl addK ⟨0, 0, 0, 0⟩), ?_, ?_, .inr ⟨p, hP, hG, h60, rfl⟩⟩
      · rw [decide_eq_false (show ¬ (60 : Int) < (l.length : Int) by omega), Bool.not_true, if_neg (by decide), br_false, s_l8Own_eq h1 h2 h3, ob_some]
        exact s1
      · rw [decide_eq_true (show (l.length : Int) ≤ 60 by omega)]
        show br (! (if true = true then true else false)) _ _ = _
        rw [if_pos rfl, Bool.not_true, br_false, i_own_eq h1 h2 h3, ob_some]
        unfold __impl_Game__run'pl_ooo
        refine Eq.trans (congrArg (fun o => ob o _) s2) ?_
        rw [ob_some]
        have hkl := kinds_len p n l g
        generalize hK : kinds p n g l = K at hkl ⊢
        have hKm : ∀ k ∈ K, k = 1 ∨ k = 2 ∨ k = 3 := hK ▸ kinds_mem p n l g
        have := fx_foldl (B := i_RunClaims_L1 n) K (fun i v => ((K.length : Int), (i : Int), 0, 0, ⟨0, 0, 0, 0⟩, v, (lastG p n g l).1.1, (lastG p n g l).1.2.1, K, (lastG p n g l).1.2.2, (lastG p n g l).2.1, (lastG p n g l).2.2)) addK
          (fun v => some (runOut (lastG p n g l) v)) (fun _ _ => True) (fun _ _ _ _ => trivial) (fun self i v hi _ => by
            have hk := hKm _ (List.getElem_mem hi)
            simp only [i_RunClaims_L1, lt_eq]
            rw [decide_eq_true (show (i : Int) < (K.length : Int) by omega), br_true, ckb_pos (inb_ok hi), toNat_cast, gl_eq hi, ckb_pos (inb_pos (by omega) (by omega)), ckb_pos (inb_pos (by omega) (by omega)), w64_succ (by omega)]
            rfl) (fun self v _ => by
            simp only [i_RunClaims_L1]
            rw [decide_eq_false (by omega), br_false]; rfl) n (big_gt hn (by omega)) ⟨0, 0, 0, 0⟩ trivial
        exact this
    · refine ⟨_, ?_, ?_, .inl rfl⟩
      · rw [decide_eq_true (show (60 : Int) < (l.length : Int) by omega)]; rfl
      · rw [decide_eq_false (show ¬ (l.length : Int) ≤ 60 by omega)]; rfl
theorem RunP.len {n : Nat} {g : Game} {l : List Claim} {r : RunR} (h : RunP n g l r) : Len ((r.1, (r.2.1, r.2.2.2.2.1)), (r.2.2.2.2.2.1, r.2.2.2.2.2.2)) 1048576 := by
  rcases h with rfl | ⟨p, hP, hG, _, rfl⟩
  · exact ⟨by decide, by decide, by decide⟩
  · obtain ⟨h81, _, _⟩ := pile_facts hP.perm
    exact (lastG_ok l g hP hG).1.lens h81

/-! points -/
def ptG (g : Game) : List Int := (List.range' 0 (g.2.1.length - 0)).flatMap fun i => [w64 (gl 0 g.2.1 i - w64 (1 * gl 0 g.2.2 i))]
theorem flat1 {α β : Type} (f : α → β) : ∀ l : List α, l.flatMap (fun i => [f i]) = l.map f
  | [] => rfl
  | x :: l => by rw [List.flatMap_cons, flat1 f l]; rfl
theorem ptG_len (g : Game) : (ptG g).length = g.2.1.length := by unfold ptG; rw [flat1]; simp
theorem s_l8Points_eq {n : Nat} (hn : BIG ≤ n) {g : Game} (h1 : g.2.1.length ≤ 1000) (h2 : g.2.2.length = g.2.1.length) : s_l8Points n g = some (ptG g) := by
  unfold s_l8Points
  have := fx_app (B := s_l8Points_L1 n) g.2.1.length (fun i a => ((i : Int), g, a)) (fun i => [w64 (gl 0 g.2.1 i - w64 (1 * gl 0 g.2.2 i))]) some 1000000 (fun self i a hi hM => by
    simp only [List.length_singleton] at hM
    simp only [s_l8Points_L1, lt_eq]
    rw [decide_eq_true (show (i : Int) < (g.2.1.length : Int) by omega), br_true, ckb_pos (inb_ok hi), ckb_pos (inb_ok (by omega)), ckb_pos (apok_ok (by omega) (by omega)), w64_succ (by omega)]; rfl) (fun self a => by
    simp only [s_l8Points_L1]
    rw [decide_eq_false (by omega), br_false]) n 0 [] (Nat.zero_le _) (big_gt hn (by omega)) (by rw [flat1]; simp; omega)
  simpa [ptG] using this
theorem i_points_eq {n : Nat} (hn : BIG ≤ n) {g : Game} (h1 : g.2.1.length ≤ 1000) (h2 : g.2.2.length = g.2.1.length) : _impl_Game__points n g = some (ptG g) := by
  unfold _impl_Game__points
  have := fx_app (B := _impl_Game__points_L1 n) g.2.1.length (fun i a => (g.2.1, (g.2.1.length : Int), (i : Int), g, a)) (fun i => [w64 (gl 0 g.2.1 i - w64 (1 * gl 0 g.2.2 i))]) some 1000000 (fun self i a hi hM => by
    simp only [List.length_singleton] at hM
    simp only [_impl_Game__points_L1, lt_eq]
    rw [decide_eq_true (show (i : Int) < (g.2.1.length : Int) by omega), br_true, ckb_pos (inb_ok hi), ckb_pos (inb_ok (by omega)), ckb_pos (apok_ok (by omega) (by omega)), w64_succ (by omega)]; rfl) (fun self a => by
    simp only [_impl_Game__points_L1]
    rw [decide_eq_false (by omega), br_false]) n 0 [] (Nat.zero_le _) (big_gt hn (by omega)) (by rw [flat1]; simp; omega)
  simpa [ptG] using this
theorem lastG_n {n : Nat} {p : List Card} : ∀ (l : List Claim) (g : Game), (lastG p n g l).2.1.length = g.2.1.length
  | [], _ => rfl
  | c :: l, g => by
    rw [lastG, lastG_n l]
    unfold madeG endG
    split <;> first | rfl | exact inc_len _ _ | (split <;> first | rfl | exact inc_len _ _)
theorem isPlayer_eq {n : Nat} {g : Game} (h : g.2.1.length ≤ 1048576) (k : Int) : _impl_Game__isPlayer n g k = some (decide (0 ≤ k ∧ k ≤ (g.2.1.length : Int) - 1)) := by
  unfold _impl_Game__isPlayer
  rw [lt_eq, w64_id (by omega), i_within_eq, ob_some]
theorem WorthClaims_eq {n : Nat} (hn : BIG ≤ n) (g : Game) (l : List Claim) (k : Int) (h : Len g 1048576) (hl : l.length ≤ 1048576) : ∃ r, s_WorthClaims n g l k = some r ∧ i_WorthClaims n g l k = some r := by
  obtain ⟨h1, h2, h3⟩ := h
  obtain ⟨b, e1, e2, hb⟩ := isGame_eq hn g (by omega) (by omega) (by omega)
  obtain ⟨r, s1, _, hr⟩ := RunClaims_eq hn g l ⟨h1, h2, h3⟩ hl
  unfold s_WorthClaims i_WorthClaims i_areClaims
  rw [s1, e2, isPlayer_eq h2]
  simp only [ob_some, br_some, lt_eq]
  rw [w64_id (x := (g.2.1.length : Int) - 1) (by omega), s_l1In_eq]
  simp only [ob_some, br_some]
  cases b with
  | false =>
    have : r.2.2.2.1 = false := by
      rcases hr with rfl | ⟨p, hP, hG, h60, rfl⟩
      · rfl
      · exfalso
        unfold s_RunClaims at s1
        rw [e1] at s1
        simp only [ob_some, br_some, lt_eq] at s1
        have := congrArg (fun o : Opt RunR => match o with | some r => r.2.2.2.1 | none => true) s1
        cases this
    rw [this]
    exact ⟨(0, false), rfl, rfl⟩
  | true =>
    by_cases h60 : l.length ≤ 60
    · obtain ⟨p, hP, hG⟩ := hb rfl
      have s1' := s_runC_go hn l [] g ⟨0, 0, 0, 0⟩ hP hG (by simp; omega) n (big_gt hn (by omega))
      have s2 := i_run_go hn l [] g [] hP hG (by simp; omega) (by simp; omega) n (big_gt hn (by omega))
      simp only [List.nil_append, List.length_nil] at s1' s2
      have er : r = runOut (lastG p n g l) ((kinds p n g l).foldl addK ⟨0, 0, 0, 0⟩) := by
        have e : s_RunClaims n g l = some (runOut (lastG p n g l) ((kinds p n g l).foldl addK ⟨0, 0, 0, 0⟩)) := by
          unfold s_RunClaims
          rw [e1]
          simp only [ob_some, br_some, lt_eq]
          rw [decide_eq_false (show ¬ (60 : Int) < (l.length : Int) by omega), Bool.not_true, if_neg (by decide), br_false, s_l8Own_eq h1 h2 h3, ob_some]
          exact s1'
        rw [e] at s1
        exact (Option.some.inj s1).symm
      obtain ⟨hL, _⟩ := lastG_ok l g hP hG
      have hn1 := hL.n4; have hn2 := hG.n4; have hn3 := lastG_n (n := n) (p := p) l g
      have q1 := s_l8Points_eq hn (g := lastG p n g l) (by omega) hL.eq
      have q2 := s_l8Points_eq hn (g := g) (by omega) hG.eq
      have q3 := i_points_eq hn (g := lastG p n g l) (by omega) hL.eq
      have q4 := i_points_eq hn (g := g) (by omega) hG.eq
      subst er
      simp only [runOut]
      have q1' : s_l8Points n (((lastG p n g l).1.1, ((lastG p n g l).1.2.1, (lastG p n g l).1.2.2)), ((lastG p n g l).2.1, (lastG p n g l).2.2)) = some (ptG (lastG p n g l)) := q1
      have q3' : _impl_Game__points n (((lastG p n g l).1.1, ((lastG p n g l).1.2.1, (lastG p n g l).1.2.2)), ((lastG p n g l).2.1, (lastG p n g l).2.2)) = some (ptG (lastG p n g l)) := q3
      rw [decide_eq_true (show (l.length : Int) ≤ 60 by omega)]
      by_cases hk : 0 ≤ k ∧ k ≤ (g.2.1.length : Int) - 1
      · have hk1 : inb k (ptG (lastG p n g l)).length = true := inb_pos hk.1 (by rw [ptG_len]; omega)
        have hk2 : inb k (ptG g).length = true := inb_pos hk.1 (by rw [ptG_len]; omega)
        refine ⟨(w64 (gl 0 (ptG (lastG p n g l)) k.toNat - gl 0 (ptG g) k.toNat), true), ?_, ?_⟩
        · rw [decide_eq_true hk]
          show br false _ _ = _
          rw [br_false, q1', ob_some, ckb_pos hk1, q2, ob_some, ckb_pos hk2]
        · rw [decide_eq_true hk]
          show br false _ _ = _
          rw [br_false, i_own_eq h1 h2 h3, ob_some]
          unfold __impl_Game__run'pl_ooo
          refine Eq.trans (congrArg (fun o => ob o _) s2) ?_
          rw [ob_some]
          simp only []
          rw [q3', ob_some, ckb_pos hk1, q4, ob_some, ckb_pos hk2]
      · refine ⟨(0, false), ?_, ?_⟩ <;> rw [decide_eq_false hk] <;> rfl
    · have : r.2.2.2.1 = false := by
        rcases hr with rfl | ⟨p, hP, hG, h60', rfl⟩
        · rfl
        · exact absurd h60' h60
      rw [this, decide_eq_false (show ¬ (l.length : Int) ≤ 60 by omega)]
      exact ⟨(0, false), rfl, rfl⟩
end Go.Pl
