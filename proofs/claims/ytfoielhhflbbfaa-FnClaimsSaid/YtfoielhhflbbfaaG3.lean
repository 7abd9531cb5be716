/- Plain laws: LZ, LSo1, LTh, LSum, LLn. -/
import Derived.Test.YtfoielhhflbbfaaG2
import Derived.Test.YtfoielhhflbbfaaG0
import Derived.Test.YtfoielhhflbbfaaG1
set_option linter.unusedVariables false
set_option linter.unusedSimpArgs false
namespace Go.Pl
open Go Go.Tv Go.RowKit
set_option linter.unusedVariables false
def addK (v : V4 Int) (k : Int) : V4 Int := V4.set v k.toNat (w64 (V4.get v k.toNat + 1))
abbrev RunR := Int × Int × (V4 Int) × Bool × (List Card) × (List Int) × (List Int)
def runOut (g : Game) (v : V4 Int) : RunR := (g.1.1, g.1.2.1, v, true, g.1.2.2, g.2.1, g.2.2)
theorem madeG_kind (p : List Card) (n : Nat) (g : Game) (c : Claim) : (madeG p n g c).1 = 1 ∨ (madeG p n g c).1 = 2 ∨ (madeG p n g c).1 = 3 := by
  unfold madeG endG
  have := kind_cases (withD g (layN p n g.1)) c
  split <;> first | (simp_all; done) | (split <;> simp_all) | skip
theorem s_runC_go {n : Nat} (hn : BIG ≤ n) {p : List Card} : ∀ (l done : List Claim) (g : Game) (v : V4 Int), Piles n g.1.1 p → GameOK p g → done.length + l.length ≤ 1000 → ∀ j, l.length < j →
    fx (s_RunClaims_L1 n) j (done ++ l, (done.length : Int), 0, 0, ⟨0, 0, 0, 0⟩, v, g.1.1, g.1.2.1, g.1.2.2, g.2.1, g.2.2) = some (runOut (lastG p n g l) ((kinds p n g l).foldl addK v))
  | [], done, g, v, hP, h, _, j + 1, _ => by
    rw [fx_succ]
    unfold s_RunClaims_L1
    simp only [List.append_nil, kinds, lastG, List.foldl_nil]
    rw [decide_eq_false (by omega), br_false]; rfl
  | c :: l, done, g, v, hP, h, hl, j + 1, hj => by
    simp only [List.length_cons] at hl hj
    have ih := s_runC_go hn l (done ++ [c]) (madeG p n g c).2 (addK v (madeG p n g c).1) (by rw [madeG_seed]; exact hP) (madeG_ok hP.perm h c) (by simp; omega) j (by omega)
    rw [fx_succ]
    generalize hgo : fx (s_RunClaims_L1 n) j = go at ih ⊢
    have hk := madeG_kind p n g c
    unfold s_RunClaims_L1
    simp only [lt_eq]
    rw [decide_eq_true (show (done.length : Int) < ((done ++ c :: l).length : Int) by simp; omega), br_true, ckb_pos (inb_ok (by simp)), toNat_cast, gl_eq (by simp)]
    simp only [List.getElem_append_right (Nat.le_refl _), Nat.sub_self, List.getElem_cons_zero]
    rw [s_l8Made_eq hn hP h c, ob_some]
    simp only [sOut, kinds, lastG, List.foldl_cons]
    rw [ckb_pos (inb_pos (by omega) (by omega)), ckb_pos (inb_pos (by omega) (by omega)), w64_succ (by omega)]
    simp only [List.append_assoc, List.singleton_append, List.length_append, List.length_singleton] at ih
    exact ih
theorem kinds_mem (p : List Card) (n : Nat) : ∀ (l : List Claim) (g : Game), ∀ k ∈ kinds p n g l, k = 1 ∨ k = 2 ∨ k = 3
  | [], _, k, hk => by cases hk
  | c :: l, g, k, hk => by
    rcases List.mem_cons.1 hk with rfl | hk
    · exact madeG_kind p n g c
    · exact kinds_mem p n l _ k hk
theorem lastG_ok {n : Nat} {p : List Card} : ∀ (l : List Claim) (g : Game), Piles n g.1.1 p → GameOK p g → GameOK p (lastG p n g l) ∧ (lastG p n g l).1.1 = g.1.1
  | [], g, _, h => ⟨h, rfl⟩
  | c :: l, g, hP, h => by
    obtain ⟨h1, h2⟩ := lastG_ok l (madeG p n g c).2 (by rw [madeG_seed]; exact hP) (madeG_ok hP.perm h c)
    exact ⟨h1, by rw [lastG, h2, madeG_seed]⟩
def RunP (n : Nat) (g : Game) (l : List Claim) (r : RunR) : Prop :=
  (r = (0, 0, ⟨0, 0, 0, 0⟩, false, [], [], [])) ∨ ∃ p, Piles n g.1.1 p ∧ GameOK p g ∧ l.length ≤ 60 ∧ r = runOut (lastG p n g l) ((kinds p n g l).foldl addK ⟨0, 0, 0, 0⟩)
theorem RunClaims_eq {n : Nat} (hn : BIG ≤ n) (g : Game) (l : List Claim) (h : Len g 1048576) (hl : l.length ≤ 1048576) : ∃ r, s_RunClaims n g l = some r ∧ i_RunClaims n g l = some r ∧ RunP n g l r := by
  obtain ⟨h1, h2, h3⟩ := h
  obtain ⟨b, e1, e2, hb⟩ := isGame_eq hn g (by omega) (by omega) (by omega)
  unfold s_RunClaims i_RunClaims i_areClaims
  rw [e1, e2]
  simp only [ob_some, br_some, lt_eq]
  cases b with
  | false => exact ⟨_, rfl, rfl, .inl rfl⟩
  | true =>
    by_cases h60 : l.length ≤ 60
    · obtain ⟨p, hP, hG⟩ := hb rfl
      have s1 := s_runC_go hn l [] g ⟨0, 0, 0, 0⟩ hP hG (by simp; omega) n (big_gt hn (by omega))
      have s2 := i_run_go hn l [] g [] hP hG (by simp; omega) (by simp; omega) n (big_gt hn (by omega))
      simp only [List.nil_append, List.length_nil] at s1 s2
      refine ⟨runOut (lastG p n g l) ((kinds p n g l).foldl addK ⟨0, 0, 0, 0⟩), ?_, ?_, .inr ⟨p, hP, hG, h60, rfl⟩⟩
      · rw [decide_eq_false (show ¬ (60 : Int) < (l.length : Int) by omega), Bool.not_true, if_neg (by decide), br_false, s_l8Own_eq h1 h2 h3, ob_some]
        exact s1
      · rw [decide_eq_true (show (l.length : Int) ≤ 60 by omega)]
        show br (! (if true = true then true else false)) _ _ = _
        rw [if_pos rfl, Bool.not_true, br_false, i_own_eq h1 h2 h3, ob_some]
        unfold __impl_Game__run'pl_ooo
        refine Eq.trans (congrArg (fun o => ob o _) s2) ?_
        rw [ob_some]
        have hkl := kinds_len p n l g
        generalize hK : kinds p n g l = K at hkl ⊢
        have hKm : ∀ k ∈ K, k = 1 ∨ k = 2 ∨ k = 3 := hK ▸ kinds_mem p n l g
        have := fx_foldl (B := i_RunClaims_L1 n) K (fun i v => ((K.length : Int), (i : Int), 0, 0, ⟨0, 0, 0, 0⟩, v, (lastG p n g l).1.1, (lastG p n g l).1.2.1, K, (lastG p n g l).1.2.2, (lastG p n g l).2.1, (lastG p n g l).2.2)) addK
          (fun v => some (runOut (lastG p n g l) v)) (fun _ _ => True) (fun _ _ _ _ => trivial) (fun self i v hi _ => by
            have hk := hKm _ (List.getElem_mem hi)
            simp only [i_RunClaims_L1, lt_eq]
            rw [decide_eq_true (show (i : Int) < (K.length : Int) by omega), br_true, ckb_pos (inb_ok hi), toNat_cast, gl_eq hi, ckb_pos (inb_pos (by omega) (by omega)), ckb_pos (inb_pos (by omega) (by omega)), w64_succ (by omega)]
            rfl) (fun self v _ => by
            simp only [i_RunClaims_L1]
            rw [decide_eq_false (by omega), br_false]; rfl) n (big_gt hn (by omega)) ⟨0, 0, 0, 0⟩ trivial
        exact this
    · refine ⟨_, ?_, ?_, .inl rfl⟩
      · rw [decide_eq_true (show (60 : Int) < (l.length : Int) by omega)]; rfl
      · rw [decide_eq_false (show ¬ (l.length : Int) ≤ 60 by omega)]; rfl
theorem RunP.len {n : Nat} {g : Game} {l : List Claim} {r : RunR} (h : RunP n g l r) : Len ((r.1, (r.2.1, r.2.2.2.2.1)), (r.2.2.2.2.2.1, r.2.2.2.2.2.2)) 1048576 := by
  rcases h with rfl | ⟨p, hP, hG, _, rfl⟩
  · exact ⟨by decide, by decide, by decide⟩
  · obtain ⟨h81, _, _⟩ := pile_facts hP.perm
    exact (lastG_ok l g hP hG).1.lens h81
def ptG (g : Game) : List Int := (List.range' 0 (g.2.1.length - 0)).flatMap fun i => [w64 (gl 0 g.2.1 i - w64 (1 * gl 0 g.2.2 i))]
theorem flat1 {α β : Type} (f : α → β) : ∀ l : List α, l.flatMap (fun i => [f i]) = l.map f
  | [] => rfl
  | x :: l => by rw [List.flatMap_cons, flat1 f l]; rfl
theorem ptG_len (g : Game) : (ptG g).length = g.2.1.length := by unfold ptG; rw [flat1]; simp
theorem s_l8Points_eq {n : Nat} (hn : BIG ≤ n) {g : Game} (h1 : g.2.1.length ≤ 1000) (h2 : g.2.2.length = g.2.1.length) : s_l8Points n g = some (ptG g) := by
  unfold s_l8Points
  have := fx_app (B := s_l8Points_L1 n) g.2.1.length (fun i a => ((i : Int), g, a)) (fun i => [w64 (gl 0 g.2.1 i - w64 (1 * gl 0 g.2.2 i))]) some 1000000 (fun self i a hi hM => by
    simp only [List.length_singleton] at hM
    simp only [s_l8Points_L1, lt_eq]
    rw [decide_eq_true (show (i : Int) < (g.2.1.length : Int) by omega), br_true, ckb_pos (inb_ok hi), ckb_pos (inb_ok (by omega)), ckb_pos (apok_ok (by omega) (by omega)), w64_succ (by omega)]; rfl) (fun self a => by
    simp only [s_l8Points_L1]
    rw [decide_eq_false (by omega), br_false]) n 0 [] (Nat.zero_le _) (big_gt hn (by omega)) (by rw [flat1]; simp; omega)
  simpa [ptG] using this
theorem i_points_eq {n : Nat} (hn : BIG ≤ n) {g : Game} (h1 : g.2.1.length ≤ 1000) (h2 : g.2.2.length = g.2.1.length) : _impl_Game__points n g = some (ptG g) := by
  unfold _impl_Game__points
  have := fx_app (B := _impl_Game__points_L1 n) g.2.1.length (fun i a => (g.2.1, (g.2.1.length : Int), (i : Int), g, a)) (fun i => [w64 (gl 0 g.2.1 i - w64 (1 * gl 0 g.2.2 i))]) some 1000000 (fun self i a hi hM => by
    simp only [List.length_singleton] at hM
    simp only [_impl_Game__points_L1, lt_eq]
    rw [decide_eq_true (show (i : Int) < (g.2.1.length : Int) by omega), br_true, ckb_pos (inb_ok hi), ckb_pos (inb_ok (by omega)), ckb_pos (apok_ok (by omega) (by omega)), w64_succ (by omega)]; rfl) (fun self a => by
    simp only [_impl_Game__points_L1]
    rw [decide_eq_false (by omega), br_false]) n 0 [] (Nat.zero_le _) (big_gt hn (by omega)) (by rw [flat1]; simp; omega)
  simpa [ptG] using this
theorem lastG_n {n : Nat} {p : List Card} : ∀ (l : List Claim) (g : Game), (lastG p n g l).2.1.length = g.2.1.length
  | [], _ => rfl
  | c :: l, g => by
    rw [lastG, lastG_n l]
    unfold madeG endG
    split <;> first | rfl | exact inc_len _ _ | (split <;> first | rfl | exact inc_len _ _)
theorem isPlayer_eq {n : Nat} {g : Game} (h : g.2.1.length ≤ 1048576) (k : Int) : _impl_Game__isPlayer n g k = some (decide (0 ≤ k ∧ k ≤ (g.2.1.length : Int) - 1)) := by
  unfold _impl_Game__isPlayer
  rw [lt_eq, w64_id (by omega), i_within_eq, ob_some]
theorem WorthClaims_eq {n : Nat} (hn : BIG ≤ n) (g : Game) (l : List Claim) (k : Int) (h : Len g 1048576) (hl : l.length ≤ 1048576) : ∃ r, s_WorthClaims n g l k = some r ∧ i_WorthClaims n g l k = some r := by
  obtain ⟨h1, h2, h3⟩ := h
  obtain ⟨b, e1, e2, hb⟩ := isGame_eq hn g (by omega) (by omega) (by omega)
  obtain ⟨r, s1, _, hr⟩ := RunClaims_eq hn g l ⟨h1, h2, h3⟩ hl
  unfold s_WorthClaims i_WorthClaims i_areClaims
  rw [s1, e2, isPlayer_eq h2]
  simp only [ob_some, br_some, lt_eq]
  rw [w64_id (x := (g.2.1.length : Int) - 1) (by omega), s_l1In_eq]
  simp only [ob_some, br_some]
  cases b with
  | false =>
    have : r.2.2.2.1 = false := by
      rcases hr with rfl | ⟨p, hP, hG, h60, rfl⟩
      · rfl
      · exfalso
        unfold s_RunClaims at s1
        rw [e1] at s1
        simp only [ob_some, br_some, lt_eq] at s1
        have := congrArg (fun o : Opt RunR => match o with | some r => r.2.2.2.1 | none => true) s1
        cases this
    rw [this]
    exact ⟨(0, false), rfl, rfl⟩
  | true =>
    by_cases h60 : l.length ≤ 60
    · obtain ⟨p, hP, hG⟩ := hb rfl
      have s1' := s_runC_go hn l [] g ⟨0, 0, 0, 0⟩ hP hG (by simp; omega) n (big_gt hn (by omega))
      have s2 := i_run_go hn l [] g [] hP hG (by simp; omega) (by simp; omega) n (big_gt hn (by omega))
      simp only [List.nil_append, List.length_nil] at s1' s2
      have er : r = runOut (lastG p n g l) ((kinds p n g l).foldl addK ⟨0, 0, 0, 0⟩) := by
        have e : s_RunClaims n g l = some (runOut (lastG p n g l) ((kinds p n g l).foldl addK ⟨0, 0, 0, 0⟩)) := by
          unfold s_RunClaims
          rw [e1]
          simp only [ob_some, br_some, lt_eq]
          rw [decide_eq_false (show ¬ (60 : Int) < (l.length : Int) by omega), Bool.not_true, if_neg (by decide), br_false, s_l8Own_eq h1 h2 h3, ob_some]
          exact s1'
        rw [e] at s1
        exact (Option.some.inj s1).symm
      obtain ⟨hL, _⟩ := lastG_ok l g hP hG
      have hn1 := hL.n4; have hn2 := hG.n4; have hn3 := lastG_n (n := n) (p := p) l g
      have q1 := s_l8Points_eq hn (g := lastG p n g l) (by omega) hL.eq
      have q2 := s_l8Points_eq hn (g := g) (by omega) hG.eq
      have q3 := i_points_eq hn (g := lastG p n g l) (by omega) hL.eq
      have q4 := i_points_eq hn (g := g) (by omega) hG.eq
      subst er
      simp only [runOut]
      have q1' : s_l8Points n (((lastG p n g l).1.1, ((lastG p n g l).1.2.1, (lastG p n g l).1.2.2)), ((lastG p n g l).2.1, (lastG p n g l).2.2)) = some (ptG (lastG p n g l)) := q1
      have q3' : _impl_Game__points n (((lastG p n g l).1.1, ((lastG p n g l).1.2.1, (lastG p n g l).1.2.2)), ((lastG p n g l).2.1, (lastG p n g l).2.2)) = some (ptG (lastG p n g l)) := q3
      rw [decide_eq_true (show (l.length : Int) ≤ 60 by omega)]
      by_cases hk : 0 ≤ k ∧ k ≤ (g.2.1.length : Int) - 1
      · have hk1 : inb k (ptG (lastG p n g l)).length = true := inb_pos hk.1 (by rw [ptG_len]; omega)
        have hk2 : inb k (ptG g).length = true := inb_pos hk.1 (by rw [ptG_len]; omega)
        refine ⟨(w64 (gl 0 (ptG (lastG p n g l)) k.toNat - gl 0 (ptG g) k.toNat), true), ?_, ?_⟩
        · rw [decide_eq_true hk]
          show br false _ _ = _
          rw [br_false, q1', ob_some, ckb_pos hk1, q2, ob_some, ckb_pos hk2]
        · rw [decide_eq_true hk]
          show br false _ _ = _
          rw [br_false, i_own_eq h1 h2 h3, ob_some]
          unfold __impl_Game__run'pl_ooo
          refine Eq.trans (congrArg (fun o => ob o _) s2) ?_
          rw [ob_some]
          simp only []
          rw [q3', ob_some, ckb_pos hk1, q4, ob_some, ckb_pos hk2]
      · refine ⟨(0, false), ?_, ?_⟩ <;> rw [decide_eq_false hk] <;> rfl
    · have : r.2.2.2.1 = false := by
        rcases hr with rfl | ⟨p, hP, hG, h60', rfl⟩
        · rfl
        · exact absurd h60' h60
      rw [this, decide_eq_false (show ¬ (l.length : Int) ≤ 60 by omega)]
      exact ⟨(0, false), rfl, rfl⟩
end Go.Pl
namespace Go.Pl
open Go Go.Tv Go.RowKit
set_option linter.unusedVariables false
def AllC (d : List Card) : Prop := ∀ c, c ∈ d → isC c = true
def nm (d : List Card) (i : Nat) : Int := num (gl (⟨0, 0, 0, 0⟩ : Card) d i)
def swc (d : List Card) (i j : Nat) : List Card := (d.set i (gl (⟨0, 0, 0, 0⟩ : Card) d j)).set j (gl (⟨0, 0, 0, 0⟩ : Card) d i)
theorem swp_len (d : List Card) (i j : Nat) : (swc d i j).length = d.length := by simp [swc]
theorem gl_set {α : Type} (z : α) (d : List α) (i : Nat) (x : α) (h : i < d.length) (k : Nat) : gl z (d.set i x) k = if k = i then x else gl z d k := by
  unfold gl
  simp only [List.getD_eq_getElem?_getD, List.getElem?_set]
  by_cases hk : i = k
  · subst hk; simp [h]
  · have hk' : ¬ k = i := fun h => hk h.symm
    simp [hk, hk']
theorem gl_swp {d : List Card} {i j : Nat} (hi : i < d.length) (hj : j < d.length) (k : Nat) :
    gl (⟨0, 0, 0, 0⟩ : Card) (swc d i j) k = if k = j then gl ⟨0, 0, 0, 0⟩ d i else if k = i then gl ⟨0, 0, 0, 0⟩ d j else gl ⟨0, 0, 0, 0⟩ d k := by
  unfold swc
  rw [gl_set _ _ _ _ (by simpa using hj), gl_set _ _ _ _ hi]
theorem nm_swp {d : List Card} {i j : Nat} (hi : i < d.length) (hj : j < d.length) (k : Nat) : nm (swc d i j) k = if k = j then nm d i else if k = i then nm d j else nm d k := by
  unfold nm
  rw [gl_swp hi hj]
  split
  · rfl
  · split <;> rfl
theorem nsj {d : List Card} {i j : Nat} (hi : i < d.length) (hj : j < d.length) : nm (swc d i j) j = nm d i := by rw [nm_swp hi hj, if_pos rfl]
theorem nsi {d : List Card} {i j : Nat} (hi : i < d.length) (hj : j < d.length) : nm (swc d i j) i = nm d j := by
  rw [nm_swp hi hj, if_pos rfl]
  split
  · rename_i h; rw [h]
  · rfl
theorem nso {d : List Card} {i j : Nat} (hi : i < d.length) (hj : j < d.length) {k : Nat} (h1 : k ≠ i) (h2 : k ≠ j) : nm (swc d i j) k = nm d k := by rw [nm_swp hi hj, if_neg h2, if_neg h1]
theorem gl_C {d : List Card} (hd : AllC d) {i : Nat} (h : i < d.length) : isC (gl (⟨0, 0, 0, 0⟩ : Card) d i) = true := by
  rw [gl_eq h]; exact hd _ (List.getElem_mem h)
inductive Sw (a b : Nat) (d : List Card) : List Card → Prop
  | refl : Sw a b d d
  | step {d' : List Card} (h : Sw a b d d') (i j : Nat) (ha : a ≤ i) (hb : i < b) (ha' : a ≤ j) (hb' : j < b) (hl : b ≤ d.length) : Sw a b d (swc d' i j)
theorem Sw.len {a b : Nat} {d d' : List Card} (h : Sw a b d d') : d'.length = d.length := by
  induction h with
  | refl => rfl
  | step _ i j _ _ _ _ _ ih => rw [swp_len, ih]
theorem Sw.out {a b : Nat} {d d' : List Card} (h : Sw a b d d') {k : Nat} (hk : k < a ∨ b ≤ k) : nm d' k = nm d k := by
  induction h with
  | refl => rfl
  | step h i j _ _ _ _ _ ih => rw [nm_swp (by rw [h.len]; omega) (by rw [h.len]; omega), if_neg (by omega), if_neg (by omega), ih]
theorem Sw.all {a b : Nat} {d d' : List Card} (h : Sw a b d d') {P : Int → Prop} (hP : ∀ k, a ≤ k → k < b → P (nm d k)) : ∀ k, a ≤ k → k < b → P (nm d' k) := by
  induction h with
  | refl => exact hP
  | step h i j _ _ _ _ _ ih =>
    intro k h1 h2
    rw [nm_swp (by rw [h.len]; omega) (by rw [h.len]; omega)]
    split
    · exact ih i (by omega) (by omega)
    · split
      · exact ih j (by omega) (by omega)
      · exact ih k h1 h2
theorem Sw.trans {a b : Nat} {d d' d'' : List Card} (h : Sw a b d d') (k : Sw a b d' d'') : Sw a b d d'' := by
  induction k with
  | refl => exact h
  | step k i j ha hb ha' hb' hl ih => exact .step ih i j ha hb ha' hb' (by rw [← h.len]; exact hl)
theorem Sw.mono {a b a' b' : Nat} {d d' : List Card} (h : Sw a b d d') (ha : a' ≤ a) (hb : b ≤ b') (hl : b' ≤ d.length) : Sw a' b' d d' := by
  induction h with
  | refl => exact .refl
  | step k i j h1 h2 h3 h4 _ ih => exact .step ih i j (by omega) (by omega) (by omega) (by omega) hl
theorem perm_swp {d : List Card} {i j : Nat} (hi : i < d.length) (hj : j < d.length) : ∀ c, (swc d i j).count c = d.count c := by
  intro c
  unfold swc
  rw [gl_eq hi, gl_eq hj]
  rw [List.count_set (by simpa using hj), List.count_set hi]
  simp only [List.getElem_set]
  have p1 : d[i] = c → 0 < d.count c := fun h => List.count_pos_iff.2 (h ▸ List.getElem_mem hi)
  have p2 : d[j] = c → 0 < d.count c := fun h => List.count_pos_iff.2 (h ▸ List.getElem_mem hj)
  by_cases hij : i = j
  · subst hij
    by_cases h1 : d[i] = c
    · have := p1 h1; simp [h1] <;> omega
    · simp [h1]
  · by_cases h1 : d[i] = c <;> by_cases h2 : d[j] = c
    · have := p1 h1; simp [h1, h2, hij]; omega
    · have := p1 h1; simp [h1, h2, hij]; omega
    · have := p2 h2; simp [h1, h2, hij]
    · simp [h1, h2, hij]
theorem Sw.count {a b : Nat} {d d' : List Card} (h : Sw a b d d') (c : Card) : d'.count c = d.count c := by
  induction h with
  | refl => rfl
  | step h i j _ _ _ _ _ ih => rw [perm_swp (by rw [h.len]; omega) (by rw [h.len]; omega), ih]
def Srt (d : List Card) (a b : Nat) : Prop := ∀ p q, a ≤ p → p < q → q < b → nm d p ≤ nm d q
def Post (a b : Nat) (d0 : List Card) (o : Opt (List Card)) : Prop := ∃ d, o = some d ∧ Sw a b d0 d ∧ Srt d a b
end Go.Pl
namespace Go.Pl
open Go Go.Tv Go.RowKit
set_option linter.unusedVariables false
theorem t3_in012 {x : Int} (h : 0 ≤ x ∧ x ≤ 2) : x = 0 ∨ x = 1 ∨ x = 2 := by omega
theorem t3_back' {x y : Int} (hx : 0 ≤ x ∧ x ≤ 2) (hy : 0 ≤ y ∧ y ≤ 2) : t3 x (t3 x y) = y := by
  rcases t3_in012 hx with rfl | rfl | rfl <;> rcases t3_in012 hy with rfl | rfl | rfl <;> decide
theorem th_comm (a b : Card) : third a b = third b a := by
  have e : ∀ x y : Int, t3 x y = t3 y x := fun x y => by unfold t3; congr 1; omega
  unfold third; rw [e a.x0, e a.x1, e a.x2, e a.x3]
theorem th_back {a b : Card} (ha : isC a = true) (hb : isC b = true) : third a (third a b) = b := by
  rw [isC_iff] at ha hb
  unfold third
  simp only []
  rw [t3_back' ha.1 hb.1, t3_back' ha.2.1 hb.2.1, t3_back' ha.2.2.1 hb.2.2.1, t3_back' ha.2.2.2 hb.2.2.2]
structure HandL (h : List Card) : Prop where
  c : AllC h
  nd : h.Nodup
  len : h.length ≤ 100
theorem HandL.of {h : List Card} (hh : hand h = true) : HandL h := ⟨hand_all hh, hand_nodup hh, by have := hand_len hh; omega⟩
def pr1 (h : List Card) (c : Card) (i j : Nat) : List (V2 Int) := if lineB (gl ⟨0, 0, 0, 0⟩ h i) (gl ⟨0, 0, 0, 0⟩ h j) c = true then [⟨i, j⟩] else []
def pr2 (h : List Card) (c : Card) (i : Nat) : List (V2 Int) := (List.range' (i + 1) (h.length - (i + 1))).flatMap (pr1 h c i)
def prs (h : List Card) (c : Card) : List (V2 Int) := (List.range' 0 (h.length - 0)).flatMap (pr2 h c)
def thr (h : List Card) (c : Card) : Nat := (prs h c).length
def outOK (h : List Card) (b : Bool) (k : Nat) : Bool := !h.contains (cardAt k) && (decide (0 < thr h (cardAt k)) == b)
end Go.Pl
namespace Go.Pl
open Go Go.Tv
def S : Nat → (Nat → Nat) → Nat
  | 0, _ => 0
  | n + 1, f => S n f + f n
def T (n : Nat) (g : Nat → Nat → Nat) : Nat := S n fun i => S i (g i)
def b2 (b : Bool) : Nat := if b = true then 1 else 0
end Go.Pl
namespace Go.Pl
open Go Go.Tv Go.RowKit
set_option linter.unusedVariables false
abbrev gz (h : List Card) (i : Nat) : Card := gl (⟨0, 0, 0, 0⟩ : Card) h i
theorem place_get {h : List Card} {c : Card} {k : Nat} (e : place h c = (k : Int)) : k < h.length ∧ gz h k = c := by
  unfold place placeI at e
  cases hf : h.findIdx? (fun x => decide (x = c)) with
  | none => rw [hf] at e; simp only at e; omega
  | some i =>
    rw [hf] at e
    simp only at e
    obtain ⟨h1, h2, _⟩ := List.findIdx?_eq_some_iff_getElem.1 hf
    have : i = k := by omega
    subst this
    refine ⟨h1, ?_⟩
    show gl _ h i = c
    rw [gl_eq h1]; exact of_decide_eq_true h2
theorem place_gz {h : List Card} (H : HandL h) {k : Nat} (hk : k < h.length) : place h (gz h k) = (k : Int) := by
  refine place_of H.nd ?_
  rw [List.getElem?_eq_getElem hk]
  show some h[k] = some (gl _ h k)
  rw [gl_eq hk]
structure LineAt (h : List Card) (i j k : Nat) : Prop where
  ij : i < j
  jk : j < k
  kl : k < h.length
  e : third (gz h i) (gz h j) = gz h k
theorem mem_lines {h : List Card} (H : HandL h) {x : V3 Int} : x ∈ linesOf h ↔ ∃ i j k : Nat, x = ⟨(i : Int), (j : Int), (k : Int)⟩ ∧ LineAt h i j k := by
  unfold linesOf ln2
  simp only [List.mem_flatMap, List.mem_range'_1]
  constructor
  · rintro ⟨i, ⟨_, hi⟩, j, ⟨hj1, hj2⟩, hx⟩
    unfold ln1 at hx
    split at hx
    · rename_i hp
      obtain ⟨k, hk⟩ : ∃ k : Nat, place h (third (gl zz h i) (gl zz h j)) = (k : Int) := ⟨(place h (third (gl zz h i) (gl zz h j))).toNat, by omega⟩
      obtain ⟨g1, g2⟩ := place_get hk
      rw [List.mem_singleton] at hx
      exact ⟨i, j, k, by rw [hx, hk], by omega, by omega, g1, g2.symm⟩
    · cases hx
  · rintro ⟨i, j, k, rfl, L⟩
    have h1 := L.ij; have h2 := L.jk; have h3 := L.kl
    refine ⟨i, ⟨by omega, by omega⟩, j, ⟨by omega, by omega⟩, ?_⟩
    have hp : place h (third (gl zz h i) (gl zz h j)) = (k : Int) := by
      have : third (gl zz h i) (gl zz h j) = gz h k := L.e
      rw [this, place_gz H L.kl]
    unfold ln1
    rw [hp, if_pos (by omega)]
    exact List.mem_singleton.2 rfl
theorem LineAt.all {h : List Card} (H : HandL h) {i j k : Nat} (L : LineAt h i j k) : third (gz h i) (gz h j) = gz h k ∧ third (gz h i) (gz h k) = gz h j ∧ third (gz h j) (gz h k) = gz h i := by
  have h1 := L.ij; have h2 := L.jk; have h3 := L.kl
  have ci : isC (gz h i) = true := gl_C H.c (by omega)
  have cj : isC (gz h j) = true := gl_C H.c (by omega)
  refine ⟨L.e, ?_, ?_⟩
  · rw [← L.e, th_back ci cj]
  · rw [← L.e, th_comm (gz h i), th_back cj ci]
end Go.Pl
