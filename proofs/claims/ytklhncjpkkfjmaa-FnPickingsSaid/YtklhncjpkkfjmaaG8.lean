/- Plain laws: LPk3, LWs, LPk4, LPo, R56, R57. -/
import Derived.Test.YtklhncjpkkfjmaaG7
import Derived.Test.YtklhncjpkkfjmaaG2
set_option linter.unusedVariables false
set_option linter.unusedSimpArgs false
namespace Go.Pl
open Go Go.Tv Go.RowKit
set_option linter.unusedVariables false
set_option linter.unusedSimpArgs false

/-! lines are in order; lists of disjoint lines -/
theorem lines_bef (h : List Card) : (linesOf h).Pairwise fun a b => bef a b = true := by
  have m1 : ∀ i j x, x ∈ ln1 h i j → x.x0 = (i : Int) ∧ x.x1 = (j : Int) := fun i j x hx => by
    unfold ln1 at hx
    split at hx
    · rw [List.mem_singleton] at hx; rw [hx]; exact ⟨rfl, rfl⟩
    · cases hx
  have m2 : ∀ i x, x ∈ ln2 h i → x.x0 = (i : Int) := fun i x hx => by
    unfold ln2 at hx
    obtain ⟨j, _, hx⟩ := List.mem_flatMap.1 hx
    exact (m1 i j x hx).1
  unfold linesOf
  rw [List.pairwise_flatMap]
  refine ⟨fun i _ => ?_, List.Pairwise.imp (fun {a b} hab x hx y hy => ?_) (List.pairwise_lt_range' (step := 1))⟩
  · unfold ln2
    rw [List.pairwise_flatMap]
    refine ⟨fun j _ => ?_, List.Pairwise.imp (fun {a b} hab x hx y hy => ?_) (List.pairwise_lt_range' (step := 1))⟩
    · unfold ln1; split
      · exact List.pairwise_singleton _ _
      · exact List.Pairwise.nil
    · have h1 := m1 i a x hx; have h2 := m1 i b y hy
      unfold bef
      rw [if_pos (by omega), if_neg (by omega)]
      exact decide_eq_true (by omega)
  · have h1 := m2 a x hx; have h2 := m2 b y hy
    unfold bef
    rw [if_neg (by omega)]
    exact decide_eq_true (by omega)
structure PkL (ls L : List Ln) : Prop where
  m : ∀ x ∈ L, x ∈ ls
  b : L.Pairwise fun a b => bef a b = true
  d : L.Pairwise fun a b => meets a b = false
theorem PkL.nil (ls : List Ln) : PkL ls [] := ⟨fun x h => (by cases h), List.Pairwise.nil, List.Pairwise.nil⟩
theorem Q_pk {full : List Ln} : ∀ {ls I : List Ln}, (∀ x ∈ ls, x ∈ full) → ls.Pairwise (fun a b => bef a b = true) → PkL full I → (∀ a ∈ I, ∀ x ∈ ls, bef a x = true) → ∀ L ∈ Q ls I, PkL full L
  | [], I, _, _, _, _, L, hL => by cases hL
  | x :: ls, I, hm, hp, P, hb, L, hL => by
    obtain ⟨p1, p2⟩ := List.pairwise_cons.1 hp
    rw [Q, List.mem_append] at hL
    rcases hL with hL | hL
    · split at hL
      · rename_i hf
        unfold fr at hf
        rw [Bool.not_eq_true'] at hf
        have hf : ∀ a ∈ I, meets a x = false := fun a ha => by
          rw [← Bool.not_eq_true]
          intro hmt
          rw [List.any_eq_false] at hf
          exact hf a ha hmt
        have P' : PkL full (I ++ [x]) := ⟨fun y hy => by
            rcases List.mem_append.1 hy with hy | hy
            · exact P.m y hy
            · rw [List.mem_singleton.1 hy]; exact hm x List.mem_cons_self,
          List.pairwise_append.2 ⟨P.b, List.pairwise_singleton _ _, fun a ha c hc => by rw [List.mem_singleton.1 hc]; exact hb a ha x List.mem_cons_self⟩,
          List.pairwise_append.2 ⟨P.d, List.pairwise_singleton _ _, fun a ha c hc => by rw [List.mem_singleton.1 hc]; exact hf a ha⟩⟩
        rcases List.mem_cons.1 hL with rfl | hL
        · exact P'
        · refine Q_pk (fun y hy => hm y (List.mem_cons_of_mem _ hy)) p2 P' (fun a ha y hy => ?_) L hL
          rcases List.mem_append.1 ha with ha | ha
          · exact hb a ha y (List.mem_cons_of_mem _ hy)
          · rw [List.mem_singleton.1 ha]; exact p1 y hy
      · cases hL
    · exact Q_pk (fun y hy => hm y (List.mem_cons_of_mem _ hy)) p2 P (fun a ha y hy => hb a ha y (List.mem_cons_of_mem _ hy)) L hL
def allQ (ls : List Ln) : List (List Ln) := [] :: Q ls []
theorem allQ_pk {h : List Card} {L : List Ln} (hL : L ∈ allQ (linesOf h)) : PkL (linesOf h) L := by
  rcases List.mem_cons.1 hL with rfl | hL
  · exact PkL.nil _
  · exact Q_pk (fun x hx => hx) (lines_bef h) (PkL.nil _) (fun a ha => by cases ha) L hL
theorem greedy_Q : ∀ (ls I : List Ln), ls.foldl pickG I = I ∨ ls.foldl pickG I ∈ Q ls I
  | [], I => .inl rfl
  | x :: ls, I => by
    rw [List.foldl_cons, Q]
    unfold fr
    cases hf : I.any (fun b => meets b x) with
    | true =>
      have e : pickG I x = I := by unfold pickG; rw [hf]; rfl
      rw [e]
      simp only [Bool.not_true, Bool.false_eq_true, if_false, List.nil_append]
      exact greedy_Q ls I
    | false =>
      have e : pickG I x = I ++ [x] := by unfold pickG; rw [hf]; rfl
      rw [e]
      simp only [Bool.not_false, if_true]
      right
      rcases greedy_Q ls (I ++ [x]) with h | h
      · exact List.mem_append_left _ (by rw [h]; exact List.mem_cons_self)
      · exact List.mem_append_left _ (List.mem_cons_of_mem _ h)
theorem greedy_allQ (ls : List Ln) : greedy ls ∈ allQ ls := by
  rcases greedy_Q ls [] with h | h
  · unfold greedy; rw [h]; exact List.mem_cons_self
  · exact List.mem_cons_of_mem _ h
theorem glL {L : List Ln} {i : Nat} (h : i < L.length) : gl (⟨0, 0, 0⟩ : Ln) L i = L[i] := gl_eq h
theorem pkB_of {ls L : List Ln} (P : PkL ls L) : pkB ls L = true := by
  unfold pkB
  rw [List.all_eq_true]
  intro i hi
  rw [List.mem_range'_1] at hi
  have hi' : i < L.length := by omega
  unfold pkF
  rw [Bool.and_eq_true, Bool.and_eq_true, glL hi']
  refine ⟨⟨List.contains_iff_mem.2 (P.m _ (List.getElem_mem hi')), ?_⟩, ?_⟩
  · by_cases h0 : i = 0
    · rw [decide_eq_true h0]; rfl
    · rw [decide_eq_false h0, Bool.false_or, glL (show i - 1 < L.length by omega)]
      exact List.pairwise_iff_getElem.1 P.b (i - 1) i (by omega) hi' (by omega)
  · unfold fr
    rw [Bool.not_eq_true', List.any_eq_false]
    intro a ha
    obtain ⟨j, hj, rfl⟩ := List.getElem_of_mem ha
    rw [List.length_take] at hj
    rw [List.getElem_take]
    rw [List.pairwise_iff_getElem.1 P.d j i (by omega) hi' (by omega)]
    simp
/-- what a picking is needed for: its lines are lines, no two meet -/
theorem pkB_dis {ls L : List Ln} (h : pkB ls L = true) : (∀ x ∈ L, x ∈ ls) ∧ L.Pairwise fun a b => meets a b = false := by
  unfold pkB at h
  rw [List.all_eq_true] at h
  have hF : ∀ i (hi : i < L.length), L[i] ∈ ls ∧ ∀ j (hj : j < i), meets (L[j]'(by omega)) L[i] = false := fun i hi => by
    have := h i (by rw [List.mem_range'_1]; omega)
    unfold pkF at this
    rw [Bool.and_eq_true, Bool.and_eq_true, glL hi] at this
    refine ⟨List.contains_iff_mem.1 this.1.1, fun j hj => ?_⟩
    have h2 := this.2
    unfold fr at h2
    rw [Bool.not_eq_true', List.any_eq_false] at h2
    have := h2 (L[j]'(by omega)) (by
      rw [List.mem_take_iff_getElem]
      exact ⟨j, by omega, rfl⟩)
    simpa using this
  refine ⟨fun x hx => ?_, List.pairwise_iff_getElem.2 fun i j hi hj hij => (hF j hj).2 i hij⟩
  obtain ⟨i, hi, rfl⟩ := List.getElem_of_mem hx
  exact (hF i hi).1

/-! cards left -/
def onA (L : List Ln) (k : Nat) : Bool := L.any fun l => onI l (k : Int)
def lft1 (h : List Card) (L : List Ln) (k : Nat) : List Card := if onA L k = true then [] else [gl ⟨0, 0, 0, 0⟩ h k]
def lft (h : List Card) (L : List Ln) : List Card := (List.range' 0 (h.length - 0)).flatMap (lft1 h L)
def LK (h : List Card) (L : List Ln) : Bool × List Card := if hand h && pkB (linesOf h) L then (true, lft h L) else (false, [])
theorem lft_len (h : List Card) (L : List Ln) : (lft h L).length ≤ h.length := by
  have := flen (l := List.range' 0 (h.length - 0)) (f := lft1 h L) (M := 1) fun k _ => by unfold lft1; split <;> simp
  rw [List.length_range', Nat.sub_zero, Nat.mul_one] at this
  exact this
theorem contL_eq {n : Nat} (hn : BIG ≤ n) {l : List Ln} (hl : l.length ≤ 1000000) (k : Int) : slices_ContainsFunc_SA3_A3_'l_i_LeftCards_1p n l k = some (l.any fun b => onI b k, k) := by
  unfold slices_ContainsFunc_SA3_A3_'l_i_LeftCards_1p slices_IndexFunc_SA3_A3_'l_i_LeftCards_1p
  have := fx_find (B := slices_IndexFunc_SA3_A3_'l_i_LeftCards_1p_L1 n) l (fun i => (l, (l.length : Int), (i : Int), k)) (fun b => onI b k) (fun i => some ((i : Int), k)) (some (-1, k)) (fun self i hi => ?_) (fun self => ?_) n (big_gt hn (by omega))
  · have e : ((0 : Nat) : Int) = 0 := rfl
    simp only [e] at this
    rw [this, ← findIdx?_any]; cases l.findIdx? _ <;> simp
  · simp only [slices_IndexFunc_SA3_A3_'l_i_LeftCards_1p_L1, i_LeftCards_1'p, lt_eq]
    rw [br_pos (decide_eq_true (show (i : Int) < (l.length : Int) by omega)), ckb_pos (inb_ok hi), toNat_cast, gl_eq hi, slices_Contains_int_eq hn (by show 3 ≤ 9223372036854775807; omega), contains_onI, w64_succ (by omega)]
    cases onI l[i] k <;> simp
  · simp only [slices_IndexFunc_SA3_A3_'l_i_LeftCards_1p_L1]
    rw [br_neg (decide_eq_false (by omega))]
theorem i_LeftCards_eq {n : Nat} (hn : BIG ≤ n) {h : List Card} (hl : h.length ≤ 1048576) {L : List Ln} (hL : L.length ≤ 1000000) : i_LeftCards n h L = some (LK h L) := by
  unfold i_LeftCards LK
  rw [i_IsHand_eq hn (by omega), ob_some]
  cases hh : hand h with
  | false => rfl
  | true =>
    have h27 := hand_len hh
    simp only [Bool.not_true, br_false]
    rw [i_pick_eq hn hh hL]
    cases hp : pkB (linesOf h) L with
    | false => rfl
    | true =>
      have hb := lft_len h L
      simp only [ob_some, Bool.not_true, br_false]
      have := fx_app (B := i_LeftCards_L1 n) h.length (fun i a => (L, h, (h.length : Int), (i : Int), a)) (lft1 h L) (fun a => some (true, a)) 1000 (fun self i a hi hM => by
        simp only [i_LeftCards_L1, lt_eq]
        rw [br_pos (decide_eq_true (show (i : Int) < (h.length : Int) by omega)), ckb_pos (inb_ok hi), contL_eq hn hL, ob_some, w64_succ (by omega)]
        show br (!onA L i) _ _ = _
        unfold lft1 at hM ⊢
        cases hq : onA L i with
        | true => simp
        | false =>
          rw [hq] at hM
          simp only [Bool.false_eq_true, if_false, List.length_singleton] at hM
          simp only [Bool.not_false, br_true, Bool.false_eq_true, if_false, toNat_cast]
          rw [ckb_pos (apok_ok (by omega) (by omega))]) (fun self a => by
        simp only [i_LeftCards_L1]
        rw [br_neg (decide_eq_false (by omega))]) n 0 [] (Nat.zero_le _) (big_gt hn (by omega)) (by unfold lft at hb; simp only [List.length_nil]; omega)
      rw [List.nil_append] at this
      exact this
theorem s_LeftCards_eq {n : Nat} (hn : BIG ≤ n) {h : List Card} (hl : h.length ≤ 1048576) {L : List Ln} (hL : L.length ≤ 1000000) : s_LeftCards n h L = some (LK h L) := by
  unfold s_LeftCards LK
  rw [s_l2Hand_eq hn (by omega), ob_some]
  cases hh : hand h with
  | false => rfl
  | true =>
    have h27 := hand_len hh
    simp only [Bool.not_true, br_false]
    rw [s_pick_eq hn hh hL]
    cases hp : pkB (linesOf h) L with
    | false => rfl
    | true =>
      have hb := lft_len h L
      simp only [ob_some, Bool.not_true, br_false]
      have := fx_app (B := s_LeftCards_L1 n) h.length (fun i a => (h, L, (i : Int), a)) (lft1 h L) (fun a => some (true, a)) 1000 (fun self i a hi hM => by
        simp only [s_LeftCards_L1, lt_eq]
        rw [br_pos (decide_eq_true (show (i : Int) < (h.length : Int) by omega)), s_l7At_eq hn hL, ob_some, w64_succ (by omega)]
        have e : decide (((L.filter fun l => onI l (i : Int)).length : Int) = 0) = !onA L i := by
          unfold onA
          rw [Bool.eq_iff_iff, decide_eq_true_iff, Bool.not_eq_true', List.any_eq_false]
          constructor
          · intro h0 a ha hx
            have : a ∈ L.filter fun l => onI l (i : Int) := List.mem_filter.2 ⟨ha, hx⟩
            rw [List.length_eq_zero_iff.1 (show (L.filter fun l => onI l (i : Int)).length = 0 by omega)] at this
            cases this
          · intro h0
            have : L.filter (fun l => onI l (i : Int)) = [] := List.filter_eq_nil_iff.2 fun a ha => h0 a ha
            rw [this]; rfl
        rw [e]
        unfold lft1 at hM ⊢
        cases hq : onA L i with
        | true => simp
        | false =>
          rw [hq] at hM
          simp only [Bool.false_eq_true, if_false, List.length_singleton] at hM
          simp only [Bool.not_false, br_true, Bool.false_eq_true, if_false]
          rw [ckb_pos (inb_ok hi), ckb_pos (apok_ok (by omega) (by omega)), toNat_cast]) (fun self a => by
        simp only [s_LeftCards_L1]
        rw [br_neg (decide_eq_false (by omega))]) n 0 [] (Nat.zero_le _) (big_gt hn (by omega)) (by unfold lft at hb; simp only [List.length_nil]; omega)
      rw [List.nil_append] at this
      exact this
end Go.Pl
namespace Go.Pl
open Go Go.Tv Go.RowKit
set_option linter.unusedVariables false
set_option linter.unusedSimpArgs false

/-! sums over places -/
def W (f : Nat → Int) : Nat → Int
  | 0 => 0
  | n + 1 => W f n + f n
theorem W_range (f : Nat → Int) : ∀ n, ((List.range' 0 (n - 0)).map f).sum = W f n
  | 0 => rfl
  | n + 1 => by
    have ih := W_range f n
    rw [Nat.sub_zero] at ih ⊢
    rw [List.range'_concat, List.map_append, List.sum_append, ih, W]
    simp
theorem W_congr {f g : Nat → Int} : ∀ {n : Nat}, (∀ i, i < n → f i = g i) → W f n = W g n
  | 0, _ => rfl
  | n + 1, h => by rw [W, W, W_congr fun i hi => h i (by omega), h n (by omega)]
theorem W_sub (f g : Nat → Int) : ∀ n, W (fun i => f i - g i) n = W f n - W g n
  | 0 => rfl
  | n + 1 => by rw [W, W, W, W_sub f g n]; omega
theorem W_ind (v : Int) (i : Nat) : ∀ n, W (fun k => if k = i then v else 0) n = if i < n then v else 0
  | 0 => rfl
  | n + 1 => by
    rw [W, W_ind v i n]
    by_cases a : i < n
    · rw [if_pos a, if_neg (by omega), if_pos (by omega)]; omega
    · by_cases b : n = i
      · rw [if_neg a, if_pos b, if_pos (by omega)]; omega
      · rw [if_neg a, if_neg b, if_neg (by omega)]; omega
theorem sm_W (F : Card → Int) (h : List Card) : sm F h = W (fun k => F (gz h k)) h.length := by
  have : h = (List.range' 0 (h.length - 0)).map (gz h) := by
    refine List.ext_getElem (by simp) fun i h1 h2 => ?_
    rw [List.getElem_map, List.getElem_range']
    have : gz h i = h[i] := gl_eq h1
    simp [this]
  conv => lhs; rw [this]
  unfold sm
  rw [List.map_map, ← W_range]; rfl
theorem line_sum {h : List Card} (H : HandL h) {i j k : Nat} (L : LineAt h i j k) (q : Nat) : (cx q (gz h i) + cx q (gz h j) + cx q (gz h k)) % 3 = 0 := by
  have ci : isC (gz h i) = true := gl_C H.c (by have := L.ij; have := L.jk; have := L.kl; omega)
  have cj : isC (gz h j) = true := gl_C H.c (by have := L.jk; have := L.kl; omega)
  rw [← L.e]
  rw [isC_iff] at ci cj
  have key : ∀ x y : Int, 0 ≤ x ∧ x ≤ 2 → 0 ≤ y ∧ y ≤ 2 → (x + y + t3 x y) % 3 = 0 := fun x y hx hy => by
    unfold t3
    rw [Int.tmod_eq_emod_of_nonneg (by omega)]; omega
  unfold cx third
  match q with
  | 0 => exact key _ _ ci.1 cj.1
  | 1 => exact key _ _ ci.2.1 cj.2.1
  | 2 => exact key _ _ ci.2.2.1 cj.2.2.1
  | q + 3 => exact key _ _ ci.2.2.2 cj.2.2.2

end Go.Pl
namespace Go.Pl
open Go Go.Tv Go.RowKit
set_option linter.unusedVariables false
set_option linter.unusedSimpArgs false

/-! sums and counts of the cards left -/
def lF (F : Card → Int) (h : List Card) (l : Ln) : Int := F (gz h l.x0.toNat) + F (gz h l.x1.toNat) + F (gz h l.x2.toNat)
theorem onI_at {i j k : Nat} (q : Nat) : onI ⟨(i : Int), (j : Int), (k : Int)⟩ (q : Int) = (decide (q = i) || decide (q = j) || decide (q = k)) := by
  unfold onI
  rw [Bool.eq_iff_iff]
  simp only [Bool.or_eq_true, decide_eq_true_eq]
  omega
theorem W_line (F : Card → Int) {h : List Card} {i j k : Nat} (L : LineAt h i j k) : W (fun q => if onI ⟨(i : Int), (j : Int), (k : Int)⟩ (q : Int) = true then F (gz h q) else 0) h.length = F (gz h i) + F (gz h j) + F (gz h k) := by
  have h1 := L.ij; have h2 := L.jk; have h3 := L.kl
  have e : ∀ q, q < h.length → (if onI ⟨(i : Int), (j : Int), (k : Int)⟩ (q : Int) = true then F (gz h q) else 0) = (fun q => (fun q => (fun q => if q = i then F (gz h i) else 0) q - (if q = j then - F (gz h j) else 0)) q - (if q = k then - F (gz h k) else 0)) q := fun q _ => by
    rw [onI_at]
    simp only []
    by_cases a : q = i
    · subst a; simp [show ¬ q = j by omega, show ¬ q = k by omega]
    · by_cases b : q = j
      · subst b; simp [show ¬ q = i by omega, show ¬ q = k by omega]
      · by_cases c : q = k
        · subst c; simp [show ¬ q = i by omega, show ¬ q = j by omega]
        · simp [a, b, c]
  rw [W_congr e, W_sub, W_sub, W_ind, W_ind, W_ind, if_pos (by omega), if_pos (by omega), if_pos h3]
  omega
theorem meets_on {a b : Ln} {q : Int} (ha : onI a q = true) (hb : onI b q = true) : meets a b = true := by
  unfold meets
  rw [List.any_eq_true]
  rw [← contains_onI] at ha hb
  exact ⟨q, List.contains_iff_mem.1 ha, hb⟩
theorem lft_W (F : Card → Int) (h : List Card) (L : List Ln) : sm F (lft h L) = W (fun k => if onA L k = true then 0 else F (gz h k)) h.length := by
  rw [← W_range]
  unfold lft
  generalize List.range' 0 (h.length - 0) = R
  induction R with
  | nil => rfl
  | cons x R ih =>
    rw [List.flatMap_cons, sm_app, ih, List.map_cons, List.sum_cons]
    congr 1
    unfold lft1
    split
    · rfl
    · rw [sm_cons, sm_nil, Int.add_zero]
theorem lft_sum (F : Card → Int) {h : List Card} (H : HandL h) : ∀ {L : List Ln}, (∀ x ∈ L, x ∈ linesOf h) → L.Pairwise (fun a b => meets a b = false) → sm F (lft h L) = sm F h - (L.map (lF F h)).sum
  | [], _, _ => by
    rw [lft_W, sm_W]
    simp only [List.map_nil, List.sum_nil, Int.sub_zero]
    exact W_congr fun i _ => by unfold onA; simp
  | x :: L, hm, hd => by
    obtain ⟨d1, d2⟩ := List.pairwise_cons.1 hd
    have ih := lft_sum F H (L := L) (fun y hy => hm y (List.mem_cons_of_mem _ hy)) d2
    obtain ⟨i, j, k, e, LA⟩ := (mem_lines H).1 (hm x List.mem_cons_self)
    have hx : lF F h x = F (gz h i) + F (gz h j) + F (gz h k) := by rw [e]; rfl
    have e2 : ∀ q, q < h.length → (if onA (x :: L) q = true then 0 else F (gz h q)) = (fun q => (fun q => if onA L q = true then 0 else F (gz h q)) q - (fun q : Nat => if onI x (q : Int) = true then F (gz h q) else 0) q) q := fun q _ => by
      have ea : onA (x :: L) q = (onI x (q : Int) || onA L q) := by unfold onA; rw [List.any_cons]
      rw [ea]
      simp only []
      cases h1 : onI x (q : Int) with
      | false => simp
      | true =>
        have : onA L q = false := by
          unfold onA
          rw [List.any_eq_false]
          intro y hy hyq
          have := d1 y hy
          rw [meets_on h1 hyq] at this; cases this
        rw [this]; simp
    rw [lft_W, W_congr e2, W_sub, ← lft_W, ih, List.map_cons, List.sum_cons, hx]
    have := W_line F LA
    rw [← e] at this
    rw [this]; omega
theorem lft_length {h : List Card} (H : HandL h) {L : List Ln} (hm : ∀ x ∈ L, x ∈ linesOf h) (hd : L.Pairwise fun a b => meets a b = false) : (lft h L).length + 3 * L.length = h.length := by
  have := lft_sum (fun _ => 1) H hm hd
  rw [sm_one, sm_one] at this
  have e : (L.map (lF (fun _ => 1) h)).sum = 3 * (L.length : Int) := by
    clear this hm hd
    induction L with
    | nil => rfl
    | cons x L ih => rw [List.map_cons, List.sum_cons, ih, List.length_cons, show lF (fun _ => 1) h x = 3 from rfl]; omega
  rw [e] at this; omega
theorem lft_sumC {h : List Card} (H : HandL h) {L : List Ln} (hm : ∀ x ∈ L, x ∈ linesOf h) (hd : L.Pairwise fun a b => meets a b = false) : sumC (lft h L) = sumC h := by
  have key : ∀ q, sm (cx q) (lft h L) % 3 = sm (cx q) h % 3 := fun q => by
    rw [lft_sum (cx q) H hm hd]
    have : (L.map (lF (cx q) h)).sum % 3 = 0 := by
      clear hd
      induction L with
      | nil => rfl
      | cons x L ih =>
        have ih := ih fun y hy => hm y (List.mem_cons_of_mem _ hy)
        obtain ⟨i, j, k, e, LA⟩ := (mem_lines H).1 (hm x List.mem_cons_self)
        have hx : lF (cx q) h x = cx q (gz h i) + cx q (gz h j) + cx q (gz h k) := by rw [e]; rfl
        have := line_sum H LA q
        rw [List.map_cons, List.sum_cons, hx]; omega
    omega
  unfold sumC
  rw [key, key, key, key]
theorem lft_sub (h : List Card) (L : List Ln) : (lft h L).Sublist h := by
  have go : ∀ (m i : Nat), h.length - i = m → i ≤ h.length → ((List.range' i m).flatMap (lft1 h L)).Sublist (h.drop i) := by
    intro m
    induction m with
    | zero => intro i _ _; simp
    | succ m ih =>
      intro i hm hi
      have hlt : i < h.length := by omega
      rw [List.range'_succ, List.flatMap_cons, List.drop_eq_getElem_cons hlt]
      have ih := ih (i + 1) (by omega) (by omega)
      unfold lft1
      split
      · exact ih.cons _
      · rw [gl_eq hlt]; exact ih.cons_cons _
  have := go h.length 0 rfl (Nat.zero_le _)
  unfold lft
  simpa using this
theorem lft_hand {h : List Card} (hh : hand h = true) (L : List Ln) : hand (lft h L) = true := by
  obtain ⟨h1, h2, h3⟩ := hand_iff.1 hh
  have hs := lft_sub h L
  exact hand_iff.2 ⟨fun c hc => h1 c (hs.mem hc), ss_sub h2 hs, by have := hs.length_le; omega⟩

/-! counts of pickings of few lines -/
def Z (ls I : List Ln) (l : Nat) : Nat := (Q ls I).countP fun L => decide (L.length = I.length + (l + 1))
theorem Z_s0 (x : Ln) (ls I : List Ln) : Z (x :: ls) I 0 = (if fr I x = true then 1 else 0) + Z ls I 0 := by
  unfold Z
  rw [Q, List.countP_append]
  congr 1
  split
  · rw [List.countP_cons]
    have : (Q ls (I ++ [x])).countP (fun L => decide (L.length = I.length + (0 + 1))) = 0 := List.countP_eq_zero.2 fun L hL => by
      have := Q_gt hL
      rw [List.length_append, List.length_singleton] at this
      simp; omega
    rw [this]; simp
  · rfl
theorem Z_ss (x : Ln) (ls I : List Ln) (l : Nat) : Z (x :: ls) I (l + 1) = (if fr I x = true then Z ls (I ++ [x]) l else 0) + Z ls I (l + 1) := by
  unfold Z
  rw [Q, List.countP_append]
  congr 1
  split
  · rw [List.countP_cons]
    have e1 : decide ((I ++ [x]).length = I.length + (l + 1 + 1)) = false := decide_eq_false (by rw [List.length_append, List.length_singleton]; omega)
    rw [e1]
    have e2 : ∀ L : List Ln, decide (L.length = (I ++ [x]).length + (l + 1)) = decide (L.length = I.length + (l + 1 + 1)) := fun L => by
      congr 1; apply propext; rw [List.length_append, List.length_singleton]; omega
    simp only [e2]; simp
  · rfl
theorem Z1 : ∀ ls : List Ln, Z ls [] 0 = ls.length
  | [] => rfl
  | x :: ls => by rw [Z_s0, Z1 ls, List.length_cons, show fr [] x = true from rfl, if_pos rfl]; omega
theorem Z1a (x : Ln) : ∀ ls : List Ln, Z ls [x] 0 + ls.countP (fun y => meets x y) = ls.length
  | [] => rfl
  | y :: ls => by
    have ih := Z1a x ls
    rw [Z_s0, List.countP_cons, List.length_cons]
    have : fr [x] y = !meets x y := by unfold fr; simp
    rw [this]
    cases meets x y <;> simp <;> omega
def pm : List Ln → Nat
  | [] => 0
  | x :: ls => ls.countP (fun y => meets x y) + pm ls
theorem Z2 : ∀ ls : List Ln, Z ls [] 1 + pm ls = c2' ls.length
  | [] => rfl
  | x :: ls => by
    have ih := Z2 ls
    have h1 := Z1a x ls
    rw [Z_ss, show fr [] x = true from rfl, if_pos rfl, pm, List.length_cons, c2']
    show Z ls [x] 0 + Z ls [] 1 + _ = _
    omega
theorem S_shift (g : Nat → Nat) : ∀ n, S (n + 1) g = g 0 + S n fun i => g (i + 1)
  | 0 => by simp [S]
  | n + 1 => by rw [S, S_shift g n, S]; omega
theorem T_shift (f : Nat → Nat → Nat) : ∀ n, T (n + 1) f = (S n fun i => f (i + 1) 0) + T n fun i k => f (i + 1) (k + 1)
  | 0 => by simp [T, S]
  | n + 1 => by
    rw [T_succ, T_shift f n, S_shift (f (n + 1)) n, T_succ, S]; omega
theorem pm_T : ∀ ls : List Ln, (T ls.length fun i k => b2 (meets (gl ⟨0, 0, 0⟩ ls k) (gl ⟨0, 0, 0⟩ ls i))) = pm ls
  | [] => rfl
  | x :: ls => by
    rw [List.length_cons, T_shift, pm, ← pm_T ls, ← S_countP (fun y => meets x y) ⟨0, 0, 0⟩ ls]
    rfl
theorem meets_comm' (a b : Ln) : meets a b = decide (0 < comm a b) := by
  have h : ∀ x, hasn x b = 1 ↔ (V3.els b).contains x = true := fun x => by unfold hasn; split <;> rename_i hh <;> simp only [hh, iff_true, iff_false] <;> decide
  have h0 := h a.x0; have h1 := h a.x1; have h2 := h a.x2
  have l0 := hasn_le a.x0 b; have l1 := hasn_le a.x1 b; have l2 := hasn_le a.x2 b
  rw [Bool.eq_iff_iff, decide_eq_true_iff]
  unfold meets comm
  rw [show V3.els a = [a.x0, a.x1, a.x2] from rfl]
  simp only [List.any_cons, List.any_nil, Bool.or_false, Bool.or_eq_true]
  rw [← h0, ← h1, ← h2]; omega
theorem pm_cross {h : List Card} (H : HandL h) : pm (linesOf h) = cross h := by
  rw [← pm_T]
  unfold cross
  refine T_congr fun i k hk hi => ?_
  have hi' : gl (⟨0, 0, 0⟩ : Ln) (linesOf h) i ∈ linesOf h := by rw [gl_eq hi]; exact List.getElem_mem _
  have hk' : gl (⟨0, 0, 0⟩ : Ln) (linesOf h) k ∈ linesOf h := by rw [gl_eq (show k < (linesOf h).length by omega)]; exact List.getElem_mem _
  have hne : gl (⟨0, 0, 0⟩ : Ln) (linesOf h) i ≠ gl (⟨0, 0, 0⟩ : Ln) (linesOf h) k := by
    rw [gl_eq hi, gl_eq (show k < (linesOf h).length by omega)]
    exact fun e => by have := (List.getElem_inj (lines_nd H)).1 e; omega
  have hle := comm_le H hi' hk' hne
  rw [meets_comm, meets_comm']
  unfold b2
  by_cases h0 : 0 < comm (gl ⟨0, 0, 0⟩ (linesOf h) i) (gl ⟨0, 0, 0⟩ (linesOf h) k)
  · rw [decide_eq_true h0, if_pos rfl]; omega
  · rw [decide_eq_false h0, if_neg (by simp)]; omega
def cntQ (ls : List Ln) (a : Int) : Nat := (allQ ls).countP (cntP a)
theorem cntQ_succ (ls : List Ln) (l : Nat) : cntQ ls ((l + 1 : Nat) : Int) = Z ls [] l := by
  unfold cntQ allQ Z
  rw [List.countP_cons]
  have e1 : cntP ((l + 1 : Nat) : Int) [] = false := decide_eq_false (by simp; omega)
  rw [e1]
  have e2 : (fun L : List Ln => decide (L.length = ([] : List Ln).length + (l + 1))) = cntP ((l + 1 : Nat) : Int) := funext fun L => by
    unfold cntP
    congr 1; apply propext; simp; omega
  rw [e2]; simp
theorem cntQ_0 (ls : List Ln) : cntQ ls 0 = 1 := by
  unfold cntQ allQ
  rw [List.countP_cons]
  have : (Q ls []).countP (cntP 0) = 0 := List.countP_eq_zero.2 fun L hL => by
    have := Q_gt hL
    unfold cntP
    simp at this ⊢
    intro e; subst e; simp at this
  rw [this]; rfl
theorem lines40 {h : List Card} (H : HandL h) (h15 : h.length ≤ 15) : (linesOf h).length ≤ 40 := by
  have := open_pairs H
  have hc := c2'_le h15
  have : c2' 15 = 105 := by decide
  omega
end Go.Pl
namespace Go.Pl
open Go Go.Tv Go.RowKit
set_option linter.unusedVariables false
set_option linter.unusedSimpArgs false

def poolB (h : List Card) : Bool := hand h && decide (h.length ≤ 15)
theorem s_l3Pool_eq {n : Nat} (hn : BIG ≤ n) {h : List Card} (hl : h.length ≤ 1048576) : s_l3Pool n h = some (poolB h) := by
  unfold s_l3Pool poolB
  rw [s_l2Hand_eq hn (by omega)]
  have e : decide ((h.length : Int) ≤ 15) = decide (h.length ≤ 15) := by congr 1; apply propext; omega
  rw [e]
  cases hand h <;> rfl
theorem i_isPool_eq {n : Nat} (hn : BIG ≤ n) {h : List Card} (hl : h.length ≤ 1048576) : i_isPool n h = some (poolB h) := by
  unfold i_isPool poolB
  rw [i_IsHand_eq hn (by omega)]
  have e : decide ((h.length : Int) ≤ 15) = decide (h.length ≤ 15) := by congr 1; apply propext; omega
  rw [e]
  cases hand h <;> rfl
end Go.Pl
namespace Go.Pl
open Go Go.Tv Go.RowKit
set_option linter.unusedVariables false
set_option linter.unusedSimpArgs false

theorem s_l7Pool_eq {n : Nat} (hn : BIG ≤ n) {h : List Card} (hl : h.length ≤ 1048576) : s_l7Pool n h = some (poolB h) := s_l3Pool_eq hn hl
theorem i_isParted_eq {n : Nat} (hn : BIG ≤ n) {h : List Card} (hl : h.length ≤ 1048576) : i_isParted n h = some (poolB h) := i_isPool_eq hn hl
def FP (h : List Card) : List Ln := (Q (linesOf h) []).foldl bsl []
theorem FP_ok (h : List Card) : FP h ∈ allQ (linesOf h) ∧ ∀ L ∈ allQ (linesOf h), L.length ≤ (FP h).length := by
  obtain ⟨h1, h2, h3⟩ := bsl_max (Q (linesOf h) []) []
  refine ⟨?_, fun L hL => ?_⟩
  · unfold FP
    rcases h1 with e | e
    · rw [e]; exact List.mem_cons_self
    · exact List.mem_cons_of_mem _ e
  · rcases List.mem_cons.1 hL with rfl | hL
    · exact Nat.zero_le _
    · exact h3 L hL
structure Pool (h : List Card) : Prop where
  hh : hand h = true
  l15 : h.length ≤ 15
theorem pool_of {h : List Card} (hp : poolB h = true) : Pool h := by
  unfold poolB at hp
  rw [Bool.and_eq_true, decide_eq_true_iff] at hp
  exact ⟨hp.1, hp.2⟩
theorem i_first_eq {n : Nat} (hn : BIG ≤ n) {h : List Card} (P : Pool h) : i_firstPicking n h = some (FP h) := by
  have H := HandL.of P.hh
  have h15 := P.l15
  have h40 := lines40 H P.l15
  unfold i_firstPicking i_pickings'll_i_firstPicking_1p_o
  rw [i_linesIn_eq hn (by omega) H.c H.nd, ob_some]
  have := pf_R hn n (linesOf h) [] [] (big_gt hn (by omega)) h40 (by simp; omega)
  rw [this]; rfl
theorem s_best_eq {n : Nat} (hn : BIG ≤ n) {h : List Card} (P : Pool h) : s_l7Best'lk n (linesOf h) [] 0 = some (FP h) := by
  have H := HandL.of P.hh
  have h40 := lines40 H P.l15
  have := sb_R hn h40 n 0 [] (Nat.zero_le _) (Nat.le_refl _) (big_gt hn (by omega))
  rw [List.drop_zero] at this
  exact this
theorem i_cnt_eq {n : Nat} (hn : BIG ≤ n) {h : List Card} (P : Pool h) (a : Int) : i_countPickings n h a = some (cntQ (linesOf h) a : Int) := by
  have H := HandL.of P.hh
  have h15 := P.l15
  have h40 := lines40 H P.l15
  have h2 : 2 ^ (linesOf h).length ≤ 2 ^ 40 := Nat.pow_le_pow_right (by omega) h40
  unfold i_countPickings i_pickings'll_i_countPickings_1pp
  rw [i_linesIn_eq hn (by omega) H.c H.nd, ob_some]
  have := pc_R hn a n (linesOf h) [] 0 (big_gt hn (by omega)) h40 (by simp; omega) (by omega)
  rw [Nat.zero_add] at this
  have e : fx (i_pickings'll_i_countPickings_1pp_R n) n (linesOf h, [], a, 0) = some (a, (cntQ (linesOf h) a : Int)) := this
  rw [e]; rfl
theorem s_cnt_eq {n : Nat} (hn : BIG ≤ n) {h : List Card} (P : Pool h) {l : Nat} (hl : l ≤ 15) : s_l7Count n (linesOf h) [] 0 (l : Int) = some (cntQ (linesOf h) (l : Int) : Int) := by
  have H := HandL.of P.hh
  have h40 := lines40 H P.l15
  have := sc_R hn h40 n 0 [] l (Nat.zero_le _) (Nat.le_refl _) hl (big_gt hn (by omega))
  rw [List.drop_zero] at this
  have e2 : (fun L : List Ln => decide (L.length = ([] : List Ln).length + l)) = cntP (l : Int) := funext fun L => by
    unfold cntP
    congr 1; apply propext; simp; omega
  rw [e2] at this
  exact this
def CPk (h : List Card) (a : Int) : Int × Bool := if poolB h && decide (0 ≤ a ∧ a ≤ 5) then ((cntQ (linesOf h) a : Int), true) else (0, false)
theorem i_CountPickings_eq {n : Nat} (hn : BIG ≤ n) {h : List Card} (hl : h.length ≤ 1048576) (a : Int) : i_CountPickings n h a = some (CPk h a) := by
  unfold i_CountPickings CPk
  rw [i_isParted_eq hn hl, ob_some, i_within_eq]
  cases hp : poolB h with
  | false => rfl
  | true =>
    cases ha : decide (0 ≤ a ∧ a ≤ 5) with
    | false => rfl
    | true =>
      simp only [ob_some, Bool.not_true, br_false]
      rw [i_cnt_eq hn (pool_of hp)]; rfl
theorem s_CountPickings_eq {n : Nat} (hn : BIG ≤ n) {h : List Card} (hl : h.length ≤ 1048576) (a : Int) : s_CountPickings n h a = some (CPk h a) := by
  unfold s_CountPickings CPk
  rw [s_l7Pool_eq hn hl, ob_some, s_l1In_eq]
  cases hp : poolB h with
  | false => rfl
  | true =>
    cases ha : decide (0 ≤ a ∧ a ≤ 5) with
    | false => rfl
    | true =>
      have ha := of_decide_eq_true ha
      have P := pool_of hp
      have h15 := P.l15
      obtain ⟨l, rfl⟩ : ∃ l : Nat, a = l := ⟨a.toNat, by omega⟩
      simp only [ob_some, Bool.not_true, br_false]
      rw [s_l2Lines_eq hn (by omega) (hand_all P.hh), ob_some, s_cnt_eq hn P (by omega)]; rfl
def CPt (h : List Card) : Int × Bool := if poolB h then ((if h.length % 3 = 0 then (cntQ (linesOf h) ((h.length / 3 : Nat) : Int) : Int) else 0), true) else (0, false)
theorem i_CountPartings_eq {n : Nat} (hn : BIG ≤ n) {h : List Card} (hl : h.length ≤ 1048576) : i_CountPartings n h = some (CPt h) := by
  unfold i_CountPartings CPt
  rw [i_isParted_eq hn hl, ob_some]
  cases hp : poolB h with
  | false => rfl
  | true =>
    have P := pool_of hp
    have h15 := P.l15
    have e1 : Int.tmod (h.length : Int) 3 = ((h.length % 3 : Nat) : Int) := by rw [Int.tmod_eq_emod_of_nonneg (by omega)]; omega
    have e2 : w64 (Int.tdiv (h.length : Int) 3) = ((h.length / 3 : Nat) : Int) := by rw [Int.tdiv_eq_ediv_of_nonneg (by omega), w64_id (by omega)]; omega
    simp only [Bool.not_true, br_false, lt_eq]
    rw [e1, e2]
    by_cases h3 : h.length % 3 = 0
    · rw [h3, show decide (((0 : Nat) : Int) = 0) = true from rfl, Bool.not_true, br_false, i_cnt_eq hn P]; rfl
    · rw [decide_eq_false (show ¬ ((h.length % 3 : Nat) : Int) = 0 by omega), Bool.not_false, br_true, if_neg h3]; rfl
theorem s_CountPartings_eq {n : Nat} (hn : BIG ≤ n) {h : List Card} (hl : h.length ≤ 1048576) : s_CountPartings n h = some (CPt h) := by
  unfold s_CountPartings CPt
  rw [s_l7Pool_eq hn hl, ob_some]
  cases hp : poolB h with
  | false => rfl
  | true =>
    have P := pool_of hp
    have h15 := P.l15
    have e1 : Int.tmod (h.length : Int) 3 = ((h.length % 3 : Nat) : Int) := by rw [Int.tmod_eq_emod_of_nonneg (by omega)]; omega
    have e2 : w64 (Int.tdiv (h.length : Int) 3) = ((h.length / 3 : Nat) : Int) := by rw [Int.tdiv_eq_ediv_of_nonneg (by omega), w64_id (by omega)]; omega
    simp only [Bool.not_true, br_false, lt_eq]
    rw [e1, e2]
    by_cases h3 : h.length % 3 = 0
    · rw [h3, show decide (((0 : Nat) : Int) = 0) = true from rfl, Bool.not_true, br_false, s_l2Lines_eq hn (by omega) (hand_all P.hh), ob_some, s_cnt_eq hn P (by omega)]; rfl
    · rw [decide_eq_false (show ¬ ((h.length % 3 : Nat) : Int) = 0 by omega), Bool.not_false, br_true, if_neg h3]; rfl
def IPk (h : List Card) (L : List Ln) : Bool × Bool := if hand h then (pkB (linesOf h) L, true) else (false, false)
theorem i_IsPicking_eq {n : Nat} (hn : BIG ≤ n) {h : List Card} (hl : h.length ≤ 1048576) {L : List Ln} (hL : L.length ≤ 1000000) : i_IsPicking n h L = some (IPk h L) := by
  unfold i_IsPicking IPk
  rw [i_IsHand_eq hn (by omega), ob_some]
  cases hh : hand h with
  | false => rfl
  | true => rw [i_pick_eq hn hh hL]; rfl
theorem s_IsPicking_eq {n : Nat} (hn : BIG ≤ n) {h : List Card} (hl : h.length ≤ 1048576) {L : List Ln} (hL : L.length ≤ 1000000) : s_IsPicking n h L = some (IPk h L) := by
  unfold s_IsPicking IPk
  rw [s_l2Hand_eq hn (by omega), ob_some]
  cases hh : hand h with
  | false => rfl
  | true => rw [s_pick_eq hn hh hL]; rfl

/-! draws -/
theorem picking7_ok {n : Nat} (hn : BIG ≤ n) {m : Nat} {c : Cu} (hc : CuOK m c) (hm : m + 3000 < 4611686018427300000) {h : List Card} (hl : h.length ≤ 29) : ∃ c' L, s_Cur_picking7'pl n h c = some (c', L) ∧ L.length ≤ 800 := by
  unfold s_Cur_picking7'pl
  rw [s_l2Hand_eq hn (by omega), ob_some]
  cases hh : hand h with
  | false => exact ⟨_, _, rfl, by simp⟩
  | true =>
    have h27 := hand_len hh
    have h729 := lines_len27 hh
    rw [Bool.not_true, br_false, s_l2Lines_eq hn (by omega) (hand_all hh), ob_some]
    generalize linesOf h = ls at h729
    refine fx_inv (B := s_Cur_picking7'pl_L2 n) (fun s => ∃ (i : Nat) (c : Cu) (L : List Ln), s = ((i : Int), c, L, ls) ∧ i ≤ ls.length ∧ L.length ≤ i ∧ CuOK (m + 2 * i) c) (fun s => ls.length - s.1.toNat) (fun o => ∃ c' L, o = some (c', L) ∧ L.length ≤ 800) ?_ n _ ⟨0, c, [], rfl, by omega, by simp, hc.mono (by omega)⟩ (big_gt hn (by simp only []; omega))
    rintro self _ ⟨i, c, L, rfl, hi, hL, hc⟩ ih
    simp only [s_Cur_picking7'pl_L2]
    have J1 : ∀ (b : Bool) (c' : Cu), i < ls.length → CuOK (m + 2 * (i + 1)) c' → ∃ c'' L', s_Cur_picking7'pl_J1 n self ((i : Int), b, c', L, ls) = some (c'', L') ∧ L'.length ≤ 800 := by
      intro b c' h1 hc'
      unfold s_Cur_picking7'pl_J1
      simp only [lt_eq]
      rw [w64_succ (by omega)]
      cases b with
      | true =>
        rw [br_true, ckb_pos (inb_ok h1), ckb_pos (apok_ok (by omega) (by omega))]
        exact ih _ ⟨i + 1, c', _, rfl, by omega, by rw [List.length_append, List.length_singleton]; omega, hc'⟩ (by simp only []; omega)
      | false =>
        rw [br_false]
        exact ih _ ⟨i + 1, c', _, rfl, by omega, by omega, hc'⟩ (by simp only []; omega)
    by_cases h1 : i < ls.length
    · rw [br_pos (decide_eq_true (show (i : Int) < (ls.length : Int) by omega)), ckb_pos (inb_ok h1), s_l7Free_eq hn (by omega), ob_some]
      cases (!L.any fun b => meets b (gl ⟨0, 0, 0⟩ ls ((i : Int)).toNat)) with
      | true =>
        rw [br_true]
        obtain ⟨x, c1, e1, k1⟩ := one_ok n hc (by omega) (a := 2) (by omega)
        rw [e1, ob_some]
        exact J1 x c1 h1 (k1.mono (by omega))
      | false =>
        rw [br_false]
        exact J1 false c h1 (hc.mono (by omega))
    · rw [br_neg (decide_eq_false (by omega))]
      obtain ⟨q, c1, e1, k1, q0, q1⟩ := pick_ok n hc (by omega) (a := 16) (by omega)
      rw [e1, ob_some, br_dec]
      split
      · rw [br_dec]
        split
        · obtain ⟨r, c2, e2, k2, r0, r1⟩ := pick_ok n k1 (by omega) (a := (ls.length : Int)) (by omega)
          rw [e2, ob_some, ckb_pos (inb_pos r0 r1), ckb_pos (apok_ok (by omega) (by omega))]
          exact ⟨_, _, rfl, by rw [List.length_append, List.length_singleton]; omega⟩
        · exact ⟨_, _, rfl, by omega⟩
      · rw [br_dec]
        split
        · obtain ⟨r, c2, e2, k2, _⟩ := among_ok n k1 (by omega) (l := [(-1), 0, 4611686018427387904]) (by decide)
          rw [e2, ob_some, lt_eq, ckb_pos (apok_ok (by omega) (by omega))]
          exact ⟨_, _, rfl, by rw [List.length_append, List.length_singleton]; omega⟩
        · exact ⟨_, _, rfl, by omega⟩
theorem DrawFirstPicking_ok {n : Nat} (hn : BIG ≤ n) {a : List Int} (ha : ByB a) : ∃ h, s_DrawFirstPicking n a = some h ∧ h.length ≤ 29 := by
  unfold s_DrawFirstPicking s_DrawLineCounts
  obtain ⟨c1, h, e1, hl, k1⟩ := dense_ok hn (cu0 ha) (by omega)
  rw [lt_eq, e1, ob_some]
  exact ⟨h, rfl, hl⟩
theorem DrawCountPickings_ok {n : Nat} (hn : BIG ≤ n) {a : List Int} (ha : ByB a) : ∃ k h, s_DrawCountPickings n a = some (k, h) ∧ h.length ≤ 29 := by
  unfold s_DrawCountPickings
  obtain ⟨c1, h, e1, hl, k1⟩ := dense_ok hn (cu0 ha) (by omega)
  rw [lt_eq, e1, ob_some]
  obtain ⟨q, c2, e2, k2, q0, q1⟩ := pick_ok n k1 (by omega) (a := 24) (by omega)
  rw [e2, ob_some]
  simp only [lt_eq]
  have hq : Int.tdiv q 11 = q / 11 := Int.tdiv_eq_ediv_of_nonneg q0
  rw [hq, w64_id (x := q / 11) (by omega), w64_id (x := 6 + q / 11) (by omega), ckb_pos (slb_ok (by omega) (by omega) (by omega)), w64_id (by omega)]
  obtain ⟨s1, s2⟩ := sub_among (l := [1, 2, 3, 0, 4, 5, 6, (-1)]) (k := (6 + q / 11 - 0).toNat) (by simp; omega) (by omega) (-1) 6 (by decide)
  obtain ⟨r, c3, e3, k3, hr⟩ := among_ok n k2 (by omega) s1
  rw [e3, ob_some]
  exact ⟨_, _, rfl, hl⟩
theorem DrawIsPicking_ok {n : Nat} (hn : BIG ≤ n) {a : List Int} (ha : ByB a) : ∃ h L, s_DrawIsPicking n a = some (h, L) ∧ h.length ≤ 29 ∧ L.length ≤ 800 := by
  unfold s_DrawIsPicking
  obtain ⟨c1, h, e1, hl, k1⟩ := dense_ok hn (cu0 ha) (by omega)
  rw [lt_eq, e1, ob_some]
  obtain ⟨c2, L, e2, hL⟩ := picking7_ok hn k1 (by omega) hl
  simp only []
  rw [e2, ob_some]
  exact ⟨_, _, rfl, hl, hL⟩
end Go.Pl
namespace Go.Pl
open Go Go.Tv Go.RowKit
set_option linter.unusedVariables false
set_option linter.unusedSimpArgs false

theorem allQ_three {h : List Card} (P : Pool h) {L : List Ln} (hL : L ∈ allQ (linesOf h)) : 3 * L.length ≤ h.length := by
  have K := allQ_pk hL
  have := lft_length (HandL.of P.hh) K.m K.d
  omega
theorem pk_J1 (n : Nat) {h : List Card} (P : Pool h) : v_FnPickings_J1 n (((FP h).length : Int), (CPt h).1, h) = some true := by
  have h15 := P.l15
  obtain ⟨g1, g2⟩ := FP_ok h
  have g3 := allQ_three P g1
  unfold v_FnPickings_J1
  simp only [lt_eq]
  rw [w64_id (x := 3 * ((FP h).length : Int)) (by omega)]
  have hp : poolB h = true := by unfold poolB; rw [P.hh, decide_eq_true h15]; rfl
  have e : (CPt h).1 = if h.length % 3 = 0 then (cntQ (linesOf h) ((h.length / 3 : Nat) : Int) : Int) else 0 := by unfold CPt; rw [hp]; rfl
  rw [e]
  have key : decide ((0 : Int) < if h.length % 3 = 0 then (cntQ (linesOf h) ((h.length / 3 : Nat) : Int) : Int) else 0) = decide (3 * ((FP h).length : Int) = (h.length : Int)) := by
    congr 1; apply propext
    constructor
    · intro hpos
      split at hpos
      · rename_i h3
        obtain ⟨L, hL, hc⟩ := List.countP_pos_iff.1 (show 0 < (allQ (linesOf h)).countP (cntP ((h.length / 3 : Nat) : Int)) by
          have : 0 < cntQ (linesOf h) ((h.length / 3 : Nat) : Int) := by omega
          exact this)
        have hc := of_decide_eq_true hc
        have := g2 L hL
        omega
      · omega
    · intro h3
      rw [if_pos (by omega)]
      have : 0 < cntQ (linesOf h) ((h.length / 3 : Nat) : Int) := List.countP_pos_iff.2 ⟨FP h, g1, decide_eq_true (by omega)⟩
      omega
  rw [key]; simp
theorem pk_ok {n : Nat} {h : List Card} (P : Pool h) {L : List Ln} (hL : L ∈ allQ (linesOf h)) : IPk h L = (true, true) := by
  unfold IPk
  rw [P.hh, pkB_of (allQ_pk hL)]; rfl
theorem pk_J2 {n : Nat} (hn : BIG ≤ n) {h : List Card} (hl : h.length ≤ 29) : v_FnPickings_J2 n (poolB h, (if poolB h then ((FP h).length : Int) else 0), (CPt h).1, h, (if poolB h then FP h else []), (greedyH h).2) = some true := by
  unfold v_FnPickings_J2
  cases hp : poolB h with
  | false => rfl
  | true =>
    have P := pool_of hp
    have h15 := P.l15
    obtain ⟨g1, g2⟩ := FP_ok h
    have g3 := allQ_three P g1
    have eg : (greedyH h).2 = greedy (linesOf h) := by unfold greedyH; rw [P.hh]; rfl
    have gg := greedy_allQ (linesOf h)
    have g4 := g2 _ gg
    have J1 := pk_J1 n P
    simp only [if_true, Bool.not_true, br_false]
    rw [eg, i_IsPicking_eq hn (by omega) (by omega), ob_some, i_IsPicking_eq hn (by omega) (by omega), ob_some, pk_ok (n := n) P g1, pk_ok (n := n) P gg]
    simp only [Bool.not_true, br_false, ob_some, decide_true]
    rw [decide_eq_false (show ¬ ((FP h).length : Int) < ((greedy (linesOf h)).length : Int) by omega), br_false, br_dec]
    split
    · have hz : cntQ (linesOf h) (((FP h).length + 1 : Nat) : Int) = 0 := List.countP_eq_zero.2 fun L hL => by
        have := g2 L hL
        unfold cntP
        simp; omega
      have ec : CPk h (((FP h).length + 1 : Nat) : Int) = (0, true) := by
        unfold CPk
        rw [hp, decide_eq_true (show 0 ≤ (((FP h).length + 1 : Nat) : Int) ∧ (((FP h).length + 1 : Nat) : Int) ≤ 5 by omega), hz]; rfl
      rw [lt_eq, w64_succ (by omega), i_CountPickings_eq hn (by omega), ob_some, ec]
      simp only [Bool.not_true, br_false, ob_some, decide_true]
      exact J1
    · exact J1
theorem pk_J3 {n : Nat} (hn : BIG ≤ n) {h u : List Card} (hl : h.length ≤ 29) (ul : u.length ≤ 29) (k : Int) : v_FnPickings_J3 n (poolB h, (if poolB h then ((FP h).length : Int) else 0), (CPt h).1, k, (CPk u k).1, (CPk u k).2, h, (if poolB h then FP h else []), (greedyH h).2, u) = some true := by
  unfold v_FnPickings_J3
  have J2 := pk_J2 hn hl
  by_cases hx : (poolB u && decide (0 ≤ k ∧ k ≤ 5)) = true
  · have ecc : CPk u k = ((cntQ (linesOf u) k : Int), true) := by unfold CPk; rw [if_pos hx]
    rw [Bool.and_eq_true, decide_eq_true_iff] at hx
    obtain ⟨hp, k0, k5⟩ := hx
    have P := pool_of hp
    have H := HandL.of P.hh
    have h40 := lines40 H P.l15
    have h2 := Z2 (linesOf u)
    rw [pm_cross H] at h2
    have hc2 := c2'_two (linesOf u).length
    have hb2 : (linesOf u).length * ((linesOf u).length - 1) ≤ 40 * 40 := Nat.mul_le_mul h40 (by omega)
    rw [ecc]
    simp only [br_true]
    have ecx : CX u = ((cross u : Int), true) := by unfold CX; rw [P.hh]; rfl
    rw [i_LinesIn_eq hn (by omega), ob_some, i_CountCrossings_eq hn (by omega), ob_some, ecx, P.hh]
    simp only [if_true, Bool.not_true, br_false, ob_some, lt_eq]
    have c0 : (br (decide (k = 0)) (some (!decide ((cntQ (linesOf u) k : Int) = 1))) (some false)) = some false := by
      by_cases e : k = 0
      · subst e; rw [cntQ_0]; rfl
      · rw [br_neg (decide_eq_false e)]
    have c1 : (br (decide (k = 1)) (some (!decide ((cntQ (linesOf u) k : Int) = ((linesOf u).length : Int)))) (some false)) = some false := by
      by_cases e : k = 1
      · subst e
        have : cntQ (linesOf u) 1 = (linesOf u).length := (cntQ_succ (linesOf u) 0).trans (Z1 _)
        rw [this, br_pos (decide_eq_true rfl), decide_eq_true rfl]; rfl
      · rw [br_neg (decide_eq_false e)]
    have c2 : (br (decide (k = 2)) (some (!decide ((cntQ (linesOf u) k : Int) = w64 (w64 (Int.tdiv (w64 (((linesOf u).length : Int) * w64 (((linesOf u).length : Int) - 1))) 2) - (cross u : Int))))) (some false)) = some false := by
      by_cases e : k = 2
      · subst e
        have e1 : cntQ (linesOf u) 2 = Z (linesOf u) [] 1 := cntQ_succ (linesOf u) 1
        have d2' : ∀ q : Nat, q < 41 → w64 (Int.tdiv (w64 ((q : Int) * w64 ((q : Int) - 1))) 2) = (c2' q : Int) := by decide +kernel
        rw [d2' (linesOf u).length (by omega), e1, w64_id (by omega), br_pos (decide_eq_true rfl), decide_eq_true (by omega)]; rfl
      · rw [br_neg (decide_eq_false e)]
    simp only [c0, c1, c2, br_false, ob_some]
    exact J2
  · have ecc : CPk u k = (0, false) := by unfold CPk; rw [if_neg hx]
    rw [ecc]
    exact J2
theorem law_FnPickings {n : Nat} (hn : BIG ≤ n) (a : List Int) (ok : (Ty.sl (.int .u8)).ok a) : v_FnPickings n a = some true := by
  have hb : ByB a := ok_bytes' ok
  unfold v_FnPickings v_vBig
  rw [ob_some, br_dec]
  split
  · rfl
  rename_i hbig
  obtain ⟨h, e1, hl⟩ := DrawFirstPicking_ok hn hb
  obtain ⟨b, e2, hb', bl⟩ := vCut_ok (n := n) hb (by omega) (k := 1) (by omega)
  obtain ⟨k, u, e3, ul⟩ := DrawCountPickings_ok hn hb'
  obtain ⟨b2, e4, hb2, bl2⟩ := vCut_ok (n := n) hb (by omega) (k := 2) (by omega)
  obtain ⟨v, L, e5, vl, hL⟩ := DrawIsPicking_ok hn hb2
  have e2 : v_vCut n a 1 = some b := e2
  have e4 : v_vCut n a 2 = some b2 := e4
  have J3 := pk_J3 hn hl ul k
  have gI : i_FirstPicking n h = some (poolB h, if poolB h then FP h else []) ∧ s_FirstPicking n h = some ((if poolB h then FP h else []), poolB h) ∧ i_MostDisjoint n h = some ((if poolB h then ((FP h).length : Int) else 0), poolB h) ∧ s_MostDisjoint n h = some ((if poolB h then ((FP h).length : Int) else 0), poolB h) := by
    unfold i_FirstPicking s_FirstPicking i_MostDisjoint s_MostDisjoint
    rw [i_isParted_eq hn (by omega), s_l7Pool_eq hn (by omega)]
    cases hp : poolB h with
    | false => exact ⟨rfl, rfl, rfl, rfl⟩
    | true =>
      have P := pool_of hp
      rw [i_first_eq hn P, s_l2Lines_eq hn (by omega) (hand_all P.hh)]
      simp only [ob_some, Bool.not_true, br_false]
      rw [s_best_eq hn P]
      simp
  obtain ⟨g1, g2, g3, g4⟩ := gI
  have lfp : (if poolB h then FP h else []).length ≤ 100 := by
    split
    · rename_i hp
      have P := pool_of hp
      have := allQ_three P (FP_ok h).1
      have := P.l15
      omega
    · simp
  have lgr : (greedyH h).2.length ≤ 1000 := by
    unfold greedyH
    split
    · rename_i hh
      have := greedy_len (linesOf h) []
      have := lines_len27 hh
      simp only [List.length_nil] at *
      unfold greedy; omega
    · simp
  have llk : (LK v L).2.length ≤ 100 := by
    unfold LK
    split
    · have := lft_len v L; simp only []; omega
    · simp
  rw [e1, ob_some, g1, ob_some, g2, ob_some, g3, ob_some, g4, ob_some, i_GreedyPicking_eq hn (by omega), ob_some, s_GreedyPicking_eq hn (by omega), ob_some, i_CountPartings_eq hn (by omega), ob_some, s_CountPartings_eq hn (by omega), ob_some, e2, ob_some, e3, ob_some]
  simp only []
  rw [i_CountPickings_eq hn (by omega), ob_some, s_CountPickings_eq hn (by omega), ob_some, e4, ob_some, e5, ob_some]
  simp only []
  rw [i_IsPicking_eq hn (by omega) (by omega), ob_some, s_IsPicking_eq hn (by omega) (by omega), ob_some, i_LeftCards_eq hn (by omega) (by omega), ob_some, s_LeftCards_eq hn (by omega) (by omega), ob_some]
  rw [v_vLines_eq hn (by omega), v_vLines_eq hn (by omega), v_vHands_eq hn (by omega)]
  have a1 : (CPt h).2 = poolB h := by unfold CPt; cases poolB h <;> rfl
  have a2 : (br (poolB h) (some (!(greedyH h).1)) (some false)) = some false := by
    unfold greedyH poolB
    cases hand h <;> cases decide (h.length ≤ 15) <;> rfl
  have a3 : (br (IPk v L).2 (some (IPk v L).1) (some false)) = some (LK v L).1 := by
    unfold IPk LK
    cases hand v <;> cases pkB (linesOf v) L <;> rfl
  simp only [beq_self_eq_true, Bool.not_true, br_false, ob_some, decide_true, a1, a2, a3]
  by_cases hx : (hand v && pkB (linesOf v) L) = true
  · have elk : LK v L = (true, lft v L) := by unfold LK; rw [if_pos hx]
    rw [Bool.and_eq_true] at hx
    obtain ⟨hv, hpk⟩ := hx
    have H := HandL.of hv
    obtain ⟨d1, d2⟩ := pkB_dis hpk
    have f1 := lft_length H d1 d2
    have f2 := lft_sumC H d1 d2
    have f3 := lft_hand hv L
    rw [elk]
    simp only [br_true]
    rw [i_SumCards_eq hn (by omega), ob_some, i_SumCards_eq hn (by omega), ob_some, hv, f3, if_pos rfl, if_pos rfl, f2]
    simp only [Bool.not_true, br_false, ob_some, eqd, decide_true, lt_eq]
    rw [w64_id (x := 3 * (L.length : Int)) (by omega), w64_id (x := (v.length : Int) - 3 * (L.length : Int)) (by omega), decide_eq_true (show ((lft v L).length : Int) = (v.length : Int) - 3 * (L.length : Int) by omega)]
    simp only [Bool.not_true, br_false]
    exact J3
  · have elk : LK v L = (false, []) := by unfold LK; rw [if_neg hx]
    rw [elk]
    exact J3
end Go.Pl
