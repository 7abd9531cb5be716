/- Plain laws: LLa. -/
import Derived.Test.YtklhncjpkkfjmaaLLLn
import Derived.Test.YtklhncjpkkfjmaaPL
set_option linter.unusedVariables false
set_option linter.unusedSimpArgs false
namespace Go.Pl
open Go Go.Tv Go.RowKit
set_option linter.unusedVariables false

/-! words of the laws on lists -/
theorem v_vInts_eq {n : Nat} (hn : BIG ≤ n) {a b : List Int} (hl : a.length ≤ 9223372036854775806) : v_vInts n a b = some (decide (a = b)) := by
  unfold v_vInts
  by_cases hlen : a.length = b.length
  · have e0 : decide ((a.length : Int) = (b.length : Int)) = true := decide_eq_true (by omega)
    simp only [e0, Bool.not_true, br_false]
    have := fx_cnt (B := v_vInts_L1 n) a.length (fun i => (a, b, (i : Int))) (fun _ => True) (fun i => some (decide (a.drop i = b.drop i))) (fun self i hi _ ih => by
      simp only [v_vInts_L1]
      by_cases h : i < a.length
      · have e1 : decide ((i : Int) < (a.length : Int)) = true := decide_eq_true (by omega)
        simp only [e1, br_true, inb_ok h, inb_ok (show i < b.length by omega), ckb_true, toNat_cast, gl_eq h, gl_eq (show i < b.length by omega), lt_eq]
        rw [List.drop_eq_getElem_cons h, List.drop_eq_getElem_cons (show i < b.length by omega)]
        by_cases hc : a[i] = b[i]
        · simp only [hc, decide_true, Bool.not_true, br_false, List.cons.injEq, true_and]
          rw [w64_succ (by omega)]; exact ih h trivial
        · have hne : ¬ (a[i] :: a.drop (i + 1) = b[i] :: b.drop (i + 1)) := fun e => hc (List.cons.inj e).1
          rw [decide_eq_false hne, decide_eq_false hc]; rfl
      · have e1 : decide ((i : Int) < (a.length : Int)) = false := decide_eq_false (by omega)
        simp only [e1, br_false]
        rw [List.drop_eq_nil_of_le (by omega), List.drop_eq_nil_of_le (by omega)]; simp) n 0 (Nat.zero_le _) trivial (big_gt hn (by omega))
    simpa using this
  · have e0 : decide ((a.length : Int) = (b.length : Int)) = false := decide_eq_false (by omega)
    simp only [e0, Bool.not_false, br_true]
    have : a ≠ b := fun h => hlen (by rw [h])
    simp [this]
theorem v_vLines_eq {n : Nat} (hn : BIG ≤ n) {a b : List (V3 Int)} (hl : a.length ≤ 9223372036854775806) : v_vLines n a b = some (decide (a = b)) := by
  unfold v_vLines
  by_cases hlen : a.length = b.length
  · have e0 : decide ((a.length : Int) = (b.length : Int)) = true := decide_eq_true (by omega)
    simp only [e0, Bool.not_true, br_false]
    have := fx_cnt (B := v_vLines_L1 n) a.length (fun i => (a, b, (i : Int))) (fun _ => True) (fun i => some (decide (a.drop i = b.drop i))) (fun self i hi _ ih => by
      simp only [v_vLines_L1]
      by_cases h : i < a.length
      · have e1 : decide ((i : Int) < (a.length : Int)) = true := decide_eq_true (by omega)
        simp only [e1, br_true, inb_ok h, inb_ok (show i < b.length by omega), ckb_true, toNat_cast, gl_eq h, gl_eq (show i < b.length by omega), lt_eq]
        rw [List.drop_eq_getElem_cons h, List.drop_eq_getElem_cons (show i < b.length by omega)]
        by_cases hc : a[i] = b[i]
        · simp only [eqd, hc, decide_true, Bool.not_true, br_false, List.cons.injEq, true_and]
          rw [w64_succ (by omega)]; exact ih h trivial
        · have hne : ¬ (a[i] :: a.drop (i + 1) = b[i] :: b.drop (i + 1)) := fun e => hc (List.cons.inj e).1
          rw [decide_eq_false hne]; unfold eqd; rw [decide_eq_false hc]; rfl
      · have e1 : decide ((i : Int) < (a.length : Int)) = false := decide_eq_false (by omega)
        simp only [e1, br_false]
        rw [List.drop_eq_nil_of_le (by omega), List.drop_eq_nil_of_le (by omega)]; simp) n 0 (Nat.zero_le _) trivial (big_gt hn (by omega))
    simpa using this
  · have e0 : decide ((a.length : Int) = (b.length : Int)) = false := decide_eq_false (by omega)
    simp only [e0, Bool.not_false, br_true]
    have : a ≠ b := fun h => hlen (by rw [h])
    simp [this]

/-- a loop that filters a list -/
theorem fx_filter {σ ρ α : Type} {B : (σ → Opt ρ) → σ → Opt ρ} (l : List α) (st : Nat → List α → σ) (p : α → Bool) (fin : List α → Opt ρ)
    (step : ∀ self i a (h : i < l.length), a.length ≤ i → B self (st i a) = self (st (i + 1) (if p l[i] = true then a ++ [l[i]] else a))) (stop : ∀ self a, B self (st l.length a) = fin a) (n : Nat) (hn : l.length < n) :
    fx B n (st 0 []) = fin (l.filter p) := by
  have hf := fx_foldl (B := B) l st (fun a x => if p x = true then a ++ [x] else a) fin (fun i a => a.length ≤ i) (fun i a h hi => by
    show (if p l[i] = true then a ++ [l[i]] else a).length ≤ i + 1
    split
    · rw [List.length_append, List.length_singleton]; omega
    · omega) (fun self i a h hi => step self i a h hi) (fun self a _ => stop self a) n hn [] (Nat.le_refl _)
  rw [hf]
  congr 1
  have : ∀ (l a : List α), l.foldl (fun a x => if p x = true then a ++ [x] else a) a = a ++ l.filter p := by
    intro l
    induction l with
    | nil => intro a; simp
    | cons x l ih => intro a; rw [List.foldl_cons, ih, List.filter_cons]; split <;> simp
  rw [this]; simp

/-! lines at a place -/
def onI (l : V3 Int) (i : Int) : Bool := decide (l.x0 = i) || decide (l.x1 = i) || decide (l.x2 = i)
theorem s_l7At_eq {n : Nat} (hn : BIG ≤ n) {L : List (V3 Int)} (hl : L.length ≤ 1000000) (i : Int) : s_l7At n L i = some (L.filter fun l => onI l i) := by
  unfold s_l7At
  refine fx_filter (B := s_l7At_L1 n) L (fun k a => (L, i, (k : Int), a)) (fun l => onI l i) some (fun self k a hk ha => ?_) (fun self a => ?_) n (big_gt hn (by omega))
  · simp only [s_l7At_L1, br_some, ob_some, lt_eq]
    rw [br_pos (decide_eq_true (show (k : Int) < (L.length : Int) by omega)), ckb_pos (inb_ok hk), toNat_cast, gl_eq hk, w64_succ (by omega)]
    have e : (if (if decide (L[k].x0 = i) = true then true else decide (L[k].x1 = i)) = true then true else decide (L[k].x2 = i)) = onI L[k] i := by
      unfold onI; cases decide (L[k].x0 = i) <;> cases decide (L[k].x1 = i) <;> simp
    rw [e]
    cases onI L[k] i with
    | true => rw [br_true, ckb_pos (apok_ok (by omega) (by omega)), if_pos rfl]
    | false => rw [br_false]; simp
  · simp only [s_l7At_L1]
    rw [br_neg (decide_eq_false (by omega))]
theorem contains_onI (l : V3 Int) (i : Int) : (V3.els l).contains i = onI l i := by
  rw [Bool.eq_iff_iff]
  unfold V3.els onI
  simp only [List.contains_cons, List.contains_nil, Bool.or_false, Bool.or_eq_true, beq_iff_eq, decide_eq_true_eq]
  constructor
  · rintro (h | h | h) <;> simp [h]
  · rintro ((h | h) | h) <;> simp [h]
def LA (h : List Card) (i : Int) : Bool × List (V3 Int) := if hand h && decide (0 ≤ i ∧ i ≤ (h.length : Int) - 1) then (true, (linesOf h).filter fun l => onI l i) else (false, [])
theorem lines_len27 {h : List Card} (hh : hand h = true) : (linesOf h).length ≤ 729 := by
  have := hand_len hh
  have h1 := linesOf_len (h := h)
  have : h.length * h.length ≤ 27 * 27 := Nat.mul_le_mul this this
  omega
theorem s_LinesAt_eq {n : Nat} (hn : BIG ≤ n) {h : List Card} (hl : h.length ≤ 1048576) (i : Int) : s_LinesAt n h i = some (LA h i) := by
  unfold s_LinesAt LA
  rw [s_l2Hand_eq hn (by omega), ob_some]
  simp only [lt_eq]
  rw [w64_id (by omega), s_l1In_eq]
  simp only [ob_some, br_some]
  cases hh : hand h with
  | false => rfl
  | true =>
    cases hd : decide (0 ≤ i ∧ i ≤ (h.length : Int) - 1) with
    | false => rfl
    | true =>
      have := hand_len hh; have h2 := lines_len27 hh
      show br false _ _ = _
      rw [br_false, s_l2Lines_eq hn (by omega) (hand_all hh), ob_some, s_l7At_eq hn (by omega), ob_some]; rfl
theorem i_LinesAt_eq {n : Nat} (hn : BIG ≤ n) {h : List Card} (hl : h.length ≤ 1048576) (i : Int) : i_LinesAt n h i = some (LA h i) := by
  unfold i_LinesAt LA
  rw [i_IsHand_eq hn (by omega), ob_some]
  simp only [lt_eq]
  rw [w64_id (by omega), i_within_eq]
  simp only [ob_some, br_some]
  cases hh : hand h with
  | false => rfl
  | true =>
    cases hd : decide (0 ≤ i ∧ i ≤ (h.length : Int) - 1) with
    | false => rfl
    | true =>
      have := hand_len hh; have h2 := lines_len27 hh
      show br false _ _ = _
      rw [br_false, i_linesIn_eq hn (by omega) (hand_all hh) (hand_nodup hh), ob_some]
      generalize linesOf h = L at h2 ⊢
      refine fx_filter (B := i_LinesAt_L1 n) L (fun k a => (i, (L.length : Int), (k : Int), a, L)) (fun l => onI l i) (fun a => some (true, a)) (fun self k a hk ha => ?_) (fun self a => ?_) n (big_gt hn (by omega))
      · simp only [i_LinesAt_L1, lt_eq]
        rw [br_pos (decide_eq_true (show (k : Int) < (L.length : Int) by omega)), ckb_pos (inb_ok hk), toNat_cast, gl_eq hk, w64_succ (by omega), slices_Contains_int_eq hn (by unfold V3.els; simp), ob_some, contains_onI]
        cases onI L[k] i with
        | true => rw [br_true, ckb_pos (apok_ok (by omega) (by omega)), if_pos rfl]
        | false => rw [br_false]; simp
      · simp only [i_LinesAt_L1]
        rw [br_neg (decide_eq_false (by omega))]

/-! counts of lines -/
def cl (N : Nat) (f : Nat → Int) : List Int := (List.range' 0 (N - 0)).map f
theorem cl_len (N : Nat) (f : Nat → Int) : (cl N f).length = N := by simp [cl]
theorem cl_get {N : Nat} {f : Nat → Int} {i : Nat} (h : i < (cl N f).length) : (cl N f)[i] = f i := by
  unfold cl; simp
theorem cl_gl {N : Nat} {f : Nat → Int} {i : Nat} (h : i < N) : gl 0 (cl N f) i = f i := by
  rw [gl_eq (by rw [cl_len]; exact h), cl_get]
theorem cl_congr {N : Nat} {f g : Nat → Int} (h : ∀ i, i < N → f i = g i) : cl N f = cl N g := by
  refine List.ext_getElem (by rw [cl_len, cl_len]) fun i h1 h2 => ?_
  rw [cl_get, cl_get]
  rw [cl_len] at h1
  exact h i h1
theorem cl_set {N : Nat} {f : Nat → Int} {i : Nat} (v : Int) : (cl N f).set i v = cl N fun k => if k = i then v else f k := by
  refine List.ext_getElem (by simp [cl_len]) fun k h1 h2 => ?_
  rw [List.getElem_set, cl_get]
  by_cases hk : i = k
  · subst hk; rw [if_pos rfl, cl_get, if_pos rfl]
  · have : ¬ k = i := fun e => hk e.symm
    rw [if_neg hk, cl_get, if_neg this]
theorem cl_zero (N : Nat) : List.replicate N (0 : Int) = cl N fun _ => 0 := by
  refine List.ext_getElem (by simp [cl_len]) fun k h1 h2 => ?_
  rw [cl_get]; simp
def LC' (h : List Card) : Bool × List Int := if hand h then (true, cl h.length fun k => (cntL h k : Int)) else (false, [])
theorem s_LineCounts_eq {n : Nat} (hn : BIG ≤ n) {h : List Card} (hl : h.length ≤ 1048576) : s_LineCounts n h = some (LC' h) := by
  unfold s_LineCounts LC'
  rw [s_l2Hand_eq hn (by omega), ob_some]
  cases hh : hand h with
  | false => rfl
  | true =>
    have := hand_len hh; have h2 := lines_len27 hh
    rw [Bool.not_true, br_false, s_l2Lines_eq hn (by omega) (hand_all hh), ob_some]
    have := fx_app (B := s_LineCounts_L1 n) h.length (fun i a => (h, (i : Int), a, linesOf h)) (fun k => [(cntL h k : Int)]) (fun a => some (true, a)) 1000000 (fun self i a hi hM => by
      simp only [List.length_singleton] at hM
      simp only [s_LineCounts_L1, lt_eq]
      rw [br_pos (decide_eq_true (show (i : Int) < (h.length : Int) by omega)), s_l7At_eq hn (by omega), ob_some, ckb_pos (apok_ok (by omega) (by omega)), w64_succ (by omega)]
      have e : (((linesOf h).filter fun l => onI l (i : Int)).length : Int) = (cntL h i : Int) := by rw [← List.countP_eq_length_filter]; rfl
      rw [e]) (fun self a => by
      simp only [s_LineCounts_L1]
      rw [br_neg (decide_eq_false (by omega))]) n 0 [] (Nat.zero_le _) (big_gt hn (by omega)) (by
        have := flen (l := List.range' 0 (h.length - 0)) (f := fun k => [(cntL h k : Int)]) (M := 1) fun _ _ => by simp
        rw [List.length_range'] at this
        simp only [List.length_nil]; omega)
    rw [List.nil_append] at this
    refine this.trans ?_
    rw [if_pos rfl]
    congr 2
    unfold cl
    have : ∀ l : List Nat, (l.flatMap fun k => [(cntL h k : Int)]) = l.map fun k => (cntL h k : Int) := fun l => by
      induction l with
      | nil => rfl
      | cons x l ih => rw [List.flatMap_cons, ih]; rfl
    exact this _
def cntT (L : List (V3 Int)) (m k : Nat) : Nat := (L.take m).countP fun x => onL x k
theorem cntT_succ {L : List (V3 Int)} {m : Nat} (hm : m < L.length) (k : Nat) : cntT L (m + 1) k = cntT L m k + b2 (onL L[m] k) := by
  unfold cntT
  rw [take_snoc hm, List.countP_append]
  congr 1
  simp [List.countP_cons, b2]
theorem cntT_le (L : List (V3 Int)) (m k : Nat) : cntT L m k ≤ L.length := by
  unfold cntT
  have := List.countP_le_length (p := fun x => onL x k) (l := L.take m)
  rw [List.length_take] at this; omega
theorem i_LineCounts_eq {n : Nat} (hn : BIG ≤ n) {h : List Card} (hl : h.length ≤ 1048576) : i_LineCounts n h = some (LC' h) := by
  unfold i_LineCounts LC'
  rw [i_IsHand_eq hn (by omega), ob_some]
  cases hh : hand h with
  | false => rfl
  | true =>
    have H := HandL.of hh
    have := hand_len hh; have h2 := lines_len27 hh
    rw [Bool.not_true, br_false, ckb_pos (mkok_ok (by omega) (by omega) (by omega) (by omega)), i_linesIn_eq hn (by omega) (hand_all hh) (hand_nodup hh), ob_some, if_pos rfl, cl_zero]
    have hmem : ∀ m (hm : m < (linesOf h).length), ∃ i j k : Nat, (linesOf h)[m] = ⟨(i : Int), (j : Int), (k : Int)⟩ ∧ LineAt h i j k := fun m hm => (mem_lines H).1 (List.getElem_mem hm)
    have e0 : (cl h.length fun _ => 0) = cl h.length fun k => (cntT (linesOf h) 0 k : Int) := cl_congr fun i _ => by simp [cntT]
    have e1 : (cl h.length fun k => (cntL h k : Int)) = cl h.length fun k => (cntT (linesOf h) (linesOf h).length k : Int) := cl_congr fun i _ => by unfold cntT cntL; rw [List.take_length]
    rw [e0, e1]
    generalize linesOf h = L at h2 hmem ⊢
    refine fx_cnt (B := i_LineCounts_L2 n) L.length (fun m => ((L.length : Int), (m : Int), cl h.length fun k => (cntT L m k : Int), L)) (fun _ => True) (fun _ => some (true, cl h.length fun k => (cntT L L.length k : Int))) (fun self m hm _ ih => ?_) n 0 (Nat.zero_le _) trivial (big_gt hn (by omega))
    simp only [i_LineCounts_L2]
    by_cases hml : m < L.length
    · rw [br_pos (decide_eq_true (show (m : Int) < (L.length : Int) by omega)), ckb_pos (inb_ok hml), toNat_cast, gl_eq hml]
      obtain ⟨i, j, k, e, A⟩ := hmem m hml
      have a1 := A.ij; have a2 := A.jk; have a3 := A.kl
      have key : ∀ p, (cntT L (m + 1) p : Int) = if p = k then (cntT L m k : Int) + 1 else if p = j then (cntT L m j : Int) + 1 else if p = i then (cntT L m i : Int) + 1 else (cntT L m p : Int) := fun p => by
        rw [cntT_succ hml, e]
        unfold b2
        by_cases p1 : p = k
        · subst p1
          rw [if_pos (onL_iff.2 (.inr (.inr rfl))), if_pos rfl]; omega
        · by_cases p2 : p = j
          · subst p2
            rw [if_pos (onL_iff.2 (.inr (.inl rfl))), if_neg p1, if_pos rfl]; omega
          · by_cases p3 : p = i
            · subst p3
              rw [if_pos (onL_iff.2 (.inl rfl)), if_neg p1, if_neg p2, if_pos rfl]; omega
            · rw [if_neg (by rw [onL_iff]; simp only []; omega), if_neg p1, if_neg p2, if_neg p3]; omega
      have b := cntT_le L m
      have bi := b i; have bj := b j; have bk := b k
      have ih' := ih hml trivial
      rw [cl_congr fun p _ => key p] at ih'
      generalize hg : self = go at ih' ⊢
      obtain ⟨q, rfl⟩ : ∃ q, n = q + 5 := ⟨n - 5, by unfold BIG at hn; omega⟩
      rw [e]
      simp only [fx_succ, i_LineCounts_L1, lt_eq]
      simp only [show (decide ((0 : Int) < 3)) = true from rfl, show inb 0 3 = true from rfl, show w64 (0 + 1) = 1 from by decide, br_true, ckb_true, List.length_set, cl_len,
        show (decide ((1 : Int) < 3)) = true from rfl, show inb 1 3 = true from rfl, show w64 (1 + 1) = 2 from by decide, show (decide ((2 : Int) < 3)) = true from rfl, show inb 2 3 = true from rfl, show w64 (2 + 1) = 3 from by decide, show (decide ((3 : Int) < 3)) = false from rfl, br_false,
        show (0 : Int).toNat = 0 from rfl, show (1 : Int).toNat = 1 from rfl, show (2 : Int).toNat = 2 from rfl, V3.get, toNat_cast, inb_ok (show i < h.length by omega), inb_ok (show j < h.length by omega), inb_ok a3]
      rw [cl_gl (by omega), cl_set, cl_gl (by omega), cl_set, cl_gl (by omega), cl_set, if_neg (by omega), if_neg (by omega), if_neg (by omega), w64_id (x := (cntT L m i : Int) + 1) (by omega), w64_id (x := (cntT L m j : Int) + 1) (by omega), w64_id (x := (cntT L m k : Int) + 1) (by omega), w64_succ (by omega)]
      exact ih'
    · have : m = L.length := by omega
      subst this
      rw [br_neg (decide_eq_false (by omega))]
end Go.Pl
