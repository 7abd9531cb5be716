/- Plain laws: LGr. -/
import Derived.Test.YtklhncjpkkfjmaaLLCp
set_option linter.unusedVariables false
set_option linter.unusedSimpArgs false
namespace Go.Pl
open Go Go.Tv Go.RowKit
set_option linter.unusedVariables false
set_option linter.unusedSimpArgs false

/-! caps of a hand, in the order of their first cards -/
def okc (h : List Card) (I : List Nat) (k : Nat) : Bool := decide (thr (I.map (gz h)) (gz h k) = 0)
def X (h : List Card) : Nat → List Nat → Nat → List (List Nat)
  | 0, _, _ => []
  | m + 1, I, k => (if okc h I k = true then (I ++ [k]) :: X h m (I ++ [k]) (k + 1) else []) ++ X h m I (k + 1)
theorem X_len (h : List Card) : ∀ m I k, (X h m I k).length + 1 ≤ 2 ^ m
  | 0, _, _ => Nat.le_refl _
  | m + 1, I, k => by
    have h1 := X_len h m (I ++ [k]) (k + 1)
    have h2 := X_len h m I (k + 1)
    rw [X, List.length_append, Nat.pow_succ]
    split
    · rw [List.length_cons]; omega
    · rw [List.length_nil]; omega
structure Pk (I : List Nat) (k : Nat) : Prop where
  pw : I.Pairwise (· < ·)
  lt : ∀ i ∈ I, i < k
theorem Pk.snoc {I : List Nat} {k : Nat} (h : Pk I k) : Pk (I ++ [k]) (k + 1) :=
  ⟨List.pairwise_append.2 ⟨h.pw, List.pairwise_singleton _ _, fun a ha b hb => by rw [List.mem_singleton.1 hb]; exact h.lt a ha⟩, fun i hi => by
    rcases List.mem_append.1 hi with hi | hi
    · have := h.lt i hi; omega
    · rw [List.mem_singleton.1 hi]; omega⟩
theorem Pk.mono {I : List Nat} {k : Nat} (h : Pk I k) {j : Nat} (hj : k ≤ j) : Pk I j := ⟨h.pw, fun i hi => by have := h.lt i hi; omega⟩
theorem pw_len : ∀ {I : List Nat} {k a : Nat}, I.Pairwise (· < ·) → (∀ i ∈ I, a ≤ i ∧ i < k) → I.length + a ≤ k ∨ I = []
  | [], _, _, _, _ => .inr rfl
  | x :: I, k, a, h, hb => by
    obtain ⟨h1, h2⟩ := List.pairwise_cons.1 h
    have hx := hb x List.mem_cons_self
    have := pw_len (I := I) (k := k) (a := x + 1) h2 fun i hi => ⟨h1 i hi, (hb i (List.mem_cons_of_mem _ hi)).2⟩
    left
    rcases this with h | h
    · rw [List.length_cons]; omega
    · subst h; simp; omega
theorem Pk.len {I : List Nat} {k : Nat} (h : Pk I k) : I.length ≤ k := by
  rcases pw_len (a := 0) h.pw fun i hi => ⟨Nat.zero_le _, h.lt i hi⟩ with h | h
  · omega
  · rw [h]; simp
abbrev iz (I : List Nat) : List Int := I.map fun (i : Nat) => (i : Int)
theorem iz_len (I : List Nat) : (iz I).length = I.length := List.length_map _
theorem iz_gl {I : List Nat} {p : Nat} (hp : p < I.length) : gl 0 (iz I) p = ((gl 0 I p : Nat) : Int) := by
  rw [gl_eq (by rw [iz_len]; exact hp), gl_eq hp, List.getElem_map]
theorem iz_snoc (I : List Nat) (k : Nat) : iz I ++ [(k : Int)] = iz (I ++ [k]) := by simp
theorem iz_sub (I : List Nat) (a : Nat) : sub (iz I) a (iz I).length = iz (I.drop a) := by
  unfold sub iz
  rw [List.map_drop, List.take_of_length_le (by simp)]
theorem iz_full (I : List Nat) : sub (iz I) 0 (iz I).length = iz I := by rw [iz_sub, List.drop_zero]
def pq (h : List Card) (I : List Nat) (k p q : Nat) : Bool := !decide (third (gz h (gl 0 I p)) (gz h (gl 0 I q)) = gz h k)
def rowP (h : List Card) (I : List Nat) (k p : Nat) : Bool := (List.range' (p + 1) (I.length - (p + 1))).all (pq h I k p)
def rowsK (h : List Card) (I : List Nat) (k P : Nat) : Bool := (List.range' 0 P).all (rowP h I k)
theorem glI_mem {I : List Nat} {p : Nat} (hp : p < I.length) : gl 0 I p ∈ I := by rw [gl_eq hp]; exact List.getElem_mem _
theorem rows_ok {h : List Card} (H : HandL h) {I : List Nat} {k : Nat} (P : Pk I k) (hk : k ≤ h.length) : rowsK h I k I.length = okc h I k := by
  have HI := ix_hand H P.pw fun i hi => by have := P.lt i hi; omega
  rw [Bool.eq_iff_iff]
  unfold rowsK okc
  rw [List.all_eq_true, decide_eq_true_iff]
  constructor
  · intro ha
    refine Nat.eq_zero_of_not_pos fun hp => ?_
    obtain ⟨a, ha', b, hb', hne, e⟩ := (thr_pos HI).1 hp
    obtain ⟨i, hi, rfl⟩ := List.mem_map.1 ha'
    obtain ⟨j, hj, rfl⟩ := List.mem_map.1 hb'
    obtain ⟨p, hp, rfl⟩ := List.getElem_of_mem hi
    obtain ⟨q, hq, rfl⟩ := List.getElem_of_mem hj
    have key : ∀ p q : Nat, ∀ hq : q < I.length, p < q → third (gz h (gl 0 I p)) (gz h (gl 0 I q)) ≠ gz h k := fun p q hq hpq e => by
      have := ha p (by rw [List.mem_range'_1]; omega)
      unfold rowP at this
      rw [List.all_eq_true] at this
      have := this q (by rw [List.mem_range'_1]; omega)
      unfold pq at this
      rw [decide_eq_true e] at this; cases this
    have gp : gl 0 I p = I[p] := gl_eq hp
    have gq : gl 0 I q = I[q] := gl_eq hq
    have hpq : p ≠ q := fun e => hne (by simp only [e])
    rcases Nat.lt_or_gt_of_ne hpq with h | h
    · exact key p q hq h (by rw [gp, gq]; exact e)
    · exact key q p hp h (by rw [gp, gq, th_comm]; exact e)
  · intro h0 p hp
    rw [List.mem_range'_1] at hp
    unfold rowP
    rw [List.all_eq_true]
    intro q hq
    rw [List.mem_range'_1] at hq
    unfold pq
    rw [Bool.not_eq_true', decide_eq_false_iff_not]
    intro e
    have hpI : p < I.length := by omega
    have hqI : q < I.length := by omega
    have gp : gl 0 I p = I[p] := gl_eq hpI
    have gq : gl 0 I q = I[q] := gl_eq hqI
    have hlt : I[p] < I[q] := List.pairwise_iff_getElem.1 P.pw p q hpI hqI (by omega)
    have : 0 < thr (I.map (gz h)) (gz h k) := (thr_pos HI).2 ⟨gz h (gl 0 I p), List.mem_map_of_mem (glI_mem hpI), gz h (gl 0 I q), List.mem_map_of_mem (glI_mem hqI), fun e2 => by
      have b1 : gl 0 I p < k := P.lt _ (glI_mem hpI)
      have b2 : gl 0 I q < k := P.lt _ (glI_mem hqI)
      have := gz_inj H (i := gl 0 I p) (j := gl 0 I q) (by omega) (by omega) e2
      omega, e⟩
    omega
--COUNT
theorem cc_L1 {n : Nat} (hn : BIG ≤ n) {h : List Card} (H : HandL h) {I : List Nat} {k : Nat} (P : Pk I k) (hk : k < h.length) (acc : Bool) {p : Nat} (hp : p < I.length) (a4 c : Int) (go : List Card × List Int × Int × Bool × List Int × Int × Int × Int × Int → Opt (Int × Int)) :
    fx (i_caps'll_i_CountCaps_1pp_L1 n go) n (h, iz I, (k : Int), acc, ((gl 0 I p : Nat) : Int), iz I, (I.length : Int), (p : Int), iz (I.drop (p + 1)), ((I.drop (p + 1)).length : Int), 0, a4, c) = go (h, iz I, (k : Int), acc && rowP h I k p, iz I, (I.length : Int), ((p + 1 : Nat) : Int), a4, c) := by
  have hl := H.len
  have hI := P.len
  have hL : (I.drop (p + 1)).length = I.length - (p + 1) := List.length_drop
  have := fx_cnt (B := i_caps'll_i_CountCaps_1pp_L1 n go) (I.length - (p + 1)) (fun q => (h, iz I, (k : Int), (acc && (List.range' (p + 1) q).all (pq h I k p)), ((gl 0 I p : Nat) : Int), iz I, (I.length : Int), (p : Int), iz (I.drop (p + 1)), ((I.drop (p + 1)).length : Int), (q : Int), a4, c)) (fun _ => True) (fun _ => go (h, iz I, (k : Int), acc && rowP h I k p, iz I, (I.length : Int), ((p + 1 : Nat) : Int), a4, c)) (fun self q hq _ ih => by
    simp only [i_caps'll_i_CountCaps_1pp_L1, lt_eq]
    by_cases h1 : q < I.length - (p + 1)
    · have g : gl 0 (I.drop (p + 1)) q = gl 0 I (p + 1 + q) := by
        rw [gl_eq (by omega), gl_eq (by omega), List.getElem_drop]
      have hin : inb (q : Int) (iz (I.drop (p + 1))).length = true := inb_ok (by rw [iz_len]; omega)
      have g1 : gl 0 (iz (I.drop (p + 1))) q = ((gl 0 I (p + 1 + q) : Nat) : Int) := by rw [iz_gl (by omega), g]
      have b1 : gl 0 I p < k := P.lt _ (glI_mem hp)
      have b2 : gl 0 I (p + 1 + q) < k := P.lt _ (glI_mem (show p + 1 + q < I.length by omega))
      have ih := ih h1 trivial
      rw [List.range'_concat, List.all_append] at ih
      simp only [List.all_cons, List.all_nil, Bool.and_true, Nat.one_mul] at ih
      rw [br_pos (decide_eq_true (show (q : Int) < ((I.drop (p + 1)).length : Int) by omega)), ckb_pos hin, toNat_cast, g1, w64_succ (by omega)]
      simp only [toNat_cast]
      rw [← ih]
      cases hacc : (acc && (List.range' (p + 1) q).all (pq h I k p)) with
      | false =>
        rw [br_false, ob_some, ← Bool.and_assoc, hacc, Bool.false_and]
      | true =>
        rw [br_true, ckb_pos (inb_ok (show gl 0 I p < h.length by omega)), ckb_pos (inb_ok (show gl 0 I (p + 1 + q) < h.length by omega)), i_third_eq hn (gl_C H.c (by omega)) (gl_C H.c (by omega)), ob_some, ckb_pos (inb_ok hk), ob_some, ← Bool.and_assoc, hacc, Bool.true_and]
        rfl
    · have : q = I.length - (p + 1) := by omega
      subst this
      rw [br_neg (decide_eq_false (by omega)), w64_succ (by omega)]; rfl) n 0 (Nat.zero_le _) trivial (big_gt hn (by omega))
  simpa using this
theorem cc_L2 {n : Nat} (hn : BIG ≤ n) {h : List Card} (H : HandL h) {I : List Nat} {k : Nat} (P : Pk I k) (hk : k < h.length) (a4 c : Int) (go0 : List Card × Int × List Int × Int × Int → Opt (Int × Int)) (go : List Card × List Int × Int × Int × Int → Opt (Int × Int)) :
    fx (i_caps'll_i_CountCaps_1pp_L2 n go0 go) n (h, iz I, (k : Int), true, iz I, (I.length : Int), 0, a4, c) = if okc h I k = true then ob (go0 (h, ((k + 1 : Nat) : Int), iz (I ++ [k]), a4, c)) fun r => go (h, iz I, ((k + 1 : Nat) : Int), r.1, r.2) else go (h, iz I, ((k + 1 : Nat) : Int), a4, c) := by
  have hl := H.len
  have hI := P.len
  have := fx_cnt (B := i_caps'll_i_CountCaps_1pp_L2 n go0 go) I.length (fun p => (h, iz I, (k : Int), rowsK h I k p, iz I, (I.length : Int), (p : Int), a4, c)) (fun _ => True) (fun _ => if okc h I k = true then ob (go0 (h, ((k + 1 : Nat) : Int), iz (I ++ [k]), a4, c)) fun r => go (h, iz I, ((k + 1 : Nat) : Int), r.1, r.2) else go (h, iz I, ((k + 1 : Nat) : Int), a4, c)) (fun self p hp _ ih => by
    simp only [i_caps'll_i_CountCaps_1pp_L2, lt_eq]
    by_cases h1 : p < I.length
    · have ih := ih h1 trivial
      have e : rowsK h I k (p + 1) = (rowsK h I k p && rowP h I k p) := by
        unfold rowsK
        rw [List.range'_concat, List.all_append]; simp
      rw [br_pos (decide_eq_true (show (p : Int) < (I.length : Int) by omega)), ckb_pos (inb_ok (by rw [iz_len]; exact h1)), w64_succ (by omega), toNat_cast, iz_gl h1, ckb_pos (slb_ok (by omega) (by rw [iz_len]; omega) (by omega)), toNat_cast, iz_sub, iz_len, cc_L1 hn H P hk _ h1, ← e]
      exact ih
    · have : p = I.length := by omega
      subst this
      have e1 : cand (slb 0 ((iz I).length : Int) (iz I).length) (decide True) = true := by
        rw [slb_ok (by omega) (by omega) (by omega)]; rfl
      have e2 : cand (apok 8 ((iz I).length + 1)) (cor (iz I).isEmpty true) = true := by
        rw [apok_ok (by rw [iz_len]; omega) (by rw [iz_len]; omega)]
        cases (iz I).isEmpty <;> rfl
      rw [br_neg (decide_eq_false (by omega)), rows_ok H P (by omega), w64_succ (by omega), ckb_pos e1, iz_full, ckb_pos e2, iz_snoc]
      cases okc h I k <;> rfl) n 0 (Nat.zero_le _) trivial (big_gt hn (by omega))
  exact this
--END
def cntB (a4 : Int) (L : List Nat) : Bool := decide ((L.length : Int) = a4)
theorem cc_R {n : Nat} (hn : BIG ≤ n) {h : List Card} (H : HandL h) (h15 : h.length ≤ 15) (a4 : Int) : ∀ (K j : Nat) (I : List Nat) (c : Nat), j ≤ h.length → Pk I j → h.length - j < K → c + 2 ^ (h.length - j) ≤ 1000000 →
    fx (i_caps'll_i_CountCaps_1pp_R n) K (h, (j : Int), iz I, a4, (c : Int)) = some (a4, ((c + (I :: X h (h.length - j) I j).countP (cntB a4) : Nat) : Int))
  | 0, _, _, _, _, _, hK, _ => by omega
  | K + 1, j, I, c, hj, P, hK, hc => by
    rw [fx_succ]
    simp only [i_caps'll_i_CountCaps_1pp_R]
    have hp0 : ∀ m : Nat, 1 ≤ 2 ^ m := fun m => Nat.one_le_two_pow
    have hv : i_CountCaps_1'lpp n (iz I) a4 (c : Int) = some (a4, ((c + if cntB a4 I = true then 1 else 0 : Nat) : Int)) := by
      unfold i_CountCaps_1'lpp cntB
      rw [iz_len]
      by_cases e : (I.length : Int) = a4
      · rw [decide_eq_true e, br_true, lt_eq, w64_succ (by have := hp0 (h.length - j); omega)]; rfl
      · rw [decide_eq_false e, br_false]; rfl
    rw [hv, ob_some]
    simp only []
    have := fx_up (B := i_caps'll_i_CountCaps_1pp_L3 n (fx (i_caps'll_i_CountCaps_1pp_R n) K)) h.length (fun j (c : Nat) => (h, iz I, (j : Int), a4, (c : Int))) (fun j' c => j ≤ j' ∧ c + 2 ^ (h.length - j') ≤ 1000001) (fun j c => some (a4, ((c + (X h (h.length - j) I j).countP (cntB a4) : Nat) : Int))) (fun self j' c' hj' hI ih => by
      obtain ⟨hjj, hb⟩ := hI
      simp only [i_caps'll_i_CountCaps_1pp_L3, lt_eq]
      by_cases h1 : j' < h.length
      · obtain ⟨m, hm⟩ : ∃ m, h.length - j' = m + 1 := ⟨h.length - j' - 1, by omega⟩
        have hm' : h.length - (j' + 1) = m := by omega
        rw [hm, Nat.pow_succ] at hb
        have P' := P.mono hjj
        have l1 := X_len h m (I ++ [j']) (j' + 1)
        rw [br_pos (decide_eq_true (show (j' : Int) < (h.length : Int) by omega)), iz_len, cc_L2 hn H P' h1, hm, X]
        rw [hm'] at ih
        split
        · have hr := cc_R hn H h15 a4 K (j' + 1) (I ++ [j']) c' (by omega) P'.snoc (by omega) (by rw [hm']; have := hp0 m; omega)
          rw [hr, ob_some, hm']
          simp only []
          have hcp : ((I ++ [j']) :: X h m (I ++ [j']) (j' + 1)).countP (cntB a4) ≤ 2 ^ m := Nat.le_trans List.countP_le_length (by rw [List.length_cons]; omega)
          rw [ih _ h1 ⟨by omega, by omega⟩, List.countP_append, Nat.add_assoc]
        · rw [ih _ h1 ⟨by omega, by omega⟩, List.nil_append]
      · have : j' = h.length := by omega
        subst this
        rw [br_neg (decide_eq_false (by omega)), Nat.sub_self]; rfl) n j (c + if cntB a4 I = true then 1 else 0) hj ⟨Nat.le_refl _, by split <;> omega⟩ (big_gt hn (by omega))
    rw [this, List.countP_cons]
    congr 2
    split <;> omega
theorem cg_L1 {n : Nat} (hn : BIG ≤ n) {h : List Card} (H : HandL h) {I : List Nat} {k : Nat} (P : Pk I k) (hk : k < h.length) (acc : Bool) {p : Nat} (hp : p < I.length) (b : List Int) (go : List Card × List Int × Int × Bool × List Int × Int × Int × List Int → Opt (List Int)) :
    fx (i_caps'll_i_greatestCap_1p_o_L1 n go) n (h, iz I, (k : Int), acc, ((gl 0 I p : Nat) : Int), iz I, (I.length : Int), (p : Int), iz (I.drop (p + 1)), ((I.drop (p + 1)).length : Int), 0, b) = go (h, iz I, (k : Int), acc && rowP h I k p, iz I, (I.length : Int), ((p + 1 : Nat) : Int), b) := by
  have hl := H.len
  have hI := P.len
  have hL : (I.drop (p + 1)).length = I.length - (p + 1) := List.length_drop
  have := fx_cnt (B := i_caps'll_i_greatestCap_1p_o_L1 n go) (I.length - (p + 1)) (fun q => (h, iz I, (k : Int), (acc && (List.range' (p + 1) q).all (pq h I k p)), ((gl 0 I p : Nat) : Int), iz I, (I.length : Int), (p : Int), iz (I.drop (p + 1)), ((I.drop (p + 1)).length : Int), (q : Int), b)) (fun _ => True) (fun _ => go (h, iz I, (k : Int), acc && rowP h I k p, iz I, (I.length : Int), ((p + 1 : Nat) : Int), b)) (fun self q hq _ ih => by
    simp only [i_caps'll_i_greatestCap_1p_o_L1, lt_eq]
    by_cases h1 : q < I.length - (p + 1)
    · have g : gl 0 (I.drop (p + 1)) q = gl 0 I (p + 1 + q) := by
        rw [gl_eq (by omega), gl_eq (by omega), List.getElem_drop]
      have hin : inb (q : Int) (iz (I.drop (p + 1))).length = true := inb_ok (by rw [iz_len]; omega)
      have g1 : gl 0 (iz (I.drop (p + 1))) q = ((gl 0 I (p + 1 + q) : Nat) : Int) := by rw [iz_gl (by omega), g]
      have b1 : gl 0 I p < k := P.lt _ (glI_mem hp)
      have b2 : gl 0 I (p + 1 + q) < k := P.lt _ (glI_mem (show p + 1 + q < I.length by omega))
      have ih := ih h1 trivial
      rw [List.range'_concat, List.all_append] at ih
      simp only [List.all_cons, List.all_nil, Bool.and_true, Nat.one_mul] at ih
      rw [br_pos (decide_eq_true (show (q : Int) < ((I.drop (p + 1)).length : Int) by omega)), ckb_pos hin, toNat_cast, g1, w64_succ (by omega)]
      simp only [toNat_cast]
      rw [← ih]
      cases hacc : (acc && (List.range' (p + 1) q).all (pq h I k p)) with
      | false =>
        rw [br_false, ob_some, ← Bool.and_assoc, hacc, Bool.false_and]
      | true =>
        rw [br_true, ckb_pos (inb_ok (show gl 0 I p < h.length by omega)), ckb_pos (inb_ok (show gl 0 I (p + 1 + q) < h.length by omega)), i_third_eq hn (gl_C H.c (by omega)) (gl_C H.c (by omega)), ob_some, ckb_pos (inb_ok hk), ob_some, ← Bool.and_assoc, hacc, Bool.true_and]
        rfl
    · have : q = I.length - (p + 1) := by omega
      subst this
      rw [br_neg (decide_eq_false (by omega)), w64_succ (by omega)]; rfl) n 0 (Nat.zero_le _) trivial (big_gt hn (by omega))
  simpa using this
theorem cg_L2 {n : Nat} (hn : BIG ≤ n) {h : List Card} (H : HandL h) {I : List Nat} {k : Nat} (P : Pk I k) (hk : k < h.length) (b : List Int) (go0 : List Card × Int × List Int × List Int → Opt (List Int)) (go : List Card × List Int × Int × List Int → Opt (List Int)) :
    fx (i_caps'll_i_greatestCap_1p_o_L2 n go0 go) n (h, iz I, (k : Int), true, iz I, (I.length : Int), 0, b) = if okc h I k = true then ob (go0 (h, ((k + 1 : Nat) : Int), iz (I ++ [k]), b)) fun r => go (h, iz I, ((k + 1 : Nat) : Int), r) else go (h, iz I, ((k + 1 : Nat) : Int), b) := by
  have hl := H.len
  have hI := P.len
  have := fx_cnt (B := i_caps'll_i_greatestCap_1p_o_L2 n go0 go) I.length (fun p => (h, iz I, (k : Int), rowsK h I k p, iz I, (I.length : Int), (p : Int), b)) (fun _ => True) (fun _ => if okc h I k = true then ob (go0 (h, ((k + 1 : Nat) : Int), iz (I ++ [k]), b)) fun r => go (h, iz I, ((k + 1 : Nat) : Int), r) else go (h, iz I, ((k + 1 : Nat) : Int), b)) (fun self p hp _ ih => by
    simp only [i_caps'll_i_greatestCap_1p_o_L2, lt_eq]
    by_cases h1 : p < I.length
    · have ih := ih h1 trivial
      have e : rowsK h I k (p + 1) = (rowsK h I k p && rowP h I k p) := by
        unfold rowsK
        rw [List.range'_concat, List.all_append]; simp
      rw [br_pos (decide_eq_true (show (p : Int) < (I.length : Int) by omega)), ckb_pos (inb_ok (by rw [iz_len]; exact h1)), w64_succ (by omega), toNat_cast, iz_gl h1, ckb_pos (slb_ok (by omega) (by rw [iz_len]; omega) (by omega)), toNat_cast, iz_sub, iz_len, cg_L1 hn H P hk _ h1, ← e]
      exact ih
    · have : p = I.length := by omega
      subst this
      have e1 : cand (slb 0 ((iz I).length : Int) (iz I).length) (decide True) = true := by
        rw [slb_ok (by omega) (by omega) (by omega)]; rfl
      have e2 : cand (apok 8 ((iz I).length + 1)) (cor (iz I).isEmpty true) = true := by
        rw [apok_ok (by rw [iz_len]; omega) (by rw [iz_len]; omega)]
        cases (iz I).isEmpty <;> rfl
      rw [br_neg (decide_eq_false (by omega)), rows_ok H P (by omega), w64_succ (by omega), ckb_pos e1, iz_full, ckb_pos e2, iz_snoc]
      cases okc h I k <;> rfl) n 0 (Nat.zero_le _) trivial (big_gt hn (by omega))
  exact this
def bst (b L : List Nat) : List Nat := if b.length < L.length then L else b
theorem cg_R {n : Nat} (hn : BIG ≤ n) {h : List Card} (H : HandL h) (h15 : h.length ≤ 15) : ∀ (K j : Nat) (I b : List Nat), j ≤ h.length → Pk I j → h.length - j < K →
    fx (i_caps'll_i_greatestCap_1p_o_R n) K (h, (j : Int), iz I, iz b) = some (iz ((I :: X h (h.length - j) I j).foldl bst b))
  | 0, _, _, _, _, _, hK => by omega
  | K + 1, j, I, b, hj, P, hK => by
    rw [fx_succ]
    simp only [i_caps'll_i_greatestCap_1p_o_R]
    have hI := P.len
    have hv : i_greatestCap_1'lp_o n (iz I) (iz b) = some (iz (bst b I)) := by
      unfold i_greatestCap_1'lp_o bst
      rw [iz_len, iz_len]
      by_cases e : b.length < I.length
      · rw [br_pos (decide_eq_true (by omega)), if_pos e, ckb_pos (apok_ok (by omega) (by omega))]
      · rw [br_neg (decide_eq_false (by omega)), if_neg e]
    rw [hv, ob_some]
    have := fx_up (B := i_caps'll_i_greatestCap_1p_o_L3 n (fx (i_caps'll_i_greatestCap_1p_o_R n) K)) h.length (fun j (b : List Nat) => (h, iz I, (j : Int), iz b)) (fun j' _ => j ≤ j') (fun j b => some (iz ((X h (h.length - j) I j).foldl bst b))) (fun self j' b' hj' hI ih => by
      simp only [i_caps'll_i_greatestCap_1p_o_L3]
      by_cases h1 : j' < h.length
      · obtain ⟨m, hm⟩ : ∃ m, h.length - j' = m + 1 := ⟨h.length - j' - 1, by omega⟩
        have hm' : h.length - (j' + 1) = m := by omega
        have P' := P.mono hI
        rw [br_pos (decide_eq_true (show (j' : Int) < (h.length : Int) by omega)), iz_len, cg_L2 hn H P' h1, hm, X]
        rw [hm'] at ih
        split
        · have hr := cg_R hn H h15 K (j' + 1) (I ++ [j']) b' (by omega) P'.snoc (by omega)
          rw [hr, ob_some, hm', ih _ h1 (by omega), List.foldl_append]
        · rw [ih _ h1 (by omega), List.nil_append]
      · have : j' = h.length := by omega
        subst this
        rw [br_neg (decide_eq_false (by omega)), Nat.sub_self]; rfl) n j (bst b I) hj (Nat.le_refl _) (big_gt hn (by omega))
    rw [List.foldl_cons]
    exact this
end Go.Pl
