/- Plain laws: LCh2, LCh3, LGr, L4L, LGr2, LGr3, LPo. -/
import Derived.Test.YtfoielhhflbbfaaG6
import Derived.KernelRfl
import Derived.Test.YtfoielhhflbbfaaG0
import Derived.Test.YtfoielhhflbbfaaG1
set_option linter.unusedVariables false
set_option linter.unusedSimpArgs false
namespace Go.Pl
open Go Go.Tv Go.RowKit
set_option linter.unusedVariables false
set_option linter.unusedSimpArgs false
noncomputable def ckCK (m : Nat) : Bool := (List.range 8).all fun k => match i_ChanceKind (m + 200) ((k : Int) - 1), s_ChanceKind (m + 200) ((k : Int) - 1) with
  | some a, some b => eqd a.1 b.1 && (a.2 == b.2) && (!a.2 || (!decide (w64 (1 * a.1.x1) < w64 (a.1.x0 * 1)) && !decide (a.1.x0 < 1)))
  | _, _ => false
set_option maxRecDepth 100000 in
theorem ckCK_ok (m : Nat) : ckCK m = true := by kernel_rfl
theorem ChanceKind_ok {n : Nat} (hn : BIG ≤ n) {k : Int} (hk : -1 ≤ k ∧ k ≤ 6) : ∃ r, i_ChanceKind n k = some r ∧ s_ChanceKind n k = some r ∧ (r.2 = true → ¬ w64 (1 * r.1.x1) < w64 (r.1.x0 * 1) ∧ ¬ r.1.x0 < 1) := by
  obtain ⟨q, rfl⟩ : ∃ q, n = q + 200 := ⟨n - 200, by unfold BIG at hn; omega⟩
  obtain ⟨j, rfl⟩ : ∃ j : Nat, k = (j : Int) - 1 := ⟨(k + 1).toNat, by omega⟩
  have := ckCK_ok q
  unfold ckCK at this
  rw [List.all_eq_true] at this
  have := this j (List.mem_range.2 (by omega))
  cases hi : i_ChanceKind (q + 200) ((j : Int) - 1) with
  | none => rw [hi] at this; simp at this
  | some a =>
    cases hs : s_ChanceKind (q + 200) ((j : Int) - 1) with
    | none => rw [hi, hs] at this; simp at this
    | some b =>
      rw [hi, hs] at this
      simp only [Bool.and_eq_true] at this
      obtain ⟨⟨e1, e2⟩, e3⟩ := this
      have e1 : a.1 = b.1 := of_decide_eq_true e1
      have e2 : a.2 = b.2 := by simpa using e2
      have : a = b := Prod.ext e1 e2
      subst this
      refine ⟨a, rfl, rfl, fun h => ?_⟩
      rw [h] at e3
      simp only [Bool.not_true, Bool.false_or, Bool.and_eq_true, Bool.not_eq_true', decide_eq_false_iff_not] at e3
      exact e3
end Go.Pl
namespace Go.Pl
open Go Go.Tv Go.RowKit
set_option linter.unusedVariables false
set_option linter.unusedSimpArgs false
def stB (ls : List Ln) (x : Ln) : Bool := ls.any fun y => !meets x y
def stN (ls : List Ln) : Nat := ls.countP (stB ls)
theorem st_take {ls : List Ln} {p : Ln → Bool} {k : Nat} (hk : k < ls.length) : (ls.take (k + 1)).countP p = (ls.take k).countP p + if p ls[k] = true then 1 else 0 := by
  rw [List.take_succ_eq_append_getElem hk, List.countP_append, List.countP_singleton]
theorem i_stays {n : Nat} (hn : BIG ≤ n) {ls : List Ln} (hl : ls.length ≤ 1000) (h0 : 0 < ls.length) : fx (i_ChanceStays_L2 n) n (0, (ls.length : Int), 0, ⟨0, 0⟩, ls) = some (FR (stN ls) ls.length, true) := by
  have := fx_cnt (B := i_ChanceStays_L2 n) ls.length (fun k => (((ls.take k).countP (stB ls) : Int), (ls.length : Int), (k : Int), (⟨0, 0⟩ : V2 Int), ls)) (fun _ => True) (fun _ => some (FR (stN ls) ls.length, true)) (fun self k hk _ ih => by
    simp only [i_ChanceStays_L2]
    have hcl : (ls.take k).countP (stB ls) ≤ 1000 := Nat.le_trans List.countP_le_length (by rw [List.length_take]; omega)
    by_cases h1 : k < ls.length
    · have ih := ih h1 trivial
      rw [st_take h1] at ih
      rw [br_pos (decide_eq_true (show (k : Int) < (ls.length : Int) by omega)), ckb_pos (inb_ok h1), toNat_cast, gl_eq h1]
      have L1 := fx_find (B := i_ChanceStays_L1 n self) ls (fun j => (((ls.take k).countP (stB ls) : Int), (ls.length : Int), (k : Int), (ls.length : Int), (j : Int), (⟨0, 0⟩ : V2 Int), ls, ls[k])) (fun y => !meets ls[k] y) (fun _ => self ((((ls.take k).countP (stB ls) + 1 : Nat) : Int), (ls.length : Int), ((k + 1 : Nat) : Int), ⟨0, 0⟩, ls)) (self (((ls.take k).countP (stB ls) : Int), (ls.length : Int), ((k + 1 : Nat) : Int), ⟨0, 0⟩, ls)) (fun self2 j hj => by
        obtain ⟨v, v1, v2⟩ := i_common_pos hn ls[k] ls[j]
        have v0 : v = 0 ∨ 0 < v := by
          have := i_common_eq hn ls[k] ls[j]
          rw [v1] at this
          have := Option.some.inj this
          omega
        have v3 : decide (v = 0) = !meets ls[k] ls[j] := by
          rw [← v2]
          rcases v0 with h | h
          · rw [decide_eq_true h, decide_eq_false (by omega)]; rfl
          · rw [decide_eq_false (by omega), decide_eq_true h]; rfl
        simp only [i_ChanceStays_L1, lt_eq]
        rw [br_pos (decide_eq_true (show (j : Int) < (ls.length : Int) by omega)), ckb_pos (inb_ok hj), toNat_cast, gl_eq hj, v1, ob_some, v3, w64_succ (k := k) (by omega), w64_succ (k := j) (by omega), w64_succ (by omega)]
        cases meets ls[k] ls[j] <;> rfl) (fun self2 => by
        simp only [i_ChanceStays_L1, lt_eq]
        rw [br_neg (decide_eq_false (by omega)), w64_succ (by omega)]) n (big_gt hn (by omega))
      have e : ((0 : Nat) : Int) = 0 := rfl
      simp only [e] at L1
      rw [L1, ← ih]
      have hh : (ls.findIdx? fun y => !meets ls[k] y).isSome = stB ls ls[k] := findIdx?_any _ _
      rw [← hh]
      cases ls.findIdx? fun y => !meets ls[k] y <;> rfl
    · have : k = ls.length := by omega
      subst this
      rw [br_neg (decide_eq_false (by omega)), List.take_length]
      have hc2 : ls.countP (stB ls) ≤ ls.length := List.countP_le_length
      rw [i_fraction_eq hn h0 (by omega) (by omega)]; rfl) n 0 (Nat.zero_le _) trivial (big_gt hn (by omega))
  simpa using this
theorem s_stays {n : Nat} (hn : BIG ≤ n) {ls : List Ln} (hl : ls.length ≤ 1000) (h0 : 0 < ls.length) : fx (s_ChanceStays_L2 n) n (0, 0, ⟨0, 0⟩, ls) = some (FR (stN ls) ls.length, true) := by
  have := fx_cnt (B := s_ChanceStays_L2 n) ls.length (fun k => (((ls.take k).countP (stB ls) : Int), (k : Int), (⟨0, 0⟩ : V2 Int), ls)) (fun _ => True) (fun _ => some (FR (stN ls) ls.length, true)) (fun self k hk _ ih => by
    simp only [s_ChanceStays_L2]
    have hcl : (ls.take k).countP (stB ls) ≤ 1000 := Nat.le_trans List.countP_le_length (by rw [List.length_take]; omega)
    by_cases h1 : k < ls.length
    · have ih := ih h1 trivial
      rw [st_take h1] at ih
      rw [br_pos (decide_eq_true (show (k : Int) < (ls.length : Int) by omega))]
      have L1 := fx_find (B := s_ChanceStays_L1 n self) ls (fun j => (((ls.take k).countP (stB ls) : Int), (k : Int), (j : Int), (⟨0, 0⟩ : V2 Int), ls)) (fun y => !meets ls[k] y) (fun _ => self ((((ls.take k).countP (stB ls) + 1 : Nat) : Int), ((k + 1 : Nat) : Int), ⟨0, 0⟩, ls)) (self (((ls.take k).countP (stB ls) : Int), ((k + 1 : Nat) : Int), ⟨0, 0⟩, ls)) (fun self2 j hj => by
        have v2 : decide (0 < (common ls[k] ls[j] : Int)) = meets ls[k] ls[j] := common_pos _ _
        have v3 : decide ((common ls[k] ls[j] : Int) = 0) = !meets ls[k] ls[j] := by
          rw [← v2, ← decide_not]; congr 1; apply propext; omega
        simp only [s_ChanceStays_L1, lt_eq]
        rw [br_pos (decide_eq_true (show (j : Int) < (ls.length : Int) by omega)), ckb_pos (inb_ok h1), ckb_pos (inb_ok hj), toNat_cast, toNat_cast, gl_eq h1, gl_eq hj, s_l7Common_eq hn, ob_some, v3, w64_succ (k := k) (by omega), w64_succ (k := j) (by omega), w64_succ (by omega)]
        cases meets ls[k] ls[j] <;> rfl) (fun self2 => by
        simp only [s_ChanceStays_L1, lt_eq]
        rw [br_neg (decide_eq_false (by omega)), w64_succ (by omega)]) n (big_gt hn (by omega))
      have e : ((0 : Nat) : Int) = 0 := rfl
      simp only [e] at L1
      rw [L1, ← ih]
      have hh : (ls.findIdx? fun y => !meets ls[k] y).isSome = stB ls ls[k] := findIdx?_any _ _
      rw [← hh]
      cases ls.findIdx? fun y => !meets ls[k] y <;> rfl
    · have : k = ls.length := by omega
      subst this
      rw [br_neg (decide_eq_false (by omega)), List.take_length]
      have hc2 : ls.countP (stB ls) ≤ ls.length := List.countP_le_length
      rw [s_l9Cut_eq hn h0 (by omega) (by omega)]; rfl) n 0 (Nat.zero_le _) trivial (big_gt hn (by omega))
  simpa using this
def CHS (h : List Card) : V2 Int × Bool := if hand h && decide (0 < (linesOf h).length) then (FR (stN (linesOf h)) (linesOf h).length, true) else (⟨0, 0⟩, false)
theorem i_ChanceStays_eq {n : Nat} (hn : BIG ≤ n) {h : List Card} (hl : h.length ≤ 1048576) : i_ChanceStays n h = some (CHS h) := by
  unfold i_ChanceStays CHS
  rw [i_IsHand_eq hn (by omega), ob_some]
  cases hh : hand h with
  | false => rfl
  | true =>
    have h27 := hand_len hh
    have h729 := lines_len27 hh
    rw [Bool.not_true, br_false, i_linesIn_eq hn (by omega) (hand_all hh) (hand_nodup hh), ob_some]
    by_cases h0 : 0 < (linesOf h).length
    · rw [br_neg (decide_eq_false (by omega)), i_stays hn (by omega) h0, decide_eq_true h0]; rfl
    · rw [br_pos (decide_eq_true (by omega)), decide_eq_false h0]; rfl
theorem s_ChanceStays_eq {n : Nat} (hn : BIG ≤ n) {h : List Card} (hl : h.length ≤ 1048576) : s_ChanceStays n h = some (CHS h) := by
  unfold s_ChanceStays CHS
  rw [s_l2Hand_eq hn (by omega), ob_some]
  cases hh : hand h with
  | false => rfl
  | true =>
    have h27 := hand_len hh
    have h729 := lines_len27 hh
    rw [Bool.not_true, br_false, s_l2Lines_eq hn (by omega) (hand_all hh), ob_some, ob_some, ob_some]
    by_cases h0 : 0 < (linesOf h).length
    · rw [br_neg (decide_eq_false (by omega)), s_stays hn (by omega) h0, decide_eq_true h0]; rfl
    · rw [br_pos (decide_eq_true (by omega)), decide_eq_false h0]; rfl
end Go.Pl
namespace Go.Pl
open Go Go.Tv Go.RowKit
set_option linter.unusedVariables false
set_option linter.unusedSimpArgs false
def okc (h : List Card) (I : List Nat) (k : Nat) : Bool := decide (thr (I.map (gz h)) (gz h k) = 0)
def X (h : List Card) : Nat → List Nat → Nat → List (List Nat)
  | 0, _, _ => []
  | m + 1, I, k => (if okc h I k = true then (I ++ [k]) :: X h m (I ++ [k]) (k + 1) else []) ++ X h m I (k + 1)
theorem X_len (h : List Card) : ∀ m I k, (X h m I k).length + 1 ≤ 2 ^ m
  | 0, _, _ => Nat.le_refl _
  | m + 1, I, k => by
    have h1 := X_len h m (I ++ [k]) (k + 1)
    have h2 := X_len h m I (k + 1)
    rw [X, List.length_append, Nat.pow_succ]
    split
    · rw [List.length_cons]; omega
    · rw [List.length_nil]; omega
structure Pk (I : List Nat) (k : Nat) : Prop where
  pw : I.Pairwise (· < ·)
  lt : ∀ i ∈ I, i < k
theorem Pk.snoc {I : List Nat} {k : Nat} (h : Pk I k) : Pk (I ++ [k]) (k + 1) :=
  ⟨List.pairwise_append.2 ⟨h.pw, List.pairwise_singleton _ _, fun a ha b hb => by rw [List.mem_singleton.1 hb]; exact h.lt a ha⟩, fun i hi => by
    rcases List.mem_append.1 hi with hi | hi
    · have := h.lt i hi; omega
    · rw [List.mem_singleton.1 hi]; omega⟩
theorem Pk.mono {I : List Nat} {k : Nat} (h : Pk I k) {j : Nat} (hj : k ≤ j) : Pk I j := ⟨h.pw, fun i hi => by have := h.lt i hi; omega⟩
theorem pw_len : ∀ {I : List Nat} {k a : Nat}, I.Pairwise (· < ·) → (∀ i ∈ I, a ≤ i ∧ i < k) → I.length + a ≤ k ∨ I = []
  | [], _, _, _, _ => .inr rfl
  | x :: I, k, a, h, hb => by
    obtain ⟨h1, h2⟩ := List.pairwise_cons.1 h
    have hx := hb x List.mem_cons_self
    have := pw_len (I := I) (k := k) (a := x + 1) h2 fun i hi => ⟨h1 i hi, (hb i (List.mem_cons_of_mem _ hi)).2⟩
    left
    rcases this with h | h
    · rw [List.length_cons]; omega
    · subst h; simp; omega
theorem Pk.len {I : List Nat} {k : Nat} (h : Pk I k) : I.length ≤ k := by
  rcases pw_len (a := 0) h.pw fun i hi => ⟨Nat.zero_le _, h.lt i hi⟩ with h | h
  · omega
  · rw [h]; simp
abbrev iz (I : List Nat) : List Int := I.map fun (i : Nat) => (i : Int)
theorem iz_len (I : List Nat) : (iz I).length = I.length := List.length_map _
theorem iz_gl {I : List Nat} {p : Nat} (hp : p < I.length) : gl 0 (iz I) p = ((gl 0 I p : Nat) : Int) := by
  rw [gl_eq (by rw [iz_len]; exact hp), gl_eq hp, List.getElem_map]
theorem iz_snoc (I : List Nat) (k : Nat) : iz I ++ [(k : Int)] = iz (I ++ [k]) := by simp
theorem iz_sub (I : List Nat) (a : Nat) : sub (iz I) a (iz I).length = iz (I.drop a) := by
  unfold sub iz
  rw [List.map_drop, List.take_of_length_le (by simp)]
theorem iz_full (I : List Nat) : sub (iz I) 0 (iz I).length = iz I := by rw [iz_sub, List.drop_zero]
def pq (h : List Card) (I : List Nat) (k p q : Nat) : Bool := !decide (third (gz h (gl 0 I p)) (gz h (gl 0 I q)) = gz h k)
def rowP (h : List Card) (I : List Nat) (k p : Nat) : Bool := (List.range' (p + 1) (I.length - (p + 1))).all (pq h I k p)
def rowsK (h : List Card) (I : List Nat) (k P : Nat) : Bool := (List.range' 0 P).all (rowP h I k)
theorem glI_mem {I : List Nat} {p : Nat} (hp : p < I.length) : gl 0 I p ∈ I := by rw [gl_eq hp]; exact List.getElem_mem _
theorem rows_ok {h : List Card} (H : HandL h) {I : List Nat} {k : Nat} (P : Pk I k) (hk : k ≤ h.length) : rowsK h I k I.length = okc h I k := by
  have HI := ix_hand H P.pw fun i hi => by have := P.lt i hi; omega
  rw [Bool.eq_iff_iff]
  unfold rowsK okc
  rw [List.all_eq_true, decide_eq_true_iff]
  constructor
  · intro ha
    refine Nat.eq_zero_of_not_pos fun hp => ?_
    obtain ⟨a, ha', b, hb', hne, e⟩ := (thr_pos HI).1 hp
    obtain ⟨i, hi, rfl⟩ := List.mem_map.1 ha'
    obtain ⟨j, hj, rfl⟩ := List.mem_map.1 hb'
    obtain ⟨p, hp, rfl⟩ := List.getElem_of_mem hi
    obtain ⟨q, hq, rfl⟩ := List.getElem_of_mem hj
    have key : ∀ p q : Nat, ∀ hq : q < I.length, p < q → third (gz h (gl 0 I p)) (gz h (gl 0 I q)) ≠ gz h k := fun p q hq hpq e => by
      have := ha p (by rw [List.mem_range'_1]; omega)
      unfold rowP at this
      rw [List.all_eq_true] at this
      have := this q (by rw [List.mem_range'_1]; omega)
      unfold pq at this
      rw [decide_eq_true e] at this; cases this
    have gp : gl 0 I p = I[p] := gl_eq hp
    have gq : gl 0 I q = I[q] := gl_eq hq
    have hpq : p ≠ q := fun e => hne (by simp only [e])
    rcases Nat.lt_or_gt_of_ne hpq with h | h
    · exact key p q hq h (by rw [gp, gq]; exact e)
    · exact key q p hp h (by rw [gp, gq, th_comm]; exact e)
  · intro h0 p hp
    rw [List.mem_range'_1] at hp
    unfold rowP
    rw [List.all_eq_true]
    intro q hq
    rw [List.mem_range'_1] at hq
    unfold pq
    rw [Bool.not_eq_true', decide_eq_false_iff_not]
    intro e
    have hpI : p < I.length := by omega
    have hqI : q < I.length := by omega
    have gp : gl 0 I p = I[p] := gl_eq hpI
    have gq : gl 0 I q = I[q] := gl_eq hqI
    have hlt : I[p] < I[q] := List.pairwise_iff_getElem.1 P.pw p q hpI hqI (by omega)
    have : 0 < thr (I.map (gz h)) (gz h k) := (thr_pos HI).2 ⟨gz h (gl 0 I p), List.mem_map_of_mem (glI_mem hpI), gz h (gl 0 I q), List.mem_map_of_mem (glI_mem hqI), fun e2 => by
      have b1 : gl 0 I p < k := P.lt _ (glI_mem hpI)
      have b2 : gl 0 I q < k := P.lt _ (glI_mem hqI)
      have := gz_inj H (i := gl 0 I p) (j := gl 0 I q) (by omega) (by omega) e2
      omega, e⟩
    omega
theorem cc_L1 {n : Nat} (hn : BIG ≤ n) {h : List Card} (H : HandL h) {I : List Nat} {k : Nat} (P : Pk I k) (hk : k < h.length) (acc : Bool) {p : Nat} (hp : p < I.length) (a4 c : Int) (go : List Card × List Int × Int × Bool × List Int × Int × Int × Int × Int → Opt (Int × Int)) :
    fx (i_caps'll_i_CountCaps_1pp_L1 n go) n (h, iz I, (k : Int), acc, ((gl 0 I p : Nat) : Int), iz I, (I.length : Int), (p : Int), iz (I.drop (p + 1)), ((I.drop (p + 1)).length : Int), 0, a4, c) = go (h, iz I, (k : Int), acc && rowP h I k p, iz I, (I.length : Int), ((p + 1 : Nat) : Int), a4, c) := by
  have hl := H.len
  have hI := P.len
  have hL : (I.drop (p + 1)).length = I.length - (p + 1) := List.length_drop
  have := fx_cnt (B := i_caps'll_i_CountCaps_1pp_L1 n go) (I.length - (p + 1)) (fun q => (h, iz I, (k : Int), (acc && (List.range' (p + 1) q).all (pq h I k p)), ((gl 0 I p : Nat) : Int), iz I, (I.length : Int), (p : Int), iz (I.drop (p + 1)), ((I.drop (p + 1)).length : Int), (q : Int), a4, c)) (fun _ => True) (fun _ => go (h, iz I, (k : Int), acc && rowP h I k p, iz I, (I.length : Int), ((p + 1 : Nat) : Int), a4, c)) (fun self q hq _ ih => by
    simp only [i_caps'll_i_CountCaps_1pp_L1, lt_eq]
    by_cases h1 : q < I.length - (p + 1)
    · have g : gl 0 (I.drop (p + 1)) q = gl 0 I (p + 1 + q) := by
        rw [gl_eq (by omega), gl_eq (by omega), List.getElem_drop]
      have hin : inb (q : Int) (iz (I.drop (p + 1))).length = true := inb_ok (by rw [iz_len]; omega)
      have g1 : gl 0 (iz (I.drop (p + 1))) q = ((gl 0 I (p + 1 + q) : Nat) : Int) := by rw [iz_gl (by omega), g]
      have b1 : gl 0 I p < k := P.lt _ (glI_mem hp)
      have b2 : gl 0 I (p + 1 + q) < k := P.lt _ (glI_mem (show p + 1 + q < I.length by omega))
      have ih := ih h1 trivial
      rw [List.range'_concat, List.all_append] at ih
      simp only [List.all_cons, List.all_nil, Bool.and_true, Nat.one_mul] at ih
      rw [br_pos (decide_eq_true (show (q : Int) < ((I.drop (p + 1)).length : Int) by omega)), ckb_pos hin, toNat_cast, g1, w64_succ (by omega)]
      simp only [toNat_cast]
      rw [← ih]
      cases hacc : (acc && (List.range' (p + 1) q).all (pq h I k p)) with
      | false =>
        rw [br_false, ob_some, ← Bool.and_assoc, hacc, Bool.false_and]
      | true =>
        rw [br_true, ckb_pos (inb_ok (show gl 0 I p < h.length by omega)), ckb_pos (inb_ok (show gl 0 I (p + 1 + q) < h.length by omega)), i_third_eq hn (gl_C H.c (by omega)) (gl_C H.c (by omega)), ob_some, ckb_pos (inb_ok hk), ob_some, ← Bool.and_assoc, hacc, Bool.true_and]
        rfl
    · have : q = I.length - (p + 1) := by omega
      subst this
      rw [br_neg (decide_eq_false (by omega)), w64_succ (by omega)]; rfl) n 0 (Nat.zero_le _) trivial (big_gt hn (by omega))
  simpa using this
theorem cc_L2 {n : Nat} (hn : BIG ≤ n) {h : List Card} (H : HandL h) {I : List Nat} {k : Nat} (P : Pk I k) (hk : k < h.length) (a4 c : Int) (go0 : List Card × Int × List Int × Int × Int → Opt (Int × Int)) (go : List Card × List Int × Int × Int × Int → Opt (Int × Int)) :
    fx (i_caps'll_i_CountCaps_1pp_L2 n go0 go) n (h, iz I, (k : Int), true, iz I, (I.length : Int), 0, a4, c) = if okc h I k = true then ob (go0 (h, ((k + 1 : Nat) : Int), iz (I ++ [k]), a4, c)) fun r => go (h, iz I, ((k + 1 : Nat) : Int), r.1, r.2) else go (h, iz I, ((k + 1 : Nat) : Int), a4, c) := by
  have hl := H.len
  have hI := P.len
  have := fx_cnt (B := i_caps'll_i_CountCaps_1pp_L2 n go0 go) I.length (fun p => (h, iz I, (k : Int), rowsK h I k p, iz I, (I.length : Int), (p : Int), a4, c)) (fun _ => True) (fun _ => if okc h I k = true then ob (go0 (h, ((k + 1 : Nat) : Int), iz (I ++ [k]), a4, c)) fun r => go (h, iz I, ((k + 1 : Nat) : Int), r.1, r.2) else go (h, iz I, ((k + 1 : Nat) : Int), a4, c)) (fun self p hp _ ih => by
    simp only [i_caps'll_i_CountCaps_1pp_L2, lt_eq]
    by_cases h1 : p < I.length
    · have ih := ih h1 trivial
      have e : rowsK h I k (p + 1) = (rowsK h I k p && rowP h I k p) := by
        unfold rowsK
        rw [List.range'_concat, List.all_append]; simp
      rw [br_pos (decide_eq_true (show (p : Int) < (I.length : Int) by omega)), ckb_pos (inb_ok (by rw [iz_len]; exact h1)), w64_succ (by omega), toNat_cast, iz_gl h1, ckb_pos (slb_ok (by omega) (by rw [iz_len]; omega) (by omega)), toNat_cast, iz_sub, iz_len, cc_L1 hn H P hk _ h1, ← e]
      exact ih
    · have : p = I.length := by omega
      subst this
      have e1 : cand (slb 0 ((iz I).length : Int) (iz I).length) (decide True) = true := by
        rw [slb_ok (by omega) (by omega) (by omega)]; rfl
      have e2 : cand (apok 8 ((iz I).length + 1)) (cor (iz I).isEmpty true) = true := by
        rw [apok_ok (by rw [iz_len]; omega) (by rw [iz_len]; omega)]
        cases (iz I).isEmpty <;> rfl
      rw [br_neg (decide_eq_false (by omega)), rows_ok H P (by omega), w64_succ (by omega), ckb_pos e1, iz_full, ckb_pos e2, iz_snoc]
      cases okc h I k <;> rfl) n 0 (Nat.zero_le _) trivial (big_gt hn (by omega))
  exact this
def cntB (a4 : Int) (L : List Nat) : Bool := decide ((L.length : Int) = a4)
theorem cc_R {n : Nat} (hn : BIG ≤ n) {h : List Card} (H : HandL h) (h15 : h.length ≤ 15) (a4 : Int) : ∀ (K j : Nat) (I : List Nat) (c : Nat), j ≤ h.length → Pk I j → h.length - j < K → c + 2 ^ (h.length - j) ≤ 1000000 →
    fx (i_caps'll_i_CountCaps_1pp_R n) K (h, (j : Int), iz I, a4, (c : Int)) = some (a4, ((c + (I :: X h (h.length - j) I j).countP (cntB a4) : Nat) : Int))
  | 0, _, _, _, _, _, hK, _ => by omega
  | K + 1, j, I, c, hj, P, hK, hc => by
    rw [fx_succ]
    simp only [i_caps'll_i_CountCaps_1pp_R]
    have hp0 : ∀ m : Nat, 1 ≤ 2 ^ m := fun m => Nat.one_le_two_pow
    have hv : i_CountCaps_1'lpp n (iz I) a4 (c : Int) = some (a4, ((c + if cntB a4 I = true then 1 else 0 : Nat) : Int)) := by
      unfold i_CountCaps_1'lpp cntB
      rw [iz_len]
      by_cases e : (I.length : Int) = a4
      · rw [decide_eq_true e, br_true, lt_eq, w64_succ (by have := hp0 (h.length - j); omega)]; rfl
      · rw [decide_eq_false e, br_false]; rfl
    rw [hv, ob_some]
    simp only []
    have := fx_up (B := i_caps'll_i_CountCaps_1pp_L3 n (fx (i_caps'll_i_CountCaps_1pp_R n) K)) h.length (fun j (c : Nat) => (h, iz I, (j : Int), a4, (c : Int))) (fun j' c => j ≤ j' ∧ c + 2 ^ (h.length - j') ≤ 1000001) (fun j c => some (a4, ((c + (X h (h.length - j) I j).countP (cntB a4) : Nat) : Int))) (fun self j' c' hj' hI ih => by
      obtain ⟨hjj, hb⟩ := hI
      simp only [i_caps'll_i_CountCaps_1pp_L3, lt_eq]
      by_cases h1 : j' < h.length
      · obtain ⟨m, hm⟩ : ∃ m, h.length - j' = m + 1 := ⟨h.length - j' - 1, by omega⟩
        have hm' : h.length - (j' + 1) = m := by omega
        rw [hm, Nat.pow_succ] at hb
        have P' := P.mono hjj
        have l1 := X_len h m (I ++ [j']) (j' + 1)
        rw [br_pos (decide_eq_true (show (j' : Int) < (h.length : Int) by omega)), iz_len, cc_L2 hn H P' h1, hm, X]
        rw [hm'] at ih
        split
        · have hr := cc_R hn H h15 a4 K (j' + 1) (I ++ [j']) c' (by omega) P'.snoc (by omega) (by rw [hm']; have := hp0 m; omega)
          rw [hr, ob_some, hm']
          simp only []
          have hcp : ((I ++ [j']) :: X h m (I ++ [j']) (j' + 1)).countP (cntB a4) ≤ 2 ^ m := Nat.le_trans List.countP_le_length (by rw [List.length_cons]; omega)
          rw [ih _ h1 ⟨by omega, by omega⟩, List.countP_append, Nat.add_assoc]
        · rw [ih _ h1 ⟨by omega, by omega⟩, List.nil_append]
      · have : j' = h.length := by omega
        subst this
        rw [br_neg (decide_eq_false (by omega)), Nat.sub_self]; rfl) n j (c + if cntB a4 I = true then 1 else 0) hj ⟨Nat.le_refl _, by split <;> omega⟩ (big_gt hn (by omega))
    rw [this, List.countP_cons]
    congr 2
    split <;> omega
end Go.Pl
namespace Go.Pl
open Go Go.Tv Go.RowKit
set_option linter.unusedVariables false
def z4 : Card := ⟨0, 0, 0, 0⟩
def lnAt (s : List Card) (i j k : Nat) : Bool := lineB (gl z4 s i) (gl z4 s j) (gl z4 s k)
def l1 (s : List Card) (i j k : Nat) : List (V3 Int) := if lnAt s i j k = true then [⟨i, j, k⟩] else []
def l2 (s : List Card) (i j : Nat) : List (V3 Int) := (List.range' (j + 1) (s.length - (j + 1))).flatMap (l1 s i j)
def l3 (s : List Card) (i : Nat) : List (V3 Int) := (List.range' (i + 1) (s.length - (i + 1))).flatMap (l2 s i)
def lns (s : List Card) : List (V3 Int) := (List.range' 0 (s.length - 0)).flatMap (l3 s)
theorem flatMap_one {α : Type} (f : Nat → α) (q : Nat) : ∀ (m a : Nat), (List.range' a m).flatMap (fun k => if k = q then [f k] else []) = if a ≤ q ∧ q < a + m then [f q] else []
  | 0, a => by rw [if_neg (by omega)]; rfl
  | m + 1, a => by
    rw [List.range'_succ, List.flatMap_cons, flatMap_one f q m (a + 1)]
    by_cases h : a = q
    · rw [if_pos h, if_neg (by omega), if_pos (by omega), h]; rfl
    · rw [if_neg h, List.nil_append]
      by_cases h2 : a ≤ q ∧ q < a + (m + 1)
      · rw [if_pos h2, if_pos (by omega)]
      · rw [if_neg h2, if_neg (by omega)]
theorem l2_ln1 {h : List Card} (hnd : h.Nodup) {i j : Nat} (hij : i < j) (hj : j < h.length) : l2 h i j = ln1 h i j := by
  have hi : i < h.length := by omega
  have hne : gl z4 h i ≠ gl z4 h j := by
    rw [gl_eq hi, gl_eq hj]
    exact fun e => absurd ((List.getElem_inj hnd).1 e) (by omega)
  unfold l2 ln1
  show _ = if (j : Int) < place h (third (gl z4 h i) (gl z4 h j)) then _ else _
  by_cases hq : ∃ q : Nat, h[q]? = some (third (gl z4 h i) (gl z4 h j))
  · obtain ⟨q, hq⟩ := hq
    have hp := place_of hnd hq
    have hql : q < h.length := (List.getElem?_eq_some_iff.1 hq).1
    have hqe : gl z4 h q = third (gl z4 h i) (gl z4 h j) := by rw [gl_eq hql]; exact (List.getElem?_eq_some_iff.1 hq).2
    have e : ∀ k, k ∈ List.range' (j + 1) (h.length - (j + 1)) → l1 h i j k = if k = q then [(⟨i, j, k⟩ : V3 Int)] else [] := fun k hk => by
      rw [List.mem_range'_1] at hk
      have hkl : k < h.length := by omega
      unfold l1 lnAt lineB
      by_cases hkq : k = q
      · subst hkq; simp [hne, hqe]
      · have : third (gl z4 h i) (gl z4 h j) ≠ gl z4 h k := by
          rw [← hqe, gl_eq hql, gl_eq hkl]
          exact fun e => hkq ((List.getElem_inj hnd).1 e).symm
        simp [hkq, this]
    rw [flatMap_congr' e, flatMap_one, hp]
    by_cases h2 : j < q
    · rw [if_pos (by omega), if_pos (by omega)]
      show _ = [(⟨(i : Int), (j : Int), place h (third (gl z4 h i) (gl z4 h j))⟩ : V3 Int)]
      rw [hp]
    · rw [if_neg (by omega), if_neg (by omega)]
  · have hp := place_none fun q hq2 => hq ⟨q, hq2⟩
    rw [hp, if_neg (by omega)]
    rw [List.flatMap_eq_nil_iff]
    intro k hk
    rw [List.mem_range'_1] at hk
    have hkl : k < h.length := by omega
    unfold l1 lnAt lineB
    have : third (gl z4 h i) (gl z4 h j) ≠ gl z4 h k := by
      rw [gl_eq (d := z4) hkl]
      exact fun e => hq ⟨k, by rw [List.getElem?_eq_getElem hkl, ← e]⟩
    simp [this]
theorem lns_eq {h : List Card} (hnd : h.Nodup) : lns h = linesOf h := by
  unfold lns linesOf
  refine flatMap_congr' fun i hi => ?_
  unfold l3 ln2
  refine flatMap_congr' fun j hj => ?_
  rw [List.mem_range'_1] at hi hj
  exact l2_ln1 hnd (by omega) (by omega)
end Go.Pl
namespace Go.Pl
open Go Go.Tv Go.RowKit
set_option linter.unusedVariables false
set_option linter.unusedSimpArgs false
theorem X_gt (h : List Card) : ∀ {m : Nat} {I : List Nat} {k : Nat} {L : List Nat}, L ∈ X h m I k → I.length < L.length ∧ L.length ≤ I.length + m
  | 0, I, k, L, hL => by cases hL
  | m + 1, I, k, L, hL => by
    rw [X, List.mem_append] at hL
    rcases hL with hL | hL
    · split at hL
      · rcases List.mem_cons.1 hL with rfl | hL
        · rw [List.length_append, List.length_singleton]; omega
        · have := X_gt h hL
          rw [List.length_append, List.length_singleton] at this; omega
      · cases hL
    · have := X_gt h hL; omega
theorem s_ok {n : Nat} (hn : BIG ≤ n) {h : List Card} (H : HandL h) {I : List Nat} {k : Nat} (P : Pk I k) (hk : k ≤ h.length) : s_l3Picked n h (iz I) = some (I.map (gz h)) ∧ s_l2Through n (I.map (gz h)) (gz h k) = some ((thr (I.map (gz h)) (gz h k) : Nat) : Int) := by
  have hl := H.len
  have hI := P.len
  have hb : ∀ i ∈ I, i < h.length := fun i hi => by have := P.lt i hi; omega
  exact ⟨s_l3Picked_eq hn h hb (by omega), s_l2Through_eq hn (ix_hand H P.pw hb) _⟩
def cnt (h : List Card) (j : Nat) (I : List Nat) (l : Nat) : Nat := (X h (h.length - j) I j).countP fun L => decide (L.length = l)
theorem s_count3 {n : Nat} (hn : BIG ≤ n) {h : List Card} (H : HandL h) (h15 : h.length ≤ 15) : ∀ (K j : Nat) (I : List Nat) (l : Nat), j ≤ h.length → Pk I j → l ≤ 15 → h.length - j < K →
    fx (s_l3Count_R n) K (h, iz I, (j : Int), (l : Int)) = some (((I :: X h (h.length - j) I j).countP fun L => decide (L.length = I.length + l) : Nat) : Int)
  | 0, _, _, _, _, _, _, hK => by omega
  | K + 1, j, I, 0, hj, P, hl, hK => by
    rw [fx_succ]
    simp only [s_l3Count_R]
    rw [show decide (((0 : Nat) : Int) = 0) = true from rfl, br_true, List.countP_cons]
    have : (X h (h.length - j) I j).countP (fun L => decide (L.length = I.length + 0)) = 0 := List.countP_eq_zero.2 fun L hL => by
      have := (X_gt h hL).1
      simp; omega
    rw [this]; simp
  | K + 1, j, I, l + 1, hj, P, hl, hK => by
    rw [fx_succ]
    simp only [s_l3Count_R]
    rw [show decide (((l + 1 : Nat) : Int) = 0) = false from decide_eq_false (by omega), br_false]
    have hI := P.len
    have hp0 : ∀ m : Nat, 1 ≤ 2 ^ m := fun m => Nat.one_le_two_pow
    have h215 : 2 ^ (h.length - j) ≤ 32768 := Nat.le_trans (Nat.pow_le_pow_right (by omega) (show h.length - j ≤ 15 by omega)) (by decide)
    have := fx_up (B := s_l3Count_L1 n (fx (s_l3Count_R n) K)) h.length (fun j (c : Nat) => (h, iz I, ((l + 1 : Nat) : Int), (c : Int), (j : Int))) (fun j' c => j ≤ j' ∧ c + 2 ^ (h.length - j') ≤ 1000001) (fun j c => some ((c + cnt h j I (I.length + (l + 1)) : Nat) : Int)) (fun self j' c' hj' hJ ih => by
      obtain ⟨hjj, hb⟩ := hJ
      simp only [s_l3Count_L1, lt_eq]
      by_cases h1 : j' < h.length
      · obtain ⟨m, hm⟩ : ∃ m, h.length - j' = m + 1 := ⟨h.length - j' - 1, by omega⟩
        have hm' : h.length - (j' + 1) = m := by omega
        have P' := P.mono hjj
        obtain ⟨k1, k2⟩ := s_ok hn H P' hj'
        have k2 : s_l2Through n (I.map (gz h)) (gl ⟨0, 0, 0, 0⟩ h j') = _ := k2
        have l1 := X_len h m (I ++ [j']) (j' + 1)
        rw [hm, Nat.pow_succ] at hb
        rw [br_pos (decide_eq_true (show (j' : Int) < (h.length : Int) by omega)), k1, ob_some, ckb_pos (inb_ok h1), toNat_cast, k2, ob_some, w64_succ (k := j') (by omega)]
        have ih := fun a' ha => ih a' h1 ⟨by omega, ha⟩
        rw [hm'] at ih
        have e : cnt h j' I (I.length + (l + 1)) = (if okc h I j' = true then ((I ++ [j']) :: X h m (I ++ [j']) (j' + 1)) else []).countP (fun L => decide (L.length = I.length + (l + 1))) + cnt h (j' + 1) I (I.length + (l + 1)) := by
          unfold cnt
          rw [hm, hm', X, List.countP_append]
        rw [e]
        unfold okc
        by_cases h0 : thr (I.map (gz h)) (gz h j') = 0
        · rw [h0, if_pos (decide_eq_true rfl)]
          unfold s_l1Own
          have hr := s_count3 hn H h15 K (j' + 1) (I ++ [j']) l (by omega) P'.snoc (by omega) (by omega)
          rw [hm', List.length_append, List.length_singleton, show I.length + 1 + l = I.length + (l + 1) by omega] at hr
          have hcp : ((I ++ [j']) :: X h m (I ++ [j']) (j' + 1)).countP (fun L => decide (L.length = I.length + (l + 1))) ≤ 2 ^ m := Nat.le_trans List.countP_le_length (by rw [List.length_cons]; omega)
          rw [show decide (((0 : Nat) : Int) = 0) = true from rfl, br_true, ckb_pos (apok_ok (by rw [iz_len]; omega) (by rw [iz_len]; omega)), ob_some, ckb_pos (apok_ok (by rw [iz_len]; omega) (by rw [iz_len]; omega)), iz_snoc, show w64 (((l + 1 : Nat) : Int) - 1) = (l : Int) by rw [w64_id (by omega)]; omega, hr, ob_some]
          generalize ((I ++ [j']) :: X h m (I ++ [j']) (j' + 1)).countP (fun L => decide (L.length = I.length + (l + 1))) = q at hcp
          have e2 : w64 ((c' : Int) + (q : Int)) = ((c' + q : Nat) : Int) := by rw [w64_id (by omega)]; omega
          rw [e2, ih (c' + q) (by omega)]
          congr 2; omega
        · rw [br_neg (decide_eq_false (show ¬ ((thr (I.map (gz h)) (gz h j') : Nat) : Int) = 0 by omega)), if_neg (by simpa using h0), List.countP_nil, Nat.zero_add]
          exact ih c' (by have := hp0 m; omega)
      · have : j' = h.length := by omega
        subst this
        rw [br_neg (decide_eq_false (by omega))]
        unfold cnt
        rw [Nat.sub_self]; rfl) n j 0 hj ⟨Nat.le_refl _, by omega⟩ (big_gt hn (by omega))
    refine Eq.trans this ?_
    rw [Nat.zero_add, List.countP_cons]
    have : decide (I.length = I.length + (l + 1)) = false := decide_eq_false (by omega)
    rw [this]; simp [cnt]
end Go.Pl
namespace Go.Pl
open Go Go.Tv Go.RowKit
set_option linter.unusedVariables false
set_option linter.unusedSimpArgs false
def Y (h : List Card) (m : Nat) (I : List Nat) (k l : Nat) : Nat := (X h m I k).countP fun L => decide (L.length = I.length + (l + 1))
theorem Y_s0 (h : List Card) (m : Nat) (I : List Nat) (k : Nat) : Y h (m + 1) I k 0 = (if okc h I k = true then 1 else 0) + Y h m I (k + 1) 0 := by
  unfold Y
  rw [X, List.countP_append]
  congr 1
  split
  · rw [List.countP_cons]
    have : (X h m (I ++ [k]) (k + 1)).countP (fun L => decide (L.length = I.length + (0 + 1))) = 0 := List.countP_eq_zero.2 fun L hL => by
      have := (X_gt h hL).1
      rw [List.length_append, List.length_singleton] at this
      simp; omega
    rw [this]; simp
  · rfl
theorem Y_ss (h : List Card) (m : Nat) (I : List Nat) (k l : Nat) : Y h (m + 1) I k (l + 1) = (if okc h I k = true then Y h m (I ++ [k]) (k + 1) l else 0) + Y h m I (k + 1) (l + 1) := by
  unfold Y
  rw [X, List.countP_append]
  congr 1
  split
  · rw [List.countP_cons]
    have e1 : decide ((I ++ [k]).length = I.length + (l + 1 + 1)) = false := decide_eq_false (by rw [List.length_append, List.length_singleton]; omega)
    rw [e1]
    have e2 : ∀ L : List Nat, decide (L.length = (I ++ [k]).length + (l + 1)) = decide (L.length = I.length + (l + 1 + 1)) := fun L => by
      congr 1; apply propext; rw [List.length_append, List.length_singleton]; omega
    simp only [e2]; simp
  · rfl
theorem ok0 (h : List Card) (k : Nat) : okc h [] k = true := rfl
theorem ok1 (h : List Card) (a k : Nat) : okc h [a] k = true := rfl
theorem ok2 (h : List Card) (a b k : Nat) : (if okc h [a, b] k = true then 1 else 0) + (l1 h a b k).length = 1 := by
  have e : thr ([a, b].map (gz h)) (gz h k) = if lineB (gz h a) (gz h b) (gz h k) = true then 1 else 0 := by
    show (pr1 [gz h a, gz h b] (gz h k) 0 1 ++ [] ++ ([] ++ [])).length = _
    unfold pr1
    show (((if lineB (gz h a) (gz h b) (gz h k) = true then [(⟨0, 1⟩ : V2 Int)] else []) ++ [] ++ ([] ++ [])).length) = _
    split <;> rfl
  unfold okc
  rw [e]
  unfold l1 lnAt
  show _ + (if lineB (gz h a) (gz h b) (gz h k) = true then [(⟨a, b, k⟩ : V3 Int)] else []).length = 1
  cases lineB (gz h a) (gz h b) (gz h k) <;> rfl
theorem Y3 (h : List Card) (a b : Nat) : ∀ (m k : Nat), Y h m [a, b] k 0 + ((List.range' k m).flatMap (l1 h a b)).length = m
  | 0, k => rfl
  | m + 1, k => by
    have ih := Y3 h a b m (k + 1)
    have h2 := ok2 h a b k
    rw [Y_s0, List.range'_succ, List.flatMap_cons, List.length_append]; omega
theorem Y2a (h : List Card) (a : Nat) : ∀ (m k : Nat), k + m = h.length → Y h m [a] k 1 + ((List.range' k m).flatMap (l2 h a)).length = c2' m
  | 0, k, _ => rfl
  | m + 1, k, hk => by
    have ih := Y2a h a m (k + 1) (by omega)
    have h3 := Y3 h a k m (k + 1)
    have e : (l2 h a k).length = ((List.range' (k + 1) m).flatMap (l1 h a k)).length := by
      unfold l2
      rw [show h.length - (k + 1) = m by omega]
    rw [Y_ss, ok1, if_pos rfl, List.range'_succ, List.flatMap_cons, List.length_append, e, c2']
    show Y h m [a, k] (k + 1) 0 + Y h m [a] (k + 1) 1 + _ = _
    omega
def c3' : Nat → Nat
  | 0 => 0
  | m + 1 => c3' m + c2' m
theorem Y3t (h : List Card) : ∀ (m k : Nat), k + m = h.length → Y h m [] k 2 + ((List.range' k m).flatMap (l3 h)).length = c3' m
  | 0, k, _ => rfl
  | m + 1, k, hk => by
    have ih := Y3t h m (k + 1) (by omega)
    have h2 := Y2a h k m (k + 1) (by omega)
    have e : (l3 h k).length = ((List.range' (k + 1) m).flatMap (l2 h k)).length := by
      unfold l3
      rw [show h.length - (k + 1) = m by omega]
    rw [Y_ss, ok0, if_pos rfl, List.range'_succ, List.flatMap_cons, List.length_append, e, c3']
    show Y h m [k] (k + 1) 1 + Y h m [] (k + 1) 2 + _ = _
    omega
def allX (h : List Card) : List (List Nat) := [] :: X h h.length [] 0
def cntX (h : List Card) (a : Int) : Nat := (allX h).countP (cntB a)
theorem cntX_succ (h : List Card) (l : Nat) : cntX h ((l + 1 : Nat) : Int) = Y h h.length [] 0 l := by
  unfold cntX allX Y
  rw [List.countP_cons]
  have e1 : cntB ((l + 1 : Nat) : Int) [] = false := decide_eq_false (by simp; omega)
  rw [e1]
  have e2 : (fun L : List Nat => decide (L.length = ([] : List Nat).length + (l + 1))) = cntB ((l + 1 : Nat) : Int) := funext fun L => by
    unfold cntB
    congr 1; apply propext; simp; omega
  rw [e2]; simp
theorem cntX_3 {h : List Card} (hnd : h.Nodup) : cntX h 3 + (linesOf h).length = c3' h.length := by
  have := Y3t h h.length 0 (by omega)
  rw [← lns_eq hnd]
  unfold lns
  have e := cntX_succ h 2
  rw [Nat.sub_zero]
  have e : cntX h 3 = Y h h.length [] 0 2 := e
  rw [e]; exact this
theorem pk_nil (k : Nat) : Pk [] k := ⟨List.Pairwise.nil, fun i hi => by cases hi⟩
end Go.Pl
namespace Go.Pl
open Go Go.Tv Go.RowKit
set_option linter.unusedVariables false
set_option linter.unusedSimpArgs false
def poolB (h : List Card) : Bool := hand h && decide (h.length ≤ 15)
theorem s_l3Pool_eq {n : Nat} (hn : BIG ≤ n) {h : List Card} (hl : h.length ≤ 1048576) : s_l3Pool n h = some (poolB h) := by
  unfold s_l3Pool poolB
  rw [s_l2Hand_eq hn (by omega)]
  have e : decide ((h.length : Int) ≤ 15) = decide (h.length ≤ 15) := by congr 1; apply propext; omega
  rw [e]
  cases hand h <;> rfl
theorem i_isPool_eq {n : Nat} (hn : BIG ≤ n) {h : List Card} (hl : h.length ≤ 1048576) : i_isPool n h = some (poolB h) := by
  unfold i_isPool poolB
  rw [i_IsHand_eq hn (by omega)]
  have e : decide ((h.length : Int) ≤ 15) = decide (h.length ≤ 15) := by congr 1; apply propext; omega
  rw [e]
  cases hand h <;> rfl
end Go.Pl
