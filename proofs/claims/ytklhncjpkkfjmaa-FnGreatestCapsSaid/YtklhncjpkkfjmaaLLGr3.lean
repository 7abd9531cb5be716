/- Plain laws: LGr3. -/
import Derived.Test.YtklhncjpkkfjmaaLLGr2
import Derived.Test.YtklhncjpkkfjmaaLLVc
set_option linter.unusedVariables false
set_option linter.unusedSimpArgs false
namespace Go.Pl
open Go Go.Tv Go.RowKit
set_option linter.unusedVariables false
set_option linter.unusedSimpArgs false

/-! counts of caps of few cards -/
def Y (h : List Card) (m : Nat) (I : List Nat) (k l : Nat) : Nat := (X h m I k).countP fun L => decide (L.length = I.length + (l + 1))
theorem Y_s0 (h : List Card) (m : Nat) (I : List Nat) (k : Nat) : Y h (m + 1) I k 0 = (if okc h I k = true then 1 else 0) + Y h m I (k + 1) 0 := by
  unfold Y
  rw [X, List.countP_append]
  congr 1
  split
  · rw [List.countP_cons]
    have : (X h m (I ++ [k]) (k + 1)).countP (fun L => decide (L.length = I.length + (0 + 1))) = 0 := List.countP_eq_zero.2 fun L hL => by
      have := (X_gt h hL).1
      rw [List.length_append, List.length_singleton] at this
      simp; omega
    rw [this]; simp
  · rfl
theorem Y_ss (h : List Card) (m : Nat) (I : List Nat) (k l : Nat) : Y h (m + 1) I k (l + 1) = (if okc h I k = true then Y h m (I ++ [k]) (k + 1) l else 0) + Y h m I (k + 1) (l + 1) := by
  unfold Y
  rw [X, List.countP_append]
  congr 1
  split
  · rw [List.countP_cons]
    have e1 : decide ((I ++ [k]).length = I.length + (l + 1 + 1)) = false := decide_eq_false (by rw [List.length_append, List.length_singleton]; omega)
    rw [e1]
    have e2 : ∀ L : List Nat, decide (L.length = (I ++ [k]).length + (l + 1)) = decide (L.length = I.length + (l + 1 + 1)) := fun L => by
      congr 1; apply propext; rw [List.length_append, List.length_singleton]; omega
    simp only [e2]; simp
  · rfl
theorem ok0 (h : List Card) (k : Nat) : okc h [] k = true := rfl
theorem ok1 (h : List Card) (a k : Nat) : okc h [a] k = true := rfl
theorem ok2 (h : List Card) (a b k : Nat) : (if okc h [a, b] k = true then 1 else 0) + (l1 h a b k).length = 1 := by
  have e : thr ([a, b].map (gz h)) (gz h k) = if lineB (gz h a) (gz h b) (gz h k) = true then 1 else 0 := by
    show (pr1 [gz h a, gz h b] (gz h k) 0 1 ++ [] ++ ([] ++ [])).length = _
    unfold pr1
    show (((if lineB (gz h a) (gz h b) (gz h k) = true then [(⟨0, 1⟩ : V2 Int)] else []) ++ [] ++ ([] ++ [])).length) = _
    split <;> rfl
  unfold okc
  rw [e]
  unfold l1 lnAt
  show _ + (if lineB (gz h a) (gz h b) (gz h k) = true then [(⟨a, b, k⟩ : V3 Int)] else []).length = 1
  cases lineB (gz h a) (gz h b) (gz h k) <;> rfl
theorem Y1 (h : List Card) : ∀ (m k : Nat), Y h m [] k 0 = m
  | 0, k => rfl
  | m + 1, k => by rw [Y_s0, ok0, if_pos rfl, Y1 h m]; omega
theorem Y1a (h : List Card) (a : Nat) : ∀ (m k : Nat), Y h m [a] k 0 = m
  | 0, k => rfl
  | m + 1, k => by rw [Y_s0, ok1, if_pos rfl, Y1a h a m]; omega
theorem Y2 (h : List Card) : ∀ (m k : Nat), Y h m [] k 1 = c2' m
  | 0, k => rfl
  | m + 1, k => by rw [Y_ss, ok0, if_pos rfl, Y2 h m]; show Y h m [k] (k + 1) 0 + _ = _; rw [Y1a, c2']; omega
theorem Y3 (h : List Card) (a b : Nat) : ∀ (m k : Nat), Y h m [a, b] k 0 + ((List.range' k m).flatMap (l1 h a b)).length = m
  | 0, k => rfl
  | m + 1, k => by
    have ih := Y3 h a b m (k + 1)
    have h2 := ok2 h a b k
    rw [Y_s0, List.range'_succ, List.flatMap_cons, List.length_append]; omega
theorem Y2a (h : List Card) (a : Nat) : ∀ (m k : Nat), k + m = h.length → Y h m [a] k 1 + ((List.range' k m).flatMap (l2 h a)).length = c2' m
  | 0, k, _ => rfl
  | m + 1, k, hk => by
    have ih := Y2a h a m (k + 1) (by omega)
    have h3 := Y3 h a k m (k + 1)
    have e : (l2 h a k).length = ((List.range' (k + 1) m).flatMap (l1 h a k)).length := by
      unfold l2
      rw [show h.length - (k + 1) = m by omega]
    rw [Y_ss, ok1, if_pos rfl, List.range'_succ, List.flatMap_cons, List.length_append, e, c2']
    show Y h m [a, k] (k + 1) 0 + Y h m [a] (k + 1) 1 + _ = _
    omega
def c3' : Nat → Nat
  | 0 => 0
  | m + 1 => c3' m + c2' m
theorem Y3t (h : List Card) : ∀ (m k : Nat), k + m = h.length → Y h m [] k 2 + ((List.range' k m).flatMap (l3 h)).length = c3' m
  | 0, k, _ => rfl
  | m + 1, k, hk => by
    have ih := Y3t h m (k + 1) (by omega)
    have h2 := Y2a h k m (k + 1) (by omega)
    have e : (l3 h k).length = ((List.range' (k + 1) m).flatMap (l2 h k)).length := by
      unfold l3
      rw [show h.length - (k + 1) = m by omega]
    rw [Y_ss, ok0, if_pos rfl, List.range'_succ, List.flatMap_cons, List.length_append, e, c3']
    show Y h m [k] (k + 1) 1 + Y h m [] (k + 1) 2 + _ = _
    omega
def allX (h : List Card) : List (List Nat) := [] :: X h h.length [] 0
def cntX (h : List Card) (a : Int) : Nat := (allX h).countP (cntB a)
theorem cntX_succ (h : List Card) (l : Nat) : cntX h ((l + 1 : Nat) : Int) = Y h h.length [] 0 l := by
  unfold cntX allX Y
  rw [List.countP_cons]
  have e1 : cntB ((l + 1 : Nat) : Int) [] = false := decide_eq_false (by simp; omega)
  rw [e1]
  have e2 : (fun L : List Nat => decide (L.length = ([] : List Nat).length + (l + 1))) = cntB ((l + 1 : Nat) : Int) := funext fun L => by
    unfold cntB
    congr 1; apply propext; simp; omega
  rw [e2]; simp
theorem cntX_0 (h : List Card) : cntX h 0 = 1 := by
  unfold cntX allX
  rw [List.countP_cons]
  have : (X h h.length [] 0).countP (cntB 0) = 0 := List.countP_eq_zero.2 fun L hL => by
    have := (X_gt h hL).1
    unfold cntB
    simp at this ⊢
    intro e; subst e; simp at this
  rw [this]; rfl
theorem cntX_3 {h : List Card} (hnd : h.Nodup) : cntX h 3 + (linesOf h).length = c3' h.length := by
  have := Y3t h h.length 0 (by omega)
  rw [← lns_eq hnd]
  unfold lns
  have e := cntX_succ h 2
  rw [Nat.sub_zero]
  have e : cntX h 3 = Y h h.length [] 0 2 := e
  rw [e]; exact this

/-! the lists are caps -/
theorem cap_snoc {d : List Card} (hd : AllC d) (hcap : CapP d) {c : Card} (kc : isC c = true) (h1 : c ∉ d) (h2 : ∀ a ∈ d, ∀ b ∈ d, a ≠ b → third a b ≠ c) : CapP (d ++ [c]) := by
  have key : ∀ a ∈ d, third a c ∉ d := fun a ha hm => by
    have ca := hd a ha
    have hne : a ≠ c := fun e => h1 (e ▸ ha)
    refine h2 a ha _ hm ?_ (th_back ca kc)
    exact fun e => th_ne ca kc hne e.symm
  intro a ha b hb hne hm
  rcases List.mem_append.1 ha with ha | ha <;> rcases List.mem_append.1 hb with hb | hb
  · rcases List.mem_append.1 hm with hm | hm
    · exact hcap a ha b hb hne hm
    · exact h2 a ha b hb hne (List.mem_singleton.1 hm)
  · rw [List.mem_singleton.1 hb] at hm hne
    rcases List.mem_append.1 hm with hm | hm
    · exact key a ha hm
    · exact th_ne2 (hd a ha) kc hne (List.mem_singleton.1 hm)
  · rw [List.mem_singleton.1 ha] at hm hne
    rw [th_comm] at hm
    rcases List.mem_append.1 hm with hm | hm
    · exact key b hb hm
    · exact th_ne2 (hd b hb) kc (Ne.symm hne) (List.mem_singleton.1 hm)
  · exact hne ((List.mem_singleton.1 ha).trans (List.mem_singleton.1 hb).symm)
theorem X_cap {h : List Card} (H : HandL h) : ∀ {m : Nat} {I : List Nat} {k : Nat}, k + m ≤ h.length → Pk I k → CapP (I.map (gz h)) → ∀ L ∈ X h m I k, Pk L h.length ∧ CapP (L.map (gz h))
  | 0, I, k, _, _, _, L, hL => by cases hL
  | m + 1, I, k, hk, P, hc, L, hL => by
    rw [X, List.mem_append] at hL
    rcases hL with hL | hL
    · split at hL
      · rename_i ho
        have hI := ix_hand H P.pw fun i hi => by have := P.lt i hi; omega
        have kc : isC (gz h k) = true := gl_C H.c (by omega)
        have hc' : CapP ((I ++ [k]).map (gz h)) := by
          rw [List.map_append, List.map_singleton]
          refine cap_snoc hI.c hc kc (fun hm => ?_) (fun a ha b hb hne e => ?_)
          · obtain ⟨i, hi, e⟩ := List.mem_map.1 hm
            have hlt := P.lt i hi
            have := gz_inj H (show i < h.length by omega) (show k < h.length by omega) e
            omega
          · have := of_decide_eq_true ho
            have := (thr_pos hI).2 ⟨a, ha, b, hb, hne, e⟩
            omega
        rcases List.mem_cons.1 hL with rfl | hL
        · exact ⟨P.snoc.mono (by omega), hc'⟩
        · exact X_cap H (by omega) P.snoc hc' L hL
      · cases hL
    · exact X_cap H (by omega) (P.mono (by omega)) hc L hL
theorem pk_nil (k : Nat) : Pk [] k := ⟨List.Pairwise.nil, fun i hi => by cases hi⟩
theorem allX_cap {h : List Card} (H : HandL h) {L : List Nat} (hL : L ∈ allX h) : Pk L h.length ∧ CapP (L.map (gz h)) := by
  have c0 : CapP (([] : List Nat).map (gz h)) := fun a ha => by cases ha
  rcases List.mem_cons.1 hL with rfl | hL
  · exact ⟨pk_nil _, c0⟩
  · exact X_cap H (by omega) (pk_nil 0) c0 L hL
theorem pk_hand {h : List Card} (hh : hand h = true) {L : List Nat} (P : Pk L h.length) : hand (L.map (gz h)) = true := by
  obtain ⟨h1, h2, h3⟩ := hand_iff.1 hh
  have H := HandL.of hh
  have hl := P.len
  refine hand_iff.2 ⟨(ix_hand H P.pw P.lt).c, ?_, by rw [List.length_map]; omega⟩
  unfold SS
  rw [List.pairwise_map]
  refine List.Pairwise.imp_of_mem (fun {a b} ha hb hlt => ?_) P.pw
  have ga : gz h a = h[a]'(P.lt a ha) := gl_eq (P.lt a ha)
  have gb : gz h b = h[b]'(P.lt b hb) := gl_eq (P.lt b hb)
  rw [ga, gb]
  exact List.pairwise_iff_getElem.1 h2 a b _ _ hlt
theorem greedy_mem (h : List Card) : ∀ (m j : Nat), h.length - j = m → j ≤ h.length → grK h h.length = grK h j ∨ grK h h.length ∈ X h m (grK h j) j
  | 0, j, hm, hj => by have : j = h.length := by omega
                       subst this; exact .inl rfl
  | m + 1, j, hm, hj => by
    have ih := greedy_mem h m (j + 1) (by omega) (by omega)
    rw [X]
    have e : grK h (j + 1) = if thr ((grK h j).map (gz h)) (gz h j) = 0 then grK h j ++ [j] else grK h j := rfl
    unfold okc
    by_cases h0 : thr ((grK h j).map (gz h)) (gz h j) = 0
    · rw [if_pos h0] at e
      rw [e] at ih
      rw [if_pos (decide_eq_true h0)]
      right
      rcases ih with ih | ih
      · exact List.mem_append_left _ (by rw [ih]; exact List.mem_cons_self)
      · exact List.mem_append_left _ (List.mem_cons_of_mem _ ih)
    · rw [if_neg h0] at e
      rw [e] at ih
      rw [if_neg (by simpa using h0), List.nil_append]
      exact ih
theorem greedy_all (h : List Card) : grK h h.length ∈ allX h := by
  rcases greedy_mem h h.length 0 (by omega) (Nat.zero_le _) with e | e
  · rw [e]; exact List.mem_cons_self
  · exact List.mem_cons_of_mem _ e
def GB (h : List Card) : List Nat := (X h h.length [] 0).foldl bst []
theorem GB_ok (h : List Card) : GB h ∈ allX h ∧ ∀ L ∈ allX h, L.length ≤ (GB h).length := by
  obtain ⟨h1, h2, h3⟩ := bst_max (X h h.length [] 0) []
  refine ⟨?_, fun L hL => ?_⟩
  · unfold GB
    rcases h1 with e | e
    · rw [e]; exact List.mem_cons_self
    · exact List.mem_cons_of_mem _ e
  · rcases List.mem_cons.1 hL with rfl | hL
    · exact Nat.zero_le _
    · exact h3 L hL
end Go.Pl
