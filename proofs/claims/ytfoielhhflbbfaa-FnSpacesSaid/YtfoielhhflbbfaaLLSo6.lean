/- Plain laws: LSo6. -/
import Derived.Test.YtfoielhhflbbfaaLLSo5
set_option linter.unusedVariables false
set_option linter.unusedSimpArgs false
namespace Go.Pl
open Go Go.Tv Go.RowKit
set_option linter.unusedVariables false
def SS (l : List Card) : Prop := l.Pairwise fun a b => num a < num b
theorem ss_uniq : ∀ {l l' : List Card}, SS l → SS l' → (∀ c, c ∈ l ↔ c ∈ l') → l = l'
  | [], [], _, _, _ => rfl
  | [], b :: l', _, _, h => by have := (h b).2 List.mem_cons_self; cases this
  | a :: l, [], _, _, h => by have := (h a).1 List.mem_cons_self; cases this
  | a :: l, b :: l', h1, h2, h => by
    obtain ⟨a1, a2⟩ := List.pairwise_cons.1 h1
    obtain ⟨b1, b2⟩ := List.pairwise_cons.1 h2
    have hab : a = b := by
      rcases List.mem_cons.1 ((h a).1 List.mem_cons_self) with e | e
      · exact e
      · rcases List.mem_cons.1 ((h b).2 List.mem_cons_self) with e2 | e2
        · exact e2.symm
        · have := a1 b e2; have := b1 a e; omega
    subst hab
    congr 1
    refine ss_uniq a2 b2 fun c => ⟨fun hc => ?_, fun hc => ?_⟩
    · rcases List.mem_cons.1 ((h c).1 (List.mem_cons_of_mem _ hc)) with e | e
      · subst e; exact absurd (a1 c hc) (Int.lt_irrefl _)
      · exact e
    · rcases List.mem_cons.1 ((h c).2 (List.mem_cons_of_mem _ hc)) with e | e
      · subst e; exact absurd (b1 c hc) (Int.lt_irrefl _)
      · exact e
theorem ss_of {l : List Card} (h : ∀ p q, p < q → q < l.length → nm l p < nm l q) : SS l := by
  refine List.pairwise_iff_getElem.2 fun i j hi hj hij => ?_
  have := h i j hij hj
  unfold nm at this
  rw [gl_eq hi, gl_eq hj] at this
  exact this
def ins (c : Card) : List Card → List Card
  | [] => [c]
  | x :: l => if num x < num c then x :: ins c l else if x = c then x :: l else c :: x :: l
theorem ins_mem {c d : Card} : ∀ {l : List Card}, d ∈ ins c l ↔ d = c ∨ d ∈ l
  | [] => by simp [ins]
  | x :: l => by
    unfold ins
    split
    · rw [List.mem_cons, ins_mem, List.mem_cons]
      constructor
      · rintro (h | h | h) <;> simp [h]
      · rintro (h | h | h) <;> simp [h]
    · split
      · rename_i h; subst h
        constructor
        · intro h; exact .inr h
        · rintro (h | h)
          · subst h; exact List.mem_cons_self
          · exact h
      · rw [List.mem_cons]
theorem ins_ss {c : Card} (hc : isC c = true) : ∀ {l : List Card}, AllC l → SS l → SS (ins c l)
  | [], _, _ => List.pairwise_cons.2 ⟨fun _ h => (by cases h), List.Pairwise.nil⟩
  | x :: l, ha, h => by
    obtain ⟨h1, h2⟩ := List.pairwise_cons.1 h
    unfold ins
    split
    · rename_i hlt
      refine List.pairwise_cons.2 ⟨fun d hd => ?_, ins_ss hc (fun d hd => ha d (List.mem_cons_of_mem _ hd)) h2⟩
      rcases ins_mem.1 hd with rfl | hd
      · exact hlt
      · exact h1 d hd
    · rename_i hlt
      split
      · exact h
      · rename_i hne
        have hx : num c < num x := by
          have : num c ≠ num x := fun e => hne (num_inj (ha x List.mem_cons_self) hc e.symm)
          omega
        refine List.pairwise_cons.2 ⟨fun d hd => ?_, h⟩
        rcases List.mem_cons.1 hd with rfl | hd
        · exact hx
        · have := h1 d hd; omega
theorem ins_allC {c : Card} (hc : isC c = true) {l : List Card} (h : AllC l) : AllC (ins c l) := fun d hd => by
  rcases ins_mem.1 hd with rfl | hd
  · exact hc
  · exact h d hd
theorem ins_len {c : Card} : ∀ {l : List Card}, (ins c l).length ≤ l.length + 1
  | [] => Nat.le_refl _
  | x :: l => by
    have := ins_len (c := c) (l := l)
    unfold ins
    split
    · simp only [List.length_cons]; omega
    · split <;> simp only [List.length_cons] <;> omega
theorem s_l2Put_eq {n : Nat} (hn : BIG ≤ n) {h : List Card} (hh : AllC h) (hl : h.length ≤ 1000000) {c : Card} (hc : isC c = true) : s_l2Put n h c = some (ins c h) := by
  unfold s_l2Put
  have := fx_cnt (B := s_l2Put_L1 n) h.length (fun i => (h, (i : Int), c)) (fun _ => True) (fun i => some (h.take i ++ ins c (h.drop i))) (fun self i hi _ hself => by
    simp only [s_l2Put_L1]
    by_cases h1 : i < h.length
    · have hci : isC (gl (⟨0, 0, 0, 0⟩ : Card) h i) = true := gl_C hh h1
      have e1 : decide ((i : Int) < (h.length : Int)) = true := decide_eq_true (by omega)
      simp only [e1, br_true]
      rw [ckb_pos (inb_ok h1), toNat_cast, s_l2Less_eq hci hc, ob_some, ob_some, drop_cons h1, gl_eq h1]
      unfold ins
      by_cases hlt : num h[i] < num c
      · rw [br_pos (decide_eq_true hlt), if_pos hlt, lt_eq, w64_succ (by omega), hself h1 trivial, take_snoc h1, List.append_assoc]; rfl
      · rw [br_neg (decide_eq_false hlt), if_neg hlt, ckb_pos (inb_ok h1), ob_some]
        by_cases he : h[i] = c
        · rw [br_pos (show eqd h[i] c = true from decide_eq_true he), if_pos he, s_l2Own_eq (by omega), ob_some, ← drop_cons h1, List.take_append_drop]
        · have el : (sub h 0 i).length = i := by simp [sub]; omega
          rw [br_neg (show eqd h[i] c = false from decide_eq_false he), if_neg he, ckb_pos (slb_ok (by omega) (by omega) (by omega)), s_l2Own_eq (by rw [el]; omega), ob_some, ckb_pos (apok_ok (by rw [el]; omega) (by rw [el]; omega)),
            ckb_pos (slb_ok (by omega) (by omega) (by omega)), ckb_pos (apok_ok (by simp [sub]; omega) (by simp [sub]; omega))]
          congr 1
          unfold sub
          rw [List.append_assoc, ← drop_cons h1]
          simp
          exact List.take_of_length_le (by simp)
    · have e1 : decide ((i : Int) < (h.length : Int)) = false := decide_eq_false (by omega)
      have e2 : i = h.length := by omega
      have el : (sub h 0 i).length = i := by simp [sub]; omega
      simp only [e1, br_false, ob_some]
      rw [toNat_cast, ckb_pos (slb_ok (by omega) (by omega) (by omega)), s_l2Own_eq (by rw [el]; omega), ob_some, ckb_pos (apok_ok (by rw [el]; omega) (by rw [el]; omega)),
            ckb_pos (slb_ok (by omega) (by omega) (by omega)), ckb_pos (apok_ok (by simp [sub]; omega) (by simp [sub]; omega))]
      congr 1
      unfold sub
      rw [e2]; simp [ins]) n 0 (Nat.zero_le _) trivial (big_gt hn (by omega))
  simpa using this
def sortd (l : List Card) : List Card := l.foldl (fun a c => ins c a) []
theorem sortd_go : ∀ (l a : List Card), AllC l → AllC a → SS a → AllC (l.foldl (fun a c => ins c a) a) ∧ SS (l.foldl (fun a c => ins c a) a) ∧ (∀ c, c ∈ l.foldl (fun a c => ins c a) a ↔ c ∈ l ∨ c ∈ a) ∧ (l.foldl (fun a c => ins c a) a).length ≤ l.length + a.length
  | [], a, _, ha, hs => ⟨ha, hs, fun c => by simp, by simp⟩
  | x :: l, a, hl, ha, hs => by
    have hx := hl x List.mem_cons_self
    obtain ⟨h1, h2, h3, h4⟩ := sortd_go l (ins x a) (fun c hc => hl c (List.mem_cons_of_mem _ hc)) (ins_allC hx ha) (ins_ss hx ha hs)
    refine ⟨h1, h2, fun c => ?_, ?_⟩
    · rw [List.foldl_cons, h3 c, ins_mem, List.mem_cons]
      constructor
      · rintro (h | h | h) <;> simp [h]
      · rintro ((h | h) | h) <;> simp [h]
    · have := ins_len (c := x) (l := a)
      rw [List.foldl_cons, List.length_cons]; omega
theorem sortd_ok {l : List Card} (hl : AllC l) : AllC (sortd l) ∧ SS (sortd l) ∧ (∀ c, c ∈ sortd l ↔ c ∈ l) ∧ (sortd l).length ≤ l.length := by
  obtain ⟨h1, h2, h3, h4⟩ := sortd_go l [] hl (fun c hc => (by cases hc)) List.Pairwise.nil
  exact ⟨h1, h2, fun c => by rw [sortd, h3 c]; simp, by rw [sortd]; simpa using h4⟩
theorem s_l2Sorted_eq {n : Nat} (hn : BIG ≤ n) {l : List Card} (hl : AllC l) (hlen : l.length ≤ 1000000) : s_l2Sorted n l = some (sortd l) := by
  unfold s_l2Sorted
  have := fx_foldl (B := s_l2Sorted_L1 n) l (fun i a => (l, (i : Int), a)) (fun a c => ins c a) some (fun i a => AllC a ∧ a.length ≤ i) (fun i a h ⟨h1, h2⟩ => ⟨ins_allC (hl _ (List.getElem_mem h)) h1, by
      have := ins_len (c := l[i]) (l := a); omega⟩) (fun self i a h ⟨h1, h2⟩ => by
    have e1 : decide ((i : Int) < (l.length : Int)) = true := decide_eq_true (by omega)
    simp only [s_l2Sorted_L1, e1, br_true]
    rw [ckb_pos (inb_ok h), toNat_cast, gl_eq h, s_l2Put_eq hn h1 (by omega) (hl _ (List.getElem_mem h)), ob_some, lt_eq, w64_succ (by omega)]) (fun self a _ => by
    have e1 : decide ((l.length : Int) < (l.length : Int)) = false := decide_eq_false (by omega)
    simp only [s_l2Sorted_L1, e1, br_false]) n (big_gt hn (by omega)) [] ⟨fun c hc => (by cases hc), Nat.le_refl _⟩
  simpa [sortd] using this
def CQ (d : List Card) (o : Opt (List Card)) : Prop := ∃ r, o = some r ∧ SS r ∧ (∀ c, c ∈ r ↔ c ∈ d) ∧ r.length ≤ d.length
theorem mem_gl {d : List Card} {c : Card} : c ∈ d ↔ ∃ q, q < d.length ∧ gl (⟨0, 0, 0, 0⟩ : Card) d q = c := by
  constructor
  · intro h
    obtain ⟨q, hq, e⟩ := List.getElem_of_mem h
    exact ⟨q, hq, by rw [gl_eq hq, e]⟩
  · rintro ⟨q, hq, e⟩
    rw [gl_eq hq] at e
    exact e ▸ List.getElem_mem hq
theorem gl_take {α : Type} (z : α) {d : List α} {i k : Nat} (h : k < i) : gl z (d.take i) k = gl z d k := by
  unfold gl
  simp [List.getD_eq_getElem?_getD, List.getElem?_take, h]
structure CI (d e : List Card) (i m : Nat) : Prop where
  len : e.length = d.length
  i1 : 1 ≤ i
  im : i < m
  rest : ∀ q, i ≤ q → gl (⟨0, 0, 0, 0⟩ : Card) e q = gl (⟨0, 0, 0, 0⟩ : Card) d q
  st : ∀ p q, p < q → q < i → nm e p < nm e q
  top : gl (⟨0, 0, 0, 0⟩ : Card) e (i - 1) = gl (⟨0, 0, 0, 0⟩ : Card) d (m - 1)
  from' : ∀ p, p < i → ∃ q, q < m ∧ gl (⟨0, 0, 0, 0⟩ : Card) e p = gl (⟨0, 0, 0, 0⟩ : Card) d q
  to : ∀ q, q < m → ∃ p, p < i ∧ gl (⟨0, 0, 0, 0⟩ : Card) e p = gl (⟨0, 0, 0, 0⟩ : Card) d q
theorem compact_L1 {n : Nat} (hn : BIG ≤ n) {d : List Card} (hd : AllC d) (hl : d.length ≤ 1000000) (hs : Srt d 0 d.length) {k0 : Nat} {i k2 : Nat} {e : List Card} (hk : k0 ≤ d.length) (h2 : k0 + k2 ≤ d.length) (I : CI d e i (k0 + k2)) (hk2 : 1 ≤ k2) (hik : k0 ≤ i) (hk0 : 1 ≤ k0) :
    CQ d (fx (slices_Compact_SA4_A4_'o_L1 n) n ((i : Int), (k0 : Int), ((d.length - k0 : Nat) : Int), (k2 : Int), e)) := by
  refine fx_inv (B := slices_Compact_SA4_A4_'o_L1 n) (fun s => ∃ (i k2 : Nat) (e : List Card), s = ((i : Int), (k0 : Int), ((d.length - k0 : Nat) : Int), (k2 : Int), e) ∧ k0 + k2 ≤ d.length ∧ 1 ≤ k2 ∧ k0 ≤ i ∧ CI d e i (k0 + k2))
    (fun s => 2000000 - s.2.2.2.1.toNat) (CQ d) ?_ n _ ⟨i, k2, e, rfl, h2, hk2, hik, I⟩ (big_gt hn (by simp only []; omega))
  clear I hk2 hik h2 i k2 e
  rintro self _ ⟨i, k2, e, rfl, h2, hk2, hik, I⟩ ih
  have hlen := I.len; have him := I.im; have hi1 := I.i1
  simp only [slices_Compact_SA4_A4_'o_L1, toNat_cast, lt_eq]
  by_cases hlt : k0 + k2 < d.length
  · rw [br_pos (decide_eq_true (show (k2 : Int) < ((d.length - k0 : Nat) : Int) by omega))]
    have hc : ∀ x : Nat, x < d.length - k0 → cand (inb (x : Int) (d.length - k0)) (nlt (k0 + x) e.length) = true := fun x hx => by
      rw [inb_ok hx]; exact decide_eq_true (by omega)
    rw [ckb_pos (hc k2 (by omega)), w64_pred hk2 (by omega), toNat_cast, ckb_pos (hc (k2 - 1) (by omega)), ckb_pos (hc k2 (by omega)), I.rest (k0 + k2) (by omega), I.rest (k0 + (k2 - 1)) (by omega)]
    have hcm : isC (gl (⟨0, 0, 0, 0⟩ : Card) d (k0 + k2)) = true := gl_C hd hlt
    have hcm1 : isC (gl (⟨0, 0, 0, 0⟩ : Card) d (k0 + (k2 - 1))) = true := gl_C hd (by omega)
    by_cases he : gl (⟨0, 0, 0, 0⟩ : Card) d (k0 + k2) = gl (⟨0, 0, 0, 0⟩ : Card) d (k0 + (k2 - 1))
    · rw [br_neg (show (!eqd _ _) = false by rw [show eqd (gl (⟨0, 0, 0, 0⟩ : Card) d (k0 + k2)) (gl (⟨0, 0, 0, 0⟩ : Card) d (k0 + (k2 - 1))) = true from decide_eq_true he]; rfl), w64_succ (by omega)]
      refine ih _ ⟨i, k2 + 1, e, rfl, by omega, by omega, hik, ⟨hlen, hi1, by omega, I.rest, I.st, ?_, fun p hp => ?_, fun q hq => ?_⟩⟩ (by simp only []; omega)
      · rw [I.top, show k0 + (k2 + 1) - 1 = k0 + k2 by omega, he]; congr 1; omega
      · obtain ⟨q, hq, e1⟩ := I.from' p hp
        exact ⟨q, by omega, e1⟩
      · by_cases hqm : q < k0 + k2
        · exact I.to q hqm
        · obtain ⟨p, hp, e1⟩ := I.to (k0 + (k2 - 1)) (by omega)
          exact ⟨p, hp, by rw [e1, show q = k0 + k2 by omega, he]⟩
    · rw [br_pos (show (!eqd _ _) = true by rw [show eqd (gl (⟨0, 0, 0, 0⟩ : Card) d (k0 + k2)) (gl (⟨0, 0, 0, 0⟩ : Card) d (k0 + (k2 - 1))) = false from decide_eq_false he]; rfl), ckb_pos (inb_ok (by omega)), w64_succ (by omega), w64_succ (by omega)]
      have gs : ∀ k, gl (⟨0, 0, 0, 0⟩ : Card) (e.set i (gl (⟨0, 0, 0, 0⟩ : Card) d (k0 + k2))) k = if k = i then gl (⟨0, 0, 0, 0⟩ : Card) d (k0 + k2) else gl (⟨0, 0, 0, 0⟩ : Card) e k := gl_set _ _ _ _ (by omega)
      have ns : ∀ k, nm (e.set i (gl (⟨0, 0, 0, 0⟩ : Card) d (k0 + k2))) k = if k = i then nm d (k0 + k2) else nm e k := fun k => by
        unfold nm; rw [gs]; split <;> rfl
      have hnm : nm d (k0 + k2 - 1) < nm d (k0 + k2) := by
        have h1 := hs (k0 + k2 - 1) (k0 + k2) (by omega) (by omega) hlt
        have : nm d (k0 + k2 - 1) ≠ nm d (k0 + k2) := fun e1 => he (num_inj hcm hcm1 (by rw [show k0 + (k2 - 1) = k0 + k2 - 1 by omega]; exact e1.symm))
        omega
      have htop : nm e (i - 1) = nm d (k0 + k2 - 1) := by unfold nm; rw [I.top]
      refine ih _ ⟨i + 1, k2 + 1, _, rfl, by omega, by omega, by omega, ⟨by rw [List.length_set]; exact hlen, by omega, by omega, fun q hq => ?_, fun p q h1 h2 => ?_, ?_, fun p hp => ?_, fun q hq => ?_⟩⟩ (by simp only []; omega)
      · rw [gs, if_neg (by omega)]; exact I.rest q (by omega)
      · rw [ns, ns, if_neg (by omega)]
        by_cases hq : q = i
        · rw [if_pos hq]
          by_cases hp : p = i - 1
          · rw [hp, htop]; exact hnm
          · have := I.st p (i - 1) (by omega) (by omega); omega
        · rw [if_neg hq]; exact I.st p q h1 (by omega)
      · rw [gs, if_pos (by omega)]; congr 1
      · rw [gs]
        by_cases hpi : p = i
        · rw [if_pos hpi]; exact ⟨k0 + k2, by omega, rfl⟩
        · rw [if_neg hpi]
          obtain ⟨q, hq, e1⟩ := I.from' p (by omega)
          exact ⟨q, by omega, e1⟩
      · by_cases hqm : q < k0 + k2
        · obtain ⟨p, hp, e1⟩ := I.to q hqm
          exact ⟨p, by omega, by rw [gs, if_neg (by omega)]; exact e1⟩
        · exact ⟨i, by omega, by rw [gs, if_pos rfl]; congr 1; omega⟩
  · have hm : k0 + k2 = d.length := by omega
    rw [br_neg (decide_eq_false (show ¬ (k2 : Int) < ((d.length - k0 : Nat) : Int) by omega)), ckb_pos (slb_ok (by omega) (by omega) (by omega)), w64_id (x := (e.length : Int) - (i : Int)) (by omega)]
    have e1 : ((e.length : Int) - (i : Int)).toNat = e.length - i := by omega
    have hl2 : (clr (⟨0, 0, 0, 0⟩ : Card) e i (e.length - i)).length = e.length := by unfold clr; simp; omega
    rw [e1, ckb_pos (slb_ok (by omega) (by omega) (by rw [hl2]; omega)), w64_id (x := (i : Int) - 0) (by omega)]
    have e2 : sub (clr (⟨0, 0, 0, 0⟩ : Card) e i (e.length - i)) 0 ((i : Int) - 0).toNat = e.take i := by
      unfold sub clr
      have : ((i : Int) - 0).toNat = i := by omega
      rw [this, Nat.sub_zero, List.drop_zero, List.append_assoc, List.take_append_of_le_length (by simp; omega), List.take_take, Nat.min_self]
    rw [e2]
    have hlt : (e.take i).length = i := by simp; omega
    refine ⟨_, rfl, ss_of fun p q h1 h2 => ?_, fun c => ?_, by rw [hlt]; omega⟩
    · rw [hlt] at h2
      unfold nm
      rw [gl_take _ (by omega), gl_take _ (by omega)]
      exact I.st p q h1 h2
    · rw [mem_gl, mem_gl, hlt]
      constructor
      · rintro ⟨p, hp, rfl⟩
        rw [gl_take _ hp]
        obtain ⟨q, hq, e3⟩ := I.from' p hp
        exact ⟨q, by omega, e3.symm⟩
      · rintro ⟨q, hq, rfl⟩
        obtain ⟨p, hp, e3⟩ := I.to q (by omega)
        exact ⟨p, hp, by rw [gl_take _ hp]; exact e3⟩
theorem compact_ok {n : Nat} (hn : BIG ≤ n) {d : List Card} (hd : AllC d) (hl : d.length ≤ 1000000) (hs : Srt d 0 d.length) : CQ d (slices_Compact_SA4_A4_'o n d) := by
  unfold slices_Compact_SA4_A4_'o
  rw [br_dec]
  split
  · exact ⟨d, rfl, ss_of fun p q h1 h2 => by omega, fun c => Iff.rfl, Nat.le_refl _⟩
  · refine fx_inv (B := slices_Compact_SA4_A4_'o_L2 n) (fun s => ∃ (k : Nat), s = ((k : Int), d) ∧ 1 ≤ k ∧ k ≤ d.length ∧ ∀ p q, p < q → q < k → nm d p < nm d q)
      (fun s => 2000000 - s.1.toNat) (CQ d) ?_ n _ ⟨1, rfl, by omega, by omega, fun p q _ _ => by omega⟩ (big_gt hn (by simp only []; omega))
    rintro self _ ⟨k, rfl, hk1, hk, H⟩ ih
    simp only [slices_Compact_SA4_A4_'o_L2, lt_eq]
    by_cases hlt : k < d.length
    · rw [br_pos (decide_eq_true (show (k : Int) < (d.length : Int) by omega)), ckb_pos (inb_ok hlt), w64_pred hk1 (by omega), ckb_pos (inb_ok (by omega)), toNat_cast, toNat_cast]
      by_cases he : gl (⟨0, 0, 0, 0⟩ : Card) d k = gl (⟨0, 0, 0, 0⟩ : Card) d (k - 1)
      · rw [br_pos (show eqd (gl (⟨0, 0, 0, 0⟩ : Card) d k) (gl (⟨0, 0, 0, 0⟩ : Card) d (k - 1)) = true from decide_eq_true he), ckb_pos (slb_ok (by omega) (by omega) (by omega)), w64_id (x := (d.length : Int) - (k : Int)) (by omega)]
        have e1 : ((((d.length : Int) - (k : Int)).toNat : Nat) : Int) = ((d.length - k : Nat) : Int) := by omega
        rw [e1]
        exact compact_L1 hn hd hl hs (k2 := 1) hk (by omega) ⟨rfl, hk1, by omega, fun q hq => rfl, H, by rw [← he]; congr 1, fun p hp => ⟨p, by omega, rfl⟩, fun q hq => by
          by_cases hqk : q < k
          · exact ⟨q, hqk, rfl⟩
          · exact ⟨k - 1, by omega, by rw [← he]; congr 1; omega⟩⟩ (Nat.le_refl _) (Nat.le_refl _) hk1
      · rw [br_neg (show eqd (gl (⟨0, 0, 0, 0⟩ : Card) d k) (gl (⟨0, 0, 0, 0⟩ : Card) d (k - 1)) = false from decide_eq_false he), w64_succ (by omega)]
        refine ih _ ⟨k + 1, rfl, by omega, by omega, fun p q h1 h2 => ?_⟩ (by simp only []; omega)
        have hnm : nm d (k - 1) < nm d k := by
          have h1 := hs (k - 1) k (by omega) (by omega) hlt
          have : nm d (k - 1) ≠ nm d k := fun e1 => he (num_inj (gl_C hd hlt) (gl_C hd (by omega)) e1.symm)
          omega
        by_cases hq : q = k
        · subst hq
          by_cases hp : p = q - 1
          · subst hp; exact hnm
          · have := H p (q - 1) (by omega) (by omega); omega
        · exact H p q h1 (by omega)
    · rw [br_neg (decide_eq_false (show ¬ (k : Int) < (d.length : Int) by omega))]
      exact ⟨d, rfl, ss_of fun p q h1 h2 => H p q h1 (by omega), fun c => Iff.rfl, Nat.le_refl _⟩
theorem i_sorted_eq {n : Nat} (hn : BIG ≤ n) {l : List Card} (hl : AllC l) (hlen : l.length ≤ 200) : i_sorted n l = some (sortd l) := by
  unfold i_sorted
  rw [slices_Clone_SA4_A4__eq (by omega), ob_some]
  obtain ⟨d, e, hsw, hs⟩ := sortFunc_ok hn hl hlen
  rw [e, ob_some]
  obtain ⟨r, e2, h1, h2, h3⟩ := compact_ok hn (hsw.allC hl) (by rw [hsw.len]; omega) (by rw [hsw.len]; exact hs)
  have := hsw.len
  rw [e2, ob_some, slices_Clone_SA4_A4__eq (by omega), ob_some]
  obtain ⟨g1, g2, g3, g4⟩ := sortd_ok hl
  congr 1
  refine ss_uniq h1 g2 fun c => ?_
  rw [h2 c, g3 c]
  have := hsw.count c
  constructor
  · intro h; exact List.count_pos_iff.1 (by rw [← this]; exact List.count_pos_iff.2 h)
  · intro h; exact List.count_pos_iff.1 (by rw [this]; exact List.count_pos_iff.2 h)
end Go.Pl
