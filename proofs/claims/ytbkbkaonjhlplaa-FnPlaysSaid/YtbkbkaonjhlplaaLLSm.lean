/- Plain laws: LSm. -/
import Derived.Test.YtbkbkaonjhlplaaLLCp
import Derived.Test.YtbkbkaonjhlplaaLLV
set_option linter.unusedVariables false
set_option linter.unusedSimpArgs false
namespace Go.Pl
open Go Go.Tv Go.RowKit
set_option linter.unusedVariables false
set_option linter.unusedSimpArgs false

/-! sums of cards -/
def sm (F : Card → Int) (l : List Card) : Int := (l.map F).sum
theorem sm_nil (F : Card → Int) : sm F [] = 0 := rfl
theorem sm_cons (F : Card → Int) (c : Card) (l : List Card) : sm F (c :: l) = F c + sm F l := by unfold sm; rw [List.map_cons, List.sum_cons]
theorem sm_app (F : Card → Int) (a b : List Card) : sm F (a ++ b) = sm F a + sm F b := by
  induction a with
  | nil => rw [List.nil_append, sm_nil]; omega
  | cons x a ih => rw [List.cons_append, sm_cons, sm_cons, ih]; omega
theorem sm_perm {F : Card → Int} {a b : List Card} (h : a.Perm b) : sm F a = sm F b := by
  induction h with
  | nil => rfl
  | cons x _ ih => rw [sm_cons, sm_cons, ih]
  | swap x y l => rw [sm_cons, sm_cons, sm_cons, sm_cons]; omega
  | trans _ _ h1 h2 => exact h1.trans h2
theorem sm_one (l : List Card) : sm (fun _ => 1) l = (l.length : Int) := by
  induction l with
  | nil => rfl
  | cons x l ih => rw [sm_cons, ih, List.length_cons]; omega
theorem ins_sum {F : Card → Int} {c : Card} : ∀ {l : List Card}, c ∉ l → sm F (ins c l) = F c + sm F l
  | [], _ => by unfold ins; rw [sm_cons]
  | x :: l, h => by
    have h1 : ¬ x = c := fun e => h (e ▸ List.mem_cons_self)
    have h2 : c ∉ l := fun e => h (List.mem_cons_of_mem _ e)
    unfold ins
    split
    · rw [sm_cons, ins_sum h2, sm_cons]; omega
    · rw [sm_cons]
theorem sortd_sum_go {F : Card → Int} : ∀ {l a : List Card}, l.Nodup → (∀ c ∈ l, c ∉ a) → sm F (l.foldl (fun a c => ins c a) a) = sm F l + sm F a
  | [], a, _, _ => by rw [List.foldl_nil, sm_nil]; omega
  | c :: l, a, h, hd => by
    obtain ⟨h1, h2⟩ := List.nodup_cons.1 h
    rw [List.foldl_cons, sortd_sum_go h2 fun x hx hm => ?_, ins_sum (hd c List.mem_cons_self), sm_cons]
    · omega
    · rcases ins_mem.1 hm with e | hm
      · exact h1 (e ▸ hx)
      · exact hd x (List.mem_cons_of_mem _ hx) hm
theorem sortd_sum {F : Card → Int} {l : List Card} (h : l.Nodup) : sm F (sortd l) = sm F l := by
  have := sortd_sum_go (F := F) (a := []) h fun c _ => by simp
  rw [sm_nil, Int.add_zero] at this
  exact this
theorem sortd_length {l : List Card} (h : l.Nodup) : (sortd l).length = l.length := by
  have := sortd_sum (F := fun _ => 1) h
  rw [sm_one, sm_one] at this; omega
def cx (k : Nat) (c : Card) : Int := V4.get c k
def sumC (h : List Card) : Card := ⟨sm (cx 0) h % 3, sm (cx 1) h % 3, sm (cx 2) h % 3, sm (cx 3) h % 3⟩
theorem i_sum_step {n : Nat} (hn : BIG ≤ n) (go : List Card × Int × Int × Card × Card → Opt Card) (h : List Card) (l i : Int) (z : Card) {c a : Card} (hc : isC c = true) (ha : isC a = true) (hi : 0 ≤ i ∧ i ≤ 1000000) :
    fx (i_sum_L1 n go) n (h, l, i, c, 0, z, a) = go (h, l, i + 1, z, ⟨(a.x0 + c.x0) % 3, (a.x1 + c.x1) % 3, (a.x2 + c.x2) % 3, (a.x3 + c.x3) % 3⟩) := by
  obtain ⟨m, rfl⟩ : ∃ m, n = m + 5 := ⟨n - 5, by unfold BIG at hn; omega⟩
  rw [isC_iff] at hc ha
  simp only [lt_eq, fx_succ, i_sum_L1]
  simp [V4.get, V4.set, show inb 0 4 = true from rfl, show inb 1 4 = true from rfl, show inb 2 4 = true from rfl, show inb 3 4 = true from rfl, show w64 1 = 1 from by decide, show w64 (1 + 1) = 2 from by decide, show w64 (2 + 1) = 3 from by decide, show w64 (3 + 1) = 4 from by decide]
  rw [w64_id (x := a.x0 + c.x0) (by omega), w64_id (x := a.x1 + c.x1) (by omega), w64_id (x := a.x2 + c.x2) (by omega), w64_id (x := a.x3 + c.x3) (by omega), w64_id (x := i + 1) (by omega), Int.tmod_eq_emod_of_nonneg (by omega), Int.tmod_eq_emod_of_nonneg (by omega), Int.tmod_eq_emod_of_nonneg (by omega), Int.tmod_eq_emod_of_nonneg (by omega)]
theorem sumC_isC (h : List Card) : isC (sumC h) = true := by
  rw [isC_iff]
  unfold sumC
  simp only []
  omega
theorem sumC_snoc (h : List Card) (c : Card) : sumC (h ++ [c]) = ⟨((sumC h).x0 + c.x0) % 3, ((sumC h).x1 + c.x1) % 3, ((sumC h).x2 + c.x2) % 3, ((sumC h).x3 + c.x3) % 3⟩ := by
  unfold sumC
  simp only [sm_app, sm_cons, sm_nil, cx, V4.get]
  congr 1 <;> omega
theorem i_sum_eq {n : Nat} (hn : BIG ≤ n) {h : List Card} (hc : AllC h) (hl : h.length ≤ 1000) : i_sum n h = some (sumC h) := by
  unfold i_sum
  rw [lt_eq]
  have := fx_cnt (B := i_sum_L2 n) h.length (fun i => (h, (h.length : Int), (i : Int), (⟨0, 0, 0, 0⟩ : Card), sumC (h.take i))) (fun _ => True) (fun _ => some (sumC h)) (fun self i hi _ ih => by
    simp only [i_sum_L2]
    by_cases h1 : i < h.length
    · have g : gl (⟨0, 0, 0, 0⟩ : Card) h i = h[i] := gl_eq h1
      rw [br_pos (decide_eq_true (show (i : Int) < (h.length : Int) by omega)), ckb_pos (inb_ok h1), toNat_cast, g, i_sum_step hn self _ _ _ _ (hc _ (List.getElem_mem h1)) (sumC_isC _) (by omega), ← ih h1 trivial, List.take_succ_eq_append_getElem h1, sumC_snoc]
      rfl
    · have : i = h.length := by omega
      subst this
      rw [br_neg (decide_eq_false (by omega)), List.take_length]) n 0 (Nat.zero_le _) trivial (big_gt hn (by omega))
  exact this
theorem i_SumCards_eq {n : Nat} (hn : BIG ≤ n) {h : List Card} (hl : h.length ≤ 1048576) : i_SumCards n h = some (if hand h then (sumC h, true) else (⟨0, 0, 0, 0⟩, false)) := by
  unfold i_SumCards
  rw [i_IsHand_eq hn (by omega), ob_some]
  cases hh : hand h with
  | false => rfl
  | true =>
    have := hand_len hh
    rw [Bool.not_true, br_false, i_sum_eq hn (hand_all hh) (by omega)]; rfl
end Go.Pl
