/- Plain laws: LW. -/
import Derived.Test.YtogpfbmanlicdaaLLV
import Derived.Test.YtogpfbmanlicdaaLLX2
set_option linter.unusedVariables false
set_option linter.unusedSimpArgs false
namespace Go.Pl
open Go Go.Tv Go.RowKit
set_option linter.unusedVariables false

/-! what a game is -/
def w60 (x : Int) : Bool := decide (0 ≤ x ∧ x ≤ 60)
theorem allWithin_eq {n : Nat} (hn : BIG ≤ n) {l : List Int} (hl : l.length ≤ 1099511627776) : i_allWithin n l 0 60 = some (l.all w60) := by
  unfold i_allWithin slices_ContainsFunc_Sint_int_'l_i_allWithin_1pp slices_IndexFunc_Sint_int_'l_i_allWithin_1pp
  have := fx_find (B := slices_IndexFunc_Sint_int_'l_i_allWithin_1pp_L1 n) l (fun i => (l, (l.length : Int), (i : Int), (0 : Int), (60 : Int))) (fun x => !w60 x) (fun i => some ((i : Int), (0 : Int), (60 : Int))) (some (-1, 0, 60)) (fun self i hi => ?_) (fun self => ?_) n (big_gt hn (by omega))
  · rw [show fx (slices_IndexFunc_Sint_int_'l_i_allWithin_1pp_L1 n) n (l, (l.length : Int), 0, 0, 60) = _ from this]
    have e : l.all w60 = !(l.findIdx? fun x => !w60 x).isSome := by rw [findIdx?_any]; simp [List.all_eq_not_any_not]
    rw [e]
    cases l.findIdx? fun x => !w60 x with
    | none => rfl
    | some i =>
      simp only [ob_some, Option.isSome_some, Bool.not_true]
      rw [decide_eq_true (show (0 : Int) ≤ (i : Int) by omega)]; rfl
  · simp only [slices_IndexFunc_Sint_int_'l_i_allWithin_1pp_L1, lt_eq, i_allWithin_1'pp, i_within_eq, ob_some]
    rw [show decide ((i : Int) < (l.length : Int)) = true from decide_eq_true (by omega), br_true, ckb_pos (inb_ok hi), toNat_cast, gl_eq hi, w64_succ (by omega)]
    show br (!w60 l[i]) _ _ = _
    cases w60 l[i] <;> rfl
  · simp only [slices_IndexFunc_Sint_int_'l_i_allWithin_1pp_L1]
    rw [show decide ((l.length : Int) < (l.length : Int)) = false from decide_eq_false (by omega), br_false]
def gameFrom (g : Game) (i : Nat) : Bool := (List.range' i (g.2.1.length - i)).all fun k => w60 (gl 0 g.2.1 k) && w60 (gl 0 g.2.2 k)
theorem s_gameL {n : Nat} (hn : BIG ≤ n) {g : Game} (h4 : g.2.1.length ≤ 4) (he : g.2.2.length = g.2.1.length) : fx (s_l8Game_L1 n) n (0, g) = some (gameFrom g 0) := by
  have := fx_cnt (B := s_l8Game_L1 n) g.2.1.length (fun i => ((i : Int), g)) (fun _ => True) (fun i => some (gameFrom g i)) (fun self i hi _ ih => ?_) n 0 (by omega) trivial (big_gt hn (by omega))
  · exact this
  · simp only [s_l8Game_L1, lt_eq, s_l1In_eq, ob_some]
    by_cases h : i < g.2.1.length
    · rw [show decide ((i : Int) < (g.2.1.length : Int)) = true from decide_eq_true (by omega), br_true, ckb_pos (inb_ok h), ckb_pos (inb_ok (by omega)), toNat_cast, w64_succ (by omega), br_some, ob_some]
      have := ih h trivial
      unfold gameFrom at this ⊢
      rw [range'_cons h, List.all_cons]
      show br (if (!w60 (gl 0 g.2.1 i)) = true then true else !w60 (gl 0 g.2.2 i)) (some false) (self (((i + 1 : Nat) : Int), g)) = _
      cases w60 (gl 0 g.2.1 i) with
      | false => rfl
      | true =>
        cases w60 (gl 0 g.2.2 i) with
        | false => rfl
        | true => simpa using this
    · have : i = g.2.1.length := by omega
      subst this
      rw [show decide ((g.2.1.length : Int) < (g.2.1.length : Int)) = false from decide_eq_false (by omega), br_false]
      unfold gameFrom; rw [range'_nil (Nat.le_refl _)]; rfl
theorem all_get {l : List Int} : l.all w60 = (List.range' 0 (l.length - 0)).all fun k => w60 (gl 0 l k) := by
  rw [Bool.eq_iff_iff, List.all_eq_true, List.all_eq_true]
  constructor
  · intro h k hk
    rw [List.mem_range'_1] at hk
    have : k < l.length := by omega
    rw [gl_eq this]; exact h _ (List.getElem_mem this)
  · intro h x hx
    obtain ⟨k, hk, rfl⟩ := List.mem_iff_getElem.1 hx
    have := h k (by rw [List.mem_range'_1]; omega)
    rwa [gl_eq hk] at this
theorem gameFrom_eq {g : Game} (he : g.2.2.length = g.2.1.length) : gameFrom g 0 = (g.2.1.all w60 && g.2.2.all w60) := by
  rw [all_get, all_get, he]
  unfold gameFrom
  rw [Bool.eq_iff_iff, Bool.and_eq_true, List.all_eq_true, List.all_eq_true, List.all_eq_true]
  constructor
  · intro h
    exact ⟨fun k hk => (Bool.and_eq_true _ _ ▸ h k hk).1, fun k hk => (Bool.and_eq_true _ _ ▸ h k hk).2⟩
  · intro h k hk
    rw [Bool.and_eq_true]; exact ⟨h.1 k hk, h.2 k hk⟩
theorem isGame_eq {n : Nat} (hn : BIG ≤ n) (g : Game) (h1 : g.1.2.2.length ≤ 2000000) (h2 : g.2.1.length ≤ 1099511627776) (h3 : g.2.2.length ≤ 1099511627776) :
    ∃ b, s_l8Game n g = some b ∧ i_IsGame n g = some b ∧ (b = true → ∃ p, Piles n g.1.1 p ∧ GameOK p g) := by
  obtain ⟨b, e1, e2, hb⟩ := isDeal_eq hn g.1 h1
  refine ⟨b && decide (1 ≤ g.2.1.length ∧ g.2.1.length ≤ 4) && decide (g.2.2.length = g.2.1.length) && (g.2.1.all w60 && g.2.2.all w60), ?_, ?_, fun h => ?_⟩
  · unfold s_l8Game
    rw [e1]
    simp only [ob_some, s_l1In_eq, br_some]
    cases b with
    | false => rfl
    | true =>
      by_cases h4 : 1 ≤ g.2.1.length ∧ g.2.1.length ≤ 4
      · by_cases he : g.2.2.length = g.2.1.length
        · rw [decide_eq_true h4, decide_eq_true he, decide_eq_true (show (1 : Int) ≤ (g.2.1.length : Int) ∧ (g.2.1.length : Int) ≤ 4 by omega), decide_eq_true (show (g.2.2.length : Int) = (g.2.1.length : Int) by omega)]
          show fx (s_l8Game_L1 n) n (0, g) = _
          rw [s_gameL hn h4.2 he, gameFrom_eq he]; rfl
        · rw [decide_eq_true h4, decide_eq_false he, decide_eq_true (show (1 : Int) ≤ (g.2.1.length : Int) ∧ (g.2.1.length : Int) ≤ 4 by omega), decide_eq_false (show ¬ (g.2.2.length : Int) = (g.2.1.length : Int) by omega)]
          rfl
      · rw [decide_eq_false h4, decide_eq_false (show ¬ ((1 : Int) ≤ (g.2.1.length : Int) ∧ (g.2.1.length : Int) ≤ 4) by omega)]
        rfl
  · unfold i_IsGame
    rw [e2]
    simp only [ob_some, i_within_eq, allWithin_eq hn h2, allWithin_eq hn h3, br_some]
    rw [show decide ((1 : Int) ≤ (g.2.1.length : Int) ∧ (g.2.1.length : Int) ≤ 4) = decide (1 ≤ g.2.1.length ∧ g.2.1.length ≤ 4) by congr 1; apply propext; omega,
      show decide ((g.2.2.length : Int) = (g.2.1.length : Int)) = decide (g.2.2.length = g.2.1.length) by congr 1; apply propext; omega]
    cases b <;> cases decide (1 ≤ g.2.1.length ∧ g.2.1.length ≤ 4) <;> cases decide (g.2.2.length = g.2.1.length) <;> cases g.2.1.all w60 <;> cases g.2.2.all w60 <;> rfl
  · simp only [Bool.and_eq_true, decide_eq_true_eq] at h
    obtain ⟨⟨⟨hbt, h4⟩, he⟩, h5, h6⟩ := h
    obtain ⟨p, q1, q2, q3, q4⟩ := hb hbt
    refine ⟨p, ⟨q1, q2, q3⟩, ⟨q4, h4.1, h4.2, he, fun x hx => ?_, fun x hx => ?_⟩⟩
    · exact of_decide_eq_true (List.all_eq_true.1 h5 x hx)
    · exact of_decide_eq_true (List.all_eq_true.1 h6 x hx)
end Go.Pl
