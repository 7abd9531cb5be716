/- Plain laws: L2b. -/
import Derived.Test.YtifcbamdncpahaaDoorLL4
set_option linter.unusedVariables false
set_option linter.unusedSimpArgs false
namespace Go.Pl
open Go Go.Tv Go.RowKit
theorem handP_sorted : ∀ {p : Card} {l : List Card}, handP (some p) l = true → (∀ c, c ∈ l → num p < num c) ∧ l.Pairwise fun a b => num a < num b
  | p, [], _ => ⟨fun c hc => (by cases hc), List.Pairwise.nil⟩
  | p, c :: l, h => by
    rw [handP_cons, Bool.and_eq_true, Bool.and_eq_true] at h
    obtain ⟨⟨h1, h2⟩, h3⟩ := h
    have h2 := of_decide_eq_true h2
    obtain ⟨g1, g2⟩ := handP_sorted h3
    refine ⟨fun d hd => ?_, List.pairwise_cons.2 ⟨g1, g2⟩⟩
    rcases List.mem_cons.1 hd with rfl | hd
    · exact h2
    · have := g1 d hd; omega
theorem hand_sorted {h : List Card} (hh : hand h = true) : h.Pairwise fun a b => num a < num b := by
  unfold hand at hh
  rw [Bool.and_eq_true] at hh
  cases h with
  | nil => exact List.Pairwise.nil
  | cons c l =>
    have h1 := hh.1
    rw [handP_cons, Bool.and_eq_true] at h1
    obtain ⟨g1, g2⟩ := handP_sorted h1.2
    exact List.pairwise_cons.2 ⟨g1, g2⟩
theorem hand_nodup {h : List Card} (hh : hand h = true) : h.Nodup := (hand_sorted hh).imp fun hab heq => by rw [heq] at hab; exact absurd hab (Int.lt_irrefl _)
end Go.Pl
