/- Plain laws: LC, LRs, LFl. -/
import Derived.Test.YtfoielhhflbbfaaG2
import Derived.Test.YtfoielhhflbbfaaG3
import Derived.KernelRfl
import Derived.Test.YtfoielhhflbbfaaG6
import Derived.Test.YtfoielhhflbbfaaG4
import Derived.Test.YtfoielhhflbbfaaPL
set_option linter.unusedVariables false
set_option linter.unusedSimpArgs false
namespace Go.Pl
open Go Go.Tv Go.RowKit
set_option linter.unusedVariables false
set_option linter.unusedSimpArgs false
theorem areCards_3 {n : Nat} (hn : BIG ≤ n) (a b c : Card) : i_areCards n [a, b, c] = some (isC a && (isC b && isC c)) := by
  have e : ∀ x, i_areCards_1 n x = some (! isC x) := fun x => by unfold i_areCards_1; rw [i_IsCard_eq hn]; rfl
  obtain ⟨m, rfl⟩ : ∃ m, n = m + 5 := ⟨n - 5, by unfold BIG at hn; omega⟩
  unfold i_areCards slices_ContainsFunc_SA4_A4_'l_i_areCards_1 slices_IndexFunc_SA4_A4_'l_i_areCards_1
  simp only [fx_succ, slices_IndexFunc_SA4_A4_'l_i_areCards_1_L1]
  simp only [e, ob_some, inb, gl]
  cases h0 : isC a <;> cases h1 : isC b <;> cases h2 : isC c <;> simp [h0, h1, h2]
def d1 (x y : Int) : Int := if x = y then 0 else 1
def T3 (a b : Card) : Card × Bool := if (isC a && isC b && !decide (a = b)) = true then (third a b, true) else (⟨0, 0, 0, 0⟩, false)
theorem i_ThirdCard_eq {n : Nat} (hn : BIG ≤ n) (a b : Card) : i_ThirdCard n a b = some (T3 a b) := by
  unfold i_ThirdCard T3
  rw [i_IsCard_eq hn, i_IsCard_eq hn]
  cases ha : isC a <;> cases hb : isC b <;> by_cases h : a = b <;> simp [eqd, h, br_some]
  all_goals first | rfl | skip
  all_goals rw [i_third_eq hn (by simp_all) (by simp_all)]; rfl
def I3 (a b c : Card) : Bool × Bool := if (isC a && (isC b && isC c)) = true then (lineB a b c, true) else (false, false)
theorem i_IsLine_eq {n : Nat} (hn : BIG ≤ n) (a b c : Card) : i_IsLine n a b c = some (I3 a b c) := by
  unfold i_IsLine I3
  rw [areCards_3 hn]
  cases ha : isC a <;> cases hb : isC b <;> cases hc : isC c <;> simp
  rw [i_isLine_eq hn c ha hb]; rfl
end Go.Pl
namespace Go.Pl
open Go Go.Tv Go.RowKit
set_option linter.unusedVariables false
end Go.Pl
namespace Go.Pl
open Go Go.Tv Go.RowKit
set_option linter.unusedVariables false
theorem handP_iff : ∀ {p : Option Card} {l : List Card}, handP p l = true ↔ AllC l ∧ SS l ∧ (∀ q, p = some q → ∀ c ∈ l, num q < num c)
  | p, [] => by
    constructor
    · intro _; exact ⟨fun c h => (by cases h), List.Pairwise.nil, fun q _ c h => by cases h⟩
    · intro _; rfl
  | p, c :: l => by
    rw [handP_cons, Bool.and_eq_true, Bool.and_eq_true, handP_iff]
    constructor
    · rintro ⟨⟨h1, h2⟩, h3, h4, h5⟩
      refine ⟨fun x hx => ?_, List.pairwise_cons.2 ⟨fun x hx => h5 c rfl x hx, h4⟩, fun q hq x hx => ?_⟩
      · rcases List.mem_cons.1 hx with rfl | hx
        · exact h1
        · exact h3 x hx
      · subst hq
        have h2 : num q < num c := of_decide_eq_true h2
        rcases List.mem_cons.1 hx with rfl | hx
        · exact h2
        · exact Int.lt_trans h2 (h5 c rfl x hx)
    · rintro ⟨h1, h2, h3⟩
      obtain ⟨h4, h5⟩ := List.pairwise_cons.1 h2
      refine ⟨⟨h1 c List.mem_cons_self, ?_⟩, fun x hx => h1 x (List.mem_cons_of_mem _ hx), h5, fun q hq x hx => ?_⟩
      · cases p with
        | none => rfl
        | some q => exact decide_eq_true (h3 q rfl c List.mem_cons_self)
      · cases hq; exact h4 x hx
theorem hand_iff {h : List Card} : hand h = true ↔ AllC h ∧ SS h ∧ h.length ≤ 27 := by
  unfold hand
  rw [Bool.and_eq_true, handP_iff]
  constructor
  · rintro ⟨⟨h1, h2, _⟩, h3⟩; exact ⟨h1, h2, of_decide_eq_true h3⟩
  · rintro ⟨h1, h2, h3⟩; exact ⟨⟨h1, h2, fun q hq => by cases hq⟩, decide_eq_true h3⟩
def CapP (h : List Card) : Prop := ∀ a ∈ h, ∀ b ∈ h, a ≠ b → third a b ∉ h
structure FD (h d : List Card) : Prop where
  ss : SS d
  c : AllC d
  cap : CapP d
  sub : ∀ x ∈ h, x ∈ d
  full : ∀ j, j < 81 → outOK d false j = false
def toPt (c : Card) : Go.Cap.Pt := ⟨c.x0, c.x1, c.x2, c.x3⟩
theorem toPt_inj {a b : Card} (h : toPt a = toPt b) : a = b := by
  cases a; cases b; unfold toPt at h; cases h; rfl
theorem toPt_th {a b : Card} (ha : isC a = true) (hb : isC b = true) : Go.Cap.th (toPt a) (toPt b) = toPt (third a b) := by
  rw [isC_iff] at ha hb
  unfold Go.Cap.th toPt third t3
  simp only []
  rw [Int.tmod_eq_emod_of_nonneg (by omega), Int.tmod_eq_emod_of_nonneg (by omega), Int.tmod_eq_emod_of_nonneg (by omega), Int.tmod_eq_emod_of_nonneg (by omega)]
theorem cap_len {d : List Card} (hc : AllC d) (hnd : d.Nodup) (hcap : CapP d) : d.length ≤ 20 := by
  have := Go.Cap.cap20 (S := d.map toPt) ⟨List.Pairwise.map _ (fun a b hne e => hne (toPt_inj e)) hnd, fun p hp => ?_, fun a ha b hb hne hm => ?_⟩
  · rwa [List.length_map] at this
  · obtain ⟨c, hc', rfl⟩ := List.mem_map.1 hp
    exact isC_iff.1 (hc c hc')
  · obtain ⟨x, hx, rfl⟩ := List.mem_map.1 ha
    obtain ⟨y, hy, rfl⟩ := List.mem_map.1 hb
    rw [toPt_th (hc x hx) (hc y hy)] at hm
    obtain ⟨z, hz, e⟩ := List.mem_map.1 hm
    exact hcap x hx y hy (fun e => hne (by rw [e])) (by rw [← toPt_inj e]; exact hz)
theorem FD.hand {h d : List Card} (D : FD h d) : hand d = true :=
  hand_iff.2 ⟨D.c, D.ss, by have := cap_len D.c D.ss.nodup D.cap; omega⟩
end Go.Pl
