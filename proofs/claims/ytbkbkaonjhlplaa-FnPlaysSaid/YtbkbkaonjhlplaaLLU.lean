/- Plain laws: LU. -/
import Derived.Test.YtbkbkaonjhlplaaLLT
set_option linter.unusedVariables false
set_option linter.unusedSimpArgs false
namespace Go.Pl
open Go Go.Tv Go.RowKit
set_option linter.unusedVariables false

/-! games: claims and what they make -/
abbrev Game := Deal × (List Int × List Int)
abbrev Claim := Int × V3 Int
/-- places of three cards, rising -/
def place3 (len : Nat) (t : V3 Int) : Bool := decide (0 ≤ t.x0) && decide (t.x0 < t.x1) && decide (t.x1 < t.x2) && decide (t.x2 < (len : Int))
theorem place3_iff {len : Nat} {t : V3 Int} : place3 len t = true ↔ 0 ≤ t.x0 ∧ t.x0 < t.x1 ∧ t.x1 < t.x2 ∧ t.x2 < (len : Int) := by
  unfold place3; simp only [Bool.and_eq_true, decide_eq_true_eq]; omega
def line3 (h : List Card) (t : V3 Int) : Bool := lineB (gl ⟨0, 0, 0, 0⟩ h t.x0.toNat) (gl ⟨0, 0, 0, 0⟩ h t.x1.toNat) (gl ⟨0, 0, 0, 0⟩ h t.x2.toNat)
theorem in_range {len : Nat} {x : Int} : decide (0 ≤ x ∧ x ≤ (len : Int) - 1) = decide (0 ≤ x ∧ x < (len : Int)) := by congr 1; apply propext; omega
/-- the check of places, in both loops -/
theorem chk3 {ρ : Type} (B : (Int → Opt ρ) → Int → Opt ρ) (len : Nat) (t : V3 Int) (bad good : Opt ρ)
    (h0 : ∀ go, B go 0 = if 0 ≤ t.x0 ∧ t.x0 < (len : Int) then go 1 else bad)
    (h1 : ∀ go, B go 1 = if (0 ≤ t.x1 ∧ t.x1 < (len : Int)) ∧ ¬ t.x1 ≤ t.x0 then go 2 else bad)
    (h2 : ∀ go, B go 2 = if (0 ≤ t.x2 ∧ t.x2 < (len : Int)) ∧ ¬ t.x2 ≤ t.x1 then go 3 else bad) (h3 : ∀ go, B go 3 = good) (m : Nat) : fx B (m + 4) 0 = if place3 len t = true then good else bad := by
  rw [fx_succ, h0, fx_succ, h1, fx_succ, h2, fx_succ, h3]
  by_cases a : place3 len t = true
  · rw [if_pos a]
    rw [place3_iff] at a
    rw [if_pos (by omega), if_pos (by omega), if_pos (by omega)]
  · rw [if_neg a]
    rw [place3_iff] at a
    split
    · split
      · split
        · omega
        · rfl
      · rfl
    · rfl

theorem fx_sec {σ τ ρ : Type} {B : (σ → Opt ρ) → σ → Opt ρ} {B' : (τ → Opt ρ) → τ → Opt ρ} (f : τ → σ) (h : ∀ go go', (∀ i, go (f i) = go' i) → ∀ i, B go (f i) = B' go' i) : ∀ k i, fx B k (f i) = fx B' k i
  | 0, _ => rfl
  | k + 1, i => by
    rw [fx_succ, fx_succ]
    exact h _ _ (fx_sec f h k) i
theorem s_l4Line_eq {n : Nat} (hn : BIG ≤ n) {d : Deal} (t : V3 Int) (hl : d.2.2.length ≤ 81) (hc : ∀ c, c ∈ d.2.2 → isC c = true) :
    s_l4Line n d t = some (place3 d.2.2.length t && line3 d.2.2 t) := by
  obtain ⟨m, rfl⟩ : ∃ m, n = m + 4 := ⟨n - 4, by unfold BIG at hn; omega⟩
  unfold s_l4Line
  have key : ∀ k (i : Int), fx (s_l4Line_L1 (m + 4)) k (i, d, t) = fx (fun go i => s_l4Line_L1 (m + 4) (fun s => go s.1) (i, d, t)) k i :=
    fx_sec (fun i => (i, d, t)) fun go go' hg i => by
      unfold s_l4Line_L1
      simp only [hg]
  rw [key]
  rw [chk3 (fun go i => s_l4Line_L1 (m + 4) (fun s => go s.1) (i, d, t)) d.2.2.length t (some false)
    (ckb (inb t.x0 d.2.2.length) (ckb (inb t.x1 d.2.2.length) (ckb (inb t.x2 d.2.2.length) (ob (s_l2Line (m + 4) (gl ⟨0, 0, 0, 0⟩ d.2.2 t.x0.toNat) (gl ⟨0, 0, 0, 0⟩ d.2.2 t.x1.toNat) (gl ⟨0, 0, 0, 0⟩ d.2.2 t.x2.toNat)) fun r => some r)))) ?_ ?_ ?_ ?_ m]
  · cases hp : place3 d.2.2.length t with
    | false => rfl
    | true =>
      rw [if_pos rfl]
      rw [place3_iff] at hp
      have q : ∀ x : Int, 0 ≤ x → x < (d.2.2.length : Int) → isC (gl ⟨0, 0, 0, 0⟩ d.2.2 x.toNat) = true := fun x h0 h1 => by
        have : x.toNat < d.2.2.length := by omega
        rw [gl_eq this]; exact hc _ (List.getElem_mem this)
      rw [ckb_pos (inb_pos (by omega) (by omega)), ckb_pos (inb_pos (by omega) (by omega)), ckb_pos (inb_pos (by omega) (by omega)), s_l2Line_eq hn _ (q _ (by omega) (by omega)) (q _ (by omega) (by omega)), ob_some]
      rfl
  · intro go
    simp only [s_l4Line_L1, lt_eq, s_l1In_eq, ob_some]
    rw [w64_id (x := (d.2.2.length : Int) - 1) (by omega)]
    show br (decide ((0 : Int) < 3)) (ckb (inb 0 3) (ob (br (! decide (0 ≤ t.x0 ∧ t.x0 ≤ (d.2.2.length : Int) - 1)) (some true) (ob (br (decide ((0 : Int) < 0)) (ckb _ (ckb _ _)) (some false)) fun x8 => some x8)) fun x9 => br x9 (some false) (go (w64 (0 + 1))))) _ = _
    rw [in_range]
    by_cases h : 0 ≤ t.x0 ∧ t.x0 < (d.2.2.length : Int)
    · rw [if_pos h, decide_eq_true h]; rfl
    · rw [if_neg h, decide_eq_false h]; rfl
  · intro go
    simp only [s_l4Line_L1, lt_eq, s_l1In_eq, ob_some]
    rw [w64_id (x := (d.2.2.length : Int) - 1) (by omega)]
    show br (decide ((1 : Int) < 3)) (ckb (inb 1 3) (ob (br (! decide (0 ≤ t.x1 ∧ t.x1 ≤ (d.2.2.length : Int) - 1)) (some true) (ob (br (decide ((0 : Int) < 1)) (ckb (inb (w64 (1 - 1)) 3) (ckb (inb 1 3) (some (decide (t.x1 ≤ t.x0))))) (some false)) fun x8 => some x8)) fun x9 => br x9 (some false) (go (w64 (1 + 1))))) _ = _
    rw [in_range]
    by_cases h : 0 ≤ t.x1 ∧ t.x1 < (d.2.2.length : Int)
    · rw [decide_eq_true h]
      by_cases h2 : t.x1 ≤ t.x0
      · rw [if_neg (by omega), decide_eq_true h2]; rfl
      · rw [if_pos ⟨h, h2⟩, decide_eq_false h2]; rfl
    · rw [if_neg (by omega), decide_eq_false h]; rfl
  · intro go
    simp only [s_l4Line_L1, lt_eq, s_l1In_eq, ob_some]
    rw [w64_id (x := (d.2.2.length : Int) - 1) (by omega)]
    show br (decide ((2 : Int) < 3)) (ckb (inb 2 3) (ob (br (! decide (0 ≤ t.x2 ∧ t.x2 ≤ (d.2.2.length : Int) - 1)) (some true) (ob (br (decide ((0 : Int) < 2)) (ckb (inb (w64 (2 - 1)) 3) (ckb (inb 2 3) (some (decide (t.x2 ≤ t.x1))))) (some false)) fun x8 => some x8)) fun x9 => br x9 (some false) (go (w64 (2 + 1))))) _ = _
    rw [in_range]
    by_cases h : 0 ≤ t.x2 ∧ t.x2 < (d.2.2.length : Int)
    · rw [decide_eq_true h]
      by_cases h2 : t.x2 ≤ t.x1
      · rw [if_neg (by omega), decide_eq_true h2]; rfl
      · rw [if_pos ⟨h, h2⟩, decide_eq_false h2]; rfl
    · rw [if_neg (by omega), decide_eq_false h]; rfl
  · intro go
    rfl

def kindG (g : Game) (c : Claim) : Int :=
  if 0 ≤ c.1 ∧ c.1 < (g.2.1.length : Int) then (if place3 g.1.2.2.length c.2 = true then (if line3 g.1.2.2 c.2 = true then 1 else 2) else 3) else 3
theorem s_l8Kind_eq {n : Nat} (hn : BIG ≤ n) {g : Game} (c : Claim) (hl : g.1.2.2.length ≤ 81) (hs : g.2.1.length ≤ 1000000) (hc : ∀ x, x ∈ g.1.2.2 → isC x = true) : s_l8Kind n g c = some (kindG g c) := by
  unfold s_l8Kind kindG
  simp only [lt_eq, s_l1In_eq, ob_some, s_l4Line_eq hn c.2 hl hc]
  rw [w64_id (by omega), in_range]
  by_cases h : 0 ≤ c.1 ∧ c.1 < (g.2.1.length : Int)
  · rw [decide_eq_true h, if_pos h, Bool.not_true, br_false]
    obtain ⟨m, rfl⟩ : ∃ m, n = m + 4 := ⟨n - 4, by unfold BIG at hn; omega⟩
    have key : fx (s_l8Kind_L1 (m + 4)) (m + 4) (0, g, c) = if place3 g.1.2.2.length c.2 = true then some 2 else some 3 := by
      refine Eq.trans (fx_sec (fun i => (i, g, c)) (B' := fun go i => s_l8Kind_L1 (m + 4) (fun s => go s.1) (i, g, c)) (fun go go' hg i => by
        unfold s_l8Kind_L1
        simp only [hg]) (m + 4) 0) (chk3 (fun go i => s_l8Kind_L1 (m + 4) (fun s => go s.1) (i, g, c)) g.1.2.2.length c.2 (some 3) (some 2) ?_ ?_ ?_ ?_ m)
      · intro go
        simp only [s_l8Kind_L1, lt_eq, s_l1In_eq, ob_some]
        rw [w64_id (x := (g.1.2.2.length : Int) - 1) (by omega)]
        show br (decide ((0 : Int) < 3)) (ckb (inb 0 3) (ob (br (! decide (0 ≤ c.2.x0 ∧ c.2.x0 ≤ (g.1.2.2.length : Int) - 1)) (some true) (ob (br (decide ((0 : Int) < 0)) (ckb _ (ckb _ _)) (some false)) fun x8 => some x8)) fun x9 => br x9 (some 3) (go (w64 (0 + 1))))) _ = _
        rw [in_range]
        by_cases h : 0 ≤ c.2.x0 ∧ c.2.x0 < (g.1.2.2.length : Int)
        · rw [if_pos h, decide_eq_true h]; rfl
        · rw [if_neg h, decide_eq_false h]; rfl
      · intro go
        simp only [s_l8Kind_L1, lt_eq, s_l1In_eq, ob_some]
        rw [w64_id (x := (g.1.2.2.length : Int) - 1) (by omega)]
        show br (decide ((1 : Int) < 3)) (ckb (inb 1 3) (ob (br (! decide (0 ≤ c.2.x1 ∧ c.2.x1 ≤ (g.1.2.2.length : Int) - 1)) (some true) (ob (br (decide ((0 : Int) < 1)) (ckb (inb (w64 (1 - 1)) 3) (ckb (inb 1 3) (some (decide (c.2.x1 ≤ c.2.x0))))) (some false)) fun x8 => some x8)) fun x9 => br x9 (some 3) (go (w64 (1 + 1))))) _ = _
        rw [in_range]
        by_cases h : 0 ≤ c.2.x1 ∧ c.2.x1 < (g.1.2.2.length : Int)
        · rw [decide_eq_true h]
          by_cases h2 : c.2.x1 ≤ c.2.x0
          · rw [if_neg (by omega), decide_eq_true h2]; rfl
          · rw [if_pos ⟨h, h2⟩, decide_eq_false h2]; rfl
        · rw [if_neg (by omega), decide_eq_false h]; rfl
      · intro go
        simp only [s_l8Kind_L1, lt_eq, s_l1In_eq, ob_some]
        rw [w64_id (x := (g.1.2.2.length : Int) - 1) (by omega)]
        show br (decide ((2 : Int) < 3)) (ckb (inb 2 3) (ob (br (! decide (0 ≤ c.2.x2 ∧ c.2.x2 ≤ (g.1.2.2.length : Int) - 1)) (some true) (ob (br (decide ((0 : Int) < 2)) (ckb (inb (w64 (2 - 1)) 3) (ckb (inb 2 3) (some (decide (c.2.x2 ≤ c.2.x1))))) (some false)) fun x8 => some x8)) fun x9 => br x9 (some 3) (go (w64 (2 + 1))))) _ = _
        rw [in_range]
        by_cases h : 0 ≤ c.2.x2 ∧ c.2.x2 < (g.1.2.2.length : Int)
        · rw [decide_eq_true h]
          by_cases h2 : c.2.x2 ≤ c.2.x1
          · rw [if_neg (by omega), decide_eq_true h2]; rfl
          · rw [if_pos ⟨h, h2⟩, decide_eq_false h2]; rfl
        · rw [if_neg (by omega), decide_eq_false h]; rfl
      · intro go; rfl
    cases hp : place3 g.1.2.2.length c.2 with
    | false => rw [hp] at key; rw [key]; rfl
    | true =>
      rw [hp] at key
      cases hq : line3 g.1.2.2 c.2 with
      | true => rfl
      | false => rw [key]; rfl
  · rw [decide_eq_false h, if_neg h]; rfl
theorem i_kind_eq {n : Nat} (hn : BIG ≤ n) {g : Game} (c : Claim) (hl : g.1.2.2.length ≤ 81) (hs : g.2.1.length ≤ 1000000) (hc : ∀ x, x ∈ g.1.2.2 → isC x = true) : _impl_Game__kind n g c = some (kindG g c) := by
  unfold _impl_Game__kind _impl_Game__isPlayer kindG
  simp only [lt_eq, i_within_eq, ob_some]
  rw [w64_id (by omega), in_range]
  by_cases h : 0 ≤ c.1 ∧ c.1 < (g.2.1.length : Int)
  · rw [decide_eq_true h, if_pos h, Bool.not_true, br_false, ob_some, br_some, ob_some, br_some, ob_some, br_some, ob_some]
    cases hp : place3 g.1.2.2.length c.2 with
    | false =>
      have hp2 : ¬ (0 ≤ c.2.x0 ∧ c.2.x0 < c.2.x1 ∧ c.2.x1 < c.2.x2 ∧ c.2.x2 < (g.1.2.2.length : Int)) := fun e => by rw [← place3_iff, hp] at e; cases e
      rw [br_pos]
      · rfl
      · by_cases a : c.2.x0 < 0 <;> by_cases b : c.2.x1 ≤ c.2.x0 <;> by_cases d : c.2.x2 ≤ c.2.x1 <;> simp [a, b, d]
        omega
    | true =>
      have hp2 := place3_iff.1 hp
      have q : ∀ x : Int, 0 ≤ x → x < (g.1.2.2.length : Int) → isC (gl ⟨0, 0, 0, 0⟩ g.1.2.2 x.toNat) = true := fun x h0 h1 => by
        have : x.toNat < g.1.2.2.length := by omega
        rw [gl_eq this]; exact hc _ (List.getElem_mem this)
      rw [br_neg]
      · rw [ckb_pos (inb_pos (by omega) (by omega)), ckb_pos (inb_pos (by omega) (by omega)), ckb_pos (inb_pos (by omega) (by omega)), i_isLine_eq hn _ (q _ (by omega) (by omega)) (q _ (by omega) (by omega)), ob_some]
        show br (line3 g.1.2.2 c.2) (some 1) (some 2) = _
        cases line3 g.1.2.2 c.2 <;> rfl
      · have a : ¬ c.2.x0 < 0 := by omega
        have b : ¬ c.2.x1 ≤ c.2.x0 := by omega
        have d : ¬ c.2.x2 ≤ c.2.x1 := by omega
        simp [a, b, d]; omega
  · rw [decide_eq_false h, if_neg h]; rfl
end Go.Pl
