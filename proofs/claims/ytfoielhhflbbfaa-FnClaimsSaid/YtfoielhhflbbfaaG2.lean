/- Plain laws: LU, LV, LX2, LW, LX3, LY. -/
import Derived.Test.YtfoielhhflbbfaaG1
import Derived.Test.YtfoielhhflbbfaaG0
set_option linter.unusedVariables false
set_option linter.unusedSimpArgs false
namespace Go.Pl
open Go Go.Tv Go.RowKit
set_option linter.unusedVariables false
abbrev Game := Deal × (List Int × List Int)
abbrev Claim := Int × V3 Int
def place3 (len : Nat) (t : V3 Int) : Bool := decide (0 ≤ t.x0) && decide (t.x0 < t.x1) && decide (t.x1 < t.x2) && decide (t.x2 < (len : Int))
theorem place3_iff {len : Nat} {t : V3 Int} : place3 len t = true ↔ 0 ≤ t.x0 ∧ t.x0 < t.x1 ∧ t.x1 < t.x2 ∧ t.x2 < (len : Int) := by
  unfold place3; simp only [Bool.and_eq_true, decide_eq_true_eq]; omega
def line3 (h : List Card) (t : V3 Int) : Bool := lineB (gl ⟨0, 0, 0, 0⟩ h t.x0.toNat) (gl ⟨0, 0, 0, 0⟩ h t.x1.toNat) (gl ⟨0, 0, 0, 0⟩ h t.x2.toNat)
theorem in_range {len : Nat} {x : Int} : decide (0 ≤ x ∧ x ≤ (len : Int) - 1) = decide (0 ≤ x ∧ x < (len : Int)) := by congr 1; apply propext; omega
theorem chk3 {ρ : Type} (B : (Int → Opt ρ) → Int → Opt ρ) (len : Nat) (t : V3 Int) (bad good : Opt ρ)
    (h0 : ∀ go, B go 0 = if 0 ≤ t.x0 ∧ t.x0 < (len : Int) then go 1 else bad)
    (h1 : ∀ go, B go 1 = if (0 ≤ t.x1 ∧ t.x1 < (len : Int)) ∧ ¬ t.x1 ≤ t.x0 then go 2 else bad)
    (h2 : ∀ go, B go 2 = if (0 ≤ t.x2 ∧ t.x2 < (len : Int)) ∧ ¬ t.x2 ≤ t.x1 then go 3 else bad) (h3 : ∀ go, B go 3 = good) (m : Nat) : fx B (m + 4) 0 = if place3 len t = true then good else bad := by
  rw [fx_succ, h0, fx_succ, h1, fx_succ, h2, fx_succ, h3]
  by_cases a : place3 len t = true
  · rw [if_pos a]
    rw [place3_iff] at a
    rw [if_pos (by omega), if_pos (by omega), if_pos (by omega)]
  · rw [if_neg a]
    rw [place3_iff] at a
    split
    · split
      · split
        · omega
        · rfl
      · rfl
    · rfl
theorem fx_sec {σ τ ρ : Type} {B : (σ → Opt ρ) → σ → Opt ρ} {B' : (τ → Opt ρ) → τ → Opt ρ} (f : τ → σ) (h : ∀ go go', (∀ i, go (f i) = go' i) → ∀ i, B go (f i) = B' go' i) : ∀ k i, fx B k (f i) = fx B' k i
  | 0, _ => rfl
  | k + 1, i => by
    rw [fx_succ, fx_succ]
    exact h _ _ (fx_sec f h k) i
theorem s_l4Line_eq {n : Nat} (hn : BIG ≤ n) {d : Deal} (t : V3 Int) (hl : d.2.2.length ≤ 81) (hc : ∀ c, c ∈ d.2.2 → isC c = true) :
    s_l4Line n d t = some (place3 d.2.2.length t && line3 d.2.2 t) := by
  obtain ⟨m, rfl⟩ : ∃ m, n = m + 4 := ⟨n - 4, by unfold BIG at hn; omega⟩
  unfold s_l4Line
  have key : ∀ k (i : Int), fx (s_l4Line_L1 (m + 4)) k (i, d, t) = fx (fun go i => s_l4Line_L1 (m + 4) (fun s => go s.1) (i, d, t)) k i :=
    fx_sec (fun i => (i, d, t)) fun go go' hg i => by
      unfold s_l4Line_L1
      simp only [hg]
  rw [key]
  rw [chk3 (fun go i => s_l4Line_L1 (m + 4) (fun s => go s.1) (i, d, t)) d.2.2.length t (some false)
    (ckb (inb t.x0 d.2.2.length) (ckb (inb t.x1 d.2.2.length) (ckb (inb t.x2 d.2.2.length) (ob (s_l2Line (m + 4) (gl ⟨0, 0, 0, 0⟩ d.2.2 t.x0.toNat) (gl ⟨0, 0, 0, 0⟩ d.2.2 t.x1.toNat) (gl ⟨0, 0, 0, 0⟩ d.2.2 t.x2.toNat)) fun r => some r)))) ?_ ?_ ?_ ?_ m]
  · cases hp : place3 d.2.2.length t with
    | false => rfl
    | true =>
      rw [if_pos rfl]
      rw [place3_iff] at hp
      have q : ∀ x : Int, 0 ≤ x → x < (d.2.2.length : Int) → isC (gl ⟨0, 0, 0, 0⟩ d.2.2 x.toNat) = true := fun x h0 h1 => by
        have : x.toNat < d.2.2.length := by omega
        rw [gl_eq this]; exact hc _ (List.getElem_mem this)
      rw [ckb_pos (inb_pos (by omega) (by omega)), ckb_pos (inb_pos (by omega) (by omega)), ckb_pos (inb_pos (by omega) (by omega)), s_l2Line_eq hn _ (q _ (by omega) (by omega)) (q _ (by omega) (by omega)), ob_some]
      rfl
  · intro go
    simp only [s_l4Line_L1, lt_eq, s_l1In_eq, ob_some]
    rw [w64_id (x := (d.2.2.length : Int) - 1) (by omega)]
    show br (decide ((0 : Int) < 3)) (ckb (inb 0 3) (ob (br (! decide (0 ≤ t.x0 ∧ t.x0 ≤ (d.2.2.length : Int) - 1)) (some true) (ob (br (decide ((0 : Int) < 0)) (ckb _ (ckb _ _)) (some false)) fun x8 => some x8)) fun x9 => br x9 (some false) (go (w64 (0 + 1))))) _ = _
    rw [in_range]
    by_cases h : 0 ≤ t.x0 ∧ t.x0 < (d.2.2.length : Int)
    · rw [if_pos h, decide_eq_true h]; rfl
    · rw [if_neg h, decide_eq_false h]; rfl
  · intro go
    simp only [s_l4Line_L1, lt_eq, s_l1In_eq, ob_some]
    rw [w64_id (x := (d.2.2.length : Int) - 1) (by omega)]
    show br (decide ((1 : Int) < 3)) (ckb (inb 1 3) (ob (br (! decide (0 ≤ t.x1 ∧ t.x1 ≤ (d.2.2.length : Int) - 1)) (some true) (ob (br (decide ((0 : Int) < 1)) (ckb (inb (w64 (1 - 1)) 3) (ckb (inb 1 3) (some (decide (t.x1 ≤ t.x0))))) (some false)) fun x8 => some x8)) fun x9 => br x9 (some false) (go (w64 (1 + 1))))) _ = _
    rw [in_range]
    by_cases h : 0 ≤ t.x1 ∧ t.x1 < (d.2.2.length : Int)
    · rw [decide_eq_true h]
      by_cases h2 : t.x1 ≤ t.x0
      · rw [if_neg (by omega), decide_eq_true h2]; rfl
      · rw [if_pos ⟨h, h2⟩, decide_eq_false h2]; rfl
    · rw [if_neg (by omega), decide_eq_false h]; rfl
  · intro go
    simp only [s_l4Line_L1, lt_eq, s_l1In_eq, ob_some]
    rw [w64_id (x := (d.2.2.length : Int) - 1) (by omega)]
    show br (decide ((2 : Int) < 3)) (ckb (inb 2 3) (ob (br (! decide (0 ≤ t.x2 ∧ t.x2 ≤ (d.2.2.length : Int) - 1)) (some true) (ob (br (decide ((0 : Int) < 2)) (ckb (inb (w64 (2 - 1)) 3) (ckb (inb 2 3) (some (decide (t.x2 ≤ t.x1))))) (some false)) fun x8 => some x8)) fun x9 => br x9 (some false) (go (w64 (2 + 1))))) _ = _
    rw [in_range]
    by_cases h : 0 ≤ t.x2 ∧ t.x2 < (d.2.2.length : Int)
    · rw [decide_eq_true h]
      by_cases h2 : t.x2 ≤ t.x1
      · rw [if_neg (by omega), decide_eq_true h2]; rfl
      · rw [if_pos ⟨h, h2⟩, decide_eq_false h2]; rfl
    · rw [if_neg (by omega), decide_eq_false h]; rfl
  · intro go
    rfl
def kindG (g : Game) (c : Claim) : Int :=
  if 0 ≤ c.1 ∧ c.1 < (g.2.1.length : Int) then (if place3 g.1.2.2.length c.2 = true then (if line3 g.1.2.2 c.2 = true then 1 else 2) else 3) else 3
theorem s_l8Kind_eq {n : Nat} (hn : BIG ≤ n) {g : Game} (c : Claim) (hl : g.1.2.2.length ≤ 81) (hs : g.2.1.length ≤ 1000000) (hc : ∀ x, x ∈ g.1.2.2 → isC x = true) : s_l8Kind n g c = some (kindG g c) := by
  unfold s_l8Kind kindG
  simp only [lt_eq, s_l1In_eq, ob_some, s_l4Line_eq hn c.2 hl hc]
  rw [w64_id (by omega), in_range]
  by_cases h : 0 ≤ c.1 ∧ c.1 < (g.2.1.length : Int)
  · rw [decide_eq_true h, if_pos h, Bool.not_true, br_false]
    obtain ⟨m, rfl⟩ : ∃ m, n = m + 4 := ⟨n - 4, by unfold BIG at hn; omega⟩
    have key : fx (s_l8Kind_L1 (m + 4)) (m + 4) (0, g, c) = if place3 g.1.2.2.length c.2 = true then some 2 else some 3 := by
      refine Eq.trans (fx_sec (fun i => (i, g, c)) (B' := fun go i => s_l8Kind_L1 (m + 4) (fun s => go s.1) (i, g, c)) (fun go go' hg i => by
        unfold s_l8Kind_L1
        simp only [hg]) (m + 4) 0) (chk3 (fun go i => s_l8Kind_L1 (m + 4) (fun s => go s.1) (i, g, c)) g.1.2.2.length c.2 (some 3) (some 2) ?_ ?_ ?_ ?_ m)
      · intro go
        simp only [s_l8Kind_L1, lt_eq, s_l1In_eq, ob_some]
        rw [w64_id (x := (g.1.2.2.length : Int) - 1) (by omega)]
        show br (decide ((0 : Int) < 3)) (ckb (inb 0 3) (ob (br (! decide (0 ≤ c.2.x0 ∧ c.2.x0 ≤ (g.1.2.2.length : Int) - 1)) (some true) (ob (br (decide ((0 : Int) < 0)) (ckb _ (ckb _ _)) (some false)) fun x8 => some x8)) fun x9 => br x9 (some 3) (go (w64 (0 + 1))))) _ = _
        rw [in_range]
        by_cases h : 0 ≤ c.2.x0 ∧ c.2.x0 < (g.1.2.2.length : Int)
        · rw [if_pos h, decide_eq_true h]; rfl
        · rw [if_neg h, decide_eq_false h]; rfl
      · intro go
        simp only [s_l8Kind_L1, lt_eq, s_l1In_eq, ob_some]
        rw [w64_id (x := (g.1.2.2.length : Int) - 1) (by omega)]
        show br (decide ((1 : Int) < 3)) (ckb (inb 1 3) (ob (br (! decide (0 ≤ c.2.x1 ∧ c.2.x1 ≤ (g.1.2.2.length : Int) - 1)) (some true) (ob (br (decide ((0 : Int) < 1)) (ckb (inb (w64 (1 - 1)) 3) (ckb (inb 1 3) (some (decide (c.2.x1 ≤ c.2.x0))))) (some false)) fun x8 => some x8)) fun x9 => br x9 (some 3) (go (w64 (1 + 1))))) _ = _
        rw [in_range]
        by_cases h : 0 ≤ c.2.x1 ∧ c.2.x1 < (g.1.2.2.length : Int)
        · rw [decide_eq_true h]
          by_cases h2 : c.2.x1 ≤ c.2.x0
          · rw [if_neg (by omega), decide_eq_true h2]; rfl
          · rw [if_pos ⟨h, h2⟩, decide_eq_false h2]; rfl
        · rw [if_neg (by omega), decide_eq_false h]; rfl
      · intro go
        simp only [s_l8Kind_L1, lt_eq, s_l1In_eq, ob_some]
        rw [w64_id (x := (g.1.2.2.length : Int) - 1) (by omega)]
        show br (decide ((2 : Int) < 3)) (ckb (inb 2 3) (ob (br (! decide (0 ≤ c.2.x2 ∧ c.2.x2 ≤ (g.1.2.2.length : Int) - 1)) (some true) (ob (br (decide ((0 : Int) < 2)) (ckb (inb (w64 (2 - 1)) 3) (ckb (inb 2 3) (some (decide (c.2.x2 ≤ c.2.x1))))) (some false)) fun x8 => some x8)) fun x9 => br x9 (some 3) (go (w64 (2 + 1))))) _ = _
        rw [in_range]
        by_cases h : 0 ≤ c.2.x2 ∧ c.2.x2 < (g.1.2.2.length : Int)
        · rw [decide_eq_true h]
          by_cases h2 : c.2.x2 ≤ c.2.x1
          · rw [if_neg (by omega), decide_eq_true h2]; rfl
          · rw [if_pos ⟨h, h2⟩, decide_eq_false h2]; rfl
        · rw [if_neg (by omega), decide_eq_false h]; rfl
      · intro go; rfl
    cases hp : place3 g.1.2.2.length c.2 with
    | false => rw [hp] at key; rw [key]; rfl
    | true =>
      rw [hp] at key
      cases hq : line3 g.1.2.2 c.2 with
      | true => rfl
      | false => rw [key]; rfl
  · rw [decide_eq_false h, if_neg h]; rfl
theorem i_kind_eq {n : Nat} (hn : BIG ≤ n) {g : Game} (c : Claim) (hl : g.1.2.2.length ≤ 81) (hs : g.2.1.length ≤ 1000000) (hc : ∀ x, x ∈ g.1.2.2 → isC x = true) : _impl_Game__kind n g c = some (kindG g c) := by
  unfold _impl_Game__kind _impl_Game__isPlayer kindG
  simp only [lt_eq, i_within_eq, ob_some]
  rw [w64_id (by omega), in_range]
  by_cases h : 0 ≤ c.1 ∧ c.1 < (g.2.1.length : Int)
  · rw [decide_eq_true h, if_pos h, Bool.not_true, br_false, ob_some, br_some, ob_some, br_some, ob_some, br_some, ob_some]
    cases hp : place3 g.1.2.2.length c.2 with
    | false =>
      have hp2 : ¬ (0 ≤ c.2.x0 ∧ c.2.x0 < c.2.x1 ∧ c.2.x1 < c.2.x2 ∧ c.2.x2 < (g.1.2.2.length : Int)) := fun e => by rw [← place3_iff, hp] at e; cases e
      rw [br_pos]
      · rfl
      · by_cases a : c.2.x0 < 0 <;> by_cases b : c.2.x1 ≤ c.2.x0 <;> by_cases d : c.2.x2 ≤ c.2.x1 <;> simp [a, b, d]
        omega
    | true =>
      have hp2 := place3_iff.1 hp
      have q : ∀ x : Int, 0 ≤ x → x < (g.1.2.2.length : Int) → isC (gl ⟨0, 0, 0, 0⟩ g.1.2.2 x.toNat) = true := fun x h0 h1 => by
        have : x.toNat < g.1.2.2.length := by omega
        rw [gl_eq this]; exact hc _ (List.getElem_mem this)
      rw [br_neg]
      · rw [ckb_pos (inb_pos (by omega) (by omega)), ckb_pos (inb_pos (by omega) (by omega)), ckb_pos (inb_pos (by omega) (by omega)), i_isLine_eq hn _ (q _ (by omega) (by omega)) (q _ (by omega) (by omega)), ob_some]
        show br (line3 g.1.2.2 c.2) (some 1) (some 2) = _
        cases line3 g.1.2.2 c.2 <;> rfl
      · have a : ¬ c.2.x0 < 0 := by omega
        have b : ¬ c.2.x1 ≤ c.2.x0 := by omega
        have d : ¬ c.2.x2 ≤ c.2.x1 := by omega
        simp [a, b, d]; omega
  · rw [decide_eq_false h, if_neg h]; rfl
end Go.Pl
namespace Go.Pl
open Go Go.Tv Go.RowKit
set_option linter.unusedVariables false
structure GameOK (p : List Card) (g : Game) : Prop where
  deal : DealOK p g.1
  n1 : 1 ≤ g.2.1.length
  n4 : g.2.1.length ≤ 4
  eq : g.2.2.length = g.2.1.length
  sc : ∀ x, x ∈ g.2.1 → 0 ≤ x ∧ x ≤ 60
  mi : ∀ x, x ∈ g.2.2 → 0 ≤ x ∧ x ≤ 60
def layN (p : List Card) : Nat → Deal → Deal
  | 0, d => d
  | k + 1, d => if (linesOf d.2.2).length = 0 ∧ d.2.1 < 81 then layN p k (layD p d 3) else d
theorem layN_ok {p : List Card} (hp : p.Perm deck) : ∀ (k : Nat) {d : Deal}, DealOK p d → DealOK p (layN p k d)
  | 0, d, h => h
  | k + 1, d, h => by
    unfold layN
    split
    · exact layN_ok hp k (layD_ok h hp (by omega))
    · exact h
def inc (l : List Int) (i : Nat) : List Int := l.set i (if gl 0 l i + 1 < 60 then gl 0 l i + 1 else 60)
theorem inc_len (l : List Int) (i : Nat) : (inc l i).length = l.length := by unfold inc; rw [List.length_set]
theorem inc_bd {l : List Int} {i : Nat} (hi : i < l.length) (h : ∀ x, x ∈ l → 0 ≤ x ∧ x ≤ 60) : ∀ x, x ∈ inc l i → 0 ≤ x ∧ x ≤ 60 := fun x hx => by
  unfold inc at hx
  rcases List.mem_or_eq_of_mem_set hx with hx | hx
  · exact h x hx
  · rw [gl_eq hi] at hx
    have := h _ (List.getElem_mem hi)
    split at hx <;> omega
def endG (p : List Card) (g : Game) (c : Claim) : Int × Game :=
  if kindG g c = 1 then (1, (takeD p g.1 c.2, (inc g.2.1 c.1.toNat, g.2.2))) else if kindG g c = 2 then (2, (g.1, (g.2.1, inc g.2.2 c.1.toNat))) else (3, g)
theorem kind_player {g : Game} {c : Claim} (h : kindG g c ≠ 3) : 0 ≤ c.1 ∧ c.1 < (g.2.1.length : Int) := by
  unfold kindG at h
  by_cases hc : 0 ≤ c.1 ∧ c.1 < (g.2.1.length : Int)
  · exact hc
  · rw [if_neg hc] at h; exact absurd rfl h
theorem kind_cases (g : Game) (c : Claim) : kindG g c = 1 ∨ kindG g c = 2 ∨ kindG g c = 3 := by
  unfold kindG; split <;> (try split) <;> (try split) <;> simp
theorem endG_ok {p : List Card} (hp : p.Perm deck) {g : Game} (h : GameOK p g) (c : Claim) : GameOK p (endG p g c).2 := by
  unfold endG
  split
  · rename_i hk
    have := kind_player (g := g) (c := c) (by omega)
    exact ⟨takeD_ok h.deal hp _, by show 1 ≤ (inc g.2.1 c.1.toNat).length; rw [inc_len]; exact h.n1, by show (inc g.2.1 c.1.toNat).length ≤ 4; rw [inc_len]; exact h.n4,
      by show g.2.2.length = (inc g.2.1 c.1.toNat).length; rw [inc_len]; exact h.eq, inc_bd (by omega) h.sc, h.mi⟩
  · split
    · rename_i hk
      have := kind_player (g := g) (c := c) (by omega)
      exact ⟨h.deal, h.n1, h.n4, by show (inc g.2.2 c.1.toNat).length = g.2.1.length; rw [inc_len]; exact h.eq, h.sc, inc_bd (by have := h.eq; omega) h.mi⟩
    · exact h
def withD (g : Game) (d : Deal) : Game := (d, g.2)
theorem withD_ok {p : List Card} {g : Game} (h : GameOK p g) {d : Deal} (hd : DealOK p d) : GameOK p (withD g d) := ⟨hd, h.n1, h.n4, h.eq, h.sc, h.mi⟩
def madeG (p : List Card) (n : Nat) (g : Game) (c : Claim) : Int × Game := endG p (withD g (layN p n g.1)) c
theorem madeG_ok {p : List Card} (hp : p.Perm deck) {n : Nat} {g : Game} (h : GameOK p g) (c : Claim) : GameOK p (madeG p n g c).2 := endG_ok hp (withD_ok h (layN_ok hp n h.deal)) c
structure Piles (n : Nat) (s : Int) (p : List Card) : Prop where
  ss : s_l4Pile n s = some p
  ii : i_pile n s = some p
  perm : p.Perm deck
theorem layD_seed (p : List Card) (d : Deal) (k : Int) : (layD p d k).1 = d.1 := rfl
theorem layN_seed (p : List Card) : ∀ (k : Nat) (d : Deal), (layN p k d).1 = d.1
  | 0, d => rfl
  | k + 1, d => by unfold layN; split; · rw [layN_seed p k, layD_seed]
                   · rfl
theorem endG_seed (p : List Card) (g : Game) (c : Claim) : (endG p g c).2.1.1 = g.1.1 := by
  unfold endG; split
  · rfl
  · split <;> rfl
theorem madeG_seed (p : List Card) (n : Nat) (g : Game) (c : Claim) : (madeG p n g c).2.1.1 = g.1.1 := by
  unfold madeG; rw [endG_seed]; exact layN_seed p n g.1
theorem layD3_lt {p : List Card} {d : Deal} (h : d.2.1 < 81) (h0 : 0 ≤ d.2.1) : (81 - (layD p d 3).2.1).toNat < (81 - d.2.1).toNat := by
  show (81 - (if 81 < d.2.1 + 3 then (81 : Int) else d.2.1 + 3)).toNat < _
  split <;> omega
def sOut (r : Int × Game) : Int × Int × Int × List Card × List Int × List Int := (r.2.1.1, r.2.1.2.1, r.1, r.2.1.2.2, r.2.2.1, r.2.2.2)
def iOut (r : Int × Game) : Int × Int × Int × List Int × List Int × List Card := (r.1, r.2.1.1, r.2.1.2.1, r.2.2.1, r.2.2.2, r.2.1.2.2)
theorem s_end {n : Nat} (hn : BIG ≤ n) {p : List Card} {g : Game} (hP : Piles n g.1.1 p) (h : GameOK p g) (c : Claim) :
    (ob (s_l8Kind n g c) fun r9 => br (decide (r9 = 1)) (ob (s_l4Take n g.1 c.2) fun r10 => ckb (inb c.1 g.2.1.length) (Tv.lt (w64 ((gl 0 g.2.1 c.1.toNat) + 1)) fun x11 => ob (s_l1Least n x11 60) fun r12 => ckb (inb c.1 g.2.1.length) (Tv.lt (List.set g.2.1 c.1.toNat r12) fun x13 => some (r10.1, r10.2.1, r9, r10.2.2, x13, g.2.2))))
      (br (decide (r9 = 2)) (ckb (inb c.1 g.2.2.length) (Tv.lt (w64 ((gl 0 g.2.2 c.1.toNat) + 1)) fun x14 => ob (s_l1Least n x14 60) fun r15 => ckb (inb c.1 g.2.2.length) (Tv.lt (List.set g.2.2 c.1.toNat r15) fun x16 => some (g.1.1, g.1.2.1, r9, g.1.2.2, g.2.1, x16)))) (some (g.1.1, g.1.2.1, r9, g.1.2.2, g.2.1, g.2.2)))) = some (sOut (endG p g c)) := by
  obtain ⟨h81, _, _⟩ := pile_facts hP.perm
  rw [s_l8Kind_eq hn c (h.deal.len h81) (by have := h.n4; omega) (h.deal.isC hP.perm), ob_some, s_l4Take_eq hn hP.ss hP.perm h.deal]
  unfold endG
  rcases kind_cases g c with hk | hk | hk
  · have hb := kind_player (g := g) (c := c) (by omega)
    have hi : c.1.toNat < g.2.1.length := by omega
    have hv := h.sc _ (List.getElem_mem hi)
    rw [hk]
    show (ob (some (takeD p g.1 c.2)) fun r10 => ckb (inb c.1 g.2.1.length) (Tv.lt (w64 ((gl 0 g.2.1 c.1.toNat) + 1)) fun x11 => ob (s_l1Least n x11 60) fun r12 => ckb (inb c.1 g.2.1.length) (Tv.lt (List.set g.2.1 c.1.toNat r12) fun x13 => some (r10.1, r10.2.1, (1 : Int), r10.2.2, x13, g.2.2)))) = _
    rw [ob_some, ckb_pos (inb_pos hb.1 hb.2), lt_eq, gl_eq hi, w64_id (by omega)]
    unfold s_l1Least
    rw [br_some, ob_some, ckb_pos (inb_pos hb.1 hb.2), lt_eq]
    simp only [decide_eq_true_eq]
    show _ = some (sOut ((1 : Int), (takeD p g.1 c.2, (inc g.2.1 c.1.toNat, g.2.2))))
    unfold sOut inc
    rw [gl_eq hi]
  · have hb := kind_player (g := g) (c := c) (by omega)
    have hi : c.1.toNat < g.2.2.length := by have := h.eq; omega
    have hv := h.mi _ (List.getElem_mem hi)
    rw [hk]
    show (ckb (inb c.1 g.2.2.length) (Tv.lt (w64 ((gl 0 g.2.2 c.1.toNat) + 1)) fun x14 => ob (s_l1Least n x14 60) fun r15 => ckb (inb c.1 g.2.2.length) (Tv.lt (List.set g.2.2 c.1.toNat r15) fun x16 => some (g.1.1, g.1.2.1, (2 : Int), g.1.2.2, g.2.1, x16)))) = _
    rw [ckb_pos (inb_pos hb.1 (by have := h.eq; omega)), lt_eq, gl_eq hi, w64_id (by omega)]
    unfold s_l1Least
    rw [br_some, ob_some, ckb_pos (inb_pos hb.1 (by have := h.eq; omega)), lt_eq]
    simp only [decide_eq_true_eq]
    show _ = some (sOut ((2 : Int), (g.1, (g.2.1, inc g.2.2 c.1.toNat))))
    unfold sOut inc
    rw [gl_eq hi]
  · rw [hk]; rfl
theorem s_made_loop {n : Nat} (hn : BIG ≤ n) {p : List Card} (c : Claim) : ∀ (k : Nat) (g : Game), Piles n g.1.1 p → GameOK p g → (81 - g.1.2.1).toNat < k →
    fx (s_l8Made_L1 n) k (c, 0, 0, g.1.1, g.1.2.1, g.1.2.2, g.2.1, g.2.2) = some (sOut (madeG p k g c))
  | 0, g, _, _, hk => by omega
  | k + 1, g, hP, h, hk => by
    obtain ⟨h81, _, _⟩ := pile_facts hP.perm
    have hl := h.deal.len h81
    rw [fx_succ]
    have e : s_l4Lines n g.1.2.2 = some (linesOf g.1.2.2) := by rw [s_l4Lines_eq hn hl (h.deal.isC hP.perm), lns_eq h.deal.nodup]
    generalize hgo : fx (s_l8Made_L1 n) k = go
    unfold s_l8Made_L1
    simp only [e, ob_some, br_some]
    by_cases hc : (linesOf g.1.2.2).length = 0 ∧ g.1.2.1 < 81
    · rw [show (if decide (((linesOf g.1.2.2).length : Int) = 0) = true then decide (g.1.2.1 < 81) else false) = true by rw [decide_eq_true (by omega : ((linesOf g.1.2.2).length : Int) = 0), if_pos rfl, decide_eq_true hc.2], br_true]
      rw [s_l4Lay_eq (d := (g.1.1, (g.1.2.1, g.1.2.2))) hP.ss h81 h.deal.laid hl (by omega), ob_some]
      have := s_made_loop hn c k (withD g (layD p g.1 3)) hP (withD_ok h (layD_ok h.deal hP.perm (by omega))) (by have := layD3_lt (p := p) hc.2 h.deal.laid.1; show (81 - (layD p g.1 3).2.1).toNat < k; omega)
      rw [← hgo]
      refine Eq.trans this ?_
      unfold madeG
      conv => rhs; unfold layN
      rw [if_pos hc]
      rfl
    · rw [show (if decide (((linesOf g.1.2.2).length : Int) = 0) = true then decide (g.1.2.1 < 81) else false) = false by
        by_cases h0 : (linesOf g.1.2.2).length = 0
        · rw [decide_eq_true (by omega : ((linesOf g.1.2.2).length : Int) = 0), if_pos rfl, decide_eq_false (fun q => hc ⟨h0, q⟩)]
        · rw [decide_eq_false (by omega : ¬ ((linesOf g.1.2.2).length : Int) = 0), if_neg (by simp)], br_false]
      unfold madeG
      conv => rhs; unfold layN
      rw [if_neg hc]
      exact s_end hn hP h c
theorem s_l8Own_eq {n : Nat} {g : Game} (h1 : g.1.2.2.length ≤ 1048576) (h2 : g.2.1.length ≤ 1048576) (h3 : g.2.2.length ≤ 1048576) : s_l8Own n g = some (g.1.1, g.1.2.1, g.1.2.2, g.2.1, g.2.2) := by
  unfold s_l8Own s_l1Own
  rw [s_l2Own_eq h1, ob_some, ckb_pos (apok_ok (by omega) (by omega)), ob_some, ckb_pos (apok_ok (by omega) (by omega)), ob_some]
theorem clone_int {n : Nat} {l : List Int} (h : l.length ≤ 1048576) : slices_Clone_Sint_int_ n l = some l := by
  unfold slices_Clone_Sint_int_
  refine amb_eq ?_ fun he => ?_
  · rw [br_false, ckb_pos (apok_ok (by omega) (by omega))]
  · rw [List.isEmpty_iff] at he; rw [he]; rfl
theorem i_own_eq {n : Nat} {g : Game} (h1 : g.1.2.2.length ≤ 1048576) (h2 : g.2.1.length ≤ 1048576) (h3 : g.2.2.length ≤ 1048576) : _impl_Game__own n g = some (g.1.1, g.1.2.1, g.1.2.2, g.2.1, g.2.2) := by
  unfold _impl_Game__own
  rw [slices_Clone_SA4_A4__eq h1, ob_some, clone_int h2, ob_some, clone_int h3, ob_some]
theorem GameOK.lens {p : List Card} {g : Game} (h : GameOK p g) (hp : p.length = 81) : g.1.2.2.length ≤ 1048576 ∧ g.2.1.length ≤ 1048576 ∧ g.2.2.length ≤ 1048576 := by
  have := h.deal.len hp; have := h.n4; have := h.eq; omega
theorem s_l8Made_eq {n : Nat} (hn : BIG ≤ n) {p : List Card} {g : Game} (hP : Piles n g.1.1 p) (h : GameOK p g) (c : Claim) : s_l8Made n g c = some (sOut (madeG p n g c)) := by
  obtain ⟨h81, _, _⟩ := pile_facts hP.perm
  obtain ⟨l1, l2, l3⟩ := h.lens h81
  unfold s_l8Made
  rw [s_l8Own_eq l1 l2 l3, ob_some]
  exact s_made_loop hn c n g hP h (big_gt hn (by have := h.deal.laid; omega))
theorem i_end {n : Nat} (hn : BIG ≤ n) {p : List Card} {g : Game} (hP : Piles n g.1.1 p) (h : GameOK p g) (c : Claim) :
    (ob (_impl_Game__kind n g c) fun r13 => br (decide (r13 = 1)) (ob (_impl_Deal__take n g.1 c.2) fun r14 => ckb (inb c.1 g.2.1.length) (Tv.lt (w64 ((gl 0 g.2.1 c.1.toNat) + 1)) fun x15 => ckb (inb c.1 g.2.1.length) (Tv.lt (List.set g.2.1 c.1.toNat (mnI 60 x15)) fun x16 => some (r13, r14.1, r14.2.1, x16, g.2.2, r14.2.2))))
      (br (decide (r13 = 2)) (ckb (inb c.1 g.2.2.length) (Tv.lt (w64 ((gl 0 g.2.2 c.1.toNat) + 1)) fun x17 => ckb (inb c.1 g.2.2.length) (Tv.lt (List.set g.2.2 c.1.toNat (mnI 60 x17)) fun x18 => some (r13, g.1.1, g.1.2.1, g.2.1, x18, g.1.2.2)))) (some (r13, g.1.1, g.1.2.1, g.2.1, g.2.2, g.1.2.2)))) = some (iOut (endG p g c)) := by
  obtain ⟨h81, _, _⟩ := pile_facts hP.perm
  rw [i_kind_eq hn c (h.deal.len h81) (by have := h.n4; omega) (h.deal.isC hP.perm), ob_some, i_take_eq hn hP.ii hP.perm h.deal]
  unfold endG
  rcases kind_cases g c with hk | hk | hk
  · have hb := kind_player (g := g) (c := c) (by omega)
    have hi : c.1.toNat < g.2.1.length := by omega
    have hv := h.sc _ (List.getElem_mem hi)
    rw [hk]
    show (ob (some (takeD p g.1 c.2)) fun r14 => ckb (inb c.1 g.2.1.length) (Tv.lt (w64 ((gl 0 g.2.1 c.1.toNat) + 1)) fun x15 => ckb (inb c.1 g.2.1.length) (Tv.lt (List.set g.2.1 c.1.toNat (mnI 60 x15)) fun x16 => some ((1 : Int), r14.1, r14.2.1, x16, g.2.2, r14.2.2)))) = _
    rw [ob_some, ckb_pos (inb_pos hb.1 hb.2), lt_eq, gl_eq hi, w64_id (by omega), ckb_pos (inb_pos hb.1 hb.2), lt_eq]
    show _ = some (iOut ((1 : Int), (takeD p g.1 c.2, (inc g.2.1 c.1.toNat, g.2.2))))
    unfold iOut inc mnI
    rw [gl_eq hi]
  · have hb := kind_player (g := g) (c := c) (by omega)
    have hi : c.1.toNat < g.2.2.length := by have := h.eq; omega
    have hv := h.mi _ (List.getElem_mem hi)
    rw [hk]
    show (ckb (inb c.1 g.2.2.length) (Tv.lt (w64 ((gl 0 g.2.2 c.1.toNat) + 1)) fun x17 => ckb (inb c.1 g.2.2.length) (Tv.lt (List.set g.2.2 c.1.toNat (mnI 60 x17)) fun x18 => some ((2 : Int), g.1.1, g.1.2.1, g.2.1, x18, g.1.2.2)))) = _
    rw [ckb_pos (inb_pos hb.1 (by have := h.eq; omega)), lt_eq, gl_eq hi, w64_id (by omega), ckb_pos (inb_pos hb.1 (by have := h.eq; omega)), lt_eq]
    show _ = some (iOut ((2 : Int), (g.1, (g.2.1, inc g.2.2 c.1.toNat))))
    unfold iOut inc mnI
    rw [gl_eq hi]
  · rw [hk]; rfl
theorem isStuck_eq {n : Nat} (hn : BIG ≤ n) {p : List Card} {d : Deal} (hp : p.Perm deck) (h : DealOK p d) : _impl_Deal__isStuck n d = some (decide ((linesOf d.2.2).length = 0)) := by
  obtain ⟨h81, _, _⟩ := pile_facts hp
  unfold _impl_Deal__isStuck
  rw [i_linesIn_eq hn (h.len h81) (h.isC hp) h.nodup, ob_some]
  congr 1; congr 1; apply propext; omega
theorem i_made_loop {n : Nat} (hn : BIG ≤ n) {p : List Card} (c : Claim) : ∀ (k : Nat) (g : Game), Piles n g.1.1 p → GameOK p g → (81 - g.1.2.1).toNat < k →
    fx (__impl_Game__make'p_ooo_L1 n) k (g.1.1, g.1.2.1, g.2.1, g.2.2, c, g.1.2.2) = some (iOut (madeG p k g c))
  | 0, g, _, _, hk => by omega
  | k + 1, g, hP, h, hk => by
    obtain ⟨h81, _, _⟩ := pile_facts hP.perm
    have hl := h.deal.len h81
    have hd := h.deal.laid
    rw [fx_succ]
    have e : _impl_Deal__isStuck n (g.1.1, g.1.2.1, g.1.2.2) = some (decide ((linesOf g.1.2.2).length = 0)) := isStuck_eq hn hP.perm h.deal
    have e2 : _impl_Deal__isOver n (g.1.1, g.1.2.1, g.1.2.2) = some (if decide ((linesOf g.1.2.2).length = 0) = true then decide (g.1.2.1 = 81) else false) := by
      unfold _impl_Deal__isOver; rw [e, ob_some, br_some, ob_some]
    generalize hgo : fx (__impl_Game__make'p_ooo_L1 n) k = go
    unfold __impl_Game__make'p_ooo_L1
    simp only [e, e2, ob_some, br_some]
    by_cases hc : (linesOf g.1.2.2).length = 0 ∧ g.1.2.1 < 81
    · rw [show (if decide ((linesOf g.1.2.2).length = 0) = true then !(if decide ((linesOf g.1.2.2).length = 0) = true then decide (g.1.2.1 = 81) else false) else false) = true by
        rw [decide_eq_true hc.1, if_pos rfl, if_pos rfl, decide_eq_false (by omega)]; rfl, br_true]
      rw [i_lay_eq hn (d := (g.1.1, (g.1.2.1, g.1.2.2))) hP.ii h81 h.deal.laid hl (by omega), ob_some]
      have := i_made_loop hn c k (withD g (layD p g.1 3)) hP (withD_ok h (layD_ok h.deal hP.perm (by omega))) (by have := layD3_lt (p := p) hc.2 h.deal.laid.1; show (81 - (layD p g.1 3).2.1).toNat < k; omega)
      rw [← hgo]
      refine Eq.trans this ?_
      unfold madeG
      conv => rhs; unfold layN
      rw [if_pos hc]
      rfl
    · rw [show (if decide ((linesOf g.1.2.2).length = 0) = true then !(if decide ((linesOf g.1.2.2).length = 0) = true then decide (g.1.2.1 = 81) else false) else false) = false by
        by_cases h0 : (linesOf g.1.2.2).length = 0
        · rw [decide_eq_true h0, if_pos rfl, if_pos rfl, decide_eq_true (by omega)]; rfl
        · rw [decide_eq_false h0, if_neg (by simp)], br_false]
      unfold madeG
      conv => rhs; unfold layN
      rw [if_neg hc]
      exact i_end hn hP h c
theorem i_make_eq {n : Nat} (hn : BIG ≤ n) {p : List Card} {g : Game} (hP : Piles n g.1.1 p) (h : GameOK p g) (c : Claim) : __impl_Game__make'p_ooo n c g.1.1 g.1.2.1 g.1.2.2 g.2.1 g.2.2 = some (iOut (madeG p n g c)) := by
  unfold __impl_Game__make'p_ooo
  exact i_made_loop hn c n g hP h (big_gt hn (by have := h.deal.laid; omega))
end Go.Pl
namespace Go.Pl
open Go Go.Tv Go.RowKit
set_option linter.unusedVariables false
theorem v_eqIntS_eq {n : Nat} (hn : BIG ≤ n) {a b : List Int} (hl : a.length ≤ 9223372036854775806) : v_eqIntS n a b = some (decide (a = b)) := by
  unfold v_eqIntS
  by_cases hlen : a.length = b.length
  · have e0 : decide ((a.length : Int) = (b.length : Int)) = true := decide_eq_true (by omega)
    simp only [e0, Bool.not_true, br_false]
    have := fx_cnt (B := v_eqIntS_L1 n) a.length (fun i => (a, b, (i : Int))) (fun _ => True) (fun i => some (decide (a.drop i = b.drop i))) (fun self i hi _ ih => by
      simp only [v_eqIntS_L1]
      by_cases h : i < a.length
      · have e1 : decide ((i : Int) < (a.length : Int)) = true := decide_eq_true (by omega)
        simp only [e1, br_true, inb_ok h, inb_ok (show i < b.length by omega), ckb_true, toNat_cast, gl_eq h, gl_eq (show i < b.length by omega), lt_eq]
        rw [List.drop_eq_getElem_cons h, List.drop_eq_getElem_cons (show i < b.length by omega)]
        by_cases hc : a[i] = b[i]
        · simp only [hc, decide_true, Bool.not_true, br_false, List.cons.injEq, true_and]
          rw [w64_succ (by omega)]; exact ih h trivial
        · have hne : ¬ (a[i] :: a.drop (i + 1) = b[i] :: b.drop (i + 1)) := fun e => hc (List.cons.inj e).1
          rw [decide_eq_false hne, decide_eq_false hc]; rfl
      · have e1 : decide ((i : Int) < (a.length : Int)) = false := decide_eq_false (by omega)
        simp only [e1, br_false]
        rw [List.drop_eq_nil_of_le (by omega), List.drop_eq_nil_of_le (by omega)]; simp) n 0 (Nat.zero_le _) trivial (big_gt hn (by omega))
    simpa using this
  · have e0 : decide ((a.length : Int) = (b.length : Int)) = false := decide_eq_false (by omega)
    simp only [e0, Bool.not_false, br_true]
    have : a ≠ b := fun h => hlen (by rw [h])
    simp [this]
end Go.Pl
namespace Go.Pl
open Go Go.Tv Go.RowKit
set_option linter.unusedVariables false
def w60 (x : Int) : Bool := decide (0 ≤ x ∧ x ≤ 60)
theorem allWithin_eq {n : Nat} (hn : BIG ≤ n) {l : List Int} (hl : l.length ≤ 1099511627776) : i_allWithin n l 0 60 = some (l.all w60) := by
  unfold i_allWithin slices_ContainsFunc_Sint_int_'l_i_allWithin_1pp slices_IndexFunc_Sint_int_'l_i_allWithin_1pp
  have := fx_find (B := slices_IndexFunc_Sint_int_'l_i_allWithin_1pp_L1 n) l (fun i => (l, (l.length : Int), (i : Int), (0 : Int), (60 : Int))) (fun x => !w60 x) (fun i => some ((i : Int), (0 : Int), (60 : Int))) (some (-1, 0, 60)) (fun self i hi => ?_) (fun self => ?_) n (big_gt hn (by omega))
  · rw [show fx (slices_IndexFunc_Sint_int_'l_i_allWithin_1pp_L1 n) n (l, (l.length : Int), 0, 0, 60) = _ from this]
    have e : l.all w60 = !(l.findIdx? fun x => !w60 x).isSome := by rw [findIdx?_any]; simp [List.all_eq_not_any_not]
    rw [e]
    cases l.findIdx? fun x => !w60 x with
    | none => rfl
    | some i =>
      simp only [ob_some, Option.isSome_some, Bool.not_true]
      rw [decide_eq_true (show (0 : Int) ≤ (i : Int) by omega)]; rfl
  · simp only [slices_IndexFunc_Sint_int_'l_i_allWithin_1pp_L1, lt_eq, i_allWithin_1'pp, i_within_eq, ob_some]
    rw [show decide ((i : Int) < (l.length : Int)) = true from decide_eq_true (by omega), br_true, ckb_pos (inb_ok hi), toNat_cast, gl_eq hi, w64_succ (by omega)]
    show br (!w60 l[i]) _ _ = _
    cases w60 l[i] <;> rfl
  · simp only [slices_IndexFunc_Sint_int_'l_i_allWithin_1pp_L1]
    rw [show decide ((l.length : Int) < (l.length : Int)) = false from decide_eq_false (by omega), br_false]
def gameFrom (g : Game) (i : Nat) : Bool := (List.range' i (g.2.1.length - i)).all fun k => w60 (gl 0 g.2.1 k) && w60 (gl 0 g.2.2 k)
theorem s_gameL {n : Nat} (hn : BIG ≤ n) {g : Game} (h4 : g.2.1.length ≤ 4) (he : g.2.2.length = g.2.1.length) : fx (s_l8Game_L1 n) n (0, g) = some (gameFrom g 0) := by
  have := fx_cnt (B := s_l8Game_L1 n) g.2.1.length (fun i => ((i : Int), g)) (fun _ => True) (fun i => some (gameFrom g i)) (fun self i hi _ ih => ?_) n 0 (by omega) trivial (big_gt hn (by omega))
  · exact this
  · simp only [s_l8Game_L1, lt_eq, s_l1In_eq, ob_some]
    by_cases h : i < g.2.1.length
    · rw [show decide ((i : Int) < (g.2.1.length : Int)) = true from decide_eq_true (by omega), br_true, ckb_pos (inb_ok h), ckb_pos (inb_ok (by omega)), toNat_cast, w64_succ (by omega), br_some, ob_some]
      have := ih h trivial
      unfold gameFrom at this ⊢
      rw [range'_cons h, List.all_cons]
      show br (if (!w60 (gl 0 g.2.1 i)) = true then true else !w60 (gl 0 g.2.2 i)) (some false) (self (((i + 1 : Nat) : Int), g)) = _
      cases w60 (gl 0 g.2.1 i) with
      | false => rfl
      | true =>
        cases w60 (gl 0 g.2.2 i) with
        | false => rfl
        | true => simpa using this
    · have : i = g.2.1.length := by omega
      subst this
      rw [show decide ((g.2.1.length : Int) < (g.2.1.length : Int)) = false from decide_eq_false (by omega), br_false]
      unfold gameFrom; rw [range'_nil (Nat.le_refl _)]; rfl
theorem all_get {l : List Int} : l.all w60 = (List.range' 0 (l.length - 0)).all fun k => w60 (gl 0 l k) := by
  rw [Bool.eq_iff_iff, List.all_eq_true, List.all_eq_true]
  constructor
  · intro h k hk
    rw [List.mem_range'_1] at hk
    have : k < l.length := by omega
    rw [gl_eq this]; exact h _ (List.getElem_mem this)
  · intro h x hx
    obtain ⟨k, hk, rfl⟩ := List.mem_iff_getElem.1 hx
    have := h k (by rw [List.mem_range'_1]; omega)
    rwa [gl_eq hk] at this
theorem gameFrom_eq {g : Game} (he : g.2.2.length = g.2.1.length) : gameFrom g 0 = (g.2.1.all w60 && g.2.2.all w60) := by
  rw [all_get, all_get, he]
  unfold gameFrom
  rw [Bool.eq_iff_iff, Bool.and_eq_true, List.all_eq_true, List.all_eq_true, List.all_eq_true]
  constructor
  · intro h
    exact ⟨fun k hk => (Bool.and_eq_true _ _ ▸ h k hk).1, fun k hk => (Bool.and_eq_true _ _ ▸ h k hk).2⟩
  · intro h k hk
    rw [Bool.and_eq_true]; exact ⟨h.1 k hk, h.2 k hk⟩
theorem isGame_eq {n : Nat} (hn : BIG ≤ n) (g : Game) (h1 : g.1.2.2.length ≤ 2000000) (h2 : g.2.1.length ≤ 1099511627776) (h3 : g.2.2.length ≤ 1099511627776) :
    ∃ b, s_l8Game n g = some b ∧ i_IsGame n g = some b ∧ (b = true → ∃ p, Piles n g.1.1 p ∧ GameOK p g) := by
  obtain ⟨b, e1, e2, hb⟩ := isDeal_eq hn g.1 h1
  refine ⟨b && decide (1 ≤ g.2.1.length ∧ g.2.1.length ≤ 4) && decide (g.2.2.length = g.2.1.length) && (g.2.1.all w60 && g.2.2.all w60), ?_, ?_, fun h => ?_⟩
  · unfold s_l8Game
    rw [e1]
    simp only [ob_some, s_l1In_eq, br_some]
    cases b with
    | false => rfl
    | true =>
      by_cases h4 : 1 ≤ g.2.1.length ∧ g.2.1.length ≤ 4
      · by_cases he : g.2.2.length = g.2.1.length
        · rw [decide_eq_true h4, decide_eq_true he, decide_eq_true (show (1 : Int) ≤ (g.2.1.length : Int) ∧ (g.2.1.length : Int) ≤ 4 by omega), decide_eq_true (show (g.2.2.length : Int) = (g.2.1.length : Int) by omega)]
          show fx (s_l8Game_L1 n) n (0, g) = _
          rw [s_gameL hn h4.2 he, gameFrom_eq he]; rfl
        · rw [decide_eq_true h4, decide_eq_false he, decide_eq_true (show (1 : Int) ≤ (g.2.1.length : Int) ∧ (g.2.1.length : Int) ≤ 4 by omega), decide_eq_false (show ¬ (g.2.2.length : Int) = (g.2.1.length : Int) by omega)]
          rfl
      · rw [decide_eq_false h4, decide_eq_false (show ¬ ((1 : Int) ≤ (g.2.1.length : Int) ∧ (g.2.1.length : Int) ≤ 4) by omega)]
        rfl
  · unfold i_IsGame
    rw [e2]
    simp only [ob_some, i_within_eq, allWithin_eq hn h2, allWithin_eq hn h3, br_some]
    rw [show decide ((1 : Int) ≤ (g.2.1.length : Int) ∧ (g.2.1.length : Int) ≤ 4) = decide (1 ≤ g.2.1.length ∧ g.2.1.length ≤ 4) by congr 1; apply propext; omega,
      show decide ((g.2.2.length : Int) = (g.2.1.length : Int)) = decide (g.2.2.length = g.2.1.length) by congr 1; apply propext; omega]
    cases b <;> cases decide (1 ≤ g.2.1.length ∧ g.2.1.length ≤ 4) <;> cases decide (g.2.2.length = g.2.1.length) <;> cases g.2.1.all w60 <;> cases g.2.2.all w60 <;> rfl
  · simp only [Bool.and_eq_true, decide_eq_true_eq] at h
    obtain ⟨⟨⟨hbt, h4⟩, he⟩, h5, h6⟩ := h
    obtain ⟨p, q1, q2, q3, q4⟩ := hb hbt
    refine ⟨p, ⟨q1, q2, q3⟩, ⟨q4, h4.1, h4.2, he, fun x hx => ?_, fun x hx => ?_⟩⟩
    · exact of_decide_eq_true (List.all_eq_true.1 h5 x hx)
    · exact of_decide_eq_true (List.all_eq_true.1 h6 x hx)
end Go.Pl
namespace Go.Pl
open Go Go.Tv Go.RowKit
set_option linter.unusedVariables false
def Len (g : Game) (k : Nat) : Prop := g.1.2.2.length ≤ k ∧ g.2.1.length ≤ k ∧ g.2.2.length ≤ k
end Go.Pl
namespace Go.Pl
open Go Go.Tv Go.RowKit
set_option linter.unusedVariables false
def firstK (p : List Card) (n : Nat) : Game → List Claim → Nat → Option Nat
  | _, [], _ => none
  | g, c :: l, i => if (madeG p n g c).1 = 1 then some i else firstK p n (madeG p n g c).2 l (i + 1)
def kinds (p : List Card) (n : Nat) : Game → List Claim → List Int
  | _, [] => []
  | g, c :: l => (madeG p n g c).1 :: kinds p n (madeG p n g c).2 l
def lastG (p : List Card) (n : Nat) : Game → List Claim → Game
  | g, [] => g
  | g, c :: l => lastG p n (madeG p n g c).2 l
theorem kinds_len (p : List Card) (n : Nat) : ∀ (l : List Claim) (g : Game), (kinds p n g l).length = l.length
  | [], _ => rfl
  | c :: l, g => by simp [kinds, kinds_len p n l]
theorem firstK_eq (p : List Card) (n : Nat) : ∀ (l : List Claim) (g : Game) (i : Nat), firstK p n g l i = ((kinds p n g l).findIdx? fun x => decide (x = 1)).map (· + i)
  | [], _, _ => rfl
  | c :: l, g, i => by
    unfold firstK kinds
    rw [List.findIdx?_cons]
    by_cases h : (madeG p n g c).1 = 1
    · simp [h]
    · rw [if_neg h, firstK_eq p n l]
      simp only [h, decide_false, Bool.false_eq_true, if_false]
      cases List.findIdx? (fun x => decide (x = 1)) (kinds p n (madeG p n g c).2 l) with
      | none => rfl
      | some j => simp only [Option.map_some]; congr 1; omega
theorem s_first_go {n : Nat} (hn : BIG ≤ n) {p : List Card} : ∀ (l done : List Claim) (g : Game), Piles n g.1.1 p → GameOK p g → done.length + l.length ≤ 1000 → ∀ j, l.length < j →
    fx (s_FirstRight_L1 n) j (done ++ l, (done.length : Int), g) = some (match firstK p n g l done.length with | some i => ((i : Int), true) | none => (0, false))
  | [], done, g, hP, h, _, j + 1, _ => by
    rw [fx_succ]
    unfold s_FirstRight_L1
    simp only [List.append_nil]
    rw [decide_eq_false (by omega), br_false]; rfl
  | c :: l, done, g, hP, h, hl, j + 1, hj => by
    simp only [List.length_cons] at hl hj
    have ih := s_first_go hn l (done ++ [c]) (madeG p n g c).2 (by rw [madeG_seed]; exact hP) (madeG_ok hP.perm h c) (by simp; omega) j (by omega)
    rw [fx_succ]
    generalize hgo : fx (s_FirstRight_L1 n) j = go at ih ⊢
    unfold s_FirstRight_L1
    simp only [lt_eq]
    rw [decide_eq_true (show (done.length : Int) < ((done ++ c :: l).length : Int) by simp; omega), br_true, ckb_pos (inb_ok (by simp)), toNat_cast, gl_eq (by simp)]
    simp only [List.getElem_append_right (Nat.le_refl _), Nat.sub_self, List.getElem_cons_zero]
    rw [s_l8Made_eq hn hP h c, ob_some]
    unfold firstK
    by_cases hk : (madeG p n g c).1 = 1
    · rw [if_pos hk]
      show br (decide ((madeG p n g c).1 = 1)) _ _ = _
      rw [decide_eq_true hk]; rfl
    · rw [if_neg hk]
      show br (decide ((madeG p n g c).1 = 1)) _ (go (done ++ c :: l, w64 ((done.length : Int) + 1), (madeG p n g c).2)) = _
      rw [decide_eq_false hk, br_false, w64_succ (by omega)]
      simp only [List.append_assoc, List.singleton_append, List.length_append, List.length_singleton] at ih
      exact ih
theorem i_run_go {n : Nat} (hn : BIG ≤ n) {p : List Card} : ∀ (l done : List Claim) (g : Game) (out : List Int), Piles n g.1.1 p → GameOK p g → done.length + l.length ≤ 1000 → out.length + l.length ≤ 1000 → ∀ j, l.length < j →
    fx (__impl_Game__run'pl_ooo_L1 n) j (done ++ l, ((done ++ l).length : Int), (done.length : Int), g.1.1, g.1.2.1, g.2.1, g.2.2, out, g.1.2.2) =
      some ((lastG p n g l).1.1, (lastG p n g l).1.2.1, (lastG p n g l).2.1, (lastG p n g l).2.2, out ++ kinds p n g l, (lastG p n g l).1.2.2)
  | [], done, g, out, hP, h, _, _, j + 1, _ => by
    rw [fx_succ]
    unfold __impl_Game__run'pl_ooo_L1
    simp only [List.append_nil, kinds, lastG]
    rw [decide_eq_false (by omega), br_false]
  | c :: l, done, g, out, hP, h, hl, ho, j + 1, hj => by
    simp only [List.length_cons] at hl hj ho
    have ih := i_run_go hn l (done ++ [c]) (madeG p n g c).2 (out ++ [(madeG p n g c).1]) (by rw [madeG_seed]; exact hP) (madeG_ok hP.perm h c) (by simp; omega) (by simp; omega) j (by omega)
    rw [fx_succ]
    generalize hgo : fx (__impl_Game__run'pl_ooo_L1 n) j = go at ih ⊢
    unfold __impl_Game__run'pl_ooo_L1
    simp only [lt_eq]
    rw [decide_eq_true (show (done.length : Int) < ((done ++ c :: l).length : Int) by simp; omega), br_true, ckb_pos (inb_ok (by simp)), toNat_cast, gl_eq (by simp)]
    simp only [List.getElem_append_right (Nat.le_refl _), Nat.sub_self, List.getElem_cons_zero]
    rw [i_make_eq hn hP h c, ob_some, ckb_pos (apok_ok (by omega) (by omega)), w64_succ (by omega)]
    simp only [List.append_assoc, List.singleton_append, List.length_append, List.length_singleton] at ih
    simp only [kinds, lastG]
    refine Eq.trans ?_ ih
    simp only [List.length_append]
    rfl
theorem FirstRight_eq {n : Nat} (hn : BIG ≤ n) (g : Game) (l : List Claim) (h : Len g 1048576) (hl : l.length ≤ 1048576) : ∃ r, s_FirstRight n g l = some r ∧ i_FirstRight n g l = some r := by
  obtain ⟨h1, h2, h3⟩ := h
  obtain ⟨b, e1, e2, hb⟩ := isGame_eq hn g (by omega) (by omega) (by omega)
  unfold s_FirstRight i_FirstRight i_areClaims
  rw [e1, e2]
  simp only [ob_some, br_some]
  cases b with
  | false => exact ⟨_, rfl, rfl⟩
  | true =>
    by_cases h60 : l.length ≤ 60
    · obtain ⟨p, hP, hG⟩ := hb rfl
      have s1 := s_first_go hn l [] g hP hG (by simp; omega) n (big_gt hn (by omega))
      have s2 := i_run_go hn l [] g [] hP hG (by simp; omega) (by simp; omega) n (big_gt hn (by omega))
      simp only [List.nil_append, List.length_nil] at s1 s2
      refine ⟨match firstK p n g l 0 with | some i => ((i : Int), true) | none => (0, false), ?_, ?_⟩
      · rw [decide_eq_false (show ¬ (60 : Int) < (l.length : Int) by omega)]
        exact s1
      · rw [decide_eq_true (show (l.length : Int) ≤ 60 by omega)]
        show br (! (if true = true then true else false)) _ _ = _
        rw [if_pos rfl, Bool.not_true, br_false, i_own_eq h1 h2 h3, ob_some]
        unfold __impl_Game__run'pl_ooo
        refine Eq.trans (congrArg (fun o => ob o _) s2) ?_
        rw [ob_some, slices_Index_int_eq hn (by rw [kinds_len]; omega), ob_some, firstK_eq]
        have e : ((kinds p n g l).findIdx? fun x => decide ((1 : Int) = x)) = (kinds p n g l).findIdx? fun x => decide (x = 1) := by
          congr 1; funext x; exact decide_eq_decide.2 ⟨Eq.symm, Eq.symm⟩
        rw [e]
        cases (kinds p n g l).findIdx? fun x => decide (x = 1) with
        | none => rfl
        | some i =>
          show some (mxI 0 (i : Int), decide (0 ≤ (i : Int))) = some (((i + 0 : Nat) : Int), true)
          rw [decide_eq_true (by omega)]
          unfold mxI; split
          · rfl
          · congr 2; omega
    · refine ⟨(0, false), ?_, ?_⟩
      · rw [decide_eq_true (show (60 : Int) < (l.length : Int) by omega)]; rfl
      · rw [decide_eq_false (show ¬ (l.length : Int) ≤ 60 by omega)]; rfl
end Go.Pl
