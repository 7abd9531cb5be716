/- Plain laws: LQ, LR, LSo1, LTh, LSum. -/
import Derived.Test.YtfoielhhflbbfaaG0
set_option linter.unusedVariables false
set_option linter.unusedSimpArgs false
namespace Go.Pl
open Go Go.Tv Go.RowKit
set_option linter.unusedVariables false
end Go.Pl
namespace Go.Pl
open Go Go.Tv Go.RowKit
set_option linter.unusedVariables false
theorem has_any (l : List Card) (c : Card) : (l.any fun x => decide (x = c)) = l.contains c := by
  induction l with
  | nil => rfl
  | cons a t ih =>
    rw [List.any_cons, List.contains_cons, ih]
    congr 1
    by_cases h : a = c
    · rw [h]; simp
    · rw [decide_eq_false h]; exact (beq_eq_false_iff_ne.2 (Ne.symm h)).symm
theorem s_l2Has_eq {n : Nat} (hn : BIG ≤ n) {h : List Card} (hl : h.length ≤ 9223372036854775807) (c : Card) : s_l2Has n h c = some (h.contains c) := by
  unfold s_l2Has
  rw [s_l2Place_eq hn hl, ob_some]
  have e : decide (0 ≤ place h c) = (h.findIdx? fun x => decide (x = c)).isSome := by
    unfold place placeI
    cases hq : h.findIdx? fun x => decide (x = c) with
    | none => rfl
    | some i => exact decide_eq_true (by simp only []; omega)
  rw [e, findIdx?_any, has_any]
end Go.Pl
namespace Go.Pl
open Go Go.Tv Go.RowKit
set_option linter.unusedVariables false
theorem fx_inv {σ ρ : Type} {B : (σ → Opt ρ) → σ → Opt ρ} (I : σ → Prop) (μ : σ → Nat) (Q : Opt ρ → Prop)
    (step : ∀ self s, I s → (∀ s', I s' → μ s' < μ s → Q (self s')) → Q (B self s)) : ∀ k s, I s → μ s < k → Q (fx B k s)
  | 0, _, _, h => by omega
  | k + 1, s, hI, h => by
    rw [fx_succ]
    exact step _ s hI fun s' hI' hlt => fx_inv I μ Q step k s' hI' (by omega)
def AllC (d : List Card) : Prop := ∀ c, c ∈ d → isC c = true
def nm (d : List Card) (i : Nat) : Int := num (gl (⟨0, 0, 0, 0⟩ : Card) d i)
def swc (d : List Card) (i j : Nat) : List Card := (d.set i (gl (⟨0, 0, 0, 0⟩ : Card) d j)).set j (gl (⟨0, 0, 0, 0⟩ : Card) d i)
theorem swp_len (d : List Card) (i j : Nat) : (swc d i j).length = d.length := by simp [swc]
theorem gl_set {α : Type} (z : α) (d : List α) (i : Nat) (x : α) (h : i < d.length) (k : Nat) : gl z (d.set i x) k = if k = i then x else gl z d k := by
  unfold gl
  simp only [List.getD_eq_getElem?_getD, List.getElem?_set]
  by_cases hk : i = k
  · subst hk; simp [h]
  · have hk' : ¬ k = i := fun h => hk h.symm
    simp [hk, hk']
theorem gl_swp {d : List Card} {i j : Nat} (hi : i < d.length) (hj : j < d.length) (k : Nat) :
    gl (⟨0, 0, 0, 0⟩ : Card) (swc d i j) k = if k = j then gl ⟨0, 0, 0, 0⟩ d i else if k = i then gl ⟨0, 0, 0, 0⟩ d j else gl ⟨0, 0, 0, 0⟩ d k := by
  unfold swc
  rw [gl_set _ _ _ _ (by simpa using hj), gl_set _ _ _ _ hi]
theorem nm_swp {d : List Card} {i j : Nat} (hi : i < d.length) (hj : j < d.length) (k : Nat) : nm (swc d i j) k = if k = j then nm d i else if k = i then nm d j else nm d k := by
  unfold nm
  rw [gl_swp hi hj]
  split
  · rfl
  · split <;> rfl
theorem nsj {d : List Card} {i j : Nat} (hi : i < d.length) (hj : j < d.length) : nm (swc d i j) j = nm d i := by rw [nm_swp hi hj, if_pos rfl]
theorem nsi {d : List Card} {i j : Nat} (hi : i < d.length) (hj : j < d.length) : nm (swc d i j) i = nm d j := by
  rw [nm_swp hi hj, if_pos rfl]
  split
  · rename_i h; rw [h]
  · rfl
theorem nso {d : List Card} {i j : Nat} (hi : i < d.length) (hj : j < d.length) {k : Nat} (h1 : k ≠ i) (h2 : k ≠ j) : nm (swc d i j) k = nm d k := by rw [nm_swp hi hj, if_neg h2, if_neg h1]
theorem gl_C {d : List Card} (hd : AllC d) {i : Nat} (h : i < d.length) : isC (gl (⟨0, 0, 0, 0⟩ : Card) d i) = true := by
  rw [gl_eq h]; exact hd _ (List.getElem_mem h)
inductive Sw (a b : Nat) (d : List Card) : List Card → Prop
  | refl : Sw a b d d
  | step {d' : List Card} (h : Sw a b d d') (i j : Nat) (ha : a ≤ i) (hb : i < b) (ha' : a ≤ j) (hb' : j < b) (hl : b ≤ d.length) : Sw a b d (swc d' i j)
theorem Sw.len {a b : Nat} {d d' : List Card} (h : Sw a b d d') : d'.length = d.length := by
  induction h with
  | refl => rfl
  | step _ i j _ _ _ _ _ ih => rw [swp_len, ih]
theorem Sw.out {a b : Nat} {d d' : List Card} (h : Sw a b d d') {k : Nat} (hk : k < a ∨ b ≤ k) : nm d' k = nm d k := by
  induction h with
  | refl => rfl
  | step h i j _ _ _ _ _ ih => rw [nm_swp (by rw [h.len]; omega) (by rw [h.len]; omega), if_neg (by omega), if_neg (by omega), ih]
theorem Sw.all {a b : Nat} {d d' : List Card} (h : Sw a b d d') {P : Int → Prop} (hP : ∀ k, a ≤ k → k < b → P (nm d k)) : ∀ k, a ≤ k → k < b → P (nm d' k) := by
  induction h with
  | refl => exact hP
  | step h i j _ _ _ _ _ ih =>
    intro k h1 h2
    rw [nm_swp (by rw [h.len]; omega) (by rw [h.len]; omega)]
    split
    · exact ih i (by omega) (by omega)
    · split
      · exact ih j (by omega) (by omega)
      · exact ih k h1 h2
theorem Sw.trans {a b : Nat} {d d' d'' : List Card} (h : Sw a b d d') (k : Sw a b d' d'') : Sw a b d d'' := by
  induction k with
  | refl => exact h
  | step k i j ha hb ha' hb' hl ih => exact .step ih i j ha hb ha' hb' (by rw [← h.len]; exact hl)
theorem Sw.mono {a b a' b' : Nat} {d d' : List Card} (h : Sw a b d d') (ha : a' ≤ a) (hb : b ≤ b') (hl : b' ≤ d.length) : Sw a' b' d d' := by
  induction h with
  | refl => exact .refl
  | step k i j h1 h2 h3 h4 _ ih => exact .step ih i j (by omega) (by omega) (by omega) (by omega) hl
theorem perm_swp {d : List Card} {i j : Nat} (hi : i < d.length) (hj : j < d.length) : ∀ c, (swc d i j).count c = d.count c := by
  intro c
  unfold swc
  rw [gl_eq hi, gl_eq hj]
  rw [List.count_set (by simpa using hj), List.count_set hi]
  simp only [List.getElem_set]
  have p1 : d[i] = c → 0 < d.count c := fun h => List.count_pos_iff.2 (h ▸ List.getElem_mem hi)
  have p2 : d[j] = c → 0 < d.count c := fun h => List.count_pos_iff.2 (h ▸ List.getElem_mem hj)
  by_cases hij : i = j
  · subst hij
    by_cases h1 : d[i] = c
    · have := p1 h1; simp [h1] <;> omega
    · simp [h1]
  · by_cases h1 : d[i] = c <;> by_cases h2 : d[j] = c
    · have := p1 h1; simp [h1, h2, hij]; omega
    · have := p1 h1; simp [h1, h2, hij]; omega
    · have := p2 h2; simp [h1, h2, hij]
    · simp [h1, h2, hij]
theorem Sw.count {a b : Nat} {d d' : List Card} (h : Sw a b d d') (c : Card) : d'.count c = d.count c := by
  induction h with
  | refl => rfl
  | step h i j _ _ _ _ _ ih => rw [perm_swp (by rw [h.len]; omega) (by rw [h.len]; omega), ih]
def Srt (d : List Card) (a b : Nat) : Prop := ∀ p q, a ≤ p → p < q → q < b → nm d p ≤ nm d q
def Post (a b : Nat) (d0 : List Card) (o : Opt (List Card)) : Prop := ∃ d, o = some d ∧ Sw a b d0 d ∧ Srt d a b
end Go.Pl
namespace Go.Pl
open Go Go.Tv Go.RowKit
set_option linter.unusedVariables false
theorem t3_in012 {x : Int} (h : 0 ≤ x ∧ x ≤ 2) : x = 0 ∨ x = 1 ∨ x = 2 := by omega
theorem t3_self {x : Int} (h : 0 ≤ x ∧ x ≤ 2) : t3 x x = x := by rcases t3_in012 h with rfl | rfl | rfl <;> decide
theorem t3_back' {x y : Int} (hx : 0 ≤ x ∧ x ≤ 2) (hy : 0 ≤ y ∧ y ≤ 2) : t3 x (t3 x y) = y := by
  rcases t3_in012 hx with rfl | rfl | rfl <;> rcases t3_in012 hy with rfl | rfl | rfl <;> decide
theorem th_self {a : Card} (h : isC a = true) : third a a = a := by
  rw [isC_iff] at h
  unfold third
  rw [t3_self h.1, t3_self h.2.1, t3_self h.2.2.1, t3_self h.2.2.2]
theorem th_comm (a b : Card) : third a b = third b a := by
  have e : ∀ x y : Int, t3 x y = t3 y x := fun x y => by unfold t3; congr 1; omega
  unfold third; rw [e a.x0, e a.x1, e a.x2, e a.x3]
theorem th_back {a b : Card} (ha : isC a = true) (hb : isC b = true) : third a (third a b) = b := by
  rw [isC_iff] at ha hb
  unfold third
  simp only []
  rw [t3_back' ha.1 hb.1, t3_back' ha.2.1 hb.2.1, t3_back' ha.2.2.1 hb.2.2.1, t3_back' ha.2.2.2 hb.2.2.2]
structure HandL (h : List Card) : Prop where
  c : AllC h
  nd : h.Nodup
  len : h.length ≤ 100
theorem HandL.of {h : List Card} (hh : hand h = true) : HandL h := ⟨hand_all hh, hand_nodup hh, by have := hand_len hh; omega⟩
theorem HandL.ne {h : List Card} (H : HandL h) {i j : Nat} (hi : i < h.length) (hj : j < h.length) (hne : i ≠ j) : gl (⟨0, 0, 0, 0⟩ : Card) h i ≠ gl (⟨0, 0, 0, 0⟩ : Card) h j := by
  rw [gl_eq hi, gl_eq hj]
  exact fun e => hne ((List.getElem_inj H.nd).1 e)
def pr1 (h : List Card) (c : Card) (i j : Nat) : List (V2 Int) := if lineB (gl ⟨0, 0, 0, 0⟩ h i) (gl ⟨0, 0, 0, 0⟩ h j) c = true then [⟨i, j⟩] else []
def pr2 (h : List Card) (c : Card) (i : Nat) : List (V2 Int) := (List.range' (i + 1) (h.length - (i + 1))).flatMap (pr1 h c i)
def prs (h : List Card) (c : Card) : List (V2 Int) := (List.range' 0 (h.length - 0)).flatMap (pr2 h c)
def thr (h : List Card) (c : Card) : Nat := (prs h c).length
def outOK (h : List Card) (b : Bool) (k : Nat) : Bool := !h.contains (cardAt k) && (decide (0 < thr h (cardAt k)) == b)
end Go.Pl
namespace Go.Pl
open Go Go.Tv
def S : Nat → (Nat → Nat) → Nat
  | 0, _ => 0
  | n + 1, f => S n f + f n
def T (n : Nat) (g : Nat → Nat → Nat) : Nat := S n fun i => S i (g i)
def b2 (b : Bool) : Nat := if b = true then 1 else 0
end Go.Pl
