/- Plain laws: L7, LLn, LLa, LLb. -/
import Derived.Test.YtfoielhhflbbfaaG0
import Derived.Test.YtfoielhhflbbfaaG1
import Derived.Test.YtfoielhhflbbfaaPL
set_option linter.unusedVariables false
set_option linter.unusedSimpArgs false
namespace Go.Pl
open Go Go.Tv Go.RowKit
end Go.Pl
namespace Go.Pl
open Go Go.Tv Go.RowKit
set_option linter.unusedVariables false
abbrev gz (h : List Card) (i : Nat) : Card := gl (⟨0, 0, 0, 0⟩ : Card) h i
theorem place_get {h : List Card} {c : Card} {k : Nat} (e : place h c = (k : Int)) : k < h.length ∧ gz h k = c := by
  unfold place placeI at e
  cases hf : h.findIdx? (fun x => decide (x = c)) with
  | none => rw [hf] at e; simp only at e; omega
  | some i =>
    rw [hf] at e
    simp only at e
    obtain ⟨h1, h2, _⟩ := List.findIdx?_eq_some_iff_getElem.1 hf
    have : i = k := by omega
    subst this
    refine ⟨h1, ?_⟩
    show gl _ h i = c
    rw [gl_eq h1]; exact of_decide_eq_true h2
theorem place_gz {h : List Card} (H : HandL h) {k : Nat} (hk : k < h.length) : place h (gz h k) = (k : Int) := by
  refine place_of H.nd ?_
  rw [List.getElem?_eq_getElem hk]
  show some h[k] = some (gl _ h k)
  rw [gl_eq hk]
structure LineAt (h : List Card) (i j k : Nat) : Prop where
  ij : i < j
  jk : j < k
  kl : k < h.length
  e : third (gz h i) (gz h j) = gz h k
theorem mem_lines {h : List Card} (H : HandL h) {x : V3 Int} : x ∈ linesOf h ↔ ∃ i j k : Nat, x = ⟨(i : Int), (j : Int), (k : Int)⟩ ∧ LineAt h i j k := by
  unfold linesOf ln2
  simp only [List.mem_flatMap, List.mem_range'_1]
  constructor
  · rintro ⟨i, ⟨_, hi⟩, j, ⟨hj1, hj2⟩, hx⟩
    unfold ln1 at hx
    split at hx
    · rename_i hp
      obtain ⟨k, hk⟩ : ∃ k : Nat, place h (third (gl zz h i) (gl zz h j)) = (k : Int) := ⟨(place h (third (gl zz h i) (gl zz h j))).toNat, by omega⟩
      obtain ⟨g1, g2⟩ := place_get hk
      rw [List.mem_singleton] at hx
      exact ⟨i, j, k, by rw [hx, hk], by omega, by omega, g1, g2.symm⟩
    · cases hx
  · rintro ⟨i, j, k, rfl, L⟩
    have h1 := L.ij; have h2 := L.jk; have h3 := L.kl
    refine ⟨i, ⟨by omega, by omega⟩, j, ⟨by omega, by omega⟩, ?_⟩
    have hp : place h (third (gl zz h i) (gl zz h j)) = (k : Int) := by
      have : third (gl zz h i) (gl zz h j) = gz h k := L.e
      rw [this, place_gz H L.kl]
    unfold ln1
    rw [hp, if_pos (by omega)]
    exact List.mem_singleton.2 rfl
theorem LineAt.all {h : List Card} (H : HandL h) {i j k : Nat} (L : LineAt h i j k) : third (gz h i) (gz h j) = gz h k ∧ third (gz h i) (gz h k) = gz h j ∧ third (gz h j) (gz h k) = gz h i := by
  have h1 := L.ij; have h2 := L.jk; have h3 := L.kl
  have ci : isC (gz h i) = true := gl_C H.c (by omega)
  have cj : isC (gz h j) = true := gl_C H.c (by omega)
  refine ⟨L.e, ?_, ?_⟩
  · rw [← L.e, th_back ci cj]
  · rw [← L.e, th_comm (gz h i), th_back cj ci]
theorem gz_inj {h : List Card} (H : HandL h) {i j : Nat} (hi : i < h.length) (hj : j < h.length) (e : gz h i = gz h j) : i = j :=
  Classical.byContradiction fun hne => H.ne hi hj hne e
end Go.Pl
namespace Go.Pl
open Go Go.Tv Go.RowKit
set_option linter.unusedVariables false
theorem v_vLines_eq {n : Nat} (hn : BIG ≤ n) {a b : List (V3 Int)} (hl : a.length ≤ 9223372036854775806) : v_vLines n a b = some (decide (a = b)) := by
  unfold v_vLines
  by_cases hlen : a.length = b.length
  · have e0 : decide ((a.length : Int) = (b.length : Int)) = true := decide_eq_true (by omega)
    simp only [e0, Bool.not_true, br_false]
    have := fx_cnt (B := v_vLines_L1 n) a.length (fun i => (a, b, (i : Int))) (fun _ => True) (fun i => some (decide (a.drop i = b.drop i))) (fun self i hi _ ih => by
      simp only [v_vLines_L1]
      by_cases h : i < a.length
      · have e1 : decide ((i : Int) < (a.length : Int)) = true := decide_eq_true (by omega)
        simp only [e1, br_true, inb_ok h, inb_ok (show i < b.length by omega), ckb_true, toNat_cast, gl_eq h, gl_eq (show i < b.length by omega), lt_eq]
        rw [List.drop_eq_getElem_cons h, List.drop_eq_getElem_cons (show i < b.length by omega)]
        by_cases hc : a[i] = b[i]
        · simp only [eqd, hc, decide_true, Bool.not_true, br_false, List.cons.injEq, true_and]
          rw [w64_succ (by omega)]; exact ih h trivial
        · have hne : ¬ (a[i] :: a.drop (i + 1) = b[i] :: b.drop (i + 1)) := fun e => hc (List.cons.inj e).1
          rw [decide_eq_false hne]; unfold eqd; rw [decide_eq_false hc]; rfl
      · have e1 : decide ((i : Int) < (a.length : Int)) = false := decide_eq_false (by omega)
        simp only [e1, br_false]
        rw [List.drop_eq_nil_of_le (by omega), List.drop_eq_nil_of_le (by omega)]; simp) n 0 (Nat.zero_le _) trivial (big_gt hn (by omega))
    simpa using this
  · have e0 : decide ((a.length : Int) = (b.length : Int)) = false := decide_eq_false (by omega)
    simp only [e0, Bool.not_false, br_true]
    have : a ≠ b := fun h => hlen (by rw [h])
    simp [this]
def onI (l : V3 Int) (i : Int) : Bool := decide (l.x0 = i) || decide (l.x1 = i) || decide (l.x2 = i)
def LA (h : List Card) (i : Int) : Bool × List (V3 Int) := if hand h && decide (0 ≤ i ∧ i ≤ (h.length : Int) - 1) then (true, (linesOf h).filter fun l => onI l i) else (false, [])
theorem lines_len27 {h : List Card} (hh : hand h = true) : (linesOf h).length ≤ 729 := by
  have := hand_len hh
  have h1 := linesOf_len (h := h)
  have : h.length * h.length ≤ 27 * 27 := Nat.mul_le_mul this this
  omega
def cl (N : Nat) (f : Nat → Int) : List Int := (List.range' 0 (N - 0)).map f
end Go.Pl
namespace Go.Pl
open Go Go.Tv Go.RowKit
set_option linter.unusedVariables false
end Go.Pl
