/- Plain laws: LCp, LGr, L4L. -/
import Derived.Test.YtfoielhhflbbfaaG6
import Derived.Test.YtfoielhhflbbfaaG0
import Derived.Test.YtfoielhhflbbfaaG1
set_option linter.unusedVariables false
set_option linter.unusedSimpArgs false
namespace Go.Pl
open Go Go.Tv Go.RowKit
set_option linter.unusedVariables false
theorem ix_hand {h : List Card} (H : HandL h) {I : List Nat} (hp : I.Pairwise (· < ·)) (hb : ∀ i ∈ I, i < h.length) : HandL (I.map (gz h)) := by
  have hc : AllC (I.map (gz h)) := fun c hc => by
    obtain ⟨i, hi, rfl⟩ := List.mem_map.1 hc
    exact gl_C H.c (hb i hi)
  have hnd : (I.map (gz h)).Nodup := by
    unfold List.Nodup
    rw [List.pairwise_map]
    exact List.Pairwise.imp_of_mem (fun {a b} ha hb' hlt e => by have := gz_inj H (hb a ha) (hb b hb') e; omega) hp
  exact ⟨hc, hnd, by have := nodup_len81 hnd hc; omega⟩
theorem s_l2Drop_ok {n : Nat} {h : List Card} (hl : h.length ≤ 1000) {i : Int} (h0 : 0 ≤ i) (h1 : i < h.length) : s_l2Drop n h i = some (h.take i.toNat ++ h.drop (i.toNat + 1)) := by
  obtain ⟨k, rfl⟩ : ∃ k : Nat, i = k := ⟨i.toNat, by omega⟩
  unfold s_l2Drop
  have e1 : sub h 0 k = h.take k := by unfold sub; simp
  have e2 : sub h (k + 1) h.length = h.drop (k + 1) := by unfold sub; rw [List.take_of_length_le (by simp)]
  rw [toNat_cast, ckb_pos (slb_ok (by omega) (by omega) (by omega)), e1, s_l2Own_eq (by rw [List.length_take]; omega), ob_some, lt_eq, w64_succ (by omega), ckb_pos (slb_ok (by omega) (by omega) (by omega)), toNat_cast, e2,
    ckb_pos (apok_ok (by rw [List.length_take, List.length_drop]; omega) (by rw [List.length_take, List.length_drop]; omega))]
end Go.Pl
namespace Go.Pl
open Go Go.Tv Go.RowKit
set_option linter.unusedVariables false
set_option linter.unusedSimpArgs false
def okc (h : List Card) (I : List Nat) (k : Nat) : Bool := decide (thr (I.map (gz h)) (gz h k) = 0)
def X (h : List Card) : Nat → List Nat → Nat → List (List Nat)
  | 0, _, _ => []
  | m + 1, I, k => (if okc h I k = true then (I ++ [k]) :: X h m (I ++ [k]) (k + 1) else []) ++ X h m I (k + 1)
structure Pk (I : List Nat) (k : Nat) : Prop where
  pw : I.Pairwise (· < ·)
  lt : ∀ i ∈ I, i < k
theorem Pk.snoc {I : List Nat} {k : Nat} (h : Pk I k) : Pk (I ++ [k]) (k + 1) :=
  ⟨List.pairwise_append.2 ⟨h.pw, List.pairwise_singleton _ _, fun a ha b hb => by rw [List.mem_singleton.1 hb]; exact h.lt a ha⟩, fun i hi => by
    rcases List.mem_append.1 hi with hi | hi
    · have := h.lt i hi; omega
    · rw [List.mem_singleton.1 hi]; omega⟩
theorem Pk.mono {I : List Nat} {k : Nat} (h : Pk I k) {j : Nat} (hj : k ≤ j) : Pk I j := ⟨h.pw, fun i hi => by have := h.lt i hi; omega⟩
theorem pw_len : ∀ {I : List Nat} {k a : Nat}, I.Pairwise (· < ·) → (∀ i ∈ I, a ≤ i ∧ i < k) → I.length + a ≤ k ∨ I = []
  | [], _, _, _, _ => .inr rfl
  | x :: I, k, a, h, hb => by
    obtain ⟨h1, h2⟩ := List.pairwise_cons.1 h
    have hx := hb x List.mem_cons_self
    have := pw_len (I := I) (k := k) (a := x + 1) h2 fun i hi => ⟨h1 i hi, (hb i (List.mem_cons_of_mem _ hi)).2⟩
    left
    rcases this with h | h
    · rw [List.length_cons]; omega
    · subst h; simp; omega
theorem Pk.len {I : List Nat} {k : Nat} (h : Pk I k) : I.length ≤ k := by
  rcases pw_len (a := 0) h.pw fun i hi => ⟨Nat.zero_le _, h.lt i hi⟩ with h | h
  · omega
  · rw [h]; simp
abbrev iz (I : List Nat) : List Int := I.map fun (i : Nat) => (i : Int)
theorem iz_len (I : List Nat) : (iz I).length = I.length := List.length_map _
theorem iz_gl {I : List Nat} {p : Nat} (hp : p < I.length) : gl 0 (iz I) p = ((gl 0 I p : Nat) : Int) := by
  rw [gl_eq (by rw [iz_len]; exact hp), gl_eq hp, List.getElem_map]
theorem iz_snoc (I : List Nat) (k : Nat) : iz I ++ [(k : Int)] = iz (I ++ [k]) := by simp
theorem iz_sub (I : List Nat) (a : Nat) : sub (iz I) a (iz I).length = iz (I.drop a) := by
  unfold sub iz
  rw [List.map_drop, List.take_of_length_le (by simp)]
theorem iz_full (I : List Nat) : sub (iz I) 0 (iz I).length = iz I := by rw [iz_sub, List.drop_zero]
end Go.Pl
namespace Go.Pl
open Go Go.Tv Go.RowKit
set_option linter.unusedVariables false
def z4 : Card := ⟨0, 0, 0, 0⟩
def lnAt (s : List Card) (i j k : Nat) : Bool := lineB (gl z4 s i) (gl z4 s j) (gl z4 s k)
def l1 (s : List Card) (i j k : Nat) : List (V3 Int) := if lnAt s i j k = true then [⟨i, j, k⟩] else []
def l2 (s : List Card) (i j : Nat) : List (V3 Int) := (List.range' (j + 1) (s.length - (j + 1))).flatMap (l1 s i j)
def l3 (s : List Card) (i : Nat) : List (V3 Int) := (List.range' (i + 1) (s.length - (i + 1))).flatMap (l2 s i)
def lns (s : List Card) : List (V3 Int) := (List.range' 0 (s.length - 0)).flatMap (l3 s)
theorem l1_len {s : List Card} {i j k : Nat} : (l1 s i j k).length ≤ 1 := by unfold l1; split <;> simp
theorem l2_len {s : List Card} {i j : Nat} : (l2 s i j).length ≤ s.length := by
  have := flen (l := List.range' (j + 1) (s.length - (j + 1))) (f := l1 s i j) (M := 1) fun _ _ => l1_len
  rw [List.length_range', Nat.mul_one] at this
  unfold l2; omega
theorem l3_len {s : List Card} {i : Nat} : (l3 s i).length ≤ s.length * s.length := by
  have := flen (l := List.range' (i + 1) (s.length - (i + 1))) (f := l2 s i) (M := s.length) fun _ _ => l2_len
  unfold l3
  refine Nat.le_trans this (Nat.mul_le_mul_right _ ?_)
  rw [List.length_range']; omega
theorem lns_len {s : List Card} : (lns s).length ≤ s.length * (s.length * s.length) := by
  have := flen (l := List.range' 0 (s.length - 0)) (f := l3 s) (M := s.length * s.length) fun _ _ => l3_len
  rw [List.length_range', Nat.sub_zero] at this
  unfold lns; exact this
theorem gl_isC {s : List Card} (hs : ∀ c, c ∈ s → isC c = true) {i : Nat} (h : i < s.length) : isC (gl z4 s i) = true := by
  rw [gl_eq h]; exact hs _ (List.getElem_mem h)
end Go.Pl
