/- Plain laws: LMs, LPn, L7. -/
import Derived.Test.YtfoielhhflbbfaaG4
import Derived.Test.YtfoielhhflbbfaaG3
import Derived.KernelRfl
import Derived.Test.YtfoielhhflbbfaaG0
set_option linter.unusedVariables false
set_option linter.unusedSimpArgs false
namespace Go.Pl
open Go Go.Tv Go.RowKit
set_option linter.unusedVariables false
theorem i_areCards_eq {n : Nat} (hn : BIG ≤ n) {l : List Card} (hl : l.length ≤ 9223372036854775807) : i_areCards n l = some (l.all isC) := by
  unfold i_areCards slices_ContainsFunc_SA4_A4_'l_i_areCards_1 slices_IndexFunc_SA4_A4_'l_i_areCards_1
  have := fx_find (B := slices_IndexFunc_SA4_A4_'l_i_areCards_1_L1 n) l (fun i => (l, (l.length : Int), (i : Int))) (fun c => !isC c) (fun i => some (i : Int)) (some (-1)) (fun self i hi => ?_) (fun self => ?_) n (big_gt hn (by omega))
  · have e : ((0 : Nat) : Int) = 0 := rfl
    simp only [e] at this
    rw [this]
    have ha := findIdx?_any l fun c => !isC c
    cases hf : l.findIdx? (fun c => !isC c) with
    | none =>
      rw [hf] at ha
      simp only [ob_some]
      have : l.all isC = true := by
        rw [List.all_eq_not_any_not, ← ha]; rfl
      rw [this]; rfl
    | some i =>
      rw [hf] at ha
      simp only [ob_some]
      have : l.all isC = false := by
        rw [List.all_eq_not_any_not, ← ha]; rfl
      rw [this]; simp
  · have e1 : decide ((i : Int) < (l.length : Int)) = true := decide_eq_true (by omega)
    simp only [slices_IndexFunc_SA4_A4_'l_i_areCards_1_L1, e1, br_true, i_areCards_1]
    rw [ckb_pos (inb_ok hi), toNat_cast, gl_eq hi, i_IsCard_eq hn, ob_some, ob_some, lt_eq, w64_succ (by omega)]
    cases isC l[i] <;> simp
  · have e1 : decide ((l.length : Int) < (l.length : Int)) = false := decide_eq_false (by omega)
    simp only [slices_IndexFunc_SA4_A4_'l_i_areCards_1_L1, e1, br_false]
end Go.Pl
namespace Go.Pl
open Go Go.Tv Go.RowKit
set_option linter.unusedVariables false
set_option linter.unusedSimpArgs false
def m1 (x y z : Int) (i : Nat) : Int := (x + ((i % 3 : Nat) : Int) * (y - x + 3) + ((i / 3 : Nat) : Int) * (z - x + 3)) % 3
def mc (x y z k : Int) : Int := Int.tmod (w64 (w64 (x + w64 (Int.tmod k 3 * w64 (w64 (y - x) + 3))) + w64 (w64 (Int.tdiv k 3) * w64 (w64 (z - x) + 3)))) 3
def ix (i k : Nat) : Nat := 3 * ((6 - i / 3 - k / 3) % 3) + (6 - i % 3 - k % 3) % 3
def cls (i k : Nat) : Nat := let di := (i % 3 + 3 - k % 3) % 3; let dj := (i / 3 + 3 - k / 3) % 3; if dj = 0 then 0 else if di = 0 then 1 else if di = dj then 3 else 2
def same (t : Nat) (x y z : Int) : Bool := if t = 0 then decide (x = y) else if t = 1 then decide (x = z) else if t = 2 then decide (y = z) else decide (t3 x y = z)
def ckM : Bool := (List.range 3).all fun x => (List.range 3).all fun y => (List.range 3).all fun z => (List.range 9).all fun i => decide (mc (x : Nat) (y : Nat) (z : Nat) (i : Nat) = m1 (x : Nat) (y : Nat) (z : Nat) i) && decide (m1 (x : Nat) (y : Nat) (z : Nat) 0 = (x : Nat)) && decide (m1 (x : Nat) (y : Nat) (z : Nat) 1 = (y : Nat)) && decide (m1 (x : Nat) (y : Nat) (z : Nat) 3 = (z : Nat))
def ckM2 : Bool := (List.range 3).all fun x => (List.range 3).all fun y => (List.range 3).all fun z => (List.range 9).all fun i => (List.range 9).all fun k => decide (t3 (m1 (x : Nat) (y : Nat) (z : Nat) i) (m1 (x : Nat) (y : Nat) (z : Nat) k) = m1 (x : Nat) (y : Nat) (z : Nat) (ix i k)) && (decide (i = k) || !decide (m1 (x : Nat) (y : Nat) (z : Nat) i = m1 (x : Nat) (y : Nat) (z : Nat) k) || same (cls i k) (x : Nat) (y : Nat) (z : Nat))
theorem ckM_ok : ckM = true := by decide +kernel
theorem ckM2_ok : ckM2 = true := by decide +kernel
theorem m1_chk (x y z i : Nat) (hx : x < 3) (hy : y < 3) (hz : z < 3) (hi : i < 9) : mc (x : Nat) (y : Nat) (z : Nat) (i : Nat) = m1 (x : Nat) (y : Nat) (z : Nat) i ∧ m1 (x : Nat) (y : Nat) (z : Nat) 0 = (x : Nat) ∧ m1 (x : Nat) (y : Nat) (z : Nat) 1 = (y : Nat) ∧ m1 (x : Nat) (y : Nat) (z : Nat) 3 = (z : Nat) := by
  have := List.all_eq_true.1 (List.all_eq_true.1 (List.all_eq_true.1 (List.all_eq_true.1 ckM_ok x (List.mem_range.2 hx)) y (List.mem_range.2 hy)) z (List.mem_range.2 hz)) i (List.mem_range.2 hi)
  simp only [Bool.and_eq_true, decide_eq_true_eq] at this
  exact ⟨this.1.1.1, this.1.1.2, this.1.2, this.2⟩
theorem m1_chk2 (x y z i k : Nat) (hx : x < 3) (hy : y < 3) (hz : z < 3) (hi : i < 9) (hk : k < 9) : t3 (m1 (x : Nat) (y : Nat) (z : Nat) i) (m1 (x : Nat) (y : Nat) (z : Nat) k) = m1 (x : Nat) (y : Nat) (z : Nat) (ix i k) ∧ (i ≠ k → m1 (x : Nat) (y : Nat) (z : Nat) i = m1 (x : Nat) (y : Nat) (z : Nat) k → same (cls i k) (x : Nat) (y : Nat) (z : Nat) = true) := by
  have := List.all_eq_true.1 (List.all_eq_true.1 (List.all_eq_true.1 (List.all_eq_true.1 (List.all_eq_true.1 ckM2_ok x (List.mem_range.2 hx)) y (List.mem_range.2 hy)) z (List.mem_range.2 hz)) i (List.mem_range.2 hi)) k (List.mem_range.2 hk)
  simp only [Bool.and_eq_true, Bool.or_eq_true, decide_eq_true_eq, Bool.not_eq_true', decide_eq_false_iff_not] at this
  exact ⟨this.1, fun h1 h2 => by
    rcases this.2 with (h | h) | h
    · exact absurd h h1
    · exact absurd h2 h
    · exact h⟩
theorem ix_lt : ∀ i : Nat, i < 9 → ∀ k : Nat, k < 9 → ix i k < 9 := by decide
structure R3 (x y z : Int) : Prop where
  x : 0 ≤ x ∧ x ≤ 2
  y : 0 ≤ y ∧ y ≤ 2
  z : 0 ≤ z ∧ z ≤ 2
theorem m1_fact {x y z : Int} (h : R3 x y z) {i : Nat} (hi : i < 9) : mc x y z (i : Int) = m1 x y z i ∧ m1 x y z 0 = x ∧ m1 x y z 1 = y ∧ m1 x y z 3 = z := by
  obtain ⟨h1, h2, h3⟩ := h
  obtain ⟨a, rfl⟩ : ∃ a : Nat, x = a := ⟨x.toNat, by omega⟩
  obtain ⟨b, rfl⟩ : ∃ a : Nat, y = a := ⟨y.toNat, by omega⟩
  obtain ⟨c, rfl⟩ : ∃ a : Nat, z = a := ⟨z.toNat, by omega⟩
  exact m1_chk a b c i (by omega) (by omega) (by omega) hi
theorem m1_fact2 {x y z : Int} (h : R3 x y z) {i k : Nat} (hi : i < 9) (hk : k < 9) : t3 (m1 x y z i) (m1 x y z k) = m1 x y z (ix i k) ∧ (i ≠ k → m1 x y z i = m1 x y z k → same (cls i k) x y z = true) := by
  obtain ⟨h1, h2, h3⟩ := h
  obtain ⟨a, rfl⟩ : ∃ a : Nat, x = a := ⟨x.toNat, by omega⟩
  obtain ⟨b, rfl⟩ : ∃ a : Nat, y = a := ⟨y.toNat, by omega⟩
  obtain ⟨c, rfl⟩ : ∃ a : Nat, z = a := ⟨z.toNat, by omega⟩
  exact m1_chk2 a b c i k (by omega) (by omega) (by omega) hi hk
def sq (a b c : Card) (i : Nat) : Card := ⟨m1 a.x0 b.x0 c.x0 i, m1 a.x1 b.x1 c.x1 i, m1 a.x2 b.x2 c.x2 i, m1 a.x3 b.x3 c.x3 i⟩
structure C3 (a b c : Card) : Prop where
  kA : isC a = true
  kB : isC b = true
  kC : isC c = true
theorem C3.r {a b c : Card} (h : C3 a b c) : R3 a.x0 b.x0 c.x0 ∧ R3 a.x1 b.x1 c.x1 ∧ R3 a.x2 b.x2 c.x2 ∧ R3 a.x3 b.x3 c.x3 := by
  have ha := isC_iff.1 h.kA
  have hb := isC_iff.1 h.kB
  have hc := isC_iff.1 h.kC
  exact ⟨⟨ha.1, hb.1, hc.1⟩, ⟨ha.2.1, hb.2.1, hc.2.1⟩, ⟨ha.2.2.1, hb.2.2.1, hc.2.2.1⟩, ⟨ha.2.2.2, hb.2.2.2, hc.2.2.2⟩⟩
theorem sq_isC (a b c : Card) (i : Nat) : isC (sq a b c i) = true := by
  rw [isC_iff]
  unfold sq m1
  simp only []
  omega
theorem sq_0 {a b c : Card} (h : C3 a b c) : sq a b c 0 = a ∧ sq a b c 1 = b ∧ sq a b c 3 = c := by
  obtain ⟨r0, r1, r2, r3⟩ := h.r
  obtain ⟨_, p0, q0, s0⟩ := m1_fact r0 (i := 0) (by omega)
  obtain ⟨_, p1, q1, s1⟩ := m1_fact r1 (i := 0) (by omega)
  obtain ⟨_, p2, q2, s2⟩ := m1_fact r2 (i := 0) (by omega)
  obtain ⟨_, p3, q3, s3⟩ := m1_fact r3 (i := 0) (by omega)
  unfold sq
  rw [p0, p1, p2, p3, q0, q1, q2, q3, s0, s1, s2, s3]
  exact ⟨rfl, rfl, rfl⟩
theorem sq_th {a b c : Card} (h : C3 a b c) {i k : Nat} (hi : i < 9) (hk : k < 9) : third (sq a b c i) (sq a b c k) = sq a b c (ix i k) := by
  obtain ⟨r0, r1, r2, r3⟩ := h.r
  unfold third sq
  simp only []
  rw [(m1_fact2 r0 hi hk).1, (m1_fact2 r1 hi hk).1, (m1_fact2 r2 hi hk).1, (m1_fact2 r3 hi hk).1]
structure Opn (a b c : Card) : Prop extends C3 a b c where
  ab : a ≠ b
  ac : a ≠ c
  bc : b ≠ c
  th : third a b ≠ c
theorem sq_inj {a b c : Card} (h : Opn a b c) {i k : Nat} (hi : i < 9) (hk : k < 9) (e : sq a b c i = sq a b c k) : i = k := by
  refine Classical.byContradiction fun hne => ?_
  obtain ⟨r0, r1, r2, r3⟩ := h.toC3.r
  unfold sq at e
  rw [V4.mk.injEq] at e
  have f0 := (m1_fact2 r0 hi hk).2 hne e.1
  have f1 := (m1_fact2 r1 hi hk).2 hne e.2.1
  have f2 := (m1_fact2 r2 hi hk).2 hne e.2.2.1
  have f3 := (m1_fact2 r3 hi hk).2 hne e.2.2.2
  have ext : ∀ x y : Card, x.x0 = y.x0 → x.x1 = y.x1 → x.x2 = y.x2 → x.x3 = y.x3 → x = y := fun x y a b c d => by cases x; cases y; simp only [] at a b c d; rw [a, b, c, d]
  generalize cls i k = t at f0 f1 f2 f3
  unfold same at f0 f1 f2 f3
  by_cases t0 : t = 0
  · rw [if_pos t0, decide_eq_true_iff] at f0 f1 f2 f3
    exact h.ab (ext _ _ f0 f1 f2 f3)
  · rw [if_neg t0] at f0 f1 f2 f3
    by_cases t1 : t = 1
    · rw [if_pos t1, decide_eq_true_iff] at f0 f1 f2 f3
      exact h.ac (ext _ _ f0 f1 f2 f3)
    · rw [if_neg t1] at f0 f1 f2 f3
      by_cases t2 : t = 2
      · rw [if_pos t2, decide_eq_true_iff] at f0 f1 f2 f3
        exact h.bc (ext _ _ f0 f1 f2 f3)
      · rw [if_neg t2, decide_eq_true_iff] at f0 f1 f2 f3
        exact h.th (ext _ _ f0 f1 f2 f3)
def sqL (a b c : Card) : List Card := (List.range 9).map (sq a b c)
theorem mem_sqL {a b c d : Card} : d ∈ sqL a b c ↔ ∃ i, i < 9 ∧ sq a b c i = d := by
  unfold sqL
  rw [List.mem_map]
  constructor
  · rintro ⟨i, hi, e⟩; exact ⟨i, List.mem_range.1 hi, e⟩
  · rintro ⟨i, hi, e⟩; exact ⟨i, List.mem_range.2 hi, e⟩
theorem sqL_C (a b c : Card) : AllC (sqL a b c) := fun d hd => by
  obtain ⟨i, _, rfl⟩ := mem_sqL.1 hd
  exact sq_isC a b c i
theorem sqL_nd {a b c : Card} (h : Opn a b c) : (sqL a b c).Nodup := by
  unfold sqL
  refine List.Pairwise.map (R := fun i k : Nat => i < 9 ∧ k < 9 ∧ i ≠ k) _ (fun i k ⟨hi, hk, hne⟩ e => hne (sq_inj h hi hk e)) ?_
  exact List.Pairwise.imp_of_mem (R := fun i k => i ≠ k) (fun {i k} hi hk hne => ⟨List.mem_range.1 hi, List.mem_range.1 hk, hne⟩) List.nodup_range
theorem sqL_len (a b c : Card) : (sqL a b c).length = 9 := by unfold sqL; rw [List.length_map, List.length_range]
def pln (a b c : Card) : List Card := sortd (sqL a b c)
theorem sq_sp {a b c : Card} (h : C3 a b c) : ∀ i, i < 9 → InSp [a, b, c] (sq a b c i) := by
  obtain ⟨e0, e1, e3⟩ := sq_0 h
  have s0 : InSp [a, b, c] (sq a b c 0) := .base (by rw [e0]; simp)
  have s1 : InSp [a, b, c] (sq a b c 1) := .base (by rw [e1]; simp)
  have s3 : InSp [a, b, c] (sq a b c 3) := .base (by rw [e3]; simp)
  have st : ∀ i k j, i < 9 → k < 9 → ix i k = j → InSp [a, b, c] (sq a b c i) → InSp [a, b, c] (sq a b c k) → InSp [a, b, c] (sq a b c j) := fun i k j hi hk e a1 a2 => by
    rw [← e, ← sq_th h hi hk]; exact .th a1 a2
  have s2 := st 0 1 2 (by omega) (by omega) rfl s0 s1
  have s6 := st 0 3 6 (by omega) (by omega) rfl s0 s3
  have s4 := st 2 6 4 (by omega) (by omega) rfl s2 s6
  have s5 := st 1 6 5 (by omega) (by omega) rfl s1 s6
  have s7 := st 2 3 7 (by omega) (by omega) rfl s2 s3
  have s8 := st 1 3 8 (by omega) (by omega) rfl s1 s3
  intro i hi
  rcases (show i = 0 ∨ i = 1 ∨ i = 2 ∨ i = 3 ∨ i = 4 ∨ i = 5 ∨ i = 6 ∨ i = 7 ∨ i = 8 by omega) with rfl | rfl | rfl | rfl | rfl | rfl | rfl | rfl | rfl <;> assumption
theorem pln_sp {a b c : Card} (h : C3 a b c) : SpanR [a, b, c] (pln a b c) := by
  obtain ⟨a1, a2, a3, a4⟩ := sortd_ok (sqL_C a b c)
  obtain ⟨e0, e1, e3⟩ := sq_0 h
  refine ⟨a2, a1, fun d => ?_⟩
  unfold pln
  rw [a3, mem_sqL]
  constructor
  · rintro ⟨i, hi, rfl⟩; exact sq_sp h i hi
  · intro hi
    induction hi with
    | base hm =>
      simp only [List.mem_cons, List.not_mem_nil, or_false] at hm
      rcases hm with rfl | rfl | rfl
      · exact ⟨0, by omega, e0⟩
      · exact ⟨1, by omega, e1⟩
      · exact ⟨3, by omega, e3⟩
    | th _ _ ia ib =>
      obtain ⟨i, hi, rfl⟩ := ia
      obtain ⟨k, hk, rfl⟩ := ib
      exact ⟨ix i k, ix_lt i hi k hk, (sq_th h hi hk).symm⟩
theorem pln_mem {a b c d : Card} : d ∈ pln a b c ↔ d ∈ sqL a b c := (sortd_ok (sqL_C a b c)).2.2.1 d
theorem pln_perm {a b c : Card} (h : Opn a b c) : (pln a b c).Perm (sqL a b c) := by
  have nd1 := (pln_sp h.toC3).ss.nodup
  refine (List.perm_ext_iff_of_nodup nd1 (sqL_nd h)).2 fun d => pln_mem
theorem pln_len {a b c : Card} (h : Opn a b c) : (pln a b c).length = 9 := by rw [(pln_perm h).length_eq, sqL_len]
theorem insp_mono {l l' : List Card} (h : ∀ x ∈ l, InSp l' x) {c : Card} (hc : InSp l c) : InSp l' c := by
  induction hc with
  | base hm => exact h _ hm
  | th _ _ ia ib => exact .th ia ib
theorem pln_of {a b c x y z : Card} (h : Opn a b c) (hx : x ∈ pln a b c) (hy : y ∈ pln a b c) (hz : z ∈ pln a b c) (g : Opn x y z) : pln x y z = pln a b c := by
  have S := pln_sp h.toC3
  have S' := pln_sp g.toC3
  have hsub : ∀ d ∈ pln x y z, d ∈ pln a b c := fun d hd => by
    refine (S.mem d).2 (insp_mono (fun u hu => ?_) ((S'.mem d).1 hd))
    simp only [List.mem_cons, List.not_mem_nil, or_false] at hu
    rcases hu with rfl | rfl | rfl
    · exact (S.mem _).1 hx
    · exact (S.mem _).1 hy
    · exact (S.mem _).1 hz
  refine ss_uniq S'.ss S.ss fun d => ⟨hsub d, fun hd => ?_⟩
  refine Classical.byContradiction fun hno => ?_
  have := len_sub' (M := d :: pln x y z) (L := pln a b c) (List.nodup_cons.2 ⟨hno, S'.ss.nodup⟩) fun u hu => by
    rcases List.mem_cons.1 hu with rfl | hu
    · exact hd
    · exact hsub u hu
  rw [List.length_cons, pln_len h, pln_len g] at this
  omega
theorem pln_abc {a b c : Card} (h : C3 a b c) : a ∈ pln a b c ∧ b ∈ pln a b c ∧ c ∈ pln a b c := by
  have S := pln_sp h
  exact ⟨(S.mem _).2 (.base (by simp)), (S.mem _).2 (.base (by simp)), (S.mem _).2 (.base (by simp))⟩
abbrev T3c := Card × Card × Card
def nl (t : T3c) : Bool := !decide (third t.1 t.2.1 = t.2.2)
def subB (h : List Card) (t : T3c) : Bool := (sqL t.1 t.2.1 t.2.2).all fun d => h.contains d
def Gd (h : List Card) (t : T3c) : Bool := nl t && subB h t
def plT (t : T3c) : List Card := pln t.1 t.2.1 t.2.2
def gz0 (P : List Card) (i : Nat) : Card := gl (⟨0, 0, 0, 0⟩ : Card) P i
def fstT (P : List Card) : T3c := (gz0 P 0, gz0 P 1, gz0 P (if gz0 P 2 = third (gz0 P 0) (gz0 P 1) then 3 else 2))
def Rs (h : List Card) (t : T3c) : Bool := Gd h t && decide (fstT (plT t) = t)
theorem opn_of {h : List Card} (hc : AllC h) (hnd : h.Nodup) {t : T3c} (ht : t ∈ trips h) (hn : nl t = true) : Opn t.1 t.2.1 t.2.2 := by
  obtain ⟨i1, i2, i3⟩ := trips_in ht
  obtain ⟨d1, d2, d3⟩ := trips_nd hnd ht
  unfold nl at hn
  exact { kA := hc _ i1, kB := hc _ i2, kC := hc _ i3, ab := d1, ac := d2, bc := d3, th := by simpa using hn }
theorem subB_iff {h : List Card} {t : T3c} : subB h t = true ↔ ∀ d ∈ plT t, d ∈ h := by
  unfold subB plT
  rw [List.all_eq_true]
  constructor
  · intro a d hd; exact List.contains_iff_mem.1 (a d (pln_mem.1 hd))
  · intro a d hd; exact List.contains_iff_mem.2 (a d (pln_mem.2 hd))
theorem filter_pln {h : List Card} (hs : SS h) {P : List Card} (hP : SS P) (hsub : ∀ d ∈ P, d ∈ h) : h.filter (fun d => P.contains d) = P := by
  refine ss_uniq (List.Pairwise.sublist List.filter_sublist hs) hP fun d => ?_
  rw [List.mem_filter, List.contains_iff_mem]
  exact ⟨fun h => h.2, fun h => ⟨hsub d h, h⟩⟩
theorem nl72 : ∀ {a b c : Card}, Opn a b c → (trips (pln a b c)).countP nl = 72 := by
  intro a b c h
  have hC := (pln_sp h.toC3).c
  have e1 : (trips (pln a b c)).countP nl = (trips (sqL a b c)).countP nl := by
    refine trips_perm (pln_perm h) (fun x hx y hy z hz => ?_) (fun x hx y hy z hz => ?_)
    · show (!decide (third x y = z)) = !decide (third x z = y)
      congr 2; apply propext
      constructor
      · rintro rfl; exact th_back (hC x hx) (hC y hy)
      · rintro rfl; exact th_back (hC x hx) (hC z hz)
    · show (!decide (third x y = z)) = !decide (third y x = z)
      rw [th_comm]
  have e2 : (trips (List.range 9)).countP (fun t => !decide (ix t.1 t.2.1 = t.2.2)) = 72 := by decide +kernel
  rw [e1, ← e2]
  unfold sqL
  rw [trips_map, List.countP_map]
  refine List.countP_congr fun t ht => ?_
  obtain ⟨i1, i2, i3⟩ := trips_in ht
  have i1 := List.mem_range.1 i1
  have i2 := List.mem_range.1 i2
  have i3 := List.mem_range.1 i3
  show (!decide (third (sq a b c t.1) (sq a b c t.2.1) = sq a b c t.2.2)) = true ↔ _
  rw [sq_th h.toC3 i1 i2]
  have : (sq a b c (ix t.1 t.2.1) = sq a b c t.2.2) ↔ ix t.1 t.2.1 = t.2.2 := ⟨fun e => sq_inj h (ix_lt _ i1 _ i2) i3 e, fun e => by rw [e]⟩
  simp only [Bool.not_eq_true', decide_eq_false_iff_not, this]
theorem fst_in {a b c : Card} (h : Opn a b c) : (fstT (pln a b c)).1 ∈ pln a b c ∧ (fstT (pln a b c)).2.1 ∈ pln a b c ∧ (fstT (pln a b c)).2.2 ∈ pln a b c ∧ nl (fstT (pln a b c)) = true := by
  have hl := pln_len h
  have hnd := (pln_sp h.toC3).ss.nodup
  generalize pln a b c = P at hl hnd
  have g : ∀ i, i < 9 → gz0 P i ∈ P := fun i hi => by unfold gz0; rw [gl_eq (by omega)]; exact List.getElem_mem _
  have ne : gz0 P 2 ≠ gz0 P 3 := fun e => by
    unfold gz0 at e
    rw [gl_eq (show 2 < P.length by omega), gl_eq (show 3 < P.length by omega)] at e
    exact absurd e ((List.pairwise_iff_getElem.1 hnd) 2 3 (by omega) (by omega) (by omega))
  refine ⟨g 0 (by omega), g 1 (by omega), ?_, ?_⟩
  · unfold fstT
    split
    · exact g 3 (by omega)
    · exact g 2 (by omega)
  · unfold nl fstT
    simp only []
    rw [Bool.not_eq_true', decide_eq_false_iff_not]
    split
    · rename_i e; rw [← e]; exact ne
    · rename_i e; exact fun h => e h.symm
theorem fst_open {a b c : Card} (h : Opn a b c) : Opn (fstT (pln a b c)).1 (fstT (pln a b c)).2.1 (fstT (pln a b c)).2.2 := by
  obtain ⟨i1, i2, i3, hn⟩ := fst_in h
  have hC := (pln_sp h.toC3).c
  have hl := pln_len h
  have hnd := (pln_sp h.toC3).ss.nodup
  have ne : ∀ i k, i < k → k < 9 → gz0 (pln a b c) i ≠ gz0 (pln a b c) k := fun i k hik hk e => by
    unfold gz0 at e
    rw [gl_eq (show i < (pln a b c).length by omega), gl_eq (show k < (pln a b c).length by omega)] at e
    exact absurd e ((List.pairwise_iff_getElem.1 hnd) i k (by omega) (by omega) (by omega))
  refine { kA := hC _ i1, kB := hC _ i2, kC := hC _ i3, ab := ne 0 1 (by omega) (by omega), ac := ?_, bc := ?_, th := by unfold nl at hn; simpa using hn }
  · unfold fstT
    simp only []
    split <;> exact ne _ _ (by omega) (by omega)
  · unfold fstT
    simp only []
    split <;> exact ne _ _ (by omega) (by omega)
theorem planes_72 {h : List Card} (hs : SS h) (hc : AllC h) : (trips h).countP (Gd h) = 72 * (trips h).countP (Rs h) := by
  have hnd := hs.nodup
  refine dbl (trips h) (Gd h) (Rs h) plT 72 (fun T hT hG => ?_) (fun F hF hR => ?_)
  · unfold Gd at hG
    rw [Bool.and_eq_true] at hG
    have O := opn_of hc hnd hT hG.1
    have hsub := subB_iff.1 hG.2
    have S := pln_sp O.toC3
    have e : (trips h).countP (fun F => Rs h F && decide (plT F = plT T)) = (trips h).countP (fun F => (plT T).contains F.1 && (plT T).contains F.2.1 && (plT T).contains F.2.2 && decide (F = fstT (plT T))) := by
      refine List.countP_congr fun F hF => ?_
      constructor
      · intro hx
        rw [Bool.and_eq_true, decide_eq_true_iff] at hx
        obtain ⟨hR, he⟩ := hx
        unfold Rs at hR
        rw [Bool.and_eq_true, decide_eq_true_iff, he] at hR
        obtain ⟨i1, i2, i3, _⟩ := fst_in O
        have i1 : (fstT (plT T)).1 ∈ plT T := i1
        have i2 : (fstT (plT T)).2.1 ∈ plT T := i2
        have i3 : (fstT (plT T)).2.2 ∈ plT T := i3
        rw [hR.2] at i1 i2 i3
        rw [List.contains_iff_mem.2 i1, List.contains_iff_mem.2 i2, List.contains_iff_mem.2 i3, hR.2]
        simp
      · intro hx
        simp only [Bool.and_eq_true, decide_eq_true_iff] at hx
        have e := hx.2
        obtain ⟨i1, i2, i3, hn⟩ := fst_in O
        have O' := fst_open O
        have e' : F = fstT (pln T.1 T.2.1 T.2.2) := e
        rw [← e'] at i1 i2 i3 hn O'
        have hp : plT F = plT T := pln_of O i1 i2 i3 O'
        have hR : Rs h F = true := by
          unfold Rs Gd
          rw [Bool.and_eq_true, Bool.and_eq_true, decide_eq_true_iff]
          exact ⟨⟨hn, subB_iff.2 fun d hd => by rw [hp] at hd; exact hsub d hd⟩, by rw [hp]; exact e.symm⟩
        rw [hR, hp]; simp
    have fl : h.filter (plT T).contains = plT T := filter_pln hs S.ss hsub
    rw [e, trips_filter, fl]
    have hl : (plT T).length = 9 := pln_len O
    have hPn : (plT T).Nodup := S.ss.nodup
    generalize plT T = P at hl hPn
    match P, hl, hPn with
    | x :: y :: l, hl, hPn =>
      have hz : gz0 (x :: y :: l) (if gz0 (x :: y :: l) 2 = third (gz0 (x :: y :: l) 0) (gz0 (x :: y :: l) 1) then 3 else 2) ∈ l := by
        simp only [List.length_cons] at hl
        split
        · have : gz0 (x :: y :: l) 3 = l[1] := by unfold gz0; rw [gl_eq (by simp; omega)]; rfl
          rw [this]; exact List.getElem_mem _
        · have : gz0 (x :: y :: l) 2 = l[0] := by unfold gz0; rw [gl_eq (by simp; omega)]; rfl
          rw [this]; exact List.getElem_mem _
      exact count_first hPn hz
  · unfold Rs at hR
    rw [Bool.and_eq_true] at hR
    have hG := hR.1
    unfold Gd at hG
    rw [Bool.and_eq_true] at hG
    have O := opn_of hc hnd hF hG.1
    have hsub := subB_iff.1 hG.2
    have S := pln_sp O.toC3
    have e : (trips h).countP (fun T => Gd h T && decide (plT F = plT T)) = (trips h).countP (fun T => (plT F).contains T.1 && (plT F).contains T.2.1 && (plT F).contains T.2.2 && nl T) := by
      refine List.countP_congr fun T hT => ?_
      constructor
      · intro hx
        rw [Bool.and_eq_true, decide_eq_true_iff] at hx
        obtain ⟨hT2, he⟩ := hx
        unfold Gd at hT2
        rw [Bool.and_eq_true] at hT2
        have O' := opn_of hc hnd hT hT2.1
        obtain ⟨i1, i2, i3⟩ := pln_abc O'.toC3
        have i1 : T.1 ∈ plT T := i1
        have i2 : T.2.1 ∈ plT T := i2
        have i3 : T.2.2 ∈ plT T := i3
        rw [← he] at i1 i2 i3
        rw [List.contains_iff_mem.2 i1, List.contains_iff_mem.2 i2, List.contains_iff_mem.2 i3, hT2.1]; rfl
      · intro hx
        simp only [Bool.and_eq_true] at hx
        obtain ⟨⟨⟨i1, i2⟩, i3⟩, hn⟩ := hx
        have O' := opn_of hc hnd hT hn
        have hp : plT T = plT F := pln_of O (List.contains_iff_mem.1 i1) (List.contains_iff_mem.1 i2) (List.contains_iff_mem.1 i3) O'
        have : Gd h T = true := by
          unfold Gd
          rw [hn, Bool.true_and]
          exact subB_iff.2 fun d hd => by rw [hp] at hd; exact hsub d hd
        rw [this, hp]; simp
    have fl : h.filter (plT F).contains = plT F := filter_pln hs S.ss hsub
    rw [e, trips_filter, fl]
    exact nl72 O
theorem sp_perm {a b c x y z : Card} (h : C3 a b c) (g : C3 x y z) (e1 : ∀ u ∈ [a, b, c], u ∈ [x, y, z]) (e2 : ∀ u ∈ [x, y, z], u ∈ [a, b, c]) : pln a b c = pln x y z := by
  have S := pln_sp h
  have S' := pln_sp g
  exact ss_uniq S.ss S'.ss fun d => by
    rw [S.mem, S'.mem]
    exact ⟨insp_mono fun u hu => .base (e1 u hu), insp_mono fun u hu => .base (e2 u hu)⟩
theorem Gd_rev {h : List Card} (hc : AllC h) : (trips h.reverse).countP (Gd h) = (trips h).countP (Gd h) := by
  have hm : ∀ x ∈ h.reverse, isC x = true := fun x hx => hc x (List.mem_reverse.1 hx)
  have sb : ∀ t u : T3c, plT t = plT u → subB h t = subB h u := fun t u e => by
    rw [Bool.eq_iff_iff, subB_iff, subB_iff, e]
  refine trips_perm (List.reverse_perm h) (fun x hx y hy z hz => ?_) (fun x hx y hy z hz => ?_)
  · have hp : plT (x, y, z) = plT (x, z, y) := sp_perm ⟨hm x hx, hm y hy, hm z hz⟩ ⟨hm x hx, hm z hz, hm y hy⟩ (by simp) (by simp)
    have : nl (x, y, z) = nl (x, z, y) := by
      unfold nl
      simp only []
      congr 2; apply propext
      constructor
      · rintro rfl; exact th_back (hm x hx) (hm y hy)
      · rintro rfl; exact th_back (hm x hx) (hm z hz)
    unfold Gd
    rw [this, sb _ _ hp]
  · have hp : plT (x, y, z) = plT (y, x, z) := sp_perm ⟨hm x hx, hm y hy, hm z hz⟩ ⟨hm y hy, hm x hx, hm z hz⟩ (by simp) (by simp)
    have : nl (x, y, z) = nl (y, x, z) := by
      unfold nl
      simp only []
      rw [th_comm]
    unfold Gd
    rw [this, sb _ _ hp]
end Go.Pl
namespace Go.Pl
open Go Go.Tv Go.RowKit
end Go.Pl
