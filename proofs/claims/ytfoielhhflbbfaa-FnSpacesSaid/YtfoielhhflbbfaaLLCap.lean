/- Plain laws: LCap. -/
import Derived.KernelRfl
set_option linter.unusedVariables false
set_option linter.unusedSimpArgs false
namespace Go.Cap
structure Pt where (x0 x1 x2 x3 : Int)
  deriving DecidableEq
def ptN (k : Nat) : Pt := ⟨((k / 27 : Nat) : Int), ((k / 9 % 3 : Nat) : Int), ((k / 3 % 3 : Nat) : Int), ((k % 3 : Nat) : Int)⟩
def all81 : List Pt := (List.range 81).map ptN
def isP (c : Pt) : Prop := (0 ≤ c.x0 ∧ c.x0 ≤ 2) ∧ (0 ≤ c.x1 ∧ c.x1 ≤ 2) ∧ (0 ≤ c.x2 ∧ c.x2 ≤ 2) ∧ 0 ≤ c.x3 ∧ c.x3 ≤ 2
theorem mem_all81 {c : Pt} (h : isP c) : c ∈ all81 := by
  obtain ⟨c0, c1, c2, c3⟩ := c
  unfold isP at h
  simp only at h
  refine List.mem_map.2 ⟨(27 * c0 + 9 * c1 + 3 * c2 + c3).toNat, by rw [List.mem_range]; omega, ?_⟩
  unfold ptN
  congr 1 <;> omega
def pz : Pt := ⟨0, 0, 0, 0⟩
def dot (w c : Pt) : Int := (w.x0 * c.x0 + w.x1 * c.x1 + w.x2 * c.x2 + w.x3 * c.x3) % 3
def df (a b : Pt) : Pt := ⟨(b.x0 - a.x0) % 3, (b.x1 - a.x1) % 3, (b.x2 - a.x2) % 3, (b.x3 - a.x3) % 3⟩
def neg (d : Pt) : Pt := ⟨(0 - d.x0) % 3, (0 - d.x1) % 3, (0 - d.x2) % 3, (0 - d.x3) % 3⟩
def th (a b : Pt) : Pt := ⟨(6 - a.x0 - b.x0) % 3, (6 - a.x1 - b.x1) % 3, (6 - a.x2 - b.x2) % 3, (6 - a.x3 - b.x3) % 3⟩
theorem df_isP (a b : Pt) : isP (df a b) := by unfold isP df; simp only []; omega
theorem mulmod (w x : Int) : ∃ q : Int, w * (x % 3) = w * x - 3 * q := by
  refine ⟨w * (x / 3), ?_⟩
  have h : x % 3 = x - 3 * (x / 3) := by omega
  rw [h, Int.mul_sub, ← Int.mul_assoc, ← Int.mul_assoc, Int.mul_comm w 3]
theorem dot_df (w a b : Pt) : dot w (df a b) = (dot w b - dot w a) % 3 := by
  unfold dot df
  simp only []
  obtain ⟨q0, h0⟩ := mulmod w.x0 (b.x0 - a.x0)
  obtain ⟨q1, h1⟩ := mulmod w.x1 (b.x1 - a.x1)
  obtain ⟨q2, h2⟩ := mulmod w.x2 (b.x2 - a.x2)
  obtain ⟨q3, h3⟩ := mulmod w.x3 (b.x3 - a.x3)
  rw [h0, h1, h2, h3, Int.mul_sub, Int.mul_sub, Int.mul_sub, Int.mul_sub]
  omega
theorem dot_bd (w a : Pt) : dot w a = 0 ∨ dot w a = 1 ∨ dot w a = 2 := by unfold dot; omega
theorem dot_eq_iff (w a b : Pt) : dot w a = dot w b ↔ dot w (df a b) = 0 := by
  rw [dot_df]
  have := dot_bd w a; have := dot_bd w b
  omega
theorem df_ne {a b : Pt} (ha : isP a) (hb : isP b) (h : a ≠ b) : df a b ≠ pz := by
  intro e
  apply h
  cases a; cases b
  unfold isP at ha hb
  unfold df pz at e
  simp only [Pt.mk.injEq] at ha hb e ⊢
  omega
theorem df_inj {a b c : Pt} (hb : isP b) (hc : isP c) (h : df a b = df a c) : b = c := by
  cases a; cases b; cases c
  unfold isP at hb hc
  unfold df at h
  simp only [Pt.mk.injEq] at hb hc h ⊢
  omega
theorem df_neg {a b c : Pt} (ha : isP a) (hb : isP b) (hc : isP c) (h : df a c = neg (df a b)) : th a b = c := by
  cases a; cases b; cases c
  unfold isP at ha hb hc
  unfold df neg at h
  unfold th
  simp only [Pt.mk.injEq] at ha hb hc h ⊢
  omega
def first1 (w : Pt) : Bool := if w.x0 = 0 then (if w.x1 = 0 then (if w.x2 = 0 then decide (w.x3 = 1) else decide (w.x2 = 1)) else decide (w.x1 = 1)) else decide (w.x0 = 1)
def W40 : List Pt := all81.filter first1
def chk2 : Bool := all81.all fun d => decide (d = pz) || Nat.beq (W40.countP fun w => decide (dot w d = 0)) 13
def chk3 : Bool := all81.all fun d => decide (d = pz) || all81.all fun e => decide (e = pz) || decide (e = d) || decide (e = neg d) || Nat.beq ((W40.filter fun w => decide (dot w d = 0)).countP fun w => decide (dot w e = 0)) 4
theorem chk2_ok : chk2 = true := by kernel_rfl
theorem chk3_ok : chk3 = true := by kernel_rfl
theorem W40_len : W40.length = 40 := by kernel_rfl
end Go.Cap
