/- Plain laws: LSo5, LSo6, LSpn, LCap. -/
import Derived.Test.YtfoielhhflbbfaaG5
import Derived.Test.YtfoielhhflbbfaaG3
import Derived.Test.YtfoielhhflbbfaaG0
import Derived.KernelRfl
set_option linter.unusedVariables false
set_option linter.unusedSimpArgs false
namespace Go.Pl
open Go Go.Tv Go.RowKit
set_option linter.unusedVariables false
def Low (d : List Card) (a b : Nat) : Prop := ∀ p, p < a → ∀ q, a ≤ q → q < b → nm d p ≤ nm d q
theorem Low.sw {a b : Nat} {d d' : List Card} (h : Low d a b) (hs : Sw a b d d') : Low d' a b := fun p hp q q1 q2 => by
  rw [hs.out (.inl hp)]
  exact hs.all (P := fun x => nm d p ≤ x) (h p hp) q q1 q2
def Done (a0 b0 a b : Nat) (d : List Card) : Prop := (∀ p, a0 ≤ p → p < a → ∀ q, p < q → q < b0 → nm d p ≤ nm d q) ∧ ∀ q, b ≤ q → q < b0 → ∀ p, a0 ≤ p → p < q → nm d p ≤ nm d q
theorem Done.sw {a0 b0 a b : Nat} {d d' : List Card} (h : Done a0 b0 a b d) (hs : Sw a b d d') (ha : a0 ≤ a) (hb : b ≤ b0) : Done a0 b0 a b d' := by
  obtain ⟨h1, h2⟩ := h
  refine ⟨fun p p1 p2 q q1 q2 => ?_, fun q q1 q2 p p1 p2 => ?_⟩
  · rw [hs.out (.inl p2)]
    by_cases hq : a ≤ q ∧ q < b
    · exact hs.all (P := fun x => nm d p ≤ x) (fun k k1 k2 => h1 p p1 p2 k (by omega) (by omega)) q hq.1 hq.2
    · rw [hs.out (by omega)]; exact h1 p p1 p2 q q1 q2
  · rw [hs.out (k := q) (.inr q1)]
    by_cases hq : a ≤ p ∧ p < b
    · exact hs.all (P := fun x => x ≤ nm d q) (fun k k1 k2 => h2 q q1 q2 k (by omega) (by omega)) p hq.1 hq.2
    · rw [hs.out (k := p) (by omega)]; exact h2 q q1 q2 p p1 p2
theorem Done.fin {a0 b0 a b : Nat} {d : List Card} (h : Done a0 b0 a b d) (hs : Srt d a b) : Srt d a0 b0 := fun p q p1 p2 p3 => by
  by_cases hp : p < a
  · exact h.1 p p1 hp q p2 p3
  · by_cases hq : b ≤ q
    · exact h.2 q hq p3 p p1 p2
    · exact hs p q (by omega) p2 (by omega)
structure QI (a0 b0 a b : Nat) (d0 d : List Card) : Prop where
  ha : a0 ≤ a
  ab : a ≤ b
  hb : b ≤ b0
  sw : Sw a0 b0 d0 d
  low : Low d a b
  dn : Done a0 b0 a b d
theorem QI.sws {a0 b0 a b : Nat} {d0 d d' : List Card} (I : QI a0 b0 a b d0 d) (hs : Sw a b d d') (hl : b0 ≤ d0.length) : QI a0 b0 a b d0 d' :=
  ⟨I.ha, I.ab, I.hb, I.sw.trans (hs.mono I.ha I.hb (by rw [I.sw.len]; exact hl)), I.low.sw hs, I.dn.sw hs I.ha I.hb⟩
theorem QI.out {a0 b0 a b : Nat} {d0 d : List Card} (I : QI a0 b0 a b d0 d) {o : Opt (List Card)} (h : Post a b d o) (hl : b0 ≤ d0.length) : Post a0 b0 d0 o := by
  obtain ⟨e, rfl, h1, h2⟩ := h
  have I2 := I.sws h1 hl
  exact ⟨e, rfl, I2.sw, I2.dn.fin h2⟩
end Go.Pl
namespace Go.Pl
open Go Go.Tv Go.RowKit
set_option linter.unusedVariables false
def SS (l : List Card) : Prop := l.Pairwise fun a b => num a < num b
end Go.Pl
namespace Go.Pl
open Go Go.Tv Go.RowKit
set_option linter.unusedVariables false
theorem len_sub' {α : Type} [DecidableEq α] : ∀ {M L : List α}, M.Nodup → (∀ x ∈ M, x ∈ L) → M.length ≤ L.length
  | [], _, _, _ => Nat.zero_le _
  | a :: M, L, h, hs => by
    obtain ⟨h1, h2⟩ := List.nodup_cons.1 h
    have ha := hs a List.mem_cons_self
    have := len_sub' (M := M) (L := L.erase a) h2 fun x hx => (List.mem_erase_of_ne (fun e => h1 (by rw [← e]; exact hx))).2 (hs x (List.mem_cons_of_mem _ hx))
    rw [List.length_erase_of_mem ha] at this
    have := List.length_pos_of_mem ha
    rw [List.length_cons]; omega
theorem SS.nodup {l : List Card} (h : SS l) : l.Nodup := List.Pairwise.imp (fun hab heq => by rw [heq] at hab; exact absurd hab (Int.lt_irrefl _)) h
theorem nodup_len81 {l : List Card} (h : l.Nodup) (hc : AllC l) : l.length ≤ 81 := by
  have := len_sub' (L := cards81) h fun x hx => mem_cards81 (hc x hx)
  have e : cards81.length = 81 := by unfold cards81; simp
  omega
theorem SS.handL {l : List Card} (h : SS l) (hc : AllC l) : HandL l := ⟨hc, h.nodup, by have := nodup_len81 h.nodup hc; omega⟩
inductive InSp (l : List Card) : Card → Prop
  | base {c : Card} (h : c ∈ l) : InSp l c
  | th {a b : Card} (ha : InSp l a) (hb : InSp l b) : InSp l (third a b)
theorem InSp.isC {l : List Card} (hl : AllC l) {c : Card} (h : InSp l c) : isC c = true := by
  induction h with
  | base h => exact hl _ h
  | th _ _ ha hb => exact third_isC ha hb
end Go.Pl
namespace Go.Cap
structure Pt where (x0 x1 x2 x3 : Int)
  deriving DecidableEq
def ptN (k : Nat) : Pt := ⟨((k / 27 : Nat) : Int), ((k / 9 % 3 : Nat) : Int), ((k / 3 % 3 : Nat) : Int), ((k % 3 : Nat) : Int)⟩
def all81 : List Pt := (List.range 81).map ptN
def isP (c : Pt) : Prop := (0 ≤ c.x0 ∧ c.x0 ≤ 2) ∧ (0 ≤ c.x1 ∧ c.x1 ≤ 2) ∧ (0 ≤ c.x2 ∧ c.x2 ≤ 2) ∧ 0 ≤ c.x3 ∧ c.x3 ≤ 2
theorem mem_all81 {c : Pt} (h : isP c) : c ∈ all81 := by
  obtain ⟨c0, c1, c2, c3⟩ := c
  unfold isP at h
  simp only at h
  refine List.mem_map.2 ⟨(27 * c0 + 9 * c1 + 3 * c2 + c3).toNat, by rw [List.mem_range]; omega, ?_⟩
  unfold ptN
  congr 1 <;> omega
def pz : Pt := ⟨0, 0, 0, 0⟩
def dot (w c : Pt) : Int := (w.x0 * c.x0 + w.x1 * c.x1 + w.x2 * c.x2 + w.x3 * c.x3) % 3
def df (a b : Pt) : Pt := ⟨(b.x0 - a.x0) % 3, (b.x1 - a.x1) % 3, (b.x2 - a.x2) % 3, (b.x3 - a.x3) % 3⟩
def neg (d : Pt) : Pt := ⟨(0 - d.x0) % 3, (0 - d.x1) % 3, (0 - d.x2) % 3, (0 - d.x3) % 3⟩
def th (a b : Pt) : Pt := ⟨(6 - a.x0 - b.x0) % 3, (6 - a.x1 - b.x1) % 3, (6 - a.x2 - b.x2) % 3, (6 - a.x3 - b.x3) % 3⟩
theorem df_isP (a b : Pt) : isP (df a b) := by unfold isP df; simp only []; omega
theorem mulmod (w x : Int) : ∃ q : Int, w * (x % 3) = w * x - 3 * q := by
  refine ⟨w * (x / 3), ?_⟩
  have h : x % 3 = x - 3 * (x / 3) := by omega
  rw [h, Int.mul_sub, ← Int.mul_assoc, ← Int.mul_assoc, Int.mul_comm w 3]
theorem dot_df (w a b : Pt) : dot w (df a b) = (dot w b - dot w a) % 3 := by
  unfold dot df
  simp only []
  obtain ⟨q0, h0⟩ := mulmod w.x0 (b.x0 - a.x0)
  obtain ⟨q1, h1⟩ := mulmod w.x1 (b.x1 - a.x1)
  obtain ⟨q2, h2⟩ := mulmod w.x2 (b.x2 - a.x2)
  obtain ⟨q3, h3⟩ := mulmod w.x3 (b.x3 - a.x3)
  rw [h0, h1, h2, h3, Int.mul_sub, Int.mul_sub, Int.mul_sub, Int.mul_sub]
  omega
theorem dot_bd (w a : Pt) : dot w a = 0 ∨ dot w a = 1 ∨ dot w a = 2 := by unfold dot; omega
theorem dot_eq_iff (w a b : Pt) : dot w a = dot w b ↔ dot w (df a b) = 0 := by
  rw [dot_df]
  have := dot_bd w a; have := dot_bd w b
  omega
theorem df_ne {a b : Pt} (ha : isP a) (hb : isP b) (h : a ≠ b) : df a b ≠ pz := by
  intro e
  apply h
  cases a; cases b
  unfold isP at ha hb
  unfold df pz at e
  simp only [Pt.mk.injEq] at ha hb e ⊢
  omega
theorem df_inj {a b c : Pt} (hb : isP b) (hc : isP c) (h : df a b = df a c) : b = c := by
  cases a; cases b; cases c
  unfold isP at hb hc
  unfold df at h
  simp only [Pt.mk.injEq] at hb hc h ⊢
  omega
theorem df_neg {a b c : Pt} (ha : isP a) (hb : isP b) (hc : isP c) (h : df a c = neg (df a b)) : th a b = c := by
  cases a; cases b; cases c
  unfold isP at ha hb hc
  unfold df neg at h
  unfold th
  simp only [Pt.mk.injEq] at ha hb hc h ⊢
  omega
def first1 (w : Pt) : Bool := if w.x0 = 0 then (if w.x1 = 0 then (if w.x2 = 0 then decide (w.x3 = 1) else decide (w.x2 = 1)) else decide (w.x1 = 1)) else decide (w.x0 = 1)
def W40 : List Pt := all81.filter first1
def chk2 : Bool := all81.all fun d => decide (d = pz) || Nat.beq (W40.countP fun w => decide (dot w d = 0)) 13
def chk3 : Bool := all81.all fun d => decide (d = pz) || all81.all fun e => decide (e = pz) || decide (e = d) || decide (e = neg d) || Nat.beq ((W40.filter fun w => decide (dot w d = 0)).countP fun w => decide (dot w e = 0)) 4
theorem chk2_ok : chk2 = true := by kernel_rfl
theorem chk3_ok : chk3 = true := by kernel_rfl
theorem W40_len : W40.length = 40 := by kernel_rfl
end Go.Cap
