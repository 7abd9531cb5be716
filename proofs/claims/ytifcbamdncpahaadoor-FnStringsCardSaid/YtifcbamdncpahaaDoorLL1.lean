/- Plain laws: L1. -/
import Derived.Test.YtifcbamdncpahaaDoorLL2
import Derived.Lib.IndexLaws
set_option linter.unusedVariables false
set_option linter.unusedSimpArgs false
namespace Go.Pl
open Go Go.Tv Go.RowKit
def bl (s : ByteArray) : List UInt8 := s.data.toList
theorem bl_len (s : ByteArray) : (bl s).length = s.size := by simp [bl]
theorem sb_eq {s : ByteArray} {k : Nat} (h : k < (bl s).length) : sb s k = ((bl s)[k].toNat : Int) := by
  unfold sb
  have hk : k < s.size := by rw [← bl_len]; exact h
  rw [show s[k]? = some s[k] from getElem?_pos s k hk]
  rfl
theorem fx_bytes {σ ρ : Type} {B : (σ → Opt ρ) → σ → Opt ρ} (s : ByteArray) (st : Nat → σ) (p : Int → Bool) (out : Nat → Opt ρ) (fin : Opt ρ)
    (step : ∀ self i, i < s.size → B self (st i) = if p (sb s i) = true then out i else self (st (i + 1))) (stop : ∀ self, B self (st s.size) = fin) (k : Nat) (hk : s.size < k) :
    fx B k (st 0) = match (bl s).findIdx? (fun b => p (b.toNat : Int)) with | some i => out i | none => fin := by
  refine fx_find (B := B) (bl s) st (fun b => p (b.toNat : Int)) out fin (fun self i h => ?_) (fun self => ?_) k (by rw [bl_len]; exact hk)
  · rw [step self i (by rw [← bl_len]; exact h), sb_eq h]
  · rw [bl_len]; exact stop self
def stands (s : ByteArray) (c : Int) : Bool := (bl s).any fun b => decide ((b.toNat : Int) = c)
theorem s_l1Stands_eq {n : Nat} (hn : BIG ≤ n) {s : ByteArray} (hl : s.size ≤ 9223372036854775807) (c : Int) : s_l1Stands n s c = some (stands s c) := by
  unfold s_l1Stands stands
  have := fx_bytes (B := s_l1Stands_L1 n) s (fun i => (s, c, (i : Int))) (fun b => decide (b = c)) (fun _ => some true) (some false) (fun self i hi => ?_) (fun self => ?_) n (big_gt hn (by omega))
  · have e : ((0 : Nat) : Int) = 0 := rfl
    simp only [e] at this
    rw [this, ← findIdx?_any]; cases (bl s).findIdx? _ <;> simp
  · have e1 : decide ((i : Int) < (s.size : Int)) = true := decide_eq_true (by omega)
    simp only [s_l1Stands_L1, e1, br_true, inb_ok hi, ckb_true, toNat_cast, lt_eq]
    rw [w64_succ (by omega)]
    cases decide (sb s i = c) <;> rfl
  · have e1 : decide ((s.size : Int) < (s.size : Int)) = false := decide_eq_false (by omega)
    simp only [s_l1Stands_L1, e1, br_false]
def one (c : UInt8) : ByteArray := ⟨#[c]⟩
theorem indexByte_nonneg (l : List UInt8) (c : UInt8) : decide (0 ≤ Lib.indexByte l c) = l.any fun b => decide ((b.toNat : Int) = (c.toNat : Int)) := by
  induction l with
  | nil => rfl
  | cons b l ih =>
    unfold Lib.indexByte
    rw [List.any_cons]
    have hge := Lib.indexByte_ge l c
    by_cases hb : b = c
    · subst hb; simp
    · have e1 : (b == c) = false := by simpa using hb
      have e2 : decide ((b.toNat : Int) = (c.toNat : Int)) = false := decide_eq_false fun h => hb (UInt8.toNat_inj.1 (by omega))
      rw [e1, e2, ← ih]
      simp only [Bool.false_eq_true, if_false, Bool.false_or]
      by_cases h1 : Lib.indexByte l c = -1
      · simp [h1]
      · have : (Lib.indexByte l c == -1) = false := by simpa using h1
        rw [this]
        simp only [Bool.false_eq_true, if_false]
        congr 1; apply propext; omega
theorem index_one {n : Nat} (s : ByteArray) (c : UInt8) : ∃ k, strings_Index n s (one c) = some k ∧ decide (0 ≤ k) = stands s c.toNat := by
  unfold strings_Index internal_stringslite_Index_s
  have e1 : decide (((one c).size : Int) = 0) = false := rfl
  have e2 : decide (((one c).size : Int) = 1) = true := rfl
  have e3 : inb 0 (one c).size = true := rfl
  have e4 : sb (one c) 0 = (c.toNat : Int) := rfl
  have e5 : ((c.toNat : Int).toNat).toUInt8 = c := by simp
  have e6 : ∀ m, internal_stringslite_IndexByte m s (sb (one c) 0) = some (Lib.indexByte (bl s) c) := fun m => by
    unfold internal_stringslite_IndexByte x_IndexByteString
    rw [e4, e5]; rfl
  by_cases hs : one c = s
  · refine ⟨0, ?_, ?_⟩
    · simp [e1, eqd, hs, br_self]
    · rw [← hs]; simp [stands, bl, one]
  · refine ⟨Lib.indexByte (bl s) c, ?_, indexByte_nonneg _ _⟩
    have : eqd (one c) s = false := by simp [eqd, hs]
    simp only [e1, br_false, this, ob_some, e2, br_true, e3, ckb_true, e6]
theorem contains_one {n : Nat} (s : ByteArray) (c : UInt8) : strings_Contains n s (one c) = some (stands s c.toNat) := by
  obtain ⟨k, h1, h2⟩ := index_one (n := n) s c
  unfold strings_Contains
  rw [h1, ob_some, h2]
end Go.Pl
