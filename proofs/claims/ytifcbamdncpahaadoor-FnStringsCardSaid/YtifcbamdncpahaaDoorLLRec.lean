/- Plain laws: LRec. -/
import Derived.Test.YtifcbamdncpahaaDoorLLNum
import Derived.Test.YtifcbamdncpahaaDoorLR4
set_option linter.unusedVariables false
set_option linter.unusedSimpArgs false
namespace Go.Pl
open Go Go.Tv Go.RowKit
def sumS (h : Int) (b : UInt8) : Int := Int.tmod (41 * h + (b.toNat : Int) + 1) 999979
def sumL (l : List UInt8) : Int := l.foldl sumS 7
def SumR (h : Int) : Prop := 0 ≤ h ∧ h < 999979
theorem sumS_R {h : Int} (hh : SumR h) (b : UInt8) : SumR (sumS h b) := by
  unfold sumS SumR at *
  have hb := b.toNat_lt
  rw [Int.tmod_eq_emod_of_nonneg (by omega)]
  omega
theorem sumL_R (l : List UInt8) : SumR (sumL l) := by
  unfold sumL
  have : ∀ (l : List UInt8) (h : Int), SumR h → SumR (l.foldl sumS h) := by
    intro l
    induction l with
    | nil => intro h hh; exact hh
    | cons b l ih => intro h hh; exact ih _ (sumS_R hh b)
  exact this l 7 ⟨by omega, by omega⟩
theorem sum_words {s : ByteArray} {i : Nat} {h : Int} (hi : i < (bl s).length) (hh : SumR h) : w64 (41 * h) = 41 * h ∧ w64 (sb s i) = ((bl s)[i].toNat : Int) ∧
    w64 (41 * h + ((bl s)[i].toNat : Int)) = 41 * h + ((bl s)[i].toNat : Int) ∧ w64 (41 * h + ((bl s)[i].toNat : Int) + 1) = 41 * h + ((bl s)[i].toNat : Int) + 1 := by
  have hb := (bl s)[i].toNat_lt
  obtain ⟨q0, q1⟩ := hh
  rw [sb_eq hi]
  exact ⟨w64_id (by omega), w64_id (by omega), w64_id (by omega), w64_id (by omega)⟩
theorem s_l1Sum_eq {n : Nat} (hn : BIG ≤ n) {s : ByteArray} (hl : s.size ≤ 9223372036854775807) : s_l1Sum n s = some (sumL (bl s)) := by
  unfold s_l1Sum sumL
  have hlb := bl_len s
  exact fx_foldl (B := s_l1Sum_L1 n) (bl s) (fun i h => (s, h, (i : Int))) sumS some (fun _ h => SumR h) (fun i h _ hh => sumS_R hh _) (fun self i h hi hh => by
      obtain ⟨e1, e2, e3, e4⟩ := sum_words hi hh
      unfold s_l1Sum_L1
      dsimp only
      rw [decide_eq_true (by omega : (i : Int) < (s.size : Int)), br_true]
      simp only [lt_eq, e1]
      rw [inb_ok (by omega), ckb_true, toNat_cast]
      simp only [e2, e3, e4]
      rw [w64_succ (by omega)]; rfl) (fun self h _ => by
      unfold s_l1Sum_L1
      dsimp only
      rw [decide_eq_false (by omega), br_false]) n (big_gt hn (by omega)) 7 ⟨by omega, by omega⟩
theorem i_checksum_eq {n : Nat} (hn : BIG ≤ n) {s : ByteArray} (hl : s.size ≤ 9223372036854775807) : i_checksum n s = some (sumL (bl s)) := by
  unfold i_checksum sumL
  have hlb := bl_len s
  exact fx_foldl (B := i_checksum_L1 n) (bl s) (fun i h => (s, h, (s.size : Int), (i : Int))) sumS some (fun _ h => SumR h) (fun i h _ hh => sumS_R hh _) (fun self i h hi hh => by
      obtain ⟨e1, e2, e3, e4⟩ := sum_words hi hh
      unfold i_checksum_L1
      dsimp only
      rw [decide_eq_true (by omega : (i : Int) < (s.size : Int)), br_true]
      simp only [lt_eq, e1]
      rw [inb_ok (by omega), ckb_true, toNat_cast]
      simp only [e2, e3, e4]
      rw [w64_succ (by omega)]; rfl) (fun self h _ => by
      unfold i_checksum_L1
      dsimp only
      rw [decide_eq_false (by omega), br_false]) n (big_gt hn (by omega)) 7 ⟨by omega, by omega⟩
def sealL (l : List UInt8) : List UInt8 := l ++ 35 :: numL (sumL l)
theorem num_len6 {a : Int} (h0 : 0 ≤ a) (h : a < 1000000) : (numL a).length ≤ 6 := by
  rw [num_pos (by omega)]
  have := dec_len 6 a.toNat (by omega)
  omega
theorem s_l1Seal_eq {n : Nat} (hn : BIG ≤ n) {s : ByteArray} (hl : s.size ≤ 1000000) : s_l1Seal n s = some (mk (sealL (bl s))) := by
  unfold s_l1Seal
  obtain ⟨q0, q1⟩ := sumL_R (bl s)
  have h6 := num_len6 q0 (by omega)
  rw [ckb_pos (stok_ok (by omega)), lt_eq, s_l1Sum_eq hn (by omega), ob_some, s_l1Num_eq hn (by omega) (by omega), ob_some,
    ckb_pos (stok_ok (by rw [app_size, txt, mk_size]; show s.size + 1 + _ ≤ _; omega)), lt_eq]
  refine congrArg some (bl_inj ?_)
  rw [bl_app, bl_app, bl_mk]
  unfold sealL txt
  rw [bl_mk, List.append_assoc]; rfl
theorem i_AppendChecksum_eq {n : Nat} (hn : BIG ≤ n) {s : ByteArray} (hl : s.size ≤ 9223372036854775807) :
    i_AppendChecksum n s = some (if 4000 < s.size ∨ stands s 35 = true ∨ 4000 < (sealL (bl s)).length then (mk [], false) else (mk (sealL (bl s)), true)) := by
  unfold i_AppendChecksum
  obtain ⟨q0, q1⟩ := sumL_R (bl s)
  have h6 := num_len6 q0 (by omega)
  by_cases h1 : (4000 : Int) < (s.size : Int)
  · rw [decide_eq_true h1, br_true, ob_some, br_true, if_pos (.inl (by omega))]; rfl
  rw [decide_eq_false h1, br_false, show (⟨#[35]⟩ : ByteArray) = one 35 from rfl, contains_one, ob_some, ob_some]
  change (br (stands s 35) _ _) = _
  by_cases h2 : stands s 35 = true
  · rw [h2, br_true, if_pos (.inr (.inl rfl))]; rfl
  have h2' : stands s 35 = false := by simpa using h2
  have e1 : s ++ one 35 ++ txt (sumL (bl s)) = mk (sealL (bl s)) := bl_inj (by
    rw [bl_app, bl_app, bl_mk]
    unfold sealL txt
    rw [bl_mk, List.append_assoc]; rfl)
  rw [h2', br_false, ckb_pos (stok_ok (by omega)), lt_eq, i_checksum_eq hn hl, ob_some, strconv_Itoa_eq (by omega) (by omega), ob_some,
    ckb_pos (stok_ok (by rw [app_size, txt, mk_size]; show s.size + 1 + _ ≤ _; omega)), lt_eq, e1, mk_size]
  by_cases h3 : (4000 : Int) < ((sealL (bl s)).length : Int)
  · rw [decide_eq_true h3, br_true, if_pos (.inr (.inr (by omega)))]; rfl
  · rw [decide_eq_false h3, br_false, if_neg (by rintro (h | h | h) <;> first | omega | cases h)]
theorem dec_dig : ∀ (k u : Nat), u < 10 ^ k → ∀ b ∈ Lib.decDigits u, 48 ≤ b.toNat ∧ b.toNat ≤ 57 := by
  have one : ∀ u, u < 10 → ∀ b ∈ [UInt8.ofNat (48 + u)], 48 ≤ b.toNat ∧ b.toNat ≤ 57 := by
    intro u hu b hb
    rw [List.mem_singleton] at hb
    subst hb
    have : (UInt8.ofNat (48 + u)).toNat = 48 + u := by rw [UInt8.toNat_ofNat']; omega
    omega
  intro k
  induction k with
  | zero => intro u h b hb; rw [dec_small (by omega)] at hb; exact one u (by omega) b hb
  | succ k ih =>
    intro u h b hb
    by_cases h9 : u < 10
    · rw [dec_small h9] at hb; exact one u h9 b hb
    · rw [dec_big h9, List.mem_append] at hb
      rcases hb with hb | hb
      · exact ih (u / 10) (by rw [Nat.pow_succ] at h; omega) b hb
      · exact one _ (by omega) b hb
theorem num_dig {a : Int} (h0 : 0 ≤ a) (h1 : a ≤ 9223372036854775807) : ∀ b ∈ numL a, 48 ≤ b.toNat ∧ b.toNat ≤ 57 := by
  rw [num_pos (by omega)]
  exact dec_dig 20 a.toNat (by omega)
end Go.Pl
