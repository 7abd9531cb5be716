/- Plain laws: LNum. -/
import Derived.Test.YtifcbamdncpahaaDoorLL1
import Derived.Lib.ItoaNum
set_option linter.unusedVariables false
set_option linter.unusedSimpArgs false
namespace Go.Pl
open Go Go.Tv Go.RowKit
def mk (l : List UInt8) : ByteArray := ⟨l.toArray⟩
@[simp] theorem bl_mk (l : List UInt8) : bl (mk l) = l := by simp [bl, mk]
@[simp] theorem mk_bl (s : ByteArray) : mk (bl s) = s := by simp [bl, mk]
theorem bl_inj {a b : ByteArray} (h : bl a = bl b) : a = b := by rw [← mk_bl a, ← mk_bl b, h]
@[simp] theorem bl_app (a b : ByteArray) : bl (a ++ b) = bl a ++ bl b := by
  simp [bl, ByteArray.data_append]
@[simp] theorem mk_size (l : List UInt8) : (mk l).size = l.length := by rw [← bl_len, bl_mk]
theorem app_size (a b : ByteArray) : (a ++ b).size = a.size + b.size := by rw [← bl_len, bl_app, List.length_append, bl_len, bl_len]
theorem eqd_str (a b : ByteArray) : eqd a b = decide (a = b) := rfl
theorem stok_ok {k : Nat} (h : k ≤ 1125899906842624) : stok k = true := decide_eq_true (by unfold maxLen; omega)
theorem bl_ssub (s : ByteArray) (lo hi : Nat) : bl (ssub s lo hi) = ((bl s).drop lo).take (hi - lo) := by
  unfold ssub bl
  rw [ByteArray.data_extract]
  simp
def numL (a : Int) : List UInt8 := Lib.itoa a
def txt (a : Int) : ByteArray := mk (numL a)
theorem strconv_Itoa_eq {n : Nat} {a : Int} (h0 : -9223372036854775808 ≤ a) (h1 : a ≤ 9223372036854775807) : strconv_Itoa n a = some (txt a) := by
  unfold strconv_Itoa
  rw [decide_eq_true h0, decide_eq_true h1]; rfl
theorem dec_small {u : Nat} (h : u < 10) : Lib.decDigits u = [UInt8.ofNat (48 + u)] := by rw [Lib.decDigits, dif_pos h]
theorem dec_big {u : Nat} (h : ¬ u < 10) : Lib.decDigits u = Lib.decDigits (u / 10) ++ [UInt8.ofNat (48 + u % 10)] := by rw [Lib.decDigits, dif_neg h]
theorem dec_len : ∀ (k u : Nat), u < 10 ^ k → (Lib.decDigits u).length ≤ max 1 k
  | 0, u, h => by rw [dec_small (by omega)]; simp
  | k + 1, u, h => by
    by_cases h9 : u < 10
    · rw [dec_small h9]; simp
    · rw [dec_big h9]
      have hk : 1 ≤ k := by
        rcases k with _ | k
        · simp at h; omega
        · omega
      have := dec_len k (u / 10) (by rw [Nat.pow_succ] at h; omega)
      simp only [List.length_append, List.length_singleton]
      omega
def digs : ByteArray := ⟨#[48, 49, 50, 51, 52, 53, 54, 55, 56, 57]⟩
theorem digs_sub : ∀ k, k < 10 → ssub digs k (k + 1) = mk [UInt8.ofNat (48 + k)] := by
  intro k hk
  refine bl_inj ?_
  rw [bl_ssub, bl_mk]
  have : ∀ k, k < 10 → ((bl digs).drop k).take (k + 1 - k) = [UInt8.ofNat (48 + k)] := by decide
  exact this k hk
theorem num_neg {a : Int} (h : a < 0) : numL a = 45 :: Lib.decDigits a.natAbs := by unfold numL Lib.itoa; rw [if_pos h]
theorem num_pos {a : Int} (h : ¬ a < 0) : numL a = Lib.decDigits a.toNat := by unfold numL Lib.itoa; rw [if_neg h]
theorem dec_len20 {u : Nat} (h : u ≤ 9223372036854775808) : (Lib.decDigits u).length ≤ 20 := by
  have := dec_len 20 u (by omega)
  omega
def mu (a : Int) : Nat := a.natAbs + (if a < 0 then 1 else 0)
theorem l1Num_step {n : Nat} {g : Int → Option ByteArray} {a : Int} (ih : ∀ b, mu b < mu a → -9223372036854775808 ≤ b → b ≤ 9223372036854775807 → g b = some (txt b)) (h0 : -9223372036854775808 ≤ a) (h1 : a ≤ 9223372036854775807) :
    s_l1Num_R n g a = some (txt a) := by
  unfold s_l1Num_R
  dsimp only
  by_cases hn : a < 0
  · have hm' : mu a = a.natAbs + 1 := by unfold mu; rw [if_pos hn]
    rw [decide_eq_true hn, br_true]
    by_cases h10 : -10 < a
    · rw [decide_eq_true h10, br_true]
      have e1 : w64 (0 - a) = ((a.natAbs : Nat) : Int) := by rw [w64_id (by omega)]; omega
      have e2 := ih ((a.natAbs : Nat) : Int) (by rw [hm']; unfold mu; rw [if_neg (by omega)]; omega) (by omega) (by omega) 
      simp only [lt_eq, e1, e2, ob_some]
      have hl : (txt ((a.natAbs : Nat) : Int)).size ≤ 20 := by unfold txt; rw [mk_size, num_pos (by omega)]; exact dec_len20 (by omega)
      rw [ckb_pos (stok_ok (by omega))]
      refine congrArg some (bl_inj ?_)
      unfold txt
      rw [bl_app, bl_mk, bl_mk, num_neg hn, num_pos (by omega)]
      rfl
    · rw [decide_eq_false h10, br_false]
      have hd : Int.tdiv a 10 = -((a.natAbs / 10 : Nat) : Int) := by
        have : a = -((a.natAbs : Nat) : Int) := by omega
        rw [this, Int.neg_tdiv, show (10 : Int) = ((10 : Nat) : Int) from rfl, Int.ofNat_tdiv]; simp
      have hmo : Int.tmod a 10 = -((a.natAbs % 10 : Nat) : Int) := by
        have : a = -((a.natAbs : Nat) : Int) := by omega
        rw [this, Int.neg_tmod, show (10 : Int) = ((10 : Nat) : Int) from rfl, Int.ofNat_tmod]; simp
      have hq : 1 ≤ a.natAbs / 10 := by omega
      have e1 : w64 (Int.tdiv a 10) = -((a.natAbs / 10 : Nat) : Int) := by rw [hd, w64_id (by omega)]
      have e3 : w64 (0 - Int.tmod a 10) = ((a.natAbs % 10 : Nat) : Int) := by rw [hmo, w64_id (by omega)]; omega
      have e2 := ih (-((a.natAbs / 10 : Nat) : Int)) (by rw [hm']; unfold mu; rw [if_pos (by omega)]; omega) (by omega) (by omega) 
      have e4 := ih ((a.natAbs % 10 : Nat) : Int) (by rw [hm']; unfold mu; rw [if_neg (by omega)]; omega) (by omega) (by omega) 
      simp only [lt_eq, e1, e2, e3, e4, ob_some]
      have hl1 : (txt (-((a.natAbs / 10 : Nat) : Int))).size ≤ 21 := by
        unfold txt
        rw [mk_size, num_neg (by omega), List.length_cons]
        have := dec_len20 (u := (-((a.natAbs / 10 : Nat) : Int)).natAbs) (by omega)
        omega
      have hl2 : (txt ((a.natAbs % 10 : Nat) : Int)).size ≤ 20 := by unfold txt; rw [mk_size, num_pos (by omega)]; exact dec_len20 (by omega)
      rw [ckb_pos (stok_ok (by omega))]
      refine congrArg some (bl_inj ?_)
      unfold txt
      rw [bl_app, bl_mk, bl_mk, bl_mk, num_neg hn, num_neg (a := -((a.natAbs / 10 : Nat) : Int)) (by omega), num_pos (by omega), show (-((a.natAbs / 10 : Nat) : Int)).natAbs = a.natAbs / 10 by omega, toNat_cast,
        dec_big (u := a.natAbs) (by omega), dec_small (u := a.natAbs % 10) (by omega)]
      rfl
  · have hm' : mu a = a.natAbs := by unfold mu; rw [if_neg hn]; rfl
    rw [decide_eq_false hn, br_false]
    obtain ⟨u, rfl⟩ : ∃ u : Nat, a = (u : Int) := ⟨a.toNat, by omega⟩
    by_cases h10 : ((u : Nat) : Int) < 10
    · rw [decide_eq_true h10, br_true]
      have hu : u < 10 := by omega
      have e1 : w64 ((u : Int) + 1) = ((u + 1 : Nat) : Int) := w64_succ (by omega)
      simp only [lt_eq, e1]
      rw [ckb_pos (slb_ok (by omega) (by omega) (by omega)), toNat_cast, toNat_cast]
      refine congrArg some ?_
      have := digs_sub u hu
      unfold txt
      rw [num_pos (by omega), toNat_cast, dec_small hu]
      exact this
    · rw [decide_eq_false h10, br_false]
      have hu : ¬ u < 10 := by omega
      have hd : Int.tdiv (u : Int) 10 = ((u / 10 : Nat) : Int) := by rw [show (10 : Int) = ((10 : Nat) : Int) from rfl, Int.ofNat_tdiv]
      have hmo : Int.tmod (u : Int) 10 = ((u % 10 : Nat) : Int) := by rw [show (10 : Int) = ((10 : Nat) : Int) from rfl, Int.ofNat_tmod]
      have e1 : w64 (Int.tdiv (u : Int) 10) = ((u / 10 : Nat) : Int) := by rw [hd, w64_id (by omega)]
      have e3 : w64 (((u % 10 : Nat) : Int) + 1) = ((u % 10 + 1 : Nat) : Int) := w64_succ (by omega)
      have e2 := ih ((u / 10 : Nat) : Int) (by rw [hm']; unfold mu; rw [if_neg (by omega)]; omega) (by omega) (by omega) 
      simp only [lt_eq, e1, e2, hmo, e3, ob_some]
      rw [ckb_pos (slb_ok (by omega) (by omega) (by omega)), toNat_cast, toNat_cast]
      have hs := digs_sub (u % 10) (by omega)
      have hs' : ssub (⟨#[48, 49, 50, 51, 52, 53, 54, 55, 56, 57]⟩ : ByteArray) (u % 10) (u % 10 + 1) = mk [UInt8.ofNat (48 + u % 10)] := hs
      rw [hs']
      have hl2 : (txt ((u / 10 : Nat) : Int)).size ≤ 20 := by unfold txt; rw [mk_size, num_pos (by omega)]; exact dec_len20 (by omega)
      rw [ckb_pos (stok_ok (by rw [mk_size, List.length_singleton]; omega))]
      refine congrArg some (bl_inj ?_)
      unfold txt
      rw [bl_app, bl_mk, bl_mk, bl_mk, num_pos (by omega), num_pos (by omega), toNat_cast, toNat_cast, dec_big hu]
theorem l1Num_R {n : Nat} : ∀ (m : Nat) (a : Int), mu a ≤ m → -9223372036854775808 ≤ a → a ≤ 9223372036854775807 → ∀ k, m < k → fx (s_l1Num_R n) k a = some (txt a) := by
  intro m
  induction m with
  | zero =>
    intro a hm h0 h1 k hk
    obtain ⟨k, rfl⟩ : ∃ j, k = j + 1 := ⟨k - 1, by omega⟩
    rw [fx_succ]
    exact l1Num_step (fun b hb => by omega) h0 h1
  | succ m ih =>
    intro a hm h0 h1 k hk
    obtain ⟨k, rfl⟩ : ∃ j, k = j + 1 := ⟨k - 1, by omega⟩
    rw [fx_succ]
    exact l1Num_step (fun b hb q0 q1 => ih b (by omega) q0 q1 k (by omega)) h0 h1
theorem s_l1Num_eq {n : Nat} (hn : BIG ≤ n) {a : Int} (h0 : -9223372036854775808 ≤ a) (h1 : a ≤ 9223372036854775807) : s_l1Num n a = some (txt a) := by
  unfold s_l1Num
  exact l1Num_R (mu a) a (Nat.le_refl _) h0 h1 n (big_gt hn (by unfold mu; split <;> omega))
end Go.Pl
