/- Plain laws: R34. -/
import Derived.Test.YtkhfihbaopbblaaDoorLR21
set_option linter.unusedVariables false
set_option linter.unusedSimpArgs false
namespace Go.Pl
open Go Go.Tv Go.RowKit
theorem markText_R {n : Nat} : ∀ (d : Nat) (k : Int) (s : ByteArray) (fu : Nat), 0 ≤ k → k < 10 ^ d → k ≤ 1000000 → s.size + d ≤ 1000 → d < fu → ∃ r, fx (v_markText_L1 n) fu (k, s) = some r := by
  intro d
  induction d with
  | zero =>
    intro k s fu h0 h1 h2 h3 h4
    obtain ⟨fu, rfl⟩ : ∃ j, fu = j + 1 := ⟨fu - 1, by omega⟩
    rw [fx_succ]
    generalize fx (v_markText_L1 n) fu = g
    unfold v_markText_L1
    dsimp only
    rw [decide_eq_false (by simp at h1; omega), br_false, ckb_pos (stok_ok (by omega)), lt_eq]
    exact ⟨_, rfl⟩
  | succ d ih =>
    intro k s fu h0 h1 h2 h3 h4
    obtain ⟨fu, rfl⟩ : ∃ j, fu = j + 1 := ⟨fu - 1, by omega⟩
    rw [fx_succ]
    have H := fun k s a b c d' => ih k s fu a b c d' (by omega)
    generalize fx (v_markText_L1 n) fu = g at H
    unfold v_markText_L1
    dsimp only
    by_cases hk : 0 < k
    · rw [decide_eq_true hk, br_true]
      simp only [lt_eq]
      have e1 : (strOfNums [IntKind.wrap .u8 (w64 (48 + Int.tmod k 10))]).size = 1 := by rw [strOfNums_size]; rfl
      have e2 : Int.tdiv k 10 = k / 10 := Int.tdiv_eq_ediv_of_nonneg h0
      have hp : (10 : Int) ^ (d + 1) = 10 ^ d * 10 := Int.pow_succ _ _
      rw [ckb_pos (stok_ok (by omega)), e2, w64_id (by omega)]
      exact H _ _ (by omega) (by omega) (by omega) (by rw [app_size]; omega)
    · rw [decide_eq_false hk, br_false, ckb_pos (stok_ok (by omega))]
      exact ⟨_, rfl⟩
noncomputable def mtx (n : Nat) (k : Int) : ByteArray := (v_markText n k).getD ⟨#[]⟩
theorem v_markText_eq {n : Nat} (hn : BIG ≤ n) {k : Int} (h0 : 0 ≤ k) (h1 : k ≤ 1000000) : v_markText n k = some (mtx n k) := by
  have : ∃ r, v_markText n k = some r := by
    unfold v_markText
    by_cases h : k ≤ 0
    · rw [decide_eq_true h, br_true]; exact ⟨_, rfl⟩
    · rw [decide_eq_false h, br_false]
      exact markText_R 7 k _ n h0 (by omega) h1 (by show (0 : Nat) + 7 ≤ 1000; omega) (big_gt hn (by omega))
  obtain ⟨r, hr⟩ := this
  unfold mtx
  rw [hr]; rfl
noncomputable def markR (n : Nat) : List Rec → Int → List Rec
  | [], _ => []
  | _ :: l, k => (mtx n k, mtx n (k + 1)) :: markR n l (k + 2)
theorem markR_go {n : Nat} (hn : BIG ≤ n) : ∀ (l done : List Rec) (k : Int), 0 ≤ k → k + 2 * l.length ≤ 900000 → done.length + l.length ≤ 900000 → ∀ j, l.length < j →
    fx (v_markLogRecordS'o_L1 n) j (k, (done.length : Int), done ++ l) = some (k + 2 * l.length, done ++ markR n l k)
  | [], done, k, h0, h1, h2, j, hj => by
    obtain ⟨j, rfl⟩ : ∃ i, j = i + 1 := ⟨j - 1, by omega⟩
    rw [fx_succ]
    generalize fx (v_markLogRecordS'o_L1 n) j = g
    unfold v_markLogRecordS'o_L1
    dsimp only
    rw [List.append_nil, decide_eq_false (by omega), br_false]
    simp [markR]
  | e :: l, done, k, h0, h1, h2, j, hj => by
    obtain ⟨j, rfl⟩ : ∃ i, j = i + 1 := ⟨j - 1, by omega⟩
    have ih := markR_go hn l (done ++ [(mtx n k, mtx n (k + 1))]) (k + 2) (by omega) (by simp only [List.length_cons] at h1; omega) (by simp only [List.length_append, List.length_cons, List.length_nil] at h2 ⊢; omega) j (by simp only [List.length_cons] at hj; omega)
    rw [fx_succ]
    generalize fx (v_markLogRecordS'o_L1 n) j = g at ih
    unfold v_markLogRecordS'o_L1
    dsimp only
    have hset : ∀ (x y : Rec), List.set (done ++ x :: l) done.length y = done ++ y :: l := fun x y => by simp
    have hgl : ∀ (x : Rec), gl ((⟨#[]⟩ : ByteArray), (⟨#[]⟩ : ByteArray)) (done ++ x :: l) done.length = x := fun x => by rw [gl_eq (by simp)]; simp
    simp only [List.length_cons] at h1 h2
    rw [decide_eq_true (by simp only [List.length_append, List.length_cons]; omega), br_true, v_markText_eq hn h0 (by omega), ob_some, ckb_pos (inb_ok (by simp)), toNat_cast, hgl, hset]
    simp only [lt_eq]
    have e1 : w64 (k + 1) = k + 1 := w64_id (by omega)
    have e2 : w64 (k + 1 + 1) = k + 2 := by rw [w64_id (by omega)]; omega
    have e3 : w64 ((done.length : Int) + 1) = ((done.length + 1 : Nat) : Int) := w64_succ (by omega)
    rw [e1, v_markText_eq hn (by omega) (by omega), ob_some, ckb_pos (inb_ok (by simp)), hgl, hset, e2, e3]
    simp only [List.length_append, List.length_singleton, List.append_assoc, List.singleton_append] at ih
    rw [ih]
    simp only [markR, List.length_cons]
    congr 2; omega
theorem heldR_go {n : Nat} (hn : BIG ≤ n) : ∀ (l done : List Rec) (k : Int), 0 ≤ k → k + 2 * l.length ≤ 900000 → done.length + l.length ≤ 900000 → ∀ j, l.length < j →
    fx (v_heldLogRecordS_L1 n) j (done ++ markR n l k, k, (done.length : Int)) = some (k + 2 * l.length)
  | [], done, k, h0, h1, h2, j, hj => by
    obtain ⟨j, rfl⟩ : ∃ i, j = i + 1 := ⟨j - 1, by omega⟩
    have hmr : markR n [] k = [] := rfl
    rw [hmr, List.append_nil, fx_succ]
    generalize fx (v_heldLogRecordS_L1 n) j = g
    unfold v_heldLogRecordS_L1
    dsimp only
    rw [decide_eq_false (by omega), br_false]
    simp
  | e :: l, done, k, h0, h1, h2, j, hj => by
    obtain ⟨j, rfl⟩ : ∃ i, j = i + 1 := ⟨j - 1, by omega⟩
    have ih := heldR_go hn l (done ++ [(mtx n k, mtx n (k + 1))]) (k + 2) (by omega) (by simp only [List.length_cons] at h1; omega) (by simp only [List.length_append, List.length_cons, List.length_nil] at h2 ⊢; omega) j (by simp only [List.length_cons] at hj; omega)
    have hmr : markR n (e :: l) k = (mtx n k, mtx n (k + 1)) :: markR n l (k + 2) := rfl
    rw [hmr, fx_succ]
    generalize fx (v_heldLogRecordS_L1 n) j = g at ih
    unfold v_heldLogRecordS_L1
    dsimp only
    simp only [List.length_cons] at h1 h2
    have hgl : ∀ (x : Rec) (r : List Rec), gl ((⟨#[]⟩ : ByteArray), (⟨#[]⟩ : ByteArray)) (done ++ x :: r) done.length = x := fun x r => by rw [gl_eq (by simp)]; simp
    rw [decide_eq_true (by simp only [List.length_append, List.length_cons]; omega), br_true, ckb_pos (inb_ok (by simp)), v_markText_eq hn h0 (by omega), ob_some, toNat_cast, hgl]
    simp only [eqd_self, Bool.not_true, br_false, lt_eq]
    have e1 : w64 (k + 1) = k + 1 := w64_id (by omega)
    have e2 : w64 (k + 1 + 1) = k + 2 := by rw [w64_id (by omega)]; omega
    have e3 : w64 ((done.length : Int) + 1) = ((done.length + 1 : Nat) : Int) := w64_succ (by omega)
    rw [e1, ckb_pos (inb_ok (by simp)), v_markText_eq hn (by omega) (by omega), ob_some]
    simp only [eqd_self, Bool.not_true, br_false, lt_eq]
    rw [e2, e3]
    simp only [List.length_append, List.length_singleton, List.append_assoc, List.singleton_append] at ih
    rw [ih]
    simp only [List.length_cons]
    congr 1; omega
theorem v_eqLogRecord_eq {n : Nat} (a b : Rec) : v_eqLogRecord n a b = some (decide (a = b)) := by
  obtain ⟨a0, a1⟩ := a
  obtain ⟨b0, b1⟩ := b
  unfold v_eqLogRecord
  by_cases h0 : a0 = b0 <;> by_cases h1 : a1 = b1 <;> simp [eqd, h0, h1]
theorem v_eqLogRecordS_self {n : Nat} (hn : BIG ≤ n) {l : List Rec} (hl : l.length ≤ 1000000) : v_eqLogRecordS n l l = some true := by
  unfold v_eqLogRecordS
  rw [decide_eq_true rfl, Bool.not_true, br_false]
  have := fx_find (B := v_eqLogRecordS_L1 n) l (fun i => (l, l, (i : Int))) (fun _ => false) (fun _ => some false) (some true) (fun self i hi => by
    unfold v_eqLogRecordS_L1
    dsimp only
    rw [decide_eq_true (by omega), br_true, ckb_pos (inb_ok hi), ckb_pos (inb_ok hi), v_eqLogRecord_eq, ob_some, decide_eq_true rfl, Bool.not_true, br_false, lt_eq, w64_succ (by omega)]; rfl) (fun self => by
    unfold v_eqLogRecordS_L1
    dsimp only
    rw [decide_eq_false (by omega), br_false]) n (big_gt hn (by omega))
  have hf : l.findIdx? (fun _ => false) = none := List.findIdx?_eq_none_iff.2 fun _ _ => rfl
  rw [hf] at this
  exact this
def logRecs (l : Lg) : Bool × List Rec := if logB l = true then (true, recsOf (l.1 ++ l.2.1)) else (false, [])
theorem logRecs_len (l : Lg) : (logRecs l).2.length ≤ 60 := by
  unfold logRecs
  split
  · exact recs_len _
  · simp
theorem small_of {l : Lg} (h : logB l = true) : l.1.size + l.2.1.size ≤ 30000 := by
  unfold logB at h
  simp only [Bool.and_eq_true, decide_eq_true_eq] at h
  exact h.1.1.1
theorem s_LogRecords_eq {n : Nat} (hn : BIG ≤ n) {l : Lg} (hl : l.1.size + l.2.1.size ≤ 1048576) : s_LogRecords n l = some (logRecs l) := by
  unfold s_LogRecords logRecs
  rw [s_l12Valid_eq hn hl, ob_some]
  cases h : logB l with
  | false => rw [if_neg (by simp)]; rfl
  | true =>
    have := small_of h
    rw [Bool.not_true, br_false, ckb_pos (stok_ok (by omega)), lt_eq, s_l12Open_eq hn (by rw [app_size]; omega), if_pos rfl]; rfl
theorem i_LogRecords_eq {n : Nat} (hn : BIG ≤ n) {l : Lg} (hl : l.1.size + l.2.1.size ≤ 1048576) : i_LogRecords n l = some (logRecs l) := by
  unfold i_LogRecords logRecs
  rw [i_IsValidLog_eq hn hl, ob_some]
  cases h : logB l with
  | false => rw [if_neg (by simp)]; rfl
  | true =>
    have := small_of h
    rw [Bool.not_true, br_false, ckb_pos (stok_ok (by omega)), lt_eq, i_records_eq hn (by rw [app_size]; omega), if_pos rfl]; rfl
theorem law_FnExactLogRecords {n : Nat} (hn : BIG ≤ n) (l : Lg) (ok : (Ty.pair .str (.pair .str (.int .i64))).ok l) : v_FnExactLogRecords n l = some true := by
  obtain ⟨h1, h2⟩ := ok_log ok
  obtain ⟨k, hk, _, hk2⟩ := v_szLog_eq (n := n) h1 h2
  unfold v_FnExactLogRecords
  rw [hk, ob_some]
  by_cases h : k < 0
  · rw [decide_eq_true h, br_true]
  · have hl := hk2 h
    rw [decide_eq_false h, br_false]
    have h60 := logRecs_len l
    have hm : v_markLogRecordS'o n 1 (logRecs l).2 = some (1 + 2 * ((logRecs l).2.length : Int), markR n (logRecs l).2 1) := by
      have := markR_go hn (logRecs l).2 [] 1 (by omega) (by omega) (by simp; omega) n (big_gt hn (by omega))
      simpa [v_markLogRecordS'o] using this
    have hh : v_heldLogRecordS n (markR n (logRecs l).2 1) 1 = some (1 + 2 * ((logRecs l).2.length : Int)) := by
      have := heldR_go hn (logRecs l).2 [] 1 (by omega) (by omega) (by simp; omega) n (big_gt hn (by omega))
      simpa [v_heldLogRecordS] using this
    have hd : decide (1 + 2 * ((logRecs l).2.length : Int) < 0) = false := decide_eq_false (by omega)
    simp only [v_toLog_eq, ob_some, s_LogRecords_eq hn hl, i_LogRecords_eq hn hl, v_eqLogRecordS_self hn (l := (logRecs l).2) (by omega), hm, hh, hd, br_false, beq_self_eq_true, Bool.not_true, decide_true]
end Go.Pl
