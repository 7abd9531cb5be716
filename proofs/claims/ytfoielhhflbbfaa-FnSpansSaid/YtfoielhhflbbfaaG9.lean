/- Plain laws: LCp, LFlt, LIn. -/
import Derived.Test.YtfoielhhflbbfaaG7
import Derived.Test.YtfoielhhflbbfaaG8
import Derived.Test.YtfoielhhflbbfaaPL
import Derived.Test.YtfoielhhflbbfaaG0
set_option linter.unusedVariables false
set_option linter.unusedSimpArgs false
namespace Go.Pl
open Go Go.Tv Go.RowKit
set_option linter.unusedVariables false
theorem v_vHands_eq {n : Nat} (hn : BIG ≤ n) {a b : List Card} (hl : a.length ≤ 9223372036854775806) : v_vHands n a b = some (decide (a = b)) := by
  unfold v_vHands
  by_cases hlen : a.length = b.length
  · have e0 : decide ((a.length : Int) = (b.length : Int)) = true := decide_eq_true (by omega)
    simp only [e0, Bool.not_true, br_false]
    have := fx_cnt (B := v_vHands_L1 n) a.length (fun i => (a, b, (i : Int))) (fun _ => True) (fun i => some (decide (a.drop i = b.drop i))) (fun self i hi _ ih => by
      simp only [v_vHands_L1]
      by_cases h : i < a.length
      · have e1 : decide ((i : Int) < (a.length : Int)) = true := decide_eq_true (by omega)
        simp only [e1, br_true, inb_ok h, inb_ok (show i < b.length by omega), ckb_true, toNat_cast, gl_eq h, gl_eq (show i < b.length by omega), lt_eq]
        rw [List.drop_eq_getElem_cons h, List.drop_eq_getElem_cons (show i < b.length by omega)]
        by_cases hc : a[i] = b[i]
        · simp only [eqd, hc, decide_true, Bool.not_true, br_false, List.cons.injEq, true_and]
          rw [w64_succ (by omega)]; exact ih h trivial
        · have hne : ¬ (a[i] :: a.drop (i + 1) = b[i] :: b.drop (i + 1)) := fun e => hc (List.cons.inj e).1
          rw [decide_eq_false hne]; unfold eqd; rw [decide_eq_false hc]; rfl
      · have e1 : decide ((i : Int) < (a.length : Int)) = false := decide_eq_false (by omega)
        simp only [e1, br_false]
        rw [List.drop_eq_nil_of_le (by omega), List.drop_eq_nil_of_le (by omega)]; simp) n 0 (Nat.zero_le _) trivial (big_gt hn (by omega))
    simpa using this
  · have e0 : decide ((a.length : Int) = (b.length : Int)) = false := decide_eq_false (by omega)
    simp only [e0, Bool.not_false, br_true]
    have : a ≠ b := fun h => hlen (by rw [h])
    simp [this]
theorem s_l2Drop_ok {n : Nat} {h : List Card} (hl : h.length ≤ 1000) {i : Int} (h0 : 0 ≤ i) (h1 : i < h.length) : s_l2Drop n h i = some (h.take i.toNat ++ h.drop (i.toNat + 1)) := by
  obtain ⟨k, rfl⟩ : ∃ k : Nat, i = k := ⟨i.toNat, by omega⟩
  unfold s_l2Drop
  have e1 : sub h 0 k = h.take k := by unfold sub; simp
  have e2 : sub h (k + 1) h.length = h.drop (k + 1) := by unfold sub; rw [List.take_of_length_le (by simp)]
  rw [toNat_cast, ckb_pos (slb_ok (by omega) (by omega) (by omega)), e1, s_l2Own_eq (by rw [List.length_take]; omega), ob_some, lt_eq, w64_succ (by omega), ckb_pos (slb_ok (by omega) (by omega) (by omega)), toNat_cast, e2,
    ckb_pos (apok_ok (by rw [List.length_take, List.length_drop]; omega) (by rw [List.length_take, List.length_drop]; omega))]
end Go.Pl
namespace Go.Pl
open Go Go.Tv Go.RowKit
set_option linter.unusedVariables false
theorem flat_J1 {n : Nat} {m : Nat} {c : Cu} (hc : CuOK m c) (hm : m < 4611686018427300000) {h : List Card} (hl : h.length ≤ 27) (b : Bool) (hb : b = true → 0 < h.length) : HandR n (m + 2) (s_Cur_flat'p_J1 n (b, c, h)) := by
  unfold s_Cur_flat'p_J1
  cases b with
  | false => exact ⟨c, h, rfl, by omega, hc.mono (by omega)⟩
  | true =>
    have := hb rfl
    simp only [br_true]
    obtain ⟨i, c1, e1, k1, i0, i1⟩ := pick_ok n hc (by omega) (a := (h.length : Int)) (by omega)
    rw [e1, ob_some, s_l2Drop_ok (by omega) i0 i1, ob_some]
    exact ⟨_, _, rfl, by rw [List.length_append, List.length_take, List.length_drop]; omega, k1⟩
theorem flat_L2 {n : Nat} (hn : BIG ≤ n) {m : Nat} {c : Cu} (hc : CuOK m c) (hm : m + 200 < 4611686018427300000) {h : List Card} (hl : h.length ≤ 81) : HandR n (m + 180) (fx (s_Cur_flat'p_L2 n) n (c, h)) := by
  refine fx_inv (B := s_Cur_flat'p_L2 n) (fun s => s.2.length ≤ 81 ∧ CuOK (m + 2 * (81 - s.2.length)) s.1) (fun s => s.2.length) (HandR n (m + 180)) ?_ n _ ⟨hl, hc.mono (by omega)⟩ (big_gt hn (by simp only []; omega))
  rintro self ⟨c, h⟩ ⟨hl, hc⟩ ih
  simp only [] at hl hc
  simp only [s_Cur_flat'p_L2]
  by_cases h27 : 27 < h.length
  · rw [br_pos (decide_eq_true (by omega))]
    obtain ⟨i, c1, e1, k1, i0, i1⟩ := pick_ok n hc (by omega) (a := (h.length : Int)) (by omega)
    have hlen : (h.take i.toNat ++ h.drop (i.toNat + 1)).length + 1 = h.length := by rw [List.length_append, List.length_take, List.length_drop]; omega
    rw [e1, ob_some, s_l2Drop_ok (by omega) i0 i1, ob_some]
    exact ih _ ⟨by simp only []; omega, k1.mono (by simp only []; omega)⟩ (by simp only []; omega)
  · rw [br_neg (decide_eq_false (by omega)), br_dec]
    split
    · obtain ⟨x, c1, e1, k1⟩ := one_ok n hc (by omega) (a := 3) (by omega)
      rw [e1, ob_some]
      obtain ⟨c', h', e, hl', k⟩ := flat_J1 (n := n) k1 (by omega) (h := h) (by omega) x (fun _ => by omega)
      exact ⟨c', h', e, hl', k.mono (by omega)⟩
    · obtain ⟨c', h', e, hl', k⟩ := flat_J1 (n := n) hc (by omega) (h := h) (by omega) false (fun h => by cases h)
      exact ⟨c', h', e, hl', k.mono (by omega)⟩
theorem flat_ok {n : Nat} (hn : BIG ≤ n) {m : Nat} {c : Cu} (hc : CuOK m c) (hm : m + 300 < 4611686018427300000) : HandR n (m + 200) (s_Cur_flat'p n c) := by
  unfold s_Cur_flat'p
  obtain ⟨q, c1, e1, k1, hq⟩ := among_ok n hc (by omega) (l := [3, 2, 1, 4]) (by decide)
  have hq' := mem_small hq 1 4 (by decide)
  rw [e1, ob_some]
  refine fx_inv (B := s_Cur_flat'p_L3 n) (fun s => ∃ (q : Int) (c : Cu) (h : List Card), s = (q, c, h) ∧ 0 ≤ q ∧ q ≤ 4 ∧ (h.length : Int) ≤ 4 - q ∧ AllC h ∧ CuOK (m + 2 + 2 * (4 - q.toNat)) c) (fun s => s.1.toNat) (HandR n (m + 200)) ?_ n _ ⟨q, c1, [], rfl, by omega, hq'.2, by simp; omega, fun c hc => (by cases hc), k1.mono (by omega)⟩ (big_gt hn (by simp only []; omega))
  clear hq hq' e1 k1 c1 q
  rintro self _ ⟨q, c, h, rfl, q0, q4, hl, ha, hc⟩ ih
  simp only [s_Cur_flat'p_L3]
  by_cases h0 : 0 < q
  · rw [br_pos (decide_eq_true h0)]
    obtain ⟨r, c3, e3, k3, r0, r1⟩ := pick_ok n hc (by omega) (a := 81) (by omega)
    have hx : isC (cardAt r) = true := cardAt_isC (by omega)
    rw [e3, ob_some, s_l2At_eq n (by omega), ob_some, s_l2Put_eq hn ha (by omega) hx, ob_some, lt_eq, w64_id (by omega)]
    have := ins_len (c := cardAt r) (l := h)
    exact ih _ ⟨q - 1, c3, _, rfl, by omega, by omega, by omega, ins_allC hx ha, k3.mono (by omega)⟩ (by simp only []; omega)
  · rw [br_neg (decide_eq_false h0)]
    obtain ⟨r, e, R⟩ := s_l6Span_ok hn ha (by omega)
    rw [e, ob_some]
    obtain ⟨c', h', e', hl', k⟩ := flat_L2 hn hc (by omega) (nodup_len81 R.ss.nodup R.c)
    exact ⟨c', h', e', hl', k.mono (by omega)⟩
theorem someHand_ok {n : Nat} (hn : BIG ≤ n) {m : Nat} {c : Cu} (hc : CuOK m c) (hm : m + 400 < 4611686018427300000) : HandR n (m + 300) (s_Cur_someHand'p n c) := by
  unfold s_Cur_someHand'p
  obtain ⟨x, c1, e1, k1⟩ := one_ok n hc (by omega) (a := 2) (by omega)
  rw [e1, ob_some]
  cases x with
  | true =>
    obtain ⟨c', h', e', hl', k⟩ := flat_ok hn k1 (by omega)
    rw [br_true, e', ob_some]
    exact ⟨c', h', rfl, hl', k.mono (by omega)⟩
  | false =>
    obtain ⟨c', h', e', hl', k⟩ := hand_ok hn k1 (by omega)
    rw [br_false, e', ob_some]
    exact ⟨c', h', rfl, hl', k.mono (by omega)⟩
end Go.Pl
namespace Go.Pl
open Go Go.Tv Go.RowKit
set_option linter.unusedVariables false
set_option linter.unusedSimpArgs false
theorem v_rIn_eq {n : Nat} (hn : BIG ≤ n) {a : List Card} (hl : a.length ≤ 1000000) (x : Card) : v_rIn n a x = some (a.contains x) := by
  unfold v_rIn
  have := fx_cnt (B := v_rIn_L1 n) a.length (fun i => (a, (i : Int), x)) (fun _ => True) (fun i => some ((a.drop i).contains x)) (fun self i hi _ ih => by
    simp only [v_rIn_L1]
    by_cases h : i < a.length
    · have g : gl (⟨0, 0, 0, 0⟩ : Card) a i = a[i] := gl_eq h
      rw [br_pos (decide_eq_true (show (i : Int) < (a.length : Int) by omega)), ckb_pos (inb_ok h), toNat_cast, g, lt_eq, w64_succ (by omega)]
      rw [List.drop_eq_getElem_cons h, List.contains_cons]
      unfold eqd
      by_cases hc : a[i] = x
      · rw [br_pos (decide_eq_true hc)]; simp [hc]
      · rw [br_neg (decide_eq_false hc), ih h trivial]
        have : (x == a[i]) = false := by simpa [beq_eq_false_iff_ne] using fun e => hc (Eq.symm e)
        rw [this, Bool.false_or]
    · rw [br_neg (decide_eq_false (by omega)), List.drop_eq_nil_of_le (by omega)]; rfl) n 0 (Nat.zero_le _) trivial (big_gt hn (by omega))
  simpa using this
end Go.Pl
