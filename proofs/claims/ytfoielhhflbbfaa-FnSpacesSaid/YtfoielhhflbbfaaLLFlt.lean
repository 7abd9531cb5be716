/- Plain laws: LFlt. -/
import Derived.Test.YtfoielhhflbbfaaLLCp
import Derived.Test.YtfoielhhflbbfaaPL
set_option linter.unusedVariables false
set_option linter.unusedSimpArgs false
namespace Go.Pl
open Go Go.Tv Go.RowKit
set_option linter.unusedVariables false
theorem flat_J1 {n : Nat} {m : Nat} {c : Cu} (hc : CuOK m c) (hm : m < 4611686018427300000) {h : List Card} (hl : h.length ≤ 27) (b : Bool) (hb : b = true → 0 < h.length) : HandR n (m + 2) (s_Cur_flat'p_J1 n (b, c, h)) := by
  unfold s_Cur_flat'p_J1
  cases b with
  | false => exact ⟨c, h, rfl, by omega, hc.mono (by omega)⟩
  | true =>
    have := hb rfl
    simp only [br_true]
    obtain ⟨i, c1, e1, k1, i0, i1⟩ := pick_ok n hc (by omega) (a := (h.length : Int)) (by omega)
    rw [e1, ob_some, s_l2Drop_ok (by omega) i0 i1, ob_some]
    exact ⟨_, _, rfl, by rw [List.length_append, List.length_take, List.length_drop]; omega, k1⟩
theorem flat_L2 {n : Nat} (hn : BIG ≤ n) {m : Nat} {c : Cu} (hc : CuOK m c) (hm : m + 200 < 4611686018427300000) {h : List Card} (hl : h.length ≤ 81) : HandR n (m + 180) (fx (s_Cur_flat'p_L2 n) n (c, h)) := by
  refine fx_inv (B := s_Cur_flat'p_L2 n) (fun s => s.2.length ≤ 81 ∧ CuOK (m + 2 * (81 - s.2.length)) s.1) (fun s => s.2.length) (HandR n (m + 180)) ?_ n _ ⟨hl, hc.mono (by omega)⟩ (big_gt hn (by simp only []; omega))
  rintro self ⟨c, h⟩ ⟨hl, hc⟩ ih
  simp only [] at hl hc
  simp only [s_Cur_flat'p_L2]
  by_cases h27 : 27 < h.length
  · rw [br_pos (decide_eq_true (by omega))]
    obtain ⟨i, c1, e1, k1, i0, i1⟩ := pick_ok n hc (by omega) (a := (h.length : Int)) (by omega)
    have hlen : (h.take i.toNat ++ h.drop (i.toNat + 1)).length + 1 = h.length := by rw [List.length_append, List.length_take, List.length_drop]; omega
    rw [e1, ob_some, s_l2Drop_ok (by omega) i0 i1, ob_some]
    exact ih _ ⟨by simp only []; omega, k1.mono (by simp only []; omega)⟩ (by simp only []; omega)
  · rw [br_neg (decide_eq_false (by omega)), br_dec]
    split
    · obtain ⟨x, c1, e1, k1⟩ := one_ok n hc (by omega) (a := 3) (by omega)
      rw [e1, ob_some]
      obtain ⟨c', h', e, hl', k⟩ := flat_J1 (n := n) k1 (by omega) (h := h) (by omega) x (fun _ => by omega)
      exact ⟨c', h', e, hl', k.mono (by omega)⟩
    · obtain ⟨c', h', e, hl', k⟩ := flat_J1 (n := n) hc (by omega) (h := h) (by omega) false (fun h => by cases h)
      exact ⟨c', h', e, hl', k.mono (by omega)⟩
theorem flat_ok {n : Nat} (hn : BIG ≤ n) {m : Nat} {c : Cu} (hc : CuOK m c) (hm : m + 300 < 4611686018427300000) : HandR n (m + 200) (s_Cur_flat'p n c) := by
  unfold s_Cur_flat'p
  obtain ⟨q, c1, e1, k1, hq⟩ := among_ok n hc (by omega) (l := [3, 2, 1, 4]) (by decide)
  have hq' := mem_small hq 1 4 (by decide)
  rw [e1, ob_some]
  refine fx_inv (B := s_Cur_flat'p_L3 n) (fun s => ∃ (q : Int) (c : Cu) (h : List Card), s = (q, c, h) ∧ 0 ≤ q ∧ q ≤ 4 ∧ (h.length : Int) ≤ 4 - q ∧ AllC h ∧ CuOK (m + 2 + 2 * (4 - q.toNat)) c) (fun s => s.1.toNat) (HandR n (m + 200)) ?_ n _ ⟨q, c1, [], rfl, by omega, hq'.2, by simp; omega, fun c hc => (by cases hc), k1.mono (by omega)⟩ (big_gt hn (by simp only []; omega))
  clear hq hq' e1 k1 c1 q
  rintro self _ ⟨q, c, h, rfl, q0, q4, hl, ha, hc⟩ ih
  simp only [s_Cur_flat'p_L3]
  by_cases h0 : 0 < q
  · rw [br_pos (decide_eq_true h0)]
    obtain ⟨r, c3, e3, k3, r0, r1⟩ := pick_ok n hc (by omega) (a := 81) (by omega)
    have hx : isC (cardAt r) = true := cardAt_isC (by omega)
    rw [e3, ob_some, s_l2At_eq n (by omega), ob_some, s_l2Put_eq hn ha (by omega) hx, ob_some, lt_eq, w64_id (by omega)]
    have := ins_len (c := cardAt r) (l := h)
    exact ih _ ⟨q - 1, c3, _, rfl, by omega, by omega, by omega, ins_allC hx ha, k3.mono (by omega)⟩ (by simp only []; omega)
  · rw [br_neg (decide_eq_false h0)]
    obtain ⟨r, e, R⟩ := s_l6Span_ok hn ha (by omega)
    rw [e, ob_some]
    obtain ⟨c', h', e', hl', k⟩ := flat_L2 hn hc (by omega) (nodup_len81 R.ss.nodup R.c)
    exact ⟨c', h', e', hl', k.mono (by omega)⟩
theorem someHand_ok {n : Nat} (hn : BIG ≤ n) {m : Nat} {c : Cu} (hc : CuOK m c) (hm : m + 400 < 4611686018427300000) : HandR n (m + 300) (s_Cur_someHand'p n c) := by
  unfold s_Cur_someHand'p
  obtain ⟨x, c1, e1, k1⟩ := one_ok n hc (by omega) (a := 2) (by omega)
  rw [e1, ob_some]
  cases x with
  | true =>
    obtain ⟨c', h', e', hl', k⟩ := flat_ok hn k1 (by omega)
    rw [br_true, e', ob_some]
    exact ⟨c', h', rfl, hl', k.mono (by omega)⟩
  | false =>
    obtain ⟨c', h', e', hl', k⟩ := hand_ok hn k1 (by omega)
    rw [br_false, e', ob_some]
    exact ⟨c', h', rfl, hl', k.mono (by omega)⟩
end Go.Pl
