/- Plain laws: LDh. -/
import Derived.Test.YtfoielhhflbbfaaLLSo6
import Derived.Test.YtfoielhhflbbfaaLLD2
set_option linter.unusedVariables false
set_option linter.unusedSimpArgs false
namespace Go.Pl
open Go Go.Tv Go.RowKit
set_option linter.unusedVariables false
theorem isC_set {c : Card} (h : isC c = true) (k : Nat) {x : Int} (hx : 0 ≤ x ∧ x ≤ 2) : isC (V4.set c k x) = true := by
  rw [isC_iff] at h ⊢
  match k with
  | 0 => exact ⟨hx, h.2⟩
  | 1 => exact ⟨h.1, hx, h.2.2⟩
  | 2 => exact ⟨h.1, h.2.1, hx, h.2.2.2⟩
  | k + 3 => exact ⟨h.1, h.2.1, h.2.2.1, hx⟩
theorem mem_small {l : List Int} {r : Int} (h : r ∈ l) (lo hi : Int) (hl : ∀ x ∈ l, lo ≤ x ∧ x ≤ hi) : lo ≤ r ∧ r ≤ hi := hl r h
def HandR (n m : Nat) (o : Opt (Cu × List Card)) : Prop := ∃ c' h, o = some (c', h) ∧ h.length ≤ 29 ∧ CuOK m c'
theorem hand_J2 (n : Nat) {m : Nat} {c : Cu} (hc : CuOK m c) (hm : m < 4611686018427300000) {h : List Card} (hl : h.length ≤ 28) (b : Bool) (hb : b = true → 0 < h.length) : HandR n (m + 20) (s_Cur_hand'p_J2 n (b, c, h)) := by
  unfold s_Cur_hand'p_J2
  cases b with
  | false => exact ⟨c, h, rfl, by omega, hc.mono (by omega)⟩
  | true =>
    have h0 := hb rfl
    simp only [br_true]
    obtain ⟨i, c1, e1, k1, i0, i1⟩ := pick_ok n hc (by omega) (a := (h.length : Int)) (by omega)
    rw [e1, ob_some]
    obtain ⟨q, c2, e2, k2, q0, q1⟩ := pick_ok n k1 (by omega) (a := 3) (by omega)
    rw [e2, ob_some, br_dec]
    split
    · obtain ⟨t, c3, e3, k3, t0, t1⟩ := pick_ok n k2 (by omega) (a := 4) (by omega)
      rw [e3, ob_some]
      obtain ⟨y, c4, e4, k4, _⟩ := among_ok n k3 (by omega) (l := [(-1), 3]) (by decide)
      rw [e4, ob_some, ckb_pos (inb_pos i0 i1), ckb_pos (inb_pos t0 t1), lt_eq]
      exact ⟨_, _, rfl, by rw [List.length_set]; omega, k4.mono (by omega)⟩
    · rw [br_dec]
      split
      · rw [ckb_pos (inb_pos i0 i1), ckb_pos (apok_ok (by omega) (by omega))]
        exact ⟨_, _, rfl, by simp; omega, k2.mono (by omega)⟩
      · obtain ⟨t, c3, e3, k3, t0, t1⟩ := pick_ok n k2 (by omega) (a := 81) (by omega)
        rw [e3, ob_some, s_l2At_eq n (by omega), ob_some, ckb_pos (inb_pos i0 i1), lt_eq]
        exact ⟨_, _, rfl, by rw [List.length_set]; omega, k3.mono (by omega)⟩
theorem hand_ok {n : Nat} (hn : BIG ≤ n) {m : Nat} {c : Cu} (hc : CuOK m c) (hm : m + 200 < 4611686018427300000) : HandR n (m + 200) (s_Cur_hand'p n c) := by
  unfold s_Cur_hand'p
  obtain ⟨t, c1, e1, k1, ht⟩ := among_ok n hc (by omega) (l := [4, 3, 4, 2]) (by decide)
  rw [e1, ob_some]
  obtain ⟨q, c2, e2, k2, hq⟩ := among_ok n k1 (by omega) (l := [6, 9, 4, 12, 3, 2, 1, 0, 20, 26, 27, 28]) (by decide)
  rw [e2, ob_some]
  have ht' := mem_small ht 2 4 (by decide)
  have hq' := mem_small hq 0 28 (by decide)
  refine fx_inv (B := s_Cur_hand'p_L3 n) (fun s => ∃ (q : Int) (c : Cu) (h : List Card), s = (t, q, c, h) ∧ 0 ≤ q ∧ q ≤ 28 ∧ (h.length : Int) ≤ 28 - q ∧ AllC h ∧ CuOK (m + 4 + 2 * (28 - q.toNat)) c)
    (fun s => s.2.1.toNat) (HandR n (m + 200)) ?_ n _ ⟨q, c2, [], rfl, hq'.1, hq'.2, by simp; omega, fun c hc => (by cases hc), k2.mono (by omega)⟩ (big_gt hn (by simp only []; omega))
  clear e1 e2 k1 k2 hq hq' c1 c2 q
  rintro self _ ⟨q, c, h, rfl, q0, q28, hl, ha, hc⟩ ih
  simp only [s_Cur_hand'p_L3]
  by_cases h0 : 0 < q
  · rw [br_pos (decide_eq_true h0)]
    obtain ⟨r, c3, e3, k3, r0, r1⟩ := pick_ok n hc (by omega) (a := 81) (by omega)
    rw [e3, ob_some, s_l2At_eq n (by omega), ob_some]
    refine fx_inv (B := s_Cur_hand'p_L1 n self) (fun s => ∃ (i : Int) (x : Card), s = (t, q, i, c3, h, x) ∧ 0 ≤ i ∧ i ≤ 4 ∧ isC x = true) (fun s => (4 - s.2.2.1).toNat) (HandR n (m + 200)) ?_ n _ ⟨t, cardAt r, rfl, by omega, by omega, cardAt_isC (by omega)⟩ (big_gt hn (by simp only []; omega))
    rintro self2 _ ⟨i, x, rfl, i0, i4, hx⟩ ih2
    simp only [s_Cur_hand'p_L1]
    by_cases hi : i < 4
    · rw [br_pos (decide_eq_true hi), ckb_pos (inb_pos i0 (by omega)), lt_eq, lt_eq, w64_id (by omega)]
      exact ih2 _ ⟨i + 1, _, rfl, by omega, by omega, isC_set hx _ (by omega)⟩ (by simp only []; omega)
    · rw [br_neg (decide_eq_false hi), s_l2Put_eq hn ha (by omega) hx, ob_some, lt_eq, w64_id (by omega)]
      have := ins_len (c := x) (l := h)
      exact ih _ ⟨q - 1, c3, _, rfl, by omega, by omega, by omega, ins_allC hx ha, k3.mono (by omega)⟩ (by simp only []; omega)
  · rw [br_neg (decide_eq_false h0), br_dec]
    split
    · obtain ⟨b, c4, e4, k4⟩ := one_ok n hc (by omega) (a := 24) (by omega)
      rw [e4, ob_some]
      obtain ⟨c', h', e, h1, h2⟩ := hand_J2 n k4 (by omega) (h := h) (by omega) b (fun _ => by omega)
      exact ⟨c', h', e, h1, h2.mono (by omega)⟩
    · obtain ⟨c', h', e, h1, h2⟩ := hand_J2 n hc (by omega) (h := h) (by omega) false (fun h => by cases h)
      exact ⟨c', h', e, h1, h2.mono (by omega)⟩
end Go.Pl
