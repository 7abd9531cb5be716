/- Plain laws: LCk. -/
import Derived.Test.YtifcbamdncpahaaDoorLLRec
import Derived.Test.YtifcbamdncpahaaDoorLLCut
import Derived.Test.YtifcbamdncpahaaDoorPL
set_option linter.unusedVariables false
set_option linter.unusedSimpArgs false
namespace Go.Pl
open Go Go.Tv Go.RowKit
theorem sumS_inj {h k : Int} (hh : SumR h) (hk : SumR k) {b : UInt8} (e : sumS h b = sumS k b) : h = k := by
  unfold sumS at e
  obtain ⟨h0, h1⟩ := hh
  obtain ⟨k0, k1⟩ := hk
  have hb := b.toNat_lt
  rw [Int.tmod_eq_emod_of_nonneg (by omega), Int.tmod_eq_emod_of_nonneg (by omega)] at e
  omega
theorem fold_inj : ∀ (l : List UInt8) {h k : Int}, SumR h → SumR k → l.foldl sumS h = l.foldl sumS k → h = k
  | [], _, _, _, _, e => e
  | b :: l, h, k, hh, hk, e => sumS_inj hh hk (fold_inj l (sumS_R hh b) (sumS_R hk b) e)
theorem fold_R : ∀ (l : List UInt8) {h : Int}, SumR h → SumR (l.foldl sumS h)
  | [], _, hh => hh
  | b :: l, _, hh => fold_R l (sumS_R hh b)
theorem sum_change {p q : List UInt8} {b c : UInt8} (hne : b ≠ c) : sumL (p ++ b :: q) ≠ sumL (p ++ c :: q) := by
  unfold sumL
  rw [List.foldl_append, List.foldl_append, List.foldl_cons, List.foldl_cons]
  have h7 : SumR 7 := ⟨by omega, by omega⟩
  have hp := fold_R p h7
  generalize p.foldl sumS 7 = h at *
  intro e
  have := fold_inj q (sumS_R hp b) (sumS_R hp c) e
  unfold sumS at this
  obtain ⟨h0, h1⟩ := hp
  have hb := b.toNat_lt
  have hc := c.toNat_lt
  rw [Int.tmod_eq_emod_of_nonneg (by omega), Int.tmod_eq_emod_of_nonneg (by omega)] at this
  exact hne (UInt8.toNat_inj.1 (by omega))
def apdC (x : ByteArray) : ByteArray × Bool := if 4000 < x.size ∨ stands x 35 = true ∨ 4000 < (sealL (bl x)).length then (mk [], false) else (mk (sealL (bl x)), true)
def verC (y : ByteArray) : ByteArray × Bool := if (apdC (mk (bef 35 (bl y)))).2 = true ∧ (apdC (mk (bef 35 (bl y)))).1 = y then (mk (bef 35 (bl y)), true) else (⟨#[]⟩, false)
theorem i_VerifyChecksum_eq {n : Nat} (hn : BIG ≤ n) {y : ByteArray} (hl : y.size ≤ 1000000) : i_VerifyChecksum n y = some (verC y) := by
  unfold i_VerifyChecksum verC
  have o35 : (⟨#[35]⟩ : ByteArray) = one 35 := rfl
  have hbl := bef_len 35 (bl y)
  rw [bl_len] at hbl
  rw [o35, Cut_eq (by omega), ob_some]
  dsimp only
  have ha : i_AppendChecksum n (mk (bef 35 (bl y))) = some (apdC (mk (bef 35 (bl y)))) := i_AppendChecksum_eq hn (by rw [mk_size]; omega)
  rw [ha, ob_some, eqd_str]
  cases h : (apdC (mk (bef 35 (bl y)))).2 with
  | false => rw [if_neg (by simp)]; rfl
  | true =>
    by_cases he : (apdC (mk (bef 35 (bl y)))).1 = y
    · rw [decide_eq_true he, if_pos ⟨rfl, he⟩]; rfl
    · rw [decide_eq_false he, if_neg (fun hh => he hh.2)]; rfl
theorem s_AppendChecksum_eq {n : Nat} (hn : BIG ≤ n) {x : ByteArray} (hl : x.size ≤ 1000000) : s_AppendChecksum n x = some (apdC x) := by
  unfold s_AppendChecksum apdC
  by_cases h1 : (4000 : Int) < (x.size : Int)
  · rw [decide_eq_true h1, br_true, ob_some, br_true, ob_some, br_true, if_pos (.inl (by omega))]; rfl
  rw [decide_eq_false h1, br_false, s_l1Stands_eq hn (by omega), ob_some, ob_some]
  by_cases h2 : stands x 35 = true
  · rw [h2, br_true, ob_some, br_true, if_pos (.inr (.inl rfl))]; rfl
  have h2' : stands x 35 = false := by simpa using h2
  rw [h2', br_false, s_l1Seal_eq hn hl, ob_some, ob_some, mk_size]
  by_cases h3 : (4000 : Int) < ((sealL (bl x)).length : Int)
  · rw [decide_eq_true h3, br_true, if_pos (.inr (.inr (by omega)))]; rfl
  · rw [decide_eq_false h3, br_false, ob_some, if_neg (by rintro (h | h | h) <;> first | omega | cases h)]
theorem no35 {x : ByteArray} (h : stands x 35 = false) : (35 : UInt8) ∉ bl x := by
  intro hm
  unfold stands at h
  have := (List.any_eq_false.1 h) _ hm
  simp at this
theorem num35 (l : List UInt8) : (35 : UInt8) ∉ numL (sumL l) := by
  obtain ⟨q0, q1⟩ := sumL_R l
  intro hm
  have := num_dig q0 (by omega) _ hm
  have e : (35 : UInt8).toNat = 35 := rfl
  omega
theorem apd_parts {x : ByteArray} (h : (apdC x).2 = true) : (35 : UInt8) ∉ bl x ∧ bl (apdC x).1 = sealL (bl x) ∧ x.size ≤ 4000 ∧ (sealL (bl x)).length ≤ 4000 := by
  unfold apdC at h ⊢
  split at h
  · cases h
  · rename_i hc
    rw [if_neg hc]
    simp only [not_or] at hc
    exact ⟨no35 (by simpa using hc.2.1), by simp, by omega, by omega⟩
theorem ver_apd {x : ByteArray} (h : (apdC x).2 = true) : verC (apdC x).1 = (x, true) := by
  obtain ⟨h1, h2, _, _⟩ := apd_parts h
  unfold verC
  have e : mk (bef 35 (bl (apdC x).1)) = x := by
    rw [h2]
    unfold sealL
    rw [bef_app _ h1, bef_self, List.append_nil, mk_bl]
  rw [e, if_pos ⟨h, rfl⟩]
theorem txt_inj6 {a b : Int} (ha : 0 ≤ a) (hb : 0 ≤ b) (ha2 : a < 1000000) (hb2 : b < 1000000) (h : numL a = numL b) : a = b := by
  rw [num_pos (by omega), num_pos (by omega)] at h
  have key : ∀ (k u v : Nat), u < 10 ^ k → v < 10 ^ k → Lib.decDigits u = Lib.decDigits v → u = v := by
    intro k
    induction k with
    | zero => intro u v hu hv _; omega
    | succ k ih =>
      intro u v hu hv e
      rw [Nat.pow_succ] at hu hv
      have dig : ∀ d, d < 10 → (UInt8.ofNat (48 + d)).toNat = 48 + d := fun d hd => by rw [UInt8.toNat_ofNat']; omega
      by_cases h1 : u < 10
      · by_cases h2 : v < 10
        · rw [dec_small h1, dec_small h2] at e
          injection e with e
          have := congrArg UInt8.toNat e
          rw [dig u h1, dig v h2] at this; omega
        · rw [dec_small h1, dec_big h2] at e
          have := congrArg List.length e
          rw [List.length_append, List.length_singleton, List.length_singleton] at this
          have hp : 1 ≤ (Lib.decDigits (v / 10)).length := by
            by_cases h3 : v / 10 < 10
            · rw [dec_small h3]; simp
            · rw [dec_big h3]; simp
          omega
      · by_cases h2 : v < 10
        · rw [dec_big h1, dec_small h2] at e
          have := congrArg List.length e
          rw [List.length_append, List.length_singleton, List.length_singleton] at this
          have hp : 1 ≤ (Lib.decDigits (u / 10)).length := by
            by_cases h3 : u / 10 < 10
            · rw [dec_small h3]; simp
            · rw [dec_big h3]; simp
          omega
        · rw [dec_big h1, dec_big h2] at e
          have e1 := List.append_inj_left' e rfl
          have e2 := List.append_inj_right' e rfl
          injection e2 with e2
          have := congrArg UInt8.toNat e2
          rw [dig _ (by omega), dig _ (by omega)] at this
          have := ih (u / 10) (v / 10) (by omega) (by omega) e1
          omega
  have := key 6 a.toNat b.toNat (by omega) (by omega) h
  omega
theorem ver_changed {x : ByteArray} (h : (apdC x).2 = true) {k : Nat} (hk : k < (bl (apdC x).1).length) {c : UInt8} (hc : c ≠ (bl (apdC x).1)[k]) {y : ByteArray} (hy : bl y = (bl (apdC x).1).set k c) : (verC y).2 = false := by
  obtain ⟨h1, h2, _, _⟩ := apd_parts h
  unfold verC
  split
  case isFalse => rfl
  case isTrue hv =>
    exfalso
    obtain ⟨v1, v2⟩ := hv
    obtain ⟨w1, w2, _, _⟩ := apd_parts v1
    have hyy : sealL (bef 35 (bl y)) = bl y := by
      have := congrArg bl v2
      rw [w2, bl_mk] at this
      exact this
    have hl : bl (apdC x).1 = bl x ++ 35 :: numL (sumL (bl x)) := h2
    generalize bl (apdC x).1 = A at *
    have hn35 := num35 (bl x)
    generalize hX : bl x = X at *
    have hAl : A.length = X.length + 1 + (numL (sumL X)).length := by rw [hl]; simp; omega
    have hkc : c ≠ A[k] := hc
    rcases Nat.lt_trichotomy k X.length with hlt | heq | hgt
    · -- in the text
      have hset : bl y = X.set k c ++ 35 :: numL (sumL X) := by rw [hy, hl, List.set_append_left _ _ hlt]
      have hXk : A[k] = X[k] := by simp only [hl, List.getElem_append_left hlt]
      have hXs : X = X.take k ++ X[k] :: X.drop (k + 1) := by rw [← List.drop_eq_getElem_cons hlt, List.take_append_drop]
      have hXc : X.set k c = X.take k ++ c :: X.drop (k + 1) := List.set_eq_take_append_cons_drop.trans (by rw [if_pos hlt])
      by_cases h35 : c = 35
      · -- a second sign
        have hb : bef 35 (bl y) = X.take k := by
          rw [hset, hXc, h35, List.append_assoc, List.cons_append, bef_app _ (fun hm => h1 (List.mem_of_mem_take hm)), bef_self, List.append_nil]
        rw [hb, hset, hXc, h35] at hyy
        unfold sealL at hyy
        rw [List.append_assoc, List.cons_append] at hyy
        have := List.append_cancel_left hyy
        injection this with _ this
        exact num35 (X.take k) (by rw [this]; simp)
      · have hno : (35 : UInt8) ∉ X.set k c := by
          rw [hXc]
          simp only [List.mem_append, List.mem_cons, not_or]
          exact ⟨fun hm => h1 (List.mem_of_mem_take hm), fun e => h35 e.symm, fun hm => h1 (List.mem_of_mem_drop hm)⟩
        have hb : bef 35 (bl y) = X.set k c := by rw [hset, bef_app _ hno, bef_self, List.append_nil]
        rw [hb, hset] at hyy
        unfold sealL at hyy
        have := List.append_cancel_left hyy
        injection this with _ this
        obtain ⟨q0, q1⟩ := sumL_R (X.set k c)
        obtain ⟨r0, r1⟩ := sumL_R X
        have hs := txt_inj6 q0 r0 (by omega) (by omega) this
        have hne := sum_change (p := X.take k) (q := X.drop (k + 1)) (b := c) (c := X[k]) (by rw [← hXk]; exact hkc)
        rw [← hXc, ← hXs] at hne
        exact hne hs
    · -- the sign itself
      subst heq
      have hset : bl y = X ++ c :: numL (sumL X) := by rw [hy, hl, List.set_append_right _ _ (Nat.le_refl _), Nat.sub_self]; rfl
      have hAk : A[X.length] = 35 := by simp [hl]
      have hno : (35 : UInt8) ∉ bl y := by
        rw [hset]
        simp only [List.mem_append, List.mem_cons, not_or]
        exact ⟨h1, fun e => hkc (by rw [hAk, e]), hn35⟩
      rw [bef_no hno] at hyy
      have := congrArg List.length hyy
      unfold sealL at this
      rw [List.length_append, List.length_cons] at this
      omega
    · -- in the checksum
      have hset : bl y = X ++ 35 :: (numL (sumL X)).set (k - X.length - 1) c := by
        rw [hy, hl, List.set_append_right _ _ (by omega)]
        obtain ⟨j, hj⟩ : ∃ j, k - X.length = j + 1 := ⟨k - X.length - 1, by omega⟩
        rw [hj]; rfl
      have hb : bef 35 (bl y) = X := by rw [hset, bef_app _ h1, bef_self, List.append_nil]
      have hAA : bl y = A := by rw [← hyy, hb, hl]; rfl
      rw [hAA] at hy
      have := congrArg (fun l => l[k]?) hy
      simp only [List.getElem?_set_self hk, List.getElem?_eq_getElem hk] at this
      injection this with this
      exact hkc this.symm
end Go.Pl
