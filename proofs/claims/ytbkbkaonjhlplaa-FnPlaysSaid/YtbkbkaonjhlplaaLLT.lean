/- Plain laws: LT. -/
import Derived.Test.YtbkbkaonjhlplaaLLS
import Derived.Test.YtbkbkaonjhlplaaLL7
set_option linter.unusedVariables false
set_option linter.unusedSimpArgs false
namespace Go.Pl
open Go Go.Tv Go.RowKit
set_option linter.unusedVariables false

/-! taking of lines; deals stay deals -/
theorem DealOK.len {p : List Card} {d : Deal} (h : DealOK p d) (hp : p.length = 81) : d.2.2.length ≤ 81 := by
  have := len_le h.nodup h.mem
  rw [List.length_take] at this; omega
theorem DealOK.isC {p : List Card} {d : Deal} (h : DealOK p d) (hp : p.Perm deck) : ∀ c, c ∈ d.2.2 → isC c = true := fun c hc => (pile_facts hp).2.2 c (List.mem_of_mem_take (h.mem c hc))
theorem layD_ok {p : List Card} {d : Deal} (h : DealOK p d) (hp : p.Perm deck) {k : Int} (hk : 0 ≤ k) : DealOK p (layD p d k) := by
  obtain ⟨h81, hnd, _⟩ := pile_facts hp
  have hl := h.laid
  unfold layD
  generalize hr : (if 81 < d.2.1 + k then (81 : Int) else d.2.1 + k) = r
  have hr2 : d.2.1 ≤ r ∧ r ≤ 81 := by split at hr <;> omega
  have hab : d.2.1.toNat ≤ r.toNat := by omega
  have hsub : ∀ c, c ∈ sub p d.2.1.toNat r.toNat → c ∈ p.drop d.2.1.toNat := fun c hc => by unfold sub at hc; exact List.mem_of_mem_take hc
  refine ⟨h.seed, by show 0 ≤ r ∧ r ≤ 81; omega, ?_, ?_⟩
  · show (d.2.2 ++ sub p d.2.1.toNat r.toNat).Nodup
    rw [List.nodup_append]
    have hd : (p.take d.2.1.toNat ++ p.drop d.2.1.toNat).Nodup := by rw [List.take_append_drop]; exact hnd
    rw [List.nodup_append] at hd
    refine ⟨h.nodup, ?_, fun a ha b hb => hd.2.2 a (h.mem a ha) b (hsub b hb)⟩
    unfold sub
    exact (hd.2.1).sublist (List.take_sublist _ _)
  · show ∀ c, c ∈ d.2.2 ++ sub p d.2.1.toNat r.toNat → c ∈ p.take r.toNat
    intro c hc
    rw [← sub_take p hab]
    rcases List.mem_append.1 hc with hc | hc
    · exact List.mem_append.2 (.inl (h.mem c hc))
    · exact List.mem_append.2 (.inr hc)

def inT (t : V3 Int) (k : Int) : Bool := (V3.els t).contains k
def rest1 (h : List Card) (t : V3 Int) (k : Nat) : List Card := if inT t k = true then [] else [gl ⟨0, 0, 0, 0⟩ h k]
def rest (h : List Card) (t : V3 Int) : List Card := (List.range' 0 (h.length - 0)).flatMap (rest1 h t)
theorem rest_sub (h : List Card) (t : V3 Int) : ∀ (m i : Nat), h.length - i = m → i ≤ h.length → ((List.range' i m).flatMap (rest1 h t)).Sublist (h.drop i)
  | 0, i, hm, hi => by simp
  | m + 1, i, hm, hi => by
    have hlt : i < h.length := by omega
    rw [List.range'_succ, List.flatMap_cons, List.drop_eq_getElem_cons hlt]
    have ih := rest_sub h t m (i + 1) (by omega) (by omega)
    unfold rest1
    split
    · exact ih.cons _
    · rw [gl_eq hlt]
      exact ih.cons_cons _
theorem rest_sublist (h : List Card) (t : V3 Int) : (rest h t).Sublist h := by
  have := rest_sub h t h.length 0 rfl (Nat.zero_le _)
  unfold rest
  simpa using this
def restD (d : Deal) (t : V3 Int) : Deal := (d.1, d.2.1, rest d.2.2 t)
theorem restD_ok {p : List Card} {d : Deal} (h : DealOK p d) (t : V3 Int) : DealOK p (restD d t) :=
  ⟨h.seed, h.laid, h.nodup.sublist (rest_sublist _ _), fun c hc => h.mem c ((rest_sublist _ _).mem hc)⟩
def takeD (p : List Card) (d : Deal) (t : V3 Int) : Deal := layD p (restD d t) (if (rest d.2.2 t).length < 12 then 12 - ((rest d.2.2 t).length : Int) else 0)
theorem takeD_ok {p : List Card} {d : Deal} (h : DealOK p d) (hp : p.Perm deck) (t : V3 Int) : DealOK p (takeD p d t) := layD_ok (restD_ok h t) hp (by split <;> omega)
theorem rest_len (h : List Card) (t : V3 Int) : (rest h t).length ≤ h.length := (rest_sublist h t).length_le
theorem s_l4Take_eq {n : Nat} (hn : BIG ≤ n) {p : List Card} {d : Deal} (hp : s_l4Pile n d.1 = some p) (hpp : p.Perm deck) (hd : DealOK p d) (t : V3 Int) : s_l4Take n d t = some (takeD p d t) := by
  obtain ⟨h81, _, _⟩ := pile_facts hpp
  have hl81 := hd.len h81
  have hrl := rest_len d.2.2 t
  unfold s_l4Take
  have := fx_app (B := s_l4Take_L1 n) d.2.2.length (fun i a => ((i : Int), d, t, (0 : Int), (0 : Int), d.1, d.2.1, a)) (rest1 d.2.2 t)
    (fun a => Tv.lt (w64 (12 - (a.length : Int))) fun x9 => ob (s_l1Most n 0 x9) fun r10 => ob (s_l4Lay n (d.1, (d.2.1, a)) r10) fun r11 => some (r11.1, r11.2.1, r11.2.2)) 1000 (fun self i a hi hM => ?_) (fun self a => ?_) n 0 [] (Nat.zero_le _) (big_gt hn (by omega)) (by unfold rest at hrl; simp only [List.length_nil]; omega)
  · refine Eq.trans this ?_
    rw [List.nil_append]
    show (Tv.lt (w64 (12 - ((rest d.2.2 t).length : Int))) fun x9 => ob (s_l1Most n 0 x9) fun r10 => ob (s_l4Lay n (d.1, (d.2.1, rest d.2.2 t)) r10) fun r11 => some (r11.1, r11.2.1, r11.2.2)) = _
    rw [lt_eq, w64_id (by omega)]
    unfold s_l1Most
    rw [br_some, ob_some]
    have e : (if decide ((12 : Int) - ((rest d.2.2 t).length : Int) < 0) = true then (0 : Int) else 12 - ((rest d.2.2 t).length : Int)) = if (rest d.2.2 t).length < 12 then 12 - ((rest d.2.2 t).length : Int) else 0 := by
      by_cases h : (12 : Int) - ((rest d.2.2 t).length : Int) < 0
      · rw [decide_eq_true h, if_pos rfl, if_neg (by omega)]
      · rw [decide_eq_false h, if_neg (by simp)]
        split <;> omega
    rw [e, s_l4Lay_eq (d := (d.1, (d.2.1, rest d.2.2 t))) hp h81 hd.laid (by show (rest d.2.2 t).length ≤ 81; omega) (by split <;> omega)]
    rfl
  · simp only [s_l4Take_L1, lt_eq]
    rw [show decide ((i : Int) < (d.2.2.length : Int)) = true from decide_eq_true (by omega), br_true, br_some, ob_some, br_some, ob_some]
    have e : (if (if (!decide ((i : Int) = t.x0)) = true then !decide ((i : Int) = t.x1) else false) = true then !decide ((i : Int) = t.x2) else false) = !inT t i := by
      unfold inT V3.els
      simp only [List.contains_cons, List.contains_nil, Bool.or_false]
      by_cases h0 : (i : Int) = t.x0 <;> by_cases h1 : (i : Int) = t.x1 <;> by_cases h2 : (i : Int) = t.x2 <;> simp [h0, h1, h2]
    rw [e]
    unfold rest1 at hM ⊢
    cases hq : inT t (i : Int) with
    | true => simp only [Bool.not_true, br_false, if_true, List.append_nil]; rw [w64_succ (by omega)]
    | false =>
      rw [hq] at hM
      simp only [Bool.false_eq_true, if_false, List.length_singleton] at hM
      simp only [Bool.not_false, br_true, Bool.false_eq_true, if_false]
      rw [ckb_pos (inb_ok hi), ckb_pos (apok_ok (by omega) (by omega)), w64_succ (by omega), toNat_cast]
  · simp only [s_l4Take_L1]
    rw [show decide ((d.2.2.length : Int) < (d.2.2.length : Int)) = false from decide_eq_false (by omega), br_false]
theorem i_take_eq {n : Nat} (hn : BIG ≤ n) {p : List Card} {d : Deal} (hp : i_pile n d.1 = some p) (hpp : p.Perm deck) (hd : DealOK p d) (t : V3 Int) : _impl_Deal__take n d t = some (takeD p d t) := by
  obtain ⟨h81, _, _⟩ := pile_facts hpp
  have hl81 := hd.len h81
  have hrl := rest_len d.2.2 t
  unfold _impl_Deal__take
  have := fx_app (B := _impl_Deal__take_L1 n) d.2.2.length (fun i a => (d.2.2, (d.2.2.length : Int), (i : Int), d, t, (0 : Int), (0 : Int), a)) (rest1 d.2.2 t)
    (fun a => Tv.lt (w64 (12 - (a.length : Int))) fun x8 => ob (_impl_Deal__lay n (d.1, (d.2.1, a)) (mxI 0 x8)) fun r9 => some (r9.1, r9.2.1, r9.2.2)) 1000 (fun self i a hi hM => ?_) (fun self a => ?_) n 0 [] (Nat.zero_le _) (big_gt hn (by omega)) (by unfold rest at hrl; simp only [List.length_nil]; omega)
  · refine Eq.trans this ?_
    rw [List.nil_append]
    show (Tv.lt (w64 (12 - ((rest d.2.2 t).length : Int))) fun x8 => ob (_impl_Deal__lay n (d.1, (d.2.1, rest d.2.2 t)) (mxI 0 x8)) fun r9 => some (r9.1, r9.2.1, r9.2.2)) = _
    rw [lt_eq, w64_id (by omega)]
    have e : mxI 0 ((12 : Int) - ((rest d.2.2 t).length : Int)) = if (rest d.2.2 t).length < 12 then 12 - ((rest d.2.2 t).length : Int) else 0 := by
      unfold mxI; split <;> split <;> omega
    rw [e, i_lay_eq hn (d := (d.1, (d.2.1, rest d.2.2 t))) hp h81 hd.laid (by show (rest d.2.2 t).length ≤ 81; omega) (by split <;> omega)]
    rfl
  · simp only [_impl_Deal__take_L1, lt_eq]
    rw [show decide ((i : Int) < (d.2.2.length : Int)) = true from decide_eq_true (by omega), br_true, ckb_pos (inb_ok hi), slices_Contains_int_eq hn (by show 3 ≤ 9223372036854775807; omega), ob_some]
    unfold rest1 at hM ⊢
    show br (! inT t i) _ _ = _
    cases hq : inT t (i : Int) with
    | true => simp only [Bool.not_true, br_false, if_true, List.append_nil]; rw [w64_succ (by omega)]
    | false =>
      rw [hq] at hM
      simp only [Bool.false_eq_true, if_false, List.length_singleton] at hM
      simp only [Bool.not_false, br_true, Bool.false_eq_true, if_false]
      rw [ckb_pos (apok_ok (by omega) (by omega)), w64_succ (by omega), toNat_cast]
  · simp only [_impl_Deal__take_L1]
    rw [show decide ((d.2.2.length : Int) < (d.2.2.length : Int)) = false from decide_eq_false (by omega), br_false]
end Go.Pl
