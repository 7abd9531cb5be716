/- Plain laws: LPi. -/
import Derived.Test.YtifcbamdncpahaaDoorLLCk
set_option linter.unusedVariables false
set_option linter.unusedSimpArgs false
namespace Go.Pl
open Go Go.Tv Go.RowKit
def isD (b : UInt8) : Bool := decide (48 ≤ b.toNat) && decide (b.toNat ≤ 57)
def stp (a : Nat) (b : UInt8) : Nat := 10 * a + (b.toNat - 48)
def vl (l : List UInt8) : Nat := l.foldl stp 0
theorem stp_R {a k : Nat} {b : UInt8} (ha : a < 10 ^ k) (hb : isD b = true) : stp a b < 10 ^ (k + 1) := by
  unfold isD at hb
  simp only [Bool.and_eq_true, decide_eq_true_eq] at hb
  unfold stp
  rw [Nat.pow_succ]; omega
theorem vl_R : ∀ (l : List UInt8) (a k : Nat), a < 10 ^ k → (∀ b ∈ l, isD b = true) → l.foldl stp a < 10 ^ (k + l.length)
  | [], a, k, ha, _ => ha
  | b :: l, a, k, ha, h => by
    have := vl_R l (stp a b) (k + 1) (stp_R ha (h b (by simp))) (fun x hx => h x (by simp [hx]))
    rw [List.foldl_cons, List.length_cons, show k + (l.length + 1) = k + 1 + l.length by omega]
    exact this
theorem dec_isD {u : Nat} (hu : u < 10000000) : ∀ b ∈ Lib.decDigits u, isD b = true := fun b hb => by
  have := dec_dig 7 u (by omega) b hb
  unfold isD
  rw [decide_eq_true this.1, decide_eq_true this.2]; rfl
theorem vl_dec : ∀ (k u : Nat), u < 10 ^ k → vl (Lib.decDigits u) = u := by
  intro k
  induction k with
  | zero => intro u hu; rw [dec_small (by omega)]; unfold vl stp; simp [UInt8.toNat_ofNat']; omega
  | succ k ih =>
    intro u hu
    have dig : ∀ d, d < 10 → (UInt8.ofNat (48 + d)).toNat = 48 + d := fun d hd => by rw [UInt8.toNat_ofNat']; omega
    by_cases h9 : u < 10
    · rw [dec_small h9]; unfold vl; rw [List.foldl_cons, List.foldl_nil]; unfold stp; rw [dig u h9]; omega
    · have := ih (u / 10) (by rw [Nat.pow_succ] at hu; omega)
      rw [dec_big h9]
      unfold vl at this ⊢
      rw [List.foldl_append, this, List.foldl_cons, List.foldl_nil]
      unfold stp
      rw [dig _ (by omega)]; omega
theorem dec_ne (u : Nat) : Lib.decDigits u ≠ [] := by
  by_cases h : u < 10
  · rw [dec_small h]; simp
  · rw [dec_big h]; simp
theorem parse_fold : ∀ (l : List UInt8) (a : Nat), (∀ b ∈ l, isD b = true) → l.foldl stp a < 1000000000 → a < 1000000000 → Lib.parseUint10 a l = .ok (l.foldl stp a)
  | [], a, _, _, _ => rfl
  | b :: l, a, h, hl, ha => by
    have hb := h b (by simp)
    unfold isD at hb
    simp only [Bool.and_eq_true, decide_eq_true_eq] at hb
    have hmono : ∀ (l : List UInt8) (x : Nat), x ≤ l.foldl stp x := by
      intro l
      induction l with
      | nil => intro x; exact Nat.le_refl _
      | cons c l ih => intro x; exact Nat.le_trans (by unfold stp; omega) (ih (stp x c))
    have hs : stp a b < 1000000000 := Nat.lt_of_le_of_lt (hmono l (stp a b)) hl
    have e : a * 10 + (b.toNat - 48) = stp a b := by unfold stp; omega
    rw [Lib.parseUint10, if_pos hb, if_neg (by omega), e, if_neg (by omega)]
    exact parse_fold l (stp a b) (fun x hx => h x (by simp [hx])) hl hs
theorem atoi_num {v : Int} (h0 : -999999 ≤ v) (h1 : v ≤ 999999) : Lib.atoiAll (numL v) = .ok v := by
  have mag : ∀ u : Nat, u ≤ 999999 → Lib.parseMag (Lib.decDigits u) = .ok u := fun u hu => by
    unfold Lib.parseMag
    rw [if_neg (dec_ne u), parse_fold _ 0 (dec_isD (by omega)) (by have := vl_dec 6 u (by omega); unfold vl at this; rw [this]; omega) (by omega)]
    have := vl_dec 6 u (by omega)
    unfold vl at this
    rw [this]
  by_cases hv : v < 0
  · rw [num_neg hv]
    unfold Lib.atoiAll
    have e45 : (45 : UInt8).toNat = 45 := rfl
    simp only [e45]
    rw [if_pos (Or.inr trivial), mag v.natAbs (by omega)]
    simp only [not_true_eq_false, false_and, if_false, true_and, if_true]
    rw [if_neg (by omega)]
    congr 1; omega
  · rw [num_pos hv]
    have hm := mag v.toNat (by omega)
    have hd := dec_isD (u := v.toNat) (by omega)
    generalize Lib.decDigits v.toNat = l at *
    rcases l with _ | ⟨c, r⟩
    · unfold Lib.parseMag at hm; rw [if_pos rfl] at hm; cases hm
    · have hc := hd c (by simp)
      unfold isD at hc
      simp only [Bool.and_eq_true, decide_eq_true_eq] at hc
      unfold Lib.atoiAll
      have n43 : ¬ (c.toNat = 43 ∨ c.toNat = 45) := by omega
      have n45 : ¬ c.toNat = 45 := by omega
      dsimp only
      rw [if_neg n43, hm]
      dsimp only
      rw [if_neg (by omega), if_neg (by omega), if_neg n45]
      congr 1; omega
def RdI (s : ByteArray) (r : Int × Bool) : Prop := (r.2 = true → (-999999 ≤ r.1 ∧ r.1 ≤ 999999) ∧ bl s = numL r.1) ∧ (r.2 = false → r.1 = 0 ∧ ∀ v : Int, -999999 ≤ v → v ≤ 999999 → bl s ≠ numL v)
theorem RdI_uniq {s : ByteArray} {r q : Int × Bool} (hr : RdI s r) (hq : RdI s q) : r = q := by
  obtain ⟨r1, r2⟩ := r
  obtain ⟨q1, q2⟩ := q
  cases r2 with
  | true =>
    obtain ⟨a1, a2⟩ := hr.1 rfl
    cases q2 with
    | true =>
      obtain ⟨b1, b2⟩ := hq.1 rfl
      have h1 := atoi_num a1.1 a1.2
      have h2 := atoi_num b1.1 b1.2
      dsimp only at a2 b2 h1 h2
      rw [← a2] at h1
      rw [← b2, h1] at h2
      injection h2 with h2
      rw [h2]
    | false => exact absurd a2 ((hq.2 rfl).2 _ a1.1 a1.2)
  | false =>
    obtain ⟨a1, a2⟩ := hr.2 rfl
    cases q2 with
    | true =>
      obtain ⟨b1, b2⟩ := hq.1 rfl
      exact absurd b2 (a2 _ b1.1 b1.2)
    | false =>
      obtain ⟨b1, _⟩ := hq.2 rfl
      dsimp only at a1 b1
      rw [a1, b1]
theorem i_ParseInt_ok {n : Nat} {s : ByteArray} (hs : s.size ≤ 281474976710656) : ∃ r, i_ParseInt n s = some r ∧ RdI s r := by
  unfold i_ParseInt
  rw [decide_eq_true hs, if_pos rfl]
  refine ⟨_, rfl, ?_⟩
  have none : ∀ (z : Lib.NumEnd Int), Lib.atoiAll (bl s) = z → (∀ v, z ≠ .ok v) → RdI s (0, false) := fun z hz hno =>
    ⟨fun h => (by cases h), fun _ => ⟨rfl, fun v h0 h1 e => by rw [e, atoi_num h0 h1] at hz; exact hno v hz.symm⟩⟩
  change RdI s (match Lib.atoiAll (bl s) with | .ok v => if (decide (-999999 ≤ v) && decide (v ≤ 999999)) && decide (Lib.itoa v = bl s) then (v, true) else (0, false) | _ => (0, false))
  rcases h : Lib.atoiAll (bl s) with v | _ | _
  · dsimp only
    split
    · rename_i hc
      simp only [Bool.and_eq_true, decide_eq_true_eq] at hc
      exact ⟨fun _ => ⟨hc.1, hc.2.symm⟩, fun h => (by cases h)⟩
    · rename_i hc
      refine ⟨fun h => (by cases h), fun _ => ⟨rfl, fun v' h0 h1 e => hc ?_⟩⟩
      have := atoi_num h0 h1
      rw [← e, h] at this
      injection this with this
      subst this
      simp only [Bool.and_eq_true, decide_eq_true_eq]
      exact ⟨⟨h0, h1⟩, e.symm⟩
  · exact none _ h (fun v hv => by cases hv)
  · exact none _ h (fun v hv => by cases hv)
theorem s_Read_R {n : Nat} (hn : BIG ≤ n) {s t : ByteArray} (ht : t.size ≤ 6) : ∀ (m i : Nat) (fu : Nat), (bl t).length = i + m → (∀ b ∈ (bl t).take i, isD b = true) → m < fu →
    fx (s_l1Read_L2 n) fu (s, t, ((vl ((bl t).take i) : Nat) : Int), (i : Int)) = if (bl t).all isD = true then (if t.size < s.size then s_l1Read_J1 n (s, -((vl (bl t) : Nat) : Int)) else s_l1Read_J1 n (s, ((vl (bl t) : Nat) : Int))) else some (0, false) := by
  have hlb := bl_len t
  have hvR : ∀ i, i ≤ (bl t).length → (∀ b ∈ (bl t).take i, isD b = true) → vl ((bl t).take i) < 1000000 := fun i hi h => by
    have := vl_R ((bl t).take i) 0 0 (by decide) h
    have h2 : (10 : Nat) ^ (0 + ((bl t).take i).length) ≤ 10 ^ 6 := Nat.pow_le_pow_right (by decide) (by rw [List.length_take]; omega)
    unfold vl
    omega
  intro m
  induction m with
  | zero =>
    intro i fu hl hd hf
    obtain ⟨fu, rfl⟩ : ∃ j, fu = j + 1 := ⟨fu - 1, by omega⟩
    have hb := hvR i (by omega) hd
    rw [fx_succ]
    generalize fx (s_l1Read_L2 n) fu = g
    unfold s_l1Read_L2
    dsimp only
    have htk : (bl t).take i = bl t := List.take_of_length_le (by omega)
    rw [htk] at hd hb ⊢
    rw [decide_eq_false (by omega), br_false, if_pos (List.all_eq_true.2 hd)]
    by_cases h : (t.size : Int) < (s.size : Int)
    · rw [decide_eq_true h, br_true, if_pos (by omega), w64_id (by omega), lt_eq, Int.zero_sub]
    · rw [decide_eq_false h, br_false, if_neg (by omega)]
  | succ m ih =>
    intro i fu hl hd hf
    obtain ⟨fu, rfl⟩ : ∃ j, fu = j + 1 := ⟨fu - 1, by omega⟩
    have hi : i < (bl t).length := by omega
    have hb := hvR i (by omega) hd
    rw [fx_succ]
    have H := fun hd' => ih (i + 1) fu (by omega) hd' (by omega)
    generalize fx (s_l1Read_L2 n) fu = g at H
    unfold s_l1Read_L2
    dsimp only
    rw [decide_eq_true (by omega), br_true, ckb_pos (inb_ok (by omega)), toNat_cast, sb_eq hi, ckb_pos (inb_ok (by omega))]
    have hbd := (bl t)[i].toNat_lt
    cases hdi : isD (bl t)[i] with
    | false =>
      have hx : (br (decide (((bl t)[i].toNat : Int) < 48)) (some true) (some (decide (57 < ((bl t)[i].toNat : Int))))) = some true := by
        unfold isD at hdi
        by_cases h1 : ((bl t)[i].toNat : Int) < 48
        · rw [decide_eq_true h1]; rfl
        · rw [decide_eq_false h1, br_false]
          rw [decide_eq_true (by omega : 48 ≤ (bl t)[i].toNat), Bool.true_and, decide_eq_false_iff_not] at hdi
          rw [decide_eq_true (by omega)]
      rw [hx, ob_some, br_true, if_neg]
      intro ha
      have := List.all_eq_true.1 ha _ (List.getElem_mem hi)
      rw [hdi] at this; cases this
    | true =>
      have hdi' := hdi
      unfold isD at hdi'
      simp only [Bool.and_eq_true, decide_eq_true_eq] at hdi'
      have hx : (br (decide (((bl t)[i].toNat : Int) < 48)) (some true) (some (decide (57 < ((bl t)[i].toNat : Int))))) = some false := by
        rw [decide_eq_false (by omega), br_false, decide_eq_false (by omega)]
      have ew : IntKind.wrap .u8 (((bl t)[i].toNat : Int) - 48) = ((bl t)[i].toNat : Int) - 48 := by
        simp only [IntKind.wrap, IntKind.bits, IntKind.signed]
        simp
        omega
      have hdt : ∀ b ∈ (bl t).take (i + 1), isD b = true := fun b hbm => by
        rw [take_snoc hi, List.mem_append, List.mem_singleton] at hbm
        rcases hbm with hbm | rfl
        · exact hd b hbm
        · exact hdi
      have hv : (10 * ((vl ((bl t).take i) : Nat) : Int) + (((bl t)[i].toNat : Int) - 48)) = ((vl ((bl t).take (i + 1)) : Nat) : Int) := by
        rw [take_snoc hi]
        unfold vl
        rw [List.foldl_append, List.foldl_cons, List.foldl_nil]
        unfold stp
        omega
      rw [hx, ob_some, br_false, w64_id (by omega), lt_eq, ckb_pos (inb_ok (by omega)), ew, lt_eq, w64_id (by omega), lt_eq, w64_id (by omega), lt_eq, w64_succ (by omega), lt_eq, hv]
      exact H hdt
theorem s_Read_J1 {n : Nat} (hn : BIG ≤ n) {s : ByteArray} {v : Int} (h0 : -999999 ≤ v) (h1 : v ≤ 999999) : s_l1Read_J1 n (s, v) = some (if bl s = numL v then (v, true) else (0, false)) := by
  unfold s_l1Read_J1
  dsimp only
  rw [s_l1Num_eq hn (by omega) (by omega), ob_some, eqd_str]
  by_cases h : txt v = s
  · rw [decide_eq_true h, if_pos (by rw [← h]; unfold txt; simp)]; rfl
  · rw [decide_eq_false h, if_neg (fun e => h (bl_inj (by rw [e]; unfold txt; simp)))]; rfl
theorem s_Read_J3 {n : Nat} (hn : BIG ≤ n) {s t : ByteArray} (hs : t = s ∨ (bl s = 45 :: bl t ∧ 1 ≤ t.size)) (hns : t = s → ∀ v : Int, v < 0 → -999999 ≤ v → bl s ≠ numL v) (hz : s.size ≤ 1000000) : ∃ r, s_l1Read_J3 n (s, t) = some r ∧ RdI s r := by
  unfold s_l1Read_J3
  dsimp only
  rw [s_l1In_eq, ob_some]
  have hsz : t.size ≤ s.size := by
    rcases hs with rfl | ⟨h, _⟩
    · exact Nat.le_refl _
    · have := congrArg List.length h
      rw [List.length_cons, bl_len, bl_len] at this; omega
  have shape : ∀ v : Int, -999999 ≤ v → v ≤ 999999 → bl s = numL v → (bl t = Lib.decDigits v.natAbs ∧ 1 ≤ t.size ∧ t.size ≤ 6 ∧ (t.size < s.size ↔ v < 0)) := by
    intro v h0 h1 e
    have hlen := dec_len 6 v.natAbs (by omega)
    have hpos : 1 ≤ (Lib.decDigits v.natAbs).length := by
      rcases h : Lib.decDigits v.natAbs with _ | ⟨x, y⟩
      · exact absurd h (dec_ne _)
      · simp
    by_cases hv : v < 0
    · rcases hs with rfl | ⟨h, _⟩
      · exact absurd e (hns rfl v hv h0)
      · rw [num_neg hv, h] at e
        injection e with _ e
        have h2 := congrArg List.length h
        rw [List.length_cons, bl_len, bl_len] at h2
        have h3 := congrArg List.length e
        rw [bl_len] at h3
        exact ⟨e, by omega, by omega, ⟨fun _ => hv, fun _ => by omega⟩⟩
    · rcases hs with rfl | ⟨h, _⟩
      · rw [num_pos hv] at e
        have e' : bl t = Lib.decDigits v.natAbs := by rw [e]; congr 1; omega
        have h3 := congrArg List.length e'
        rw [bl_len] at h3
        exact ⟨e', by omega, by omega, ⟨fun h => by omega, fun h => absurd h hv⟩⟩
      · exfalso
        rw [num_pos hv, h] at e
        have := dec_dig 6 v.toNat (by omega) 45 (by rw [← e]; simp)
        have e45 : (45 : UInt8).toNat = 45 := rfl
        omega
  have no : (∀ v : Int, -999999 ≤ v → v ≤ 999999 → bl s ≠ numL v) → RdI s (0, false) := fun h => ⟨fun h => (by cases h), fun _ => ⟨rfl, h⟩⟩
  by_cases h16 : (1 : Int) ≤ (t.size : Int) ∧ (t.size : Int) ≤ 6
  · have := s_Read_R hn (s := s) (t := t) (by omega) (bl t).length 0 n (by omega) (fun b hb => by simp at hb) (big_gt hn (by rw [bl_len]; omega))
    have e0 : ((vl ((bl t).take 0) : Nat) : Int) = 0 := rfl
    rw [e0, show ((0 : Nat) : Int) = 0 from rfl] at this
    rw [decide_eq_true h16, Bool.not_true, br_false, this]
    by_cases ha : (bl t).all isD = true
    · rw [if_pos ha]
      have hd := List.all_eq_true.1 ha
      have hvl : vl (bl t) < 1000000 := by
        have := vl_R (bl t) 0 0 (by decide) hd
        have h2 : (10 : Nat) ^ (0 + (bl t).length) ≤ 10 ^ 6 := Nat.pow_le_pow_right (by decide) (by rw [bl_len]; omega)
        unfold vl
        omega
      have fin : ∀ w : Int, -999999 ≤ w → w ≤ 999999 → (∀ v : Int, -999999 ≤ v → v ≤ 999999 → bl s = numL v → v = w) → ∃ r, s_l1Read_J1 n (s, w) = some r ∧ RdI s r := by
        intro w h0 h1 hu
        rw [s_Read_J1 hn h0 h1]
        refine ⟨_, rfl, ?_⟩
        by_cases he : bl s = numL w
        · rw [if_pos he]; exact ⟨fun _ => ⟨⟨h0, h1⟩, he⟩, fun h => (by cases h)⟩
        · rw [if_neg he]
          exact no fun v q0 q1 e => he (by rw [← hu v q0 q1 e]; exact e)
      by_cases hlt : t.size < s.size
      · rw [if_pos hlt]
        refine fin _ (by omega) (by omega) fun v q0 q1 e => ?_
        obtain ⟨p1, _, _, p4⟩ := shape v q0 q1 e
        have := vl_dec 6 v.natAbs (by omega)
        rw [← p1] at this
        have := p4.1 hlt
        omega
      · rw [if_neg hlt]
        refine fin _ (by omega) (by omega) fun v q0 q1 e => ?_
        obtain ⟨p1, _, _, p4⟩ := shape v q0 q1 e
        have := vl_dec 6 v.natAbs (by omega)
        rw [← p1] at this
        have : ¬ v < 0 := fun h => hlt (p4.2 h)
        omega
    · rw [if_neg ha]
      refine ⟨_, rfl, no fun v q0 q1 e => ha ?_⟩
      obtain ⟨p1, _, _, _⟩ := shape v q0 q1 e
      rw [p1]
      exact List.all_eq_true.2 (dec_isD (by omega))
  · rw [decide_eq_false h16, Bool.not_false, br_true]
    refine ⟨_, rfl, no fun v q0 q1 e => h16 ?_⟩
    obtain ⟨_, p2, p3, _⟩ := shape v q0 q1 e
    omega
theorem s_ParseInt_ok {n : Nat} (hn : BIG ≤ n) {s : ByteArray} (hz : s.size ≤ 1000000) : ∃ r, s_ParseInt n s = some r ∧ RdI s r := by
  unfold s_ParseInt s_l1Read
  have hlb := bl_len s
  have neg : ∀ v : Int, v < 0 → bl s = numL v → 1 < s.size ∧ ∃ r, bl s = 45 :: r ∧ r ≠ [] := by
    intro v hv e
    rw [num_neg hv] at e
    refine ⟨?_, _, e, dec_ne _⟩
    have := congrArg List.length e
    rcases h : Lib.decDigits v.natAbs with _ | ⟨x, y⟩
    · exact absurd h (dec_ne _)
    · rw [h] at this; simp at this; omega
  have wrap : ∀ o : Option (Int × Bool), (∃ r, o = some r ∧ RdI s r) → ∃ r, (ob o fun (r2 : Int × Bool) => some (r2.1, r2.2)) = some r ∧ RdI s r := by
    rintro o ⟨r, rfl, h⟩
    exact ⟨r, rfl, h⟩
  refine wrap _ ?_
  by_cases h1 : (1 : Int) < (s.size : Int)
  · obtain ⟨c, r, hcr⟩ : ∃ c r, bl s = c :: r := by
      rcases h : bl s with _ | ⟨c, r⟩
      · rw [h] at hlb; simp at hlb; omega
      · exact ⟨c, r, rfl⟩
    have hsb : sb s 0 = (c.toNat : Int) := by
      rw [sb_eq (by omega)]
      simp [hcr]
    rw [decide_eq_true h1, br_true, ckb_pos (inb_pos (by omega) (by omega)), ob_some, hsb]
    by_cases hc : (c.toNat : Int) = 45
    · have hc' : c = 45 := UInt8.toNat_inj.1 (by show c.toNat = 45; omega)
      have hb1 : bl (ssub s 1 s.size) = r := by
        rw [bl_ssub, hcr, List.drop_succ_cons, List.drop_zero]
        refine List.take_of_length_le ?_
        have := hlb
        rw [hcr, List.length_cons] at this
        omega
      have hsz : (ssub s 1 s.size).size + 1 = s.size := by rw [← bl_len, hb1, ← hlb, hcr, List.length_cons]
      rw [decide_eq_true hc, br_true, ckb_pos (slb_ok (by omega) (by omega) (by omega))]
      refine s_Read_J3 hn (.inr ⟨by rw [hcr, hc', hb1], by omega⟩) (fun e => ?_) hz
      rw [e] at hsz; omega
    · rw [decide_eq_false hc, br_false]
      refine s_Read_J3 hn (.inl rfl) (fun _ v hv _ e => ?_) hz
      obtain ⟨_, r', e', _⟩ := neg v hv e
      rw [hcr] at e'
      injection e' with e' _
      exact hc (by rw [e']; rfl)
  · rw [decide_eq_false h1, br_false, ob_some, br_false]
    refine s_Read_J3 hn (.inl rfl) (fun _ v hv _ e => ?_) hz
    have := (neg v hv e).1
    omega
end Go.Pl
