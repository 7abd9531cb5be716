/- Plain laws: LRd. -/
import Derived.Test.YtkhfihbaopbblaaDoorLLCut
import Derived.Test.YtkhfihbaopbblaaDoorLLRec
set_option linter.unusedVariables false
set_option linter.unusedSimpArgs false
namespace Go.Pl
open Go Go.Tv Go.RowKit
def good (k : Nat) (line : List UInt8) (e : Rec) : Prop := recB e = true ∧ lineL k (bl e.1) (bl e.2) = line ++ [10]
theorem cmd_no {e : Rec} (h : recB e = true) : (64 : UInt8) ∉ bl e.1 := by
  unfold recB cmdB at h
  simp only [Bool.and_eq_true, Bool.not_eq_true'] at h
  have := h.1.2
  unfold stands at this
  intro hm
  have := (List.any_eq_false.1 this) _ hm
  simp at this
theorem num_no {k : Nat} (hk : k ≤ 1000000) {c : UInt8} (hc : c.toNat < 48) : c ∉ numL (k : Int) := by
  intro h
  have := num_dig (a := (k : Int)) (by omega) (by omega) c h
  omega
theorem head_no {k : Nat} (hk : k < 1000000) {e : Rec} (h : recB e = true) : (35 : UInt8) ∉ numL (k : Int) ++ 32 :: (bl e.1 ++ 64 :: bl e.2) := by
  obtain ⟨p1, p2⟩ := rec_parts h
  intro hm
  exact no_hash (k := (k : Int)) (by omega) (by omega) p1 p2 _ hm rfl
theorem good_parts {k : Nat} (hk : k < 1000000) {line : List UInt8} {e : Rec} (h : good k line e) :
    bef 35 line = numL (k : Int) ++ 32 :: (bl e.1 ++ 64 :: bl e.2) := by
  obtain ⟨h1, h2⟩ := h
  unfold lineL sealL at h2
  have h3 := List.append_cancel_right h2
  rw [← h3, bef_app _ (head_no hk h1), bef_self, List.append_nil]
def prsL (line : List UInt8) : Rec := (mk (bef 64 (aft 32 (bef 35 line))), mk (aft 64 (aft 32 (bef 35 line))))
theorem prsL_good {k : Nat} (hk : k < 1000000) {line : List UInt8} {e : Rec} (h : good k line e) : prsL line = e := by
  have hp := good_parts hk h
  unfold prsL
  rw [hp, aft_app _ (num_no (by omega) (by decide)), aft_self, bef_app _ (cmd_no h.1), bef_self, aft_app _ (cmd_no h.1), aft_self, List.append_nil, mk_bl, mk_bl]
def rd (k : Nat) (line : List UInt8) : Option Rec := if recB (prsL line) = true ∧ lineL k (bl (prsL line).1) (bl (prsL line).2) = line ++ [10] then some (prsL line) else none
theorem rd_good {k : Nat} (hk : k < 1000000) {line : List UInt8} {e : Rec} : rd k line = some e ↔ good k line e := by
  unfold rd
  constructor
  · intro h
    split at h
    case isTrue h1 => injection h with h; subst h; exact h1
    case isFalse => cases h
  · intro h
    rw [prsL_good hk h]
    exact if_pos h
theorem rd_none {k : Nat} (hk : k < 1000000) {line : List UInt8} (h : ∀ e, ¬ good k line e) : rd k line = none := by
  cases h1 : rd k line with
  | none => rfl
  | some e => exact absurd ((rd_good hk).1 h1) (h e)
theorem encB_iff {k : Nat} (hk : k ≤ 59) {line : List UInt8} {e : Rec} : ((encB k e).2 = true ∧ (encB k e).1 = mk (line ++ [10])) ↔ good k line e := by
  unfold encB good
  by_cases h : recB e = true
  · rw [if_pos ⟨by omega, by omega, h⟩]
    simp only [h, true_and]
    constructor
    · intro h1
      have := congrArg bl h1
      rwa [bl_mk, bl_mk] at this
    · intro h1; rw [h1]
  · rw [if_neg (fun h1 => h h1.2.2)]
    simp [h]
theorem s_l12Decode_eq {n : Nat} (hn : BIG ≤ n) {s : ByteArray} (hs : s.size ≤ 100000) {k : Nat} (hk : k ≤ 59) :
    ∃ e b, s_l12Decode n s (k : Int) = some (e, b) ∧ (b = true → rd k (bl s) = some e) ∧ (b = false → rd k (bl s) = none) := by
  unfold s_l12Decode
  have h6 := num_len6 (a := (k : Int)) (by omega) (by omega)
  have hx : txt (k : Int) ++ (⟨#[32]⟩ : ByteArray) = mk (numL (k : Int) ++ [32]) := bl_inj (by rw [bl_app, bl_mk]; unfold txt; rw [bl_mk]; rfl)
  have hts : (txt (k : Int)).size = (numL (k : Int)).length := by unfold txt; rw [mk_size]
  obtain ⟨t, hsp, _⟩ := splitL_cons 35 (bl s)
  have hspl := s_l1Split_eq hn (s := s) (by omega) 35
  have e35 : (((35 : UInt8).toNat : Nat) : Int) = 35 := rfl
  rw [e35, hsp, List.map_cons] at hspl
  rw [s_l1Num_eq hn (by omega) (by omega), ob_some, ckb_pos (stok_ok (by omega)), hx, lt_eq, hspl, ob_some, ckb_pos (inb_pos (by omega) (by simp))]
  have hg : gl (⟨#[]⟩ : ByteArray) (mk (bef 35 (bl s)) :: t.map mk) 0 = mk (bef 35 (bl s)) := rfl
  rw [hg]
  have hbl := bef_len 35 (bl s)
  rw [bl_len] at hbl
  generalize hT : bef 35 (bl s) = T at *
  generalize hA : numL (k : Int) ++ [32] = A at *
  have hAl : A.length ≤ 7 := by rw [← hA, List.length_append]; simp; omega
  simp only [mk_size]
  have bad : (∀ e, good k (bl s) e → False) → rd k (bl s) = none := fun h => rd_none (by omega) fun e he => h e he
  by_cases h1 : ((T.length : Nat) : Int) < (A.length : Int)
  · rw [decide_eq_true h1, br_true, ob_some, br_true, lt_eq]
    refine ⟨_, _, rfl, fun h => (by cases h), fun _ => bad fun e he => ?_⟩
    have hp := good_parts (by omega) he
    rw [hT] at hp
    have := congrArg List.length hp
    rw [← hA] at h1
    simp only [List.length_append, List.length_cons, List.length_nil] at this h1
    omega
  rw [decide_eq_false h1, br_false, ckb_pos (slb_ok (by omega) (by omega) (by omega)), ob_some]
  have hpre : ssub (mk T) 0 A.length = mk (T.take A.length) := bl_inj (by rw [bl_ssub, bl_mk, bl_mk, List.drop_zero, Nat.sub_zero])
  rw [hpre, eqd_str]
  by_cases h2 : T.take A.length = A
  · rw [h2, decide_eq_true rfl, Bool.not_true, br_false, ckb_pos (slb_ok (by omega) (by omega) (by omega))]
    have hrest : ssub (mk T) A.length T.length = mk (T.drop A.length) := bl_inj (by
      rw [bl_ssub, bl_mk, bl_mk]
      exact List.take_of_length_le (by rw [List.length_drop]; omega))
    have hTA : T = A ++ T.drop A.length := by
      conv => lhs; rw [← List.take_append_drop A.length T, h2]
    rw [hrest]
    generalize hR : T.drop A.length = R at *
    have hRl : R.length ≤ 100000 := by rw [← hR, List.length_drop]; omega
    obtain ⟨t2, hsp2, _⟩ := splitL_cons 64 R
    have hspl2 := s_l1Split_eq hn (s := mk R) (by rw [mk_size]; omega) 64
    have e64 : (((64 : UInt8).toNat : Nat) : Int) = 64 := rfl
    rw [e64, bl_mk, hsp2, List.map_cons] at hspl2
    rw [hspl2, ob_some, ckb_pos (inb_pos (by omega) (by simp))]
    have hg2 : gl (⟨#[]⟩ : ByteArray) (mk (bef 64 R) :: t2.map mk) 0 = mk (bef 64 R) := rfl
    rw [hg2]
    simp only [mk_size]
    have hb2 := bef_len 64 R
    have aft32 : aft 32 T = R := by
      rw [hTA, ← hA, List.append_assoc, aft_app _ (num_no (by omega) (by decide))]
      exact aft_self _
    by_cases h3 : (((bef 64 R).length : Nat) : Int) = (R.length : Int)
    · rw [decide_eq_true h3, br_true, lt_eq]
      refine ⟨_, _, rfl, fun h => (by cases h), fun _ => bad fun e he => ?_⟩
      have hp := good_parts (by omega) he
      rw [hT] at hp
      have h4 : R = bl e.1 ++ 64 :: bl e.2 := by rw [← aft32, hp, aft_app _ (num_no (by omega) (by decide)), aft_self]
      have h5 : bef 64 R = bl e.1 := by rw [h4, bef_app _ (cmd_no he.1), bef_self, List.append_nil]
      rw [h5, h4] at h3
      simp only [List.length_append, List.length_cons] at h3
      omega
    · have hmem : (64 : UInt8) ∈ R := by
        refine Decidable.byContradiction fun h => h3 ?_
        rw [bef_no h]
      have hcut := cut_eq hmem
      have hlR : R.length = (bef 64 R).length + 1 + (aft 64 R).length := by
        have := congrArg List.length hcut
        simp only [List.length_append, List.length_cons] at this
        omega
      have e1 := w64_succ (k := (bef 64 R).length) (by omega)
      rw [decide_eq_false h3, br_false, e1, lt_eq, ckb_pos (slb_ok (by omega) (by omega) (by omega)), lt_eq, toNat_cast]
      have hre : ssub (mk R) ((bef 64 R).length + 1) R.length = mk (aft 64 R) := by
        have := ssub_aft (s := mk R) (c := 64) (by rw [bl_mk]; exact hmem)
        rwa [bl_mk, mk_size] at this
      rw [hre]
      have hprs : prsL (bl s) = (mk (bef 64 R), mk (aft 64 R)) := by unfold prsL; rw [hT, aft32]
      have ha2 := aft_len 64 R
      rw [← hprs]
      have z1 : (prsL (bl s)).1.size ≤ 100000 := by rw [hprs]; show (mk _).size ≤ _; rw [mk_size]; omega
      have z2 : (prsL (bl s)).2.size ≤ 100000 := by rw [hprs]; show (mk _).size ≤ _; rw [mk_size]; omega
      rw [s_l12Record_eq hn (by omega) (by omega), ob_some]
      cases hrec : recB (prsL (bl s)) with
      | false =>
        rw [br_false, ob_some]
        refine ⟨_, _, rfl, fun h => (by cases h), fun _ => ?_⟩
        unfold rd; rw [if_neg]; intro h; rw [hrec] at h; cases h.1
      | true =>
        rw [br_true, s_l12Line_eq hn (by omega) (by omega) z1 z2, ob_some, ckb_pos (stok_ok (by omega)), lt_eq, ob_some, eqd_str]
        refine ⟨_, _, rfl, fun h => ?_, fun h => ?_⟩
        · have h := of_decide_eq_true h
          unfold rd
          rw [if_pos]
          refine ⟨hrec, ?_⟩
          have := congrArg bl h
          rw [bl_mk, bl_app] at this
          exact this
        · have h := of_decide_eq_false h
          unfold rd
          rw [if_neg]
          rintro ⟨_, h4⟩
          refine h (bl_inj ?_)
          rw [bl_mk, bl_app]
          exact h4
  · have hne : ¬ (mk (T.take A.length) = mk A) := fun e => h2 (by have := congrArg bl e; rwa [bl_mk, bl_mk] at this)
    rw [decide_eq_false hne, Bool.not_false, br_true, lt_eq]
    refine ⟨_, _, rfl, fun h => (by cases h), fun _ => bad fun e he => ?_⟩
    have hp := good_parts (by omega) he
    rw [hT] at hp
    refine h2 ?_
    rw [hp, ← hA, show numL (k : Int) ++ 32 :: (bl e.1 ++ 64 :: bl e.2) = (numL (k : Int) ++ [32]) ++ (bl e.1 ++ 64 :: bl e.2) by simp]
    exact List.take_left' rfl
end Go.Pl
