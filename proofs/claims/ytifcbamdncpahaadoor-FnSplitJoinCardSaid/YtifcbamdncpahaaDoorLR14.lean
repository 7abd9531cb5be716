/- Plain laws: R14. -/
import Derived.Test.YtifcbamdncpahaaDoorLLJn
import Derived.Test.YtifcbamdncpahaaDoorLLVc
set_option linter.unusedVariables false
set_option linter.unusedSimpArgs false
namespace Go.Pl
open Go Go.Tv Go.RowKit
theorem of_ok (n : Nat) {m : Nat} {c : Cu} (h : CuOK m c) (hm : m < 4611686018427387900) {l : List ByteArray} (hl : 1 ≤ l.length) :
    ∃ r c', s_Cur_of'pl n l c = some (r, c') ∧ CuOK (m + 2) c' ∧ r ∈ l := by
  unfold s_Cur_of'pl
  obtain ⟨r, c1, e1, h1, hr0, hr⟩ := pick_ok n h hm (a := (l.length : Int)) (by omega)
  rw [e1, ob_some, ckb_pos (inb_pos hr0 hr)]
  refine ⟨_, _, rfl, h1, ?_⟩
  have hk : r.toNat < l.length := by omega
  rw [gl_eq hk]
  exact List.getElem_mem hk
theorem any1_ok (n : Nat) {m : Nat} {c : Cu} (h : CuOK m c) (hm : m < 4611686018427387900) : ∃ r c', s_Cur_any1'p n c = some (r, c') ∧ CuOK (m + 2) c' ∧ r.size ≤ 10 := by
  unfold s_Cur_any1'p
  obtain ⟨r, c1, e1, h1, hr⟩ := of_ok n h hm (l := [(⟨#[]⟩ : ByteArray), (⟨#[97]⟩ : ByteArray), (⟨#[97, 44, 98]⟩ : ByteArray), (⟨#[115, 111, 109, 101, 32, 119, 111, 114, 100, 115]⟩ : ByteArray), (⟨#[120, 35, 121]⟩ : ByteArray), (⟨#[45, 49, 50]⟩ : ByteArray), (⟨#[0, 255]⟩ : ByteArray), (⟨#[44, 44]⟩ : ByteArray), (⟨#[48]⟩ : ByteArray)]) (by simp)
  rw [e1, ob_some]
  refine ⟨_, _, rfl, h1, ?_⟩
  change r.size ≤ 10
  simp only [List.mem_cons, List.mem_nil_iff, or_false] at hr
  rcases hr with rfl | rfl | rfl | rfl | rfl | rfl | rfl | rfl | rfl <;> decide
def SepOK (s : ByteArray) : Prop := (∃ c : UInt8, s = one c) ∨ (s.size ≠ 1 ∧ s.size ≤ 2)
theorem DrawSplit_ok (n : Nat) {a : List Int} (h : CuOK 0 (a, (0, 0))) : ∃ s sep, s_DrawSplitString n a = some (s, sep) ∧ s.size ≤ 10 ∧ SepOK sep := by
  unfold s_DrawSplitString
  rw [lt_eq]
  obtain ⟨r, c1, e1, h1, hr⟩ := any1_ok n h (by omega)
  obtain ⟨q, c2, e2, h2, hq⟩ := of_ok n h1 (by omega) (l := [(⟨#[44]⟩ : ByteArray), (⟨#[44]⟩ : ByteArray), (⟨#[32]⟩ : ByteArray), (⟨#[]⟩ : ByteArray), (⟨#[44, 44]⟩ : ByteArray)]) (by simp)
  rw [e1, ob_some, e2, ob_some]
  refine ⟨_, _, rfl, hr, ?_⟩
  change SepOK q
  simp only [List.mem_cons, List.mem_nil_iff, or_false] at hq
  rcases hq with rfl | rfl | rfl | rfl | rfl
  · exact .inl ⟨44, rfl⟩
  · exact .inl ⟨44, rfl⟩
  · exact .inl ⟨32, rfl⟩
  · exact .inr ⟨by decide, by decide⟩
  · exact .inr ⟨by decide, by decide⟩
def PartsOK (l : List ByteArray) : Prop := l.length ≤ 10 ∧ ∀ x ∈ l, x.size ≤ 5000
theorem DrawJoin_J1 (n : Nat) {m : Nat} {c : Cu} (h : CuOK m c) (hm : m < 4611686018427387900) {l : List ByteArray} : ∃ mk', s_DrawJoinStrings_J1 n (c, l) = some (mk', l) ∧ SepOK mk' := by
  unfold s_DrawJoinStrings_J1
  dsimp only
  obtain ⟨q, c2, e2, h2, hq⟩ := of_ok n h hm (l := [(⟨#[44]⟩ : ByteArray), (⟨#[59]⟩ : ByteArray), (⟨#[59]⟩ : ByteArray), (⟨#[]⟩ : ByteArray), (⟨#[97, 98]⟩ : ByteArray)]) (by simp)
  rw [e2, ob_some]
  refine ⟨_, rfl, ?_⟩
  change SepOK q
  simp only [List.mem_cons, List.mem_nil_iff, or_false] at hq
  rcases hq with rfl | rfl | rfl | rfl | rfl
  · exact .inl ⟨44, rfl⟩
  · exact .inl ⟨59, rfl⟩
  · exact .inl ⟨59, rfl⟩
  · exact .inr ⟨by decide, by decide⟩
  · exact .inr ⟨by decide, by decide⟩
theorem DrawJoin_R (n : Nat) (k : Nat) (hk : k ≤ 4) : ∀ (d i : Nat) (c : Cu) (l : List ByteArray) (fu : Nat), k = i + d → CuOK (100 * i + 2) c → l.length = i → (∀ x ∈ l, x.size ≤ 5000) → d < fu →
    ∃ mk' l', fx (s_DrawJoinStrings_L2 n) fu ((k : Int), (i : Int), c, l) = some (mk', l') ∧ SepOK mk' ∧ PartsOK l' := by
  intro d
  induction d with
  | zero =>
    intro i c l fu hki hc hl hz hf
    obtain ⟨fu, rfl⟩ : ∃ j, fu = j + 1 := ⟨fu - 1, by omega⟩
    rw [fx_succ]
    generalize fx (s_DrawJoinStrings_L2 n) fu = g
    unfold s_DrawJoinStrings_L2
    dsimp only
    rw [decide_eq_false (by omega), br_false]
    obtain ⟨r, c1, e1, h1⟩ := one_ok n hc (by omega) (a := 20) (by omega)
    rw [e1, ob_some]
    cases r with
    | true =>
      obtain ⟨z, c2, e2, h2, hz0, hz1⟩ := pick_ok n h1 (by omega) (a := 20) (by omega)
      rw [br_true, e2, ob_some, w64_id (by omega), lt_eq, ckb_pos (mkok_ok (by omega) (by omega) (by omega) (by omega)), lt_eq, ckb_pos (apok_ok (by omega) (by omega))]
      obtain ⟨q, e3, hq⟩ := DrawJoin_J1 n h2 (by omega) (l := l ++ [strOfNums (List.replicate (3990 + z).toNat 0)])
      refine ⟨q, _, e3, hq, by simp; omega, fun x hx => ?_⟩
      rcases List.mem_append.1 hx with hx | hx
      · exact hz x hx
      · rw [List.mem_singleton.1 hx, strOfNums_size, List.length_replicate]; omega
    | false =>
      rw [br_false]
      obtain ⟨q, e3, hq⟩ := DrawJoin_J1 n h1 (by omega) (l := l)
      exact ⟨q, _, e3, hq, by omega, hz⟩
  | succ d ih =>
    intro i c l fu hki hc hl hz hf
    obtain ⟨fu, rfl⟩ : ∃ j, fu = j + 1 := ⟨fu - 1, by omega⟩
    have H := fun c l a b e => ih (i + 1) c l fu (by omega) a b e (by omega)
    rw [fx_succ]
    generalize fx (s_DrawJoinStrings_L2 n) fu = g at H
    unfold s_DrawJoinStrings_L2
    dsimp only
    obtain ⟨r, c1, e1, h1, hr⟩ := any1_ok n hc (by omega)
    rw [decide_eq_true (by omega), br_true, e1, ob_some, ckb_pos (apok_ok (by omega) (by omega)), w64_succ (by omega), lt_eq]
    exact H c1 (l ++ [r]) (h1.mono (by omega)) (by simp; omega) (fun x hx => by
      rcases List.mem_append.1 hx with hx | hx
      · exact hz x hx
      · rw [List.mem_singleton.1 hx]; omega)
theorem DrawJoin_ok {n : Nat} (hn : BIG ≤ n) {a : List Int} (h : CuOK 0 (a, (0, 0))) : ∃ mk' l, s_DrawJoinStrings n a = some (mk', l) ∧ SepOK mk' ∧ PartsOK l := by
  unfold s_DrawJoinStrings
  rw [lt_eq]
  obtain ⟨r, c1, e1, h1, hr0, hr1⟩ := pick_ok n h (by omega) (a := 4) (by omega)
  rw [e1, ob_some]
  obtain ⟨k, rfl⟩ : ∃ k : Nat, r = (k : Int) := ⟨r.toNat, by omega⟩
  have := DrawJoin_R n k (by omega) k 0 c1 [] n (by omega) (h1.mono (by omega)) rfl (fun x hx => by cases hx) (big_gt hn (by omega))
  exact this
theorem DrawLess_ok (n : Nat) {a : List Int} (h : CuOK 0 (a, (0, 0))) : ∃ r, s_DrawLessString n a = some r := by
  unfold s_DrawLessString
  rw [lt_eq]
  obtain ⟨r, c1, e1, h1, hr⟩ := any1_ok n h (by omega)
  obtain ⟨q, c2, e2, h2, hq⟩ := any1_ok n h1 (by omega)
  rw [e1, ob_some, e2, ob_some]
  exact ⟨_, rfl⟩
theorem less_asym : ∀ (a b : List UInt8), Op.bytesLess a b = true → Op.bytesLess b a = false
  | _, [], h => by cases ‹List UInt8› <;> simp [Op.bytesLess] at h
  | [], _ :: _, _ => rfl
  | x :: a, y :: b, h => by
    simp only [Op.bytesLess, Bool.or_eq_true, decide_eq_true_eq, Bool.and_eq_true, beq_iff_eq] at h
    have lt1 : ∀ u v : UInt8, u < v → decide (v < u) = false ∧ (v == u) = false := by
      intro u v huv
      have : u.toNat < v.toNat := UInt8.lt_iff_toNat_lt.1 huv
      refine ⟨decide_eq_false (fun h => ?_), beq_eq_false_iff_ne.2 (fun h => ?_)⟩
      · have := UInt8.lt_iff_toNat_lt.1 h; omega
      · rw [h] at this; omega
    rcases h with h | ⟨rfl, h⟩
    · obtain ⟨q1, q2⟩ := lt1 _ _ h
      simp only [Op.bytesLess, q1, q2, Bool.false_and, Bool.or_false]
    · have := less_asym a b h
      simp only [Op.bytesLess, this, Bool.and_false, Bool.or_false]
      exact decide_eq_false (fun h => by have := UInt8.lt_iff_toNat_lt.1 h; omega)
theorem join_both {n : Nat} (hn : BIG ≤ n) {ps : List ByteArray} (hp : PartsOK ps) {sep : ByteArray} (hs : SepOK sep) : ∃ r, i_JoinStrings n ps sep = some r ∧ s_JoinStrings n ps sep = some r := by
  obtain ⟨hl, hz⟩ := hp
  rcases hs with ⟨c, rfl⟩ | ⟨h1, h2⟩
  · by_cases hne : ps = []
    · subst hne
      refine ⟨(⟨#[]⟩, false), ?_, ?_⟩
      · unfold i_JoinStrings; rfl
      · unfold s_JoinStrings; rfl
    · exact ⟨_, i_JoinStrings_eq hn hne (by omega) (fun x hx => by have := hz x hx; omega) c, s_JoinStrings_eq hn hne (by omega) (fun x hx => by have := hz x hx; omega) c⟩
  · have e1 : decide ((sep.size : Int) = 1) = false := decide_eq_false (by omega)
    refine ⟨(⟨#[]⟩, false), ?_, ?_⟩
    · unfold i_JoinStrings
      rw [e1, Bool.not_false, br_self, ob_some, br_true]
    · unfold s_JoinStrings
      rw [e1, Bool.not_false, br_true, ob_some, br_true]
theorem law_FnSplitJoin {n : Nat} (hn : BIG ≤ n) (a : List Int) (ok : (Ty.sl (.int .u8)).ok a) : v_FnSplitJoin n a = some true := by
  have hb : ByB a := ok_bytes' ok
  have hcu : CuOK 0 (a, (0, 0)) := cu0 hb
  unfold v_FnSplitJoin v_vBig
  rw [ob_some, br_dec]
  split
  · rfl
  obtain ⟨s, sep, e1, hs, hsep⟩ := DrawSplit_ok n hcu
  obtain ⟨mk', ps, e2, hmk, hps⟩ := DrawJoin_ok hn hcu
  obtain ⟨ab, e3⟩ := DrawLess_ok n hcu
  obtain ⟨r, e4, e5⟩ := join_both hn hps hmk
  have hsp : ∃ l, i_SplitString n s sep = some (decide (sep.size = 1), l) ∧ (sep.size ≠ 1 → l = []) ∧ (sep.size = 1 → i_JoinStrings n l sep = some (s, true)) := by
    unfold i_SplitString
    rw [decide_eq_false (by omega), br_false, ob_some]
    rcases hsep with ⟨c, rfl⟩ | ⟨h1, h2⟩
    · have d1 : decide (((one c).size : Int) = 1) = true := rfl
      have d2 : decide ((one c).size = 1) = true := rfl
      rw [d1, Bool.not_true, br_false, strings_Split_eq hn (by omega), ob_some, d2]
      refine ⟨_, rfl, fun h => absurd rfl h, fun _ => ?_⟩
      have hlen := splitL_len c (bl s)
      rw [bl_len] at hlen
      have hne : (splitL c (bl s)).map mk ≠ [] := by simpa using splitL_ne c (bl s)
      have hjoin : joinB ((splitL c (bl s)).map mk) c = s := by
        unfold joinB
        rw [List.map_map]
        have : (bl ∘ mk) = id := by funext x; simp
        rw [this, List.map_id, join_split, mk_bl]
      have hsz : ∀ x ∈ (splitL c (bl s)).map mk, x.size ≤ s.size := by
        have hh : ∀ l : List ByteArray, ∀ x ∈ l, x.size ≤ szs l := by
          intro l
          induction l with
          | nil => intro x hx; cases hx
          | cons y l ih =>
            intro x hx
            rw [szs_cons]
            rcases List.mem_cons.1 hx with rfl | hx
            · omega
            · have := ih x hx; omega
        intro x hx
        have := hh _ x hx
        obtain ⟨y, t, hyt⟩ := List.exists_cons_of_ne_nil hne
        have hj := joinB_size y t c
        rw [← hyt, hjoin] at hj
        omega
      rw [i_JoinStrings_eq hn hne (by rw [List.length_map]; omega) (fun x hx => by have := hsz x hx; omega)]
      unfold jn1
      rw [hjoin, if_pos]
      constructor
      · unfold freeB
        rw [List.all_eq_true]
        intro x hx
        obtain ⟨y, hy, rfl⟩ := List.mem_map.1 hx
        have := splitL_mem c (bl s) y hy
        rw [Bool.not_eq_true']
        unfold stands
        rw [bl_mk]
        refine List.any_eq_false.2 fun b hb => ?_
        simp only [decide_eq_true_eq]
        intro h
        have : b = c := UInt8.toNat_inj.1 (by omega)
        subst this
        exact absurd hb ‹_›
      · obtain ⟨y, t, hyt⟩ := List.exists_cons_of_ne_nil hne
        have hj := joinB_size y t c
        rw [← hyt, hjoin] at hj
        unfold tot
        have : ((splitL c (bl s)).map mk).length = t.length + 1 := by rw [hyt]; simp
        omega
    · rw [decide_eq_false (by omega), Bool.not_false, br_true]
      have d2 : decide (sep.size = 1) = false := decide_eq_false h1
      rw [d2]
      exact ⟨[], rfl, fun _ => rfl, fun h => absurd h h1⟩
  obtain ⟨l, e6, hl0, hl1⟩ := hsp
  have hasym : (br (bls ab.1 ab.2) (some (bls ab.2 ab.1)) (some false)) = some false := by
    cases h : bls ab.1 ab.2 with
    | false => rfl
    | true =>
      rw [br_true]
      exact congrArg some (less_asym _ _ h)
  unfold i_LessString s_LessString
  rw [e1, ob_some, e6, ob_some, e2, ob_some, e4, ob_some, e5, ob_some, e3, ob_some]
  simp only [ob_some, eqd_self, beq_self_eq_true, Bool.not_true, br_false, hasym]
  by_cases h1 : sep.size = 1
  · have d1 : decide ((sep.size : Int) = 1) = true := decide_eq_true (by omega)
    rw [d1, Bool.not_true, br_false, hl1 h1, ob_some, decide_eq_true h1, br_true, ob_some, br_true, ob_some, eqd_self]
  · have d1 : decide ((sep.size : Int) = 1) = false := decide_eq_false (by omega)
    rw [d1, Bool.not_false, br_true, hl0 h1, decide_eq_false h1]; rfl
end Go.Pl
