/- Plain laws: LJn. -/
import Derived.Test.YtifcbamdncpahaaDoorLLCut
import Derived.Test.YtifcbamdncpahaaDoorLLD
import Derived.Lib.Join
import Derived.Test.YtifcbamdncpahaaDoorLR15
set_option linter.unusedVariables false
set_option linter.unusedSimpArgs false
namespace Go.Pl
open Go Go.Tv Go.RowKit
theorem splitL_ne (c : UInt8) (l : List UInt8) : splitL c l ≠ [] := by
  obtain ⟨t, h, _⟩ := splitL_cons c l
  rw [h]; simp
theorem splitL_count (c : UInt8) : ∀ (l : List UInt8), (splitL c l).length = l.count c + 1
  | [] => rfl
  | b :: l => by
    have := splitL_count c l
    unfold splitL
    by_cases hb : b = c
    · rw [if_pos hb, List.length_cons, this, hb, List.count_cons_self]
    · rw [if_neg hb, List.count_cons_of_ne hb]
      obtain ⟨t, h, _⟩ := splitL_cons c l
      rw [h] at this ⊢
      simpa using this
theorem splitL_mem (c : UInt8) : ∀ (l : List UInt8), ∀ p ∈ splitL c l, c ∉ p
  | [], p, h => by simp [splitL] at h; rw [h]; simp
  | b :: l, p, h => by
    have ih := splitL_mem c l
    unfold splitL at h
    by_cases hb : b = c
    · rw [if_pos hb] at h
      rcases List.mem_cons.1 h with rfl | h
      · simp
      · exact ih p h
    · rw [if_neg hb] at h
      obtain ⟨t, e, _⟩ := splitL_cons c l
      rw [e] at h ih
      rcases List.mem_cons.1 h with rfl | h
      · simp only [List.mem_cons, not_or]
        exact ⟨fun e => hb e.symm, ih _ (by simp)⟩
      · exact ih p (by simp [h])
theorem split_cut {c : UInt8} {l : List UInt8} (h : c ∈ l) : splitL c l = bef c l :: splitL c (aft c l) := by
  conv => lhs; rw [cut_eq h]
  exact splitL_pre _ not_bef
theorem join_split (c : UInt8) : ∀ (l : List UInt8), Lib.join (splitL c l) [c] = l
  | [] => by simp [splitL, Lib.join_one]
  | b :: l => by
    have ih := join_split c l
    unfold splitL
    obtain ⟨t, e, _⟩ := splitL_cons c l
    rw [e] at ih ⊢
    rw [Lib.join_cons] at ih
    by_cases hb : b = c
    · rw [if_pos hb, Lib.join_cons]
      unfold Lib.joinTail at ih ⊢
      rw [List.map_cons, List.flatten_cons, hb]
      simp only [List.nil_append, List.singleton_append, List.cons_append] at ih ⊢
      rw [ih]
    · rw [if_neg hb, Lib.join_cons, List.cons_append, ih]
theorem count_aft {c : UInt8} {l : List UInt8} (h : c ∈ l) : l.count c = (aft c l).count c + 1 := by
  have h1 := splitL_count c l
  rw [split_cut h, List.length_cons, splitL_count] at h1
  omega
theorem strings_Index_at {n : Nat} (s : ByteArray) (c : UInt8) : strings_Index n s (one c) = some (if c ∈ bl s then ((bef c (bl s)).length : Int) else -1) := by
  unfold strings_Index
  rw [index_at]; rfl
theorem rep_set (p : List ByteArray) (x y : ByteArray) (m : Nat) : (p ++ List.replicate (m + 1) x).set p.length y = p ++ y :: List.replicate m x := by
  rw [List.set_append_right _ _ (Nat.le_refl _), Nat.sub_self]; rfl
theorem gen_R {n : Nat} {c : UInt8} : ∀ (m : Nat) (s : ByteArray) (p : List ByteArray) (fu : Nat), s.size ≤ 100000 → (bl s).count c = m → p.length + m ≤ 200000 → m ≤ 100000 → m < fu →
    fx (strings_genSplit_L2 n) fu (s, one c, 0, ((p.length + m : Nat) : Int), (p.length : Int), p ++ List.replicate (m + 1) (⟨#[]⟩ : ByteArray)) = some (p ++ (splitL c (bl s)).map mk) := by
  intro m
  have hJ : ∀ (s : ByteArray) (p : List ByteArray) (m : Nat), p.length ≤ 200000 → m = 0 → strings_genSplit_J1 n (s, (p.length : Int), p ++ List.replicate (m + 1) (⟨#[]⟩ : ByteArray)) = some (p ++ [s]) := by
    intro s p m hp h0
    subst h0
    unfold strings_genSplit_J1
    dsimp only
    have e1 := w64_succ (k := p.length) (by omega)
    rw [ckb_pos (inb_ok (by simp)), toNat_cast, rep_set, lt_eq, e1, lt_eq, ckb_pos (slb_ok (by omega) (by omega) (by simp)), Int.sub_zero, w64_id (by omega), toNat_cast]
    unfold sub
    exact congrArg some (List.take_of_length_le (by simp))
  induction m with
  | zero =>
    intro s p fu hs hc hp hm hf
    obtain ⟨fu, rfl⟩ : ∃ j, fu = j + 1 := ⟨fu - 1, by omega⟩
    rw [fx_succ]
    generalize fx (strings_genSplit_L2 n) fu = g
    unfold strings_genSplit_L2
    dsimp only
    rw [decide_eq_false (by omega), br_false, hJ s p 0 (by omega) rfl]
    have hno : c ∉ bl s := List.count_eq_zero.1 hc
    rw [splitL_no hno]
    simp
  | succ m ih =>
    intro s p fu hs hc hp hm hf
    obtain ⟨fu, rfl⟩ : ∃ j, fu = j + 1 := ⟨fu - 1, by omega⟩
    have hmem : c ∈ bl s := List.count_pos_iff.1 (by omega)
    have hlen : (bl s).length = (bef c (bl s)).length + 1 + (aft c (bl s)).length := by
      have := congrArg List.length (cut_eq hmem)
      simp only [List.length_append, List.length_cons] at this ⊢
      omega
    rw [bl_len] at hlen
    have hca := count_aft hmem
    have hcl := List.count_le_length (a := c) (l := bl s)
    rw [bl_len] at hcl
    have H := ih (mk (aft c (bl s))) (p ++ [mk (bef c (bl s))]) fu (by rw [mk_size]; omega) (by rw [bl_mk]; omega) (by simp; omega) (by omega) (by omega)
    rw [fx_succ]
    generalize fx (strings_genSplit_L2 n) fu = g at H
    unfold strings_genSplit_L2
    dsimp only
    have e0 : ((one c).size : Int) = 1 := rfl
    have e1 : w64 (((bef c (bl s)).length : Int) + 0) = ((bef c (bl s)).length : Int) := by rw [w64_id (by omega)]; omega
    have e2 : w64 (((bef c (bl s)).length : Int) + 1) = (((bef c (bl s)).length + 1 : Nat) : Int) := w64_succ (by omega)
    have e3 : w64 ((p.length : Int) + 1) = ((p.length + 1 : Nat) : Int) := w64_succ (by omega)
    rw [decide_eq_true (by omega), br_true, strings_Index_at, if_pos hmem, ob_some, decide_eq_false (by omega), br_false, e1, lt_eq, ckb_pos (slb_ok (by omega) (by omega) (by omega)), ckb_pos (inb_ok (by simp)), toNat_cast, toNat_cast, rep_set, lt_eq,
      e0, e2, lt_eq, ckb_pos (slb_ok (by omega) (by omega) (by omega)), e3, lt_eq, toNat_cast, ssub_bef hmem, ssub_aft hmem]
    rw [bl_mk] at H
    rw [split_cut hmem]
    simp only [List.length_append, List.length_singleton, List.append_assoc, List.singleton_append] at H
    rw [show p.length + (m + 1) = p.length + 1 + m by omega, H]
    simp
theorem strings_Split_eq {n : Nat} (hn : BIG ≤ n) {s : ByteArray} (hs : s.size ≤ 100000) (c : UInt8) : strings_Split n s (one c) = some ((splitL c (bl s)).map mk) := by
  unfold strings_Split strings_genSplit
  have hcl := List.count_le_length (a := c) (l := bl s)
  rw [bl_len] at hcl
  have e1 : decide ((-1 : Int) = 0) = false := rfl
  have e2 : eqd (one c) (⟨#[]⟩ : ByteArray) = false := by
    rw [eqd_str]
    exact decide_eq_false (fun h => by have := congrArg ByteArray.size h; exact absurd this (by decide : ¬ (1 = 0)))
  have e3 : decide ((-1 : Int) < 0) = true := rfl
  have hcnt : strings_Count_s n s (one c) = some (((bl s).count c : Nat) : Int) := by
    unfold strings_Count_s x_CountString
    have d1 : decide (((one c).size : Int) = 0) = false := rfl
    have d2 : decide (((one c).size : Int) = 1) = true := rfl
    have d3 : inb 0 (one c).size = true := rfl
    have d4 : sb (one c) 0 = (c.toNat : Int) := rfl
    have d5 : ((c.toNat : Int).toNat).toUInt8 = c := by simp
    rw [d1, br_false, d2, br_true, d3, ckb_true, d4, d5, ob_some]; rfl
  rw [e1, br_false, e2, br_false, e3, br_true, hcnt, ob_some, w64_succ (by omega), lt_eq]
  unfold strings_genSplit_J3
  dsimp only
  have e4 : w64 ((s.size : Int) + 1) = ((s.size + 1 : Nat) : Int) := w64_succ (by omega)
  have e5 : mnI (((bl s).count c + 1 : Nat) : Int) ((s.size + 1 : Nat) : Int) = (((bl s).count c + 1 : Nat) : Int) := if_neg (by omega)
  have e6 : w64 ((((bl s).count c + 1 : Nat) : Int) - 1) = (((bl s).count c : Nat) : Int) := by rw [w64_id (by omega)]; omega
  rw [e4, lt_eq, e5, ckb_pos (mkok_ok (by omega) (by omega) (by omega) (by omega)), e6, lt_eq, toNat_cast]
  have := gen_R (n := n) (c := c) ((bl s).count c) s [] n hs rfl (by simp; omega) (by omega) (big_gt hn (by omega))
  simp only [List.length_nil, Nat.zero_add, List.nil_append] at this
  rw [show ((0 : Nat) : Int) = 0 from rfl] at this
  rw [this, ob_some]
def szs (l : List ByteArray) : Nat := (l.map ByteArray.size).sum
theorem szs_cons (x : ByteArray) (l : List ByteArray) : szs (x :: l) = x.size + szs l := by simp [szs]
theorem szs_app (a b : List ByteArray) : szs (a ++ b) = szs a + szs b := by simp [szs]
def joinB (l : List ByteArray) (c : UInt8) : ByteArray := mk (Lib.join (l.map bl) [c])
theorem joinTail_len (c : UInt8) : ∀ (l : List ByteArray), (Lib.joinTail [c] (l.map bl)).length = szs l + l.length
  | [] => by simp [Lib.joinTail, szs]
  | x :: l => by
    have := joinTail_len c l
    unfold Lib.joinTail at this ⊢
    simp only [List.map_cons, List.flatten_cons, List.length_append, List.length_cons, List.length_nil, szs_cons, bl_len] at this ⊢
    omega
theorem joinB_size (x : ByteArray) (l : List ByteArray) (c : UInt8) : (joinB (x :: l) c).size = szs (x :: l) + l.length := by
  unfold joinB
  rw [mk_size, List.map_cons, Lib.join_cons, List.length_append, joinTail_len, bl_len, szs_cons]
  omega
theorem joinB_snoc (x : ByteArray) (l : List ByteArray) (y : ByteArray) (c : UInt8) : joinB (x :: l ++ [y]) c = joinB (x :: l) c ++ one c ++ y := by
  unfold joinB
  refine bl_inj ?_
  rw [bl_app, bl_app, bl_mk, bl_mk, List.cons_append, List.map_cons, List.map_cons, Lib.join_cons, Lib.join_cons, List.map_append]
  unfold Lib.joinTail
  rw [List.map_append, List.flatten_append]
  simp only [List.map_cons, List.map_nil, List.flatten_cons, List.flatten_nil, List.append_nil, List.append_assoc]
  rfl
def tot (l : List ByteArray) : Nat := szs l + (l.length - 1)
def freeB (c : UInt8) (l : List ByteArray) : Bool := l.all fun x => !stands x (c.toNat : Int)
def jn1 (l : List ByteArray) (c : UInt8) : ByteArray × Bool := if freeB c l = true ∧ tot l ≤ 4000 then (joinB l c, true) else (⟨#[]⟩, false)
theorem i_Join_R {n : Nat} {c : UInt8} {ps : List ByteArray} (hne : ps ≠ []) (hl : ps.length ≤ 100000) (hz : ∀ x ∈ ps, x.size ≤ 100000) : ∀ (q p : List ByteArray) (fu : Nat), ps = p ++ q → freeB c p = true → (p ≠ [] → ps.length - 1 + szs p ≤ 4000) → q.length < fu →
    fx (i_JoinStrings_L1 n) fu (ps, one c, ((ps.length - 1 + szs p : Nat) : Int), ps, (ps.length : Int), (p.length : Int)) = some (jn1 ps c) := by
  intro q
  induction q with
  | nil =>
    intro p fu hpq hfr hle hf
    obtain ⟨fu, rfl⟩ : ∃ j, fu = j + 1 := ⟨fu - 1, by omega⟩
    rw [List.append_nil] at hpq
    subst hpq
    rw [fx_succ]
    generalize fx (i_JoinStrings_L1 n) fu = g
    unfold i_JoinStrings_L1
    dsimp only
    have hle := hle hne
    have htot : tot ps ≤ 4000 := by unfold tot; omega
    rw [decide_eq_false (by omega), br_false]
    have hjl : (joinB ps c).size ≤ 4000 := by
      rcases ps with _ | ⟨x, l⟩
      · exact absurd rfl hne
      · rw [joinB_size]
        unfold tot at htot
        simp only [List.length_cons] at htot
        omega
    have hj : strings_Join n ps (one c) = some (joinB ps c) := by
      unfold strings_Join
      unfold joinB at hjl ⊢
      rw [mk_size] at hjl
      have : (Lib.join (ps.map fun x => x.data.toList) (one c).data.toList).length ≤ 140737488355328 := by
        change (Lib.join (ps.map bl) [c]).length ≤ _
        omega
      rw [decide_eq_true (by omega : ps.length ≤ 140737488355328), decide_eq_true this]; rfl
    rw [hj, ob_some]
    unfold jn1
    rw [if_pos ⟨hfr, htot⟩]
  | cons e q ih =>
    intro p fu hpq hfr hle hf
    obtain ⟨fu, rfl⟩ : ∃ j, fu = j + 1 := ⟨fu - 1, by omega⟩
    have H := ih (p ++ [e]) fu (by rw [hpq]; simp)
    rw [fx_succ]
    generalize fx (i_JoinStrings_L1 n) fu = g at H
    unfold i_JoinStrings_L1
    dsimp only
    have hplt : p.length < ps.length := by rw [hpq]; simp
    have hgl : gl (⟨#[]⟩ : ByteArray) ps p.length = e := by rw [gl_eq hplt]; simp [hpq]
    have hes := hz e (by rw [hpq]; simp)
    have hsp : szs p ≤ 4000 := by
      rcases p with _ | ⟨x, p⟩
      · simp [szs]
      · have := hle (by simp); omega
    have e1 : w64 (((ps.length - 1 + szs p : Nat) : Int) + (e.size : Int)) = ((ps.length - 1 + szs (p ++ [e]) : Nat) : Int) := by
      rw [szs_app, szs_cons, w64_id (by omega)]
      simp [szs]; omega
    have e2 : w64 ((p.length : Int) + 1) = ((p.length + 1 : Nat) : Int) := w64_succ (by omega)
    have htotle : ps.length - 1 + szs (p ++ [e]) ≤ tot ps := by
      unfold tot
      rw [hpq, szs_app, szs_app, szs_cons, szs_cons]
      simp [szs]
      omega
    rw [decide_eq_true (by omega), br_true, ckb_pos (inb_ok hplt), toNat_cast, hgl, e1, lt_eq, contains_one, ob_some]
    by_cases hst : stands e (c.toNat : Int) = true
    · rw [hst, br_true, ob_some, br_true]
      unfold jn1
      rw [if_neg]
      rintro ⟨h1, _⟩
      have := List.all_eq_true.1 h1 e (by rw [hpq]; simp)
      rw [hst] at this; cases this
    · have hst' : stands e (c.toNat : Int) = false := by simpa using hst
      rw [hst', br_false, ob_some]
      by_cases h4 : (4000 : Int) < ((ps.length - 1 + szs (p ++ [e]) : Nat) : Int)
      · rw [decide_eq_true h4, br_true]
        unfold jn1
        rw [if_neg]
        rintro ⟨_, h2⟩
        omega
      · rw [decide_eq_false h4, br_false, e2, lt_eq]
        have := H (by unfold freeB at hfr ⊢; rw [List.all_append, hfr]; simp [hst']) (fun _ => by omega) (by simp at hf; omega)
        rw [List.length_append, List.length_singleton] at this
        exact this
theorem i_JoinStrings_eq {n : Nat} (hn : BIG ≤ n) {ps : List ByteArray} (hne : ps ≠ []) (hl : ps.length ≤ 100000) (hz : ∀ x ∈ ps, x.size ≤ 100000) (c : UInt8) : i_JoinStrings n ps (one c) = some (jn1 ps c) := by
  unfold i_JoinStrings
  have h1 : 1 ≤ ps.length := by
    rcases ps with _ | ⟨x, l⟩
    · exact absurd rfl hne
    · simp
  have e1 : decide (((one c).size : Int) = 1) = true := rfl
  have e2 : w64 ((ps.length : Int) - 1) = ((ps.length - 1 + szs [] : Nat) : Int) := by rw [w64_id (by omega)]; simp [szs]; omega
  rw [decide_eq_false (by omega), br_false, e1, Bool.not_true, ob_some, br_false, e2, lt_eq]
  exact i_Join_R hne hl hz ps [] n rfl rfl (fun h => absurd rfl h) (big_gt hn (by omega))
theorem s_Join_R {n : Nat} (hn : BIG ≤ n) {c : UInt8} {ps : List ByteArray} (hl : ps.length ≤ 100000) (hz : ∀ x ∈ ps, x.size ≤ 100000) : ∀ (q p : List ByteArray) (fu : Nat), ps = p ++ q → freeB c p = true → tot p ≤ 4000 → q.length < fu →
    fx (s_JoinStrings_L2 n) fu (ps, one c, joinB p c, (p.length : Int)) = some (jn1 ps c) := by
  intro q
  induction q with
  | nil =>
    intro p fu hpq hfr hle hf
    obtain ⟨fu, rfl⟩ : ∃ j, fu = j + 1 := ⟨fu - 1, by omega⟩
    rw [List.append_nil] at hpq
    subst hpq
    rw [fx_succ]
    generalize fx (s_JoinStrings_L2 n) fu = g
    unfold s_JoinStrings_L2
    dsimp only
    rw [decide_eq_false (by omega), br_false]
    unfold jn1
    rw [if_pos ⟨hfr, hle⟩]
  | cons e q ih =>
    intro p fu hpq hfr hle hf
    obtain ⟨fu, rfl⟩ : ∃ j, fu = j + 1 := ⟨fu - 1, by omega⟩
    have H := ih (p ++ [e]) fu (by rw [hpq]; simp)
    rw [fx_succ]
    generalize fx (s_JoinStrings_L2 n) fu = g at H
    unfold s_JoinStrings_L2
    dsimp only
    have hplt : p.length < ps.length := by rw [hpq]; simp
    have hgl : gl (⟨#[]⟩ : ByteArray) ps p.length = e := by rw [gl_eq hplt]; simp [hpq]
    have hes := hz e (by rw [hpq]; simp)
    have d3 : inb 0 (one c).size = true := rfl
    have d4 : sb (one c) 0 = (c.toNat : Int) := rfl
    have e2 : w64 ((p.length : Int) + 1) = ((p.length + 1 : Nat) : Int) := w64_succ (by omega)
    have htotle : tot (p ++ [e]) ≤ tot ps := by
      unfold tot
      rw [hpq, szs_app, szs_app, szs_cons, szs_cons]
      simp [szs]
      omega
    rw [decide_eq_true (by omega), br_true, ckb_pos (inb_ok hplt), d3, ckb_true, toNat_cast, hgl, d4, s_l1Stands_eq hn (by omega), ob_some]
    by_cases hst : stands e (c.toNat : Int) = true
    · rw [hst, br_true]
      unfold jn1
      rw [if_neg]
      rintro ⟨h1, _⟩
      have := List.all_eq_true.1 h1 e (by rw [hpq]; simp)
      rw [hst] at this; cases this
    · have hst' : stands e (c.toNat : Int) = false := by simpa using hst
      rw [hst', br_false]
      have fin : ∀ out : ByteArray, out.size ≤ 10000 → out ++ e = joinB (p ++ [e]) c → (out ++ e).size = tot (p ++ [e]) → s_JoinStrings_J1 n g (ps, one c, out, (p.length : Int)) = some (jn1 ps c) := by
        intro out ho he hsz
        unfold s_JoinStrings_J1
        dsimp only
        rw [ckb_pos (inb_ok hplt), toNat_cast, hgl, ckb_pos (stok_ok (by omega)), lt_eq, hsz]
        by_cases h4 : (4000 : Int) < ((tot (p ++ [e]) : Nat) : Int)
        · rw [decide_eq_true h4, br_true]
          unfold jn1
          rw [if_neg]
          rintro ⟨_, h2⟩
          omega
        · rw [decide_eq_false h4, br_false, e2, lt_eq, he]
          have := H (by unfold freeB at hfr ⊢; rw [List.all_append, hfr]; simp [hst']) (by omega) (by simp at hf; omega)
          rw [List.length_append, List.length_singleton] at this
          exact this
      rcases p with _ | ⟨x, p⟩
      · have e0 : decide ((0 : Int) < ((([] : List ByteArray).length : Nat) : Int)) = false := rfl
        rw [e0, br_false]
        refine fin _ (by unfold joinB; rw [mk_size]; simp [Lib.join_nil]) (bl_inj ?_) ?_
        · unfold joinB
          rw [bl_app, bl_mk, bl_mk]
          simp [Lib.join_nil, Lib.join_one]
        · unfold joinB tot
          rw [app_size, mk_size]
          simp [Lib.join_nil, szs]
      · have e0 : decide ((0 : Int) < (((x :: p).length : Nat) : Int)) = true := decide_eq_true (by simp)
        have hjs := joinB_size x p c
        unfold tot at hle
        simp only [List.length_cons] at hle
        have e64 : (one c).size = 1 := rfl
        rw [e0, br_true, ckb_pos (stok_ok (by omega)), lt_eq]
        refine fin _ (by rw [app_size]; omega) (joinB_snoc x p e c).symm ?_
        rw [app_size, app_size, hjs]
        unfold tot
        rw [szs_app, szs_cons e []]
        simp only [List.length_append, List.length_cons, List.length_nil, szs, List.map_nil, List.sum_nil]
        omega
theorem s_JoinStrings_eq {n : Nat} (hn : BIG ≤ n) {ps : List ByteArray} (hne : ps ≠ []) (hl : ps.length ≤ 100000) (hz : ∀ x ∈ ps, x.size ≤ 100000) (c : UInt8) : s_JoinStrings n ps (one c) = some (jn1 ps c) := by
  unfold s_JoinStrings
  have h1 : 1 ≤ ps.length := by
    rcases ps with _ | ⟨x, l⟩
    · exact absurd rfl hne
    · simp
  have e1 : decide (((one c).size : Int) = 1) = true := rfl
  rw [e1, Bool.not_true, br_false, decide_eq_false (by omega), ob_some, br_false]
  exact s_Join_R hn hl hz ps [] n rfl rfl (by simp [tot, szs]) (big_gt hn (by omega))
end Go.Pl
