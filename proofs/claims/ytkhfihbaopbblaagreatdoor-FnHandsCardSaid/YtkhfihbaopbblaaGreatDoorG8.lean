/- Plain laws: LPr, LVc, LDh, LCp, LSm. -/
import Derived.Test.YtkhfihbaopbblaaGreatDoorG7
import Derived.Test.YtkhfihbaopbblaaGreatDoorG3
import Derived.Test.YtkhfihbaopbblaaGreatDoorPL
import Derived.Test.YtkhfihbaopbblaaGreatDoorG6
import Derived.Test.YtkhfihbaopbblaaGreatDoorG1
set_option linter.unusedVariables false
set_option linter.unusedSimpArgs false
namespace Go.Pl
open Go Go.Tv Go.RowKit
def cd (s : ByteArray) : Card := ⟨sb s 0 - 48, sb s 1 - 48, sb s 2 - 48, sb s 3 - 48⟩
theorem i_readCard_4 {n : Nat} (hn : BIG ≤ n) {s : ByteArray} (h4 : s.size = 4) : i_readCard n s = some (cd s, isC (cd s)) := by
  have hn' := hn
  obtain ⟨m, rfl⟩ : ∃ m, n = m + 5 := ⟨n - 5, by unfold BIG at hn; omega⟩
  have b0 := sb_bd s 0
  have b1 := sb_bd s 1
  have b2 := sb_bd s 2
  have b3 := sb_bd s 3
  have w0 : ∀ k, 0 ≤ sb s k ∧ sb s k ≤ 255 → w64 (sb s k) = sb s k := fun k hk => w64_id (by omega)
  have w1 : ∀ k, 0 ≤ sb s k ∧ sb s k ≤ 255 → w64 (sb s k - 48) = sb s k - 48 := fun k hk => w64_id (by omega)
  have q0 : inb 0 s.size = true := inb_pos (by omega) (by omega)
  have q1 : inb 1 s.size = true := inb_pos (by omega) (by omega)
  have q2 : inb 2 s.size = true := inb_pos (by omega) (by omega)
  have q3 : inb 3 s.size = true := inb_pos (by omega) (by omega)
  have r0 : inb 0 4 = true := rfl
  have r1 : inb 1 4 = true := rfl
  have r2 : inb 2 4 = true := rfl
  have r3 : inb 3 4 = true := rfl
  have d0 : decide ((0 : Int) < 4) = true := rfl
  have d1 : decide ((1 : Int) < 4) = true := rfl
  have d2 : decide ((2 : Int) < 4) = true := rfl
  have d3 : decide ((3 : Int) < 4) = true := rfl
  have d4 : decide ((4 : Int) < 4) = false := rfl
  have t0 : (0 : Int).toNat = 0 := rfl
  have t1 : (1 : Int).toNat = 1 := rfl
  have t2 : (2 : Int).toNat = 2 := rfl
  have t3 : (3 : Int).toNat = 3 := rfl
  have p0 : w64 ((0 : Int) + 1) = 1 := by decide
  have p1 : w64 ((1 : Int) + 1) = 2 := by decide
  have p2 : w64 ((2 : Int) + 1) = 3 := by decide
  have p3 : w64 ((3 : Int) + 1) = 4 := by decide
  unfold i_readCard
  rw [lt_eq, decide_eq_true (by omega : (s.size : Int) = 4), Bool.not_true, br_false]
  simp only [fx_succ, i_readCard_L1, d0, d1, d2, d3, d4, br_true, br_false, q0, q1, q2, q3, ckb_true, t0, t1, t2, t3, lt_eq, w0 0 b0, w0 1 b1, w0 2 b2, w0 3 b3, w1 0 b0, w1 1 b1, w1 2 b2, w1 3 b3, r0, r1, r2, r3, p0, p1, p2, p3]
  have e : (V4.set (V4.set (V4.set (V4.set (⟨0, 0, 0, 0⟩ : Card) 0 (sb s 0 - 48)) 1 (sb s 1 - 48)) 2 (sb s 2 - 48)) 3 (sb s 3 - 48)) = cd s := rfl
  rw [e, i_IsCard_eq hn', ob_some]
theorem cd_isC (s : ByteArray) : isC (cd s) = true ↔ (48 ≤ sb s 0 ∧ sb s 0 ≤ 50) ∧ (48 ≤ sb s 1 ∧ sb s 1 ≤ 50) ∧ (48 ≤ sb s 2 ∧ sb s 2 ≤ 50) ∧ (48 ≤ sb s 3 ∧ sb s 3 ≤ 50) := by
  rw [isC_iff]
  unfold cd
  dsimp only
  omega
theorem s_l2Read_4 {n : Nat} (hn : BIG ≤ n) {s : ByteArray} (h4 : s.size = 4) : s_l2Read n s = some (if isC (cd s) = true then (cd s, true) else (⟨0, 0, 0, 0⟩, false)) := by
  obtain ⟨m, rfl⟩ : ∃ m, n = m + 5 := ⟨n - 5, by unfold BIG at hn; omega⟩
  have q0 : inb 0 s.size = true := inb_pos (by omega) (by omega)
  have q1 : inb 1 s.size = true := inb_pos (by omega) (by omega)
  have q2 : inb 2 s.size = true := inb_pos (by omega) (by omega)
  have q3 : inb 3 s.size = true := inb_pos (by omega) (by omega)
  have r0 : inb 0 4 = true := rfl
  have r1 : inb 1 4 = true := rfl
  have r2 : inb 2 4 = true := rfl
  have r3 : inb 3 4 = true := rfl
  have d0 : decide ((0 : Int) < 4) = true := rfl
  have d1 : decide ((1 : Int) < 4) = true := rfl
  have d2 : decide ((2 : Int) < 4) = true := rfl
  have d3 : decide ((3 : Int) < 4) = true := rfl
  have d4 : decide ((4 : Int) < 4) = false := rfl
  have t0 : (0 : Int).toNat = 0 := rfl
  have t1 : (1 : Int).toNat = 1 := rfl
  have t2 : (2 : Int).toNat = 2 := rfl
  have t3 : (3 : Int).toNat = 3 := rfl
  have p0 : w64 ((0 : Int) + 1) = 1 := by decide
  have p1 : w64 ((1 : Int) + 1) = 2 := by decide
  have p2 : w64 ((2 : Int) + 1) = 3 := by decide
  have p3 : w64 ((3 : Int) + 1) = 4 := by decide
  have tst : ∀ k, (br (decide (sb s k < 48)) (some true) (some (decide (50 < sb s k)))) = some (!decide (48 ≤ sb s k ∧ sb s k ≤ 50)) := by
    intro k
    by_cases h1 : sb s k < 48
    · rw [decide_eq_true h1, br_true, decide_eq_false (by omega)]; rfl
    · rw [decide_eq_false h1, br_false]
      by_cases h2 : 50 < sb s k
      · rw [decide_eq_true h2, decide_eq_false (by omega)]; rfl
      · rw [decide_eq_false h2, decide_eq_true (by omega)]; rfl
  have wv : ∀ k, 48 ≤ sb s k ∧ sb s k ≤ 50 → w64 (IntKind.wrap .u8 (sb s k - 48)) = sb s k - 48 := by
    intro k hk
    have : IntKind.wrap .u8 (sb s k - 48) = sb s k - 48 := by
      simp only [IntKind.wrap, IntKind.bits, IntKind.signed]
      simp
      omega
    rw [this, w64_id (by omega)]
  have hC := cd_isC s
  unfold s_l2Read
  rw [lt_eq, decide_eq_true (by omega : (s.size : Int) = 4), Bool.not_true, br_false]
  simp only [fx_succ, s_l2Read_L1, d0, d1, d2, d3, d4, br_true, br_false, q0, q1, q2, q3, ckb_true, t0, t1, t2, t3, lt_eq, r0, r1, r2, r3, p0, p1, p2, p3, tst, ob_some]
  by_cases h0 : 48 ≤ sb s 0 ∧ sb s 0 ≤ 50
  case neg => rw [decide_eq_false h0, Bool.not_false, br_true, if_neg (fun h => h0 (hC.1 h).1)]
  rw [decide_eq_true h0, Bool.not_true, br_false, wv 0 h0]
  by_cases h1 : 48 ≤ sb s 1 ∧ sb s 1 ≤ 50
  case neg => rw [decide_eq_false h1, Bool.not_false, br_true, if_neg (fun h => h1 (hC.1 h).2.1)]
  rw [decide_eq_true h1, Bool.not_true, br_false, wv 1 h1]
  by_cases h2 : 48 ≤ sb s 2 ∧ sb s 2 ≤ 50
  case neg => rw [decide_eq_false h2, Bool.not_false, br_true, if_neg (fun h => h2 (hC.1 h).2.2.1)]
  rw [decide_eq_true h2, Bool.not_true, br_false, wv 2 h2]
  by_cases h3 : 48 ≤ sb s 3 ∧ sb s 3 ≤ 50
  case neg => rw [decide_eq_false h3, Bool.not_false, br_true, if_neg (fun h => h3 (hC.1 h).2.2.2)]
  rw [decide_eq_true h3, Bool.not_true, br_false, wv 3 h3, if_pos (hC.2 ⟨h0, h1, h2, h3⟩)]
  rfl
def rdC (s : ByteArray) : Option Card := if s.size = 4 ∧ isC (cd s) = true then some (cd s) else none
theorem read_ok {n : Nat} (hn : BIG ≤ n) (s : ByteArray) : (∃ c, i_readCard n s = some (c, (rdC s).isSome) ∧ ((rdC s).isSome = true → rdC s = some c)) ∧ (∃ c, s_l2Read n s = some (c, (rdC s).isSome) ∧ ((rdC s).isSome = true → rdC s = some c)) := by
  unfold rdC
  by_cases h4 : s.size = 4
  · rw [i_readCard_4 hn h4, s_l2Read_4 hn h4]
    by_cases hc : isC (cd s) = true
    · rw [if_pos ⟨h4, hc⟩, if_pos hc, hc]
      exact ⟨⟨_, rfl, fun _ => rfl⟩, ⟨_, rfl, fun _ => rfl⟩⟩
    · have hc' : isC (cd s) = false := by simpa using hc
      rw [if_neg (fun h => hc h.2), if_neg hc, hc']
      exact ⟨⟨_, rfl, fun h => by cases h⟩, ⟨_, rfl, fun h => by cases h⟩⟩
  · rw [if_neg (fun h => h4 h.1)]
    have hd : decide ((s.size : Int) = 4) = false := decide_eq_false (by omega)
    refine ⟨⟨⟨0, 0, 0, 0⟩, ?_, fun h => by cases h⟩, ⟨⟨0, 0, 0, 0⟩, ?_, fun h => by cases h⟩⟩
    · unfold i_readCard; rw [lt_eq, hd]; rfl
    · unfold s_l2Read; rw [lt_eq, hd]; rfl
def rdAll : List ByteArray → Option (List Card)
  | [] => some []
  | p :: ps => match rdC p with
    | some c => match rdAll ps with
      | some cs => some (c :: cs)
      | none => none
    | none => none
theorem rdAll_len : ∀ {ps : List ByteArray} {cs : List Card}, rdAll ps = some cs → cs.length = ps.length ∧ szs ps = 4 * ps.length
  | [], cs, h => by
    injection h with h
    subst h
    exact ⟨rfl, rfl⟩
  | p :: ps, cs, h => by
    unfold rdAll at h
    split at h
    · rename_i c hc
      split at h
      · rename_i cs' hcs
        injection h with h
        subst h
        obtain ⟨h1, h2⟩ := rdAll_len hcs
        have : p.size = 4 := by
          unfold rdC at hc
          split at hc
          · rename_i h; exact h.1
          · cases hc
        rw [szs_cons, h2, this]
        simp only [List.length_cons]
        omega
      · cases h
    · cases h
def outC (o : Option (List Card)) (acc : List Card) : Bool × List Card := match o with
  | some cs => (true, acc ++ cs)
  | none => (false, [])
theorem i_readCards_R {n : Nat} (hn : BIG ≤ n) {ps : List ByteArray} (hl : ps.length ≤ 100000) : ∀ (q p : List ByteArray) (acc : List Card) (fu : Nat), ps = p ++ q → acc.length = p.length → q.length < fu →
    fx (i_readCards_L1 n) fu ((ps.length : Int), (p.length : Int), acc, ps) = some (outC (rdAll q) acc) := by
  intro q
  induction q with
  | nil =>
    intro p acc fu hpq ha hf
    obtain ⟨fu, rfl⟩ : ∃ j, fu = j + 1 := ⟨fu - 1, by omega⟩
    rw [List.append_nil] at hpq
    subst hpq
    rw [fx_succ]
    generalize fx (i_readCards_L1 n) fu = g
    unfold i_readCards_L1
    dsimp only
    have eo : outC (rdAll []) acc = (true, acc) := by simp [rdAll, outC]
    rw [decide_eq_false (by omega), br_false, eo]
  | cons e q ih =>
    intro p acc fu hpq ha hf
    obtain ⟨fu, rfl⟩ : ∃ j, fu = j + 1 := ⟨fu - 1, by omega⟩
    have H := fun acc hacc => ih (p ++ [e]) acc fu (by rw [hpq]; simp) hacc (by simp at hf; omega)
    rw [fx_succ]
    generalize fx (i_readCards_L1 n) fu = g at H
    unfold i_readCards_L1
    dsimp only
    have hplt : p.length < ps.length := by rw [hpq]; simp
    have hgl : gl (⟨#[]⟩ : ByteArray) ps p.length = e := by rw [gl_eq hplt]; simp [hpq]
    obtain ⟨⟨c, e1, e2⟩, _⟩ := read_ok hn e
    rw [decide_eq_true (by omega), br_true, ckb_pos (inb_ok hplt), toNat_cast, hgl, e1, ob_some]
    unfold rdAll
    cases hr : rdC e with
    | none => rfl
    | some c' =>
      rw [hr] at e2
      have hcc : c' = c := by have := e2 rfl; injection this
      subst hcc
      have := H (acc ++ [c']) (by simp [ha])
      rw [List.length_append, List.length_singleton] at this
      dsimp only
      rw [Option.isSome_some, Bool.not_true, br_false, ckb_pos (apok_ok (by omega) (by omega)), w64_succ (by omega), lt_eq, this]
      cases rdAll q with
      | none => rfl
      | some cs => simp [outC]
theorem s_ParseHand_R {n : Nat} (hn : BIG ≤ n) {ps : List ByteArray} (hl : ps.length ≤ 100000) : ∀ (q p : List ByteArray) (acc : List Card) (fu : Nat), ps = p ++ q → acc.length = p.length → q.length < fu →
    fx (s_ParseHand_L1 n) fu ((p.length : Int), acc, ps) = some (if (outC (rdAll q) acc).1 = true ∧ hand (outC (rdAll q) acc).2 = true then outC (rdAll q) acc else (false, [])) := by
  intro q
  induction q with
  | nil =>
    intro p acc fu hpq ha hf
    obtain ⟨fu, rfl⟩ : ∃ j, fu = j + 1 := ⟨fu - 1, by omega⟩
    rw [List.append_nil] at hpq
    subst hpq
    rw [fx_succ]
    generalize fx (s_ParseHand_L1 n) fu = g
    unfold s_ParseHand_L1
    dsimp only
    rw [decide_eq_false (by omega), br_false, s_l2Hand_eq hn (by omega), ob_some]
    have eo : outC (rdAll []) acc = (true, acc) := by simp [rdAll, outC]
    rw [eo]
    cases hand acc <;> rfl
  | cons e q ih =>
    intro p acc fu hpq ha hf
    obtain ⟨fu, rfl⟩ : ∃ j, fu = j + 1 := ⟨fu - 1, by omega⟩
    have H := fun acc hacc => ih (p ++ [e]) acc fu (by rw [hpq]; simp) hacc (by simp at hf; omega)
    rw [fx_succ]
    generalize fx (s_ParseHand_L1 n) fu = g at H
    unfold s_ParseHand_L1
    dsimp only
    have hplt : p.length < ps.length := by rw [hpq]; simp
    have hgl : gl (⟨#[]⟩ : ByteArray) ps p.length = e := by rw [gl_eq hplt]; simp [hpq]
    obtain ⟨_, ⟨c, e1, e2⟩⟩ := read_ok hn e
    rw [decide_eq_true (by omega), br_true, ckb_pos (inb_ok hplt), toNat_cast, hgl, e1, ob_some]
    unfold rdAll
    cases hr : rdC e with
    | none => rfl
    | some c' =>
      rw [hr] at e2
      have hcc : c' = c := by have := e2 rfl; injection this
      subst hcc
      have := H (acc ++ [c']) (by simp [ha])
      rw [List.length_append, List.length_singleton] at this
      dsimp only
      rw [Option.isSome_some, Bool.not_true, br_false, ckb_pos (apok_ok (by omega) (by omega)), w64_succ (by omega), lt_eq, this]
      cases rdAll q with
      | none => rfl
      | some cs => simp [outC]
def parts (s : ByteArray) : List ByteArray := (splitL 32 (bl s)).map mk
def parseH (s : ByteArray) : Bool × List Card := if s = ⟨#[]⟩ then (true, []) else if (outC (rdAll (parts s)) []).1 = true ∧ hand (outC (rdAll (parts s)) []).2 = true then outC (rdAll (parts s)) [] else (false, [])
theorem parts_len {s : ByteArray} : (parts s).length ≤ s.size + 1 := by
  unfold parts
  rw [List.length_map, ← bl_len]
  exact splitL_len _ _
theorem i_ParseHand_eq {n : Nat} (hn : BIG ≤ n) {s : ByteArray} (hs : s.size ≤ 50000) : i_ParseHand n s = some (parseH s) := by
  unfold i_ParseHand i_readCards parseH
  rw [eqd_str]
  by_cases h0 : s = ⟨#[]⟩
  · rw [decide_eq_true h0, br_true, ob_some, if_pos h0]
    dsimp only
    rw [Bool.not_true, br_false, i_IsHand_eq hn (by simp), ob_some]; rfl
  · have hpl := parts_len (s := s)
    have o32 : (⟨#[32]⟩ : ByteArray) = one 32 := rfl
    rw [decide_eq_false h0, br_false, o32, strings_Split_eq hn (by omega), ob_some, if_neg h0]
    have := i_readCards_R hn (ps := parts s) (by omega) (parts s) [] [] n rfl rfl (big_gt hn (by omega))
    have e : (splitL 32 (bl s)).map mk = parts s := rfl
    rw [e]
    rw [show ((([] : List ByteArray).length : Nat) : Int) = 0 from rfl] at this
    rw [this, ob_some]
    cases hr : rdAll (parts s) with
    | none => rfl
    | some cs =>
      have hcl := (rdAll_len hr).1
      simp only [outC, List.nil_append, true_and, Bool.not_true, br_false]
      rw [i_IsHand_eq hn (by omega), ob_some]
      cases hand cs <;> rfl
theorem s_ParseHand_eq {n : Nat} (hn : BIG ≤ n) {s : ByteArray} (hs : s.size ≤ 50000) : s_ParseHand n s = some (parseH s) := by
  unfold s_ParseHand parseH
  rw [eqd_str]
  by_cases h0 : s = ⟨#[]⟩
  · rw [decide_eq_true h0, br_true, if_pos h0]
  · have hpl := parts_len (s := s)
    rw [decide_eq_false h0, br_false, if_neg h0]
    by_cases h135 : (135 : Int) < (s.size : Int)
    · rw [decide_eq_true h135, br_true]
      cases hr : rdAll (parts s) with
      | none => rfl
      | some cs =>
        obtain ⟨h1, h2⟩ := rdAll_len hr
        have hne : parts s ≠ [] := by unfold parts; simpa using splitL_ne 32 (bl s)
        obtain ⟨y, t, hyt⟩ := List.exists_cons_of_ne_nil hne
        have hj := joinB_size y t 32
        have hjs : joinB (parts s) 32 = s := by
          unfold joinB parts
          rw [List.map_map]
          have : (bl ∘ mk) = id := by funext x; simp
          rw [this, List.map_id, join_split, mk_bl]
        rw [← hyt, hjs, h2, hyt, List.length_cons] at hj
        rw [hyt, List.length_cons] at h1
        have hnot : hand cs = false := by
          cases hh : hand cs with
          | false => rfl
          | true => have := hand_len hh; omega
        simp [outC, hnot]
    · rw [decide_eq_false h135, br_false]
      have hsp := s_l1Split_eq hn (s := s) (by omega) 32
      have e32 : (((32 : UInt8).toNat : Nat) : Int) = 32 := rfl
      rw [e32] at hsp
      rw [hsp, ob_some]
      have := s_ParseHand_R hn (ps := parts s) (by omega) (parts s) [] [] n rfl rfl (big_gt hn (by omega))
      exact this
theorem splitL_join (c : UInt8) : ∀ (x : List UInt8) (r : List (List UInt8)), (∀ y ∈ x :: r, c ∉ y) → splitL c (Lib.join (x :: r) [c]) = x :: r
  | x, [], h => by rw [Lib.join_one]; exact splitL_no (h x (by simp))
  | x, y :: r, h => by
    have ih := splitL_join c y r (fun z hz => h z (by simp [hz]))
    rw [Lib.join_cons] at ih ⊢
    unfold Lib.joinTail at ih ⊢
    rw [List.map_cons, List.flatten_cons]
    have : x ++ (([c] ++ y) ++ (r.map ([c] ++ ·)).flatten) = x ++ c :: (y ++ (r.map ([c] ++ ·)).flatten) := by simp
    rw [this, splitL_pre _ (h x (by simp)), ih]
theorem ct_bytes {c : Card} (hc : isC c = true) : ∀ b ∈ ct c, 48 ≤ b.toNat ∧ b.toNat ≤ 50 := by
  rw [isC_iff] at hc
  intro b hb
  unfold ct at hb
  have key : ∀ v : Int, 0 ≤ v ∧ v ≤ 2 → 48 ≤ (UInt8.ofNat (48 + v.toNat)).toNat ∧ (UInt8.ofNat (48 + v.toNat)).toNat ≤ 50 := by
    intro v hv
    rw [UInt8.toNat_ofNat']
    omega
  simp only [List.mem_cons, List.mem_nil_iff, or_false] at hb
  rcases hb with rfl | rfl | rfl | rfl
  · exact key _ (by omega)
  · exact key _ (by omega)
  · exact key _ (by omega)
  · exact key _ (by omega)
theorem rdC_ct {c : Card} (hc : isC c = true) : rdC (mk (ct c)) = some c := by
  have hc' := hc
  rw [isC_iff] at hc
  have key : ∀ v : Int, 0 ≤ v ∧ v ≤ 2 → ((UInt8.ofNat (48 + v.toNat)).toNat : Int) - 48 = v := by
    intro v hv
    rw [UInt8.toNat_ofNat']
    omega
  have e : cd (mk (ct c)) = c := by
    obtain ⟨c0, c1, c2, c3⟩ := c
    dsimp only at hc
    have s0 : sb (mk (ct ⟨c0, c1, c2, c3⟩)) 0 = ((UInt8.ofNat (48 + c0.toNat)).toNat : Int) := rfl
    have s1 : sb (mk (ct ⟨c0, c1, c2, c3⟩)) 1 = ((UInt8.ofNat (48 + c1.toNat)).toNat : Int) := rfl
    have s2 : sb (mk (ct ⟨c0, c1, c2, c3⟩)) 2 = ((UInt8.ofNat (48 + c2.toNat)).toNat : Int) := rfl
    have s3 : sb (mk (ct ⟨c0, c1, c2, c3⟩)) 3 = ((UInt8.ofNat (48 + c3.toNat)).toNat : Int) := rfl
    unfold cd
    rw [s0, s1, s2, s3, key c0 (by omega), key c1 (by omega), key c2 (by omega), key c3 (by omega)]
  unfold rdC
  rw [e, if_pos ⟨by rw [mk_size]; rfl, hc'⟩]
theorem rdAll_txs : ∀ {h : List Card}, AllC h → rdAll (txs h) = some h
  | [], _ => rfl
  | c :: h, hc => by
    have e : txs (c :: h) = mk (ct c) :: txs h := rfl
    rw [e, rdAll, rdC_ct (hc c (by simp)), rdAll_txs (fun x hx => hc x (by simp [hx]))]
theorem parse_text {h : List Card} (hh : hand h = true) : parseH (htx h) = (true, h) := by
  obtain ⟨h1, _, _⟩ := hand_iff.1 hh
  rcases h with _ | ⟨c, h⟩
  · rfl
  · unfold parseH
    have hz := htx_size (c :: h)
    have hne : ¬ htx (c :: h) = ⟨#[]⟩ := fun e => by
      have := congrArg ByteArray.size e
      rw [hz] at this
      have e0 : (⟨#[]⟩ : ByteArray).size = 0 := rfl
      rw [e0] at this
      simp at this
      omega
    have hp : parts (htx (c :: h)) = txs (c :: h) := by
      unfold parts htx joinB
      rw [bl_mk]
      have e : (txs (c :: h)).map bl = bl (mk (ct c)) :: (txs h).map bl := rfl
      rw [e, splitL_join 32 _ _ (fun y hy => ?_), ← e, List.map_map]
      · have : (mk ∘ bl) = id := by funext x; simp
        rw [this, List.map_id]
      · rw [← e] at hy
        obtain ⟨z, hz, rfl⟩ := List.mem_map.1 hy
        obtain ⟨d, hd, rfl⟩ := List.mem_map.1 hz
        rw [bl_mk]
        intro h32
        have := ct_bytes (h1 d hd) 32 h32
        have e : (32 : UInt8).toNat = 32 := rfl
        omega
    rw [if_neg hne, hp, rdAll_txs h1]
    simp [outC, hh]
end Go.Pl
namespace Go.Pl
open Go Go.Tv Go.RowKit
set_option linter.unusedVariables false
set_option linter.unusedSimpArgs false
theorem ok_bytes' {a : List Int} (h : (Ty.sl (.int .u8)).ok a) : ∀ x, x ∈ a → 0 ≤ x ∧ x ≤ 255 := fun x hx => bounds_u8 (h.2 x hx)
theorem i_LinesIn_eq {n : Nat} (hn : BIG ≤ n) {h : List Card} (hl : h.length ≤ 1048576) : i_LinesIn n h = some (if hand h then (true, linesOf h) else (false, [])) := by
  unfold i_LinesIn
  rw [i_IsHand_eq hn (by omega), ob_some]
  cases hh : hand h with
  | false => rfl
  | true =>
    have := hand_len hh
    rw [Bool.not_true, br_false, i_linesIn_eq hn (by omega) (hand_all hh) (hand_nodup hh), ob_some]; rfl
def ByB (a : List Int) : Prop := ∀ x, x ∈ a → 0 ≤ x ∧ x ≤ 255
theorem i_LinesThrough_eq {n : Nat} (hn : BIG ≤ n) {h : List Card} (hl : h.length ≤ 1048576) (c : Card) : i_LinesThrough n h c = some (if hand h && isC c then ((thr h c : Int), true) else (0, false)) := by
  unfold i_LinesThrough
  rw [i_IsHand_eq hn (by omega), i_IsCard_eq hn]
  simp only [ob_some, br_some]
  cases hh : hand h with
  | false => rfl
  | true =>
    cases hc : isC c with
    | false => rfl
    | true =>
      show br false _ _ = _
      rw [br_false, i_pairsFor_eq hn (HandL.of hh), ob_some]; rfl
end Go.Pl
namespace Go.Pl
open Go Go.Tv Go.RowKit
set_option linter.unusedVariables false
theorem isC_set {c : Card} (h : isC c = true) (k : Nat) {x : Int} (hx : 0 ≤ x ∧ x ≤ 2) : isC (V4.set c k x) = true := by
  rw [isC_iff] at h ⊢
  match k with
  | 0 => exact ⟨hx, h.2⟩
  | 1 => exact ⟨h.1, hx, h.2.2⟩
  | 2 => exact ⟨h.1, h.2.1, hx, h.2.2.2⟩
  | k + 3 => exact ⟨h.1, h.2.1, h.2.2.1, hx⟩
theorem mem_small {l : List Int} {r : Int} (h : r ∈ l) (lo hi : Int) (hl : ∀ x ∈ l, lo ≤ x ∧ x ≤ hi) : lo ≤ r ∧ r ≤ hi := hl r h
def HandR (n m : Nat) (o : Opt (Cu × List Card)) : Prop := ∃ c' h, o = some (c', h) ∧ h.length ≤ 29 ∧ CuOK m c'
theorem hand_J2 (n : Nat) {m : Nat} {c : Cu} (hc : CuOK m c) (hm : m < 4611686018427300000) {h : List Card} (hl : h.length ≤ 28) (b : Bool) (hb : b = true → 0 < h.length) : HandR n (m + 20) (s_Cur_hand'p_J2 n (b, c, h)) := by
  unfold s_Cur_hand'p_J2
  cases b with
  | false => exact ⟨c, h, rfl, by omega, hc.mono (by omega)⟩
  | true =>
    have h0 := hb rfl
    simp only [br_true]
    obtain ⟨i, c1, e1, k1, i0, i1⟩ := pick_ok n hc (by omega) (a := (h.length : Int)) (by omega)
    rw [e1, ob_some]
    obtain ⟨q, c2, e2, k2, q0, q1⟩ := pick_ok n k1 (by omega) (a := 3) (by omega)
    rw [e2, ob_some, br_dec]
    split
    · obtain ⟨t, c3, e3, k3, t0, t1⟩ := pick_ok n k2 (by omega) (a := 4) (by omega)
      rw [e3, ob_some]
      obtain ⟨y, c4, e4, k4, _⟩ := among_ok n k3 (by omega) (l := [(-1), 3]) (by decide)
      rw [e4, ob_some, ckb_pos (inb_pos i0 i1), ckb_pos (inb_pos t0 t1), lt_eq]
      exact ⟨_, _, rfl, by rw [List.length_set]; omega, k4.mono (by omega)⟩
    · rw [br_dec]
      split
      · rw [ckb_pos (inb_pos i0 i1), ckb_pos (apok_ok (by omega) (by omega))]
        exact ⟨_, _, rfl, by simp; omega, k2.mono (by omega)⟩
      · obtain ⟨t, c3, e3, k3, t0, t1⟩ := pick_ok n k2 (by omega) (a := 81) (by omega)
        rw [e3, ob_some, s_l2At_eq n (by omega), ob_some, ckb_pos (inb_pos i0 i1), lt_eq]
        exact ⟨_, _, rfl, by rw [List.length_set]; omega, k3.mono (by omega)⟩
theorem hand_ok {n : Nat} (hn : BIG ≤ n) {m : Nat} {c : Cu} (hc : CuOK m c) (hm : m + 200 < 4611686018427300000) : HandR n (m + 200) (s_Cur_hand'p n c) := by
  unfold s_Cur_hand'p
  obtain ⟨t, c1, e1, k1, ht⟩ := among_ok n hc (by omega) (l := [4, 3, 4, 2]) (by decide)
  rw [e1, ob_some]
  obtain ⟨q, c2, e2, k2, hq⟩ := among_ok n k1 (by omega) (l := [6, 9, 4, 12, 3, 2, 1, 0, 20, 26, 27, 28]) (by decide)
  rw [e2, ob_some]
  have ht' := mem_small ht 2 4 (by decide)
  have hq' := mem_small hq 0 28 (by decide)
  refine fx_inv (B := s_Cur_hand'p_L3 n) (fun s => ∃ (q : Int) (c : Cu) (h : List Card), s = (t, q, c, h) ∧ 0 ≤ q ∧ q ≤ 28 ∧ (h.length : Int) ≤ 28 - q ∧ AllC h ∧ CuOK (m + 4 + 2 * (28 - q.toNat)) c)
    (fun s => s.2.1.toNat) (HandR n (m + 200)) ?_ n _ ⟨q, c2, [], rfl, hq'.1, hq'.2, by simp; omega, fun c hc => (by cases hc), k2.mono (by omega)⟩ (big_gt hn (by simp only []; omega))
  clear e1 e2 k1 k2 hq hq' c1 c2 q
  rintro self _ ⟨q, c, h, rfl, q0, q28, hl, ha, hc⟩ ih
  simp only [s_Cur_hand'p_L3]
  by_cases h0 : 0 < q
  · rw [br_pos (decide_eq_true h0)]
    obtain ⟨r, c3, e3, k3, r0, r1⟩ := pick_ok n hc (by omega) (a := 81) (by omega)
    rw [e3, ob_some, s_l2At_eq n (by omega), ob_some]
    refine fx_inv (B := s_Cur_hand'p_L1 n self) (fun s => ∃ (i : Int) (x : Card), s = (t, q, i, c3, h, x) ∧ 0 ≤ i ∧ i ≤ 4 ∧ isC x = true) (fun s => (4 - s.2.2.1).toNat) (HandR n (m + 200)) ?_ n _ ⟨t, cardAt r, rfl, by omega, by omega, cardAt_isC (by omega)⟩ (big_gt hn (by simp only []; omega))
    rintro self2 _ ⟨i, x, rfl, i0, i4, hx⟩ ih2
    simp only [s_Cur_hand'p_L1]
    by_cases hi : i < 4
    · rw [br_pos (decide_eq_true hi), ckb_pos (inb_pos i0 (by omega)), lt_eq, lt_eq, w64_id (by omega)]
      exact ih2 _ ⟨i + 1, _, rfl, by omega, by omega, isC_set hx _ (by omega)⟩ (by simp only []; omega)
    · rw [br_neg (decide_eq_false hi), s_l2Put_eq hn ha (by omega) hx, ob_some, lt_eq, w64_id (by omega)]
      have := ins_len (c := x) (l := h)
      exact ih _ ⟨q - 1, c3, _, rfl, by omega, by omega, by omega, ins_allC hx ha, k3.mono (by omega)⟩ (by simp only []; omega)
  · rw [br_neg (decide_eq_false h0), br_dec]
    split
    · obtain ⟨b, c4, e4, k4⟩ := one_ok n hc (by omega) (a := 24) (by omega)
      rw [e4, ob_some]
      obtain ⟨c', h', e, h1, h2⟩ := hand_J2 n k4 (by omega) (h := h) (by omega) b (fun _ => by omega)
      exact ⟨c', h', e, h1, h2.mono (by omega)⟩
    · obtain ⟨c', h', e, h1, h2⟩ := hand_J2 n hc (by omega) (h := h) (by omega) false (fun h => by cases h)
      exact ⟨c', h', e, h1, h2.mono (by omega)⟩
end Go.Pl
namespace Go.Pl
open Go Go.Tv Go.RowKit
set_option linter.unusedVariables false
theorem s_l2Drop_ok {n : Nat} {h : List Card} (hl : h.length ≤ 1000) {i : Int} (h0 : 0 ≤ i) (h1 : i < h.length) : s_l2Drop n h i = some (h.take i.toNat ++ h.drop (i.toNat + 1)) := by
  obtain ⟨k, rfl⟩ : ∃ k : Nat, i = k := ⟨i.toNat, by omega⟩
  unfold s_l2Drop
  have e1 : sub h 0 k = h.take k := by unfold sub; simp
  have e2 : sub h (k + 1) h.length = h.drop (k + 1) := by unfold sub; rw [List.take_of_length_le (by simp)]
  rw [toNat_cast, ckb_pos (slb_ok (by omega) (by omega) (by omega)), e1, s_l2Own_eq (by rw [List.length_take]; omega), ob_some, lt_eq, w64_succ (by omega), ckb_pos (slb_ok (by omega) (by omega) (by omega)), toNat_cast, e2,
    ckb_pos (apok_ok (by rw [List.length_take, List.length_drop]; omega) (by rw [List.length_take, List.length_drop]; omega))]
theorem cardOf_J1 {n : Nat} {m : Nat} {c : Cu} (hc : CuOK m c) (hm : m < 4611686018427300000) {h : List Card} (b : Bool) (hb : b = true → 0 < h.length) (z : Card) : ∃ r c', s_Cur_cardOf'pl_J1 n (h, b, c, z) = some (r, c') ∧ CuOK (m + 8) c' := by
  unfold s_Cur_cardOf'pl_J1
  cases b with
  | true =>
    have := hb rfl
    simp only [br_true]
    obtain ⟨i, c1, e1, k1, i0, i1⟩ := pick_ok n hc (by omega) (a := (h.length : Int)) (by omega)
    rw [e1, ob_some, ckb_pos (inb_pos i0 i1)]
    exact ⟨_, _, rfl, k1.mono (by omega)⟩
  | false =>
    obtain ⟨r, c1, e1, k1⟩ := card_ok n hc (by omega)
    simp only [br_false]
    rw [e1, ob_some]
    exact ⟨_, _, rfl, k1⟩
theorem cardOf_ok {n : Nat} {m : Nat} {c : Cu} (hc : CuOK m c) (hm : m + 10 < 4611686018427300000) (h : List Card) : ∃ r c', s_Cur_cardOf'pl n h c = some (r, c') ∧ CuOK (m + 10) c' := by
  unfold s_Cur_cardOf'pl
  rw [br_dec]
  split
  · obtain ⟨x, c1, e1, k1⟩ := one_ok n hc (by omega) (a := 3) (by omega)
    rw [e1, ob_some]
    obtain ⟨r, c2, e, k⟩ := cardOf_J1 (n := n) k1 (by omega) (h := h) (!x) (fun _ => by omega) ⟨0, 0, 0, 0⟩
    exact ⟨r, c2, e, k⟩
  · obtain ⟨r, c2, e, k⟩ := cardOf_J1 (n := n) hc (by omega) (h := h) false (fun h => by cases h) ⟨0, 0, 0, 0⟩
    exact ⟨r, c2, e, k.mono (by omega)⟩
end Go.Pl
namespace Go.Pl
open Go Go.Tv Go.RowKit
set_option linter.unusedVariables false
set_option linter.unusedSimpArgs false
def sm (F : Card → Int) (l : List Card) : Int := (l.map F).sum
theorem sm_nil (F : Card → Int) : sm F [] = 0 := rfl
theorem sm_cons (F : Card → Int) (c : Card) (l : List Card) : sm F (c :: l) = F c + sm F l := by unfold sm; rw [List.map_cons, List.sum_cons]
theorem sm_app (F : Card → Int) (a b : List Card) : sm F (a ++ b) = sm F a + sm F b := by
  induction a with
  | nil => rw [List.nil_append, sm_nil]; omega
  | cons x a ih => rw [List.cons_append, sm_cons, sm_cons, ih]; omega
def cx (k : Nat) (c : Card) : Int := V4.get c k
def sumC (h : List Card) : Card := ⟨sm (cx 0) h % 3, sm (cx 1) h % 3, sm (cx 2) h % 3, sm (cx 3) h % 3⟩
theorem i_sum_step {n : Nat} (hn : BIG ≤ n) (go : List Card × Int × Int × Card × Card → Opt Card) (h : List Card) (l i : Int) (z : Card) {c a : Card} (hc : isC c = true) (ha : isC a = true) (hi : 0 ≤ i ∧ i ≤ 1000000) :
    fx (i_sum_L1 n go) n (h, l, i, c, 0, z, a) = go (h, l, i + 1, z, ⟨(a.x0 + c.x0) % 3, (a.x1 + c.x1) % 3, (a.x2 + c.x2) % 3, (a.x3 + c.x3) % 3⟩) := by
  obtain ⟨m, rfl⟩ : ∃ m, n = m + 5 := ⟨n - 5, by unfold BIG at hn; omega⟩
  rw [isC_iff] at hc ha
  simp only [lt_eq, fx_succ, i_sum_L1]
  simp [V4.get, V4.set, show inb 0 4 = true from rfl, show inb 1 4 = true from rfl, show inb 2 4 = true from rfl, show inb 3 4 = true from rfl, show w64 1 = 1 from by decide, show w64 (1 + 1) = 2 from by decide, show w64 (2 + 1) = 3 from by decide, show w64 (3 + 1) = 4 from by decide]
  rw [w64_id (x := a.x0 + c.x0) (by omega), w64_id (x := a.x1 + c.x1) (by omega), w64_id (x := a.x2 + c.x2) (by omega), w64_id (x := a.x3 + c.x3) (by omega), w64_id (x := i + 1) (by omega), Int.tmod_eq_emod_of_nonneg (by omega), Int.tmod_eq_emod_of_nonneg (by omega), Int.tmod_eq_emod_of_nonneg (by omega), Int.tmod_eq_emod_of_nonneg (by omega)]
theorem sumC_isC (h : List Card) : isC (sumC h) = true := by
  rw [isC_iff]
  unfold sumC
  simp only []
  omega
theorem sumC_snoc (h : List Card) (c : Card) : sumC (h ++ [c]) = ⟨((sumC h).x0 + c.x0) % 3, ((sumC h).x1 + c.x1) % 3, ((sumC h).x2 + c.x2) % 3, ((sumC h).x3 + c.x3) % 3⟩ := by
  unfold sumC
  simp only [sm_app, sm_cons, sm_nil, cx, V4.get]
  congr 1 <;> omega
theorem i_sum_eq {n : Nat} (hn : BIG ≤ n) {h : List Card} (hc : AllC h) (hl : h.length ≤ 1000) : i_sum n h = some (sumC h) := by
  unfold i_sum
  rw [lt_eq]
  have := fx_cnt (B := i_sum_L2 n) h.length (fun i => (h, (h.length : Int), (i : Int), (⟨0, 0, 0, 0⟩ : Card), sumC (h.take i))) (fun _ => True) (fun _ => some (sumC h)) (fun self i hi _ ih => by
    simp only [i_sum_L2]
    by_cases h1 : i < h.length
    · have g : gl (⟨0, 0, 0, 0⟩ : Card) h i = h[i] := gl_eq h1
      rw [br_pos (decide_eq_true (show (i : Int) < (h.length : Int) by omega)), ckb_pos (inb_ok h1), toNat_cast, g, i_sum_step hn self _ _ _ _ (hc _ (List.getElem_mem h1)) (sumC_isC _) (by omega), ← ih h1 trivial, List.take_succ_eq_append_getElem h1, sumC_snoc]
      rfl
    · have : i = h.length := by omega
      subst this
      rw [br_neg (decide_eq_false (by omega)), List.take_length]) n 0 (Nat.zero_le _) trivial (big_gt hn (by omega))
  exact this
theorem i_SumCards_eq {n : Nat} (hn : BIG ≤ n) {h : List Card} (hl : h.length ≤ 1048576) : i_SumCards n h = some (if hand h then (sumC h, true) else (⟨0, 0, 0, 0⟩, false)) := by
  unfold i_SumCards
  rw [i_IsHand_eq hn (by omega), ob_some]
  cases hh : hand h with
  | false => rfl
  | true =>
    have := hand_len hh
    rw [Bool.not_true, br_false, i_sum_eq hn (hand_all hh) (by omega)]; rfl
end Go.Pl
