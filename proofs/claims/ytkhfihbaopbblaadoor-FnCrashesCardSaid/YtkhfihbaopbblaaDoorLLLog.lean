/- Plain laws: LLog. -/
import Derived.Test.YtkhfihbaopbblaaDoorLLRd
set_option linter.unusedVariables false
set_option linter.unusedSimpArgs false
namespace Go.Pl
open Go Go.Tv Go.RowKit
def opn : Nat → Nat → List UInt8 → List Rec
  | 0, _, _ => []
  | j + 1, k, t => if (10 : UInt8) ∈ t then (match rd k (bef 10 t) with
    | some e => e :: opn j (k + 1) (aft 10 t)
    | none => []) else []
def ln (k : Nat) (e : Rec) : List UInt8 := lineL (k : Int) (bl e.1) (bl e.2)
def enc : Nat → List Rec → List UInt8
  | _, [] => []
  | k, e :: es => ln k e ++ enc (k + 1) es
def endsL : Nat → Nat → List Rec → List Int
  | _, _, [] => []
  | a, k, e :: es => ((a + (ln k e).length : Nat) : Int) :: endsL (a + (ln k e).length) (k + 1) es
theorem endsL_cons (a k : Nat) (e : Rec) (es : List Rec) : endsL a k (e :: es) = ((a + (ln k e).length : Nat) : Int) :: endsL (a + (ln k e).length) (k + 1) es := rfl
theorem opn_succ (j k : Nat) (t : List UInt8) : opn (j + 1) k t = if (10 : UInt8) ∈ t then (match rd k (bef 10 t) with
    | some e => e :: opn j (k + 1) (aft 10 t)
    | none => []) else [] := rfl
theorem opn_len : ∀ (j k : Nat) (t : List UInt8), (opn j k t).length ≤ j
  | 0, _, _ => Nat.le_refl _
  | j + 1, k, t => by
    unfold opn
    split
    · split
      · have := opn_len j (k + 1) (aft 10 t)
        simpa using this
      · simp
    · simp
theorem one10 : (⟨#[10]⟩ : ByteArray) = one 10 := rfl
theorem one35 : (⟨#[35]⟩ : ByteArray) = one 35 := rfl
theorem one32 : (⟨#[32]⟩ : ByteArray) = one 32 := rfl
theorem one64 : (⟨#[64]⟩ : ByteArray) = one 64 := rfl
theorem bl_rest {s : ByteArray} {a : Nat} : bl (ssub s a s.size) = (bl s).drop a := by
  rw [bl_ssub]
  exact List.take_of_length_le (by rw [List.length_drop, bl_len]; omega)
theorem drop_aft {l : List UInt8} {a : Nat} (h : (10 : UInt8) ∈ l.drop a) : l.drop (a + ((bef 10 (l.drop a)).length + 1)) = aft 10 (l.drop a) ∧ a + ((bef 10 (l.drop a)).length + 1) ≤ l.length := by
  have e := cut_eq h
  rw [← List.drop_drop]
  have hl : (l.drop a).length = (bef 10 (l.drop a)).length + 1 + (aft 10 (l.drop a)).length := by
    have := congrArg List.length e
    simp only [List.length_append, List.length_cons] at this ⊢
    omega
  rw [List.length_drop] at hl
  refine ⟨?_, by omega⟩
  generalize bef 10 (l.drop a) = x at *
  generalize aft 10 (l.drop a) = y at *
  rw [e, show x ++ 10 :: y = (x ++ [10]) ++ y by simp]
  exact List.drop_left' (by simp)
theorem rd_len {k : Nat} (hk : k < 1000000) {line : List UInt8} {e : Rec} (h : rd k line = some e) : (ln k e).length = line.length + 1 := by
  have := ((rd_good hk).1 h).2
  unfold ln
  rw [this]; simp
theorem i_records_R {n : Nat} (hn : BIG ≤ n) {s : ByteArray} (hs : s.size ≤ 100000) : ∀ (j k a : Nat) (out : List Rec) (es : List Int) (fu : Nat), k + j = 60 → out.length = k → es.length ≤ 100 + k → a ≤ s.size → j < fu →
    fx (i_records_L1 n) fu (s, (a : Int), out, es) = some (out ++ opn j k ((bl s).drop a), es ++ endsL a k (opn j k ((bl s).drop a))) := by
  have hlb := bl_len s
  intro j
  induction j with
  | zero =>
    intro k a out es fu hk ho he ha hf
    obtain ⟨fu, rfl⟩ : ∃ j, fu = j + 1 := ⟨fu - 1, by omega⟩
    rw [fx_succ]
    generalize fx (i_records_L1 n) fu = g
    unfold i_records_L1
    dsimp only
    rw [decide_eq_false (by omega), br_false]
    simp [opn, endsL]
  | succ j ih =>
    intro k a out es fu hk ho he ha hf
    obtain ⟨fu, rfl⟩ : ∃ j, fu = j + 1 := ⟨fu - 1, by omega⟩
    rw [fx_succ]
    have H := fun a out es h1 h2 h3 => ih (k + 1) a out es fu (by omega) h1 h2 h3 (by omega)
    generalize fx (i_records_L1 n) fu = g at H
    unfold i_records_L1
    rw [opn_succ]
    dsimp only
    rw [decide_eq_true (by omega), br_true, ckb_pos (slb_ok (by omega) (by omega) (by omega)), toNat_cast, one10, Cut_eq (by rw [← bl_len, bl_rest, List.length_drop]; omega), bl_rest, ob_some]
    dsimp only
    by_cases hm : (10 : UInt8) ∈ (bl s).drop a
    · rw [decide_eq_true hm, Bool.not_true, br_false, if_pos hm]
      obtain ⟨hda, hdl⟩ := drop_aft hm
      have hbl := bef_len 10 ((bl s).drop a)
      generalize hL : bef 10 ((bl s).drop a) = L at *
      have hLs : L.length ≤ 100000 := by omega
      have b1 := bef_len 35 L
      have b2 := aft_len 32 (bef 35 L)
      have b3 := bef_len 64 (aft 32 (bef 35 L))
      have b4 := aft_len 64 (aft 32 (bef 35 L))
      rw [one35, Cut_eq (s := mk L) (by rw [mk_size]; omega), bl_mk, ob_some]
      dsimp only
      rw [one32, Cut_eq (s := mk (bef 35 L)) (by rw [mk_size]; omega), bl_mk, ob_some]
      dsimp only
      rw [lt_eq, one64, Cut_eq (s := mk (aft 32 (bef 35 L))) (by rw [mk_size]; omega), bl_mk, ob_some]
      dsimp only
      rw [lt_eq, lt_eq]
      have hprs : (mk (bef 64 (aft 32 (bef 35 L))), mk (aft 64 (aft 32 (bef 35 L)))) = prsL L := rfl
      rw [hprs, i_EncodeRecord_eq hn (by show (mk _).size ≤ _; rw [mk_size]; omega) (by show (mk _).size ≤ _; rw [mk_size]; omega), ob_some, ho]
      have hst : stok ((mk L).size + 1) = true := stok_ok (by rw [mk_size]; omega)
      have happ : mk L ++ one 10 = mk (L ++ [10]) := mk_app L [10]
      rw [ckb_pos hst, lt_eq, happ, eqd_str]
      have hdec := encB_iff (k := k) (by omega) (line := L) (e := prsL L)
      cases hr : rd k L with
      | some e =>
        have hg := (rd_good (by omega)).1 hr
        have hpe : prsL L = e := prsL_good (by omega) hg
        rw [hpe] at hdec ⊢
        obtain ⟨q1, q2⟩ := hdec.2 hg
        have hlen := rd_len (by omega) hr
        have e1 : w64 (((mk L).size : Int) + 1) = ((L.length + 1 : Nat) : Int) := by rw [mk_size]; exact w64_succ (by omega)
        have e2 : w64 ((a : Int) + ((L.length + 1 : Nat) : Int)) = ((a + (L.length + 1) : Nat) : Int) := by rw [w64_id (by omega)]; omega
        rw [q1, q2, Bool.not_true, br_false, decide_eq_true rfl, Bool.not_true, ob_some, br_false, e1, lt_eq, e2, lt_eq, ckb_pos (apok_ok (by omega) (by omega)), ckb_pos (apok_ok (by omega) (by omega)),
          H (a + (L.length + 1)) (out ++ [e]) (es ++ [((a + (L.length + 1) : Nat) : Int)]) (by simp; omega) (by simp; omega) (by omega), hda]
        dsimp only
        rw [endsL_cons, hlen, List.append_assoc, List.append_assoc]; rfl
      | none =>
        have hno : ¬ good k L (prsL L) := fun h => by rw [(rd_good (by omega)).2 h] at hr; cases hr
        rw [← hdec] at hno
        have hx : (br (! (encB k (prsL L)).2) (some true) (some (!decide ((encB k (prsL L)).1 = mk (L ++ [10]))))) = some true := by
          cases h2 : (encB k (prsL L)).2 with
          | false => rfl
          | true =>
            rw [Bool.not_true, br_false]
            rw [decide_eq_false (fun h => hno ⟨h2, h⟩)]; rfl
        rw [hx, ob_some, br_true]
        simp [endsL]
    · rw [decide_eq_false hm, Bool.not_false, br_true, if_neg hm]
      simp [endsL]
theorem i_records_eq {n : Nat} (hn : BIG ≤ n) {s : ByteArray} (hs : s.size ≤ 100000) : i_records n s = some (opn 60 0 (bl s), 0 :: endsL 0 0 (opn 60 0 (bl s))) := by
  unfold i_records
  have := i_records_R hn hs 60 0 0 [] [0] n rfl rfl (by simp) (by omega) (big_gt hn (by omega))
  simpa using this
theorem s_l12Open_R {n : Nat} (hn : BIG ≤ n) {s : ByteArray} (hs : s.size ≤ 100000) : ∀ (j k a : Nat) (out : List Rec) (fu : Nat), k + j = 60 → out.length = k → a ≤ s.size → j < fu →
    fx (s_l12Open_L1 n) fu (s, (a : Int), out) = some (((a + (enc k (opn j k ((bl s).drop a))).length : Nat) : Int), out ++ opn j k ((bl s).drop a)) := by
  have hlb := bl_len s
  intro j
  induction j with
  | zero =>
    intro k a out fu hk ho ha hf
    obtain ⟨fu, rfl⟩ : ∃ j, fu = j + 1 := ⟨fu - 1, by omega⟩
    rw [fx_succ]
    generalize fx (s_l12Open_L1 n) fu = g
    unfold s_l12Open_L1
    dsimp only
    rw [decide_eq_false (by omega : ¬ ((out.length : Nat) : Int) < 60), br_self, ob_some, br_false]
    simp [opn, enc]
  | succ j ih =>
    intro k a out fu hk ho ha hf
    obtain ⟨fu, rfl⟩ : ∃ j, fu = j + 1 := ⟨fu - 1, by omega⟩
    rw [fx_succ]
    have H := fun a out h1 h2 => ih (k + 1) a out fu (by omega) h1 h2 (by omega)
    generalize fx (s_l12Open_L1 n) fu = g at H
    unfold s_l12Open_L1
    rw [opn_succ]
    dsimp only
    by_cases hlt : (a : Int) < (s.size : Int)
    · rw [decide_eq_true hlt, br_true, decide_eq_true (by omega : ((out.length : Nat) : Int) < 60), ob_some, br_true, ckb_pos (slb_ok (by omega) (by omega) (by omega)), toNat_cast]
      obtain ⟨t2, hsp, hsp2⟩ := splitL_cons 10 ((bl s).drop a)
      have hspl := s_l1Split_eq hn (s := ssub s a s.size) (by rw [← bl_len, bl_rest, List.length_drop]; omega) 10
      have e10 : (((10 : UInt8).toNat : Nat) : Int) = 10 := rfl
      rw [e10, bl_rest, hsp, List.map_cons] at hspl
      have hbl := bef_len 10 ((bl s).drop a)
      have hdr := List.length_drop (i := a) (l := bl s)
      rw [hspl, ob_some, ckb_pos (inb_pos (by omega) (by simp)), ho]
      have hg : gl (⟨#[]⟩ : ByteArray) (mk (bef 10 ((bl s).drop a)) :: t2.map mk) 0 = mk (bef 10 ((bl s).drop a)) := rfl
      rw [hg]
      obtain ⟨e, b, hd, hb1, hb0⟩ := s_l12Decode_eq hn (s := mk (bef 10 ((bl s).drop a))) (by rw [mk_size]; omega) (k := k) (by omega)
      rw [bl_mk] at hb1 hb0
      rw [hd, ob_some]
      dsimp only
      by_cases hm : (10 : UInt8) ∈ (bl s).drop a
      · rw [if_pos hm]
        have ht2 : t2 ≠ [] := fun h => (hsp2.1 h) hm
        have hl2 : ¬ (((mk (bef 10 ((bl s).drop a)) :: t2.map mk).length : Nat) : Int) < 2 := by
          have : 1 ≤ t2.length := by
            rcases t2 with _ | ⟨x, y⟩
            · exact absurd rfl ht2
            · simp
          simp only [List.length_cons, List.length_map]; omega
        rw [decide_eq_false hl2, br_false]
        obtain ⟨hda, hdl⟩ := drop_aft hm
        generalize hL : bef 10 ((bl s).drop a) = L at *
        cases b with
        | true =>
          have hr := hb1 rfl
          have hlen := rd_len (by omega) hr
          have e1 : w64 ((a : Int) + ((mk L).size : Int)) = ((a + L.length : Nat) : Int) := by rw [mk_size, w64_id (by omega)]; omega
          have e2 : w64 (((a + L.length : Nat) : Int) + 1) = ((a + L.length + 1 : Nat) : Int) := w64_succ (by omega)
          rw [Bool.not_true, ob_some, br_false, ckb_pos (apok_ok (by omega) (by omega)), ckb_pos (inb_pos (by omega) (by simp)), e1, lt_eq, e2, lt_eq, hr]
          rw [show a + L.length + 1 = a + (L.length + 1) by omega, H (a + (L.length + 1)) (out ++ [e]) (by simp; omega) (by omega), hda]
          simp only [enc, List.length_append, hlen, List.append_assoc, List.singleton_append]
          rw [show a + (L.length + 1) + (enc (k + 1) (opn j (k + 1) (aft 10 ((bl s).drop a)))).length = a + (L.length + 1 + (enc (k + 1) (opn j (k + 1) (aft 10 ((bl s).drop a)))).length) by omega]
        | false =>
          rw [hb0 rfl, Bool.not_false, ob_some, br_true]
          simp [enc]
      · rw [if_neg hm]
        have ht2 : t2 = [] := hsp2.2 hm
        rw [ht2]
        have hl2 : (((mk (bef 10 ((bl s).drop a)) :: ([] : List (List UInt8)).map mk).length : Nat) : Int) < 2 := by simp
        rw [decide_eq_true hl2, br_true, ob_some, br_true]
        simp [enc]
    · have hnil : (bl s).drop a = [] := List.drop_eq_nil_iff.2 (by omega)
      rw [decide_eq_false hlt, br_false, ob_some, br_false, hnil, if_neg (by simp)]
      simp [enc]
theorem s_l12Open_eq {n : Nat} (hn : BIG ≤ n) {s : ByteArray} (hs : s.size ≤ 100000) : s_l12Open n s = some (((enc 0 (opn 60 0 (bl s))).length : Int), opn 60 0 (bl s)) := by
  unfold s_l12Open
  have := s_l12Open_R hn hs 60 0 0 [] n rfl rfl (by omega) (big_gt hn (by omega))
  simpa using this
theorem opn_pre : ∀ (j k : Nat) (t : List UInt8), k + j ≤ 60 → ∃ r, t = enc k (opn j k t) ++ r
  | 0, k, t, _ => ⟨t, rfl⟩
  | j + 1, k, t, hk => by
    unfold opn
    split
    · rename_i hm
      have e := cut_eq hm
      cases hr : rd k (bef 10 t) with
      | none => exact ⟨t, rfl⟩
      | some x =>
        obtain ⟨r, h⟩ := opn_pre j (k + 1) (aft 10 t) (by omega)
        have h2 := ((rd_good (by omega)).1 hr).2
        refine ⟨r, ?_⟩
        simp only [enc]
        have h3 : ln k x = bef 10 t ++ [10] := h2
        rw [h3, List.append_assoc, List.append_assoc, ← h]
        exact e
    · exact ⟨t, rfl⟩
theorem opn_rec : ∀ (j k : Nat) (t : List UInt8), k + j ≤ 60 → ∀ e ∈ opn j k t, recB e = true
  | 0, k, t, _, e, h => by cases h
  | j + 1, k, t, hk, e, h => by
    unfold opn at h
    split at h
    · cases hr : rd k (bef 10 t) with
      | none => rw [hr] at h; cases h
      | some x =>
        rw [hr] at h
        rcases List.mem_cons.1 h with rfl | h
        · exact ((rd_good (by omega)).1 hr).1
        · exact opn_rec j (k + 1) _ (by omega) e h
    · cases h
theorem no_nl {k : Nat} (hk : k < 1000000) {e : Rec} (h : recB e = true) : (10 : UInt8) ∉ sealL (numL (k : Int) ++ 32 :: (bl e.1 ++ 64 :: bl e.2)) := by
  obtain ⟨p1, p2⟩ := rec_parts h
  obtain ⟨q0, q1⟩ := sumL_R (numL (k : Int) ++ 32 :: (bl e.1 ++ 64 :: bl e.2))
  unfold sealL
  intro hm
  rw [List.mem_append, List.mem_append, List.mem_cons, List.mem_append, List.mem_cons, List.mem_cons] at hm
  rcases hm with (hm | hm | hm | hm | hm) | hm | hm
  · have := num_dig (a := (k : Int)) (by omega) (by omega) _ hm
    have e : (10 : UInt8).toNat = 10 := rfl
    omega
  · exact absurd hm (by decide)
  · have := (plain_no p1 _ hm).1
    have e : (10 : UInt8).toNat = 10 := rfl
    omega
  · exact absurd hm (by decide)
  · have := (plain_no p2 _ hm).1
    have e : (10 : UInt8).toNat = 10 := rfl
    omega
  · exact absurd hm (by decide)
  · have := num_dig q0 (by omega) _ hm
    have e : (10 : UInt8).toNat = 10 := rfl
    omega
theorem opn_ln {j k : Nat} (hk : k + j < 60) {e : Rec} (h : recB e = true) (t : List UInt8) : opn (j + 1) k (ln k e ++ t) = e :: opn j (k + 1) t := by
  have hno := no_nl (k := k) (by omega) h
  have hl : ln k e ++ t = sealL (numL (k : Int) ++ 32 :: (bl e.1 ++ 64 :: bl e.2)) ++ 10 :: t := by
    unfold ln lineL
    rw [List.append_assoc]; rfl
  rw [opn_succ, hl, if_pos (by simp), bef_app _ hno, bef_self, aft_app _ hno, aft_self, List.append_nil]
  have : rd k (sealL (numL (k : Int) ++ 32 :: (bl e.1 ++ 64 :: bl e.2))) = some e := (rd_good (by omega)).2 ⟨h, rfl⟩
  rw [this]
theorem opn_enc : ∀ (es : List Rec) (j k : Nat) (t : List UInt8), es.length ≤ j → k + j ≤ 60 → (∀ e ∈ es, recB e = true) → opn j k (enc k es ++ t) = es ++ opn (j - es.length) (k + es.length) t
  | [], j, k, t, _, _, _ => by simp [enc]
  | e :: es, j, k, t, hj, hk, h => by
    obtain ⟨j, rfl⟩ : ∃ i, j = i + 1 := ⟨j - 1, by simp at hj; omega⟩
    simp only [enc, List.append_assoc]
    rw [opn_ln (by omega) (h e (by simp)), opn_enc es j (k + 1) t (by simpa using hj) (by omega) (fun x hx => h x (by simp [hx]))]
    simp only [List.cons_append, List.length_cons]
    rw [show j + 1 - (es.length + 1) = j - es.length by omega, show k + 1 + es.length = k + (es.length + 1) by omega]
theorem opn_nil (j k : Nat) : opn j k [] = [] := by
  cases j with
  | zero => rfl
  | succ j => unfold opn; rw [if_neg (by simp)]
theorem enc_app : ∀ (es fs : List Rec) (k : Nat), enc k (es ++ fs) = enc k es ++ enc (k + es.length) fs
  | [], fs, k => by simp [enc]
  | e :: es, fs, k => by
    simp only [List.cons_append, enc, List.append_assoc, List.length_cons]
    rw [enc_app es fs (k + 1), show k + 1 + es.length = k + (es.length + 1) by omega]
theorem endsL_eq : ∀ (es : List Rec) (a k : Nat), endsL a k es = (List.range es.length).map fun i => ((a + (enc k (es.take (i + 1))).length : Nat) : Int)
  | [], _, _ => rfl
  | e :: es, a, k => by
    rw [endsL, endsL_eq es, List.length_cons, List.range_succ_eq_map, List.map_cons, List.map_map]
    congr 1
    · simp [enc]
    · refine List.map_congr_left fun i _ => ?_
      simp only [Function.comp, List.take_succ_cons, enc, List.length_append]
      congr 1; omega
end Go.Pl
