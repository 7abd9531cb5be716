/- Plain laws: R41. -/
import Derived.Test.YtkhfihbaopbblaaDoorLR40
set_option linter.unusedVariables false
set_option linter.unusedSimpArgs false
namespace Go.Pl
open Go Go.Tv Go.RowKit
theorem ln_bytes {k : Nat} (hk : k < 1000000) {e : Rec} (h : recB e = true) : ∀ b ∈ ln k e, b.toNat ≤ 126 := by
  obtain ⟨p1, p2⟩ := rec_parts h
  obtain ⟨q0, q1⟩ := sumL_R (numL (k : Int) ++ 32 :: (bl e.1 ++ 64 :: bl e.2))
  unfold ln lineL sealL
  intro b hm
  rw [List.mem_append, List.mem_append, List.mem_append, List.mem_cons, List.mem_append, List.mem_cons, List.mem_cons, List.mem_singleton] at hm
  rcases hm with ((hm | rfl | hm | rfl | hm) | rfl | hm) | rfl
  · have := num_dig (a := (k : Int)) (by omega) (by omega) _ hm; omega
  · decide
  · exact (plain_no p1 _ hm).2.1
  · decide
  · exact (plain_no p2 _ hm).2.1
  · decide
  · have := num_dig q0 (by omega) _ hm; omega
  · decide
theorem enc_bytes : ∀ (es : List Rec) (k : Nat), k + es.length ≤ 60 → (∀ e ∈ es, recB e = true) → ∀ b ∈ enc k es, b.toNat ≤ 126
  | [], _, _, _, b, hb => by cases hb
  | e :: es, k, hk, h, b, hb => by
    simp only [enc, List.mem_append] at hb
    simp only [List.length_cons] at hk
    rcases hb with hb | hb
    · exact ln_bytes (by omega) (h e (by simp)) b hb
    · exact enc_bytes es (k + 1) (by omega) (fun x hx => h x (by simp [hx])) b hb
theorem enc_last : ∀ (es : List Rec) (k : Nat), es ≠ [] → ∃ p, enc k es = p ++ [10]
  | [], _, h => absurd rfl h
  | [e], k, _ => ⟨sealL (numL (k : Int) ++ 32 :: (bl e.1 ++ 64 :: bl e.2)), by simp only [enc, List.append_nil]; rfl⟩
  | e :: f :: es, k, _ => by
    obtain ⟨p, hp⟩ := enc_last (f :: es) (k + 1) (by simp)
    exact ⟨ln k e ++ p, by rw [enc, hp, List.append_assoc]⟩
theorem opn_rec60 (t : List UInt8) : (opn 60 0 t).length ≤ 60 ∧ ∀ e ∈ opn 60 0 t, recB e = true := ⟨opn_len 60 0 t, opn_rec 60 0 t (by omega)⟩
theorem opn_prefix {es : List Rec} {t r : List UInt8} (h : enc 0 es = t ++ r) (hl : es.length ≤ 60) (hr : ∀ e ∈ es, recB e = true) : ∃ fs, es = opn 60 0 t ++ fs := by
  obtain ⟨q, hq⟩ := opn_pre 60 0 t (by omega)
  obtain ⟨a1, a2⟩ := opn_rec60 t
  have e1 := recs_enc hl hr
  have : enc 0 es = enc 0 (opn 60 0 t) ++ (q ++ r) := by rw [h, ← List.append_assoc, ← hq]
  rw [this, opn_enc (opn 60 0 t) 60 0 (q ++ r) a1 (by omega) a2] at e1
  exact ⟨_, e1.symm⟩
theorem crash_bytes {l : Lg} (h : logB l = true) {keep : Nat} (hk : keep ≤ l.2.1.size) (t : Bool) : ∃ x : List UInt8, bl (crash l (keep : Int) t).1 = bl l.1 ++ x ∧ (crash l (keep : Int) t).2 = true ∧
    ((x = (bl l.2.1).take keep ∧ ¬ (t = true ∧ 0 < keep)) ∨ (t = true ∧ ∃ (hp : 0 < keep) (b : UInt8), b ∈ bl l.2.1 ∧ x = (bl l.2.1).take (keep - 1) ++ [UInt8.ofNat (IntKind.wrap .u8 (255 - (b.toNat : Int))).toNat])) := by
  unfold crash
  rw [if_pos ⟨h, by omega, by omega⟩]
  dsimp only
  rw [toNat_cast]
  have hsb : ∀ k, k ≤ l.2.1.size → strOfNums (sbytes (ssub l.2.1 0 k)) = ssub l.2.1 0 k := fun k _ => strOf_sbytes _
  have hbs : bl (ssub l.2.1 0 keep) = (bl l.2.1).take keep := by rw [bl_ssub, List.drop_zero, Nat.sub_zero]
  by_cases ht : t = true ∧ (0 : Int) < (keep : Int)
  · rw [if_pos ht]
    have h0 : 0 < keep := by omega
    have hlt : keep - 1 < (bl l.2.1).length := by rw [bl_len]; omega
    refine ⟨_, by rw [bl_app], rfl, .inr ⟨ht.1, h0, (bl l.2.1)[keep - 1], List.getElem_mem hlt, ?_⟩⟩
    unfold torn
    have hlen : (sbytes (ssub l.2.1 0 keep)).length = keep := by rw [sbytes_len, ssub_len hk]
    have htk : (bl l.2.1).take keep = (bl l.2.1).take (keep - 1) ++ [(bl l.2.1)[keep - 1]] := by
      conv => lhs; rw [show keep = keep - 1 + 1 by omega]
      exact take_snoc hlt
    have hg : gl 0 (sbytes (ssub l.2.1 0 keep)) (keep - 1) = ((bl l.2.1)[keep - 1].toNat : Int) := by
      rw [gl_eq (by omega)]
      simp only [sbytes_eq, hbs, List.getElem_map, List.getElem_take]
    rw [hg, bl_strOf, sbytes_eq, hbs, htk, List.map_append]
    have hl1 : (((bl l.2.1).take (keep - 1)).map fun b => (b.toNat : Int)).length = keep - 1 := by rw [List.length_map, List.length_take]; omega
    rw [List.set_append_right _ _ (by omega), hl1, Nat.sub_self]
    simp only [List.map_cons, List.map_nil, List.set_cons_zero, List.map_append, List.map_map]
    congr 1
    conv => rhs; rw [← List.map_id ((bl l.2.1).take (keep - 1))]
    refine List.map_congr_left fun b _ => ?_
    simp
  · rw [if_neg ht, hsb _ hk]
    exact ⟨_, by rw [bl_app], rfl, .inl ⟨hbs, fun hh => ht ⟨hh.1, by omega⟩⟩⟩
theorem flip_ne {b : UInt8} (hb : b.toNat ≤ 126) : UInt8.ofNat (IntKind.wrap .u8 (255 - (b.toNat : Int))).toNat ≠ 10 := by
  have hw : IntKind.wrap .u8 (255 - (b.toNat : Int)) = 255 - (b.toNat : Int) := by
    simp only [IntKind.wrap, IntKind.bits, IntKind.signed]
    simp
    omega
  rw [hw]
  intro h
  have := congrArg UInt8.toNat h
  rw [UInt8.toNat_ofNat'] at this
  have e : (10 : UInt8).toNat = 10 := rfl
  rw [e] at this
  omega
theorem crash_read {l : Lg} (h : logB l = true) {keep : Nat} (hk : keep ≤ l.2.1.size) (t : Bool) :
    (∃ fs, recsOf (l.1 ++ l.2.1) = recsOf (crash l (keep : Int) t).1 ++ fs) ∧ l.1.size ≤ (enc 0 (recsOf (crash l (keep : Int) t).1)).length ∧
    (t = false → keep = l.2.1.size → recsOf (crash l (keep : Int) t).1 = recsOf (l.1 ++ l.2.1)) := by
  obtain ⟨h1, h2, h3, h4⟩ := log_parts h
  obtain ⟨x, hx, _, hc⟩ := crash_bytes h hk t
  have hfull := full_iff.1 h2
  have hd := full_iff.1 h3
  have hrec := recs_rec (l.1 ++ l.2.1)
  have hlen := recs_len (l.1 ++ l.2.1)
  have hs : recsOf (crash l (keep : Int) t).1 = opn 60 0 (bl l.1 ++ x) := by unfold recsOf; rw [hx]
  refine ⟨?_, ?_, ?_⟩
  · rw [hs]
    rcases hc with ⟨rfl, _⟩ | ⟨_, hp, b, hb, rfl⟩
    · refine opn_prefix (r := (bl l.2.1).drop keep) ?_ hlen hrec
      rw [← hfull, bl_app, List.append_assoc, List.take_append_drop]
    · -- the last byte is torn: what is read ends before it
      obtain ⟨q, hq⟩ := opn_pre 60 0 (bl l.1 ++ ((bl l.2.1).take (keep - 1) ++ [UInt8.ofNat (IntKind.wrap .u8 (255 - (b.toNat : Int))).toNat])) (by omega)
      obtain ⟨a1, a2⟩ := opn_rec60 (bl l.1 ++ ((bl l.2.1).take (keep - 1) ++ [UInt8.ofNat (IntKind.wrap .u8 (255 - (b.toNat : Int))).toNat]))
      have hb126 : b.toNat ≤ 126 := by
        refine enc_bytes _ 0 (by omega) hrec b ?_
        rw [← hfull, bl_app]
        exact List.mem_append.2 (.inr hb)
      have hne := flip_ne hb126
      generalize UInt8.ofNat (IntKind.wrap .u8 (255 - (b.toNat : Int))).toNat = z at *
      generalize hO : opn 60 0 (bl l.1 ++ ((bl l.2.1).take (keep - 1) ++ [z])) = es at *
      have hpre : ∃ q', bl l.1 ++ (bl l.2.1).take (keep - 1) = enc 0 es ++ q' := by
        rcases List.eq_nil_or_concat q with rfl | ⟨q', y, rfl⟩
        · rcases Classical.em (es = []) with rfl | hes
          · exact ⟨_, rfl⟩
          · exfalso
            obtain ⟨p, hp2⟩ := enc_last es 0 hes
            rw [List.append_nil, hp2, ← List.append_assoc] at hq
            have := List.append_inj_right' hq rfl
            injection this with this
            exact hne this
        · refine ⟨q', ?_⟩
          rw [List.concat_eq_append, ← List.append_assoc, ← List.append_assoc] at hq
          exact List.append_inj_left' hq rfl
      obtain ⟨q', hq'⟩ := hpre
      have e1 := recs_enc hlen hrec
      have : enc 0 (recsOf (l.1 ++ l.2.1)) = enc 0 es ++ (q' ++ (bl l.2.1).drop (keep - 1)) := by
        rw [← hfull, bl_app, ← List.append_assoc, ← hq', List.append_assoc, List.take_append_drop]
      rw [this, opn_enc es 60 0 _ a1 (by omega) a2] at e1
      exact ⟨_, e1.symm⟩
  · rw [hs]
    have hdl := recs_len l.1
    have hdr := recs_rec l.1
    have e1 : opn 60 0 (bl l.1 ++ x) = recsOf l.1 ++ opn (60 - (recsOf l.1).length) (0 + (recsOf l.1).length) x := by
      have := opn_enc (recsOf l.1) 60 0 x hdl (by omega) hdr
      rw [← hd] at this
      exact this
    rw [e1, enc_app, List.length_append, ← hd, bl_len]; omega
  · intro htf hkf
    subst htf
    rw [hs]
    rcases hc with ⟨rfl, _⟩ | ⟨h0, _⟩
    · rw [hkf, ← bl_len, List.take_length]
      unfold recsOf
      rw [bl_app]
    · cases h0
theorem recov_log {s : ByteArray} (hs : s.size ≤ 30000) : recov s = ((mk (enc 0 (recsOf s)), (⟨#[]⟩, ((recsOf s).length : Int))), ((enc 0 (recsOf s)).length : Int), true) := by
  unfold recov
  rw [if_neg (by omega)]
  have : ssub s 0 (enc 0 (recsOf s)).length = mk (enc 0 (recsOf s)) := bl_inj (by
    rw [bl_ssub, bl_mk, List.drop_zero, Nat.sub_zero]
    obtain ⟨r, h⟩ := opn_pre 60 0 (bl s) (by omega)
    unfold recsOf
    generalize opn 60 0 (bl s) = es at *
    rw [h]
    exact List.take_left' rfl)
  rw [this]
theorem recov_valid {s : ByteArray} (hs : s.size ≤ 30000) : logB (recov s).1 = true ∧ logRecs (recov s).1 = (true, recsOf s) := by
  rw [recov_log hs]
  have hle := enc_le s
  have hro : recsOf (mk (enc 0 (recsOf s))) = recsOf s := by
    have := recs_enc (recs_len s) (recs_rec s)
    conv => lhs; unfold recsOf
    rw [bl_mk]; exact this
  have hf : fullB (mk (enc 0 (recsOf s))) = true := by rw [full_iff, hro, bl_mk]
  have hb : logB (mk (enc 0 (recsOf s)), (⟨#[]⟩, ((recsOf s).length : Int))) = true := by
    refine log_mk ?_ ?_ hf ?_
    · show (mk _).size + 0 ≤ 30000
      rw [mk_size]; omega
    · show fullB (mk _ ++ (⟨#[]⟩ : ByteArray)) = true
      rw [app_nil]; exact hf
    · show ((recsOf (mk _ ++ (⟨#[]⟩ : ByteArray))).length : Int) = _
      rw [app_nil, hro]
  refine ⟨hb, ?_⟩
  unfold logRecs
  rw [if_pos hb]
  dsimp only
  rw [app_nil, hro]
theorem law_FnCrashes {n : Nat} (hn : BIG ≤ n) (a : List Int) (ok : (Ty.sl (.int .u8)).ok a) : v_FnCrashes n a = some true := by
  have hb : ByB a := ok_bytes' ok
  unfold v_FnCrashes v_vBig
  rw [ob_some, br_dec]
  split
  · rfl
  rename_i hbig
  obtain ⟨l, keep, t, e1, hl⟩ := DrawCrashLog_ok hn (cu0 hb)
  obtain ⟨b1, q1, hb1, _⟩ := vCut_ok (n := n) hb (by omega) (k := 1) (by omega)
  have q1 : v_vCut n a 1 = some b1 := q1
  obtain ⟨w, e2, hw⟩ := DrawRecoverLog_ok hn (cu0 hb1)
  have hl0 : l.1.size + l.2.1.size ≤ 700 := hl
  have hl : l.1.size + l.2.1.size ≤ 1048576 := by omega
  rw [e1, ob_some]
  dsimp only
  rw [i_CrashLog_eq hn hl, ob_some, s_CrashLog_eq hn hl, ob_some, q1, ob_some, e2, ob_some, i_RecoverLog_eq hn (by omega), ob_some, s_RecoverLog_eq hn (by omega), ob_some]
  simp only [eqd_self, beq_self_eq_true, Bool.not_true, ob_some, br_false, decide_true]
  cases hok : (crash l keep t).2 with
  | false => rfl
  | true =>
    have hc : logB l = true ∧ 0 ≤ keep ∧ keep ≤ (l.2.1.size : Int) := by
      refine Decidable.byContradiction fun h => ?_
      unfold crash at hok
      rw [if_neg h] at hok
      cases hok
    obtain ⟨hv, k0, k1⟩ := hc
    obtain ⟨k, rfl⟩ : ∃ k : Nat, keep = (k : Int) := ⟨keep.toNat, by omega⟩
    obtain ⟨⟨fs, hfs⟩, hle, hall⟩ := crash_read hv (keep := k) (by omega) t
    obtain ⟨x, hx, _, hcx⟩ := crash_bytes hv (keep := k) (by omega) t
    have hcs : (crash l (k : Int) t).1.size ≤ 30000 := by
      have := congrArg List.length hx
      rw [bl_len, List.length_append, bl_len] at this
      rcases hcx with ⟨rfl, _⟩ | ⟨_, hp, b, _, rfl⟩
      · rw [List.length_take, bl_len] at this; omega
      · rw [List.length_append, List.length_take, bl_len, List.length_singleton] at this; omega
    obtain ⟨v1, v2⟩ := recov_valid hcs
    have hrl := recov_log hcs
    have hrc := recs_len (crash l (k : Int) t).1
    have hrs : (recov (crash l (k : Int) t).1).1.1.size + (recov (crash l (k : Int) t).1).1.2.1.size ≤ 1048576 := by
      have := enc_le (crash l (k : Int) t).1
      rw [hrl]
      show (mk _).size + 0 ≤ _
      rw [mk_size]; omega
    have hlr : (logRecs l).2 = recsOf (l.1 ++ l.2.1) := by unfold logRecs; rw [if_pos hv]
    have hlrn := recs_len (l.1 ++ l.2.1)
    rw [Bool.not_true, br_false, i_RecoverLog_eq hn (by omega), ob_some, i_IsValidLog_eq hn hrs, v1, i_LogRecords_eq hn hl, i_LogRecords_eq hn hrs, v2]
    have d0 : (recov (crash l (k : Int) t).1).2.2 = true := by rw [hrl]
    have d1 : decide ((recov (crash l (k : Int) t).1).2.1 < (l.1.size : Int)) = false := by
      rw [hrl]
      exact decide_eq_false (by show ¬ (((enc 0 (recsOf (crash l (k : Int) t).1)).length : Int) < _); omega)
    have d2 : decide (((recov (crash l (k : Int) t).1).1.1.size : Int) = (recov (crash l (k : Int) t).1).2.1) = true := by
      rw [hrl]
      exact decide_eq_true (by show ((mk _).size : Int) = _; rw [mk_size])
    simp only [d0, Bool.not_true, br_false, ob_some, d1, d2, hlr]
    rw [hfs] at hlrn ⊢
    have hall' : t = false → k = l.2.1.size → fs = [] := fun h1 h2 => by
      have := hall h1 h2
      rw [hfs] at this
      have := congrArg List.length this
      rw [List.length_append] at this
      exact List.eq_nil_of_length_eq_zero (by omega)
    generalize recsOf (crash l (k : Int) t).1 = es at *
    rw [List.length_append] at hlrn
    have d3 : decide ((es.length : Int) ≤ (((es ++ fs).length : Nat) : Int)) = true := decide_eq_true (by rw [List.length_append]; omega)
    have d4 : sub (es ++ fs) 0 (0 + (w64 ((es.length : Int) - 0)).toNat) = es := by
      rw [Int.sub_zero, w64_id (by omega), toNat_cast]
      unfold sub
      simp
    have d5 : slb 0 (es.length : Int) (es ++ fs).length = true := slb_ok (by omega) (by omega) (by rw [List.length_append]; omega)
    rw [d3, br_true, d5, ckb_true, d4, v_vRecords_self hn (by omega), ob_some, ob_some, br_true]
    cases t with
    | true => rfl
    | false =>
      rw [br_false, ob_some]
      by_cases hk : (k : Int) < (l.2.1.size : Int)
      · rw [decide_eq_true hk]; rfl
      · rw [decide_eq_false hk, br_false, hall' rfl (by omega), List.append_nil, decide_eq_true rfl]; rfl
end Go.Pl
