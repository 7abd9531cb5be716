/- Plain laws: R40. -/
import Derived.Test.YtkhfihbaopbblaaDoorLLDl
set_option linter.unusedVariables false
set_option linter.unusedSimpArgs false
namespace Go.Pl
open Go Go.Tv Go.RowKit
theorem v_vRecords_self {n : Nat} (hn : BIG ≤ n) {l : List Rec} (hl : l.length ≤ 1000000) : v_vRecords n l l = some true := by
  unfold v_vRecords
  rw [decide_eq_true rfl, Bool.not_true, br_false]
  have := fx_find (B := v_vRecords_L1 n) l (fun i => (l, l, (i : Int))) (fun _ => false) (fun _ => some false) (some true) (fun self i hi => by
    unfold v_vRecords_L1
    dsimp only
    rw [decide_eq_true (by omega), br_true, ckb_pos (inb_ok hi), ckb_pos (inb_ok hi), eqd_self, Bool.not_true, br_false, lt_eq, w64_succ (by omega)]; rfl) (fun self => by
    unfold v_vRecords_L1
    dsimp only
    rw [decide_eq_false (by omega), br_false]) n (big_gt hn (by omega))
  have hf : l.findIdx? (fun _ => false) = none := List.findIdx?_eq_none_iff.2 fun _ _ => rfl
  rw [hf] at this
  exact this
theorem app_nil (s : ByteArray) : s ++ (⟨#[]⟩ : ByteArray) = s := bl_inj (by rw [bl_app]; exact List.append_nil _)
theorem log_parts {l : Lg} (h : logB l = true) : l.1.size + l.2.1.size ≤ 30000 ∧ fullB (l.1 ++ l.2.1) = true ∧ fullB l.1 = true ∧ ((recsOf (l.1 ++ l.2.1)).length : Int) = l.2.2 := by
  unfold logB at h
  simp only [Bool.and_eq_true, decide_eq_true_eq] at h
  exact ⟨h.1.1.1, h.1.1.2, h.1.2, h.2⟩
theorem log_mk {l : Lg} (h1 : l.1.size + l.2.1.size ≤ 30000) (h2 : fullB (l.1 ++ l.2.1) = true) (h3 : fullB l.1 = true) (h4 : ((recsOf (l.1 ++ l.2.1)).length : Int) = l.2.2) : logB l = true := by
  unfold logB
  rw [decide_eq_true h1, h2, h3, decide_eq_true h4]; rfl
theorem sync_log {l : Lg} (h : logB l = true) : logB (sync l).1 = true ∧ logRecs (sync l).1 = logRecs l := by
  obtain ⟨h1, h2, h3, h4⟩ := log_parts h
  have e : (sync l).1 = (l.1 ++ l.2.1, (⟨#[]⟩, l.2.2)) := by unfold sync; rw [if_pos h]
  have hb : logB (sync l).1 = true := by
    rw [e]
    refine log_mk ?_ ?_ h2 ?_
    · show (l.1 ++ l.2.1).size + 0 ≤ 30000
      rw [app_size]; omega
    · show fullB ((l.1 ++ l.2.1) ++ (⟨#[]⟩ : ByteArray)) = true
      rw [app_nil]; exact h2
    · show ((recsOf ((l.1 ++ l.2.1) ++ (⟨#[]⟩ : ByteArray))).length : Int) = l.2.2
      rw [app_nil]; exact h4
  refine ⟨hb, ?_⟩
  unfold logRecs
  rw [if_pos hb, if_pos h, e]
  dsimp only
  rw [app_nil]
theorem appd_log {l : Lg} {g : Rec} (hl : l.1.size + l.2.1.size ≤ 20000) (hg : g.1.size + g.2.size ≤ 100) (h : (appd l g).2 = 0) :
    logB l = true ∧ logB (appd l g).1 = true ∧ recsOf ((appd l g).1.1 ++ (appd l g).1.2.1) = recsOf (l.1 ++ l.2.1) ++ [g] := by
  unfold appd at h ⊢
  split at h
  · cases h
  rename_i hc
  have hc' : logB l = true ∧ recB g = true := Decidable.byContradiction hc
  split at h
  · cases h
  rename_i h60
  rw [if_neg hc, if_neg h60]
  dsimp only
  obtain ⟨h1, h2, h3, h4⟩ := log_parts hc'.1
  have hlen := recs_len (l.1 ++ l.2.1)
  obtain ⟨c0, c1⟩ := log_count hc'.1
  have hk : l.2.2 = (((recsOf (l.1 ++ l.2.1)).length : Nat) : Int) := h4.symm
  have hlt : (recsOf (l.1 ++ l.2.1)).length < 60 := by omega
  have hll := line_len2 c0 (by omega) g
  have hfull := full_iff.1 h2
  have hrec := recs_rec (l.1 ++ l.2.1)
  have hall : bl (l.1 ++ (l.2.1 ++ mk (lineL l.2.2 (bl g.1) (bl g.2)))) = enc 0 (recsOf (l.1 ++ l.2.1) ++ [g]) := by
    rw [enc_app, ← hfull]
    simp only [bl_app, bl_mk, List.append_assoc]
    rw [hk]
    show _ = bl l.1 ++ (bl l.2.1 ++ (ln (0 + (recsOf (l.1 ++ l.2.1)).length) g ++ []))
    rw [List.append_nil, Nat.zero_add]; rfl
  have hro : recsOf (l.1 ++ (l.2.1 ++ mk (lineL l.2.2 (bl g.1) (bl g.2)))) = recsOf (l.1 ++ l.2.1) ++ [g] := by
    unfold recsOf at hall ⊢
    rw [hall]
    exact recs_enc (by rw [List.length_append, List.length_singleton]; unfold recsOf at hlt; omega) (fun e he => by
      rcases List.mem_append.1 he with he | he
      · exact hrec e he
      · rw [List.mem_singleton.1 he]; exact hc'.2)
  refine ⟨hc'.1, log_mk ?_ ?_ h3 ?_, hro⟩
  · show l.1.size + (l.2.1 ++ mk (lineL l.2.2 (bl g.1) (bl g.2))).size ≤ 30000
    rw [app_size, mk_size]; omega
  · rw [full_iff]
    dsimp only
    rw [hro]; exact hall
  · dsimp only
    rw [hro, List.length_append, List.length_singleton]; omega
theorem appd_same {l : Lg} {g : Rec} (h : (appd l g).2 ≠ 0) : (appd l g).1 = l := by
  unfold appd at h ⊢
  split
  · rfl
  · rename_i hc
    split
    · rfl
    · rename_i h60
      rw [if_neg hc, if_neg h60] at h
      exact absurd rfl h
theorem law_FnLogs {n : Nat} (hn : BIG ≤ n) (a : List Int) (ok : (Ty.sl (.int .u8)).ok a) : v_FnLogs n a = some true := by
  have hb : ByB a := ok_bytes' ok
  unfold v_FnLogs v_vBig
  rw [ob_some, br_dec]
  split
  · rfl
  rename_i hbig
  obtain ⟨e, e1, he1, he2⟩ := DrawIsValidRecord_ok n (cu0 hb)
  obtain ⟨b1, q1, hb1, _⟩ := vCut_ok (n := n) hb (by omega) (k := 1) (by omega)
  obtain ⟨b2, q2, hb2, _⟩ := vCut_ok (n := n) hb (by omega) (k := 2) (by omega)
  obtain ⟨b3, q3, hb3, _⟩ := vCut_ok (n := n) hb (by omega) (k := 3) (by omega)
  have q1 : v_vCut n a 1 = some b1 := q1
  have q2 : v_vCut n a 2 = some b2 := q2
  have q3 : v_vCut n a 3 = some b3 := q3
  obtain ⟨k, f, e2, hf1, hf2⟩ := DrawEncodeRecord_ok n (cu0 hb1)
  obtain ⟨l, e3, hl⟩ := DrawIsValidLog_ok hn (cu0 hb2)
  obtain ⟨m, g, e4, hm, hg1, hg2⟩ := DrawAppendRecord_ok hn (cu0 hb3)
  have hl : l.1.size + l.2.1.size ≤ 1048576 := by unfold lgN at hl; omega
  have hm0 : m.1.size + m.2.1.size ≤ 2000 := hm
  have hm : m.1.size + m.2.1.size ≤ 1048576 := by omega
  have hsy : (sync m).1.1.size + (sync m).1.2.1.size ≤ 1048576 := by have := sync_size m; unfold lgN at this; omega
  have hap : (appd m g).1.1.size + (appd m g).1.2.1.size ≤ 1048576 := by have := appd_size m g; unfold lgN at this; omega
  have h60 := logRecs_len m
  have h61 := logRecs_len (appd m g).1
  have hvr := v_vRecords_self hn (l := (logRecs m).2) (by omega)
  rw [e1, ob_some, q1, ob_some, e2, ob_some, i_EncodeRecord_eq hn (by dsimp only; omega) (by dsimp only; omega), ob_some, s_EncodeRecord_eq hn (by dsimp only; omega) (by dsimp only; omega), ob_some, q2, ob_some, e3, ob_some, q3, ob_some, e4, ob_some]
  dsimp only
  rw [i_AppendRecord_eq hn hm (by omega) (by omega), ob_some, s_AppendRecord_eq hn hm (by omega) (by omega), ob_some, i_IsValidRecord_eq hn (by omega) (by omega), ob_some, s_IsValidRecord_eq hn (by omega) (by omega), ob_some]
  simp only [eqd_self, beq_self_eq_true, Bool.not_true, ob_some, br_false, i_IsValidLog_eq hn hl, s_IsValidLog_eq hn hl, decide_true, i_SyncLog_eq hn hm, s_SyncLog_eq hn hm, i_LogRecords_eq hn hm, s_LogRecords_eq hn hm, hvr, i_LogRecords_eq hn hsy, i_LogRecords_eq hn hap, i_IsValidLog_eq hn hap]
  have hsync : (br (sync m).2 (ob (v_vRecords n (logRecs (sync m).1).2 (logRecs m).2) fun r32 => some (! r32)) (some false)) = some false := by
    cases h : logB m with
    | false =>
      have : (sync m).2 = false := by unfold sync; rw [if_neg (by rw [h]; simp)]
      rw [this]; rfl
    | true =>
      have : (sync m).2 = true := by unfold sync; rw [if_pos h]
      rw [this, br_true, (sync_log h).2, hvr]; rfl
  rw [hsync, ob_some, br_false]
  by_cases hst : (appd m g).2 = 0
  · obtain ⟨r1, r2, r3⟩ := appd_log (l := m) (g := g) (by omega) (by omega) hst
    rw [decide_eq_true hst, Bool.not_true, br_false, r2, br_true]
    have hA : (logRecs m).2 = recsOf (m.1 ++ m.2.1) := by unfold logRecs; rw [if_pos r1]
    have hB : (logRecs (appd m g).1).2 = recsOf (m.1 ++ m.2.1) ++ [g] := by unfold logRecs; rw [if_pos r2]; exact r3
    rw [hA] at hvr h60 ⊢
    rw [hB]
    generalize recsOf (m.1 ++ m.2.1) = es at *
    have d1 : decide ((((es ++ [g]).length : Nat) : Int) = w64 ((es.length : Int) + 1)) = true := by
      rw [w64_succ (by omega)]; exact decide_eq_true (by simp)
    have d2 : sub (es ++ [g]) 0 (0 + (w64 ((es.length : Int) - 0)).toNat) = es := by
      rw [Int.sub_zero, w64_id (by omega), toNat_cast]
      unfold sub
      simp
    have d3 : gl ((⟨#[]⟩ : ByteArray), (⟨#[]⟩ : ByteArray)) (es ++ [g]) es.length = g := by rw [gl_eq (by simp)]; simp
    rw [lt_eq, d1, ob_some, br_true, ckb_pos (slb_ok (by omega) (by omega) (by rw [List.length_append]; omega)), d2, hvr, ob_some, ob_some, br_true, ckb_pos (inb_ok (by simp)), d3, eqd_self]; rfl
  · rw [decide_eq_false hst, Bool.not_false, br_true, appd_same hst, eqd_self]
end Go.Pl
