/- Plain laws: LVl. -/
import Derived.Test.YtkhfihbaopbblaaDoorLLLog
import Derived.Test.YtkhfihbaopbblaaDoorLL12
import Derived.Test.YtkhfihbaopbblaaDoorLL7
import Derived.Test.YtkhfihbaopbblaaDoorLR15
set_option linter.unusedVariables false
set_option linter.unusedSimpArgs false
namespace Go.Pl
open Go Go.Tv Go.RowKit
def recsOf (s : ByteArray) : List Rec := opn 60 0 (bl s)
def fullB (s : ByteArray) : Bool := decide ((enc 0 (recsOf s)).length = s.size)
theorem full_iff {s : ByteArray} : fullB s = true ↔ bl s = enc 0 (recsOf s) := by
  unfold fullB recsOf
  rw [decide_eq_true_eq]
  obtain ⟨r, h⟩ := opn_pre 60 0 (bl s) (by omega)
  constructor
  · intro h1
    have h2 := congrArg List.length h
    rw [List.length_append, bl_len, h1] at h2
    have : r = [] := List.eq_nil_of_length_eq_zero (by omega)
    rw [this, List.append_nil] at h
    exact h
  · intro h1
    rw [← bl_len]
    exact (congrArg List.length h1).symm
def logB (l : Lg) : Bool := decide (l.1.size + l.2.1.size ≤ 30000) && fullB (l.1 ++ l.2.1) && fullB l.1 && decide (((recsOf (l.1 ++ l.2.1)).length : Int) = l.2.2)
def endsAll (es : List Rec) : List Int := (List.range (es.length + 1)).map fun i => ((enc 0 (es.take i)).length : Int)
theorem endsAll_eq (es : List Rec) : (0 : Int) :: endsL 0 0 es = endsAll es := by
  unfold endsAll
  rw [endsL_eq, List.range_succ_eq_map, List.map_cons, List.map_map]
  congr 1
  refine List.map_congr_left fun i _ => ?_
  simp
theorem endsAll_len (es : List Rec) : (endsAll es).length = es.length + 1 := by unfold endsAll; simp
theorem endsAll_last (es : List Rec) : gl 0 (endsAll es) es.length = ((enc 0 es).length : Int) := by
  rw [gl_eq (by rw [endsAll_len]; omega)]
  unfold endsAll
  rw [List.getElem_map, List.getElem_range, List.take_length]
theorem recs_len (s : ByteArray) : (recsOf s).length ≤ 60 := opn_len 60 0 (bl s)
theorem recs_rec (s : ByteArray) : ∀ e ∈ recsOf s, recB e = true := opn_rec 60 0 (bl s) (by omega)
theorem recs_enc {es : List Rec} (hl : es.length ≤ 60) (h : ∀ e ∈ es, recB e = true) : opn 60 0 (enc 0 es) = es := by
  have := opn_enc es 60 0 [] hl (by omega) h
  rw [List.append_nil, opn_nil, List.append_nil] at this
  exact this
theorem ends_full {d p : ByteArray} (hf : fullB (d ++ p) = true) : (endsAll (recsOf (d ++ p))).contains (d.size : Int) = fullB d := by
  have hall := full_iff.1 hf
  rw [bl_app] at hall
  have hlen := recs_len (d ++ p)
  have hrec := recs_rec (d ++ p)
  have hes : recsOf (d ++ p) = opn 60 0 (bl d ++ bl p) := by unfold recsOf; rw [bl_app]
  rw [Bool.eq_iff_iff, List.contains_iff_mem]
  unfold endsAll
  rw [List.mem_map]
  constructor
  · rintro ⟨i, hi, h⟩
    rw [List.mem_range] at hi
    have e1 : recsOf (d ++ p) = (recsOf (d ++ p)).take i ++ (recsOf (d ++ p)).drop i := (List.take_append_drop _ _).symm
    have e2 : bl d ++ bl p = enc 0 ((recsOf (d ++ p)).take i) ++ enc (0 + ((recsOf (d ++ p)).take i).length) ((recsOf (d ++ p)).drop i) := by
      rw [hall]
      conv => lhs; rw [e1]
      exact enc_app _ _ _
    have e3 : bl d = enc 0 ((recsOf (d ++ p)).take i) := List.append_inj_left e2 (by rw [bl_len]; omega)
    rw [full_iff]
    unfold recsOf at *
    rw [e3, recs_enc (by rw [List.length_take]; omega) (fun e he => hrec e (List.mem_of_mem_take he))]
  · intro h
    have hd := full_iff.1 h
    have hdl := recs_len d
    have e1 : recsOf (d ++ p) = recsOf d ++ opn (60 - (recsOf d).length) (0 + (recsOf d).length) (bl p) := by
      rw [hes, hd]
      have := opn_enc (recsOf d) 60 0 (bl p) hdl (by omega) (recs_rec d)
      unfold recsOf at *
      rw [← hd] at this ⊢
      exact this
    refine ⟨(recsOf d).length, ?_, ?_⟩
    · rw [List.mem_range, e1, List.length_append]; omega
    · rw [e1, List.take_left' rfl, ← hd, bl_len]
theorem s_l12Valid_eq {n : Nat} (hn : BIG ≤ n) {l : Lg} (hl : l.1.size + l.2.1.size ≤ 1048576) : s_l12Valid n l = some (logB l) := by
  unfold s_l12Valid logB
  have e1 : w64 ((l.1.size : Int) + (l.2.1.size : Int)) = ((l.1.size + l.2.1.size : Nat) : Int) := by rw [w64_id (by omega)]; omega
  rw [e1, lt_eq]
  by_cases h : (30000 : Int) < ((l.1.size + l.2.1.size : Nat) : Int)
  · rw [decide_eq_true h, br_true, decide_eq_false (by omega)]; rfl
  rw [decide_eq_false h, br_false, decide_eq_true (by omega : l.1.size + l.2.1.size ≤ 30000), ckb_pos (stok_ok (by omega)), lt_eq, s_l12Open_eq hn (by rw [app_size]; omega), ob_some, s_l12Open_eq hn (by omega), ob_some, lt_eq]
  dsimp only
  have d1 : decide (((enc 0 (opn 60 0 (bl (l.1 ++ l.2.1)))).length : Int) = ((l.1.size + l.2.1.size : Nat) : Int)) = fullB (l.1 ++ l.2.1) := by
    unfold fullB recsOf
    rw [app_size]
    congr 1; apply propext; omega
  have d2 : decide (((enc 0 (opn 60 0 (bl l.1))).length : Int) = (l.1.size : Int)) = fullB l.1 := by
    unfold fullB recsOf
    congr 1; apply propext; omega
  rw [d1, d2]
  unfold recsOf
  cases fullB (l.1 ++ l.2.1) <;> cases fullB l.1 <;> rfl
theorem i_IsValidLog_eq {n : Nat} (hn : BIG ≤ n) {l : Lg} (hl : l.1.size + l.2.1.size ≤ 1048576) : i_IsValidLog n l = some (logB l) := by
  unfold i_IsValidLog logB
  have hsz := app_size l.1 l.2.1
  rw [ckb_pos (stok_ok (by omega)), lt_eq]
  by_cases h : (30000 : Int) < ((l.1 ++ l.2.1).size : Int)
  · rw [decide_eq_true h, br_true, decide_eq_false (by omega)]; rfl
  have hr := recs_len (l.1 ++ l.2.1)
  rw [decide_eq_false h, br_false, decide_eq_true (by omega : l.1.size + l.2.1.size ≤ 30000), i_records_eq hn (by omega), ob_some]
  dsimp only
  rw [endsAll_eq]
  have e0 : opn 60 0 (bl (l.1 ++ l.2.1)) = recsOf (l.1 ++ l.2.1) := rfl
  rw [e0, endsAll_len]
  have e1 : w64 ((((recsOf (l.1 ++ l.2.1)).length + 1 : Nat) : Int) - 1) = ((recsOf (l.1 ++ l.2.1)).length : Int) := by rw [w64_id (by omega)]; omega
  rw [e1, lt_eq, ckb_pos (inb_ok (by omega)), toNat_cast, endsAll_last]
  have d1 : decide (((enc 0 (recsOf (l.1 ++ l.2.1))).length : Int) = ((l.1 ++ l.2.1).size : Int)) = fullB (l.1 ++ l.2.1) := by
    unfold fullB
    congr 1; apply propext; omega
  have d3 : decide (l.2.2 = ((recsOf (l.1 ++ l.2.1)).length : Int)) = decide (((recsOf (l.1 ++ l.2.1)).length : Int) = l.2.2) := by congr 1; apply propext; exact eq_comm
  rw [d1, d3, slices_Contains_int_eq hn (by rw [endsAll_len]; omega)]
  cases hf : fullB (l.1 ++ l.2.1) with
  | false => rfl
  | true =>
    rw [ends_full hf]
    cases fullB l.1 <;> rfl
end Go.Pl
