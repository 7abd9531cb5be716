/- Plain laws: R60. -/
import Derived.Test.YtifcbamdncpahaaDoorLLPi
import Derived.Test.YtifcbamdncpahaaDoorLR14
import Derived.Test.YtifcbamdncpahaaDoorLR25
set_option linter.unusedVariables false
set_option linter.unusedSimpArgs false
namespace Go.Pl
open Go Go.Tv Go.RowKit
def fmtI (v : Int) : ByteArray × Bool := if -999999 ≤ v ∧ v ≤ 999999 then (txt v, true) else (⟨#[]⟩, false)
theorem i_FormatInt_eq {n : Nat} (v : Int) : i_FormatInt n v = some (fmtI v) := by
  unfold i_FormatInt fmtI
  rw [i_within_eq, ob_some]
  by_cases h : -999999 ≤ v ∧ v ≤ 999999
  · rw [decide_eq_true h, Bool.not_true, br_false, strconv_Itoa_eq (by omega) (by omega), ob_some, if_pos h]
  · rw [decide_eq_false h, Bool.not_false, br_true, if_neg h]
theorem s_FormatInt_eq {n : Nat} (hn : BIG ≤ n) (v : Int) : s_FormatInt n v = some (fmtI v) := by
  unfold s_FormatInt fmtI
  rw [s_l1In_eq, ob_some]
  by_cases h : -999999 ≤ v ∧ v ≤ 999999
  · rw [decide_eq_true h, Bool.not_true, br_false, s_l1Num_eq hn (by omega) (by omega), ob_some, if_pos h]
  · rw [decide_eq_false h, Bool.not_false, br_true, if_neg h]
theorem DrawFormatInt_ok (n : Nat) {a : List Int} (h : CuOK 0 (a, (0, 0))) : ∃ v, s_DrawFormatInt n a = some v := by
  unfold s_DrawFormatInt
  obtain ⟨r, c1, e1, h1, r0, r1⟩ := pick_ok n h (by omega) (a := 1000) (by omega)
  rw [lt_eq, e1, ob_some, lt_eq]
  dsimp only
  obtain ⟨q, c2, e2, h2, hq⟩ := among_ok n h1 (by omega) (l := [0, 1, (-1), 10, 999999, (-999999), 1000000, (-1000000), w64 (r - 500)]) (by simp)
  rw [e2, ob_some]
  exact ⟨q, rfl⟩
theorem DrawParseInt_ok {n : Nat} (hn : BIG ≤ n) {a : List Int} (h : CuOK 0 (a, (0, 0))) : ∃ s, s_DrawParseInt n a = some s ∧ s.size ≤ 100 := by
  unfold s_DrawParseInt
  obtain ⟨o, c1, e1, h1⟩ := one_ok n h (by omega) (a := 2) (by omega)
  rw [lt_eq, e1, ob_some]
  dsimp only
  cases o with
  | true =>
    obtain ⟨q, c2, e2, h2, hq⟩ := of_ok n h1 (by omega) (l := [(⟨#[]⟩ : ByteArray), (⟨#[45]⟩ : ByteArray), (⟨#[45, 48]⟩ : ByteArray), (⟨#[48, 48]⟩ : ByteArray), (⟨#[48, 49]⟩ : ByteArray), (⟨#[45, 45, 49]⟩ : ByteArray), (⟨#[49, 120]⟩ : ByteArray), (⟨#[57, 57, 57, 57, 57, 57]⟩ : ByteArray), (⟨#[49, 48, 48, 48, 48, 48, 48]⟩ : ByteArray), (⟨#[45, 57, 57, 57, 57, 57, 57]⟩ : ByteArray), (⟨#[49, 56, 52, 52, 54, 55, 52, 52, 48, 55, 51, 55, 48, 57, 53, 53, 49, 54, 49, 55]⟩ : ByteArray)]) (by simp)
    rw [br_true, e2, ob_some]
    refine ⟨q, rfl, ?_⟩
    simp only [List.mem_cons, List.mem_nil_iff, or_false] at hq
    rcases hq with rfl | rfl | rfl | rfl | rfl | rfl | rfl | rfl | rfl | rfl | rfl <;> decide
  | false =>
    obtain ⟨r, c2, e2, h2, r0, r1⟩ := pick_ok n h1 (by omega) (a := 2000) (by omega)
    rw [br_false, e2, ob_some]
    dsimp only
    rw [w64_id (by omega), lt_eq, s_l1Num_eq hn (by omega) (by omega), ob_some]
    refine ⟨_, rfl, ?_⟩
    unfold txt
    rw [mk_size]
    by_cases hv : r - 1000 < 0
    · have := dec_len 6 (r - 1000).natAbs (by omega)
      rw [num_neg hv, List.length_cons]; omega
    · have := dec_len 6 (r - 1000).toNat (by omega)
      rw [num_pos hv]; omega
theorem DrawAppendChecksum_ok (n : Nat) {a : List Int} (h : CuOK 0 (a, (0, 0))) : ∃ s, s_DrawAppendChecksum n a = some s ∧ s.size ≤ 5000 := by
  unfold s_DrawAppendChecksum
  obtain ⟨o, c1, e1, h1⟩ := one_ok n h (by omega) (a := 20) (by omega)
  rw [lt_eq, e1, ob_some]
  dsimp only
  cases o with
  | true =>
    obtain ⟨r, c2, e2, h2, r0, r1⟩ := pick_ok n h1 (by omega) (a := 10) (by omega)
    rw [br_true, e2, ob_some]
    dsimp only
    rw [w64_id (by omega), lt_eq, ckb_pos (mkok_ok (by omega) (by omega) (by omega) (by omega)), lt_eq]
    exact ⟨_, rfl, by rw [strOfNums_size, List.length_replicate]; omega⟩
  | false =>
    obtain ⟨r, c2, e2, h2, hr⟩ := any1_ok n h1 (by omega)
    rw [br_false, e2, ob_some]
    exact ⟨r, rfl, by omega⟩
theorem vAt_ok {n : Nat} {a : List Int} (hb : ByB a) (hl : a.length ≤ 65536) {k : Int} (k0 : 0 ≤ k) (k1 : k ≤ 1000) : ∃ r, v_vAt n a k = some r ∧ 0 ≤ r ∧ r ≤ 255 := by
  unfold v_vAt
  by_cases h : k < (a.length : Int)
  · have hkl : k.toNat < a.length := by omega
    have := hb _ (List.getElem_mem hkl)
    rw [decide_eq_true h, br_true, ckb_pos (inb_pos k0 (by omega)), gl_eq hkl, w64_id (by omega), lt_eq]
    exact ⟨_, rfl, this.1, this.2⟩
  · rw [decide_eq_false h, br_false, w64_id (by omega), lt_eq, w64_id (by omega), lt_eq, lt_eq, Int.tmod_eq_emod_of_nonneg (by omega)]
    exact ⟨_, rfl, by omega, by omega⟩
theorem xor_ne (b : UInt8) {e : Int} (h0 : 1 ≤ e) (h1 : e ≤ 255) : UInt8.ofNat (bits .xor .u8 (b.toNat : Int) e).toNat ≠ b := by
  have hx : bits .xor .u8 (b.toNat : Int) e = IntKind.u8.wrap ((BitVec.ofInt 8 (b.toNat : Int) ^^^ BitVec.ofInt 8 e).toNat : Int) := rfl
  rw [hx]
  generalize hB : BitVec.ofInt 8 (b.toNat : Int) = B
  generalize hE : BitVec.ofInt 8 e = E
  have hlt := (B ^^^ E).isLt
  have hw : ∀ N : Nat, N < 256 → IntKind.u8.wrap (N : Int) = (N : Int) := by
    intro N hN
    simp only [IntKind.wrap, IntKind.bits, IntKind.signed]
    simp
    omega
  rw [hw _ hlt, toNat_cast]
  intro h
  have h2 := congrArg UInt8.toNat h
  rw [UInt8.toNat_ofNat'] at h2
  have hb := b.toNat_lt
  have hBn : B.toNat = b.toNat := by rw [← hB, BitVec.toNat_ofInt]; omega
  have hEn : E.toNat = e.toNat := by rw [← hE, BitVec.toNat_ofInt]; omega
  have h3 : B ^^^ E = B := BitVec.eq_of_toNat_eq (by rw [hBn]; omega)
  have h4 : E = 0#8 := by
    have : B ^^^ (B ^^^ E) = B ^^^ B := by rw [h3]
    rw [← BitVec.xor_assoc, BitVec.xor_self, BitVec.zero_xor] at this
    exact this
  rw [h4] at hEn
  simp at hEn
  omega
theorem law_FnStrings {n : Nat} (hn : BIG ≤ n) (a : List Int) (ok : (Ty.sl (.int .u8)).ok a) : v_FnStrings n a = some true := by
  have hb : ByB a := ok_bytes' ok
  have hcu : CuOK 0 (a, (0, 0)) := cu0 hb
  unfold v_FnStrings v_vBig
  rw [ob_some, br_dec]
  split
  · rfl
  rename_i hbig
  obtain ⟨v, d1⟩ := DrawFormatInt_ok n hcu
  obtain ⟨t, d2, ht⟩ := DrawParseInt_ok hn hcu
  obtain ⟨x, d3, hx⟩ := DrawAppendChecksum_ok n hcu
  obtain ⟨r, e1, R1⟩ := i_ParseInt_ok (n := n) (s := t) (by omega)
  obtain ⟨q, e2, R2⟩ := s_ParseInt_ok hn (s := t) (by omega)
  have hrq := RdI_uniq R1 R2
  subst hrq
  have f1 : i_AppendChecksum n x = some (apdC x) := i_AppendChecksum_eq hn (by omega)
  have f2 := s_AppendChecksum_eq hn (x := x) (by omega)
  have hfs : (fmtI v).1.size ≤ 1000 := by
    unfold fmtI
    split
    · unfold txt
      rw [mk_size]
      by_cases hv : v < 0
      · have := dec_len 6 v.natAbs (by omega)
        rw [num_neg hv, List.length_cons]; omega
      · have := dec_len 6 v.toNat (by omega)
        rw [num_pos hv]; omega
    · exact Nat.zero_le _
  obtain ⟨w, e3, R3⟩ := i_ParseInt_ok (n := n) (s := (fmtI v).1) (by omega)
  have hback : (br (fmtI v).2 (ob (br (! w.2) (some true) (some (!decide (w.1 = v)))) fun (x18 : Bool) => some x18) (some false)) = some false := by
    by_cases hv : -999999 ≤ v ∧ v ≤ 999999
    · have hf : fmtI v = (txt v, true) := if_pos hv
      rw [hf] at R3 ⊢
      dsimp only at R3 ⊢
      have hbt : bl (txt v) = numL v := by unfold txt; simp
      cases hw : w.2 with
      | false => exact absurd hbt ((R3.2 hw).2 v hv.1 hv.2)
      | true =>
        obtain ⟨a1, a2⟩ := R3.1 hw
        rw [hbt] at a2
        have g1 := atoi_num a1.1 a1.2
        have g2 := atoi_num hv.1 hv.2
        rw [← a2, g2] at g1
        injection g1 with g1
        rw [br_true, Bool.not_true, br_false, decide_eq_true g1.symm]; rfl
    · have hf : fmtI v = (⟨#[]⟩, false) := if_neg hv
      rw [hf]; rfl
  simp only [d1, i_FormatInt_eq, s_FormatInt_eq hn, d2, e1, e2, d3, f1, f2, ob_some, eqd_self, beq_self_eq_true, Bool.not_true, br_false, decide_true, e3, hback]
  cases hok : (apdC x).2 with
  | false =>
    have : (apdC x).1 = ⟨#[]⟩ := by
      unfold apdC at hok ⊢
      split
      · rfl
      · rename_i hc; rw [if_neg hc] at hok; cases hok
    rw [Bool.not_false, br_true, this]; rfl
  | true =>
    obtain ⟨p1, p2, p3, p4⟩ := apd_parts hok
    have hys : (apdC x).1.size ≤ 4000 := by rw [← bl_len, p2]; exact p4
    have hpos : 1 ≤ (apdC x).1.size := by rw [← bl_len, p2]; unfold sealL; rw [List.length_append, List.length_cons]; omega
    obtain ⟨r1, e4, r10, r11⟩ := vAt_ok (n := n) hb (by omega) (k := 9) (by omega) (by omega)
    obtain ⟨r2, e5, r20, r21⟩ := vAt_ok (n := n) hb (by omega) (k := 10) (by omega) (by omega)
    have hsl := sbytes_len (apdC x).1
    rw [Bool.not_true, br_false, i_VerifyChecksum_eq hn (by omega), ver_apd hok, ob_some, ckb_pos (stok_ok (by omega)), e4, ob_some, hsl]
    have hz : decide (((apdC x).1.size : Int) = 0) = false := decide_eq_false (by omega)
    rw [hz, Bool.not_false, ckb_true, Int.tmod_eq_emod_of_nonneg r10, lt_eq]
    obtain ⟨k, hk⟩ : ∃ k : Nat, r1 % ((apdC x).1.size : Int) = (k : Int) := ⟨(r1 % ((apdC x).1.size : Int)).toNat, by have := Int.emod_nonneg r1 (show ((apdC x).1.size : Int) ≠ 0 by omega); omega⟩
    have hkl : k < (apdC x).1.size := by have := Int.emod_lt_of_pos r1 (show (0 : Int) < ((apdC x).1.size : Int) by omega); omega
    rw [hk, ckb_pos (inb_ok hkl), e5, ob_some, Int.tmod_eq_emod_of_nonneg r20, lt_eq, w64_id (by omega), lt_eq, toNat_cast]
    have hkb : k < (bl (apdC x).1).length := by rw [bl_len]; exact hkl
    have hg : gl 0 (sbytes (apdC x).1) k = ((bl (apdC x).1)[k].toNat : Int) := by
      rw [gl_eq (by omega)]
      simp only [sbytes_eq, List.getElem_map]
    have hwr : IntKind.wrap .u8 (1 + r2 % 255) = 1 + r2 % 255 := by
      simp only [IntKind.wrap, IntKind.bits, IntKind.signed]
      simp
      omega
    rw [lt_eq, hwr, lt_eq, hg]
    have hne := xor_ne (bl (apdC x).1)[k] (e := 1 + r2 % 255) (by omega) (by omega)
    generalize bits .xor .u8 ((bl (apdC x).1)[k].toNat : Int) (1 + r2 % 255) = z at *
    rw [ckb_pos (inb_ok hkl), lt_eq, lt_eq]
    have hy : bl (strOfNums ((sbytes (apdC x).1).set k z)) = (bl (apdC x).1).set k (UInt8.ofNat z.toNat) := by
      rw [bl_strOf, List.map_set, sbytes_eq, List.map_map]
      congr 1
      conv => rhs; rw [← List.map_id (bl (apdC x).1)]
      refine List.map_congr_left fun b _ => ?_
      simp
    have hbad := ver_changed hok hkb hne hy
    rw [i_VerifyChecksum_eq hn (by rw [strOfNums_size, List.length_set]; omega), ob_some]
    dsimp only
    rw [br_true, eqd_self, ob_some, br_true, hbad]; rfl
end Go.Pl
