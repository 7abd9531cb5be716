/- Printed by a program of the session: the program's functions as plain functions. -/
import Derived.Test.YtleaogcnndhdgaaZ0
import Derived.Lib.Bytealg
namespace Go.Pl
open Go Go.Tv Go.RowKit
set_option linter.unusedVariables false
def bls (a b : ByteArray) : Bool := Op.bytesLess a.toList b.toList
/-- x_IndexByteString -/
noncomputable def x_IndexByteString (n : Nat) (a1 : ByteArray) (a2 : Int) : Option Int := some (Lib.indexByte a1.data.toList a2.toNat.toUInt8)

/-- s_l1In -/
noncomputable def s_l1In (n : Nat) (a1 : Int) (a2 : Int) (a3 : Int) : Option (Bool) :=
  ob (br (decide (a2 ≤ a1)) (some (decide (a1 ≤ a3))) (some false)) fun (x4 : Bool) => some x4

/-- s_l2Card -/
noncomputable def s_l2Card_L1 (n : Nat) (go2 : Int × (V4 Int) → Option (Bool)) (s3 : Int × (V4 Int)) : Option (Bool) :=
  br (decide (s3.1 < 4)) (ckb (inb s3.1 4) (ob (s_l1In n (V4.get s3.2 s3.1.toNat) 0 2) fun (r4 : Bool) => br (! r4) (some false) (lt (w64 (s3.1 + 1)) fun (x5 : Int) => go2 (x5, s3.2)))) (some true)
noncomputable def s_l2Card (n : Nat) (a1 : (V4 Int)) : Option (Bool) :=
  fx (s_l2Card_L1 n) n (0, a1)

/-- i_within -/
noncomputable def i_within (n : Nat) (a1 : Int) (a2 : Int) (a3 : Int) : Option (Bool) :=
  ob (br (decide (a2 ≤ a1)) (some (decide (a1 ≤ a3))) (some false)) fun (x4 : Bool) => some x4

/-- i_allWithin_1'pp -/
noncomputable def i_allWithin_1'pp (n : Nat) (a1 : Int) (a2 : Int) (a3 : Int) : Option (Bool × Int × Int) :=
  ob (i_within n a1 a2 a3) fun (r4 : Bool) => some ((! r4), a2, a3)

/-- slices_IndexFunc_Sint_int_'l_i_allWithin_1pp -/
noncomputable def slices_IndexFunc_Sint_int_'l_i_allWithin_1pp_L1 (n : Nat) (go4 : (List Int) × Int × Int × Int × Int → Option (Int × Int × Int)) (s5 : (List Int) × Int × Int × Int × Int) : Option (Int × Int × Int) :=
  br (decide (s5.2.2.1 < s5.2.1)) (ckb (inb s5.2.2.1 s5.1.length) (ob (i_allWithin_1'pp n (gl 0 s5.1 s5.2.2.1.toNat) s5.2.2.2.1 s5.2.2.2.2) fun (r6 : Bool × Int × Int) => br r6.1 (some (s5.2.2.1, r6.2.1, r6.2.2)) (lt (w64 (s5.2.2.1 + 1)) fun (x7 : Int) => go4 (s5.1, s5.2.1, x7, r6.2.1, r6.2.2)))) (some ((-1), s5.2.2.2.1, s5.2.2.2.2))
noncomputable def slices_IndexFunc_Sint_int_'l_i_allWithin_1pp (n : Nat) (a1 : (List Int)) (a2 : Int) (a3 : Int) : Option (Int × Int × Int) :=
  fx (slices_IndexFunc_Sint_int_'l_i_allWithin_1pp_L1 n) n (a1, (a1.length : Int), 0, a2, a3)

/-- slices_ContainsFunc_Sint_int_'l_i_allWithin_1pp -/
noncomputable def slices_ContainsFunc_Sint_int_'l_i_allWithin_1pp (n : Nat) (a1 : (List Int)) (a2 : Int) (a3 : Int) : Option (Bool × Int × Int) :=
  ob (slices_IndexFunc_Sint_int_'l_i_allWithin_1pp n a1 a2 a3) fun (r4 : Int × Int × Int) => some ((decide (0 ≤ r4.1)), r4.2.1, r4.2.2)

/-- i_allWithin -/
noncomputable def i_allWithin (n : Nat) (a1 : (List Int)) (a2 : Int) (a3 : Int) : Option (Bool) :=
  ob (slices_ContainsFunc_Sint_int_'l_i_allWithin_1pp n a1 a2 a3) fun (r4 : Bool × Int × Int) => some (! r4.1)

/-- i_IsCard -/
noncomputable def i_IsCard (n : Nat) (a1 : (V4 Int)) : Option (Bool) :=
  ob (i_allWithin n (V4.els a1) 0 2) fun (r2 : Bool) => some r2

/-- s_l2Number -/
noncomputable def s_l2Number (n : Nat) (a1 : (V4 Int)) : Option (Int) :=
  lt (w64 (27 * a1.x0)) fun (x2 : Int) => lt (w64 (9 * a1.x1)) fun (x3 : Int) => lt (w64 (x2 + x3)) fun (x4 : Int) => lt (w64 (3 * a1.x2)) fun (x5 : Int) => lt (w64 (x4 + x5)) fun (x6 : Int) => lt (w64 (x6 + a1.x3)) fun (x7 : Int) => some x7

/-- s_l2Less -/
noncomputable def s_l2Less (n : Nat) (a1 : (V4 Int)) (a2 : (V4 Int)) : Option (Bool) :=
  ob (s_l2Number n a1) fun (r3 : Int) => ob (s_l2Number n a2) fun (r4 : Int) => some (decide (r3 < r4))

/-- s_l2Hand -/
noncomputable def s_l2Hand_L1 (n : Nat) (go2 : (List (V4 Int)) × Int → Option (Bool)) (s3 : (List (V4 Int)) × Int) : Option (Bool) :=
  ob (br (decide (s3.2 < (s3.1.length : Int))) (some (decide (s3.2 ≤ 27))) (some false)) fun (x4 : Bool) => br x4 (ckb (inb s3.2 s3.1.length) (ob (s_l2Card n (gl (⟨0, 0, 0, 0⟩ : (V4 Int)) s3.1 s3.2.toNat)) fun (r5 : Bool) => ob (br (! r5) (some true) (ob (br (decide (0 < s3.2)) (lt (w64 (s3.2 - 1)) fun (x6 : Int) => ckb (inb x6 s3.1.length) (ckb (inb s3.2 s3.1.length) (ob (s_l2Less n (gl (⟨0, 0, 0, 0⟩ : (V4 Int)) s3.1 x6.toNat) (gl (⟨0, 0, 0, 0⟩ : (V4 Int)) s3.1 s3.2.toNat)) fun (r7 : Bool) => some (! r7)))) (some false)) fun (x8 : Bool) => some x8)) fun (x9 : Bool) => br x9 (some false) (lt (w64 (s3.2 + 1)) fun (x10 : Int) => go2 (s3.1, x10)))) (some (decide ((s3.1.length : Int) ≤ 27)))
noncomputable def s_l2Hand (n : Nat) (a1 : (List (V4 Int))) : Option (Bool) :=
  fx (s_l2Hand_L1 n) n (a1, 0)

/-- i_number -/
noncomputable def i_number_L1 (n : Nat) (go2 : Int × (V4 Int) × Int → Option (Int)) (s3 : Int × (V4 Int) × Int) : Option (Int) :=
  br (decide (s3.2.2 < 4)) (ckb (inb s3.2.2 4) (lt (w64 (3 * s3.1)) fun (x4 : Int) => lt (w64 (x4 + (V4.get s3.2.1 s3.2.2.toNat))) fun (x5 : Int) => lt (w64 (s3.2.2 + 1)) fun (x6 : Int) => go2 (x5, s3.2.1, x6))) (some s3.1)
noncomputable def i_number (n : Nat) (a1 : (V4 Int)) : Option (Int) :=
  fx (i_number_L1 n) n (0, a1, 0)

/-- i_IsHand -/
noncomputable def i_IsHand_L1 (n : Nat) (go2 : (List (V4 Int)) × (List (V4 Int)) × Int × Int → Option (Bool)) (s3 : (List (V4 Int)) × (List (V4 Int)) × Int × Int) : Option (Bool) :=
  br (decide (s3.2.2.2 < s3.2.2.1)) (ckb (inb s3.2.2.2 s3.2.1.length) (ob (i_IsCard n (gl (⟨0, 0, 0, 0⟩ : (V4 Int)) s3.2.1 s3.2.2.2.toNat)) fun (r4 : Bool) => ob (br (! r4) (some true) (ob (br (decide (0 < s3.2.2.2)) (lt (w64 (s3.2.2.2 - 1)) fun (x5 : Int) => ckb (inb x5 s3.1.length) (ob (i_number n (gl (⟨0, 0, 0, 0⟩ : (V4 Int)) s3.1 x5.toNat)) fun (r6 : Int) => ob (i_number n (gl (⟨0, 0, 0, 0⟩ : (V4 Int)) s3.2.1 s3.2.2.2.toNat)) fun (r7 : Int) => some (decide (r7 ≤ r6)))) (some false)) fun (x8 : Bool) => some x8)) fun (x9 : Bool) => br x9 (some false) (lt (w64 (s3.2.2.2 + 1)) fun (x10 : Int) => go2 (s3.1, s3.2.1, s3.2.2.1, x10)))) (some (decide ((s3.1.length : Int) ≤ 27)))
noncomputable def i_IsHand (n : Nat) (a1 : (List (V4 Int))) : Option (Bool) :=
  fx (i_IsHand_L1 n) n (a1, a1, (a1.length : Int), 0)

/-- v_szLogRecord -/
noncomputable def v_szLogRecord (n : Nat) (a1 : (ByteArray × ByteArray)) (a2 : Int) : Option (Int) :=
  lt (w64 (a2 - (a1.1.size : Int))) fun (x3 : Int) => br (decide (x3 < 0)) (some (-1)) (lt (w64 (x3 - (a1.2.size : Int))) fun (x4 : Int) => br (decide (x4 < 0)) (some (-1)) (some x4))

/-- v_toLogRecord -/
noncomputable def v_toLogRecord (n : Nat) (a1 : (ByteArray × ByteArray)) : Option ((ByteArray × ByteArray)) :=
  lt (a1.1, (⟨#[]⟩ : ByteArray)) fun (x2 : (ByteArray × ByteArray)) => lt (x2.1, a1.2) fun (x3 : (ByteArray × ByteArray)) => some x3

/-- s_l12Bytes -/
noncomputable def s_l12Bytes_L1 (n : Nat) (go3 : ByteArray × Int × Int → Option (Bool)) (s4 : ByteArray × Int × Int) : Option (Bool) :=
  br (decide (s4.2.2 < (s4.1.size : Int))) (ckb (inb s4.2.2 s4.1.size) (lt (w64 (sb s4.1 s4.2.2.toNat)) fun (x5 : Int) => ob (s_l1In n x5 32 126) fun (r6 : Bool) => ob (br (! r6) (some true) (ckb (inb s4.2.2 s4.1.size) (some (decide ((sb s4.1 s4.2.2.toNat) = 35))))) fun (x7 : Bool) => br x7 (some false) (lt (w64 (s4.2.2 + 1)) fun (x8 : Int) => go3 (s4.1, s4.2.1, x8)))) (some (decide ((s4.1.size : Int) ≤ s4.2.1)))
noncomputable def s_l12Bytes (n : Nat) (a1 : ByteArray) (a2 : Int) : Option (Bool) :=
  fx (s_l12Bytes_L1 n) n (a1, a2, 0)

/-- s_l1Stands -/
noncomputable def s_l1Stands_L1 (n : Nat) (go3 : ByteArray × Int × Int → Option (Bool)) (s4 : ByteArray × Int × Int) : Option (Bool) :=
  br (decide (s4.2.2 < (s4.1.size : Int))) (ckb (inb s4.2.2 s4.1.size) (br (decide ((sb s4.1 s4.2.2.toNat) = s4.2.1)) (some true) (lt (w64 (s4.2.2 + 1)) fun (x5 : Int) => go3 (s4.1, s4.2.1, x5)))) (some false)
noncomputable def s_l1Stands (n : Nat) (a1 : ByteArray) (a2 : Int) : Option (Bool) :=
  fx (s_l1Stands_L1 n) n (a1, a2, 0)

/-- s_l12Record -/
noncomputable def s_l12Record (n : Nat) (a1 : (ByteArray × ByteArray)) : Option (Bool) :=
  ob (br (!eqd a1.1 (⟨#[]⟩ : ByteArray)) (ob (s_l12Bytes n a1.1 160) fun (r2 : Bool) => some r2) (some false)) fun (x3 : Bool) => ob (br x3 (ob (s_l1Stands n a1.1 64) fun (r4 : Bool) => some (! r4)) (some false)) fun (x5 : Bool) => ob (br x5 (ob (s_l12Bytes n a1.2 280) fun (r6 : Bool) => some r6) (some false)) fun (x7 : Bool) => some x7

/-- s_IsValidRecord -/
noncomputable def s_IsValidRecord (n : Nat) (a1 : (ByteArray × ByteArray)) : Option (Bool) :=
  ob (s_l12Record n a1) fun (r2 : Bool) => some r2

/-- i_isPlain -/
noncomputable def i_isPlain_L1 (n : Nat) (go3 : ByteArray × Int × Int × Int → Option (Bool)) (s4 : ByteArray × Int × Int × Int) : Option (Bool) :=
  br (decide (s4.2.2.2 < s4.2.2.1)) (ckb (inb s4.2.2.2 s4.1.size) (ob (br (decide ((sb s4.1 s4.2.2.2.toNat) < 32)) (some true) (ckb (inb s4.2.2.2 s4.1.size) (some (decide (126 < (sb s4.1 s4.2.2.2.toNat)))))) fun (x5 : Bool) => ob (br x5 (some true) (ckb (inb s4.2.2.2 s4.1.size) (some (decide ((sb s4.1 s4.2.2.2.toNat) = 35))))) fun (x6 : Bool) => br x6 (some false) (lt (w64 (s4.2.2.2 + 1)) fun (x7 : Int) => go3 (s4.1, s4.2.1, s4.2.2.1, x7)))) (some (decide ((s4.1.size : Int) ≤ s4.2.1)))
noncomputable def i_isPlain (n : Nat) (a1 : ByteArray) (a2 : Int) : Option (Bool) :=
  fx (i_isPlain_L1 n) n (a1, a2, (a1.size : Int), 0)

/-- internal_stringslite_IndexByte -/
noncomputable def internal_stringslite_IndexByte (n : Nat) (a1 : ByteArray) (a2 : Int) : Option (Int) :=
  ob (x_IndexByteString n a1 a2) fun (r3 : Int) => some r3

/-- internal_stringslite_Index_s -/
noncomputable def internal_stringslite_Index_s (n : Nat) (a1 : ByteArray) (a2 : ByteArray) : Option (Int) :=
  ob (br (decide ((a2.size : Int) = 0)) (some true) (some (eqd a2 a1))) fun (x3 : Bool) => br x3 (some 0) (br (decide ((a2.size : Int) = 1)) (ckb (inb 0 a2.size) (ob (internal_stringslite_IndexByte n a1 (sb a2 0)) fun (r4 : Int) => some r4)) (br (decide ((a1.size : Int) ≤ (a2.size : Int))) (some (-1)) (none)))

/-- strings_Index -/
noncomputable def strings_Index (n : Nat) (a1 : ByteArray) (a2 : ByteArray) : Option (Int) :=
  ob (internal_stringslite_Index_s n a1 a2) fun (r3 : Int) => some r3

/-- strings_Contains -/
noncomputable def strings_Contains (n : Nat) (a1 : ByteArray) (a2 : ByteArray) : Option (Bool) :=
  ob (strings_Index n a1 a2) fun (r3 : Int) => some (decide (0 ≤ r3))

/-- i_isCommand -/
noncomputable def i_isCommand (n : Nat) (a1 : ByteArray) : Option (Bool) :=
  ob (br (!eqd a1 (⟨#[]⟩ : ByteArray)) (ob (i_isPlain n a1 160) fun (r2 : Bool) => some r2) (some false)) fun (x3 : Bool) => ob (br x3 (ob (strings_Contains n a1 (⟨#[64]⟩ : ByteArray)) fun (r4 : Bool) => some (! r4)) (some false)) fun (x5 : Bool) => some x5

/-- i_IsValidRecord -/
noncomputable def i_IsValidRecord (n : Nat) (a1 : (ByteArray × ByteArray)) : Option (Bool) :=
  ob (i_isCommand n a1.1) fun (r2 : Bool) => ob (br r2 (ob (i_isPlain n a1.2 280) fun (r3 : Bool) => some r3) (some false)) fun (x4 : Bool) => some x4

/-- v_FnExactIsValidRecord -/
noncomputable def v_FnExactIsValidRecord (n : Nat) (a1 : (ByteArray × ByteArray)) : Option (Bool) :=
  ob (v_szLogRecord n a1 1048576) fun (r2 : Int) => br (decide (r2 < 0)) (some true) (ob (v_toLogRecord n a1) fun (r3 : (ByteArray × ByteArray)) => ob (s_IsValidRecord n r3) fun (r4 : Bool) => ob (v_toLogRecord n a1) fun (r5 : (ByteArray × ByteArray)) => ob (i_IsValidRecord n r5) fun (r6 : Bool) => br (! (r6 == r4)) (some false) (some true))

/-- s_l2Own -/
noncomputable def s_l2Own (n : Nat) (a1 : (List (V4 Int))) : Option ((List (V4 Int))) :=
  ckb (apok 32 (0 + a1.length)) (some a1)

/-- slices_Clone_SA4_A4_ -/
noncomputable def slices_Clone_SA4_A4_ (n : Nat) (a1 : (List (V4 Int))) : Option ((List (V4 Int))) :=
  amb a1.isEmpty fun (b2 : Bool) => br b2 (some ([] : List (V4 Int))) (ckb (apok 32 (0 + a1.length)) (some a1))

end Go.Pl
