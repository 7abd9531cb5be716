/- Printed by a program of the session: the program's functions as plain functions. -/
import Derived.Test.YtifcbamdncpahaaDoorZ0
import Derived.Lib.Bytealg
import Derived.Lib.ItoaNum
import Derived.Lib.Join
import Derived.Lib.AtoiAll
namespace Go.Pl
open Go Go.Tv Go.RowKit
set_option linter.unusedVariables false
def bls (a b : ByteArray) : Bool := Op.bytesLess a.toList b.toList
/-- s_l1In -/
noncomputable def s_l1In (n : Nat) (a1 : Int) (a2 : Int) (a3 : Int) : Option (Bool) :=
  ob (br (decide (a2 ≤ a1)) (some (decide (a1 ≤ a3))) (some false)) fun (x4 : Bool) => some x4

/-- i_within -/
noncomputable def i_within (n : Nat) (a1 : Int) (a2 : Int) (a3 : Int) : Option (Bool) :=
  ob (br (decide (a2 ≤ a1)) (some (decide (a1 ≤ a3))) (some false)) fun (x4 : Bool) => some x4

/-- v_vBig -/
noncomputable def v_vBig (n : Nat) (a1 : (List Int)) : Option (Bool) :=
  some (decide (65536 < (a1.length : Int)))

/-- s_Cur_next'p -/
noncomputable def s_Cur_next'p_J1 (n : Nat) (s2 : Int × ((List Int) × (Int × Int))) : Option (Int × ((List Int) × (Int × Int))) :=
  lt (w64 (s2.2.2.1 + 1)) fun (x3 : Int) => lt (s2.2.1, (x3, s2.2.2.2)) fun (x4 : ((List Int) × (Int × Int))) => lt (IntKind.wrap .u64 (x4.2.2 * 6364136223846793005)) fun (x5 : Int) => lt (IntKind.wrap .u64 s2.1) fun (x6 : Int) => lt (IntKind.wrap .u64 (x5 + x6)) fun (x7 : Int) => lt (IntKind.wrap .u64 (x7 + 462197)) fun (x8 : Int) => lt (x4.1, (x4.2.1, x8)) fun (x9 : ((List Int) × (Int × Int))) => br (decide (x9.2.1 ≤ (x9.1.length : Int))) (some (s2.1, x9)) (lt (shrI .u64 x9.2.2 40) fun (x10 : Int) => lt (bits .and .u64 x10 255) fun (x11 : Int) => lt (w64 x11) fun (x12 : Int) => some (x12, x9))
noncomputable def s_Cur_next'p (n : Nat) (a1 : ((List Int) × (Int × Int))) : Option (Int × ((List Int) × (Int × Int))) :=
  br (decide (a1.2.1 < (a1.1.length : Int))) (ckb (inb a1.2.1 a1.1.length) (lt (w64 (gl 0 a1.1 a1.2.1.toNat)) fun (x13 : Int) => s_Cur_next'p_J1 n (x13, a1))) (s_Cur_next'p_J1 n (0, a1))

/-- s_Cur_pick'p -/
noncomputable def s_Cur_pick'p (n : Nat) (a1 : Int) (a2 : ((List Int) × (Int × Int))) : Option (Int × ((List Int) × (Int × Int))) :=
  br (decide (a1 ≤ 1)) (some (0, a2)) (ob (s_Cur_next'p n a2) fun (r3 : Int × ((List Int) × (Int × Int))) => br (decide (200 < a1)) (lt (w64 (r3.1 * 256)) fun (x4 : Int) => ob (s_Cur_next'p n r3.2) fun (r5 : Int × ((List Int) × (Int × Int))) => lt (w64 (x4 + r5.1)) fun (x6 : Int) => ckb (!decide (a1 = 0)) (lt (Int.tmod x6 a1) fun (x7 : Int) => some (x7, r5.2))) (ckb (!decide (a1 = 0)) (lt (Int.tmod r3.1 a1) fun (x8 : Int) => some (x8, r3.2))))

/-- s_Cur_among'pl -/
noncomputable def s_Cur_among'pl (n : Nat) (a1 : (List Int)) (a2 : ((List Int) × (Int × Int))) : Option (Int × ((List Int) × (Int × Int))) :=
  ob (s_Cur_pick'p n (a1.length : Int) a2) fun (r3 : Int × ((List Int) × (Int × Int))) => ckb (inb r3.1 a1.length) (some ((gl 0 a1 r3.1.toNat), r3.2))

/-- s_Cur_one'p -/
noncomputable def s_Cur_one'p (n : Nat) (a1 : Int) (a2 : ((List Int) × (Int × Int))) : Option (Bool × ((List Int) × (Int × Int))) :=
  ob (s_Cur_pick'p n a1 a2) fun (r3 : Int × ((List Int) × (Int × Int))) => some ((decide (r3.1 = 0)), r3.2)

/-- x_IndexByteString -/
noncomputable def x_IndexByteString (n : Nat) (a1 : ByteArray) (a2 : Int) : Option Int := some (Lib.indexByte a1.data.toList a2.toNat.toUInt8)

/-- s_l1Num -/

noncomputable def s_l1Num_R (n : Nat) (go0 : Int → Option (ByteArray)) (x : Int) : Option (ByteArray) :=
  (fun (a1 : Int) => br (decide (a1 < 0)) (br (decide ((-10) < a1)) (lt (w64 (0 - a1)) fun (x2 : Int) => ob (go0 x2) fun (r3 : ByteArray) => ckb (stok (1 + r3.size)) (lt ((⟨#[45]⟩ : ByteArray) ++ r3) fun (x4 : ByteArray) => some x4)) (lt (w64 (Int.tdiv a1 10)) fun (x5 : Int) => ob (go0 x5) fun (r6 : ByteArray) => lt (Int.tmod a1 10) fun (x7 : Int) => lt (w64 (0 - x7)) fun (x8 : Int) => ob (go0 x8) fun (r9 : ByteArray) => ckb (stok (r6.size + r9.size)) (lt (r6 ++ r9) fun (x10 : ByteArray) => some x10))) (br (decide (a1 < 10)) (lt (w64 (a1 + 1)) fun (x11 : Int) => ckb (slb a1 x11 10) (some (ssub (⟨#[48, 49, 50, 51, 52, 53, 54, 55, 56, 57]⟩ : ByteArray) a1.toNat x11.toNat))) (lt (w64 (Int.tdiv a1 10)) fun (x12 : Int) => ob (go0 x12) fun (r13 : ByteArray) => lt (Int.tmod a1 10) fun (x14 : Int) => lt (Int.tmod a1 10) fun (x15 : Int) => lt (w64 (x15 + 1)) fun (x16 : Int) => ckb (slb x14 x16 10) (ckb (stok (r13.size + (ssub (⟨#[48, 49, 50, 51, 52, 53, 54, 55, 56, 57]⟩ : ByteArray) x14.toNat x16.toNat).size)) (lt (r13 ++ (ssub (⟨#[48, 49, 50, 51, 52, 53, 54, 55, 56, 57]⟩ : ByteArray) x14.toNat x16.toNat)) fun (x17 : ByteArray) => some x17))))) x
noncomputable def s_l1Num (n : Nat) (a1 : Int) : Option (ByteArray) := fx (s_l1Num_R n) n a1

/-- s_l1Stands -/
noncomputable def s_l1Stands_L1 (n : Nat) (go3 : ByteArray × Int × Int → Option (Bool)) (s4 : ByteArray × Int × Int) : Option (Bool) :=
  br (decide (s4.2.2 < (s4.1.size : Int))) (ckb (inb s4.2.2 s4.1.size) (br (decide ((sb s4.1 s4.2.2.toNat) = s4.2.1)) (some true) (lt (w64 (s4.2.2 + 1)) fun (x5 : Int) => go3 (s4.1, s4.2.1, x5)))) (some false)
noncomputable def s_l1Stands (n : Nat) (a1 : ByteArray) (a2 : Int) : Option (Bool) :=
  fx (s_l1Stands_L1 n) n (a1, a2, 0)

/-- s_l1Sum -/
noncomputable def s_l1Sum_L1 (n : Nat) (go2 : ByteArray × Int × Int → Option (Int)) (s3 : ByteArray × Int × Int) : Option (Int) :=
  br (decide (s3.2.2 < (s3.1.size : Int))) (lt (w64 (41 * s3.2.1)) fun (x4 : Int) => ckb (inb s3.2.2 s3.1.size) (lt (w64 (sb s3.1 s3.2.2.toNat)) fun (x5 : Int) => lt (w64 (x4 + x5)) fun (x6 : Int) => lt (w64 (x6 + 1)) fun (x7 : Int) => lt (Int.tmod x7 999979) fun (x8 : Int) => lt (w64 (s3.2.2 + 1)) fun (x9 : Int) => go2 (s3.1, x8, x9))) (some s3.2.1)
noncomputable def s_l1Sum (n : Nat) (a1 : ByteArray) : Option (Int) :=
  fx (s_l1Sum_L1 n) n (a1, 7, 0)

/-- s_l1Seal -/
noncomputable def s_l1Seal (n : Nat) (a1 : ByteArray) : Option (ByteArray) :=
  ckb (stok (a1.size + 1)) (lt (a1 ++ (⟨#[35]⟩ : ByteArray)) fun (x2 : ByteArray) => ob (s_l1Sum n a1) fun (r3 : Int) => ob (s_l1Num n r3) fun (r4 : ByteArray) => ckb (stok (x2.size + r4.size)) (lt (x2 ++ r4) fun (x5 : ByteArray) => some x5))

/-- internal_stringslite_IndexByte -/
noncomputable def internal_stringslite_IndexByte (n : Nat) (a1 : ByteArray) (a2 : Int) : Option (Int) :=
  ob (x_IndexByteString n a1 a2) fun (r3 : Int) => some r3

/-- internal_stringslite_Index_s -/
noncomputable def internal_stringslite_Index_s (n : Nat) (a1 : ByteArray) (a2 : ByteArray) : Option (Int) :=
  ob (br (decide ((a2.size : Int) = 0)) (some true) (some (eqd a2 a1))) fun (x3 : Bool) => br x3 (some 0) (br (decide ((a2.size : Int) = 1)) (ckb (inb 0 a2.size) (ob (internal_stringslite_IndexByte n a1 (sb a2 0)) fun (r4 : Int) => some r4)) (br (decide ((a1.size : Int) ≤ (a2.size : Int))) (some (-1)) (none)))

/-- strings_Index -/
noncomputable def strings_Index (n : Nat) (a1 : ByteArray) (a2 : ByteArray) : Option (Int) :=
  ob (internal_stringslite_Index_s n a1 a2) fun (r3 : Int) => some r3

/-- strings_Contains -/
noncomputable def strings_Contains (n : Nat) (a1 : ByteArray) (a2 : ByteArray) : Option (Bool) :=
  ob (strings_Index n a1 a2) fun (r3 : Int) => some (decide (0 ≤ r3))

/-- s_Cur_of'pl -/
noncomputable def s_Cur_of'pl (n : Nat) (a1 : (List ByteArray)) (a2 : ((List Int) × (Int × Int))) : Option (ByteArray × ((List Int) × (Int × Int))) :=
  ob (s_Cur_pick'p n (a1.length : Int) a2) fun (r3 : Int × ((List Int) × (Int × Int))) => ckb (inb r3.1 a1.length) (some ((gl (⟨#[]⟩ : ByteArray) a1 r3.1.toNat), r3.2))

/-- strconv_Itoa -/
noncomputable def strconv_Itoa (n : Nat) (a1 : Int) : Option ByteArray := if decide (-9223372036854775808 ≤ a1) && decide (a1 ≤ 9223372036854775807) then some ⟨(Lib.itoa a1).toArray⟩ else none

/-- i_checksum -/
noncomputable def i_checksum_L1 (n : Nat) (go2 : ByteArray × Int × Int × Int → Option (Int)) (s3 : ByteArray × Int × Int × Int) : Option (Int) :=
  br (decide (s3.2.2.2 < s3.2.2.1)) (lt (w64 (41 * s3.2.1)) fun (x4 : Int) => ckb (inb s3.2.2.2 s3.1.size) (lt (w64 (sb s3.1 s3.2.2.2.toNat)) fun (x5 : Int) => lt (w64 (x4 + x5)) fun (x6 : Int) => lt (w64 (x6 + 1)) fun (x7 : Int) => lt (Int.tmod x7 999979) fun (x8 : Int) => lt (w64 (s3.2.2.2 + 1)) fun (x9 : Int) => go2 (s3.1, x8, s3.2.2.1, x9))) (some s3.2.1)
noncomputable def i_checksum (n : Nat) (a1 : ByteArray) : Option (Int) :=
  fx (i_checksum_L1 n) n (a1, 7, (a1.size : Int), 0)

/-- i_AppendChecksum -/
noncomputable def i_AppendChecksum (n : Nat) (a1 : ByteArray) : Option (ByteArray × Bool) :=
  ob (br (decide (4000 < (a1.size : Int))) (some true) (ob (strings_Contains n a1 (⟨#[35]⟩ : ByteArray)) fun (r2 : Bool) => some r2)) fun (x3 : Bool) => br x3 (some ((⟨#[]⟩ : ByteArray), false)) (ckb (stok (a1.size + 1)) (lt (a1 ++ (⟨#[35]⟩ : ByteArray)) fun (x4 : ByteArray) => ob (i_checksum n a1) fun (r5 : Int) => ob (strconv_Itoa n r5) fun (r6 : ByteArray) => ckb (stok (x4.size + r6.size)) (lt (x4 ++ r6) fun (x7 : ByteArray) => br (decide (4000 < (x7.size : Int))) (some ((⟨#[]⟩ : ByteArray), false)) (some (x7, true)))))

/-- s_Cur_any1'p -/
noncomputable def s_Cur_any1'p (n : Nat) (a1 : ((List Int) × (Int × Int))) : Option (ByteArray × ((List Int) × (Int × Int))) :=
  ob (s_Cur_of'pl n [(⟨#[]⟩ : ByteArray), (⟨#[97]⟩ : ByteArray), (⟨#[97, 44, 98]⟩ : ByteArray), (⟨#[115, 111, 109, 101, 32, 119, 111, 114, 100, 115]⟩ : ByteArray), (⟨#[120, 35, 121]⟩ : ByteArray), (⟨#[45, 49, 50]⟩ : ByteArray), (⟨#[0, 255]⟩ : ByteArray), (⟨#[44, 44]⟩ : ByteArray), (⟨#[48]⟩ : ByteArray)] a1) fun (r2 : ByteArray × ((List Int) × (Int × Int))) => some (r2.1, r2.2)

/-- s_DrawFormatInt -/
noncomputable def s_DrawFormatInt (n : Nat) (a1 : (List Int)) : Option (Int) :=
  lt (a1, (0, 0)) fun (x2 : ((List Int) × (Int × Int))) => ob (s_Cur_pick'p n 1000 x2) fun (r3 : Int × ((List Int) × (Int × Int))) => lt (w64 (r3.1 - 500)) fun (x4 : Int) => ob (s_Cur_among'pl n [0, 1, (-1), 10, 999999, (-999999), 1000000, (-1000000), x4] r3.2) fun (r5 : Int × ((List Int) × (Int × Int))) => some r5.1

/-- i_FormatInt -/
noncomputable def i_FormatInt (n : Nat) (a1 : Int) : Option (ByteArray × Bool) :=
  ob (i_within n a1 (-999999) 999999) fun (r2 : Bool) => br (! r2) (some ((⟨#[]⟩ : ByteArray), false)) (ob (strconv_Itoa n a1) fun (r3 : ByteArray) => some (r3, true))

/-- s_FormatInt -/
noncomputable def s_FormatInt (n : Nat) (a1 : Int) : Option (ByteArray × Bool) :=
  ob (s_l1In n a1 (-999999) 999999) fun (r2 : Bool) => br (! r2) (some ((⟨#[]⟩ : ByteArray), false)) (ob (s_l1Num n a1) fun (r3 : ByteArray) => some (r3, true))

/-- s_DrawParseInt -/
noncomputable def s_DrawParseInt (n : Nat) (a1 : (List Int)) : Option (ByteArray) :=
  lt (a1, (0, 0)) fun (x2 : ((List Int) × (Int × Int))) => ob (s_Cur_one'p n 2 x2) fun (r3 : Bool × ((List Int) × (Int × Int))) => br r3.1 (ob (s_Cur_of'pl n [(⟨#[]⟩ : ByteArray), (⟨#[45]⟩ : ByteArray), (⟨#[45, 48]⟩ : ByteArray), (⟨#[48, 48]⟩ : ByteArray), (⟨#[48, 49]⟩ : ByteArray), (⟨#[45, 45, 49]⟩ : ByteArray), (⟨#[49, 120]⟩ : ByteArray), (⟨#[57, 57, 57, 57, 57, 57]⟩ : ByteArray), (⟨#[49, 48, 48, 48, 48, 48, 48]⟩ : ByteArray), (⟨#[45, 57, 57, 57, 57, 57, 57]⟩ : ByteArray), (⟨#[49, 56, 52, 52, 54, 55, 52, 52, 48, 55, 51, 55, 48, 57, 53, 53, 49, 54, 49, 55]⟩ : ByteArray)] r3.2) fun (r4 : ByteArray × ((List Int) × (Int × Int))) => some r4.1) (ob (s_Cur_pick'p n 2000 r3.2) fun (r5 : Int × ((List Int) × (Int × Int))) => lt (w64 (r5.1 - 1000)) fun (x6 : Int) => ob (s_l1Num n x6) fun (r7 : ByteArray) => some r7)

/-- internal_stringslite_Cut -/
noncomputable def internal_stringslite_Cut (n : Nat) (a1 : ByteArray) (a2 : ByteArray) : Option (ByteArray × ByteArray × Bool) :=
  ob (internal_stringslite_Index_s n a1 a2) fun (r3 : Int) => br (decide (0 ≤ r3)) (ckb (slb 0 r3 a1.size) (lt (w64 (r3 + (a2.size : Int))) fun (x4 : Int) => ckb (slb x4 (a1.size : Int) a1.size) (some ((ssub a1 0 r3.toNat), (ssub a1 x4.toNat a1.size), true)))) (some (a1, (⟨#[]⟩ : ByteArray), false))

/-- strings_Cut -/
noncomputable def strings_Cut (n : Nat) (a1 : ByteArray) (a2 : ByteArray) : Option (ByteArray × ByteArray × Bool) :=
  ob (internal_stringslite_Cut n a1 a2) fun (r3 : ByteArray × ByteArray × Bool) => some (r3.1, r3.2.1, r3.2.2)

/-- i_ParseInt -/
noncomputable def i_ParseInt (n : Nat) (a1 : ByteArray) : Option (Int × Bool) := if decide (a1.size ≤ 281474976710656) then some (match Lib.atoiAll a1.data.toList with | .ok v => if (decide (-999999 ≤ v) && decide (v ≤ 999999)) && decide (Lib.itoa v = a1.data.toList) then (v, true) else (0, false) | _ => (0, false)) else none

/-- s_l1Read -/
noncomputable def s_l1Read_J1 (n : Nat) (s12 : ByteArray × Int) : Option (Int × Bool) :=
  ob (s_l1Num n s12.2) fun (r13 : ByteArray) => br (!eqd r13 s12.1) (some (0, false)) (some (s12.2, true))
noncomputable def s_l1Read_L2 (n : Nat) (go4 : ByteArray × ByteArray × Int × Int → Option (Int × Bool)) (s5 : ByteArray × ByteArray × Int × Int) : Option (Int × Bool) :=
  br (decide (s5.2.2.2 < (s5.2.1.size : Int))) (ckb (inb s5.2.2.2 s5.2.1.size) (ob (br (decide ((sb s5.2.1 s5.2.2.2.toNat) < 48)) (some true) (ckb (inb s5.2.2.2 s5.2.1.size) (some (decide (57 < (sb s5.2.1 s5.2.2.2.toNat)))))) fun (x6 : Bool) => br x6 (some (0, false)) (lt (w64 (10 * s5.2.2.1)) fun (x7 : Int) => ckb (inb s5.2.2.2 s5.2.1.size) (lt (IntKind.wrap .u8 ((sb s5.2.1 s5.2.2.2.toNat) - 48)) fun (x8 : Int) => lt (w64 x8) fun (x9 : Int) => lt (w64 (x7 + x9)) fun (x10 : Int) => lt (w64 (s5.2.2.2 + 1)) fun (x11 : Int) => go4 (s5.1, s5.2.1, x10, x11))))) (br (decide ((s5.2.1.size : Int) < (s5.1.size : Int))) (lt (w64 (0 - s5.2.2.1)) fun (x14 : Int) => s_l1Read_J1 n (s5.1, x14)) (s_l1Read_J1 n (s5.1, s5.2.2.1)))
noncomputable def s_l1Read_J3 (n : Nat) (s2 : ByteArray × ByteArray) : Option (Int × Bool) :=
  ob (s_l1In n (s2.2.size : Int) 1 6) fun (r3 : Bool) => br (! r3) (some (0, false)) (fx (s_l1Read_L2 n) n (s2.1, s2.2, 0, 0))
noncomputable def s_l1Read (n : Nat) (a1 : ByteArray) : Option (Int × Bool) :=
  ob (br (decide (1 < (a1.size : Int))) (ckb (inb 0 a1.size) (some (decide ((sb a1 0) = 45)))) (some false)) fun (x15 : Bool) => br x15 (ckb (slb 1 (a1.size : Int) a1.size) (s_l1Read_J3 n (a1, (ssub a1 1 a1.size)))) (s_l1Read_J3 n (a1, a1))

/-- s_ParseInt -/
noncomputable def s_ParseInt (n : Nat) (a1 : ByteArray) : Option (Int × Bool) :=
  ob (s_l1Read n a1) fun (r2 : Int × Bool) => some (r2.1, r2.2)

/-- s_DrawAppendChecksum -/
noncomputable def s_DrawAppendChecksum (n : Nat) (a1 : (List Int)) : Option (ByteArray) :=
  lt (a1, (0, 0)) fun (x2 : ((List Int) × (Int × Int))) => ob (s_Cur_one'p n 20 x2) fun (r3 : Bool × ((List Int) × (Int × Int))) => br r3.1 (ob (s_Cur_pick'p n 10 r3.2) fun (r4 : Int × ((List Int) × (Int × Int))) => lt (w64 (3990 + r4.1)) fun (x5 : Int) => ckb (mkok 1 x5 x5) (lt (strOfNums (List.replicate x5.toNat 0)) fun (x6 : ByteArray) => some x6)) (ob (s_Cur_any1'p n r3.2) fun (r7 : ByteArray × ((List Int) × (Int × Int))) => some r7.1)

/-- s_AppendChecksum -/
noncomputable def s_AppendChecksum (n : Nat) (a1 : ByteArray) : Option (ByteArray × Bool) :=
  ob (br (decide (4000 < (a1.size : Int))) (some true) (ob (s_l1Stands n a1 35) fun (r2 : Bool) => some r2)) fun (x3 : Bool) => ob (br x3 (some true) (ob (s_l1Seal n a1) fun (r4 : ByteArray) => some (decide (4000 < (r4.size : Int))))) fun (x5 : Bool) => br x5 (some ((⟨#[]⟩ : ByteArray), false)) (ob (s_l1Seal n a1) fun (r6 : ByteArray) => some (r6, true))

/-- i_VerifyChecksum -/
noncomputable def i_VerifyChecksum (n : Nat) (a1 : ByteArray) : Option (ByteArray × Bool) :=
  ob (strings_Cut n a1 (⟨#[35]⟩ : ByteArray)) fun (r2 : ByteArray × ByteArray × Bool) => ob (i_AppendChecksum n r2.1) fun (r3 : ByteArray × Bool) => ob (br (! r3.2) (some true) (some (!eqd r3.1 a1))) fun (x4 : Bool) => br x4 (some ((⟨#[]⟩ : ByteArray), false)) (some (r2.1, true))

/-- v_vAt -/
noncomputable def v_vAt (n : Nat) (a1 : (List Int)) (a2 : Int) : Option (Int) :=
  br (decide (a2 < (a1.length : Int))) (ckb (inb a2 a1.length) (lt (w64 (gl 0 a1 a2.toNat)) fun (x3 : Int) => some x3)) (lt (w64 (a2 * 7)) fun (x4 : Int) => lt (w64 (x4 + (a1.length : Int))) fun (x5 : Int) => lt (Int.tmod x5 256) fun (x6 : Int) => some x6)

/-- v_FnStrings -/
noncomputable def v_FnStrings (n : Nat) (a1 : (List Int)) : Option (Bool) :=
  ob (v_vBig n a1) fun (r2 : Bool) => br r2 (some true) (ob (s_DrawFormatInt n a1) fun (r3 : Int) => ob (i_FormatInt n r3) fun (r4 : ByteArray × Bool) => ob (s_FormatInt n r3) fun (r5 : ByteArray × Bool) => ob (s_DrawParseInt n a1) fun (r6 : ByteArray) => ob (i_ParseInt n r6) fun (r7 : Int × Bool) => ob (s_ParseInt n r6) fun (r8 : Int × Bool) => ob (s_DrawAppendChecksum n a1) fun (r9 : ByteArray) => ob (i_AppendChecksum n r9) fun (r10 : ByteArray × Bool) => ob (s_AppendChecksum n r9) fun (r11 : ByteArray × Bool) => ob (br (!eqd r4.1 r5.1) (some true) (some (! (r4.2 == r5.2)))) fun (x12 : Bool) => ob (br x12 (some true) (some (!decide (r7.1 = r8.1)))) fun (x13 : Bool) => ob (br x13 (some true) (some (! (r7.2 == r8.2)))) fun (x14 : Bool) => ob (br x14 (some true) (some (!eqd r10.1 r11.1))) fun (x15 : Bool) => ob (br x15 (some true) (some (! (r10.2 == r11.2)))) fun (x16 : Bool) => br x16 (some false) (ob (i_ParseInt n r4.1) fun (r17 : Int × Bool) => ob (br r4.2 (ob (br (! r17.2) (some true) (some (!decide (r17.1 = r3)))) fun (x18 : Bool) => some x18) (some false)) fun (x19 : Bool) => br x19 (some false) (br (! r10.2) (some (eqd r10.1 (⟨#[]⟩ : ByteArray))) (ob (i_VerifyChecksum n r10.1) fun (r20 : ByteArray × Bool) => ckb (stok r10.1.size) (ob (v_vAt n a1 9) fun (r21 : Int) => ckb (!decide (((sbytes r10.1).length : Int) = 0)) (lt (Int.tmod r21 ((sbytes r10.1).length : Int)) fun (x22 : Int) => ckb (inb x22 (sbytes r10.1).length) (ob (v_vAt n a1 10) fun (r23 : Int) => lt (Int.tmod r23 255) fun (x24 : Int) => lt (w64 (1 + x24)) fun (x25 : Int) => lt (IntKind.wrap .u8 x25) fun (x26 : Int) => lt (bits .xor .u8 (gl 0 (sbytes r10.1) x22.toNat) x26) fun (x27 : Int) => ckb (inb x22 (sbytes r10.1).length) (lt (List.set (sbytes r10.1) x22.toNat x27) fun (x28 : (List Int)) => lt (strOfNums x28) fun (x29 : ByteArray) => ob (i_VerifyChecksum n x29) fun (r30 : ByteArray × Bool) => ob (br r20.2 (some (eqd r20.1 r9)) (some false)) fun (x31 : Bool) => ob (br x31 (some (! r30.2)) (some false)) fun (x32 : Bool) => some x32))))))))

end Go.Pl
