/- Printed by a program of the session: the program's functions as plain functions. -/
import Derived.Test.YtkhfihbaopbblaaDoorZ0
import Derived.Lib.Bytealg
import Derived.Lib.ItoaNum
import Derived.Lib.Join
namespace Go.Pl
open Go Go.Tv Go.RowKit
set_option linter.unusedVariables false
def bls (a b : ByteArray) : Bool := Op.bytesLess a.toList b.toList
/-- s_l1In -/
noncomputable def s_l1In (n : Nat) (a1 : Int) (a2 : Int) (a3 : Int) : Option (Bool) :=
  ob (br (decide (a2 ≤ a1)) (some (decide (a1 ≤ a3))) (some false)) fun (x4 : Bool) => some x4

/-- i_within -/
noncomputable def i_within (n : Nat) (a1 : Int) (a2 : Int) (a3 : Int) : Option (Bool) :=
  ob (br (decide (a2 ≤ a1)) (some (decide (a1 ≤ a3))) (some false)) fun (x4 : Bool) => some x4

/-- v_vBig -/
noncomputable def v_vBig (n : Nat) (a1 : (List Int)) : Option (Bool) :=
  some (decide (65536 < (a1.length : Int)))

/-- s_Cur_next'p -/
noncomputable def s_Cur_next'p_J1 (n : Nat) (s2 : Int × ((List Int) × (Int × Int))) : Option (Int × ((List Int) × (Int × Int))) :=
  lt (w64 (s2.2.2.1 + 1)) fun (x3 : Int) => lt (s2.2.1, (x3, s2.2.2.2)) fun (x4 : ((List Int) × (Int × Int))) => lt (IntKind.wrap .u64 (x4.2.2 * 6364136223846793005)) fun (x5 : Int) => lt (IntKind.wrap .u64 s2.1) fun (x6 : Int) => lt (IntKind.wrap .u64 (x5 + x6)) fun (x7 : Int) => lt (IntKind.wrap .u64 (x7 + 462197)) fun (x8 : Int) => lt (x4.1, (x4.2.1, x8)) fun (x9 : ((List Int) × (Int × Int))) => br (decide (x9.2.1 ≤ (x9.1.length : Int))) (some (s2.1, x9)) (lt (shrI .u64 x9.2.2 40) fun (x10 : Int) => lt (bits .and .u64 x10 255) fun (x11 : Int) => lt (w64 x11) fun (x12 : Int) => some (x12, x9))
noncomputable def s_Cur_next'p (n : Nat) (a1 : ((List Int) × (Int × Int))) : Option (Int × ((List Int) × (Int × Int))) :=
  br (decide (a1.2.1 < (a1.1.length : Int))) (ckb (inb a1.2.1 a1.1.length) (lt (w64 (gl 0 a1.1 a1.2.1.toNat)) fun (x13 : Int) => s_Cur_next'p_J1 n (x13, a1))) (s_Cur_next'p_J1 n (0, a1))

/-- s_Cur_pick'p -/
noncomputable def s_Cur_pick'p (n : Nat) (a1 : Int) (a2 : ((List Int) × (Int × Int))) : Option (Int × ((List Int) × (Int × Int))) :=
  br (decide (a1 ≤ 1)) (some (0, a2)) (ob (s_Cur_next'p n a2) fun (r3 : Int × ((List Int) × (Int × Int))) => br (decide (200 < a1)) (lt (w64 (r3.1 * 256)) fun (x4 : Int) => ob (s_Cur_next'p n r3.2) fun (r5 : Int × ((List Int) × (Int × Int))) => lt (w64 (x4 + r5.1)) fun (x6 : Int) => ckb (!decide (a1 = 0)) (lt (Int.tmod x6 a1) fun (x7 : Int) => some (x7, r5.2))) (ckb (!decide (a1 = 0)) (lt (Int.tmod r3.1 a1) fun (x8 : Int) => some (x8, r3.2))))

/-- v_vCut -/
noncomputable def v_vCut_J1 (n : Nat) (s3 : (List Int) × Int) : Option ((List Int)) :=
  ckb (slb s3.2 (s3.1.length : Int) s3.1.length) (ckb (apok 1 (0 + (sub s3.1 s3.2.toNat s3.1.length).length)) (lt (IntKind.wrap .u8 s3.2) fun (x4 : Int) => ckb (apok 1 ((sub s3.1 s3.2.toNat s3.1.length).length + 1)) (some ((sub s3.1 s3.2.toNat s3.1.length) ++ [x4]))))
noncomputable def v_vCut (n : Nat) (a1 : (List Int)) (a2 : Int) : Option ((List Int)) :=
  br (decide ((a1.length : Int) < a2)) (v_vCut_J1 n (a1, (a1.length : Int))) (v_vCut_J1 n (a1, a2))

/-- s_Cur_one'p -/
noncomputable def s_Cur_one'p (n : Nat) (a1 : Int) (a2 : ((List Int) × (Int × Int))) : Option (Bool × ((List Int) × (Int × Int))) :=
  ob (s_Cur_pick'p n a1 a2) fun (r3 : Int × ((List Int) × (Int × Int))) => some ((decide (r3.1 = 0)), r3.2)

/-- slices_Index_Sint_int_ -/
noncomputable def slices_Index_Sint_int__L1 (n : Nat) (go3 : (List Int) × Int × Int × Int → Option (Int)) (s4 : (List Int) × Int × Int × Int) : Option (Int) :=
  br (decide (s4.2.2.2 < s4.2.2.1)) (ckb (inb s4.2.2.2 s4.1.length) (br (decide (s4.2.1 = (gl 0 s4.1 s4.2.2.2.toNat))) (some s4.2.2.2) (lt (w64 (s4.2.2.2 + 1)) fun (x5 : Int) => go3 (s4.1, s4.2.1, s4.2.2.1, x5)))) (some (-1))
noncomputable def slices_Index_Sint_int_ (n : Nat) (a1 : (List Int)) (a2 : Int) : Option (Int) :=
  fx (slices_Index_Sint_int__L1 n) n (a1, a2, (a1.length : Int), 0)

/-- slices_Contains_Sint_int_ -/
noncomputable def slices_Contains_Sint_int_ (n : Nat) (a1 : (List Int)) (a2 : Int) : Option (Bool) :=
  ob (slices_Index_Sint_int_ n a1 a2) fun (r3 : Int) => some (decide (0 ≤ r3))

/-- x_IndexByteString -/
noncomputable def x_IndexByteString (n : Nat) (a1 : ByteArray) (a2 : Int) : Option Int := some (Lib.indexByte a1.data.toList a2.toNat.toUInt8)

/-- s_l1Split -/
noncomputable def s_l1Split_L1 (n : Nat) (go3 : ByteArray × Int × Int × Int × (List ByteArray) → Option ((List ByteArray))) (s4 : ByteArray × Int × Int × Int × (List ByteArray)) : Option ((List ByteArray)) :=
  br (decide (s4.2.2.2.1 < (s4.1.size : Int))) (ckb (inb s4.2.2.2.1 s4.1.size) (br (decide ((sb s4.1 s4.2.2.2.1.toNat) = s4.2.1)) (ckb (slb s4.2.2.1 s4.2.2.2.1 s4.1.size) (ckb (apok 16 (s4.2.2.2.2.length + 1)) (lt (w64 (s4.2.2.2.1 + 1)) fun (x5 : Int) => lt (w64 (s4.2.2.2.1 + 1)) fun (x6 : Int) => go3 (s4.1, s4.2.1, x5, x6, (s4.2.2.2.2 ++ [(ssub s4.1 s4.2.2.1.toNat s4.2.2.2.1.toNat)]))))) (lt (w64 (s4.2.2.2.1 + 1)) fun (x7 : Int) => go3 (s4.1, s4.2.1, s4.2.2.1, x7, s4.2.2.2.2)))) (ckb (slb s4.2.2.1 (s4.1.size : Int) s4.1.size) (ckb (apok 16 (s4.2.2.2.2.length + 1)) (some (s4.2.2.2.2 ++ [(ssub s4.1 s4.2.2.1.toNat s4.1.size)]))))
noncomputable def s_l1Split (n : Nat) (a1 : ByteArray) (a2 : Int) : Option ((List ByteArray)) :=
  fx (s_l1Split_L1 n) n (a1, a2, 0, 0, ([] : List ByteArray))

/-- s_l1Num -/

noncomputable def s_l1Num_R (n : Nat) (go0 : Int → Option (ByteArray)) (x : Int) : Option (ByteArray) :=
  (fun (a1 : Int) => br (decide (a1 < 0)) (br (decide ((-10) < a1)) (lt (w64 (0 - a1)) fun (x2 : Int) => ob (go0 x2) fun (r3 : ByteArray) => ckb (stok (1 + r3.size)) (lt ((⟨#[45]⟩ : ByteArray) ++ r3) fun (x4 : ByteArray) => some x4)) (lt (w64 (Int.tdiv a1 10)) fun (x5 : Int) => ob (go0 x5) fun (r6 : ByteArray) => lt (Int.tmod a1 10) fun (x7 : Int) => lt (w64 (0 - x7)) fun (x8 : Int) => ob (go0 x8) fun (r9 : ByteArray) => ckb (stok (r6.size + r9.size)) (lt (r6 ++ r9) fun (x10 : ByteArray) => some x10))) (br (decide (a1 < 10)) (lt (w64 (a1 + 1)) fun (x11 : Int) => ckb (slb a1 x11 10) (some (ssub (⟨#[48, 49, 50, 51, 52, 53, 54, 55, 56, 57]⟩ : ByteArray) a1.toNat x11.toNat))) (lt (w64 (Int.tdiv a1 10)) fun (x12 : Int) => ob (go0 x12) fun (r13 : ByteArray) => lt (Int.tmod a1 10) fun (x14 : Int) => lt (Int.tmod a1 10) fun (x15 : Int) => lt (w64 (x15 + 1)) fun (x16 : Int) => ckb (slb x14 x16 10) (ckb (stok (r13.size + (ssub (⟨#[48, 49, 50, 51, 52, 53, 54, 55, 56, 57]⟩ : ByteArray) x14.toNat x16.toNat).size)) (lt (r13 ++ (ssub (⟨#[48, 49, 50, 51, 52, 53, 54, 55, 56, 57]⟩ : ByteArray) x14.toNat x16.toNat)) fun (x17 : ByteArray) => some x17))))) x
noncomputable def s_l1Num (n : Nat) (a1 : Int) : Option (ByteArray) := fx (s_l1Num_R n) n a1

/-- s_l12Bytes -/
noncomputable def s_l12Bytes_L1 (n : Nat) (go3 : ByteArray × Int × Int → Option (Bool)) (s4 : ByteArray × Int × Int) : Option (Bool) :=
  br (decide (s4.2.2 < (s4.1.size : Int))) (ckb (inb s4.2.2 s4.1.size) (lt (w64 (sb s4.1 s4.2.2.toNat)) fun (x5 : Int) => ob (s_l1In n x5 32 126) fun (r6 : Bool) => ob (br (! r6) (some true) (ckb (inb s4.2.2 s4.1.size) (some (decide ((sb s4.1 s4.2.2.toNat) = 35))))) fun (x7 : Bool) => br x7 (some false) (lt (w64 (s4.2.2 + 1)) fun (x8 : Int) => go3 (s4.1, s4.2.1, x8)))) (some (decide ((s4.1.size : Int) ≤ s4.2.1)))
noncomputable def s_l12Bytes (n : Nat) (a1 : ByteArray) (a2 : Int) : Option (Bool) :=
  fx (s_l12Bytes_L1 n) n (a1, a2, 0)

/-- s_l1Stands -/
noncomputable def s_l1Stands_L1 (n : Nat) (go3 : ByteArray × Int × Int → Option (Bool)) (s4 : ByteArray × Int × Int) : Option (Bool) :=
  br (decide (s4.2.2 < (s4.1.size : Int))) (ckb (inb s4.2.2 s4.1.size) (br (decide ((sb s4.1 s4.2.2.toNat) = s4.2.1)) (some true) (lt (w64 (s4.2.2 + 1)) fun (x5 : Int) => go3 (s4.1, s4.2.1, x5)))) (some false)
noncomputable def s_l1Stands (n : Nat) (a1 : ByteArray) (a2 : Int) : Option (Bool) :=
  fx (s_l1Stands_L1 n) n (a1, a2, 0)

/-- s_l12Record -/
noncomputable def s_l12Record (n : Nat) (a1 : (ByteArray × ByteArray)) : Option (Bool) :=
  ob (br (!eqd a1.1 (⟨#[]⟩ : ByteArray)) (ob (s_l12Bytes n a1.1 160) fun (r2 : Bool) => some r2) (some false)) fun (x3 : Bool) => ob (br x3 (ob (s_l1Stands n a1.1 64) fun (r4 : Bool) => some (! r4)) (some false)) fun (x5 : Bool) => ob (br x5 (ob (s_l12Bytes n a1.2 280) fun (r6 : Bool) => some r6) (some false)) fun (x7 : Bool) => some x7

/-- s_l1Sum -/
noncomputable def s_l1Sum_L1 (n : Nat) (go2 : ByteArray × Int × Int → Option (Int)) (s3 : ByteArray × Int × Int) : Option (Int) :=
  br (decide (s3.2.2 < (s3.1.size : Int))) (lt (w64 (41 * s3.2.1)) fun (x4 : Int) => ckb (inb s3.2.2 s3.1.size) (lt (w64 (sb s3.1 s3.2.2.toNat)) fun (x5 : Int) => lt (w64 (x4 + x5)) fun (x6 : Int) => lt (w64 (x6 + 1)) fun (x7 : Int) => lt (Int.tmod x7 999979) fun (x8 : Int) => lt (w64 (s3.2.2 + 1)) fun (x9 : Int) => go2 (s3.1, x8, x9))) (some s3.2.1)
noncomputable def s_l1Sum (n : Nat) (a1 : ByteArray) : Option (Int) :=
  fx (s_l1Sum_L1 n) n (a1, 7, 0)

/-- s_l1Seal -/
noncomputable def s_l1Seal (n : Nat) (a1 : ByteArray) : Option (ByteArray) :=
  ckb (stok (a1.size + 1)) (lt (a1 ++ (⟨#[35]⟩ : ByteArray)) fun (x2 : ByteArray) => ob (s_l1Sum n a1) fun (r3 : Int) => ob (s_l1Num n r3) fun (r4 : ByteArray) => ckb (stok (x2.size + r4.size)) (lt (x2 ++ r4) fun (x5 : ByteArray) => some x5))

/-- s_l12Line -/
noncomputable def s_l12Line (n : Nat) (a1 : Int) (a2 : (ByteArray × ByteArray)) : Option (ByteArray) :=
  ob (s_l1Num n a1) fun (r3 : ByteArray) => ckb (stok (r3.size + 1)) (lt (r3 ++ (⟨#[32]⟩ : ByteArray)) fun (x4 : ByteArray) => ckb (stok (x4.size + a2.1.size)) (lt (x4 ++ a2.1) fun (x5 : ByteArray) => ckb (stok (x5.size + 1)) (lt (x5 ++ (⟨#[64]⟩ : ByteArray)) fun (x6 : ByteArray) => ckb (stok (x6.size + a2.2.size)) (lt (x6 ++ a2.2) fun (x7 : ByteArray) => ob (s_l1Seal n x7) fun (r8 : ByteArray) => ckb (stok (r8.size + 1)) (lt (r8 ++ (⟨#[10]⟩ : ByteArray)) fun (x9 : ByteArray) => some x9)))))

/-- i_isPlain -/
noncomputable def i_isPlain_L1 (n : Nat) (go3 : ByteArray × Int × Int × Int → Option (Bool)) (s4 : ByteArray × Int × Int × Int) : Option (Bool) :=
  br (decide (s4.2.2.2 < s4.2.2.1)) (ckb (inb s4.2.2.2 s4.1.size) (ob (br (decide ((sb s4.1 s4.2.2.2.toNat) < 32)) (some true) (ckb (inb s4.2.2.2 s4.1.size) (some (decide (126 < (sb s4.1 s4.2.2.2.toNat)))))) fun (x5 : Bool) => ob (br x5 (some true) (ckb (inb s4.2.2.2 s4.1.size) (some (decide ((sb s4.1 s4.2.2.2.toNat) = 35))))) fun (x6 : Bool) => br x6 (some false) (lt (w64 (s4.2.2.2 + 1)) fun (x7 : Int) => go3 (s4.1, s4.2.1, s4.2.2.1, x7)))) (some (decide ((s4.1.size : Int) ≤ s4.2.1)))
noncomputable def i_isPlain (n : Nat) (a1 : ByteArray) (a2 : Int) : Option (Bool) :=
  fx (i_isPlain_L1 n) n (a1, a2, (a1.size : Int), 0)

/-- internal_stringslite_IndexByte -/
noncomputable def internal_stringslite_IndexByte (n : Nat) (a1 : ByteArray) (a2 : Int) : Option (Int) :=
  ob (x_IndexByteString n a1 a2) fun (r3 : Int) => some r3

/-- internal_stringslite_Index_s -/
noncomputable def internal_stringslite_Index_s (n : Nat) (a1 : ByteArray) (a2 : ByteArray) : Option (Int) :=
  ob (br (decide ((a2.size : Int) = 0)) (some true) (some (eqd a2 a1))) fun (x3 : Bool) => br x3 (some 0) (br (decide ((a2.size : Int) = 1)) (ckb (inb 0 a2.size) (ob (internal_stringslite_IndexByte n a1 (sb a2 0)) fun (r4 : Int) => some r4)) (br (decide ((a1.size : Int) ≤ (a2.size : Int))) (some (-1)) (none)))

/-- strings_Index -/
noncomputable def strings_Index (n : Nat) (a1 : ByteArray) (a2 : ByteArray) : Option (Int) :=
  ob (internal_stringslite_Index_s n a1 a2) fun (r3 : Int) => some r3

/-- strings_Contains -/
noncomputable def strings_Contains (n : Nat) (a1 : ByteArray) (a2 : ByteArray) : Option (Bool) :=
  ob (strings_Index n a1 a2) fun (r3 : Int) => some (decide (0 ≤ r3))

/-- i_isCommand -/
noncomputable def i_isCommand (n : Nat) (a1 : ByteArray) : Option (Bool) :=
  ob (br (!eqd a1 (⟨#[]⟩ : ByteArray)) (ob (i_isPlain n a1 160) fun (r2 : Bool) => some r2) (some false)) fun (x3 : Bool) => ob (br x3 (ob (strings_Contains n a1 (⟨#[64]⟩ : ByteArray)) fun (r4 : Bool) => some (! r4)) (some false)) fun (x5 : Bool) => some x5

/-- i_IsValidRecord -/
noncomputable def i_IsValidRecord (n : Nat) (a1 : (ByteArray × ByteArray)) : Option (Bool) :=
  ob (i_isCommand n a1.1) fun (r2 : Bool) => ob (br r2 (ob (i_isPlain n a1.2 280) fun (r3 : Bool) => some r3) (some false)) fun (x4 : Bool) => some x4

/-- s_Cur_of'pl -/
noncomputable def s_Cur_of'pl (n : Nat) (a1 : (List ByteArray)) (a2 : ((List Int) × (Int × Int))) : Option (ByteArray × ((List Int) × (Int × Int))) :=
  ob (s_Cur_pick'p n (a1.length : Int) a2) fun (r3 : Int × ((List Int) × (Int × Int))) => ckb (inb r3.1 a1.length) (some ((gl (⟨#[]⟩ : ByteArray) a1 r3.1.toNat), r3.2))

/-- s_Cur_logRecord'p -/
noncomputable def s_Cur_logRecord'p (n : Nat) (a1 : ((List Int) × (Int × Int))) : Option ((ByteArray × ByteArray) × ((List Int) × (Int × Int))) :=
  ob (s_Cur_of'pl n [(⟨#[108, 105, 110, 101, 115]⟩ : ByteArray), (⟨#[112, 117, 116, 32, 52, 48]⟩ : ByteArray), (⟨#[120]⟩ : ByteArray), (⟨#[116, 97, 107, 101, 32, 48, 32, 49, 32, 50]⟩ : ByteArray), (⟨#[48, 32, 49]⟩ : ByteArray)] a1) fun (r2 : ByteArray × ((List Int) × (Int × Int))) => ob (s_Cur_of'pl n [(⟨#[]⟩ : ByteArray), (⟨#[51]⟩ : ByteArray), (⟨#[63]⟩ : ByteArray), (⟨#[97, 64, 98]⟩ : ByteArray), (⟨#[51, 32, 49, 32, 50]⟩ : ByteArray)] r2.2) fun (r3 : ByteArray × ((List Int) × (Int × Int))) => lt (r2.1, r3.1) fun (x4 : (ByteArray × ByteArray)) => ob (s_Cur_pick'p n 24 r3.2) fun (r5 : Int × ((List Int) × (Int × Int))) => br (decide (r5.1 = 0)) (ckb (mkok 1 3 3) (lt (strOfNums (List.replicate 3 0)) fun (x6 : ByteArray) => ob (s_Cur_of'pl n [(⟨#[]⟩ : ByteArray), (⟨#[97, 64, 98]⟩ : ByteArray), (⟨#[97, 35]⟩ : ByteArray), (⟨#[10]⟩ : ByteArray), x6] r5.2) fun (r7 : ByteArray × ((List Int) × (Int × Int))) => lt (r7.1, x4.2) fun (x8 : (ByteArray × ByteArray)) => some (x8, r7.2))) (br (decide (r5.1 = 1)) (ob (s_Cur_of'pl n [(⟨#[35]⟩ : ByteArray), (⟨#[10]⟩ : ByteArray), (⟨#[127]⟩ : ByteArray)] r5.2) fun (r9 : ByteArray × ((List Int) × (Int × Int))) => lt (x4.1, r9.1) fun (x10 : (ByteArray × ByteArray)) => some (x10, r9.2)) (some (x4, r5.2)))

/-- strconv_Itoa -/
noncomputable def strconv_Itoa (n : Nat) (a1 : Int) : Option ByteArray := if decide (-9223372036854775808 ≤ a1) && decide (a1 ≤ 9223372036854775807) then some ⟨(Lib.itoa a1).toArray⟩ else none

/-- i_checksum -/
noncomputable def i_checksum_L1 (n : Nat) (go2 : ByteArray × Int × Int × Int → Option (Int)) (s3 : ByteArray × Int × Int × Int) : Option (Int) :=
  br (decide (s3.2.2.2 < s3.2.2.1)) (lt (w64 (41 * s3.2.1)) fun (x4 : Int) => ckb (inb s3.2.2.2 s3.1.size) (lt (w64 (sb s3.1 s3.2.2.2.toNat)) fun (x5 : Int) => lt (w64 (x4 + x5)) fun (x6 : Int) => lt (w64 (x6 + 1)) fun (x7 : Int) => lt (Int.tmod x7 999979) fun (x8 : Int) => lt (w64 (s3.2.2.2 + 1)) fun (x9 : Int) => go2 (s3.1, x8, s3.2.2.1, x9))) (some s3.2.1)
noncomputable def i_checksum (n : Nat) (a1 : ByteArray) : Option (Int) :=
  fx (i_checksum_L1 n) n (a1, 7, (a1.size : Int), 0)

/-- i_AppendChecksum -/
noncomputable def i_AppendChecksum (n : Nat) (a1 : ByteArray) : Option (ByteArray × Bool) :=
  ob (br (decide (4000 < (a1.size : Int))) (some true) (ob (strings_Contains n a1 (⟨#[35]⟩ : ByteArray)) fun (r2 : Bool) => some r2)) fun (x3 : Bool) => br x3 (some ((⟨#[]⟩ : ByteArray), false)) (ckb (stok (a1.size + 1)) (lt (a1 ++ (⟨#[35]⟩ : ByteArray)) fun (x4 : ByteArray) => ob (i_checksum n a1) fun (r5 : Int) => ob (strconv_Itoa n r5) fun (r6 : ByteArray) => ckb (stok (x4.size + r6.size)) (lt (x4 ++ r6) fun (x7 : ByteArray) => br (decide (4000 < (x7.size : Int))) (some ((⟨#[]⟩ : ByteArray), false)) (some (x7, true)))))

/-- i_EncodeRecord -/
noncomputable def i_EncodeRecord (n : Nat) (a1 : Int) (a2 : (ByteArray × ByteArray)) : Option (ByteArray × Bool) :=
  ob (i_within n a1 0 59) fun (r3 : Bool) => ob (br (! r3) (some true) (ob (i_IsValidRecord n a2) fun (r4 : Bool) => some (! r4))) fun (x5 : Bool) => br x5 (some ((⟨#[]⟩ : ByteArray), false)) (ob (strconv_Itoa n a1) fun (r6 : ByteArray) => ckb (stok (r6.size + 1)) (lt (r6 ++ (⟨#[32]⟩ : ByteArray)) fun (x7 : ByteArray) => ckb (stok (x7.size + a2.1.size)) (lt (x7 ++ a2.1) fun (x8 : ByteArray) => ckb (stok (x8.size + 1)) (lt (x8 ++ (⟨#[64]⟩ : ByteArray)) fun (x9 : ByteArray) => ckb (stok (x9.size + a2.2.size)) (lt (x9 ++ a2.2) fun (x10 : ByteArray) => ob (i_AppendChecksum n x10) fun (r11 : ByteArray × Bool) => ckb (stok (r11.1.size + 1)) (lt (r11.1 ++ (⟨#[10]⟩ : ByteArray)) fun (x12 : ByteArray) => some (x12, r11.2)))))))

/-- s_Cur_spoilt'p -/
noncomputable def s_Cur_spoilt'p (n : Nat) (a1 : ByteArray) (a2 : ByteArray) (a3 : ((List Int) × (Int × Int))) : Option (ByteArray × ((List Int) × (Int × Int))) :=
  br (eqd a1 (⟨#[]⟩ : ByteArray)) (ckb (slb 0 1 a2.size) (some ((ssub a2 0 1), a3))) (ob (s_Cur_pick'p n (a1.size : Int) a3) fun (r4 : Int × ((List Int) × (Int × Int))) => ob (s_Cur_pick'p n (a2.size : Int) r4.2) fun (r5 : Int × ((List Int) × (Int × Int))) => ckb (slb r5.1 (a2.size : Int) a2.size) (ckb (slb 0 1 (ssub a2 r5.1.toNat a2.size).size) (ob (s_Cur_pick'p n 3 r5.2) fun (r6 : Int × ((List Int) × (Int × Int))) => br (decide (r6.1 = 0)) (ckb (slb 0 r4.1 a1.size) (ckb (stok ((ssub a1 0 r4.1.toNat).size + (ssub (ssub a2 r5.1.toNat a2.size) 0 1).size)) (lt ((ssub a1 0 r4.1.toNat) ++ (ssub (ssub a2 r5.1.toNat a2.size) 0 1)) fun (x7 : ByteArray) => ckb (slb r4.1 (a1.size : Int) a1.size) (ckb (stok (x7.size + (ssub a1 r4.1.toNat a1.size).size)) (lt (x7 ++ (ssub a1 r4.1.toNat a1.size)) fun (x8 : ByteArray) => some (x8, r6.2)))))) (br (decide (r6.1 = 1)) (ckb (slb 0 r4.1 a1.size) (ckb (stok ((ssub a1 0 r4.1.toNat).size + (ssub (ssub a2 r5.1.toNat a2.size) 0 1).size)) (lt ((ssub a1 0 r4.1.toNat) ++ (ssub (ssub a2 r5.1.toNat a2.size) 0 1)) fun (x9 : ByteArray) => lt (w64 (r4.1 + 1)) fun (x10 : Int) => ckb (slb x10 (a1.size : Int) a1.size) (ckb (stok (x9.size + (ssub a1 x10.toNat a1.size).size)) (lt (x9 ++ (ssub a1 x10.toNat a1.size)) fun (x11 : ByteArray) => some (x11, r6.2)))))) (ckb (slb 0 r4.1 a1.size) (lt (w64 (r4.1 + 1)) fun (x12 : Int) => ckb (slb x12 (a1.size : Int) a1.size) (ckb (stok ((ssub a1 0 r4.1.toNat).size + (ssub a1 x12.toNat a1.size).size)) (lt ((ssub a1 0 r4.1.toNat) ++ (ssub a1 x12.toNat a1.size)) fun (x13 : ByteArray) => some (x13, r6.2)))))))))

/-- internal_stringslite_Cut -/
noncomputable def internal_stringslite_Cut (n : Nat) (a1 : ByteArray) (a2 : ByteArray) : Option (ByteArray × ByteArray × Bool) :=
  ob (internal_stringslite_Index_s n a1 a2) fun (r3 : Int) => br (decide (0 ≤ r3)) (ckb (slb 0 r3 a1.size) (lt (w64 (r3 + (a2.size : Int))) fun (x4 : Int) => ckb (slb x4 (a1.size : Int) a1.size) (some ((ssub a1 0 r3.toNat), (ssub a1 x4.toNat a1.size), true)))) (some (a1, (⟨#[]⟩ : ByteArray), false))

/-- strings_Cut -/
noncomputable def strings_Cut (n : Nat) (a1 : ByteArray) (a2 : ByteArray) : Option (ByteArray × ByteArray × Bool) :=
  ob (internal_stringslite_Cut n a1 a2) fun (r3 : ByteArray × ByteArray × Bool) => some (r3.1, r3.2.1, r3.2.2)

/-- i_records -/
noncomputable def i_records_L1 (n : Nat) (go2 : ByteArray × Int × (List (ByteArray × ByteArray)) × (List Int) → Option ((List (ByteArray × ByteArray)) × (List Int))) (s3 : ByteArray × Int × (List (ByteArray × ByteArray)) × (List Int)) : Option ((List (ByteArray × ByteArray)) × (List Int)) :=
  br (decide ((s3.2.2.1.length : Int) < 60)) (ckb (slb s3.2.1 (s3.1.size : Int) s3.1.size) (ob (strings_Cut n (ssub s3.1 s3.2.1.toNat s3.1.size) (⟨#[10]⟩ : ByteArray)) fun (r4 : ByteArray × ByteArray × Bool) => br (! r4.2.2) (some (s3.2.2.1, s3.2.2.2)) (ob (strings_Cut n r4.1 (⟨#[35]⟩ : ByteArray)) fun (r5 : ByteArray × ByteArray × Bool) => ob (strings_Cut n r5.1 (⟨#[32]⟩ : ByteArray)) fun (r6 : ByteArray × ByteArray × Bool) => lt ((⟨#[]⟩ : ByteArray), (⟨#[]⟩ : ByteArray)) fun (x7 : (ByteArray × ByteArray)) => ob (strings_Cut n r6.2.1 (⟨#[64]⟩ : ByteArray)) fun (r8 : ByteArray × ByteArray × Bool) => lt (r8.1, x7.2) fun (x9 : (ByteArray × ByteArray)) => lt (x9.1, r8.2.1) fun (x10 : (ByteArray × ByteArray)) => ob (i_EncodeRecord n (s3.2.2.1.length : Int) x10) fun (r11 : ByteArray × Bool) => ob (br (! r11.2) (some true) (ckb (stok (r4.1.size + 1)) (lt (r4.1 ++ (⟨#[10]⟩ : ByteArray)) fun (x12 : ByteArray) => some (!eqd r11.1 x12)))) fun (x13 : Bool) => br x13 (some (s3.2.2.1, s3.2.2.2)) (lt (w64 ((r4.1.size : Int) + 1)) fun (x14 : Int) => lt (w64 (s3.2.1 + x14)) fun (x15 : Int) => ckb (apok 32 (s3.2.2.1.length + 1)) (ckb (apok 8 (s3.2.2.2.length + 1)) (go2 (s3.1, x15, (s3.2.2.1 ++ [x10]), (s3.2.2.2 ++ [x15])))))))) (some (s3.2.2.1, s3.2.2.2))
noncomputable def i_records (n : Nat) (a1 : ByteArray) : Option ((List (ByteArray × ByteArray)) × (List Int)) :=
  fx (i_records_L1 n) n (a1, 0, ([] : List (ByteArray × ByteArray)), [0])

/-- i_IsValidLog -/
noncomputable def i_IsValidLog (n : Nat) (a1 : (ByteArray × (ByteArray × Int))) : Option (Bool) :=
  ckb (stok (a1.1.size + a1.2.1.size)) (lt (a1.1 ++ a1.2.1) fun (x2 : ByteArray) => br (decide (30000 < (x2.size : Int))) (some false) (ob (i_records n x2) fun (r3 : (List (ByteArray × ByteArray)) × (List Int)) => lt (w64 ((r3.2.length : Int) - 1)) fun (x4 : Int) => ckb (inb x4 r3.2.length) (ob (br (decide ((gl 0 r3.2 x4.toNat) = (x2.size : Int))) (ob (slices_Contains_Sint_int_ n r3.2 (a1.1.size : Int)) fun (r5 : Bool) => some r5) (some false)) fun (x6 : Bool) => ob (br x6 (some (decide (a1.2.2 = (r3.1.length : Int)))) (some false)) fun (x7 : Bool) => some x7)))

/-- s_l12Decode -/
noncomputable def s_l12Decode (n : Nat) (a1 : ByteArray) (a2 : Int) : Option ((ByteArray × ByteArray) × Bool) :=
  ob (s_l1Num n a2) fun (r3 : ByteArray) => ckb (stok (r3.size + 1)) (lt (r3 ++ (⟨#[32]⟩ : ByteArray)) fun (x4 : ByteArray) => ob (s_l1Split n a1 35) fun (r5 : (List ByteArray)) => ckb (inb 0 r5.length) (ob (br (decide (((gl (⟨#[]⟩ : ByteArray) r5 0).size : Int) < (x4.size : Int))) (some true) (ckb (slb 0 (x4.size : Int) (gl (⟨#[]⟩ : ByteArray) r5 0).size) (some (!eqd (ssub (gl (⟨#[]⟩ : ByteArray) r5 0) 0 x4.size) x4)))) fun (x6 : Bool) => br x6 (lt ((⟨#[]⟩ : ByteArray), (⟨#[]⟩ : ByteArray)) fun (x7 : (ByteArray × ByteArray)) => some (x7, false)) (ckb (slb (x4.size : Int) ((gl (⟨#[]⟩ : ByteArray) r5 0).size : Int) (gl (⟨#[]⟩ : ByteArray) r5 0).size) (ob (s_l1Split n (ssub (gl (⟨#[]⟩ : ByteArray) r5 0) x4.size (gl (⟨#[]⟩ : ByteArray) r5 0).size) 64) fun (r8 : (List ByteArray)) => ckb (inb 0 r8.length) (br (decide (((gl (⟨#[]⟩ : ByteArray) r8 0).size : Int) = ((ssub (gl (⟨#[]⟩ : ByteArray) r5 0) x4.size (gl (⟨#[]⟩ : ByteArray) r5 0).size).size : Int))) (lt ((⟨#[]⟩ : ByteArray), (⟨#[]⟩ : ByteArray)) fun (x9 : (ByteArray × ByteArray)) => some (x9, false)) (lt (w64 (((gl (⟨#[]⟩ : ByteArray) r8 0).size : Int) + 1)) fun (x10 : Int) => ckb (slb x10 ((ssub (gl (⟨#[]⟩ : ByteArray) r5 0) x4.size (gl (⟨#[]⟩ : ByteArray) r5 0).size).size : Int) (ssub (gl (⟨#[]⟩ : ByteArray) r5 0) x4.size (gl (⟨#[]⟩ : ByteArray) r5 0).size).size) (lt ((gl (⟨#[]⟩ : ByteArray) r8 0), (ssub (ssub (gl (⟨#[]⟩ : ByteArray) r5 0) x4.size (gl (⟨#[]⟩ : ByteArray) r5 0).size) x10.toNat (ssub (gl (⟨#[]⟩ : ByteArray) r5 0) x4.size (gl (⟨#[]⟩ : ByteArray) r5 0).size).size)) fun (x11 : (ByteArray × ByteArray)) => ob (s_l12Record n x11) fun (r12 : Bool) => ob (br r12 (ob (s_l12Line n a2 x11) fun (r13 : ByteArray) => ckb (stok (a1.size + 1)) (lt (a1 ++ (⟨#[10]⟩ : ByteArray)) fun (x14 : ByteArray) => some (eqd r13 x14))) (some false)) fun (x15 : Bool) => some (x11, x15))))))))

/-- s_l12Open -/
noncomputable def s_l12Open_L1 (n : Nat) (go2 : ByteArray × Int × (List (ByteArray × ByteArray)) → Option (Int × (List (ByteArray × ByteArray)))) (s3 : ByteArray × Int × (List (ByteArray × ByteArray))) : Option (Int × (List (ByteArray × ByteArray))) :=
  ob (br (decide (s3.2.1 < (s3.1.size : Int))) (some (decide ((s3.2.2.length : Int) < 60))) (some false)) fun (x4 : Bool) => br x4 (ckb (slb s3.2.1 (s3.1.size : Int) s3.1.size) (ob (s_l1Split n (ssub s3.1 s3.2.1.toNat s3.1.size) 10) fun (r5 : (List ByteArray)) => ckb (inb 0 r5.length) (ob (s_l12Decode n (gl (⟨#[]⟩ : ByteArray) r5 0) (s3.2.2.length : Int)) fun (r6 : (ByteArray × ByteArray) × Bool) => ob (br (decide ((r5.length : Int) < 2)) (some true) (some (! r6.2))) fun (x7 : Bool) => br x7 (some (s3.2.1, s3.2.2)) (ckb (apok 32 (s3.2.2.length + 1)) (ckb (inb 0 r5.length) (lt (w64 (s3.2.1 + ((gl (⟨#[]⟩ : ByteArray) r5 0).size : Int))) fun (x8 : Int) => lt (w64 (x8 + 1)) fun (x9 : Int) => go2 (s3.1, x9, (s3.2.2 ++ [r6.1])))))))) (some (s3.2.1, s3.2.2))
noncomputable def s_l12Open (n : Nat) (a1 : ByteArray) : Option (Int × (List (ByteArray × ByteArray))) :=
  fx (s_l12Open_L1 n) n (a1, 0, ([] : List (ByteArray × ByteArray)))

/-- s_RecoverLog -/
noncomputable def s_RecoverLog (n : Nat) (a1 : ByteArray) : Option ((ByteArray × (ByteArray × Int)) × Int × Bool) :=
  br (decide (30000 < (a1.size : Int))) (lt ((⟨#[]⟩ : ByteArray), ((⟨#[]⟩ : ByteArray), 0)) fun (x2 : (ByteArray × (ByteArray × Int))) => some (x2, 0, false)) (ob (s_l12Open n a1) fun (r3 : Int × (List (ByteArray × ByteArray))) => ckb (slb 0 r3.1 a1.size) (lt ((ssub a1 0 r3.1.toNat), ((⟨#[]⟩ : ByteArray), (r3.2.length : Int))) fun (x4 : (ByteArray × (ByteArray × Int))) => some (x4, r3.1, true)))

/-- i_RecoverLog -/
noncomputable def i_RecoverLog (n : Nat) (a1 : ByteArray) : Option ((ByteArray × (ByteArray × Int)) × Int × Bool) :=
  br (decide (30000 < (a1.size : Int))) (lt ((⟨#[]⟩ : ByteArray), ((⟨#[]⟩ : ByteArray), 0)) fun (x2 : (ByteArray × (ByteArray × Int))) => some (x2, 0, false)) (ob (i_records n a1) fun (r3 : (List (ByteArray × ByteArray)) × (List Int)) => lt (w64 ((r3.2.length : Int) - 1)) fun (x4 : Int) => ckb (inb x4 r3.2.length) (ckb (slb 0 (gl 0 r3.2 x4.toNat) a1.size) (lt ((ssub a1 0 (gl 0 r3.2 x4.toNat).toNat), ((⟨#[]⟩ : ByteArray), (r3.1.length : Int))) fun (x5 : (ByteArray × (ByteArray × Int))) => some (x5, (gl 0 r3.2 x4.toNat), true))))

/-- s_l12Valid -/
noncomputable def s_l12Valid (n : Nat) (a1 : (ByteArray × (ByteArray × Int))) : Option (Bool) :=
  lt (w64 ((a1.1.size : Int) + (a1.2.1.size : Int))) fun (x2 : Int) => br (decide (30000 < x2)) (some false) (ckb (stok (a1.1.size + a1.2.1.size)) (lt (a1.1 ++ a1.2.1) fun (x3 : ByteArray) => ob (s_l12Open n x3) fun (r4 : Int × (List (ByteArray × ByteArray))) => ob (s_l12Open n a1.1) fun (r5 : Int × (List (ByteArray × ByteArray))) => lt (w64 ((a1.1.size : Int) + (a1.2.1.size : Int))) fun (x6 : Int) => ob (br (decide (r4.1 = x6)) (some (decide (r5.1 = (a1.1.size : Int)))) (some false)) fun (x7 : Bool) => ob (br x7 (some (decide ((r4.2.length : Int) = a1.2.2))) (some false)) fun (x8 : Bool) => some x8))

/-- s_CrashLog -/
noncomputable def s_CrashLog_J1 (n : Nat) (s7 : (ByteArray × (ByteArray × Int)) × (List Int)) : Option (ByteArray × Bool) :=
  lt (strOfNums s7.2) fun (x8 : ByteArray) => ckb (stok (s7.1.1.size + x8.size)) (lt (s7.1.1 ++ x8) fun (x9 : ByteArray) => some (x9, true))
noncomputable def s_CrashLog (n : Nat) (a1 : (ByteArray × (ByteArray × Int))) (a2 : Int) (a3 : Bool) : Option (ByteArray × Bool) :=
  ob (s_l12Valid n a1) fun (r4 : Bool) => ob (br (! r4) (some true) (ob (s_l1In n a2 0 (a1.2.1.size : Int)) fun (r5 : Bool) => some (! r5))) fun (x6 : Bool) => br x6 (some ((⟨#[]⟩ : ByteArray), false)) (ckb (slb 0 a2 a1.2.1.size) (ckb (stok (ssub a1.2.1 0 a2.toNat).size) (ob (br a3 (some (decide (0 < a2))) (some false)) fun (x10 : Bool) => br x10 (lt (w64 (a2 - 1)) fun (x11 : Int) => lt (w64 (a2 - 1)) fun (x12 : Int) => ckb (inb x12 (sbytes (ssub a1.2.1 0 a2.toNat)).length) (lt (IntKind.wrap .u8 (255 - (gl 0 (sbytes (ssub a1.2.1 0 a2.toNat)) x12.toNat))) fun (x13 : Int) => ckb (inb x11 (sbytes (ssub a1.2.1 0 a2.toNat)).length) (lt (List.set (sbytes (ssub a1.2.1 0 a2.toNat)) x11.toNat x13) fun (x14 : (List Int)) => s_CrashLog_J1 n (a1, x14)))) (s_CrashLog_J1 n (a1, (sbytes (ssub a1.2.1 0 a2.toNat)))))))

/-- i_CrashLog -/
noncomputable def i_CrashLog (n : Nat) (a1 : (ByteArray × (ByteArray × Int))) (a2 : Int) (a3 : Bool) : Option (ByteArray × Bool) :=
  ob (i_IsValidLog n a1) fun (r4 : Bool) => ob (br (! r4) (some true) (ob (i_within n a2 0 (a1.2.1.size : Int)) fun (r5 : Bool) => some (! r5))) fun (x6 : Bool) => br x6 (some ((⟨#[]⟩ : ByteArray), false)) (ckb (slb 0 a2 a1.2.1.size) (ckb (stok (a1.1.size + (ssub a1.2.1 0 a2.toNat).size)) (lt (a1.1 ++ (ssub a1.2.1 0 a2.toNat)) fun (x7 : ByteArray) => ckb (stok x7.size) (ob (br a3 (some (decide (0 < a2))) (some false)) fun (x8 : Bool) => br x8 (lt (w64 (((sbytes x7).length : Int) - 1)) fun (x9 : Int) => lt (w64 (((sbytes x7).length : Int) - 1)) fun (x10 : Int) => ckb (inb x10 (sbytes x7).length) (lt (IntKind.wrap .u8 (255 - (gl 0 (sbytes x7) x10.toNat))) fun (x11 : Int) => ckb (inb x9 (sbytes x7).length) (lt (List.set (sbytes x7) x9.toNat x11) fun (x12 : (List Int)) => lt (strOfNums x12) fun (x13 : ByteArray) => some (x13, true)))) (lt (strOfNums (sbytes x7)) fun (x14 : ByteArray) => some (x14, true))))))

/-- s_SyncLog -/
noncomputable def s_SyncLog (n : Nat) (a1 : (ByteArray × (ByteArray × Int))) : Option ((ByteArray × (ByteArray × Int)) × Bool) :=
  ob (s_l12Valid n a1) fun (r2 : Bool) => br (! r2) (lt ((⟨#[]⟩ : ByteArray), ((⟨#[]⟩ : ByteArray), 0)) fun (x3 : (ByteArray × (ByteArray × Int))) => some (x3, false)) (ckb (stok (a1.1.size + a1.2.1.size)) (lt (a1.1 ++ a1.2.1) fun (x4 : ByteArray) => lt (x4, ((⟨#[]⟩ : ByteArray), a1.2.2)) fun (x5 : (ByteArray × (ByteArray × Int))) => some (x5, true)))

/-- s_AppendRecord -/
noncomputable def s_AppendRecord (n : Nat) (a1 : (ByteArray × (ByteArray × Int))) (a2 : (ByteArray × ByteArray)) : Option ((ByteArray × (ByteArray × Int)) × Int) :=
  ob (s_l12Valid n a1) fun (r3 : Bool) => ob (br (! r3) (some true) (ob (s_l12Record n a2) fun (r4 : Bool) => some (! r4))) fun (x5 : Bool) => br x5 (some (a1, 1)) (br (decide (a1.2.2 = 60)) (some (a1, 2)) (ob (s_l12Line n a1.2.2 a2) fun (r6 : ByteArray) => ckb (stok (a1.2.1.size + r6.size)) (lt (a1.2.1 ++ r6) fun (x7 : ByteArray) => lt (a1.1, (x7, a1.2.2)) fun (x8 : (ByteArray × (ByteArray × Int))) => lt (w64 (x8.2.2 + 1)) fun (x9 : Int) => lt (x8.1, (x8.2.1, x9)) fun (x10 : (ByteArray × (ByteArray × Int))) => some (x10, 0))))

/-- i_LogRecords -/
noncomputable def i_LogRecords (n : Nat) (a1 : (ByteArray × (ByteArray × Int))) : Option (Bool × (List (ByteArray × ByteArray))) :=
  ob (i_IsValidLog n a1) fun (r2 : Bool) => br (! r2) (some (false, ([] : List (ByteArray × ByteArray)))) (ckb (stok (a1.1.size + a1.2.1.size)) (lt (a1.1 ++ a1.2.1) fun (x3 : ByteArray) => ob (i_records n x3) fun (r4 : (List (ByteArray × ByteArray)) × (List Int)) => some (true, r4.1)))

/-- s_Cur_log12'p -/
noncomputable def s_Cur_log12'p_L1 (n : Nat) (go4 : Int × ((List Int) × (Int × Int)) × (ByteArray × (ByteArray × Int)) × (ByteArray × (ByteArray × Int)) → Option ((ByteArray × (ByteArray × Int)) × ((List Int) × (Int × Int)))) (s5 : Int × ((List Int) × (Int × Int)) × (ByteArray × (ByteArray × Int)) × (ByteArray × (ByteArray × Int))) : Option ((ByteArray × (ByteArray × Int)) × ((List Int) × (Int × Int))) :=
  br (decide (0 < s5.1)) (ob (s_Cur_logRecord'p n s5.2.1) fun (r6 : (ByteArray × ByteArray) × ((List Int) × (Int × Int))) => ob (s_AppendRecord n s5.2.2.2 r6.1) fun (r7 : (ByteArray × (ByteArray × Int)) × Int) => ob (s_Cur_one'p n 4 r6.2) fun (r8 : Bool × ((List Int) × (Int × Int))) => br r8.1 (ob (s_SyncLog n r7.1) fun (r9 : (ByteArray × (ByteArray × Int)) × Bool) => lt (w64 (s5.1 - 1)) fun (x10 : Int) => go4 (x10, r8.2, s5.2.2.1, r9.1)) (lt (w64 (s5.1 - 1)) fun (x11 : Int) => go4 (x11, r8.2, s5.2.2.1, r7.1))) (some (s5.2.2.2, s5.2.1))
noncomputable def s_Cur_log12'p (n : Nat) (a1 : ((List Int) × (Int × Int))) : Option ((ByteArray × (ByteArray × Int)) × ((List Int) × (Int × Int))) :=
  lt ((⟨#[]⟩ : ByteArray), ((⟨#[]⟩ : ByteArray), 0)) fun (x2 : (ByteArray × (ByteArray × Int))) => ob (s_Cur_pick'p n 7 a1) fun (r3 : Int × ((List Int) × (Int × Int))) => fx (s_Cur_log12'p_L1 n) n (r3.1, r3.2, ((⟨#[]⟩ : ByteArray), ((⟨#[]⟩ : ByteArray), 0)), x2)

/-- s_Cur_anyLog'p -/
noncomputable def s_Cur_anyLog'p (n : Nat) (a1 : ((List Int) × (Int × Int))) : Option ((ByteArray × (ByteArray × Int)) × ((List Int) × (Int × Int))) :=
  ob (s_Cur_log12'p n a1) fun (r2 : (ByteArray × (ByteArray × Int)) × ((List Int) × (Int × Int))) => ob (s_Cur_pick'p n 24 r2.2) fun (r3 : Int × ((List Int) × (Int × Int))) => br (decide (r3.1 = 0)) (lt (w64 (r2.1.2.2 + 1)) fun (x4 : Int) => lt (r2.1.1, (r2.1.2.1, x4)) fun (x5 : (ByteArray × (ByteArray × Int))) => some (x5, r3.2)) (br (decide (r3.1 = 1)) (ob (s_Cur_spoilt'p n r2.1.2.1 (⟨#[35, 64, 10, 48, 49]⟩ : ByteArray) r3.2) fun (r6 : ByteArray × ((List Int) × (Int × Int))) => lt (r2.1.1, (r6.1, r2.1.2.2)) fun (x7 : (ByteArray × (ByteArray × Int))) => some (x7, r6.2)) (br (decide (r3.1 = 2)) (ckb (stok (r2.1.1.size + r2.1.2.1.size)) (lt (r2.1.1 ++ r2.1.2.1) fun (x8 : ByteArray) => lt (x8, r2.1.2) fun (x9 : (ByteArray × (ByteArray × Int))) => some (x9, r3.2))) (some (r2.1, r3.2))))

/-- v_vRecords -/
noncomputable def v_vRecords_L1 (n : Nat) (go3 : (List (ByteArray × ByteArray)) × (List (ByteArray × ByteArray)) × Int → Option (Bool)) (s4 : (List (ByteArray × ByteArray)) × (List (ByteArray × ByteArray)) × Int) : Option (Bool) :=
  br (decide (s4.2.2 < (s4.1.length : Int))) (ckb (inb s4.2.2 s4.1.length) (ckb (inb s4.2.2 s4.2.1.length) (br (!eqd (gl ((⟨#[]⟩ : ByteArray), (⟨#[]⟩ : ByteArray)) s4.1 s4.2.2.toNat) (gl ((⟨#[]⟩ : ByteArray), (⟨#[]⟩ : ByteArray)) s4.2.1 s4.2.2.toNat)) (some false) (lt (w64 (s4.2.2 + 1)) fun (x5 : Int) => go3 (s4.1, s4.2.1, x5))))) (some true)
noncomputable def v_vRecords (n : Nat) (a1 : (List (ByteArray × ByteArray))) (a2 : (List (ByteArray × ByteArray))) : Option (Bool) :=
  br (!decide ((a1.length : Int) = (a2.length : Int))) (some false) (fx (v_vRecords_L1 n) n (a1, a2, 0))

/-- s_DrawCrashLog -/
noncomputable def s_DrawCrashLog (n : Nat) (a1 : (List Int)) : Option ((ByteArray × (ByteArray × Int)) × Int × Bool) :=
  lt (a1, (0, 0)) fun (x2 : ((List Int) × (Int × Int))) => ob (s_Cur_anyLog'p n x2) fun (r3 : (ByteArray × (ByteArray × Int)) × ((List Int) × (Int × Int))) => lt (w64 ((r3.1.2.1.size : Int) + 3)) fun (x4 : Int) => ob (s_Cur_pick'p n x4 r3.2) fun (r5 : Int × ((List Int) × (Int × Int))) => lt (w64 (r5.1 - 1)) fun (x6 : Int) => ob (s_Cur_one'p n 2 r5.2) fun (r7 : Bool × ((List Int) × (Int × Int))) => some (r3.1, x6, r7.1)

/-- s_DrawRecoverLog -/
noncomputable def s_DrawRecoverLog_J1 (n : Nat) (s5 : ByteArray × ((List Int) × (Int × Int))) : Option (ByteArray) :=
  ob (s_Cur_one'p n 40 s5.2) fun (r6 : Bool × ((List Int) × (Int × Int))) => br r6.1 (ob (s_Cur_pick'p n 2 r6.2) fun (r7 : Int × ((List Int) × (Int × Int))) => lt (w64 (30000 + r7.1)) fun (x8 : Int) => ckb (mkok 1 x8 x8) (lt (strOfNums (List.replicate x8.toNat 0)) fun (x9 : ByteArray) => some x9)) (some s5.1)
noncomputable def s_DrawRecoverLog (n : Nat) (a1 : (List Int)) : Option (ByteArray) :=
  lt (a1, (0, 0)) fun (x2 : ((List Int) × (Int × Int))) => ob (s_Cur_log12'p n x2) fun (r3 : (ByteArray × (ByteArray × Int)) × ((List Int) × (Int × Int))) => ckb (stok (r3.1.1.size + r3.1.2.1.size)) (lt (r3.1.1 ++ r3.1.2.1) fun (x4 : ByteArray) => ob (s_Cur_pick'p n 4 r3.2) fun (r10 : Int × ((List Int) × (Int × Int))) => br (decide (r10.1 = 0)) (ob (s_Cur_spoilt'p n x4 (⟨#[35, 64, 10, 48, 49]⟩ : ByteArray) r10.2) fun (r11 : ByteArray × ((List Int) × (Int × Int))) => s_DrawRecoverLog_J1 n (r11.1, r11.2)) (br (decide (r10.1 = 1)) (lt (w64 ((x4.size : Int) + 1)) fun (x12 : Int) => ob (s_Cur_pick'p n x12 r10.2) fun (r13 : Int × ((List Int) × (Int × Int))) => ckb (slb 0 r13.1 x4.size) (s_DrawRecoverLog_J1 n ((ssub x4 0 r13.1.toNat), r13.2))) (br (decide (r10.1 = 2)) (ob (s_Cur_pick'p n 4 r10.2) fun (r14 : Int × ((List Int) × (Int × Int))) => ob (s_Cur_logRecord'p n r14.2) fun (r15 : (ByteArray × ByteArray) × ((List Int) × (Int × Int))) => ob (s_l12Line n r14.1 r15.1) fun (r16 : ByteArray) => ckb (stok (x4.size + r16.size)) (lt (x4 ++ r16) fun (x17 : ByteArray) => s_DrawRecoverLog_J1 n (x17, r15.2))) (s_DrawRecoverLog_J1 n (x4, r10.2)))))

/-- v_FnCrashes -/
noncomputable def v_FnCrashes (n : Nat) (a1 : (List Int)) : Option (Bool) :=
  ob (v_vBig n a1) fun (r2 : Bool) => br r2 (some true) (ob (s_DrawCrashLog n a1) fun (r3 : (ByteArray × (ByteArray × Int)) × Int × Bool) => ob (i_CrashLog n r3.1 r3.2.1 r3.2.2) fun (r4 : ByteArray × Bool) => ob (s_CrashLog n r3.1 r3.2.1 r3.2.2) fun (r5 : ByteArray × Bool) => ob (v_vCut n a1 1) fun (r6 : (List Int)) => ob (s_DrawRecoverLog n r6) fun (r7 : ByteArray) => ob (i_RecoverLog n r7) fun (r8 : (ByteArray × (ByteArray × Int)) × Int × Bool) => ob (s_RecoverLog n r7) fun (r9 : (ByteArray × (ByteArray × Int)) × Int × Bool) => ob (br (!eqd r4.1 r5.1) (some true) (some (! (r4.2 == r5.2)))) fun (x10 : Bool) => ob (br x10 (some true) (some (!eqd r8.1 r9.1))) fun (x11 : Bool) => ob (br x11 (some true) (some (!decide (r8.2.1 = r9.2.1)))) fun (x12 : Bool) => ob (br x12 (some true) (some (! (r8.2.2 == r9.2.2)))) fun (x13 : Bool) => br x13 (some false) (br (! r4.2) (some true) (ob (i_RecoverLog n r4.1) fun (r14 : (ByteArray × (ByteArray × Int)) × Int × Bool) => ob (br (! r14.2.2) (some true) (ob (i_IsValidLog n r14.1) fun (r15 : Bool) => some (! r15))) fun (x16 : Bool) => ob (br x16 (some true) (some (decide (r14.2.1 < (r3.1.1.size : Int))))) fun (x17 : Bool) => ob (br x17 (some true) (some (!decide ((r14.1.1.size : Int) = r14.2.1)))) fun (x18 : Bool) => br x18 (some false) (ob (i_LogRecords n r3.1) fun (r19 : Bool × (List (ByteArray × ByteArray))) => ob (i_LogRecords n r14.1) fun (r20 : Bool × (List (ByteArray × ByteArray))) => ob (br (decide ((r20.2.length : Int) ≤ (r19.2.length : Int))) (ckb (slb 0 (r20.2.length : Int) r19.2.length) (ob (v_vRecords n r20.2 (sub r19.2 0 (0 + (w64 ((r20.2.length : Int) - 0)).toNat))) fun (r21 : Bool) => some r21)) (some false)) fun (x22 : Bool) => ob (br x22 (ob (br r3.2.2 (some true) (some (decide (r3.2.1 < (r3.1.2.1.size : Int))))) fun (x23 : Bool) => ob (br x23 (some true) (some (decide ((r20.2.length : Int) = (r19.2.length : Int))))) fun (x24 : Bool) => some x24) (some false)) fun (x25 : Bool) => some x25))))

end Go.Pl
