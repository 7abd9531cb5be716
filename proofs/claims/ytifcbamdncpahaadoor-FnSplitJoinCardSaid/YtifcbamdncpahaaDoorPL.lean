/- Printed by a program of the session: the program's functions as plain functions. -/
import Derived.Test.YtifcbamdncpahaaDoorZ0
import Derived.Lib.Bytealg
import Derived.Lib.ItoaNum
import Derived.Lib.Join
namespace Go.Pl
open Go Go.Tv Go.RowKit
set_option linter.unusedVariables false
def bls (a b : ByteArray) : Bool := Op.bytesLess a.toList b.toList
/-- v_vBig -/
noncomputable def v_vBig (n : Nat) (a1 : (List Int)) : Option (Bool) :=
  some (decide (65536 < (a1.length : Int)))

/-- s_Cur_next'p -/
noncomputable def s_Cur_next'p_J1 (n : Nat) (s2 : Int × ((List Int) × (Int × Int))) : Option (Int × ((List Int) × (Int × Int))) :=
  lt (w64 (s2.2.2.1 + 1)) fun (x3 : Int) => lt (s2.2.1, (x3, s2.2.2.2)) fun (x4 : ((List Int) × (Int × Int))) => lt (IntKind.wrap .u64 (x4.2.2 * 6364136223846793005)) fun (x5 : Int) => lt (IntKind.wrap .u64 s2.1) fun (x6 : Int) => lt (IntKind.wrap .u64 (x5 + x6)) fun (x7 : Int) => lt (IntKind.wrap .u64 (x7 + 462197)) fun (x8 : Int) => lt (x4.1, (x4.2.1, x8)) fun (x9 : ((List Int) × (Int × Int))) => br (decide (x9.2.1 ≤ (x9.1.length : Int))) (some (s2.1, x9)) (lt (shrI .u64 x9.2.2 40) fun (x10 : Int) => lt (bits .and .u64 x10 255) fun (x11 : Int) => lt (w64 x11) fun (x12 : Int) => some (x12, x9))
noncomputable def s_Cur_next'p (n : Nat) (a1 : ((List Int) × (Int × Int))) : Option (Int × ((List Int) × (Int × Int))) :=
  br (decide (a1.2.1 < (a1.1.length : Int))) (ckb (inb a1.2.1 a1.1.length) (lt (w64 (gl 0 a1.1 a1.2.1.toNat)) fun (x13 : Int) => s_Cur_next'p_J1 n (x13, a1))) (s_Cur_next'p_J1 n (0, a1))

/-- s_Cur_pick'p -/
noncomputable def s_Cur_pick'p (n : Nat) (a1 : Int) (a2 : ((List Int) × (Int × Int))) : Option (Int × ((List Int) × (Int × Int))) :=
  br (decide (a1 ≤ 1)) (some (0, a2)) (ob (s_Cur_next'p n a2) fun (r3 : Int × ((List Int) × (Int × Int))) => br (decide (200 < a1)) (lt (w64 (r3.1 * 256)) fun (x4 : Int) => ob (s_Cur_next'p n r3.2) fun (r5 : Int × ((List Int) × (Int × Int))) => lt (w64 (x4 + r5.1)) fun (x6 : Int) => ckb (!decide (a1 = 0)) (lt (Int.tmod x6 a1) fun (x7 : Int) => some (x7, r5.2))) (ckb (!decide (a1 = 0)) (lt (Int.tmod r3.1 a1) fun (x8 : Int) => some (x8, r3.2))))

/-- s_Cur_one'p -/
noncomputable def s_Cur_one'p (n : Nat) (a1 : Int) (a2 : ((List Int) × (Int × Int))) : Option (Bool × ((List Int) × (Int × Int))) :=
  ob (s_Cur_pick'p n a1 a2) fun (r3 : Int × ((List Int) × (Int × Int))) => some ((decide (r3.1 = 0)), r3.2)

/-- x_IndexByteString -/
noncomputable def x_IndexByteString (n : Nat) (a1 : ByteArray) (a2 : Int) : Option Int := some (Lib.indexByte a1.data.toList a2.toNat.toUInt8)

/-- s_l1Stands -/
noncomputable def s_l1Stands_L1 (n : Nat) (go3 : ByteArray × Int × Int → Option (Bool)) (s4 : ByteArray × Int × Int) : Option (Bool) :=
  br (decide (s4.2.2 < (s4.1.size : Int))) (ckb (inb s4.2.2 s4.1.size) (br (decide ((sb s4.1 s4.2.2.toNat) = s4.2.1)) (some true) (lt (w64 (s4.2.2 + 1)) fun (x5 : Int) => go3 (s4.1, s4.2.1, x5)))) (some false)
noncomputable def s_l1Stands (n : Nat) (a1 : ByteArray) (a2 : Int) : Option (Bool) :=
  fx (s_l1Stands_L1 n) n (a1, a2, 0)

/-- internal_stringslite_IndexByte -/
noncomputable def internal_stringslite_IndexByte (n : Nat) (a1 : ByteArray) (a2 : Int) : Option (Int) :=
  ob (x_IndexByteString n a1 a2) fun (r3 : Int) => some r3

/-- internal_stringslite_Index_s -/
noncomputable def internal_stringslite_Index_s (n : Nat) (a1 : ByteArray) (a2 : ByteArray) : Option (Int) :=
  ob (br (decide ((a2.size : Int) = 0)) (some true) (some (eqd a2 a1))) fun (x3 : Bool) => br x3 (some 0) (br (decide ((a2.size : Int) = 1)) (ckb (inb 0 a2.size) (ob (internal_stringslite_IndexByte n a1 (sb a2 0)) fun (r4 : Int) => some r4)) (br (decide ((a1.size : Int) ≤ (a2.size : Int))) (some (-1)) (none)))

/-- strings_Index -/
noncomputable def strings_Index (n : Nat) (a1 : ByteArray) (a2 : ByteArray) : Option (Int) :=
  ob (internal_stringslite_Index_s n a1 a2) fun (r3 : Int) => some r3

/-- strings_Contains -/
noncomputable def strings_Contains (n : Nat) (a1 : ByteArray) (a2 : ByteArray) : Option (Bool) :=
  ob (strings_Index n a1 a2) fun (r3 : Int) => some (decide (0 ≤ r3))

/-- s_Cur_of'pl -/
noncomputable def s_Cur_of'pl (n : Nat) (a1 : (List ByteArray)) (a2 : ((List Int) × (Int × Int))) : Option (ByteArray × ((List Int) × (Int × Int))) :=
  ob (s_Cur_pick'p n (a1.length : Int) a2) fun (r3 : Int × ((List Int) × (Int × Int))) => ckb (inb r3.1 a1.length) (some ((gl (⟨#[]⟩ : ByteArray) a1 r3.1.toNat), r3.2))

/-- s_Cur_any1'p -/
noncomputable def s_Cur_any1'p (n : Nat) (a1 : ((List Int) × (Int × Int))) : Option (ByteArray × ((List Int) × (Int × Int))) :=
  ob (s_Cur_of'pl n [(⟨#[]⟩ : ByteArray), (⟨#[97]⟩ : ByteArray), (⟨#[97, 44, 98]⟩ : ByteArray), (⟨#[115, 111, 109, 101, 32, 119, 111, 114, 100, 115]⟩ : ByteArray), (⟨#[120, 35, 121]⟩ : ByteArray), (⟨#[45, 49, 50]⟩ : ByteArray), (⟨#[0, 255]⟩ : ByteArray), (⟨#[44, 44]⟩ : ByteArray), (⟨#[48]⟩ : ByteArray)] a1) fun (r2 : ByteArray × ((List Int) × (Int × Int))) => some (r2.1, r2.2)

/-- s_DrawSplitString -/
noncomputable def s_DrawSplitString (n : Nat) (a1 : (List Int)) : Option (ByteArray × ByteArray) :=
  lt (a1, (0, 0)) fun (x2 : ((List Int) × (Int × Int))) => ob (s_Cur_any1'p n x2) fun (r3 : ByteArray × ((List Int) × (Int × Int))) => ob (s_Cur_of'pl n [(⟨#[44]⟩ : ByteArray), (⟨#[44]⟩ : ByteArray), (⟨#[32]⟩ : ByteArray), (⟨#[]⟩ : ByteArray), (⟨#[44, 44]⟩ : ByteArray)] r3.2) fun (r4 : ByteArray × ((List Int) × (Int × Int))) => some (r3.1, r4.1)

/-- unicode_utf8_RuneCountInString_s -/
noncomputable def unicode_utf8_RuneCountInString_s (n : Nat) (a1 : ByteArray) : Option (Unit) :=
  none

/-- strings_explode_s -/
noncomputable def strings_explode_s (n : Nat) (a1 : ByteArray) (a2 : Int) : Option (Unit) :=
  ob (unicode_utf8_RuneCountInString_s n a1) fun (r3 : Unit) => ob (br (decide (a2 < 0)) (some true) (none)) fun (x4 : Bool) => br x4 (none) (ckb (mkok 16 a2 a2) (none))

/-- x_CountString -/
noncomputable def x_CountString (n : Nat) (a1 : ByteArray) (a2 : Int) : Option Int := some ((Lib.countByte a1.data.toList a2.toNat.toUInt8 : Nat) : Int)

/-- strings_Count_s -/
noncomputable def strings_Count_s_L1 (n : Nat) (go5 : ByteArray × ByteArray × Int → Option (Int)) (s6 : ByteArray × ByteArray × Int) : Option (Int) :=
  ob (strings_Index n s6.1 s6.2.1) fun (r7 : Int) => br (decide (r7 = (-1))) (some s6.2.2) (lt (w64 (s6.2.2 + 1)) fun (x8 : Int) => lt (w64 (r7 + (s6.2.1.size : Int))) fun (x9 : Int) => ckb (slb x9 (s6.1.size : Int) s6.1.size) (go5 ((ssub s6.1 x9.toNat s6.1.size), s6.2.1, x8)))
noncomputable def strings_Count_s (n : Nat) (a1 : ByteArray) (a2 : ByteArray) : Option (Int) :=
  br (decide ((a2.size : Int) = 0)) (ob (unicode_utf8_RuneCountInString_s n a1) fun (r3 : Unit) => none) (br (decide ((a2.size : Int) = 1)) (ckb (inb 0 a2.size) (ob (x_CountString n a1 (sb a2 0)) fun (r4 : Int) => some r4)) (fx (strings_Count_s_L1 n) n (a1, a2, 0)))

/-- strings_genSplit -/
noncomputable def strings_genSplit_J1 (n : Nat) (s9 : ByteArray × Int × (List ByteArray)) : Option ((List ByteArray)) :=
  ckb (inb s9.2.1 s9.2.2.length) (lt (List.set s9.2.2 s9.2.1.toNat s9.1) fun (x10 : (List ByteArray)) => lt (w64 (s9.2.1 + 1)) fun (x11 : Int) => ckb (slb 0 x11 x10.length) (some (sub x10 0 (w64 (x11 - 0)).toNat)))
noncomputable def strings_genSplit_L2 (n : Nat) (go12 : ByteArray × ByteArray × Int × Int × Int × (List ByteArray) → Option ((List ByteArray))) (s13 : ByteArray × ByteArray × Int × Int × Int × (List ByteArray)) : Option ((List ByteArray)) :=
  br (decide (s13.2.2.2.2.1 < s13.2.2.2.1)) (ob (strings_Index n s13.1 s13.2.1) fun (r14 : Int) => br (decide (r14 < 0)) (strings_genSplit_J1 n (s13.1, s13.2.2.2.2.1, s13.2.2.2.2.2)) (lt (w64 (r14 + s13.2.2.1)) fun (x15 : Int) => ckb (slb 0 x15 s13.1.size) (ckb (inb s13.2.2.2.2.1 s13.2.2.2.2.2.length) (lt (List.set s13.2.2.2.2.2 s13.2.2.2.2.1.toNat (ssub s13.1 0 x15.toNat)) fun (x16 : (List ByteArray)) => lt (w64 (r14 + (s13.2.1.size : Int))) fun (x17 : Int) => ckb (slb x17 (s13.1.size : Int) s13.1.size) (lt (w64 (s13.2.2.2.2.1 + 1)) fun (x18 : Int) => go12 ((ssub s13.1 x17.toNat s13.1.size), s13.2.1, s13.2.2.1, s13.2.2.2.1, x18, x16)))))) (strings_genSplit_J1 n (s13.1, s13.2.2.2.2.1, s13.2.2.2.2.2))
noncomputable def strings_genSplit_J3 (n : Nat) (s6 : ByteArray × ByteArray × Int × Int) : Option ((List ByteArray)) :=
  lt (w64 ((s6.1.size : Int) + 1)) fun (x7 : Int) => ckb (mkok 16 (mnI s6.2.2.2 x7) (mnI s6.2.2.2 x7)) (lt (w64 ((mnI s6.2.2.2 x7) - 1)) fun (x8 : Int) => fx (strings_genSplit_L2 n) n (s6.1, s6.2.1, s6.2.2.1, x8, 0, (List.replicate (mnI s6.2.2.2 x7).toNat (⟨#[]⟩ : ByteArray))))
noncomputable def strings_genSplit (n : Nat) (a1 : ByteArray) (a2 : ByteArray) (a3 : Int) (a4 : Int) : Option ((List ByteArray)) :=
  br (decide (a4 = 0)) (some ([] : List ByteArray)) (br (eqd a2 (⟨#[]⟩ : ByteArray)) (ob (strings_explode_s n a1 a4) fun (r5 : Unit) => some ([] : List ByteArray)) (br (decide (a4 < 0)) (ob (strings_Count_s n a1 a2) fun (r19 : Int) => lt (w64 (r19 + 1)) fun (x20 : Int) => strings_genSplit_J3 n (a1, a2, a3, x20)) (strings_genSplit_J3 n (a1, a2, a3, a4))))

/-- strings_Split -/
noncomputable def strings_Split (n : Nat) (a1 : ByteArray) (a2 : ByteArray) : Option ((List ByteArray)) :=
  ob (strings_genSplit n a1 a2 0 (-1)) fun (r3 : (List ByteArray)) => some r3

/-- i_SplitString -/
noncomputable def i_SplitString (n : Nat) (a1 : ByteArray) (a2 : ByteArray) : Option (Bool × (List ByteArray)) :=
  ob (br (decide (4000 < (a1.size : Int))) (some true) (some (!decide ((a2.size : Int) = 1)))) fun (x3 : Bool) => br x3 (some (false, ([] : List ByteArray))) (ob (strings_Split n a1 a2) fun (r4 : (List ByteArray)) => some (true, r4))

/-- s_DrawJoinStrings -/
noncomputable def s_DrawJoinStrings_J1 (n : Nat) (s8 : ((List Int) × (Int × Int)) × (List ByteArray)) : Option (ByteArray × (List ByteArray)) :=
  ob (s_Cur_of'pl n [(⟨#[44]⟩ : ByteArray), (⟨#[59]⟩ : ByteArray), (⟨#[59]⟩ : ByteArray), (⟨#[]⟩ : ByteArray), (⟨#[97, 98]⟩ : ByteArray)] s8.1) fun (r9 : ByteArray × ((List Int) × (Int × Int))) => some (r9.1, s8.2)
noncomputable def s_DrawJoinStrings_L2 (n : Nat) (go4 : Int × Int × ((List Int) × (Int × Int)) × (List ByteArray) → Option (ByteArray × (List ByteArray))) (s5 : Int × Int × ((List Int) × (Int × Int)) × (List ByteArray)) : Option (ByteArray × (List ByteArray)) :=
  br (decide (s5.2.1 < s5.1)) (ob (s_Cur_any1'p n s5.2.2.1) fun (r6 : ByteArray × ((List Int) × (Int × Int))) => ckb (apok 16 (s5.2.2.2.length + 1)) (lt (w64 (s5.2.1 + 1)) fun (x7 : Int) => go4 (s5.1, x7, r6.2, (s5.2.2.2 ++ [r6.1])))) (ob (s_Cur_one'p n 20 s5.2.2.1) fun (r10 : Bool × ((List Int) × (Int × Int))) => br r10.1 (ob (s_Cur_pick'p n 20 r10.2) fun (r11 : Int × ((List Int) × (Int × Int))) => lt (w64 (3990 + r11.1)) fun (x12 : Int) => ckb (mkok 1 x12 x12) (lt (strOfNums (List.replicate x12.toNat 0)) fun (x13 : ByteArray) => ckb (apok 16 (s5.2.2.2.length + 1)) (s_DrawJoinStrings_J1 n (r11.2, (s5.2.2.2 ++ [x13]))))) (s_DrawJoinStrings_J1 n (r10.2, s5.2.2.2)))
noncomputable def s_DrawJoinStrings (n : Nat) (a1 : (List Int)) : Option (ByteArray × (List ByteArray)) :=
  lt (a1, (0, 0)) fun (x2 : ((List Int) × (Int × Int))) => ob (s_Cur_pick'p n 4 x2) fun (r3 : Int × ((List Int) × (Int × Int))) => fx (s_DrawJoinStrings_L2 n) n (r3.1, 0, r3.2, ([] : List ByteArray))

/-- strings_Join -/
noncomputable def strings_Join (n : Nat) (a1 : List ByteArray) (a2 : ByteArray) : Option ByteArray := if decide (a1.length ≤ 140737488355328) && decide ((Lib.join (a1.map (·.data.toList)) a2.data.toList).length ≤ 140737488355328) then some ⟨(Lib.join (a1.map (·.data.toList)) a2.data.toList).toArray⟩ else none

/-- i_JoinStrings -/
noncomputable def i_JoinStrings_L1 (n : Nat) (go5 : (List ByteArray) × ByteArray × Int × (List ByteArray) × Int × Int → Option (ByteArray × Bool)) (s6 : (List ByteArray) × ByteArray × Int × (List ByteArray) × Int × Int) : Option (ByteArray × Bool) :=
  br (decide (s6.2.2.2.2.2 < s6.2.2.2.2.1)) (ckb (inb s6.2.2.2.2.2 s6.2.2.2.1.length) (lt (w64 (s6.2.2.1 + ((gl (⟨#[]⟩ : ByteArray) s6.2.2.2.1 s6.2.2.2.2.2.toNat).size : Int))) fun (x7 : Int) => ob (strings_Contains n (gl (⟨#[]⟩ : ByteArray) s6.2.2.2.1 s6.2.2.2.2.2.toNat) s6.2.1) fun (r8 : Bool) => ob (br r8 (some true) (some (decide (4000 < x7)))) fun (x9 : Bool) => br x9 (some ((⟨#[]⟩ : ByteArray), false)) (lt (w64 (s6.2.2.2.2.2 + 1)) fun (x10 : Int) => go5 (s6.1, s6.2.1, x7, s6.2.2.2.1, s6.2.2.2.2.1, x10)))) (ob (strings_Join n s6.1 s6.2.1) fun (r11 : ByteArray) => some (r11, true))
noncomputable def i_JoinStrings (n : Nat) (a1 : (List ByteArray)) (a2 : ByteArray) : Option (ByteArray × Bool) :=
  ob (br (decide ((a1.length : Int) = 0)) (some true) (some (!decide ((a2.size : Int) = 1)))) fun (x3 : Bool) => br x3 (some ((⟨#[]⟩ : ByteArray), false)) (lt (w64 ((a1.length : Int) - 1)) fun (x4 : Int) => fx (i_JoinStrings_L1 n) n (a1, a2, x4, a1, (a1.length : Int), 0))

/-- s_JoinStrings -/
noncomputable def s_JoinStrings_J1 (n : Nat) (go4 : (List ByteArray) × ByteArray × ByteArray × Int → Option (ByteArray × Bool)) (s7 : (List ByteArray) × ByteArray × ByteArray × Int) : Option (ByteArray × Bool) :=
  ckb (inb s7.2.2.2 s7.1.length) (ckb (stok (s7.2.2.1.size + (gl (⟨#[]⟩ : ByteArray) s7.1 s7.2.2.2.toNat).size)) (lt (s7.2.2.1 ++ (gl (⟨#[]⟩ : ByteArray) s7.1 s7.2.2.2.toNat)) fun (x8 : ByteArray) => br (decide (4000 < (x8.size : Int))) (some ((⟨#[]⟩ : ByteArray), false)) (lt (w64 (s7.2.2.2 + 1)) fun (x9 : Int) => go4 (s7.1, s7.2.1, x8, x9))))
noncomputable def s_JoinStrings_L2 (n : Nat) (go4 : (List ByteArray) × ByteArray × ByteArray × Int → Option (ByteArray × Bool)) (s5 : (List ByteArray) × ByteArray × ByteArray × Int) : Option (ByteArray × Bool) :=
  br (decide (s5.2.2.2 < (s5.1.length : Int))) (ckb (inb s5.2.2.2 s5.1.length) (ckb (inb 0 s5.2.1.size) (ob (s_l1Stands n (gl (⟨#[]⟩ : ByteArray) s5.1 s5.2.2.2.toNat) (sb s5.2.1 0)) fun (r6 : Bool) => br r6 (some ((⟨#[]⟩ : ByteArray), false)) (br (decide (0 < s5.2.2.2)) (ckb (stok (s5.2.2.1.size + s5.2.1.size)) (lt (s5.2.2.1 ++ s5.2.1) fun (x10 : ByteArray) => s_JoinStrings_J1 n go4 (s5.1, s5.2.1, x10, s5.2.2.2))) (s_JoinStrings_J1 n go4 (s5.1, s5.2.1, s5.2.2.1, s5.2.2.2)))))) (some (s5.2.2.1, true))
noncomputable def s_JoinStrings (n : Nat) (a1 : (List ByteArray)) (a2 : ByteArray) : Option (ByteArray × Bool) :=
  ob (br (!decide ((a2.size : Int) = 1)) (some true) (some (decide ((a1.length : Int) = 0)))) fun (x3 : Bool) => br x3 (some ((⟨#[]⟩ : ByteArray), false)) (fx (s_JoinStrings_L2 n) n (a1, a2, (⟨#[]⟩ : ByteArray), 0))

/-- s_DrawLessString -/
noncomputable def s_DrawLessString (n : Nat) (a1 : (List Int)) : Option (ByteArray × ByteArray) :=
  lt (a1, (0, 0)) fun (x2 : ((List Int) × (Int × Int))) => ob (s_Cur_any1'p n x2) fun (r3 : ByteArray × ((List Int) × (Int × Int))) => ob (s_Cur_any1'p n r3.2) fun (r4 : ByteArray × ((List Int) × (Int × Int))) => some (r3.1, r4.1)

/-- i_LessString -/
noncomputable def i_LessString (n : Nat) (a1 : ByteArray) (a2 : ByteArray) : Option (Bool) :=
  some (bls a1 a2)

/-- s_LessString -/
noncomputable def s_LessString (n : Nat) (a1 : ByteArray) (a2 : ByteArray) : Option (Bool) :=
  some (bls a1 a2)

/-- v_FnSplitJoin -/
noncomputable def v_FnSplitJoin (n : Nat) (a1 : (List Int)) : Option (Bool) :=
  ob (v_vBig n a1) fun (r2 : Bool) => br r2 (some true) (ob (s_DrawSplitString n a1) fun (r3 : ByteArray × ByteArray) => ob (i_SplitString n r3.1 r3.2) fun (r4 : Bool × (List ByteArray)) => ob (s_DrawJoinStrings n a1) fun (r5 : ByteArray × (List ByteArray)) => ob (i_JoinStrings n r5.2 r5.1) fun (r6 : ByteArray × Bool) => ob (s_JoinStrings n r5.2 r5.1) fun (r7 : ByteArray × Bool) => ob (s_DrawLessString n a1) fun (r8 : ByteArray × ByteArray) => ob (br (!eqd r6.1 r7.1) (some true) (some (! (r6.2 == r7.2)))) fun (x9 : Bool) => ob (br x9 (some true) (ob (i_LessString n r8.1 r8.2) fun (r10 : Bool) => ob (s_LessString n r8.1 r8.2) fun (r11 : Bool) => some (! (r10 == r11)))) fun (x12 : Bool) => ob (br x12 (some true) (ob (i_LessString n r8.1 r8.2) fun (r13 : Bool) => ob (br r13 (ob (i_LessString n r8.2 r8.1) fun (r14 : Bool) => some r14) (some false)) fun (x15 : Bool) => some x15)) fun (x16 : Bool) => br x16 (some false) (br (!decide ((r3.2.size : Int) = 1)) (ob (br (! r4.1) (some (decide ((r4.2.length : Int) = 0))) (some false)) fun (x17 : Bool) => some x17) (ob (i_JoinStrings n r4.2 r3.2) fun (r18 : ByteArray × Bool) => ob (br r4.1 (some r18.2) (some false)) fun (x19 : Bool) => ob (br x19 (some (eqd r18.1 r3.1)) (some false)) fun (x20 : Bool) => some x20)))

end Go.Pl
