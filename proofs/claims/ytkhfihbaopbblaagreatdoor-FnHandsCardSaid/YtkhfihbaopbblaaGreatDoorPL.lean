/- Printed by a program of the session: the program's functions as plain functions. -/
import Derived.Test.YtkhfihbaopbblaaGreatDoorZ0
import Derived.Lib.Bytealg
import Derived.Lib.ItoaNum
import Derived.Lib.Join
namespace Go.Pl
open Go Go.Tv Go.RowKit
set_option linter.unusedVariables false
def bls (a b : ByteArray) : Bool := Op.bytesLess a.toList b.toList
/-- s_l1In -/
noncomputable def s_l1In (n : Nat) (a1 : Int) (a2 : Int) (a3 : Int) : Option (Bool) :=
  ob (br (decide (a2 ≤ a1)) (some (decide (a1 ≤ a3))) (some false)) fun (x4 : Bool) => some x4

/-- s_l2Card -/
noncomputable def s_l2Card_L1 (n : Nat) (go2 : Int × (V4 Int) → Option (Bool)) (s3 : Int × (V4 Int)) : Option (Bool) :=
  br (decide (s3.1 < 4)) (ckb (inb s3.1 4) (ob (s_l1In n (V4.get s3.2 s3.1.toNat) 0 2) fun (r4 : Bool) => br (! r4) (some false) (lt (w64 (s3.1 + 1)) fun (x5 : Int) => go2 (x5, s3.2)))) (some true)
noncomputable def s_l2Card (n : Nat) (a1 : (V4 Int)) : Option (Bool) :=
  fx (s_l2Card_L1 n) n (0, a1)

/-- i_within -/
noncomputable def i_within (n : Nat) (a1 : Int) (a2 : Int) (a3 : Int) : Option (Bool) :=
  ob (br (decide (a2 ≤ a1)) (some (decide (a1 ≤ a3))) (some false)) fun (x4 : Bool) => some x4

/-- i_allWithin_1'pp -/
noncomputable def i_allWithin_1'pp (n : Nat) (a1 : Int) (a2 : Int) (a3 : Int) : Option (Bool × Int × Int) :=
  ob (i_within n a1 a2 a3) fun (r4 : Bool) => some ((! r4), a2, a3)

/-- slices_IndexFunc_Sint_int_'l_i_allWithin_1pp -/
noncomputable def slices_IndexFunc_Sint_int_'l_i_allWithin_1pp_L1 (n : Nat) (go4 : (List Int) × Int × Int × Int × Int → Option (Int × Int × Int)) (s5 : (List Int) × Int × Int × Int × Int) : Option (Int × Int × Int) :=
  br (decide (s5.2.2.1 < s5.2.1)) (ckb (inb s5.2.2.1 s5.1.length) (ob (i_allWithin_1'pp n (gl 0 s5.1 s5.2.2.1.toNat) s5.2.2.2.1 s5.2.2.2.2) fun (r6 : Bool × Int × Int) => br r6.1 (some (s5.2.2.1, r6.2.1, r6.2.2)) (lt (w64 (s5.2.2.1 + 1)) fun (x7 : Int) => go4 (s5.1, s5.2.1, x7, r6.2.1, r6.2.2)))) (some ((-1), s5.2.2.2.1, s5.2.2.2.2))
noncomputable def slices_IndexFunc_Sint_int_'l_i_allWithin_1pp (n : Nat) (a1 : (List Int)) (a2 : Int) (a3 : Int) : Option (Int × Int × Int) :=
  fx (slices_IndexFunc_Sint_int_'l_i_allWithin_1pp_L1 n) n (a1, (a1.length : Int), 0, a2, a3)

/-- slices_ContainsFunc_Sint_int_'l_i_allWithin_1pp -/
noncomputable def slices_ContainsFunc_Sint_int_'l_i_allWithin_1pp (n : Nat) (a1 : (List Int)) (a2 : Int) (a3 : Int) : Option (Bool × Int × Int) :=
  ob (slices_IndexFunc_Sint_int_'l_i_allWithin_1pp n a1 a2 a3) fun (r4 : Int × Int × Int) => some ((decide (0 ≤ r4.1)), r4.2.1, r4.2.2)

/-- i_allWithin -/
noncomputable def i_allWithin (n : Nat) (a1 : (List Int)) (a2 : Int) (a3 : Int) : Option (Bool) :=
  ob (slices_ContainsFunc_Sint_int_'l_i_allWithin_1pp n a1 a2 a3) fun (r4 : Bool × Int × Int) => some (! r4.1)

/-- i_IsCard -/
noncomputable def i_IsCard (n : Nat) (a1 : (V4 Int)) : Option (Bool) :=
  ob (i_allWithin n (V4.els a1) 0 2) fun (r2 : Bool) => some r2

/-- slices_Clone_SA4_A4_ -/
noncomputable def slices_Clone_SA4_A4_ (n : Nat) (a1 : (List (V4 Int))) : Option ((List (V4 Int))) :=
  amb a1.isEmpty fun (b2 : Bool) => br b2 (some ([] : List (V4 Int))) (ckb (apok 32 (0 + a1.length)) (some a1))

/-- math_bits_Len64 -/
noncomputable def math_bits_Len64_J1 (n : Nat) (s4 : Int × Int) : Option (Int) :=
  lt (IntKind.wrap .u8 s4.1) fun (x5 : Int) => ckb (inb x5 256) (lt (w64 (sb (⟨((List.append (List.append (0 :: 1 :: 2 :: 2 :: 3 :: 3 :: 3 :: 3 :: 4 :: 4 :: 4 :: 4 :: 4 :: 4 :: 4 :: 4 :: 5 :: 5 :: 5 :: 5 :: 5 :: 5 :: 5 :: 5 :: 5 :: 5 :: 5 :: 5 :: 5 :: 5 :: 5 :: 5 :: 6 :: 6 :: 6 :: 6 :: 6 :: 6 :: 6 :: 6 :: 6 :: 6 :: 6 :: 6 :: 6 :: 6 :: 6 :: 6 :: 6 :: 6 :: 6 :: 6 :: 6 :: 6 :: 6 :: 6 :: 6 :: 6 :: 6 :: 6 :: 6 :: 6 :: 6 :: 6 :: []) (7 :: 7 :: 7 :: 7 :: 7 :: 7 :: 7 :: 7 :: 7 :: 7 :: 7 :: 7 :: 7 :: 7 :: 7 :: 7 :: 7 :: 7 :: 7 :: 7 :: 7 :: 7 :: 7 :: 7 :: 7 :: 7 :: 7 :: 7 :: 7 :: 7 :: 7 :: 7 :: 7 :: 7 :: 7 :: 7 :: 7 :: 7 :: 7 :: 7 :: 7 :: 7 :: 7 :: 7 :: 7 :: 7 :: 7 :: 7 :: 7 :: 7 :: 7 :: 7 :: 7 :: 7 :: 7 :: 7 :: 7 :: 7 :: 7 :: 7 :: 7 :: 7 :: 7 :: 7 :: [])) (List.append (8 :: 8 :: 8 :: 8 :: 8 :: 8 :: 8 :: 8 :: 8 :: 8 :: 8 :: 8 :: 8 :: 8 :: 8 :: 8 :: 8 :: 8 :: 8 :: 8 :: 8 :: 8 :: 8 :: 8 :: 8 :: 8 :: 8 :: 8 :: 8 :: 8 :: 8 :: 8 :: 8 :: 8 :: 8 :: 8 :: 8 :: 8 :: 8 :: 8 :: 8 :: 8 :: 8 :: 8 :: 8 :: 8 :: 8 :: 8 :: 8 :: 8 :: 8 :: 8 :: 8 :: 8 :: 8 :: 8 :: 8 :: 8 :: 8 :: 8 :: 8 :: 8 :: 8 :: 8 :: []) (8 :: 8 :: 8 :: 8 :: 8 :: 8 :: 8 :: 8 :: 8 :: 8 :: 8 :: 8 :: 8 :: 8 :: 8 :: 8 :: 8 :: 8 :: 8 :: 8 :: 8 :: 8 :: 8 :: 8 :: 8 :: 8 :: 8 :: 8 :: 8 :: 8 :: 8 :: 8 :: 8 :: 8 :: 8 :: 8 :: 8 :: 8 :: 8 :: 8 :: 8 :: 8 :: 8 :: 8 :: 8 :: 8 :: 8 :: 8 :: 8 :: 8 :: 8 :: 8 :: 8 :: 8 :: 8 :: 8 :: 8 :: 8 :: 8 :: 8 :: 8 :: 8 :: 8 :: 8 :: [])))).toArray⟩ : ByteArray) x5.toNat)) fun (x6 : Int) => lt (w64 (s4.2 + x6)) fun (x7 : Int) => some x7)
noncomputable def math_bits_Len64_J2 (n : Nat) (s3 : Int × Int) : Option (Int) :=
  br (decide (256 ≤ s3.1)) (lt (shrI .u64 s3.1 8) fun (x8 : Int) => lt (w64 (s3.2 + 8)) fun (x9 : Int) => math_bits_Len64_J1 n (x8, x9)) (math_bits_Len64_J1 n (s3.1, s3.2))
noncomputable def math_bits_Len64_J3 (n : Nat) (s2 : Int × Int) : Option (Int) :=
  br (decide (65536 ≤ s2.1)) (lt (shrI .u64 s2.1 16) fun (x10 : Int) => lt (w64 (s2.2 + 16)) fun (x11 : Int) => math_bits_Len64_J2 n (x10, x11)) (math_bits_Len64_J2 n (s2.1, s2.2))
noncomputable def math_bits_Len64 (n : Nat) (a1 : Int) : Option (Int) :=
  br (decide (4294967296 ≤ a1)) (lt (shrI .u64 a1 32) fun (x12 : Int) => math_bits_Len64_J3 n (x12, 32)) (math_bits_Len64_J3 n (a1, 0))

/-- math_bits_Len -/
noncomputable def math_bits_Len (n : Nat) (a1 : Int) : Option (Int) :=
  ob (math_bits_Len64 n a1) fun (r2 : Int) => some r2

/-- i_number -/
noncomputable def i_number_L1 (n : Nat) (go2 : Int × (V4 Int) × Int → Option (Int)) (s3 : Int × (V4 Int) × Int) : Option (Int) :=
  br (decide (s3.2.2 < 4)) (ckb (inb s3.2.2 4) (lt (w64 (3 * s3.1)) fun (x4 : Int) => lt (w64 (x4 + (V4.get s3.2.1 s3.2.2.toNat))) fun (x5 : Int) => lt (w64 (s3.2.2 + 1)) fun (x6 : Int) => go2 (x5, s3.2.1, x6))) (some s3.1)
noncomputable def i_number (n : Nat) (a1 : (V4 Int)) : Option (Int) :=
  fx (i_number_L1 n) n (0, a1, 0)

/-- i_compareCards -/
noncomputable def i_compareCards (n : Nat) (a1 : (V4 Int)) (a2 : (V4 Int)) : Option (Int) :=
  ob (i_number n a1) fun (r3 : Int) => ob (i_number n a2) fun (r4 : Int) => lt (w64 (r3 - r4)) fun (x5 : Int) => some x5

/-- slices_nextPowerOfTwo -/
noncomputable def slices_nextPowerOfTwo (n : Nat) (a1 : Int) : Option (Int) :=
  lt (IntKind.wrap .u64 a1) fun (x2 : Int) => ob (math_bits_Len n x2) fun (r3 : Int) => ckb (nneg r3) (lt (shlI .u64 1 r3) fun (x4 : Int) => some x4)

/-- __slices_xorshift__Next'p -/
noncomputable def __slices_xorshift__Next'p (n : Nat) (a1 : Int) : Option (Int × Int) :=
  lt (shlI .u64 a1 13) fun (x2 : Int) => lt (bits .xor .u64 a1 x2) fun (x3 : Int) => lt (shrI .u64 x3 7) fun (x4 : Int) => lt (bits .xor .u64 x3 x4) fun (x5 : Int) => lt (shlI .u64 x5 17) fun (x6 : Int) => lt (bits .xor .u64 x5 x6) fun (x7 : Int) => some (x7, x7)

/-- slices_order2CmpFunc_A4_'lp_i_compareCards -/
noncomputable def slices_order2CmpFunc_A4_'lp_i_compareCards (n : Nat) (a1 : (List (V4 Int))) (a2 : Int) (a3 : Int) (a4 : Int) : Option (Int × Int × Int) :=
  ckb (inb a3 a1.length) (ckb (inb a2 a1.length) (ob (i_compareCards n (gl (⟨0, 0, 0, 0⟩ : (V4 Int)) a1 a3.toNat) (gl (⟨0, 0, 0, 0⟩ : (V4 Int)) a1 a2.toNat)) fun (r5 : Int) => br (decide (r5 < 0)) (lt (w64 (a4 + 1)) fun (x6 : Int) => some (a3, a2, x6)) (some (a2, a3, a4))))

/-- slices_medianCmpFunc_A4_'lp_i_compareCards -/
noncomputable def slices_medianCmpFunc_A4_'lp_i_compareCards (n : Nat) (a1 : (List (V4 Int))) (a2 : Int) (a3 : Int) (a4 : Int) (a5 : Int) : Option (Int × Int) :=
  ob (slices_order2CmpFunc_A4_'lp_i_compareCards n a1 a2 a3 a5) fun (r6 : Int × Int × Int) => ob (slices_order2CmpFunc_A4_'lp_i_compareCards n a1 r6.2.1 a4 r6.2.2) fun (r7 : Int × Int × Int) => ob (slices_order2CmpFunc_A4_'lp_i_compareCards n a1 r6.1 r7.1 r7.2.2) fun (r8 : Int × Int × Int) => some (r8.2.1, r8.2.2)

/-- slices_medianAdjacentCmpFunc_A4_'lp_i_compareCards -/
noncomputable def slices_medianAdjacentCmpFunc_A4_'lp_i_compareCards (n : Nat) (a1 : (List (V4 Int))) (a2 : Int) (a3 : Int) : Option (Int × Int) :=
  lt (w64 (a2 - 1)) fun (x4 : Int) => lt (w64 (a2 + 1)) fun (x5 : Int) => ob (slices_medianCmpFunc_A4_'lp_i_compareCards n a1 x4 a2 x5 a3) fun (r6 : Int × Int) => some (r6.1, r6.2)

/-- slices_choosePivotCmpFunc_A4_'l_i_compareCards -/
noncomputable def slices_choosePivotCmpFunc_A4_'l_i_compareCards_J1 (n : Nat) (s14 : Int × Int) : Option (Int × Int) :=
  br (decide (s14.2 = 0)) (some (s14.1, 1)) (br (decide (s14.2 = 12)) (some (s14.1, 2)) (some (s14.1, 0)))
noncomputable def slices_choosePivotCmpFunc_A4_'l_i_compareCards_J2 (n : Nat) (s15 : (List (V4 Int)) × Int × Int × Int × Int) : Option (Int × Int) :=
  ob (slices_medianCmpFunc_A4_'lp_i_compareCards n s15.1 s15.2.1 s15.2.2.1 s15.2.2.2.1 s15.2.2.2.2) fun (r16 : Int × Int) => slices_choosePivotCmpFunc_A4_'l_i_compareCards_J1 n (r16.1, r16.2)
noncomputable def slices_choosePivotCmpFunc_A4_'l_i_compareCards (n : Nat) (a1 : (List (V4 Int))) (a2 : Int) (a3 : Int) : Option (Int × Int) :=
  lt (w64 (a3 - a2)) fun (x4 : Int) => lt (w64 (Int.tdiv x4 4)) fun (x5 : Int) => lt (w64 (x5 * 1)) fun (x6 : Int) => lt (w64 (a2 + x6)) fun (x7 : Int) => lt (w64 (Int.tdiv x4 4)) fun (x8 : Int) => lt (w64 (x8 * 2)) fun (x9 : Int) => lt (w64 (a2 + x9)) fun (x10 : Int) => lt (w64 (Int.tdiv x4 4)) fun (x11 : Int) => lt (w64 (x11 * 3)) fun (x12 : Int) => lt (w64 (a2 + x12)) fun (x13 : Int) => br (decide (8 ≤ x4)) (br (decide (50 ≤ x4)) (ob (slices_medianAdjacentCmpFunc_A4_'lp_i_compareCards n a1 x7 0) fun (r17 : Int × Int) => ob (slices_medianAdjacentCmpFunc_A4_'lp_i_compareCards n a1 x10 r17.2) fun (r18 : Int × Int) => ob (slices_medianAdjacentCmpFunc_A4_'lp_i_compareCards n a1 x13 r18.2) fun (r19 : Int × Int) => slices_choosePivotCmpFunc_A4_'l_i_compareCards_J2 n (a1, r17.1, r18.1, r19.1, r19.2)) (slices_choosePivotCmpFunc_A4_'l_i_compareCards_J2 n (a1, x7, x10, x13, 0))) (slices_choosePivotCmpFunc_A4_'l_i_compareCards_J1 n (x10, 0))

/-- slices_insertionSortCmpFunc_A4_'o_i_compareCards -/
noncomputable def slices_insertionSortCmpFunc_A4_'o_i_compareCards_L1 (n : Nat) (go5 : Int × Int × Int × (List (V4 Int)) → Option ((List (V4 Int)))) (go7 : Int × Int × Int × Int × (List (V4 Int)) → Option ((List (V4 Int)))) (s8 : Int × Int × Int × Int × (List (V4 Int))) : Option ((List (V4 Int))) :=
  ob (br (decide (s8.1 < s8.2.2.2.1)) (ckb (inb s8.2.2.2.1 s8.2.2.2.2.length) (lt (w64 (s8.2.2.2.1 - 1)) fun (x9 : Int) => ckb (inb x9 s8.2.2.2.2.length) (ob (i_compareCards n (gl (⟨0, 0, 0, 0⟩ : (V4 Int)) s8.2.2.2.2 s8.2.2.2.1.toNat) (gl (⟨0, 0, 0, 0⟩ : (V4 Int)) s8.2.2.2.2 x9.toNat)) fun (r10 : Int) => some (decide (r10 < 0))))) (some false)) fun (x11 : Bool) => br x11 (lt (w64 (s8.2.2.2.1 - 1)) fun (x12 : Int) => lt (w64 (s8.2.2.2.1 - 1)) fun (x13 : Int) => ckb (inb x13 s8.2.2.2.2.length) (ckb (inb s8.2.2.2.1 s8.2.2.2.2.length) (ckb (inb s8.2.2.2.1 s8.2.2.2.2.length) (lt (List.set s8.2.2.2.2 s8.2.2.2.1.toNat (gl (⟨0, 0, 0, 0⟩ : (V4 Int)) s8.2.2.2.2 x13.toNat)) fun (x14 : (List (V4 Int))) => ckb (inb x12 x14.length) (lt (List.set x14 x12.toNat (gl (⟨0, 0, 0, 0⟩ : (V4 Int)) s8.2.2.2.2 s8.2.2.2.1.toNat)) fun (x15 : (List (V4 Int))) => lt (w64 (s8.2.2.2.1 - 1)) fun (x16 : Int) => go7 (s8.1, s8.2.1, s8.2.2.1, x16, x15)))))) (lt (w64 (s8.2.2.1 + 1)) fun (x17 : Int) => go5 (s8.1, s8.2.1, x17, s8.2.2.2.2))
noncomputable def slices_insertionSortCmpFunc_A4_'o_i_compareCards_L2 (n : Nat) (go5 : Int × Int × Int × (List (V4 Int)) → Option ((List (V4 Int)))) (s6 : Int × Int × Int × (List (V4 Int))) : Option ((List (V4 Int))) :=
  br (decide (s6.2.2.1 < s6.2.1)) (fx (slices_insertionSortCmpFunc_A4_'o_i_compareCards_L1 n go5) n (s6.1, s6.2.1, s6.2.2.1, s6.2.2.1, s6.2.2.2)) (some s6.2.2.2)
noncomputable def slices_insertionSortCmpFunc_A4_'o_i_compareCards (n : Nat) (a1 : Int) (a2 : Int) (a3 : (List (V4 Int))) : Option ((List (V4 Int))) :=
  lt (w64 (a1 + 1)) fun (x4 : Int) => fx (slices_insertionSortCmpFunc_A4_'o_i_compareCards_L2 n) n (a1, a2, x4, a3)

/-- slices_siftDownCmpFunc_A4_'o_i_compareCards -/
noncomputable def slices_siftDownCmpFunc_A4_'o_i_compareCards_J1 (n : Nat) (go5 : Int × Int × Int × (List (V4 Int)) → Option ((List (V4 Int)))) (s9 : Int × Int × Int × Int × (List (V4 Int))) : Option ((List (V4 Int))) :=
  lt (w64 (s9.2.1 + s9.2.2.1)) fun (x10 : Int) => ckb (inb x10 s9.2.2.2.2.length) (lt (w64 (s9.2.1 + s9.2.2.2.1)) fun (x11 : Int) => ckb (inb x11 s9.2.2.2.2.length) (ob (i_compareCards n (gl (⟨0, 0, 0, 0⟩ : (V4 Int)) s9.2.2.2.2 x10.toNat) (gl (⟨0, 0, 0, 0⟩ : (V4 Int)) s9.2.2.2.2 x11.toNat)) fun (r12 : Int) => br (! (decide (r12 < 0))) (some s9.2.2.2.2) (lt (w64 (s9.2.1 + s9.2.2.1)) fun (x13 : Int) => lt (w64 (s9.2.1 + s9.2.2.2.1)) fun (x14 : Int) => lt (w64 (s9.2.1 + s9.2.2.2.1)) fun (x15 : Int) => ckb (inb x15 s9.2.2.2.2.length) (lt (w64 (s9.2.1 + s9.2.2.1)) fun (x16 : Int) => ckb (inb x16 s9.2.2.2.2.length) (ckb (inb x13 s9.2.2.2.2.length) (lt (List.set s9.2.2.2.2 x13.toNat (gl (⟨0, 0, 0, 0⟩ : (V4 Int)) s9.2.2.2.2 x15.toNat)) fun (x17 : (List (V4 Int))) => ckb (inb x14 x17.length) (lt (List.set x17 x14.toNat (gl (⟨0, 0, 0, 0⟩ : (V4 Int)) s9.2.2.2.2 x16.toNat)) fun (x18 : (List (V4 Int))) => go5 (s9.1, s9.2.1, s9.2.2.2.1, x18))))))))
noncomputable def slices_siftDownCmpFunc_A4_'o_i_compareCards_L2 (n : Nat) (go5 : Int × Int × Int × (List (V4 Int)) → Option ((List (V4 Int)))) (s6 : Int × Int × Int × (List (V4 Int))) : Option ((List (V4 Int))) :=
  lt (w64 (2 * s6.2.2.1)) fun (x7 : Int) => lt (w64 (x7 + 1)) fun (x8 : Int) => br (decide (s6.1 ≤ x8)) (some s6.2.2.2) (lt (w64 (x8 + 1)) fun (x19 : Int) => ob (br (decide (x19 < s6.1)) (lt (w64 (s6.2.1 + x8)) fun (x20 : Int) => ckb (inb x20 s6.2.2.2.length) (lt (w64 (s6.2.1 + x8)) fun (x21 : Int) => lt (w64 (x21 + 1)) fun (x22 : Int) => ckb (inb x22 s6.2.2.2.length) (ob (i_compareCards n (gl (⟨0, 0, 0, 0⟩ : (V4 Int)) s6.2.2.2 x20.toNat) (gl (⟨0, 0, 0, 0⟩ : (V4 Int)) s6.2.2.2 x22.toNat)) fun (r23 : Int) => some (decide (r23 < 0))))) (some false)) fun (x24 : Bool) => br x24 (lt (w64 (x8 + 1)) fun (x25 : Int) => slices_siftDownCmpFunc_A4_'o_i_compareCards_J1 n go5 (s6.1, s6.2.1, s6.2.2.1, x25, s6.2.2.2)) (slices_siftDownCmpFunc_A4_'o_i_compareCards_J1 n go5 (s6.1, s6.2.1, s6.2.2.1, x8, s6.2.2.2)))
noncomputable def slices_siftDownCmpFunc_A4_'o_i_compareCards (n : Nat) (a1 : Int) (a2 : Int) (a3 : Int) (a4 : (List (V4 Int))) : Option ((List (V4 Int))) :=
  fx (slices_siftDownCmpFunc_A4_'o_i_compareCards_L2 n) n (a2, a3, a1, a4)

/-- slices_heapSortCmpFunc_A4_'o_i_compareCards -/
noncomputable def slices_heapSortCmpFunc_A4_'o_i_compareCards_L1 (n : Nat) (go12 : Int × Int × Int × (List (V4 Int)) → Option ((List (V4 Int)))) (s13 : Int × Int × Int × (List (V4 Int))) : Option ((List (V4 Int))) :=
  br (decide (0 ≤ s13.2.2.1)) (lt (w64 (s13.1 + s13.2.2.1)) fun (x14 : Int) => lt (w64 (s13.1 + s13.2.2.1)) fun (x15 : Int) => ckb (inb x15 s13.2.2.2.length) (ckb (inb s13.1 s13.2.2.2.length) (ckb (inb s13.1 s13.2.2.2.length) (lt (List.set s13.2.2.2 s13.1.toNat (gl (⟨0, 0, 0, 0⟩ : (V4 Int)) s13.2.2.2 x15.toNat)) fun (x16 : (List (V4 Int))) => ckb (inb x14 x16.length) (lt (List.set x16 x14.toNat (gl (⟨0, 0, 0, 0⟩ : (V4 Int)) s13.2.2.2 s13.1.toNat)) fun (x17 : (List (V4 Int))) => ob (slices_siftDownCmpFunc_A4_'o_i_compareCards n s13.2.1 s13.2.2.1 s13.1 x17) fun (r18 : (List (V4 Int))) => lt (w64 (s13.2.2.1 - 1)) fun (x19 : Int) => go12 (s13.1, s13.2.1, x19, r18)))))) (some s13.2.2.2)
noncomputable def slices_heapSortCmpFunc_A4_'o_i_compareCards_L2 (n : Nat) (go7 : Int × Int × Int × Int × (List (V4 Int)) → Option ((List (V4 Int)))) (s8 : Int × Int × Int × Int × (List (V4 Int))) : Option ((List (V4 Int))) :=
  br (decide (0 ≤ s8.2.2.2.1)) (ob (slices_siftDownCmpFunc_A4_'o_i_compareCards n s8.2.2.2.1 s8.2.2.1 s8.1 s8.2.2.2.2) fun (r9 : (List (V4 Int))) => lt (w64 (s8.2.2.2.1 - 1)) fun (x10 : Int) => go7 (s8.1, s8.2.1, s8.2.2.1, x10, r9)) (lt (w64 (s8.2.2.1 - 1)) fun (x11 : Int) => fx (slices_heapSortCmpFunc_A4_'o_i_compareCards_L1 n) n (s8.1, s8.2.1, x11, s8.2.2.2.2))
noncomputable def slices_heapSortCmpFunc_A4_'o_i_compareCards (n : Nat) (a1 : Int) (a2 : Int) (a3 : (List (V4 Int))) : Option ((List (V4 Int))) :=
  lt (w64 (a2 - a1)) fun (x4 : Int) => lt (w64 (x4 - 1)) fun (x5 : Int) => lt (w64 (Int.tdiv x5 2)) fun (x6 : Int) => fx (slices_heapSortCmpFunc_A4_'o_i_compareCards_L2 n) n (a1, 0, x4, x6, a3)

/-- slices_breakPatternsCmpFunc_A4_'o_i_compareCards -/
noncomputable def slices_breakPatternsCmpFunc_A4_'o_i_compareCards_J1 (n : Nat) (go11 : Int × Int × Int × Int × (List (V4 Int)) × Int → Option ((List (V4 Int)))) (s21 : Int × Int × Int × Int × Int × (List (V4 Int)) × Int) : Option ((List (V4 Int))) :=
  lt (w64 (s21.1 + s21.2.2.2.2.1)) fun (x22 : Int) => lt (w64 (s21.1 + s21.2.2.2.2.1)) fun (x23 : Int) => ckb (inb x23 s21.2.2.2.2.2.1.length) (ckb (inb s21.2.2.2.1 s21.2.2.2.2.2.1.length) (ckb (inb s21.2.2.2.1 s21.2.2.2.2.2.1.length) (lt (List.set s21.2.2.2.2.2.1 s21.2.2.2.1.toNat (gl (⟨0, 0, 0, 0⟩ : (V4 Int)) s21.2.2.2.2.2.1 x23.toNat)) fun (x24 : (List (V4 Int))) => ckb (inb x22 x24.length) (lt (List.set x24 x22.toNat (gl (⟨0, 0, 0, 0⟩ : (V4 Int)) s21.2.2.2.2.2.1 s21.2.2.2.1.toNat)) fun (x25 : (List (V4 Int))) => lt (w64 (s21.2.2.2.1 + 1)) fun (x26 : Int) => go11 (s21.1, s21.2.1, s21.2.2.1, x26, x25, s21.2.2.2.2.2.2)))))
noncomputable def slices_breakPatternsCmpFunc_A4_'o_i_compareCards_L2 (n : Nat) (go11 : Int × Int × Int × Int × (List (V4 Int)) × Int → Option ((List (V4 Int)))) (s12 : Int × Int × Int × Int × (List (V4 Int)) × Int) : Option ((List (V4 Int))) :=
  lt (w64 (Int.tdiv s12.2.1 4)) fun (x13 : Int) => lt (w64 (x13 * 2)) fun (x14 : Int) => lt (w64 (s12.1 + x14)) fun (x15 : Int) => lt (w64 (x15 + 1)) fun (x16 : Int) => br (decide (s12.2.2.2.1 ≤ x16)) (ob (__slices_xorshift__Next'p n s12.2.2.2.2.2) fun (r17 : Int × Int) => lt (IntKind.wrap .u64 (s12.2.2.1 - 1)) fun (x18 : Int) => lt (bits .and .u64 r17.1 x18) fun (x19 : Int) => lt (w64 x19) fun (x20 : Int) => br (decide (s12.2.1 ≤ x20)) (lt (w64 (x20 - s12.2.1)) fun (x27 : Int) => slices_breakPatternsCmpFunc_A4_'o_i_compareCards_J1 n go11 (s12.1, s12.2.1, s12.2.2.1, s12.2.2.2.1, x27, s12.2.2.2.2.1, r17.2)) (slices_breakPatternsCmpFunc_A4_'o_i_compareCards_J1 n go11 (s12.1, s12.2.1, s12.2.2.1, s12.2.2.2.1, x20, s12.2.2.2.2.1, r17.2))) (some s12.2.2.2.2.1)
noncomputable def slices_breakPatternsCmpFunc_A4_'o_i_compareCards (n : Nat) (a1 : Int) (a2 : Int) (a3 : (List (V4 Int))) : Option ((List (V4 Int))) :=
  lt (w64 (a2 - a1)) fun (x4 : Int) => br (decide (8 ≤ x4)) (lt (IntKind.wrap .u64 x4) fun (x5 : Int) => ob (slices_nextPowerOfTwo n x4) fun (r6 : Int) => lt (w64 (Int.tdiv x4 4)) fun (x7 : Int) => lt (w64 (x7 * 2)) fun (x8 : Int) => lt (w64 (a1 + x8)) fun (x9 : Int) => lt (w64 (x9 - 1)) fun (x10 : Int) => fx (slices_breakPatternsCmpFunc_A4_'o_i_compareCards_L2 n) n (a1, x4, r6, x10, a3, x5)) (some a3)

/-- slices_reverseRangeCmpFunc_A4_'o_i_compareCards -/
noncomputable def slices_reverseRangeCmpFunc_A4_'o_i_compareCards_L1 (n : Nat) (go5 : Int × Int × (List (V4 Int)) → Option ((List (V4 Int)))) (s6 : Int × Int × (List (V4 Int))) : Option ((List (V4 Int))) :=
  br (decide (s6.1 < s6.2.1)) (ckb (inb s6.2.1 s6.2.2.length) (ckb (inb s6.1 s6.2.2.length) (ckb (inb s6.1 s6.2.2.length) (lt (List.set s6.2.2 s6.1.toNat (gl (⟨0, 0, 0, 0⟩ : (V4 Int)) s6.2.2 s6.2.1.toNat)) fun (x7 : (List (V4 Int))) => ckb (inb s6.2.1 x7.length) (lt (List.set x7 s6.2.1.toNat (gl (⟨0, 0, 0, 0⟩ : (V4 Int)) s6.2.2 s6.1.toNat)) fun (x8 : (List (V4 Int))) => lt (w64 (s6.1 + 1)) fun (x9 : Int) => lt (w64 (s6.2.1 - 1)) fun (x10 : Int) => go5 (x9, x10, x8)))))) (some s6.2.2)
noncomputable def slices_reverseRangeCmpFunc_A4_'o_i_compareCards (n : Nat) (a1 : Int) (a2 : Int) (a3 : (List (V4 Int))) : Option ((List (V4 Int))) :=
  lt (w64 (a2 - 1)) fun (x4 : Int) => fx (slices_reverseRangeCmpFunc_A4_'o_i_compareCards_L1 n) n (a1, x4, a3)

/-- slices_partialInsertionSortCmpFunc_A4_'o_i_compareCards -/
noncomputable def slices_partialInsertionSortCmpFunc_A4_'o_i_compareCards_L1 (n : Nat) (go5 : Int × Int × Int × Int × (List (V4 Int)) → Option (Bool × (List (V4 Int)))) (go21 : Int × Int × Int × Int × Int × (List (V4 Int)) → Option (Bool × (List (V4 Int)))) (s22 : Int × Int × Int × Int × Int × (List (V4 Int))) : Option (Bool × (List (V4 Int))) :=
  br (decide (s22.2.2.2.2.1 < s22.2.1)) (ckb (inb s22.2.2.2.2.1 s22.2.2.2.2.2.length) (lt (w64 (s22.2.2.2.2.1 - 1)) fun (x23 : Int) => ckb (inb x23 s22.2.2.2.2.2.length) (ob (i_compareCards n (gl (⟨0, 0, 0, 0⟩ : (V4 Int)) s22.2.2.2.2.2 s22.2.2.2.2.1.toNat) (gl (⟨0, 0, 0, 0⟩ : (V4 Int)) s22.2.2.2.2.2 x23.toNat)) fun (r24 : Int) => br (! (decide (r24 < 0))) (lt (w64 (s22.2.2.2.1 + 1)) fun (x25 : Int) => go5 (s22.1, s22.2.1, s22.2.2.1, x25, s22.2.2.2.2.2)) (lt (w64 (s22.2.2.2.2.1 - 1)) fun (x26 : Int) => lt (w64 (s22.2.2.2.2.1 - 1)) fun (x27 : Int) => ckb (inb x27 s22.2.2.2.2.2.length) (ckb (inb s22.2.2.2.2.1 s22.2.2.2.2.2.length) (ckb (inb s22.2.2.2.2.1 s22.2.2.2.2.2.length) (lt (List.set s22.2.2.2.2.2 s22.2.2.2.2.1.toNat (gl (⟨0, 0, 0, 0⟩ : (V4 Int)) s22.2.2.2.2.2 x27.toNat)) fun (x28 : (List (V4 Int))) => ckb (inb x26 x28.length) (lt (List.set x28 x26.toNat (gl (⟨0, 0, 0, 0⟩ : (V4 Int)) s22.2.2.2.2.2 s22.2.2.2.2.1.toNat)) fun (x29 : (List (V4 Int))) => lt (w64 (s22.2.2.2.2.1 + 1)) fun (x30 : Int) => go21 (s22.1, s22.2.1, s22.2.2.1, s22.2.2.2.1, x30, x29))))))))) (lt (w64 (s22.2.2.2.1 + 1)) fun (x31 : Int) => go5 (s22.1, s22.2.1, s22.2.2.1, x31, s22.2.2.2.2.2))
noncomputable def slices_partialInsertionSortCmpFunc_A4_'o_i_compareCards_J2 (n : Nat) (go5 : Int × Int × Int × Int × (List (V4 Int)) → Option (Bool × (List (V4 Int)))) (s18 : Int × Int × Int × Int × (List (V4 Int))) : Option (Bool × (List (V4 Int))) :=
  lt (w64 (s18.2.1 - s18.2.2.1)) fun (x19 : Int) => br (decide (2 ≤ x19)) (lt (w64 (s18.2.2.1 + 1)) fun (x20 : Int) => fx (slices_partialInsertionSortCmpFunc_A4_'o_i_compareCards_L1 n go5) n (s18.1, s18.2.1, s18.2.2.1, s18.2.2.2.1, x20, s18.2.2.2.2)) (lt (w64 (s18.2.2.2.1 + 1)) fun (x32 : Int) => go5 (s18.1, s18.2.1, s18.2.2.1, x32, s18.2.2.2.2))
noncomputable def slices_partialInsertionSortCmpFunc_A4_'o_i_compareCards_L3 (n : Nat) (go5 : Int × Int × Int × Int × (List (V4 Int)) → Option (Bool × (List (V4 Int)))) (go35 : Int × Int × Int × Int × Int × (List (V4 Int)) → Option (Bool × (List (V4 Int)))) (s36 : Int × Int × Int × Int × Int × (List (V4 Int))) : Option (Bool × (List (V4 Int))) :=
  br (decide (1 ≤ s36.2.2.2.2.1)) (ckb (inb s36.2.2.2.2.1 s36.2.2.2.2.2.length) (lt (w64 (s36.2.2.2.2.1 - 1)) fun (x37 : Int) => ckb (inb x37 s36.2.2.2.2.2.length) (ob (i_compareCards n (gl (⟨0, 0, 0, 0⟩ : (V4 Int)) s36.2.2.2.2.2 s36.2.2.2.2.1.toNat) (gl (⟨0, 0, 0, 0⟩ : (V4 Int)) s36.2.2.2.2.2 x37.toNat)) fun (r38 : Int) => br (! (decide (r38 < 0))) (slices_partialInsertionSortCmpFunc_A4_'o_i_compareCards_J2 n go5 (s36.1, s36.2.1, s36.2.2.1, s36.2.2.2.1, s36.2.2.2.2.2)) (lt (w64 (s36.2.2.2.2.1 - 1)) fun (x39 : Int) => lt (w64 (s36.2.2.2.2.1 - 1)) fun (x40 : Int) => ckb (inb x40 s36.2.2.2.2.2.length) (ckb (inb s36.2.2.2.2.1 s36.2.2.2.2.2.length) (ckb (inb s36.2.2.2.2.1 s36.2.2.2.2.2.length) (lt (List.set s36.2.2.2.2.2 s36.2.2.2.2.1.toNat (gl (⟨0, 0, 0, 0⟩ : (V4 Int)) s36.2.2.2.2.2 x40.toNat)) fun (x41 : (List (V4 Int))) => ckb (inb x39 x41.length) (lt (List.set x41 x39.toNat (gl (⟨0, 0, 0, 0⟩ : (V4 Int)) s36.2.2.2.2.2 s36.2.2.2.2.1.toNat)) fun (x42 : (List (V4 Int))) => lt (w64 (s36.2.2.2.2.1 - 1)) fun (x43 : Int) => go35 (s36.1, s36.2.1, s36.2.2.1, s36.2.2.2.1, x43, x42))))))))) (slices_partialInsertionSortCmpFunc_A4_'o_i_compareCards_J2 n go5 (s36.1, s36.2.1, s36.2.2.1, s36.2.2.2.1, s36.2.2.2.2.2))
noncomputable def slices_partialInsertionSortCmpFunc_A4_'o_i_compareCards_L4 (n : Nat) (go5 : Int × Int × Int × Int × (List (V4 Int)) → Option (Bool × (List (V4 Int)))) (go7 : Int × Int × Int × Int × (List (V4 Int)) → Option (Bool × (List (V4 Int)))) (s8 : Int × Int × Int × Int × (List (V4 Int))) : Option (Bool × (List (V4 Int))) :=
  ob (br (decide (s8.2.2.1 < s8.2.1)) (ckb (inb s8.2.2.1 s8.2.2.2.2.length) (lt (w64 (s8.2.2.1 - 1)) fun (x9 : Int) => ckb (inb x9 s8.2.2.2.2.length) (ob (i_compareCards n (gl (⟨0, 0, 0, 0⟩ : (V4 Int)) s8.2.2.2.2 s8.2.2.1.toNat) (gl (⟨0, 0, 0, 0⟩ : (V4 Int)) s8.2.2.2.2 x9.toNat)) fun (r10 : Int) => some (! (decide (r10 < 0)))))) (some false)) fun (x11 : Bool) => br x11 (lt (w64 (s8.2.2.1 + 1)) fun (x12 : Int) => go7 (s8.1, s8.2.1, x12, s8.2.2.2.1, s8.2.2.2.2)) (br (decide (s8.2.2.1 = s8.2.1)) (some (true, s8.2.2.2.2)) (lt (w64 (s8.2.1 - s8.1)) fun (x13 : Int) => br (decide (x13 < 50)) (some (false, s8.2.2.2.2)) (lt (w64 (s8.2.2.1 - 1)) fun (x14 : Int) => lt (w64 (s8.2.2.1 - 1)) fun (x15 : Int) => ckb (inb x15 s8.2.2.2.2.length) (ckb (inb s8.2.2.1 s8.2.2.2.2.length) (ckb (inb s8.2.2.1 s8.2.2.2.2.length) (lt (List.set s8.2.2.2.2 s8.2.2.1.toNat (gl (⟨0, 0, 0, 0⟩ : (V4 Int)) s8.2.2.2.2 x15.toNat)) fun (x16 : (List (V4 Int))) => ckb (inb x14 x16.length) (lt (List.set x16 x14.toNat (gl (⟨0, 0, 0, 0⟩ : (V4 Int)) s8.2.2.2.2 s8.2.2.1.toNat)) fun (x17 : (List (V4 Int))) => lt (w64 (s8.2.2.1 - s8.1)) fun (x33 : Int) => br (decide (2 ≤ x33)) (lt (w64 (s8.2.2.1 - 1)) fun (x34 : Int) => fx (slices_partialInsertionSortCmpFunc_A4_'o_i_compareCards_L3 n go5) n (s8.1, s8.2.1, s8.2.2.1, s8.2.2.2.1, x34, x17)) (slices_partialInsertionSortCmpFunc_A4_'o_i_compareCards_J2 n go5 (s8.1, s8.2.1, s8.2.2.1, s8.2.2.2.1, x17)))))))))
noncomputable def slices_partialInsertionSortCmpFunc_A4_'o_i_compareCards_L5 (n : Nat) (go5 : Int × Int × Int × Int × (List (V4 Int)) → Option (Bool × (List (V4 Int)))) (s6 : Int × Int × Int × Int × (List (V4 Int))) : Option (Bool × (List (V4 Int))) :=
  br (decide (s6.2.2.2.1 < 5)) (fx (slices_partialInsertionSortCmpFunc_A4_'o_i_compareCards_L4 n go5) n (s6.1, s6.2.1, s6.2.2.1, s6.2.2.2.1, s6.2.2.2.2)) (some (false, s6.2.2.2.2))
noncomputable def slices_partialInsertionSortCmpFunc_A4_'o_i_compareCards (n : Nat) (a1 : Int) (a2 : Int) (a3 : (List (V4 Int))) : Option (Bool × (List (V4 Int))) :=
  lt (w64 (a1 + 1)) fun (x4 : Int) => fx (slices_partialInsertionSortCmpFunc_A4_'o_i_compareCards_L5 n) n (a1, a2, x4, 0, a3)

/-- slices_partitionEqualCmpFunc_A4_'o_i_compareCards -/
noncomputable def slices_partitionEqualCmpFunc_A4_'o_i_compareCards_L1 (n : Nat) (go9 : Int × Int × Int × (List (V4 Int)) → Option (Int × (List (V4 Int)))) (go16 : Int × Int × Int × (List (V4 Int)) → Option (Int × (List (V4 Int)))) (s17 : Int × Int × Int × (List (V4 Int))) : Option (Int × (List (V4 Int))) :=
  ob (br (decide (s17.2.1 ≤ s17.2.2.1)) (ckb (inb s17.1 s17.2.2.2.length) (ckb (inb s17.2.2.1 s17.2.2.2.length) (ob (i_compareCards n (gl (⟨0, 0, 0, 0⟩ : (V4 Int)) s17.2.2.2 s17.1.toNat) (gl (⟨0, 0, 0, 0⟩ : (V4 Int)) s17.2.2.2 s17.2.2.1.toNat)) fun (r18 : Int) => some (decide (r18 < 0))))) (some false)) fun (x19 : Bool) => br x19 (lt (w64 (s17.2.2.1 - 1)) fun (x20 : Int) => go16 (s17.1, s17.2.1, x20, s17.2.2.2)) (br (decide (s17.2.2.1 < s17.2.1)) (some (s17.2.1, s17.2.2.2)) (ckb (inb s17.2.2.1 s17.2.2.2.length) (ckb (inb s17.2.1 s17.2.2.2.length) (ckb (inb s17.2.1 s17.2.2.2.length) (lt (List.set s17.2.2.2 s17.2.1.toNat (gl (⟨0, 0, 0, 0⟩ : (V4 Int)) s17.2.2.2 s17.2.2.1.toNat)) fun (x21 : (List (V4 Int))) => ckb (inb s17.2.2.1 x21.length) (lt (List.set x21 s17.2.2.1.toNat (gl (⟨0, 0, 0, 0⟩ : (V4 Int)) s17.2.2.2 s17.2.1.toNat)) fun (x22 : (List (V4 Int))) => lt (w64 (s17.2.1 + 1)) fun (x23 : Int) => lt (w64 (s17.2.2.1 - 1)) fun (x24 : Int) => go9 (s17.1, x23, x24, x22)))))))
noncomputable def slices_partitionEqualCmpFunc_A4_'o_i_compareCards_L2 (n : Nat) (go9 : Int × Int × Int × (List (V4 Int)) → Option (Int × (List (V4 Int)))) (go11 : Int × Int × Int × (List (V4 Int)) → Option (Int × (List (V4 Int)))) (s12 : Int × Int × Int × (List (V4 Int))) : Option (Int × (List (V4 Int))) :=
  ob (br (decide (s12.2.1 ≤ s12.2.2.1)) (ckb (inb s12.1 s12.2.2.2.length) (ckb (inb s12.2.1 s12.2.2.2.length) (ob (i_compareCards n (gl (⟨0, 0, 0, 0⟩ : (V4 Int)) s12.2.2.2 s12.1.toNat) (gl (⟨0, 0, 0, 0⟩ : (V4 Int)) s12.2.2.2 s12.2.1.toNat)) fun (r13 : Int) => some (! (decide (r13 < 0)))))) (some false)) fun (x14 : Bool) => br x14 (lt (w64 (s12.2.1 + 1)) fun (x15 : Int) => go11 (s12.1, x15, s12.2.2.1, s12.2.2.2)) (fx (slices_partitionEqualCmpFunc_A4_'o_i_compareCards_L1 n go9) n (s12.1, s12.2.1, s12.2.2.1, s12.2.2.2))
noncomputable def slices_partitionEqualCmpFunc_A4_'o_i_compareCards_L3 (n : Nat) (go9 : Int × Int × Int × (List (V4 Int)) → Option (Int × (List (V4 Int)))) (s10 : Int × Int × Int × (List (V4 Int))) : Option (Int × (List (V4 Int))) :=
  fx (slices_partitionEqualCmpFunc_A4_'o_i_compareCards_L2 n go9) n (s10.1, s10.2.1, s10.2.2.1, s10.2.2.2)
noncomputable def slices_partitionEqualCmpFunc_A4_'o_i_compareCards (n : Nat) (a1 : Int) (a2 : Int) (a3 : Int) (a4 : (List (V4 Int))) : Option (Int × (List (V4 Int))) :=
  ckb (inb a3 a4.length) (ckb (inb a1 a4.length) (ckb (inb a1 a4.length) (lt (List.set a4 a1.toNat (gl (⟨0, 0, 0, 0⟩ : (V4 Int)) a4 a3.toNat)) fun (x5 : (List (V4 Int))) => ckb (inb a3 x5.length) (lt (List.set x5 a3.toNat (gl (⟨0, 0, 0, 0⟩ : (V4 Int)) a4 a1.toNat)) fun (x6 : (List (V4 Int))) => lt (w64 (a1 + 1)) fun (x7 : Int) => lt (w64 (a2 - 1)) fun (x8 : Int) => fx (slices_partitionEqualCmpFunc_A4_'o_i_compareCards_L3 n) n (a1, x7, x8, x6)))))

/-- slices_partitionCmpFunc_A4_'o_i_compareCards -/
noncomputable def slices_partitionCmpFunc_A4_'o_i_compareCards_L1 (n : Nat) (go25 : Int × Int × Int × (List (V4 Int)) → Option (Int × Bool × (List (V4 Int)))) (go32 : Int × Int × Int × (List (V4 Int)) → Option (Int × Bool × (List (V4 Int)))) (s33 : Int × Int × Int × (List (V4 Int))) : Option (Int × Bool × (List (V4 Int))) :=
  ob (br (decide (s33.2.1 ≤ s33.2.2.1)) (ckb (inb s33.2.2.1 s33.2.2.2.length) (ckb (inb s33.1 s33.2.2.2.length) (ob (i_compareCards n (gl (⟨0, 0, 0, 0⟩ : (V4 Int)) s33.2.2.2 s33.2.2.1.toNat) (gl (⟨0, 0, 0, 0⟩ : (V4 Int)) s33.2.2.2 s33.1.toNat)) fun (r34 : Int) => some (! (decide (r34 < 0)))))) (some false)) fun (x35 : Bool) => br x35 (lt (w64 (s33.2.2.1 - 1)) fun (x36 : Int) => go32 (s33.1, s33.2.1, x36, s33.2.2.2)) (br (decide (s33.2.2.1 < s33.2.1)) (ckb (inb s33.1 s33.2.2.2.length) (ckb (inb s33.2.2.1 s33.2.2.2.length) (ckb (inb s33.2.2.1 s33.2.2.2.length) (lt (List.set s33.2.2.2 s33.2.2.1.toNat (gl (⟨0, 0, 0, 0⟩ : (V4 Int)) s33.2.2.2 s33.1.toNat)) fun (x37 : (List (V4 Int))) => ckb (inb s33.1 x37.length) (lt (List.set x37 s33.1.toNat (gl (⟨0, 0, 0, 0⟩ : (V4 Int)) s33.2.2.2 s33.2.2.1.toNat)) fun (x38 : (List (V4 Int))) => some (s33.2.2.1, false, x38)))))) (ckb (inb s33.2.2.1 s33.2.2.2.length) (ckb (inb s33.2.1 s33.2.2.2.length) (ckb (inb s33.2.1 s33.2.2.2.length) (lt (List.set s33.2.2.2 s33.2.1.toNat (gl (⟨0, 0, 0, 0⟩ : (V4 Int)) s33.2.2.2 s33.2.2.1.toNat)) fun (x39 : (List (V4 Int))) => ckb (inb s33.2.2.1 x39.length) (lt (List.set x39 s33.2.2.1.toNat (gl (⟨0, 0, 0, 0⟩ : (V4 Int)) s33.2.2.2 s33.2.1.toNat)) fun (x40 : (List (V4 Int))) => lt (w64 (s33.2.1 + 1)) fun (x41 : Int) => lt (w64 (s33.2.2.1 - 1)) fun (x42 : Int) => go25 (s33.1, x41, x42, x40)))))))
noncomputable def slices_partitionCmpFunc_A4_'o_i_compareCards_L2 (n : Nat) (go25 : Int × Int × Int × (List (V4 Int)) → Option (Int × Bool × (List (V4 Int)))) (go27 : Int × Int × Int × (List (V4 Int)) → Option (Int × Bool × (List (V4 Int)))) (s28 : Int × Int × Int × (List (V4 Int))) : Option (Int × Bool × (List (V4 Int))) :=
  ob (br (decide (s28.2.1 ≤ s28.2.2.1)) (ckb (inb s28.2.1 s28.2.2.2.length) (ckb (inb s28.1 s28.2.2.2.length) (ob (i_compareCards n (gl (⟨0, 0, 0, 0⟩ : (V4 Int)) s28.2.2.2 s28.2.1.toNat) (gl (⟨0, 0, 0, 0⟩ : (V4 Int)) s28.2.2.2 s28.1.toNat)) fun (r29 : Int) => some (decide (r29 < 0))))) (some false)) fun (x30 : Bool) => br x30 (lt (w64 (s28.2.1 + 1)) fun (x31 : Int) => go27 (s28.1, x31, s28.2.2.1, s28.2.2.2)) (fx (slices_partitionCmpFunc_A4_'o_i_compareCards_L1 n go25) n (s28.1, s28.2.1, s28.2.2.1, s28.2.2.2))
noncomputable def slices_partitionCmpFunc_A4_'o_i_compareCards_L3 (n : Nat) (go25 : Int × Int × Int × (List (V4 Int)) → Option (Int × Bool × (List (V4 Int)))) (s26 : Int × Int × Int × (List (V4 Int))) : Option (Int × Bool × (List (V4 Int))) :=
  fx (slices_partitionCmpFunc_A4_'o_i_compareCards_L2 n go25) n (s26.1, s26.2.1, s26.2.2.1, s26.2.2.2)
noncomputable def slices_partitionCmpFunc_A4_'o_i_compareCards_L4 (n : Nat) (go14 : Int × Int × Int × (List (V4 Int)) → Option (Int × Bool × (List (V4 Int)))) (s15 : Int × Int × Int × (List (V4 Int))) : Option (Int × Bool × (List (V4 Int))) :=
  ob (br (decide (s15.2.1 ≤ s15.2.2.1)) (ckb (inb s15.2.2.1 s15.2.2.2.length) (ckb (inb s15.1 s15.2.2.2.length) (ob (i_compareCards n (gl (⟨0, 0, 0, 0⟩ : (V4 Int)) s15.2.2.2 s15.2.2.1.toNat) (gl (⟨0, 0, 0, 0⟩ : (V4 Int)) s15.2.2.2 s15.1.toNat)) fun (r16 : Int) => some (! (decide (r16 < 0)))))) (some false)) fun (x17 : Bool) => br x17 (lt (w64 (s15.2.2.1 - 1)) fun (x18 : Int) => go14 (s15.1, s15.2.1, x18, s15.2.2.2)) (br (decide (s15.2.2.1 < s15.2.1)) (ckb (inb s15.1 s15.2.2.2.length) (ckb (inb s15.2.2.1 s15.2.2.2.length) (ckb (inb s15.2.2.1 s15.2.2.2.length) (lt (List.set s15.2.2.2 s15.2.2.1.toNat (gl (⟨0, 0, 0, 0⟩ : (V4 Int)) s15.2.2.2 s15.1.toNat)) fun (x19 : (List (V4 Int))) => ckb (inb s15.1 x19.length) (lt (List.set x19 s15.1.toNat (gl (⟨0, 0, 0, 0⟩ : (V4 Int)) s15.2.2.2 s15.2.2.1.toNat)) fun (x20 : (List (V4 Int))) => some (s15.2.2.1, true, x20)))))) (ckb (inb s15.2.2.1 s15.2.2.2.length) (ckb (inb s15.2.1 s15.2.2.2.length) (ckb (inb s15.2.1 s15.2.2.2.length) (lt (List.set s15.2.2.2 s15.2.1.toNat (gl (⟨0, 0, 0, 0⟩ : (V4 Int)) s15.2.2.2 s15.2.2.1.toNat)) fun (x21 : (List (V4 Int))) => ckb (inb s15.2.2.1 x21.length) (lt (List.set x21 s15.2.2.1.toNat (gl (⟨0, 0, 0, 0⟩ : (V4 Int)) s15.2.2.2 s15.2.1.toNat)) fun (x22 : (List (V4 Int))) => lt (w64 (s15.2.1 + 1)) fun (x23 : Int) => lt (w64 (s15.2.2.1 - 1)) fun (x24 : Int) => fx (slices_partitionCmpFunc_A4_'o_i_compareCards_L3 n) n (s15.1, x23, x24, x22)))))))
noncomputable def slices_partitionCmpFunc_A4_'o_i_compareCards_L5 (n : Nat) (go9 : Int × Int × Int × (List (V4 Int)) → Option (Int × Bool × (List (V4 Int)))) (s10 : Int × Int × Int × (List (V4 Int))) : Option (Int × Bool × (List (V4 Int))) :=
  ob (br (decide (s10.2.1 ≤ s10.2.2.1)) (ckb (inb s10.2.1 s10.2.2.2.length) (ckb (inb s10.1 s10.2.2.2.length) (ob (i_compareCards n (gl (⟨0, 0, 0, 0⟩ : (V4 Int)) s10.2.2.2 s10.2.1.toNat) (gl (⟨0, 0, 0, 0⟩ : (V4 Int)) s10.2.2.2 s10.1.toNat)) fun (r11 : Int) => some (decide (r11 < 0))))) (some false)) fun (x12 : Bool) => br x12 (lt (w64 (s10.2.1 + 1)) fun (x13 : Int) => go9 (s10.1, x13, s10.2.2.1, s10.2.2.2)) (fx (slices_partitionCmpFunc_A4_'o_i_compareCards_L4 n) n (s10.1, s10.2.1, s10.2.2.1, s10.2.2.2))
noncomputable def slices_partitionCmpFunc_A4_'o_i_compareCards (n : Nat) (a1 : Int) (a2 : Int) (a3 : Int) (a4 : (List (V4 Int))) : Option (Int × Bool × (List (V4 Int))) :=
  ckb (inb a3 a4.length) (ckb (inb a1 a4.length) (ckb (inb a1 a4.length) (lt (List.set a4 a1.toNat (gl (⟨0, 0, 0, 0⟩ : (V4 Int)) a4 a3.toNat)) fun (x5 : (List (V4 Int))) => ckb (inb a3 x5.length) (lt (List.set x5 a3.toNat (gl (⟨0, 0, 0, 0⟩ : (V4 Int)) a4 a1.toNat)) fun (x6 : (List (V4 Int))) => lt (w64 (a1 + 1)) fun (x7 : Int) => lt (w64 (a2 - 1)) fun (x8 : Int) => fx (slices_partitionCmpFunc_A4_'o_i_compareCards_L5 n) n (a1, x7, x8, x6)))))

/-- slices_pdqsortCmpFunc_A4_'o_i_compareCards -/
noncomputable def slices_pdqsortCmpFunc_A4_'o_i_compareCards_J1 (n : Nat) (go0 : Int × Int × Int × (List (V4 Int)) → Option ((List (V4 Int)))) (go5 : Int × Int × Int × Bool × Bool × (List (V4 Int)) → Option ((List (V4 Int)))) (s13 : Int × Int × Int × Bool × Bool × Int × Int × (List (V4 Int))) : Option ((List (V4 Int))) :=
  ob (br (decide (0 < s13.1)) (lt (w64 (s13.1 - 1)) fun (x14 : Int) => ckb (inb x14 s13.2.2.2.2.2.2.2.length) (ckb (inb s13.2.2.2.2.2.2.1 s13.2.2.2.2.2.2.2.length) (ob (i_compareCards n (gl (⟨0, 0, 0, 0⟩ : (V4 Int)) s13.2.2.2.2.2.2.2 x14.toNat) (gl (⟨0, 0, 0, 0⟩ : (V4 Int)) s13.2.2.2.2.2.2.2 s13.2.2.2.2.2.2.1.toNat)) fun (r15 : Int) => some (! (decide (r15 < 0)))))) (some false)) fun (x16 : Bool) => br x16 (ob (slices_partitionEqualCmpFunc_A4_'o_i_compareCards n s13.1 s13.2.1 s13.2.2.2.2.2.2.1 s13.2.2.2.2.2.2.2) fun (r17 : Int × (List (V4 Int))) => go5 (r17.1, s13.2.1, s13.2.2.1, s13.2.2.2.1, s13.2.2.2.2.1, r17.2)) (ob (slices_partitionCmpFunc_A4_'o_i_compareCards n s13.1 s13.2.1 s13.2.2.2.2.2.2.1 s13.2.2.2.2.2.2.2) fun (r18 : Int × Bool × (List (V4 Int))) => lt (w64 (r18.1 - s13.1)) fun (x19 : Int) => lt (w64 (s13.2.1 - r18.1)) fun (x20 : Int) => lt (w64 (Int.tdiv s13.2.2.2.2.2.1 8)) fun (x21 : Int) => br (decide (x19 < x20)) (ob (go0 (s13.1, r18.1, s13.2.2.1, r18.2.2)) fun (r22 : (List (V4 Int))) => lt (w64 (r18.1 + 1)) fun (x23 : Int) => go5 (x23, s13.2.1, s13.2.2.1, (decide (x21 ≤ x19)), r18.2.1, r22)) (lt (w64 (r18.1 + 1)) fun (x24 : Int) => ob (go0 (x24, s13.2.1, s13.2.2.1, r18.2.2)) fun (r25 : (List (V4 Int))) => go5 (s13.1, r18.1, s13.2.2.1, (decide (x21 ≤ x20)), r18.2.1, r25)))
noncomputable def slices_pdqsortCmpFunc_A4_'o_i_compareCards_J2 (n : Nat) (go0 : Int × Int × Int × (List (V4 Int)) → Option ((List (V4 Int)))) (go5 : Int × Int × Int × Bool × Bool × (List (V4 Int)) → Option ((List (V4 Int)))) (s12 : Int × Int × Int × Bool × Bool × Int × Int × Int × (List (V4 Int))) : Option ((List (V4 Int))) :=
  ob (br s12.2.2.2.1 (some s12.2.2.2.2.1) (some false)) fun (x26 : Bool) => ob (br x26 (some (decide (s12.2.2.2.2.2.2.2.1 = 1))) (some false)) fun (x27 : Bool) => br x27 (ob (slices_partialInsertionSortCmpFunc_A4_'o_i_compareCards n s12.1 s12.2.1 s12.2.2.2.2.2.2.2.2) fun (r28 : Bool × (List (V4 Int))) => br r28.1 (some r28.2) (slices_pdqsortCmpFunc_A4_'o_i_compareCards_J1 n go0 go5 (s12.1, s12.2.1, s12.2.2.1, s12.2.2.2.1, s12.2.2.2.2.1, s12.2.2.2.2.2.1, s12.2.2.2.2.2.2.1, r28.2))) (slices_pdqsortCmpFunc_A4_'o_i_compareCards_J1 n go0 go5 (s12.1, s12.2.1, s12.2.2.1, s12.2.2.2.1, s12.2.2.2.2.1, s12.2.2.2.2.2.1, s12.2.2.2.2.2.2.1, s12.2.2.2.2.2.2.2.2))
noncomputable def slices_pdqsortCmpFunc_A4_'o_i_compareCards_J3 (n : Nat) (go0 : Int × Int × Int × (List (V4 Int)) → Option ((List (V4 Int)))) (go5 : Int × Int × Int × Bool × Bool × (List (V4 Int)) → Option ((List (V4 Int)))) (s10 : Int × Int × Int × Bool × Bool × Int × (List (V4 Int))) : Option ((List (V4 Int))) :=
  ob (slices_choosePivotCmpFunc_A4_'l_i_compareCards n s10.2.2.2.2.2.2 s10.1 s10.2.1) fun (r11 : Int × Int) => br (decide (r11.2 = 2)) (ob (slices_reverseRangeCmpFunc_A4_'o_i_compareCards n s10.1 s10.2.1 s10.2.2.2.2.2.2) fun (r29 : (List (V4 Int))) => lt (w64 (s10.2.1 - 1)) fun (x30 : Int) => lt (w64 (r11.1 - s10.1)) fun (x31 : Int) => lt (w64 (x30 - x31)) fun (x32 : Int) => slices_pdqsortCmpFunc_A4_'o_i_compareCards_J2 n go0 go5 (s10.1, s10.2.1, s10.2.2.1, s10.2.2.2.1, s10.2.2.2.2.1, s10.2.2.2.2.2.1, x32, 1, r29)) (slices_pdqsortCmpFunc_A4_'o_i_compareCards_J2 n go0 go5 (s10.1, s10.2.1, s10.2.2.1, s10.2.2.2.1, s10.2.2.2.2.1, s10.2.2.2.2.2.1, r11.1, r11.2, s10.2.2.2.2.2.2))
noncomputable def slices_pdqsortCmpFunc_A4_'o_i_compareCards_L4 (n : Nat) (go0 : Int × Int × Int × (List (V4 Int)) → Option ((List (V4 Int)))) (go5 : Int × Int × Int × Bool × Bool × (List (V4 Int)) → Option ((List (V4 Int)))) (s6 : Int × Int × Int × Bool × Bool × (List (V4 Int))) : Option ((List (V4 Int))) :=
  lt (w64 (s6.2.1 - s6.1)) fun (x7 : Int) => br (decide (x7 ≤ 12)) (ob (slices_insertionSortCmpFunc_A4_'o_i_compareCards n s6.1 s6.2.1 s6.2.2.2.2.2) fun (r8 : (List (V4 Int))) => some r8) (br (decide (s6.2.2.1 = 0)) (ob (slices_heapSortCmpFunc_A4_'o_i_compareCards n s6.1 s6.2.1 s6.2.2.2.2.2) fun (r9 : (List (V4 Int))) => some r9) (br (! s6.2.2.2.1) (ob (slices_breakPatternsCmpFunc_A4_'o_i_compareCards n s6.1 s6.2.1 s6.2.2.2.2.2) fun (r33 : (List (V4 Int))) => lt (w64 (s6.2.2.1 - 1)) fun (x34 : Int) => slices_pdqsortCmpFunc_A4_'o_i_compareCards_J3 n go0 go5 (s6.1, s6.2.1, x34, s6.2.2.2.1, s6.2.2.2.2.1, x7, r33)) (slices_pdqsortCmpFunc_A4_'o_i_compareCards_J3 n go0 go5 (s6.1, s6.2.1, s6.2.2.1, s6.2.2.2.1, s6.2.2.2.2.1, x7, s6.2.2.2.2.2))))
noncomputable def slices_pdqsortCmpFunc_A4_'o_i_compareCards_R (n : Nat) (go0 : Int × Int × Int × (List (V4 Int)) → Option ((List (V4 Int)))) (x : Int × Int × Int × (List (V4 Int))) : Option ((List (V4 Int))) :=
  (fun (a1 : Int) (a2 : Int) (a3 : Int) (a4 : (List (V4 Int))) => fx (slices_pdqsortCmpFunc_A4_'o_i_compareCards_L4 n go0) n (a1, a2, a3, true, true, a4)) x.1 x.2.1 x.2.2.1 x.2.2.2
noncomputable def slices_pdqsortCmpFunc_A4_'o_i_compareCards (n : Nat) (a1 : Int) (a2 : Int) (a3 : Int) (a4 : (List (V4 Int))) : Option ((List (V4 Int))) := fx (slices_pdqsortCmpFunc_A4_'o_i_compareCards_R n) n (a1, a2, a3, a4)

/-- slices_SortFunc_SA4_A4_'o_i_compareCards -/
noncomputable def slices_SortFunc_SA4_A4_'o_i_compareCards (n : Nat) (a1 : (List (V4 Int))) : Option ((List (V4 Int))) :=
  lt (IntKind.wrap .u64 (a1.length : Int)) fun (x2 : Int) => ob (math_bits_Len n x2) fun (r3 : Int) => ob (slices_pdqsortCmpFunc_A4_'o_i_compareCards n 0 (a1.length : Int) r3 a1) fun (r4 : (List (V4 Int))) => some r4

/-- slices_Compact_SA4_A4_'o -/
noncomputable def slices_Compact_SA4_A4_'o_L1 (n : Nat) (go5 : Int × Int × Int × Int × (List (V4 Int)) → Option ((List (V4 Int)))) (s6 : Int × Int × Int × Int × (List (V4 Int))) : Option ((List (V4 Int))) :=
  br (decide (s6.2.2.2.1 < (s6.2.2.1.toNat : Int))) (ckb (cand (inb s6.2.2.2.1 s6.2.2.1.toNat) (nlt (s6.2.1.toNat + s6.2.2.2.1.toNat) s6.2.2.2.2.length)) (lt (w64 (s6.2.2.2.1 - 1)) fun (x7 : Int) => ckb (cand (inb x7 s6.2.2.1.toNat) (nlt (s6.2.1.toNat + x7.toNat) s6.2.2.2.2.length)) (br (!eqd (gl (⟨0, 0, 0, 0⟩ : (V4 Int)) s6.2.2.2.2 (s6.2.1.toNat + s6.2.2.2.1.toNat)) (gl (⟨0, 0, 0, 0⟩ : (V4 Int)) s6.2.2.2.2 (s6.2.1.toNat + x7.toNat))) (ckb (cand (inb s6.2.2.2.1 s6.2.2.1.toNat) (nlt (s6.2.1.toNat + s6.2.2.2.1.toNat) s6.2.2.2.2.length)) (ckb (inb s6.1 s6.2.2.2.2.length) (lt (List.set s6.2.2.2.2 s6.1.toNat (gl (⟨0, 0, 0, 0⟩ : (V4 Int)) s6.2.2.2.2 (s6.2.1.toNat + s6.2.2.2.1.toNat))) fun (x8 : (List (V4 Int))) => lt (w64 (s6.1 + 1)) fun (x9 : Int) => lt (w64 (s6.2.2.2.1 + 1)) fun (x10 : Int) => go5 (x9, (s6.2.1.toNat : Int), (s6.2.2.1.toNat : Int), x10, x8)))) (lt (w64 (s6.2.2.2.1 + 1)) fun (x11 : Int) => go5 (s6.1, (s6.2.1.toNat : Int), (s6.2.2.1.toNat : Int), x11, s6.2.2.2.2))))) (ckb (slb s6.1 (s6.2.2.2.2.length : Int) s6.2.2.2.2.length) (ckb (slb 0 s6.1 (clr (⟨0, 0, 0, 0⟩ : (V4 Int)) s6.2.2.2.2 s6.1.toNat (w64 ((s6.2.2.2.2.length : Int) - s6.1)).toNat).length) (some (sub (clr (⟨0, 0, 0, 0⟩ : (V4 Int)) s6.2.2.2.2 s6.1.toNat (w64 ((s6.2.2.2.2.length : Int) - s6.1)).toNat) 0 (w64 (s6.1 - 0)).toNat))))
noncomputable def slices_Compact_SA4_A4_'o_L2 (n : Nat) (go2 : Int × (List (V4 Int)) → Option ((List (V4 Int)))) (s3 : Int × (List (V4 Int))) : Option ((List (V4 Int))) :=
  br (decide (s3.1 < (s3.2.length : Int))) (ckb (inb s3.1 s3.2.length) (lt (w64 (s3.1 - 1)) fun (x4 : Int) => ckb (inb x4 s3.2.length) (br (eqd (gl (⟨0, 0, 0, 0⟩ : (V4 Int)) s3.2 s3.1.toNat) (gl (⟨0, 0, 0, 0⟩ : (V4 Int)) s3.2 x4.toNat)) (ckb (slb s3.1 (s3.2.length : Int) s3.2.length) (fx (slices_Compact_SA4_A4_'o_L1 n) n (s3.1, (s3.1.toNat : Int), ((w64 ((s3.2.length : Int) - s3.1)).toNat : Int), 1, s3.2))) (lt (w64 (s3.1 + 1)) fun (x12 : Int) => go2 (x12, s3.2))))) (some s3.2)
noncomputable def slices_Compact_SA4_A4_'o (n : Nat) (a1 : (List (V4 Int))) : Option ((List (V4 Int))) :=
  br (decide ((a1.length : Int) < 2)) (some a1) (fx (slices_Compact_SA4_A4_'o_L2 n) n (1, a1))

/-- i_sorted -/
noncomputable def i_sorted (n : Nat) (a1 : (List (V4 Int))) : Option ((List (V4 Int))) :=
  ob (slices_Clone_SA4_A4_ n a1) fun (r2 : (List (V4 Int))) => ob (slices_SortFunc_SA4_A4_'o_i_compareCards n r2) fun (r3 : (List (V4 Int))) => ob (slices_Compact_SA4_A4_'o n r3) fun (r4 : (List (V4 Int))) => ob (slices_Clone_SA4_A4_ n r4) fun (r5 : (List (V4 Int))) => some r5

/-- s_Cur_next'p -/
noncomputable def s_Cur_next'p_J1 (n : Nat) (s2 : Int × ((List Int) × (Int × Int))) : Option (Int × ((List Int) × (Int × Int))) :=
  lt (w64 (s2.2.2.1 + 1)) fun (x3 : Int) => lt (s2.2.1, (x3, s2.2.2.2)) fun (x4 : ((List Int) × (Int × Int))) => lt (IntKind.wrap .u64 (x4.2.2 * 6364136223846793005)) fun (x5 : Int) => lt (IntKind.wrap .u64 s2.1) fun (x6 : Int) => lt (IntKind.wrap .u64 (x5 + x6)) fun (x7 : Int) => lt (IntKind.wrap .u64 (x7 + 462197)) fun (x8 : Int) => lt (x4.1, (x4.2.1, x8)) fun (x9 : ((List Int) × (Int × Int))) => br (decide (x9.2.1 ≤ (x9.1.length : Int))) (some (s2.1, x9)) (lt (shrI .u64 x9.2.2 40) fun (x10 : Int) => lt (bits .and .u64 x10 255) fun (x11 : Int) => lt (w64 x11) fun (x12 : Int) => some (x12, x9))
noncomputable def s_Cur_next'p (n : Nat) (a1 : ((List Int) × (Int × Int))) : Option (Int × ((List Int) × (Int × Int))) :=
  br (decide (a1.2.1 < (a1.1.length : Int))) (ckb (inb a1.2.1 a1.1.length) (lt (w64 (gl 0 a1.1 a1.2.1.toNat)) fun (x13 : Int) => s_Cur_next'p_J1 n (x13, a1))) (s_Cur_next'p_J1 n (0, a1))

/-- s_Cur_pick'p -/
noncomputable def s_Cur_pick'p (n : Nat) (a1 : Int) (a2 : ((List Int) × (Int × Int))) : Option (Int × ((List Int) × (Int × Int))) :=
  br (decide (a1 ≤ 1)) (some (0, a2)) (ob (s_Cur_next'p n a2) fun (r3 : Int × ((List Int) × (Int × Int))) => br (decide (200 < a1)) (lt (w64 (r3.1 * 256)) fun (x4 : Int) => ob (s_Cur_next'p n r3.2) fun (r5 : Int × ((List Int) × (Int × Int))) => lt (w64 (x4 + r5.1)) fun (x6 : Int) => ckb (!decide (a1 = 0)) (lt (Int.tmod x6 a1) fun (x7 : Int) => some (x7, r5.2))) (ckb (!decide (a1 = 0)) (lt (Int.tmod r3.1 a1) fun (x8 : Int) => some (x8, r3.2))))

/-- s_Cur_among'pl -/
noncomputable def s_Cur_among'pl (n : Nat) (a1 : (List Int)) (a2 : ((List Int) × (Int × Int))) : Option (Int × ((List Int) × (Int × Int))) :=
  ob (s_Cur_pick'p n (a1.length : Int) a2) fun (r3 : Int × ((List Int) × (Int × Int))) => ckb (inb r3.1 a1.length) (some ((gl 0 a1 r3.1.toNat), r3.2))

/-- s_l2At -/
noncomputable def s_l2At (n : Nat) (a1 : Int) : Option ((V4 Int)) :=
  lt (w64 (Int.tdiv a1 27)) fun (x2 : Int) => lt (w64 (Int.tdiv a1 9)) fun (x3 : Int) => lt (Int.tmod x3 3) fun (x4 : Int) => lt (w64 (Int.tdiv a1 3)) fun (x5 : Int) => lt (Int.tmod x5 3) fun (x6 : Int) => lt (Int.tmod a1 3) fun (x7 : Int) => lt (⟨x2, x4, x6, x7⟩ : (V4 Int)) fun (x8 : (V4 Int)) => some x8

/-- s_l2Number -/
noncomputable def s_l2Number (n : Nat) (a1 : (V4 Int)) : Option (Int) :=
  lt (w64 (27 * a1.x0)) fun (x2 : Int) => lt (w64 (9 * a1.x1)) fun (x3 : Int) => lt (w64 (x2 + x3)) fun (x4 : Int) => lt (w64 (3 * a1.x2)) fun (x5 : Int) => lt (w64 (x4 + x5)) fun (x6 : Int) => lt (w64 (x6 + a1.x3)) fun (x7 : Int) => some x7

/-- s_l2Less -/
noncomputable def s_l2Less (n : Nat) (a1 : (V4 Int)) (a2 : (V4 Int)) : Option (Bool) :=
  ob (s_l2Number n a1) fun (r3 : Int) => ob (s_l2Number n a2) fun (r4 : Int) => some (decide (r3 < r4))

/-- s_l2Own -/
noncomputable def s_l2Own (n : Nat) (a1 : (List (V4 Int))) : Option ((List (V4 Int))) :=
  ckb (apok 32 (0 + a1.length)) (some a1)

/-- s_l2Put -/
noncomputable def s_l2Put_L1 (n : Nat) (go3 : (List (V4 Int)) × Int × (V4 Int) → Option ((List (V4 Int)))) (s4 : (List (V4 Int)) × Int × (V4 Int)) : Option ((List (V4 Int))) :=
  ob (br (decide (s4.2.1 < (s4.1.length : Int))) (ckb (inb s4.2.1 s4.1.length) (ob (s_l2Less n (gl (⟨0, 0, 0, 0⟩ : (V4 Int)) s4.1 s4.2.1.toNat) s4.2.2) fun (r5 : Bool) => some r5)) (some false)) fun (x6 : Bool) => br x6 (lt (w64 (s4.2.1 + 1)) fun (x7 : Int) => go3 (s4.1, x7, s4.2.2)) (ob (br (decide (s4.2.1 < (s4.1.length : Int))) (ckb (inb s4.2.1 s4.1.length) (some (eqd (gl (⟨0, 0, 0, 0⟩ : (V4 Int)) s4.1 s4.2.1.toNat) s4.2.2))) (some false)) fun (x8 : Bool) => br x8 (ob (s_l2Own n s4.1) fun (r9 : (List (V4 Int))) => some r9) (ckb (slb 0 s4.2.1 s4.1.length) (ob (s_l2Own n (sub s4.1 0 s4.2.1.toNat)) fun (r10 : (List (V4 Int))) => ckb (apok 32 (r10.length + 1)) (ckb (slb s4.2.1 (s4.1.length : Int) s4.1.length) (ckb (apok 32 ((r10 ++ [s4.2.2]).length + (sub s4.1 s4.2.1.toNat s4.1.length).length)) (some ((r10 ++ [s4.2.2]) ++ (sub s4.1 s4.2.1.toNat s4.1.length))))))))
noncomputable def s_l2Put (n : Nat) (a1 : (List (V4 Int))) (a2 : (V4 Int)) : Option ((List (V4 Int))) :=
  fx (s_l2Put_L1 n) n (a1, 0, a2)

/-- s_Cur_one'p -/
noncomputable def s_Cur_one'p (n : Nat) (a1 : Int) (a2 : ((List Int) × (Int × Int))) : Option (Bool × ((List Int) × (Int × Int))) :=
  ob (s_Cur_pick'p n a1 a2) fun (r3 : Int × ((List Int) × (Int × Int))) => some ((decide (r3.1 = 0)), r3.2)

/-- s_Cur_hand'p -/
noncomputable def s_Cur_hand'p_L1 (n : Nat) (go4 : Int × Int × ((List Int) × (Int × Int)) × (List (V4 Int)) → Option (((List Int) × (Int × Int)) × (List (V4 Int)))) (go8 : Int × Int × Int × ((List Int) × (Int × Int)) × (List (V4 Int)) × (V4 Int) → Option (((List Int) × (Int × Int)) × (List (V4 Int)))) (s9 : Int × Int × Int × ((List Int) × (Int × Int)) × (List (V4 Int)) × (V4 Int)) : Option (((List Int) × (Int × Int)) × (List (V4 Int))) :=
  br (decide (s9.2.2.1 < 4)) (ckb (inb s9.2.2.1 4) (lt (V4.set s9.2.2.2.2.2 s9.2.2.1.toNat 1) fun (x10 : (V4 Int)) => lt (w64 (s9.2.2.1 + 1)) fun (x11 : Int) => go8 (s9.1, s9.2.1, x11, s9.2.2.2.1, s9.2.2.2.2.1, x10))) (ob (s_l2Put n s9.2.2.2.2.1 s9.2.2.2.2.2) fun (r12 : (List (V4 Int))) => lt (w64 (s9.2.1 - 1)) fun (x13 : Int) => go4 (s9.1, x13, s9.2.2.2.1, r12))
noncomputable def s_Cur_hand'p_J2 (n : Nat) (s14 : Bool × ((List Int) × (Int × Int)) × (List (V4 Int))) : Option (((List Int) × (Int × Int)) × (List (V4 Int))) :=
  br s14.1 (ob (s_Cur_pick'p n (s14.2.2.length : Int) s14.2.1) fun (r15 : Int × ((List Int) × (Int × Int))) => ob (s_Cur_pick'p n 3 r15.2) fun (r16 : Int × ((List Int) × (Int × Int))) => br (decide (r16.1 = 0)) (ob (s_Cur_pick'p n 4 r16.2) fun (r17 : Int × ((List Int) × (Int × Int))) => ob (s_Cur_among'pl n [(-1), 3] r17.2) fun (r18 : Int × ((List Int) × (Int × Int))) => ckb (inb r15.1 s14.2.2.length) (ckb (inb r17.1 4) (lt (List.set s14.2.2 r15.1.toNat (V4.set (gl (⟨0, 0, 0, 0⟩ : (V4 Int)) s14.2.2 r15.1.toNat) r17.1.toNat r18.1)) fun (x19 : (List (V4 Int))) => some (r18.2, x19)))) (br (decide (r16.1 = 1)) (ckb (inb r15.1 s14.2.2.length) (ckb (apok 32 (s14.2.2.length + 1)) (some (r16.2, (s14.2.2 ++ [(gl (⟨0, 0, 0, 0⟩ : (V4 Int)) s14.2.2 r15.1.toNat)]))))) (ob (s_Cur_pick'p n 81 r16.2) fun (r20 : Int × ((List Int) × (Int × Int))) => ob (s_l2At n r20.1) fun (r21 : (V4 Int)) => ckb (inb r15.1 s14.2.2.length) (lt (List.set s14.2.2 r15.1.toNat r21) fun (x22 : (List (V4 Int))) => some (r20.2, x22))))) (some (s14.2.1, s14.2.2))
noncomputable def s_Cur_hand'p_L3 (n : Nat) (go4 : Int × Int × ((List Int) × (Int × Int)) × (List (V4 Int)) → Option (((List Int) × (Int × Int)) × (List (V4 Int)))) (s5 : Int × Int × ((List Int) × (Int × Int)) × (List (V4 Int))) : Option (((List Int) × (Int × Int)) × (List (V4 Int))) :=
  br (decide (0 < s5.2.1)) (ob (s_Cur_pick'p n 81 s5.2.2.1) fun (r6 : Int × ((List Int) × (Int × Int))) => ob (s_l2At n r6.1) fun (r7 : (V4 Int)) => fx (s_Cur_hand'p_L1 n go4) n (s5.1, s5.2.1, s5.1, r6.2, s5.2.2.2, r7)) (br (decide (0 < (s5.2.2.2.length : Int))) (ob (s_Cur_one'p n 24 s5.2.2.1) fun (r23 : Bool × ((List Int) × (Int × Int))) => s_Cur_hand'p_J2 n (r23.1, r23.2, s5.2.2.2)) (s_Cur_hand'p_J2 n (false, s5.2.2.1, s5.2.2.2)))
noncomputable def s_Cur_hand'p (n : Nat) (a1 : ((List Int) × (Int × Int))) : Option (((List Int) × (Int × Int)) × (List (V4 Int))) :=
  ob (s_Cur_among'pl n [4, 3, 4, 2] a1) fun (r2 : Int × ((List Int) × (Int × Int))) => ob (s_Cur_among'pl n [6, 9, 4, 12, 3, 2, 1, 0, 20, 26, 27, 28] r2.2) fun (r3 : Int × ((List Int) × (Int × Int))) => fx (s_Cur_hand'p_L3 n) n (r2.1, r3.1, r3.2, ([] : List (V4 Int)))

/-- s_l2Hand -/
noncomputable def s_l2Hand_L1 (n : Nat) (go2 : (List (V4 Int)) × Int → Option (Bool)) (s3 : (List (V4 Int)) × Int) : Option (Bool) :=
  ob (br (decide (s3.2 < (s3.1.length : Int))) (some (decide (s3.2 ≤ 27))) (some false)) fun (x4 : Bool) => br x4 (ckb (inb s3.2 s3.1.length) (ob (s_l2Card n (gl (⟨0, 0, 0, 0⟩ : (V4 Int)) s3.1 s3.2.toNat)) fun (r5 : Bool) => ob (br (! r5) (some true) (ob (br (decide (0 < s3.2)) (lt (w64 (s3.2 - 1)) fun (x6 : Int) => ckb (inb x6 s3.1.length) (ckb (inb s3.2 s3.1.length) (ob (s_l2Less n (gl (⟨0, 0, 0, 0⟩ : (V4 Int)) s3.1 x6.toNat) (gl (⟨0, 0, 0, 0⟩ : (V4 Int)) s3.1 s3.2.toNat)) fun (r7 : Bool) => some (! r7)))) (some false)) fun (x8 : Bool) => some x8)) fun (x9 : Bool) => br x9 (some false) (lt (w64 (s3.2 + 1)) fun (x10 : Int) => go2 (s3.1, x10)))) (some (decide ((s3.1.length : Int) ≤ 27)))
noncomputable def s_l2Hand (n : Nat) (a1 : (List (V4 Int))) : Option (Bool) :=
  fx (s_l2Hand_L1 n) n (a1, 0)

/-- s_l2Third -/
noncomputable def s_l2Third_L1 (n : Nat) (go4 : Int × (V4 Int) × (V4 Int) × (V4 Int) × (V4 Int) → Option ((V4 Int))) (s5 : Int × (V4 Int) × (V4 Int) × (V4 Int) × (V4 Int)) : Option ((V4 Int)) :=
  br (decide (s5.1 < 4)) (ckb (inb s5.1 4) (lt (w64 (6 - (V4.get s5.2.1 s5.1.toNat))) fun (x6 : Int) => ckb (inb s5.1 4) (lt (w64 (x6 - (V4.get s5.2.2.1 s5.1.toNat))) fun (x7 : Int) => lt (Int.tmod x7 3) fun (x8 : Int) => ckb (inb s5.1 4) (lt (V4.set s5.2.2.2.2 s5.1.toNat x8) fun (x9 : (V4 Int)) => lt (w64 (s5.1 + 1)) fun (x10 : Int) => go4 (x10, s5.2.1, s5.2.2.1, s5.2.2.2.1, x9))))) (some s5.2.2.2.2)
noncomputable def s_l2Third (n : Nat) (a1 : (V4 Int)) (a2 : (V4 Int)) : Option ((V4 Int)) :=
  lt (⟨0, 0, 0, 0⟩ : (V4 Int)) fun (x3 : (V4 Int)) => fx (s_l2Third_L1 n) n (0, a1, a2, (⟨0, 0, 0, 0⟩ : (V4 Int)), x3)

/-- i_IsHand -/
noncomputable def i_IsHand_L1 (n : Nat) (go2 : (List (V4 Int)) × (List (V4 Int)) × Int × Int → Option (Bool)) (s3 : (List (V4 Int)) × (List (V4 Int)) × Int × Int) : Option (Bool) :=
  br (decide (s3.2.2.2 < s3.2.2.1)) (ckb (inb s3.2.2.2 s3.2.1.length) (ob (i_IsCard n (gl (⟨0, 0, 0, 0⟩ : (V4 Int)) s3.2.1 s3.2.2.2.toNat)) fun (r4 : Bool) => ob (br (! r4) (some true) (ob (br (decide (0 < s3.2.2.2)) (lt (w64 (s3.2.2.2 - 1)) fun (x5 : Int) => ckb (inb x5 s3.1.length) (ob (i_number n (gl (⟨0, 0, 0, 0⟩ : (V4 Int)) s3.1 x5.toNat)) fun (r6 : Int) => ob (i_number n (gl (⟨0, 0, 0, 0⟩ : (V4 Int)) s3.2.1 s3.2.2.2.toNat)) fun (r7 : Int) => some (decide (r7 ≤ r6)))) (some false)) fun (x8 : Bool) => some x8)) fun (x9 : Bool) => br x9 (some false) (lt (w64 (s3.2.2.2 + 1)) fun (x10 : Int) => go2 (s3.1, s3.2.1, s3.2.2.1, x10)))) (some (decide ((s3.1.length : Int) ≤ 27)))
noncomputable def i_IsHand (n : Nat) (a1 : (List (V4 Int))) : Option (Bool) :=
  fx (i_IsHand_L1 n) n (a1, a1, (a1.length : Int), 0)

/-- slices_Index_SA4_A4_ -/
noncomputable def slices_Index_SA4_A4__L1 (n : Nat) (go3 : (List (V4 Int)) × Int × Int × (V4 Int) → Option (Int)) (s4 : (List (V4 Int)) × Int × Int × (V4 Int)) : Option (Int) :=
  br (decide (s4.2.2.1 < s4.2.1)) (ckb (inb s4.2.2.1 s4.1.length) (br (eqd s4.2.2.2 (gl (⟨0, 0, 0, 0⟩ : (V4 Int)) s4.1 s4.2.2.1.toNat)) (some s4.2.2.1) (lt (w64 (s4.2.2.1 + 1)) fun (x5 : Int) => go3 (s4.1, s4.2.1, x5, s4.2.2.2)))) (some (-1))
noncomputable def slices_Index_SA4_A4_ (n : Nat) (a1 : (List (V4 Int))) (a2 : (V4 Int)) : Option (Int) :=
  fx (slices_Index_SA4_A4__L1 n) n (a1, (a1.length : Int), 0, a2)

/-- slices_Contains_SA4_A4_ -/
noncomputable def slices_Contains_SA4_A4_ (n : Nat) (a1 : (List (V4 Int))) (a2 : (V4 Int)) : Option (Bool) :=
  ob (slices_Index_SA4_A4_ n a1 a2) fun (r3 : Int) => some (decide (0 ≤ r3))

/-- i_has -/
noncomputable def i_has (n : Nat) (a1 : (List (V4 Int))) (a2 : (V4 Int)) : Option (Bool) :=
  ob (slices_Contains_SA4_A4_ n a1 a2) fun (r3 : Bool) => some r3

/-- i_third -/
noncomputable def i_third_L1 (n : Nat) (go4 : Int × (V4 Int) × (V4 Int) × (V4 Int) × (V4 Int) → Option ((V4 Int))) (s5 : Int × (V4 Int) × (V4 Int) × (V4 Int) × (V4 Int)) : Option ((V4 Int)) :=
  br (decide (s5.1 < 4)) (ckb (inb s5.1 4) (lt (w64 (6 - (V4.get s5.2.1 s5.1.toNat))) fun (x6 : Int) => ckb (inb s5.1 4) (lt (w64 (x6 - (V4.get s5.2.2.1 s5.1.toNat))) fun (x7 : Int) => lt (Int.tmod x7 3) fun (x8 : Int) => ckb (inb s5.1 4) (lt (V4.set s5.2.2.2.2 s5.1.toNat x8) fun (x9 : (V4 Int)) => lt (w64 (s5.1 + 1)) fun (x10 : Int) => go4 (x10, s5.2.1, s5.2.2.1, s5.2.2.2.1, x9))))) (some s5.2.2.2.2)
noncomputable def i_third (n : Nat) (a1 : (V4 Int)) (a2 : (V4 Int)) : Option ((V4 Int)) :=
  lt (⟨0, 0, 0, 0⟩ : (V4 Int)) fun (x3 : (V4 Int)) => fx (i_third_L1 n) n (0, a1, a2, (⟨0, 0, 0, 0⟩ : (V4 Int)), x3)

/-- i_pairsFor -/
noncomputable def i_pairsFor_L1 (n : Nat) (go3 : (List (V4 Int)) × (List (V4 Int)) × Int × Int × (V4 Int) × (List (V2 Int)) → Option ((List (V2 Int)))) (go6 : (List (V4 Int)) × Int × Int × (List (V4 Int)) × Int × Int × (V4 Int) × (List (V2 Int)) × (V4 Int) → Option ((List (V2 Int)))) (s7 : (List (V4 Int)) × Int × Int × (List (V4 Int)) × Int × Int × (V4 Int) × (List (V2 Int)) × (V4 Int)) : Option ((List (V2 Int))) :=
  br (decide (s7.2.2.1 < (s7.1.length : Int))) (ob (br (!eqd s7.2.2.2.2.2.2.2.2 s7.2.2.2.2.2.2.1) (ckb (inb s7.2.2.1 s7.1.length) (some (!eqd (gl (⟨0, 0, 0, 0⟩ : (V4 Int)) s7.1 s7.2.2.1.toNat) s7.2.2.2.2.2.2.1))) (some false)) fun (x8 : Bool) => ob (br x8 (ckb (inb s7.2.2.1 s7.1.length) (ob (i_third n s7.2.2.2.2.2.2.2.2 (gl (⟨0, 0, 0, 0⟩ : (V4 Int)) s7.1 s7.2.2.1.toNat)) fun (r9 : (V4 Int)) => some (eqd r9 s7.2.2.2.2.2.2.1))) (some false)) fun (x10 : Bool) => br x10 (lt (⟨s7.2.1, s7.2.2.1⟩ : (V2 Int)) fun (x11 : (V2 Int)) => ckb (apok 16 (s7.2.2.2.2.2.2.2.1.length + 1)) (lt (w64 (s7.2.2.1 + 1)) fun (x12 : Int) => go6 (s7.1, s7.2.1, x12, s7.2.2.2.1, s7.2.2.2.2.1, s7.2.2.2.2.2.1, s7.2.2.2.2.2.2.1, (s7.2.2.2.2.2.2.2.1 ++ [x11]), s7.2.2.2.2.2.2.2.2))) (lt (w64 (s7.2.2.1 + 1)) fun (x13 : Int) => go6 (s7.1, s7.2.1, x13, s7.2.2.2.1, s7.2.2.2.2.1, s7.2.2.2.2.2.1, s7.2.2.2.2.2.2.1, s7.2.2.2.2.2.2.2.1, s7.2.2.2.2.2.2.2.2))) (lt (w64 (s7.2.2.2.2.2.1 + 1)) fun (x14 : Int) => go3 (s7.1, s7.2.2.2.1, s7.2.2.2.2.1, x14, s7.2.2.2.2.2.2.1, s7.2.2.2.2.2.2.2.1))
noncomputable def i_pairsFor_L2 (n : Nat) (go3 : (List (V4 Int)) × (List (V4 Int)) × Int × Int × (V4 Int) × (List (V2 Int)) → Option ((List (V2 Int)))) (s4 : (List (V4 Int)) × (List (V4 Int)) × Int × Int × (V4 Int) × (List (V2 Int))) : Option ((List (V2 Int))) :=
  br (decide (s4.2.2.2.1 < s4.2.2.1)) (ckb (inb s4.2.2.2.1 s4.2.1.length) (lt (w64 (s4.2.2.2.1 + 1)) fun (x5 : Int) => fx (i_pairsFor_L1 n go3) n (s4.1, s4.2.2.2.1, x5, s4.2.1, s4.2.2.1, s4.2.2.2.1, s4.2.2.2.2.1, s4.2.2.2.2.2, (gl (⟨0, 0, 0, 0⟩ : (V4 Int)) s4.2.1 s4.2.2.2.1.toNat)))) (some s4.2.2.2.2.2)
noncomputable def i_pairsFor (n : Nat) (a1 : (List (V4 Int))) (a2 : (V4 Int)) : Option ((List (V2 Int))) :=
  fx (i_pairsFor_L2 n) n (a1, a1, (a1.length : Int), 0, a2, ([] : List (V2 Int)))

/-- i_linesIn -/
noncomputable def i_linesIn_L1 (n : Nat) (go9 : (List (V4 Int)) × (List (V4 Int)) × Int × Int × (VL 81 Int) × (List (V3 Int)) → Option ((List (V3 Int)))) (go12 : (List (V4 Int)) × Int × Int × (List (V4 Int)) × Int × Int × (VL 81 Int) × (List (V3 Int)) × (V4 Int) → Option ((List (V3 Int)))) (s13 : (List (V4 Int)) × Int × Int × (List (V4 Int)) × Int × Int × (VL 81 Int) × (List (V3 Int)) × (V4 Int)) : Option ((List (V3 Int))) :=
  br (decide (s13.2.2.1 < (s13.1.length : Int))) (ckb (inb s13.2.2.1 s13.1.length) (ob (i_third n s13.2.2.2.2.2.2.2.2 (gl (⟨0, 0, 0, 0⟩ : (V4 Int)) s13.1 s13.2.2.1.toNat)) fun (r14 : (V4 Int)) => ob (i_number n r14) fun (r15 : Int) => ckb (inb r15 81) (lt (w64 ((VL.get 0 s13.2.2.2.2.2.2.1 r15.toNat) - 1)) fun (x16 : Int) => br (decide (s13.2.2.1 < x16)) (lt (⟨s13.2.1, s13.2.2.1, x16⟩ : (V3 Int)) fun (x17 : (V3 Int)) => ckb (apok 24 (s13.2.2.2.2.2.2.2.1.length + 1)) (lt (w64 (s13.2.2.1 + 1)) fun (x18 : Int) => go12 (s13.1, s13.2.1, x18, s13.2.2.2.1, s13.2.2.2.2.1, s13.2.2.2.2.2.1, s13.2.2.2.2.2.2.1, (s13.2.2.2.2.2.2.2.1 ++ [x17]), s13.2.2.2.2.2.2.2.2))) (lt (w64 (s13.2.2.1 + 1)) fun (x19 : Int) => go12 (s13.1, s13.2.1, x19, s13.2.2.2.1, s13.2.2.2.2.1, s13.2.2.2.2.2.1, s13.2.2.2.2.2.2.1, s13.2.2.2.2.2.2.2.1, s13.2.2.2.2.2.2.2.2))))) (lt (w64 (s13.2.2.2.2.2.1 + 1)) fun (x20 : Int) => go9 (s13.1, s13.2.2.2.1, s13.2.2.2.2.1, x20, s13.2.2.2.2.2.2.1, s13.2.2.2.2.2.2.2.1))
noncomputable def i_linesIn_L2 (n : Nat) (go9 : (List (V4 Int)) × (List (V4 Int)) × Int × Int × (VL 81 Int) × (List (V3 Int)) → Option ((List (V3 Int)))) (s10 : (List (V4 Int)) × (List (V4 Int)) × Int × Int × (VL 81 Int) × (List (V3 Int))) : Option ((List (V3 Int))) :=
  br (decide (s10.2.2.2.1 < s10.2.2.1)) (ckb (inb s10.2.2.2.1 s10.2.1.length) (lt (w64 (s10.2.2.2.1 + 1)) fun (x11 : Int) => fx (i_linesIn_L1 n go9) n (s10.1, s10.2.2.2.1, x11, s10.2.1, s10.2.2.1, s10.2.2.2.1, s10.2.2.2.2.1, s10.2.2.2.2.2, (gl (⟨0, 0, 0, 0⟩ : (V4 Int)) s10.2.1 s10.2.2.2.1.toNat)))) (some s10.2.2.2.2.2)
noncomputable def i_linesIn_L3 (n : Nat) (go3 : (List (V4 Int)) × (List (V4 Int)) × Int × Int × (VL 81 Int) → Option ((List (V3 Int)))) (s4 : (List (V4 Int)) × (List (V4 Int)) × Int × Int × (VL 81 Int)) : Option ((List (V3 Int))) :=
  br (decide (s4.2.2.2.1 < s4.2.2.1)) (ckb (inb s4.2.2.2.1 s4.2.1.length) (ob (i_number n (gl (⟨0, 0, 0, 0⟩ : (V4 Int)) s4.2.1 s4.2.2.2.1.toNat)) fun (r5 : Int) => lt (w64 (s4.2.2.2.1 + 1)) fun (x6 : Int) => ckb (inb r5 81) (lt (VL.set s4.2.2.2.2 r5.toNat x6) fun (x7 : (VL 81 Int)) => lt (w64 (s4.2.2.2.1 + 1)) fun (x8 : Int) => go3 (s4.1, s4.2.1, s4.2.2.1, x8, x7)))) (fx (i_linesIn_L2 n) n (s4.1, s4.1, (s4.1.length : Int), 0, s4.2.2.2.2, ([] : List (V3 Int))))
noncomputable def i_linesIn (n : Nat) (a1 : (List (V4 Int))) : Option ((List (V3 Int))) :=
  lt (VL.rep 81 0) fun (x2 : (VL 81 Int)) => fx (i_linesIn_L3 n) n (a1, a1, (a1.length : Int), 0, x2)

/-- s_l2Place -/
noncomputable def s_l2Place_L1 (n : Nat) (go3 : (List (V4 Int)) × Int × (V4 Int) → Option (Int)) (s4 : (List (V4 Int)) × Int × (V4 Int)) : Option (Int) :=
  br (decide (s4.2.1 < (s4.1.length : Int))) (ckb (inb s4.2.1 s4.1.length) (br (eqd (gl (⟨0, 0, 0, 0⟩ : (V4 Int)) s4.1 s4.2.1.toNat) s4.2.2) (some s4.2.1) (lt (w64 (s4.2.1 + 1)) fun (x5 : Int) => go3 (s4.1, x5, s4.2.2)))) (some (-1))
noncomputable def s_l2Place (n : Nat) (a1 : (List (V4 Int))) (a2 : (V4 Int)) : Option (Int) :=
  fx (s_l2Place_L1 n) n (a1, 0, a2)

/-- s_l2Lines -/
noncomputable def s_l2Lines_L1 (n : Nat) (go2 : (List (V4 Int)) × Int × (List (V3 Int)) → Option ((List (V3 Int)))) (go5 : (List (V4 Int)) × Int × Int × (List (V3 Int)) → Option ((List (V3 Int)))) (s6 : (List (V4 Int)) × Int × Int × (List (V3 Int))) : Option ((List (V3 Int))) :=
  br (decide (s6.2.2.1 < (s6.1.length : Int))) (ckb (inb s6.2.1 s6.1.length) (ckb (inb s6.2.2.1 s6.1.length) (ob (s_l2Third n (gl (⟨0, 0, 0, 0⟩ : (V4 Int)) s6.1 s6.2.1.toNat) (gl (⟨0, 0, 0, 0⟩ : (V4 Int)) s6.1 s6.2.2.1.toNat)) fun (r7 : (V4 Int)) => ob (s_l2Place n s6.1 r7) fun (r8 : Int) => br (decide (s6.2.2.1 < r8)) (lt (⟨s6.2.1, s6.2.2.1, r8⟩ : (V3 Int)) fun (x9 : (V3 Int)) => ckb (apok 24 (s6.2.2.2.length + 1)) (lt (w64 (s6.2.2.1 + 1)) fun (x10 : Int) => go5 (s6.1, s6.2.1, x10, (s6.2.2.2 ++ [x9])))) (lt (w64 (s6.2.2.1 + 1)) fun (x11 : Int) => go5 (s6.1, s6.2.1, x11, s6.2.2.2))))) (lt (w64 (s6.2.1 + 1)) fun (x12 : Int) => go2 (s6.1, x12, s6.2.2.2))
noncomputable def s_l2Lines_L2 (n : Nat) (go2 : (List (V4 Int)) × Int × (List (V3 Int)) → Option ((List (V3 Int)))) (s3 : (List (V4 Int)) × Int × (List (V3 Int))) : Option ((List (V3 Int))) :=
  br (decide (s3.2.1 < (s3.1.length : Int))) (lt (w64 (s3.2.1 + 1)) fun (x4 : Int) => fx (s_l2Lines_L1 n go2) n (s3.1, s3.2.1, x4, s3.2.2)) (some s3.2.2)
noncomputable def s_l2Lines (n : Nat) (a1 : (List (V4 Int))) : Option ((List (V3 Int))) :=
  fx (s_l2Lines_L2 n) n (a1, 0, ([] : List (V3 Int)))

/-- s_l2Has -/
noncomputable def s_l2Has (n : Nat) (a1 : (List (V4 Int))) (a2 : (V4 Int)) : Option (Bool) :=
  ob (s_l2Place n a1 a2) fun (r3 : Int) => some (decide (0 ≤ r3))

/-- s_l2Line -/
noncomputable def s_l2Line (n : Nat) (a1 : (V4 Int)) (a2 : (V4 Int)) (a3 : (V4 Int)) : Option (Bool) :=
  ob (br (!eqd a1 a2) (ob (s_l2Third n a1 a2) fun (r4 : (V4 Int)) => some (eqd r4 a3)) (some false)) fun (x5 : Bool) => some x5

/-- s_l2Through -/
noncomputable def s_l2Through_L1 (n : Nat) (go3 : (List (V4 Int)) × Int × Int × (V4 Int) → Option (Int)) (go6 : (List (V4 Int)) × Int × Int × Int × (V4 Int) → Option (Int)) (s7 : (List (V4 Int)) × Int × Int × Int × (V4 Int)) : Option (Int) :=
  br (decide (s7.2.2.2.1 < (s7.1.length : Int))) (ckb (inb s7.2.2.1 s7.1.length) (ckb (inb s7.2.2.2.1 s7.1.length) (ob (s_l2Line n (gl (⟨0, 0, 0, 0⟩ : (V4 Int)) s7.1 s7.2.2.1.toNat) (gl (⟨0, 0, 0, 0⟩ : (V4 Int)) s7.1 s7.2.2.2.1.toNat) s7.2.2.2.2) fun (r8 : Bool) => br r8 (lt (w64 (s7.2.1 + 1)) fun (x9 : Int) => lt (w64 (s7.2.2.2.1 + 1)) fun (x10 : Int) => go6 (s7.1, x9, s7.2.2.1, x10, s7.2.2.2.2)) (lt (w64 (s7.2.2.2.1 + 1)) fun (x11 : Int) => go6 (s7.1, s7.2.1, s7.2.2.1, x11, s7.2.2.2.2))))) (lt (w64 (s7.2.2.1 + 1)) fun (x12 : Int) => go3 (s7.1, s7.2.1, x12, s7.2.2.2.2))
noncomputable def s_l2Through_L2 (n : Nat) (go3 : (List (V4 Int)) × Int × Int × (V4 Int) → Option (Int)) (s4 : (List (V4 Int)) × Int × Int × (V4 Int)) : Option (Int) :=
  br (decide (s4.2.2.1 < (s4.1.length : Int))) (lt (w64 (s4.2.2.1 + 1)) fun (x5 : Int) => fx (s_l2Through_L1 n go3) n (s4.1, s4.2.1, s4.2.2.1, x5, s4.2.2.2)) (some s4.2.1)
noncomputable def s_l2Through (n : Nat) (a1 : (List (V4 Int))) (a2 : (V4 Int)) : Option (Int) :=
  fx (s_l2Through_L2 n) n (a1, 0, 0, a2)

/-- i_LinesIn -/
noncomputable def i_LinesIn (n : Nat) (a1 : (List (V4 Int))) : Option (Bool × (List (V3 Int))) :=
  ob (i_IsHand n a1) fun (r2 : Bool) => br (! r2) (some (false, ([] : List (V3 Int)))) (ob (i_linesIn n a1) fun (r3 : (List (V3 Int))) => some (true, r3))

/-- i_LinesThrough -/
noncomputable def i_LinesThrough (n : Nat) (a1 : (List (V4 Int))) (a2 : (V4 Int)) : Option (Int × Bool) :=
  ob (i_IsHand n a1) fun (r3 : Bool) => ob (br (! r3) (some true) (ob (i_IsCard n a2) fun (r4 : Bool) => some (! r4))) fun (x5 : Bool) => br x5 (some (0, false)) (ob (i_pairsFor n a1 a2) fun (r6 : (List (V2 Int))) => some ((r6.length : Int), true))

/-- i_without_1'p -/
noncomputable def i_without_1'p (n : Nat) (a1 : (V4 Int)) (a2 : (V4 Int)) : Option (Bool × (V4 Int)) :=
  some ((eqd a1 a2), a2)

/-- slices_IndexFunc_SA4_A4_'l_i_without_1p -/
noncomputable def slices_IndexFunc_SA4_A4_'l_i_without_1p_L1 (n : Nat) (go3 : (List (V4 Int)) × Int × Int × (V4 Int) → Option (Int × (V4 Int))) (s4 : (List (V4 Int)) × Int × Int × (V4 Int)) : Option (Int × (V4 Int)) :=
  br (decide (s4.2.2.1 < s4.2.1)) (ckb (inb s4.2.2.1 s4.1.length) (ob (i_without_1'p n (gl (⟨0, 0, 0, 0⟩ : (V4 Int)) s4.1 s4.2.2.1.toNat) s4.2.2.2) fun (r5 : Bool × (V4 Int)) => br r5.1 (some (s4.2.2.1, r5.2)) (lt (w64 (s4.2.2.1 + 1)) fun (x6 : Int) => go3 (s4.1, s4.2.1, x6, r5.2)))) (some ((-1), s4.2.2.2))
noncomputable def slices_IndexFunc_SA4_A4_'l_i_without_1p (n : Nat) (a1 : (List (V4 Int))) (a2 : (V4 Int)) : Option (Int × (V4 Int)) :=
  fx (slices_IndexFunc_SA4_A4_'l_i_without_1p_L1 n) n (a1, (a1.length : Int), 0, a2)

/-- slices_DeleteFunc_SA4_A4_'o_i_without_1p -/
noncomputable def slices_DeleteFunc_SA4_A4_'o_i_without_1p_L1 (n : Nat) (go5 : Int × Int × (List (V4 Int)) × (V4 Int) → Option ((V4 Int) × (List (V4 Int)))) (s6 : Int × Int × (List (V4 Int)) × (V4 Int)) : Option ((V4 Int) × (List (V4 Int))) :=
  br (decide (s6.2.1 < (s6.2.2.1.length : Int))) (ckb (inb s6.2.1 s6.2.2.1.length) (ob (i_without_1'p n (gl (⟨0, 0, 0, 0⟩ : (V4 Int)) s6.2.2.1 s6.2.1.toNat) s6.2.2.2) fun (r7 : Bool × (V4 Int)) => br (! r7.1) (ckb (inb s6.1 s6.2.2.1.length) (lt (List.set s6.2.2.1 s6.1.toNat (gl (⟨0, 0, 0, 0⟩ : (V4 Int)) s6.2.2.1 s6.2.1.toNat)) fun (x8 : (List (V4 Int))) => lt (w64 (s6.1 + 1)) fun (x9 : Int) => lt (w64 (s6.2.1 + 1)) fun (x10 : Int) => go5 (x9, x10, x8, r7.2))) (lt (w64 (s6.2.1 + 1)) fun (x11 : Int) => go5 (s6.1, x11, s6.2.2.1, r7.2)))) (ckb (slb s6.1 (s6.2.2.1.length : Int) s6.2.2.1.length) (ckb (slb 0 s6.1 (clr (⟨0, 0, 0, 0⟩ : (V4 Int)) s6.2.2.1 s6.1.toNat (w64 ((s6.2.2.1.length : Int) - s6.1)).toNat).length) (some (s6.2.2.2, (sub (clr (⟨0, 0, 0, 0⟩ : (V4 Int)) s6.2.2.1 s6.1.toNat (w64 ((s6.2.2.1.length : Int) - s6.1)).toNat) 0 (w64 (s6.1 - 0)).toNat)))))
noncomputable def slices_DeleteFunc_SA4_A4_'o_i_without_1p (n : Nat) (a1 : (List (V4 Int))) (a2 : (V4 Int)) : Option ((V4 Int) × (List (V4 Int))) :=
  ob (slices_IndexFunc_SA4_A4_'l_i_without_1p n a1 a2) fun (r3 : Int × (V4 Int)) => br (decide (r3.1 = (-1))) (some (r3.2, a1)) (lt (w64 (r3.1 + 1)) fun (x4 : Int) => fx (slices_DeleteFunc_SA4_A4_'o_i_without_1p_L1 n) n (r3.1, x4, a1, r3.2))

/-- i_without -/
noncomputable def i_without (n : Nat) (a1 : (List (V4 Int))) (a2 : (V4 Int)) : Option ((List (V4 Int))) :=
  ob (slices_Clone_SA4_A4_ n a1) fun (r3 : (List (V4 Int))) => ob (slices_DeleteFunc_SA4_A4_'o_i_without_1p n r3 a2) fun (r4 : (V4 Int) × (List (V4 Int))) => some r4.2

/-- i_DropCard -/
noncomputable def i_DropCard (n : Nat) (a1 : (List (V4 Int))) (a2 : (V4 Int)) : Option (Bool × (List (V4 Int))) :=
  ob (i_IsHand n a1) fun (r3 : Bool) => ob (br (! r3) (some true) (ob (i_has n a1 a2) fun (r4 : Bool) => some (! r4))) fun (x5 : Bool) => br x5 (some (false, ([] : List (V4 Int)))) (ob (i_without n a1 a2) fun (r6 : (List (V4 Int))) => some (true, r6))

/-- s_Cur_card'p -/
noncomputable def s_Cur_card'p (n : Nat) (a1 : ((List Int) × (Int × Int))) : Option ((V4 Int) × ((List Int) × (Int × Int))) :=
  ob (s_Cur_pick'p n 81 a1) fun (r2 : Int × ((List Int) × (Int × Int))) => ob (s_l2At n r2.1) fun (r3 : (V4 Int)) => ob (s_Cur_one'p n 40 r2.2) fun (r4 : Bool × ((List Int) × (Int × Int))) => br r4.1 (ob (s_Cur_pick'p n 4 r4.2) fun (r5 : Int × ((List Int) × (Int × Int))) => ob (s_Cur_among'pl n [(-1), 3, 4611686018427387904, (-9223372036854775808)] r5.2) fun (r6 : Int × ((List Int) × (Int × Int))) => ckb (inb r5.1 4) (lt (V4.set r3 r5.1.toNat r6.1) fun (x7 : (V4 Int)) => some (x7, r6.2))) (some (r3, r4.2))

/-- i_sum -/
noncomputable def i_sum_L1 (n : Nat) (go3 : (List (V4 Int)) × Int × Int × (V4 Int) × (V4 Int) → Option ((V4 Int))) (go5 : (List (V4 Int)) × Int × Int × (V4 Int) × Int × (V4 Int) × (V4 Int) → Option ((V4 Int))) (s6 : (List (V4 Int)) × Int × Int × (V4 Int) × Int × (V4 Int) × (V4 Int)) : Option ((V4 Int)) :=
  br (decide (s6.2.2.2.2.1 < 4)) (ckb (inb s6.2.2.2.2.1 4) (ckb (inb s6.2.2.2.2.1 4) (lt (w64 ((V4.get s6.2.2.2.2.2.2 s6.2.2.2.2.1.toNat) + (V4.get s6.2.2.2.1 s6.2.2.2.2.1.toNat))) fun (x7 : Int) => lt (Int.tmod x7 3) fun (x8 : Int) => ckb (inb s6.2.2.2.2.1 4) (lt (V4.set s6.2.2.2.2.2.2 s6.2.2.2.2.1.toNat x8) fun (x9 : (V4 Int)) => lt (w64 (s6.2.2.2.2.1 + 1)) fun (x10 : Int) => go5 (s6.1, s6.2.1, s6.2.2.1, s6.2.2.2.1, x10, s6.2.2.2.2.2.1, x9))))) (lt (w64 (s6.2.2.1 + 1)) fun (x11 : Int) => go3 (s6.1, s6.2.1, x11, s6.2.2.2.2.2.1, s6.2.2.2.2.2.2))
noncomputable def i_sum_L2 (n : Nat) (go3 : (List (V4 Int)) × Int × Int × (V4 Int) × (V4 Int) → Option ((V4 Int))) (s4 : (List (V4 Int)) × Int × Int × (V4 Int) × (V4 Int)) : Option ((V4 Int)) :=
  br (decide (s4.2.2.1 < s4.2.1)) (ckb (inb s4.2.2.1 s4.1.length) (fx (i_sum_L1 n go3) n (s4.1, s4.2.1, s4.2.2.1, (gl (⟨0, 0, 0, 0⟩ : (V4 Int)) s4.1 s4.2.2.1.toNat), 0, s4.2.2.2.1, s4.2.2.2.2))) (some s4.2.2.2.2)
noncomputable def i_sum (n : Nat) (a1 : (List (V4 Int))) : Option ((V4 Int)) :=
  lt (⟨0, 0, 0, 0⟩ : (V4 Int)) fun (x2 : (V4 Int)) => fx (i_sum_L2 n) n (a1, (a1.length : Int), 0, (⟨0, 0, 0, 0⟩ : (V4 Int)), x2)

/-- v_vLines -/
noncomputable def v_vLines_L1 (n : Nat) (go3 : (List (V3 Int)) × (List (V3 Int)) × Int → Option (Bool)) (s4 : (List (V3 Int)) × (List (V3 Int)) × Int) : Option (Bool) :=
  br (decide (s4.2.2 < (s4.1.length : Int))) (ckb (inb s4.2.2 s4.1.length) (ckb (inb s4.2.2 s4.2.1.length) (br (!eqd (gl (⟨0, 0, 0⟩ : (V3 Int)) s4.1 s4.2.2.toNat) (gl (⟨0, 0, 0⟩ : (V3 Int)) s4.2.1 s4.2.2.toNat)) (some false) (lt (w64 (s4.2.2 + 1)) fun (x5 : Int) => go3 (s4.1, s4.2.1, x5))))) (some true)
noncomputable def v_vLines (n : Nat) (a1 : (List (V3 Int))) (a2 : (List (V3 Int))) : Option (Bool) :=
  br (!decide ((a1.length : Int) = (a2.length : Int))) (some false) (fx (v_vLines_L1 n) n (a1, a2, 0))

/-- i_areCards_1 -/
noncomputable def i_areCards_1 (n : Nat) (a1 : (V4 Int)) : Option (Bool) :=
  ob (i_IsCard n a1) fun (r2 : Bool) => some (! r2)

/-- slices_IndexFunc_SA4_A4_'l_i_areCards_1 -/
noncomputable def slices_IndexFunc_SA4_A4_'l_i_areCards_1_L1 (n : Nat) (go2 : (List (V4 Int)) × Int × Int → Option (Int)) (s3 : (List (V4 Int)) × Int × Int) : Option (Int) :=
  br (decide (s3.2.2 < s3.2.1)) (ckb (inb s3.2.2 s3.1.length) (ob (i_areCards_1 n (gl (⟨0, 0, 0, 0⟩ : (V4 Int)) s3.1 s3.2.2.toNat)) fun (r4 : Bool) => br r4 (some s3.2.2) (lt (w64 (s3.2.2 + 1)) fun (x5 : Int) => go2 (s3.1, s3.2.1, x5)))) (some (-1))
noncomputable def slices_IndexFunc_SA4_A4_'l_i_areCards_1 (n : Nat) (a1 : (List (V4 Int))) : Option (Int) :=
  fx (slices_IndexFunc_SA4_A4_'l_i_areCards_1_L1 n) n (a1, (a1.length : Int), 0)

/-- slices_ContainsFunc_SA4_A4_'l_i_areCards_1 -/
noncomputable def slices_ContainsFunc_SA4_A4_'l_i_areCards_1 (n : Nat) (a1 : (List (V4 Int))) : Option (Bool) :=
  ob (slices_IndexFunc_SA4_A4_'l_i_areCards_1 n a1) fun (r2 : Int) => some (decide (0 ≤ r2))

/-- i_areCards -/
noncomputable def i_areCards (n : Nat) (a1 : (List (V4 Int))) : Option (Bool) :=
  ob (slices_ContainsFunc_SA4_A4_'l_i_areCards_1 n a1) fun (r2 : Bool) => some (! r2)

/-- i_isLine -/
noncomputable def i_isLine (n : Nat) (a1 : (V4 Int)) (a2 : (V4 Int)) (a3 : (V4 Int)) : Option (Bool) :=
  ob (br (!eqd a1 a2) (ob (i_third n a1 a2) fun (r4 : (V4 Int)) => some (eqd r4 a3)) (some false)) fun (x5 : Bool) => some x5

/-- s_l2Sorted -/
noncomputable def s_l2Sorted_L1 (n : Nat) (go2 : (List (V4 Int)) × Int × (List (V4 Int)) → Option ((List (V4 Int)))) (s3 : (List (V4 Int)) × Int × (List (V4 Int))) : Option ((List (V4 Int))) :=
  br (decide (s3.2.1 < (s3.1.length : Int))) (ckb (inb s3.2.1 s3.1.length) (ob (s_l2Put n s3.2.2 (gl (⟨0, 0, 0, 0⟩ : (V4 Int)) s3.1 s3.2.1.toNat)) fun (r4 : (List (V4 Int))) => lt (w64 (s3.2.1 + 1)) fun (x5 : Int) => go2 (s3.1, x5, r4))) (some s3.2.2)
noncomputable def s_l2Sorted (n : Nat) (a1 : (List (V4 Int))) : Option ((List (V4 Int))) :=
  fx (s_l2Sorted_L1 n) n (a1, 0, ([] : List (V4 Int)))

/-- i_WithTrait -/
noncomputable def i_WithTrait_L1 (n : Nat) (go9 : Int × Int × (List (V4 Int)) × Int × Int × (List Int) → Option (Bool × (List Int))) (s10 : Int × Int × (List (V4 Int)) × Int × Int × (List Int)) : Option (Bool × (List Int)) :=
  br (decide (s10.2.2.2.2.1 < s10.2.2.2.1)) (ckb (inb s10.2.2.2.2.1 s10.2.2.1.length) (ckb (inb s10.1 4) (br (decide ((V4.get (gl (⟨0, 0, 0, 0⟩ : (V4 Int)) s10.2.2.1 s10.2.2.2.2.1.toNat) s10.1.toNat) = s10.2.1)) (ckb (apok 8 (s10.2.2.2.2.2.length + 1)) (lt (w64 (s10.2.2.2.2.1 + 1)) fun (x11 : Int) => go9 (s10.1, s10.2.1, s10.2.2.1, s10.2.2.2.1, x11, (s10.2.2.2.2.2 ++ [s10.2.2.2.2.1])))) (lt (w64 (s10.2.2.2.2.1 + 1)) fun (x12 : Int) => go9 (s10.1, s10.2.1, s10.2.2.1, s10.2.2.2.1, x12, s10.2.2.2.2.2))))) (some (true, s10.2.2.2.2.2))
noncomputable def i_WithTrait (n : Nat) (a1 : (List (V4 Int))) (a2 : Int) (a3 : Int) : Option (Bool × (List Int)) :=
  ob (i_IsHand n a1) fun (r4 : Bool) => ob (br (! r4) (some true) (ob (i_within n a2 0 3) fun (r5 : Bool) => some (! r5))) fun (x6 : Bool) => ob (br x6 (some true) (ob (i_within n a3 0 2) fun (r7 : Bool) => some (! r7))) fun (x8 : Bool) => br x8 (some (false, ([] : List Int))) (fx (i_WithTrait_L1 n) n (a2, a3, a1, (a1.length : Int), 0, ([] : List Int)))

/-- x_IndexByteString -/
noncomputable def x_IndexByteString (n : Nat) (a1 : ByteArray) (a2 : Int) : Option Int := some (Lib.indexByte a1.data.toList a2.toNat.toUInt8)

/-- s_l1Split -/
noncomputable def s_l1Split_L1 (n : Nat) (go3 : ByteArray × Int × Int × Int × (List ByteArray) → Option ((List ByteArray))) (s4 : ByteArray × Int × Int × Int × (List ByteArray)) : Option ((List ByteArray)) :=
  br (decide (s4.2.2.2.1 < (s4.1.size : Int))) (ckb (inb s4.2.2.2.1 s4.1.size) (br (decide ((sb s4.1 s4.2.2.2.1.toNat) = s4.2.1)) (ckb (slb s4.2.2.1 s4.2.2.2.1 s4.1.size) (ckb (apok 16 (s4.2.2.2.2.length + 1)) (lt (w64 (s4.2.2.2.1 + 1)) fun (x5 : Int) => lt (w64 (s4.2.2.2.1 + 1)) fun (x6 : Int) => go3 (s4.1, s4.2.1, x5, x6, (s4.2.2.2.2 ++ [(ssub s4.1 s4.2.2.1.toNat s4.2.2.2.1.toNat)]))))) (lt (w64 (s4.2.2.2.1 + 1)) fun (x7 : Int) => go3 (s4.1, s4.2.1, s4.2.2.1, x7, s4.2.2.2.2)))) (ckb (slb s4.2.2.1 (s4.1.size : Int) s4.1.size) (ckb (apok 16 (s4.2.2.2.2.length + 1)) (some (s4.2.2.2.2 ++ [(ssub s4.1 s4.2.2.1.toNat s4.1.size)]))))
noncomputable def s_l1Split (n : Nat) (a1 : ByteArray) (a2 : Int) : Option ((List ByteArray)) :=
  fx (s_l1Split_L1 n) n (a1, a2, 0, 0, ([] : List ByteArray))

/-- s_l1Num -/

noncomputable def s_l1Num_R (n : Nat) (go0 : Int → Option (ByteArray)) (x : Int) : Option (ByteArray) :=
  (fun (a1 : Int) => br (decide (a1 < 0)) (br (decide ((-10) < a1)) (lt (w64 (0 - a1)) fun (x2 : Int) => ob (go0 x2) fun (r3 : ByteArray) => ckb (stok (1 + r3.size)) (lt ((⟨#[45]⟩ : ByteArray) ++ r3) fun (x4 : ByteArray) => some x4)) (lt (w64 (Int.tdiv a1 10)) fun (x5 : Int) => ob (go0 x5) fun (r6 : ByteArray) => lt (Int.tmod a1 10) fun (x7 : Int) => lt (w64 (0 - x7)) fun (x8 : Int) => ob (go0 x8) fun (r9 : ByteArray) => ckb (stok (r6.size + r9.size)) (lt (r6 ++ r9) fun (x10 : ByteArray) => some x10))) (br (decide (a1 < 10)) (lt (w64 (a1 + 1)) fun (x11 : Int) => ckb (slb a1 x11 10) (some (ssub (⟨#[48, 49, 50, 51, 52, 53, 54, 55, 56, 57]⟩ : ByteArray) a1.toNat x11.toNat))) (lt (w64 (Int.tdiv a1 10)) fun (x12 : Int) => ob (go0 x12) fun (r13 : ByteArray) => lt (Int.tmod a1 10) fun (x14 : Int) => lt (Int.tmod a1 10) fun (x15 : Int) => lt (w64 (x15 + 1)) fun (x16 : Int) => ckb (slb x14 x16 10) (ckb (stok (r13.size + (ssub (⟨#[48, 49, 50, 51, 52, 53, 54, 55, 56, 57]⟩ : ByteArray) x14.toNat x16.toNat).size)) (lt (r13 ++ (ssub (⟨#[48, 49, 50, 51, 52, 53, 54, 55, 56, 57]⟩ : ByteArray) x14.toNat x16.toNat)) fun (x17 : ByteArray) => some x17))))) x
noncomputable def s_l1Num (n : Nat) (a1 : Int) : Option (ByteArray) := fx (s_l1Num_R n) n a1

/-- v_vInts -/
noncomputable def v_vInts_L1 (n : Nat) (go3 : (List Int) × (List Int) × Int → Option (Bool)) (s4 : (List Int) × (List Int) × Int) : Option (Bool) :=
  br (decide (s4.2.2 < (s4.1.length : Int))) (ckb (inb s4.2.2 s4.1.length) (ckb (inb s4.2.2 s4.2.1.length) (br (!decide ((gl 0 s4.1 s4.2.2.toNat) = (gl 0 s4.2.1 s4.2.2.toNat))) (some false) (lt (w64 (s4.2.2 + 1)) fun (x5 : Int) => go3 (s4.1, s4.2.1, x5))))) (some true)
noncomputable def v_vInts (n : Nat) (a1 : (List Int)) (a2 : (List Int)) : Option (Bool) :=
  br (!decide ((a1.length : Int) = (a2.length : Int))) (some false) (fx (v_vInts_L1 n) n (a1, a2, 0))

/-- i_ShadowLines_1'lpp_o -/
noncomputable def i_ShadowLines_1'lpp_o (n : Nat) (a1 : (List Int)) (a2 : Int) (a3 : (List (V4 Int))) : Option (Int × (List (V4 Int))) :=
  ckb (inb 0 a1.length) (ckb (inb (gl 0 a1 0) a3.length) (ckb (inb 1 a1.length) (ckb (inb (gl 0 a1 1) a3.length) (ckb (inb 2 a1.length) (ckb (inb (gl 0 a1 2) a3.length) (ob (i_isLine n (gl (⟨0, 0, 0, 0⟩ : (V4 Int)) a3 (gl 0 a1 0).toNat) (gl (⟨0, 0, 0, 0⟩ : (V4 Int)) a3 (gl 0 a1 1).toNat) (gl (⟨0, 0, 0, 0⟩ : (V4 Int)) a3 (gl 0 a1 2).toNat)) fun (r4 : Bool) => br r4 (lt (w64 (a2 + 1)) fun (x5 : Int) => some (x5, a3)) (some (a2, a3))))))))

/-- i_choices'l_i_ShadowLines_1pp_o -/
noncomputable def i_choices'l_i_ShadowLines_1pp_o_L1 (n : Nat) (go0 : (List Int) × Int × Int × Int × (List (V4 Int)) → Option (Int × (List (V4 Int)))) (go8 : (List Int) × Int × Int × Int × Int × (List (V4 Int)) → Option (Int × (List (V4 Int)))) (s9 : (List Int) × Int × Int × Int × Int × (List (V4 Int))) : Option (Int × (List (V4 Int))) :=
  br (decide (s9.2.2.2.1 < s9.2.2.1)) (ckb (cand (slb 0 (s9.1.length : Int) s9.1.length) (decide ((s9.1.length : Int) = (s9.1.length : Int)))) (ckb (cand (apok 8 ((sub s9.1 0 s9.1.length).length + 1)) (cor (sub s9.1 0 s9.1.length).isEmpty true)) (lt (w64 (s9.2.1 - 1)) fun (x10 : Int) => ob (go0 (((sub s9.1 0 s9.1.length) ++ [s9.2.2.2.1]), x10, s9.2.2.1, s9.2.2.2.2.1, s9.2.2.2.2.2)) fun (r11 : Int × (List (V4 Int))) => lt (w64 (s9.2.2.2.1 + 1)) fun (x12 : Int) => go8 (s9.1, s9.2.1, s9.2.2.1, x12, r11.1, r11.2)))) (some (s9.2.2.2.2.1, s9.2.2.2.2.2))
noncomputable def i_choices'l_i_ShadowLines_1pp_o_J2 (n : Nat) (go0 : (List Int) × Int × Int × Int × (List (V4 Int)) → Option (Int × (List (V4 Int)))) (s7 : (List Int) × Int × Int × Int × Int × (List (V4 Int))) : Option (Int × (List (V4 Int))) :=
  fx (i_choices'l_i_ShadowLines_1pp_o_L1 n go0) n (s7.1, s7.2.1, s7.2.2.1, s7.2.2.2.1, s7.2.2.2.2.1, s7.2.2.2.2.2)
noncomputable def i_choices'l_i_ShadowLines_1pp_o_R (n : Nat) (go0 : (List Int) × Int × Int × Int × (List (V4 Int)) → Option (Int × (List (V4 Int)))) (x : (List Int) × Int × Int × Int × (List (V4 Int))) : Option (Int × (List (V4 Int))) :=
  (fun (a1 : (List Int)) (a2 : Int) (a3 : Int) (a4 : Int) (a5 : (List (V4 Int))) => br (decide (a2 = 0)) (ob (i_ShadowLines_1'lpp_o n a1 a4 a5) fun (r6 : Int × (List (V4 Int))) => some (r6.1, r6.2)) (br (decide (0 < (a1.length : Int))) (lt (w64 ((a1.length : Int) - 1)) fun (x13 : Int) => ckb (inb x13 a1.length) (lt (w64 ((gl 0 a1 x13.toNat) + 1)) fun (x14 : Int) => i_choices'l_i_ShadowLines_1pp_o_J2 n go0 (a1, a2, a3, x14, a4, a5))) (i_choices'l_i_ShadowLines_1pp_o_J2 n go0 (a1, a2, a3, 0, a4, a5)))) x.1 x.2.1 x.2.2.1 x.2.2.2.1 x.2.2.2.2
noncomputable def i_choices'l_i_ShadowLines_1pp_o (n : Nat) (a1 : (List Int)) (a2 : Int) (a3 : Int) (a4 : Int) (a5 : (List (V4 Int))) : Option (Int × (List (V4 Int))) := fx (i_choices'l_i_ShadowLines_1pp_o_R n) n (a1, a2, a3, a4, a5)

/-- v_rBig -/
noncomputable def v_rBig (n : Nat) (a1 : (List Int)) : Option (Bool) :=
  some (decide (65536 < (a1.length : Int)))

/-- i_cardText -/
noncomputable def i_cardText_L1 (n : Nat) (go2 : (V4 Int) × Int × (List Int) → Option (ByteArray)) (s3 : (V4 Int) × Int × (List Int)) : Option (ByteArray) :=
  br (decide (s3.2.1 < 4)) (ckb (inb s3.2.1 4) (lt (w64 (48 + (V4.get s3.1 s3.2.1.toNat))) fun (x4 : Int) => lt (IntKind.wrap .u8 x4) fun (x5 : Int) => ckb (apok 1 (s3.2.2.length + 1)) (lt (w64 (s3.2.1 + 1)) fun (x6 : Int) => go2 (s3.1, x6, (s3.2.2 ++ [x5]))))) (lt (strOfNums s3.2.2) fun (x7 : ByteArray) => some x7)
noncomputable def i_cardText (n : Nat) (a1 : (V4 Int)) : Option (ByteArray) :=
  fx (i_cardText_L1 n) n (a1, 0, ([] : List Int))

/-- s_l2Text -/
noncomputable def s_l2Text_L1 (n : Nat) (go2 : ByteArray × Int × (V4 Int) → Option (ByteArray)) (s3 : ByteArray × Int × (V4 Int)) : Option (ByteArray) :=
  br (decide (s3.2.1 < 4)) (ckb (inb s3.2.1 4) (ob (s_l1Num n (V4.get s3.2.2 s3.2.1.toNat)) fun (r4 : ByteArray) => ckb (stok (s3.1.size + r4.size)) (lt (s3.1 ++ r4) fun (x5 : ByteArray) => lt (w64 (s3.2.1 + 1)) fun (x6 : Int) => go2 (x5, x6, s3.2.2)))) (some s3.1)
noncomputable def s_l2Text (n : Nat) (a1 : (V4 Int)) : Option (ByteArray) :=
  fx (s_l2Text_L1 n) n ((⟨#[]⟩ : ByteArray), 0, a1)

/-- internal_stringslite_IndexByte -/
noncomputable def internal_stringslite_IndexByte (n : Nat) (a1 : ByteArray) (a2 : Int) : Option (Int) :=
  ob (x_IndexByteString n a1 a2) fun (r3 : Int) => some r3

/-- internal_stringslite_Index_s -/
noncomputable def internal_stringslite_Index_s (n : Nat) (a1 : ByteArray) (a2 : ByteArray) : Option (Int) :=
  ob (br (decide ((a2.size : Int) = 0)) (some true) (some (eqd a2 a1))) fun (x3 : Bool) => br x3 (some 0) (br (decide ((a2.size : Int) = 1)) (ckb (inb 0 a2.size) (ob (internal_stringslite_IndexByte n a1 (sb a2 0)) fun (r4 : Int) => some r4)) (br (decide ((a1.size : Int) ≤ (a2.size : Int))) (some (-1)) (none)))

/-- strings_Index -/
noncomputable def strings_Index (n : Nat) (a1 : ByteArray) (a2 : ByteArray) : Option (Int) :=
  ob (internal_stringslite_Index_s n a1 a2) fun (r3 : Int) => some r3

/-- s_l2Drop -/
noncomputable def s_l2Drop (n : Nat) (a1 : (List (V4 Int))) (a2 : Int) : Option ((List (V4 Int))) :=
  ckb (slb 0 a2 a1.length) (ob (s_l2Own n (sub a1 0 a2.toNat)) fun (r3 : (List (V4 Int))) => lt (w64 (a2 + 1)) fun (x4 : Int) => ckb (slb x4 (a1.length : Int) a1.length) (ckb (apok 32 (r3.length + (sub a1 x4.toNat a1.length).length)) (some (r3 ++ (sub a1 x4.toNat a1.length)))))

/-- s_l2Sum -/
noncomputable def s_l2Sum_L1 (n : Nat) (go3 : (List (V4 Int)) × Int × (V4 Int) × (V4 Int) → Option ((V4 Int))) (go5 : (List (V4 Int)) × Int × Int × (V4 Int) × (V4 Int) → Option ((V4 Int))) (s6 : (List (V4 Int)) × Int × Int × (V4 Int) × (V4 Int)) : Option ((V4 Int)) :=
  br (decide (s6.2.2.1 < 4)) (ckb (inb s6.2.2.1 4) (ckb (inb s6.2.1 s6.1.length) (ckb (inb s6.2.2.1 4) (lt (w64 ((V4.get s6.2.2.2.2 s6.2.2.1.toNat) + (V4.get (gl (⟨0, 0, 0, 0⟩ : (V4 Int)) s6.1 s6.2.1.toNat) s6.2.2.1.toNat))) fun (x7 : Int) => lt (Int.tmod x7 3) fun (x8 : Int) => ckb (inb s6.2.2.1 4) (lt (V4.set s6.2.2.2.2 s6.2.2.1.toNat x8) fun (x9 : (V4 Int)) => lt (w64 (s6.2.2.1 + 1)) fun (x10 : Int) => go5 (s6.1, s6.2.1, x10, s6.2.2.2.1, x9)))))) (lt (w64 (s6.2.1 + 1)) fun (x11 : Int) => go3 (s6.1, x11, s6.2.2.2.1, s6.2.2.2.2))
noncomputable def s_l2Sum_L2 (n : Nat) (go3 : (List (V4 Int)) × Int × (V4 Int) × (V4 Int) → Option ((V4 Int))) (s4 : (List (V4 Int)) × Int × (V4 Int) × (V4 Int)) : Option ((V4 Int)) :=
  br (decide (s4.2.1 < (s4.1.length : Int))) (fx (s_l2Sum_L1 n go3) n (s4.1, s4.2.1, 0, s4.2.2.1, s4.2.2.2)) (some s4.2.2.2)
noncomputable def s_l2Sum (n : Nat) (a1 : (List (V4 Int))) : Option ((V4 Int)) :=
  lt (⟨0, 0, 0, 0⟩ : (V4 Int)) fun (x2 : (V4 Int)) => fx (s_l2Sum_L2 n) n (a1, 0, (⟨0, 0, 0, 0⟩ : (V4 Int)), x2)

/-- v_rThrees -/
noncomputable def v_rThrees_L1 (n : Nat) (go3 : (List (V3 Int)) × (List (V3 Int)) × Int → Option (Bool)) (s4 : (List (V3 Int)) × (List (V3 Int)) × Int) : Option (Bool) :=
  br (decide (s4.2.2 < (s4.1.length : Int))) (ckb (inb s4.2.2 s4.1.length) (ckb (inb s4.2.2 s4.2.1.length) (br (!eqd (gl (⟨0, 0, 0⟩ : (V3 Int)) s4.1 s4.2.2.toNat) (gl (⟨0, 0, 0⟩ : (V3 Int)) s4.2.1 s4.2.2.toNat)) (some false) (lt (w64 (s4.2.2 + 1)) fun (x5 : Int) => go3 (s4.1, s4.2.1, x5))))) (some true)
noncomputable def v_rThrees (n : Nat) (a1 : (List (V3 Int))) (a2 : (List (V3 Int))) : Option (Bool) :=
  br (!decide ((a1.length : Int) = (a2.length : Int))) (some false) (fx (v_rThrees_L1 n) n (a1, a2, 0))

/-- v_rInts -/
noncomputable def v_rInts_L1 (n : Nat) (go3 : (List Int) × (List Int) × Int → Option (Bool)) (s4 : (List Int) × (List Int) × Int) : Option (Bool) :=
  br (decide (s4.2.2 < (s4.1.length : Int))) (ckb (inb s4.2.2 s4.1.length) (ckb (inb s4.2.2 s4.2.1.length) (br (!decide ((gl 0 s4.1 s4.2.2.toNat) = (gl 0 s4.2.1 s4.2.2.toNat))) (some false) (lt (w64 (s4.2.2 + 1)) fun (x5 : Int) => go3 (s4.1, s4.2.1, x5))))) (some true)
noncomputable def v_rInts (n : Nat) (a1 : (List Int)) (a2 : (List Int)) : Option (Bool) :=
  br (!decide ((a1.length : Int) = (a2.length : Int))) (some false) (fx (v_rInts_L1 n) n (a1, a2, 0))

/-- v_rHand -/
noncomputable def v_rHand_L1 (n : Nat) (go3 : (List (V4 Int)) × (List (V4 Int)) × Int → Option (Bool)) (s4 : (List (V4 Int)) × (List (V4 Int)) × Int) : Option (Bool) :=
  br (decide (s4.2.2 < (s4.1.length : Int))) (ckb (inb s4.2.2 s4.1.length) (ckb (inb s4.2.2 s4.2.1.length) (br (!eqd (gl (⟨0, 0, 0, 0⟩ : (V4 Int)) s4.1 s4.2.2.toNat) (gl (⟨0, 0, 0, 0⟩ : (V4 Int)) s4.2.1 s4.2.2.toNat)) (some false) (lt (w64 (s4.2.2 + 1)) fun (x5 : Int) => go3 (s4.1, s4.2.1, x5))))) (some true)
noncomputable def v_rHand (n : Nat) (a1 : (List (V4 Int))) (a2 : (List (V4 Int))) : Option (Bool) :=
  br (!decide ((a1.length : Int) = (a2.length : Int))) (some false) (fx (v_rHand_L1 n) n (a1, a2, 0))

/-- i_SumCards -/
noncomputable def i_SumCards (n : Nat) (a1 : (List (V4 Int))) : Option ((V4 Int) × Bool) :=
  ob (i_IsHand n a1) fun (r2 : Bool) => br (! r2) (lt (⟨0, 0, 0, 0⟩ : (V4 Int)) fun (x3 : (V4 Int)) => some (x3, false)) (ob (i_sum n a1) fun (r4 : (V4 Int)) => some (r4, true))

/-- unicode_utf8_RuneCountInString_s -/
noncomputable def unicode_utf8_RuneCountInString_s (n : Nat) (a1 : ByteArray) : Option (Unit) :=
  none

/-- strings_explode_s -/
noncomputable def strings_explode_s (n : Nat) (a1 : ByteArray) (a2 : Int) : Option (Unit) :=
  ob (unicode_utf8_RuneCountInString_s n a1) fun (r3 : Unit) => ob (br (decide (a2 < 0)) (some true) (none)) fun (x4 : Bool) => br x4 (none) (ckb (mkok 16 a2 a2) (none))

/-- x_CountString -/
noncomputable def x_CountString (n : Nat) (a1 : ByteArray) (a2 : Int) : Option Int := some ((Lib.countByte a1.data.toList a2.toNat.toUInt8 : Nat) : Int)

/-- strings_Count_s -/
noncomputable def strings_Count_s_L1 (n : Nat) (go5 : ByteArray × ByteArray × Int → Option (Int)) (s6 : ByteArray × ByteArray × Int) : Option (Int) :=
  ob (strings_Index n s6.1 s6.2.1) fun (r7 : Int) => br (decide (r7 = (-1))) (some s6.2.2) (lt (w64 (s6.2.2 + 1)) fun (x8 : Int) => lt (w64 (r7 + (s6.2.1.size : Int))) fun (x9 : Int) => ckb (slb x9 (s6.1.size : Int) s6.1.size) (go5 ((ssub s6.1 x9.toNat s6.1.size), s6.2.1, x8)))
noncomputable def strings_Count_s (n : Nat) (a1 : ByteArray) (a2 : ByteArray) : Option (Int) :=
  br (decide ((a2.size : Int) = 0)) (ob (unicode_utf8_RuneCountInString_s n a1) fun (r3 : Unit) => none) (br (decide ((a2.size : Int) = 1)) (ckb (inb 0 a2.size) (ob (x_CountString n a1 (sb a2 0)) fun (r4 : Int) => some r4)) (fx (strings_Count_s_L1 n) n (a1, a2, 0)))

/-- strings_genSplit -/
noncomputable def strings_genSplit_J1 (n : Nat) (s9 : ByteArray × Int × (List ByteArray)) : Option ((List ByteArray)) :=
  ckb (inb s9.2.1 s9.2.2.length) (lt (List.set s9.2.2 s9.2.1.toNat s9.1) fun (x10 : (List ByteArray)) => lt (w64 (s9.2.1 + 1)) fun (x11 : Int) => ckb (slb 0 x11 x10.length) (some (sub x10 0 (w64 (x11 - 0)).toNat)))
noncomputable def strings_genSplit_L2 (n : Nat) (go12 : ByteArray × ByteArray × Int × Int × Int × (List ByteArray) → Option ((List ByteArray))) (s13 : ByteArray × ByteArray × Int × Int × Int × (List ByteArray)) : Option ((List ByteArray)) :=
  br (decide (s13.2.2.2.2.1 < s13.2.2.2.1)) (ob (strings_Index n s13.1 s13.2.1) fun (r14 : Int) => br (decide (r14 < 0)) (strings_genSplit_J1 n (s13.1, s13.2.2.2.2.1, s13.2.2.2.2.2)) (lt (w64 (r14 + s13.2.2.1)) fun (x15 : Int) => ckb (slb 0 x15 s13.1.size) (ckb (inb s13.2.2.2.2.1 s13.2.2.2.2.2.length) (lt (List.set s13.2.2.2.2.2 s13.2.2.2.2.1.toNat (ssub s13.1 0 x15.toNat)) fun (x16 : (List ByteArray)) => lt (w64 (r14 + (s13.2.1.size : Int))) fun (x17 : Int) => ckb (slb x17 (s13.1.size : Int) s13.1.size) (lt (w64 (s13.2.2.2.2.1 + 1)) fun (x18 : Int) => go12 ((ssub s13.1 x17.toNat s13.1.size), s13.2.1, s13.2.2.1, s13.2.2.2.1, x18, x16)))))) (strings_genSplit_J1 n (s13.1, s13.2.2.2.2.1, s13.2.2.2.2.2))
noncomputable def strings_genSplit_J3 (n : Nat) (s6 : ByteArray × ByteArray × Int × Int) : Option ((List ByteArray)) :=
  lt (w64 ((s6.1.size : Int) + 1)) fun (x7 : Int) => ckb (mkok 16 (mnI s6.2.2.2 x7) (mnI s6.2.2.2 x7)) (lt (w64 ((mnI s6.2.2.2 x7) - 1)) fun (x8 : Int) => fx (strings_genSplit_L2 n) n (s6.1, s6.2.1, s6.2.2.1, x8, 0, (List.replicate (mnI s6.2.2.2 x7).toNat (⟨#[]⟩ : ByteArray))))
noncomputable def strings_genSplit (n : Nat) (a1 : ByteArray) (a2 : ByteArray) (a3 : Int) (a4 : Int) : Option ((List ByteArray)) :=
  br (decide (a4 = 0)) (some ([] : List ByteArray)) (br (eqd a2 (⟨#[]⟩ : ByteArray)) (ob (strings_explode_s n a1 a4) fun (r5 : Unit) => some ([] : List ByteArray)) (br (decide (a4 < 0)) (ob (strings_Count_s n a1 a2) fun (r19 : Int) => lt (w64 (r19 + 1)) fun (x20 : Int) => strings_genSplit_J3 n (a1, a2, a3, x20)) (strings_genSplit_J3 n (a1, a2, a3, a4))))

/-- strings_Split -/
noncomputable def strings_Split (n : Nat) (a1 : ByteArray) (a2 : ByteArray) : Option ((List ByteArray)) :=
  ob (strings_genSplit n a1 a2 0 (-1)) fun (r3 : (List ByteArray)) => some r3

/-- s_Cur_cardOf'pl -/
noncomputable def s_Cur_cardOf'pl_J1 (n : Nat) (s3 : (List (V4 Int)) × Bool × ((List Int) × (Int × Int)) × (V4 Int)) : Option ((V4 Int) × ((List Int) × (Int × Int))) :=
  br s3.2.1 (ob (s_Cur_pick'p n (s3.1.length : Int) s3.2.2.1) fun (r4 : Int × ((List Int) × (Int × Int))) => ckb (inb r4.1 s3.1.length) (some ((gl (⟨0, 0, 0, 0⟩ : (V4 Int)) s3.1 r4.1.toNat), r4.2))) (ob (s_Cur_card'p n s3.2.2.1) fun (r5 : (V4 Int) × ((List Int) × (Int × Int))) => some (r5.1, r5.2))
noncomputable def s_Cur_cardOf'pl (n : Nat) (a1 : (List (V4 Int))) (a2 : ((List Int) × (Int × Int))) : Option ((V4 Int) × ((List Int) × (Int × Int))) :=
  br (decide (0 < (a1.length : Int))) (ob (s_Cur_one'p n 3 a2) fun (r6 : Bool × ((List Int) × (Int × Int))) => s_Cur_cardOf'pl_J1 n (a1, (! r6.1), r6.2, (⟨0, 0, 0, 0⟩ : (V4 Int)))) (s_Cur_cardOf'pl_J1 n (a1, false, a2, (⟨0, 0, 0, 0⟩ : (V4 Int))))

/-- s_DrawIsHand -/
noncomputable def s_DrawIsHand (n : Nat) (a1 : (List Int)) : Option ((List (V4 Int))) :=
  lt (a1, (0, 0)) fun (x2 : ((List Int) × (Int × Int))) => ob (s_Cur_hand'p n x2) fun (r3 : ((List Int) × (Int × Int)) × (List (V4 Int))) => some r3.2

/-- s_DrawLinesIn -/
noncomputable def s_DrawLinesIn (n : Nat) (a1 : (List Int)) : Option ((List (V4 Int))) :=
  ob (s_DrawIsHand n a1) fun (r2 : (List (V4 Int))) => some r2

/-- s_LinesIn -/
noncomputable def s_LinesIn (n : Nat) (a1 : (List (V4 Int))) : Option (Bool × (List (V3 Int))) :=
  ob (s_l2Hand n a1) fun (r2 : Bool) => br (! r2) (some (false, ([] : List (V3 Int)))) (ob (s_l2Lines n a1) fun (r3 : (List (V3 Int))) => some (true, r3))

/-- s_DrawLinesThrough -/
noncomputable def s_DrawLinesThrough (n : Nat) (a1 : (List Int)) : Option ((V4 Int) × (List (V4 Int))) :=
  lt (a1, (0, 0)) fun (x2 : ((List Int) × (Int × Int))) => ob (s_Cur_hand'p n x2) fun (r3 : ((List Int) × (Int × Int)) × (List (V4 Int))) => ob (s_Cur_cardOf'pl n r3.2 r3.1) fun (r4 : (V4 Int) × ((List Int) × (Int × Int))) => some (r4.1, r3.2)

/-- s_LinesThrough -/
noncomputable def s_LinesThrough (n : Nat) (a1 : (List (V4 Int))) (a2 : (V4 Int)) : Option (Int × Bool) :=
  ob (s_l2Hand n a1) fun (r3 : Bool) => ob (br (! r3) (some true) (ob (s_l2Card n a2) fun (r4 : Bool) => some (! r4))) fun (x5 : Bool) => br x5 (some (0, false)) (ob (s_l2Through n a1 a2) fun (r6 : Int) => some (r6, true))

/-- s_SumCards -/
noncomputable def s_SumCards (n : Nat) (a1 : (List (V4 Int))) : Option ((V4 Int) × Bool) :=
  ob (s_l2Hand n a1) fun (r2 : Bool) => br (! r2) (lt (⟨0, 0, 0, 0⟩ : (V4 Int)) fun (x3 : (V4 Int)) => some (x3, false)) (ob (s_l2Sum n a1) fun (r4 : (V4 Int)) => some (r4, true))

/-- i_PutCard -/
noncomputable def i_PutCard (n : Nat) (a1 : (List (V4 Int))) (a2 : (V4 Int)) : Option (Bool × (List (V4 Int))) :=
  ob (i_IsHand n a1) fun (r3 : Bool) => ob (br (! r3) (some true) (ob (i_IsCard n a2) fun (r4 : Bool) => some (! r4))) fun (x5 : Bool) => ob (br x5 (some true) (ob (i_has n a1 a2) fun (r6 : Bool) => some r6)) fun (x7 : Bool) => ob (br x7 (some true) (some (decide ((a1.length : Int) = 27)))) fun (x8 : Bool) => br x8 (some (false, ([] : List (V4 Int)))) (ob (slices_Clone_SA4_A4_ n a1) fun (r9 : (List (V4 Int))) => ckb (apok 32 (r9.length + 1)) (ob (i_sorted n (r9 ++ [a2])) fun (r10 : (List (V4 Int))) => some (true, r10)))

/-- s_PutCard -/
noncomputable def s_PutCard (n : Nat) (a1 : (List (V4 Int))) (a2 : (V4 Int)) : Option (Bool × (List (V4 Int))) :=
  ob (s_l2Hand n a1) fun (r3 : Bool) => ob (br (! r3) (some true) (ob (s_l2Card n a2) fun (r4 : Bool) => some (! r4))) fun (x5 : Bool) => ob (br x5 (some true) (some (decide (27 ≤ (a1.length : Int))))) fun (x6 : Bool) => ob (br x6 (some true) (ob (s_l2Has n a1 a2) fun (r7 : Bool) => some r7)) fun (x8 : Bool) => br x8 (some (false, ([] : List (V4 Int)))) (ob (s_l2Put n a1 a2) fun (r9 : (List (V4 Int))) => some (true, r9))

/-- s_DropCard -/
noncomputable def s_DropCard (n : Nat) (a1 : (List (V4 Int))) (a2 : (V4 Int)) : Option (Bool × (List (V4 Int))) :=
  ob (s_l2Hand n a1) fun (r3 : Bool) => ob (br (! r3) (some true) (ob (s_l2Has n a1 a2) fun (r4 : Bool) => some (! r4))) fun (x5 : Bool) => br x5 (some (false, ([] : List (V4 Int)))) (ob (s_l2Place n a1 a2) fun (r6 : Int) => ob (s_l2Drop n a1 r6) fun (r7 : (List (V4 Int))) => some (true, r7))

/-- s_DrawWithTrait -/
noncomputable def s_DrawWithTrait (n : Nat) (a1 : (List Int)) : Option (Int × Int × (List (V4 Int))) :=
  lt (a1, (0, 0)) fun (x2 : ((List Int) × (Int × Int))) => ob (s_Cur_pick'p n 5 x2) fun (r3 : Int × ((List Int) × (Int × Int))) => ob (s_Cur_pick'p n 24 r3.2) fun (r4 : Int × ((List Int) × (Int × Int))) => lt (w64 (Int.tdiv r4.1 23)) fun (x5 : Int) => lt (w64 (r3.1 - x5)) fun (x6 : Int) => ob (s_Cur_pick'p n 3 r4.2) fun (r7 : Int × ((List Int) × (Int × Int))) => ob (s_Cur_pick'p n 24 r7.2) fun (r8 : Int × ((List Int) × (Int × Int))) => lt (w64 (Int.tdiv r8.1 23)) fun (x9 : Int) => lt (w64 (r7.1 - x9)) fun (x10 : Int) => ob (s_Cur_pick'p n 24 r8.2) fun (r11 : Int × ((List Int) × (Int × Int))) => lt (w64 (Int.tdiv r11.1 23)) fun (x12 : Int) => lt (w64 (x10 + x12)) fun (x13 : Int) => ob (s_Cur_hand'p n r11.2) fun (r14 : ((List Int) × (Int × Int)) × (List (V4 Int))) => some (x6, x13, r14.2)

/-- s_WithTrait -/
noncomputable def s_WithTrait_L1 (n : Nat) (go9 : (List (V4 Int)) × Int × Int × Int × (List Int) → Option (Bool × (List Int))) (s10 : (List (V4 Int)) × Int × Int × Int × (List Int)) : Option (Bool × (List Int)) :=
  br (decide (s10.2.2.2.1 < (s10.1.length : Int))) (ckb (inb s10.2.2.2.1 s10.1.length) (ckb (inb s10.2.1 4) (br (decide ((V4.get (gl (⟨0, 0, 0, 0⟩ : (V4 Int)) s10.1 s10.2.2.2.1.toNat) s10.2.1.toNat) = s10.2.2.1)) (ckb (apok 8 (s10.2.2.2.2.length + 1)) (lt (w64 (s10.2.2.2.1 + 1)) fun (x11 : Int) => go9 (s10.1, s10.2.1, s10.2.2.1, x11, (s10.2.2.2.2 ++ [s10.2.2.2.1])))) (lt (w64 (s10.2.2.2.1 + 1)) fun (x12 : Int) => go9 (s10.1, s10.2.1, s10.2.2.1, x12, s10.2.2.2.2))))) (some (true, s10.2.2.2.2))
noncomputable def s_WithTrait (n : Nat) (a1 : (List (V4 Int))) (a2 : Int) (a3 : Int) : Option (Bool × (List Int)) :=
  ob (s_l2Hand n a1) fun (r4 : Bool) => ob (br (! r4) (some true) (ob (s_l1In n a2 0 3) fun (r5 : Bool) => some (! r5))) fun (x6 : Bool) => ob (br x6 (some true) (ob (s_l1In n a3 0 2) fun (r7 : Bool) => some (! r7))) fun (x8 : Bool) => br x8 (some (false, ([] : List Int))) (fx (s_WithTrait_L1 n) n (a1, a2, a3, 0, ([] : List Int)))

/-- s_DrawSortCards -/
noncomputable def s_DrawSortCards_L1 (n : Nat) (go4 : Int × ((List Int) × (Int × Int)) × (List (V4 Int)) → Option ((List (V4 Int)))) (s5 : Int × ((List Int) × (Int × Int)) × (List (V4 Int))) : Option ((List (V4 Int))) :=
  br (decide (0 < s5.1)) (ob (s_Cur_pick'p n 81 s5.2.1) fun (r6 : Int × ((List Int) × (Int × Int))) => ob (s_l2At n r6.1) fun (r7 : (V4 Int)) => ckb (apok 32 (s5.2.2.length + 1)) (ob (s_Cur_one'p n 4 r6.2) fun (r8 : Bool × ((List Int) × (Int × Int))) => br r8.1 (ob (s_Cur_pick'p n ((s5.2.2 ++ [r7]).length : Int) r8.2) fun (r9 : Int × ((List Int) × (Int × Int))) => ckb (inb r9.1 (s5.2.2 ++ [r7]).length) (ckb (apok 32 ((s5.2.2 ++ [r7]).length + 1)) (lt (w64 (s5.1 - 1)) fun (x10 : Int) => go4 (x10, r9.2, ((s5.2.2 ++ [r7]) ++ [(gl (⟨0, 0, 0, 0⟩ : (V4 Int)) (s5.2.2 ++ [r7]) r9.1.toNat)]))))) (lt (w64 (s5.1 - 1)) fun (x11 : Int) => go4 (x11, r8.2, (s5.2.2 ++ [r7]))))) (ob (s_Cur_one'p n 20 s5.2.1) fun (r12 : Bool × ((List Int) × (Int × Int))) => br r12.1 (ob (s_Cur_card'p n r12.2) fun (r13 : (V4 Int) × ((List Int) × (Int × Int))) => ckb (apok 32 (s5.2.2.length + 1)) (some (s5.2.2 ++ [r13.1]))) (some s5.2.2))
noncomputable def s_DrawSortCards (n : Nat) (a1 : (List Int)) : Option ((List (V4 Int))) :=
  lt (a1, (0, 0)) fun (x2 : ((List Int) × (Int × Int))) => ob (s_Cur_among'pl n [3, 6, 1, 0, 12, 40] x2) fun (r3 : Int × ((List Int) × (Int × Int))) => fx (s_DrawSortCards_L1 n) n (r3.1, r3.2, ([] : List (V4 Int)))

/-- i_SortCards -/
noncomputable def i_SortCards (n : Nat) (a1 : (List (V4 Int))) : Option (Bool × (List (V4 Int))) :=
  ob (i_areCards n a1) fun (r2 : Bool) => br (! r2) (some (false, ([] : List (V4 Int)))) (ob (i_sorted n a1) fun (r3 : (List (V4 Int))) => br (decide (27 < (r3.length : Int))) (some (false, ([] : List (V4 Int)))) (some (true, r3)))

/-- s_SortCards -/
noncomputable def s_SortCards_L1 (n : Nat) (go2 : (List (V4 Int)) × Int → Option (Bool × (List (V4 Int)))) (s3 : (List (V4 Int)) × Int) : Option (Bool × (List (V4 Int))) :=
  br (decide (s3.2 < (s3.1.length : Int))) (ckb (inb s3.2 s3.1.length) (ob (s_l2Card n (gl (⟨0, 0, 0, 0⟩ : (V4 Int)) s3.1 s3.2.toNat)) fun (r4 : Bool) => br (! r4) (some (false, ([] : List (V4 Int)))) (lt (w64 (s3.2 + 1)) fun (x5 : Int) => go2 (s3.1, x5)))) (ob (s_l2Sorted n s3.1) fun (r6 : (List (V4 Int))) => br (decide (27 < (r6.length : Int))) (some (false, ([] : List (V4 Int)))) (some (true, r6)))
noncomputable def s_SortCards (n : Nat) (a1 : (List (V4 Int))) : Option (Bool × (List (V4 Int))) :=
  fx (s_SortCards_L1 n) n (a1, 0)

/-- strings_Join -/
noncomputable def strings_Join (n : Nat) (a1 : List ByteArray) (a2 : ByteArray) : Option ByteArray := if decide (a1.length ≤ 140737488355328) && decide ((Lib.join (a1.map (·.data.toList)) a2.data.toList).length ≤ 140737488355328) then some ⟨(Lib.join (a1.map (·.data.toList)) a2.data.toList).toArray⟩ else none

/-- i_cardsText -/
noncomputable def i_cardsText_L1 (n : Nat) (go2 : (List (V4 Int)) × Int × Int × (List ByteArray) → Option (ByteArray)) (s3 : (List (V4 Int)) × Int × Int × (List ByteArray)) : Option (ByteArray) :=
  br (decide (s3.2.2.1 < s3.2.1)) (ckb (inb s3.2.2.1 s3.1.length) (ob (i_cardText n (gl (⟨0, 0, 0, 0⟩ : (V4 Int)) s3.1 s3.2.2.1.toNat)) fun (r4 : ByteArray) => ckb (apok 16 (s3.2.2.2.length + 1)) (lt (w64 (s3.2.2.1 + 1)) fun (x5 : Int) => go2 (s3.1, s3.2.1, x5, (s3.2.2.2 ++ [r4]))))) (ob (strings_Join n s3.2.2.2 (⟨#[32]⟩ : ByteArray)) fun (r6 : ByteArray) => some r6)
noncomputable def i_cardsText (n : Nat) (a1 : (List (V4 Int))) : Option (ByteArray) :=
  fx (i_cardsText_L1 n) n (a1, (a1.length : Int), 0, ([] : List ByteArray))

/-- i_HandText -/
noncomputable def i_HandText (n : Nat) (a1 : (List (V4 Int))) : Option (ByteArray × Bool) :=
  ob (i_IsHand n a1) fun (r2 : Bool) => br (! r2) (some ((⟨#[]⟩ : ByteArray), false)) (ob (i_cardsText n a1) fun (r3 : ByteArray) => some (r3, true))

/-- s_l2Write -/
noncomputable def s_l2Write_J1 (n : Nat) (go2 : (List (V4 Int)) × ByteArray × Int → Option (ByteArray)) (s4 : (List (V4 Int)) × ByteArray × Int) : Option (ByteArray) :=
  ckb (inb s4.2.2 s4.1.length) (ob (s_l2Text n (gl (⟨0, 0, 0, 0⟩ : (V4 Int)) s4.1 s4.2.2.toNat)) fun (r5 : ByteArray) => ckb (stok (s4.2.1.size + r5.size)) (lt (s4.2.1 ++ r5) fun (x6 : ByteArray) => lt (w64 (s4.2.2 + 1)) fun (x7 : Int) => go2 (s4.1, x6, x7)))
noncomputable def s_l2Write_L2 (n : Nat) (go2 : (List (V4 Int)) × ByteArray × Int → Option (ByteArray)) (s3 : (List (V4 Int)) × ByteArray × Int) : Option (ByteArray) :=
  br (decide (s3.2.2 < (s3.1.length : Int))) (br (decide (0 < s3.2.2)) (ckb (stok (s3.2.1.size + 1)) (lt (s3.2.1 ++ (⟨#[32]⟩ : ByteArray)) fun (x8 : ByteArray) => s_l2Write_J1 n go2 (s3.1, x8, s3.2.2))) (s_l2Write_J1 n go2 (s3.1, s3.2.1, s3.2.2))) (some s3.2.1)
noncomputable def s_l2Write (n : Nat) (a1 : (List (V4 Int))) : Option (ByteArray) :=
  fx (s_l2Write_L2 n) n (a1, (⟨#[]⟩ : ByteArray), 0)

/-- s_HandText -/
noncomputable def s_HandText (n : Nat) (a1 : (List (V4 Int))) : Option (ByteArray × Bool) :=
  ob (s_l2Hand n a1) fun (r2 : Bool) => br (! r2) (some ((⟨#[]⟩ : ByteArray), false)) (ob (s_l2Write n a1) fun (r3 : ByteArray) => some (r3, true))

/-- s_Cur_spoilt'p -/
noncomputable def s_Cur_spoilt'p (n : Nat) (a1 : ByteArray) (a2 : ByteArray) (a3 : ((List Int) × (Int × Int))) : Option (ByteArray × ((List Int) × (Int × Int))) :=
  br (eqd a1 (⟨#[]⟩ : ByteArray)) (ckb (slb 0 1 a2.size) (some ((ssub a2 0 1), a3))) (ob (s_Cur_pick'p n (a1.size : Int) a3) fun (r4 : Int × ((List Int) × (Int × Int))) => ob (s_Cur_pick'p n (a2.size : Int) r4.2) fun (r5 : Int × ((List Int) × (Int × Int))) => ckb (slb r5.1 (a2.size : Int) a2.size) (ckb (slb 0 1 (ssub a2 r5.1.toNat a2.size).size) (ob (s_Cur_pick'p n 3 r5.2) fun (r6 : Int × ((List Int) × (Int × Int))) => br (decide (r6.1 = 0)) (ckb (slb 0 r4.1 a1.size) (ckb (stok ((ssub a1 0 r4.1.toNat).size + (ssub (ssub a2 r5.1.toNat a2.size) 0 1).size)) (lt ((ssub a1 0 r4.1.toNat) ++ (ssub (ssub a2 r5.1.toNat a2.size) 0 1)) fun (x7 : ByteArray) => ckb (slb r4.1 (a1.size : Int) a1.size) (ckb (stok (x7.size + (ssub a1 r4.1.toNat a1.size).size)) (lt (x7 ++ (ssub a1 r4.1.toNat a1.size)) fun (x8 : ByteArray) => some (x8, r6.2)))))) (br (decide (r6.1 = 1)) (ckb (slb 0 r4.1 a1.size) (ckb (stok ((ssub a1 0 r4.1.toNat).size + (ssub (ssub a2 r5.1.toNat a2.size) 0 1).size)) (lt ((ssub a1 0 r4.1.toNat) ++ (ssub (ssub a2 r5.1.toNat a2.size) 0 1)) fun (x9 : ByteArray) => lt (w64 (r4.1 + 1)) fun (x10 : Int) => ckb (slb x10 (a1.size : Int) a1.size) (ckb (stok (x9.size + (ssub a1 x10.toNat a1.size).size)) (lt (x9 ++ (ssub a1 x10.toNat a1.size)) fun (x11 : ByteArray) => some (x11, r6.2)))))) (ckb (slb 0 r4.1 a1.size) (lt (w64 (r4.1 + 1)) fun (x12 : Int) => ckb (slb x12 (a1.size : Int) a1.size) (ckb (stok ((ssub a1 0 r4.1.toNat).size + (ssub a1 x12.toNat a1.size).size)) (lt ((ssub a1 0 r4.1.toNat) ++ (ssub a1 x12.toNat a1.size)) fun (x13 : ByteArray) => some (x13, r6.2)))))))))

/-- s_DrawParseHand -/
noncomputable def s_DrawParseHand_J1 (n : Nat) (s3 : ByteArray × ((List Int) × (Int × Int))) : Option (ByteArray) :=
  ob (s_Cur_one'p n 3 s3.2) fun (r4 : Bool × ((List Int) × (Int × Int))) => br r4.1 (ob (s_Cur_spoilt'p n s3.1 (⟨#[48, 49, 50, 51, 32, 45]⟩ : ByteArray) r4.2) fun (r5 : ByteArray × ((List Int) × (Int × Int))) => some r5.1) (some s3.1)
noncomputable def s_DrawParseHand (n : Nat) (a1 : (List Int)) : Option (ByteArray) :=
  lt (a1, (0, 0)) fun (x2 : ((List Int) × (Int × Int))) => ob (s_Cur_hand'p n x2) fun (r6 : ((List Int) × (Int × Int)) × (List (V4 Int))) => ob (s_l2Hand n r6.2) fun (r7 : Bool) => br r7 (ob (s_l2Write n r6.2) fun (r8 : ByteArray) => s_DrawParseHand_J1 n (r8, r6.1)) (s_DrawParseHand_J1 n ((⟨#[48, 48, 48, 49, 32, 48, 49, 50, 48, 32, 50, 50, 50, 50]⟩ : ByteArray), r6.1))

/-- i_readCard -/
noncomputable def i_readCard_L1 (n : Nat) (go3 : ByteArray × Int × (V4 Int) × (V4 Int) → Option ((V4 Int) × Bool)) (s4 : ByteArray × Int × (V4 Int) × (V4 Int)) : Option ((V4 Int) × Bool) :=
  br (decide (s4.2.1 < 4)) (ckb (inb s4.2.1 s4.1.size) (lt (w64 (sb s4.1 s4.2.1.toNat)) fun (x5 : Int) => lt (w64 (x5 - 48)) fun (x6 : Int) => ckb (inb s4.2.1 4) (lt (V4.set s4.2.2.2 s4.2.1.toNat x6) fun (x7 : (V4 Int)) => lt (w64 (s4.2.1 + 1)) fun (x8 : Int) => go3 (s4.1, x8, s4.2.2.1, x7)))) (ob (i_IsCard n s4.2.2.2) fun (r9 : Bool) => some (s4.2.2.2, r9))
noncomputable def i_readCard (n : Nat) (a1 : ByteArray) : Option ((V4 Int) × Bool) :=
  lt (⟨0, 0, 0, 0⟩ : (V4 Int)) fun (x2 : (V4 Int)) => br (!decide ((a1.size : Int) = 4)) (some (x2, false)) (fx (i_readCard_L1 n) n (a1, 0, (⟨0, 0, 0, 0⟩ : (V4 Int)), x2))

/-- i_readCards -/
noncomputable def i_readCards_L1 (n : Nat) (go3 : Int × Int × (List (V4 Int)) × (List ByteArray) → Option (Bool × (List (V4 Int)))) (s4 : Int × Int × (List (V4 Int)) × (List ByteArray)) : Option (Bool × (List (V4 Int))) :=
  br (decide (s4.2.1 < s4.1)) (ckb (inb s4.2.1 s4.2.2.2.length) (ob (i_readCard n (gl (⟨#[]⟩ : ByteArray) s4.2.2.2 s4.2.1.toNat)) fun (r5 : (V4 Int) × Bool) => br (! r5.2) (some (false, ([] : List (V4 Int)))) (ckb (apok 32 (s4.2.2.1.length + 1)) (lt (w64 (s4.2.1 + 1)) fun (x6 : Int) => go3 (s4.1, x6, (s4.2.2.1 ++ [r5.1]), s4.2.2.2))))) (some (true, s4.2.2.1))
noncomputable def i_readCards (n : Nat) (a1 : ByteArray) : Option (Bool × (List (V4 Int))) :=
  br (eqd a1 (⟨#[]⟩ : ByteArray)) (some (true, ([] : List (V4 Int)))) (ob (strings_Split n a1 (⟨#[32]⟩ : ByteArray)) fun (r2 : (List ByteArray)) => fx (i_readCards_L1 n) n ((r2.length : Int), 0, ([] : List (V4 Int)), r2))

/-- i_ParseHand -/
noncomputable def i_ParseHand (n : Nat) (a1 : ByteArray) : Option (Bool × (List (V4 Int))) :=
  ob (i_readCards n a1) fun (r2 : Bool × (List (V4 Int))) => ob (br (! r2.1) (some true) (ob (i_IsHand n r2.2) fun (r3 : Bool) => some (! r3))) fun (x4 : Bool) => br x4 (some (false, ([] : List (V4 Int)))) (some (true, r2.2))

/-- s_l2Read -/
noncomputable def s_l2Read_L1 (n : Nat) (go3 : ByteArray × Int × (V4 Int) × (V4 Int) → Option ((V4 Int) × Bool)) (s4 : ByteArray × Int × (V4 Int) × (V4 Int)) : Option ((V4 Int) × Bool) :=
  br (decide (s4.2.1 < 4)) (ckb (inb s4.2.1 s4.1.size) (ob (br (decide ((sb s4.1 s4.2.1.toNat) < 48)) (some true) (ckb (inb s4.2.1 s4.1.size) (some (decide (50 < (sb s4.1 s4.2.1.toNat)))))) fun (x5 : Bool) => br x5 (lt (⟨0, 0, 0, 0⟩ : (V4 Int)) fun (x6 : (V4 Int)) => some (x6, false)) (ckb (inb s4.2.1 s4.1.size) (lt (IntKind.wrap .u8 ((sb s4.1 s4.2.1.toNat) - 48)) fun (x7 : Int) => lt (w64 x7) fun (x8 : Int) => ckb (inb s4.2.1 4) (lt (V4.set s4.2.2.2 s4.2.1.toNat x8) fun (x9 : (V4 Int)) => lt (w64 (s4.2.1 + 1)) fun (x10 : Int) => go3 (s4.1, x10, s4.2.2.1, x9)))))) (some (s4.2.2.2, true))
noncomputable def s_l2Read (n : Nat) (a1 : ByteArray) : Option ((V4 Int) × Bool) :=
  lt (⟨0, 0, 0, 0⟩ : (V4 Int)) fun (x2 : (V4 Int)) => br (!decide ((a1.size : Int) = 4)) (some (x2, false)) (fx (s_l2Read_L1 n) n (a1, 0, (⟨0, 0, 0, 0⟩ : (V4 Int)), x2))

/-- s_ParseHand -/
noncomputable def s_ParseHand_L1 (n : Nat) (go3 : Int × (List (V4 Int)) × (List ByteArray) → Option (Bool × (List (V4 Int)))) (s4 : Int × (List (V4 Int)) × (List ByteArray)) : Option (Bool × (List (V4 Int))) :=
  br (decide (s4.1 < (s4.2.2.length : Int))) (ckb (inb s4.1 s4.2.2.length) (ob (s_l2Read n (gl (⟨#[]⟩ : ByteArray) s4.2.2 s4.1.toNat)) fun (r5 : (V4 Int) × Bool) => br (! r5.2) (some (false, ([] : List (V4 Int)))) (ckb (apok 32 (s4.2.1.length + 1)) (lt (w64 (s4.1 + 1)) fun (x6 : Int) => go3 (x6, (s4.2.1 ++ [r5.1]), s4.2.2))))) (ob (s_l2Hand n s4.2.1) fun (r7 : Bool) => br (! r7) (some (false, ([] : List (V4 Int)))) (some (true, s4.2.1)))
noncomputable def s_ParseHand (n : Nat) (a1 : ByteArray) : Option (Bool × (List (V4 Int))) :=
  br (eqd a1 (⟨#[]⟩ : ByteArray)) (some (true, ([] : List (V4 Int)))) (br (decide (135 < (a1.size : Int))) (some (false, ([] : List (V4 Int)))) (ob (s_l1Split n a1 32) fun (r2 : (List ByteArray)) => fx (s_ParseHand_L1 n) n (0, ([] : List (V4 Int)), r2)))

/-- v_FnHands -/
noncomputable def v_FnHands_L1 (n : Nat) (go59 : Int × Int × (List (V4 Int)) × (List (V3 Int)) → Option (Bool)) (s60 : Int × Int × (List (V4 Int)) × (List (V3 Int))) : Option (Bool) :=
  br (decide (s60.2.1 < (s60.2.2.1.length : Int))) (ckb (inb s60.2.1 s60.2.2.1.length) (ob (i_LinesThrough n s60.2.2.1 (gl (⟨0, 0, 0, 0⟩ : (V4 Int)) s60.2.2.1 s60.2.1.toNat)) fun (r61 : Int × Bool) => br (! r61.2) (some false) (lt (w64 (s60.1 + r61.1)) fun (x62 : Int) => lt (w64 (s60.2.1 + 1)) fun (x63 : Int) => go59 (x62, x63, s60.2.2.1, s60.2.2.2)))) (lt (w64 (3 * (s60.2.2.2.length : Int))) fun (x64 : Int) => some (decide (s60.1 = x64)))
noncomputable def v_FnHands_J2 (n : Nat) (s51 : Bool × ByteArray × (List (V4 Int)) × (List (V3 Int))) : Option (Bool) :=
  br (! s51.1) (some true) (ob (i_ParseHand n s51.2.1) fun (r52 : Bool × (List (V4 Int))) => ob (br (! r52.1) (some true) (ob (v_rHand n r52.2 s51.2.2.1) fun (r53 : Bool) => some (! r53))) fun (x54 : Bool) => ob (br x54 (some true) (lt (w64 (6 * (s51.2.2.2.length : Int))) fun (x55 : Int) => lt (w64 ((s51.2.2.1.length : Int) - 1)) fun (x56 : Int) => lt (w64 ((s51.2.2.1.length : Int) * x56)) fun (x57 : Int) => some (decide (x57 < x55)))) fun (x58 : Bool) => br x58 (some false) (fx (v_FnHands_L1 n) n (0, 0, s51.2.2.1, s51.2.2.2)))
noncomputable def v_FnHands_J3 (n : Nat) (s50 : Bool × Bool × ByteArray × (List (V4 Int)) × (List (V3 Int)) × (List (V4 Int)) × (V4 Int) × (List (V4 Int))) : Option (Bool) :=
  br s50.2.1 (ob (i_PutCard n s50.2.2.2.2.2.2.2 s50.2.2.2.2.2.2.1) fun (r65 : Bool × (List (V4 Int))) => ob (br (! r65.1) (some true) (ob (v_rHand n r65.2 s50.2.2.2.2.2.1) fun (r66 : Bool) => some (! r66))) fun (x67 : Bool) => br x67 (some false) (v_FnHands_J2 n (s50.1, s50.2.2.1, s50.2.2.2.1, s50.2.2.2.2.1))) (v_FnHands_J2 n (s50.1, s50.2.2.1, s50.2.2.2.1, s50.2.2.2.2.1))
noncomputable def v_FnHands (n : Nat) (a1 : (List Int)) : Option (Bool) :=
  ob (v_rBig n a1) fun (r2 : Bool) => br r2 (some true) (ob (s_DrawLinesIn n a1) fun (r3 : (List (V4 Int))) => ob (i_LinesIn n r3) fun (r4 : Bool × (List (V3 Int))) => ob (s_LinesIn n r3) fun (r5 : Bool × (List (V3 Int))) => ob (br (! (r4.1 == r5.1)) (some true) (ob (i_IsHand n r3) fun (r6 : Bool) => some (! (r4.1 == r6)))) fun (x7 : Bool) => ob (br x7 (some true) (ob (v_rThrees n r4.2 r5.2) fun (r8 : Bool) => some (! r8))) fun (x9 : Bool) => br x9 (some false) (ob (s_DrawLinesThrough n a1) fun (r10 : (V4 Int) × (List (V4 Int))) => ob (i_LinesThrough n r10.2 r10.1) fun (r11 : Int × Bool) => ob (s_LinesThrough n r10.2 r10.1) fun (r12 : Int × Bool) => ob (br (!decide (r11.1 = r12.1)) (some true) (some (! (r11.2 == r12.2)))) fun (x13 : Bool) => br x13 (some false) (ob (i_SumCards n r3) fun (r14 : (V4 Int) × Bool) => ob (s_SumCards n r3) fun (r15 : (V4 Int) × Bool) => ob (br (!eqd r14.1 r15.1) (some true) (some (! (r14.2 == r15.2)))) fun (x16 : Bool) => ob (br x16 (some true) (some (! (r14.2 == r4.1)))) fun (x17 : Bool) => br x17 (some false) (ob (i_PutCard n r10.2 r10.1) fun (r18 : Bool × (List (V4 Int))) => ob (s_PutCard n r10.2 r10.1) fun (r19 : Bool × (List (V4 Int))) => ob (br (! (r18.1 == r19.1)) (some true) (ob (v_rHand n r18.2 r19.2) fun (r20 : Bool) => some (! r20))) fun (x21 : Bool) => br x21 (some false) (ob (i_DropCard n r10.2 r10.1) fun (r22 : Bool × (List (V4 Int))) => ob (s_DropCard n r10.2 r10.1) fun (r23 : Bool × (List (V4 Int))) => ob (br (! (r22.1 == r23.1)) (some true) (ob (v_rHand n r22.2 r23.2) fun (r24 : Bool) => some (! r24))) fun (x25 : Bool) => ob (br x25 (some true) (ob (br r18.1 (some r22.1) (some false)) fun (x26 : Bool) => some x26)) fun (x27 : Bool) => br x27 (some false) (ob (s_DrawWithTrait n a1) fun (r28 : Int × Int × (List (V4 Int))) => ob (i_WithTrait n r28.2.2 r28.1 r28.2.1) fun (r29 : Bool × (List Int)) => ob (s_WithTrait n r28.2.2 r28.1 r28.2.1) fun (r30 : Bool × (List Int)) => ob (br (! (r29.1 == r30.1)) (some true) (ob (v_rInts n r29.2 r30.2) fun (r31 : Bool) => some (! r31))) fun (x32 : Bool) => br x32 (some false) (ob (s_DrawSortCards n a1) fun (r33 : (List (V4 Int))) => ob (i_SortCards n r33) fun (r34 : Bool × (List (V4 Int))) => ob (s_SortCards n r33) fun (r35 : Bool × (List (V4 Int))) => ob (br (! (r34.1 == r35.1)) (some true) (ob (v_rHand n r34.2 r35.2) fun (r36 : Bool) => some (! r36))) fun (x37 : Bool) => ob (br x37 (some true) (ob (br r34.1 (ob (i_IsHand n r34.2) fun (r38 : Bool) => some (! r38)) (some false)) fun (x39 : Bool) => some x39)) fun (x40 : Bool) => br x40 (some false) (ob (i_HandText n r3) fun (r41 : ByteArray × Bool) => ob (s_HandText n r3) fun (r42 : ByteArray × Bool) => ob (br (!eqd r41.1 r42.1) (some true) (some (! (r41.2 == r42.2)))) fun (x43 : Bool) => ob (br x43 (some true) (some (! (r41.2 == r4.1)))) fun (x44 : Bool) => br x44 (some false) (ob (s_DrawParseHand n a1) fun (r45 : ByteArray) => ob (i_ParseHand n r45) fun (r46 : Bool × (List (V4 Int))) => ob (s_ParseHand n r45) fun (r47 : Bool × (List (V4 Int))) => ob (br (! (r46.1 == r47.1)) (some true) (ob (v_rHand n r46.2 r47.2) fun (r48 : Bool) => some (! r48))) fun (x49 : Bool) => br x49 (some false) (br r18.1 (ob (i_DropCard n r18.2 r10.1) fun (r68 : Bool × (List (V4 Int))) => ob (br (! r68.1) (some true) (ob (v_rHand n r68.2 r10.2) fun (r69 : Bool) => some (! r69))) fun (x70 : Bool) => br x70 (some false) (v_FnHands_J3 n (r4.1, r22.1, r41.1, r3, r4.2, r10.2, r10.1, r22.2))) (v_FnHands_J3 n (r4.1, r22.1, r41.1, r3, r4.2, r10.2, r10.1, r22.2))))))))))))

end Go.Pl
