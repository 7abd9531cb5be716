/- Printed by a program of the session: the program's functions as plain functions. -/
import Derived.Test.YtfoielhhflbbfaaZ0
import Derived.Lib.Bytealg
namespace Go.Pl
open Go Go.Tv Go.RowKit
set_option linter.unusedVariables false
def bls (a b : ByteArray) : Bool := Op.bytesLess a.toList b.toList
/-- s_l1In -/
noncomputable def s_l1In (n : Nat) (a1 : Int) (a2 : Int) (a3 : Int) : Option (Bool) :=
  ob (br (decide (a2 ≤ a1)) (some (decide (a1 ≤ a3))) (some false)) fun (x4 : Bool) => some x4

/-- s_l2Card -/
noncomputable def s_l2Card_L1 (n : Nat) (go2 : Int × (V4 Int) → Option (Bool)) (s3 : Int × (V4 Int)) : Option (Bool) :=
  br (decide (s3.1 < 4)) (ckb (inb s3.1 4) (ob (s_l1In n (V4.get s3.2 s3.1.toNat) 0 2) fun (r4 : Bool) => br (! r4) (some false) (lt (w64 (s3.1 + 1)) fun (x5 : Int) => go2 (x5, s3.2)))) (some true)
noncomputable def s_l2Card (n : Nat) (a1 : (V4 Int)) : Option (Bool) :=
  fx (s_l2Card_L1 n) n (0, a1)

/-- i_within -/
noncomputable def i_within (n : Nat) (a1 : Int) (a2 : Int) (a3 : Int) : Option (Bool) :=
  ob (br (decide (a2 ≤ a1)) (some (decide (a1 ≤ a3))) (some false)) fun (x4 : Bool) => some x4

/-- i_allWithin_1'pp -/
noncomputable def i_allWithin_1'pp (n : Nat) (a1 : Int) (a2 : Int) (a3 : Int) : Option (Bool × Int × Int) :=
  ob (i_within n a1 a2 a3) fun (r4 : Bool) => some ((! r4), a2, a3)

/-- slices_IndexFunc_Sint_int_'l_i_allWithin_1pp -/
noncomputable def slices_IndexFunc_Sint_int_'l_i_allWithin_1pp_L1 (n : Nat) (go4 : (List Int) × Int × Int × Int × Int → Option (Int × Int × Int)) (s5 : (List Int) × Int × Int × Int × Int) : Option (Int × Int × Int) :=
  br (decide (s5.2.2.1 < s5.2.1)) (ckb (inb s5.2.2.1 s5.1.length) (ob (i_allWithin_1'pp n (gl 0 s5.1 s5.2.2.1.toNat) s5.2.2.2.1 s5.2.2.2.2) fun (r6 : Bool × Int × Int) => br r6.1 (some (s5.2.2.1, r6.2.1, r6.2.2)) (lt (w64 (s5.2.2.1 + 1)) fun (x7 : Int) => go4 (s5.1, s5.2.1, x7, r6.2.1, r6.2.2)))) (some ((-1), s5.2.2.2.1, s5.2.2.2.2))
noncomputable def slices_IndexFunc_Sint_int_'l_i_allWithin_1pp (n : Nat) (a1 : (List Int)) (a2 : Int) (a3 : Int) : Option (Int × Int × Int) :=
  fx (slices_IndexFunc_Sint_int_'l_i_allWithin_1pp_L1 n) n (a1, (a1.length : Int), 0, a2, a3)

/-- slices_ContainsFunc_Sint_int_'l_i_allWithin_1pp -/
noncomputable def slices_ContainsFunc_Sint_int_'l_i_allWithin_1pp (n : Nat) (a1 : (List Int)) (a2 : Int) (a3 : Int) : Option (Bool × Int × Int) :=
  ob (slices_IndexFunc_Sint_int_'l_i_allWithin_1pp n a1 a2 a3) fun (r4 : Int × Int × Int) => some ((decide (0 ≤ r4.1)), r4.2.1, r4.2.2)

/-- i_allWithin -/
noncomputable def i_allWithin (n : Nat) (a1 : (List Int)) (a2 : Int) (a3 : Int) : Option (Bool) :=
  ob (slices_ContainsFunc_Sint_int_'l_i_allWithin_1pp n a1 a2 a3) fun (r4 : Bool × Int × Int) => some (! r4.1)

/-- i_IsCard -/
noncomputable def i_IsCard (n : Nat) (a1 : (V4 Int)) : Option (Bool) :=
  ob (i_allWithin n (V4.els a1) 0 2) fun (r2 : Bool) => some r2

/-- slices_Clone_SA4_A4_ -/
noncomputable def slices_Clone_SA4_A4_ (n : Nat) (a1 : (List (V4 Int))) : Option ((List (V4 Int))) :=
  amb a1.isEmpty fun (b2 : Bool) => br b2 (some ([] : List (V4 Int))) (ckb (apok 32 (0 + a1.length)) (some a1))

/-- math_bits_Len64 -/
noncomputable def math_bits_Len64_J1 (n : Nat) (s4 : Int × Int) : Option (Int) :=
  lt (IntKind.wrap .u8 s4.1) fun (x5 : Int) => ckb (inb x5 256) (lt (w64 (sb (⟨((List.append (List.append (0 :: 1 :: 2 :: 2 :: 3 :: 3 :: 3 :: 3 :: 4 :: 4 :: 4 :: 4 :: 4 :: 4 :: 4 :: 4 :: 5 :: 5 :: 5 :: 5 :: 5 :: 5 :: 5 :: 5 :: 5 :: 5 :: 5 :: 5 :: 5 :: 5 :: 5 :: 5 :: 6 :: 6 :: 6 :: 6 :: 6 :: 6 :: 6 :: 6 :: 6 :: 6 :: 6 :: 6 :: 6 :: 6 :: 6 :: 6 :: 6 :: 6 :: 6 :: 6 :: 6 :: 6 :: 6 :: 6 :: 6 :: 6 :: 6 :: 6 :: 6 :: 6 :: 6 :: 6 :: []) (7 :: 7 :: 7 :: 7 :: 7 :: 7 :: 7 :: 7 :: 7 :: 7 :: 7 :: 7 :: 7 :: 7 :: 7 :: 7 :: 7 :: 7 :: 7 :: 7 :: 7 :: 7 :: 7 :: 7 :: 7 :: 7 :: 7 :: 7 :: 7 :: 7 :: 7 :: 7 :: 7 :: 7 :: 7 :: 7 :: 7 :: 7 :: 7 :: 7 :: 7 :: 7 :: 7 :: 7 :: 7 :: 7 :: 7 :: 7 :: 7 :: 7 :: 7 :: 7 :: 7 :: 7 :: 7 :: 7 :: 7 :: 7 :: 7 :: 7 :: 7 :: 7 :: 7 :: 7 :: [])) (List.append (8 :: 8 :: 8 :: 8 :: 8 :: 8 :: 8 :: 8 :: 8 :: 8 :: 8 :: 8 :: 8 :: 8 :: 8 :: 8 :: 8 :: 8 :: 8 :: 8 :: 8 :: 8 :: 8 :: 8 :: 8 :: 8 :: 8 :: 8 :: 8 :: 8 :: 8 :: 8 :: 8 :: 8 :: 8 :: 8 :: 8 :: 8 :: 8 :: 8 :: 8 :: 8 :: 8 :: 8 :: 8 :: 8 :: 8 :: 8 :: 8 :: 8 :: 8 :: 8 :: 8 :: 8 :: 8 :: 8 :: 8 :: 8 :: 8 :: 8 :: 8 :: 8 :: 8 :: 8 :: []) (8 :: 8 :: 8 :: 8 :: 8 :: 8 :: 8 :: 8 :: 8 :: 8 :: 8 :: 8 :: 8 :: 8 :: 8 :: 8 :: 8 :: 8 :: 8 :: 8 :: 8 :: 8 :: 8 :: 8 :: 8 :: 8 :: 8 :: 8 :: 8 :: 8 :: 8 :: 8 :: 8 :: 8 :: 8 :: 8 :: 8 :: 8 :: 8 :: 8 :: 8 :: 8 :: 8 :: 8 :: 8 :: 8 :: 8 :: 8 :: 8 :: 8 :: 8 :: 8 :: 8 :: 8 :: 8 :: 8 :: 8 :: 8 :: 8 :: 8 :: 8 :: 8 :: 8 :: 8 :: [])))).toArray⟩ : ByteArray) x5.toNat)) fun (x6 : Int) => lt (w64 (s4.2 + x6)) fun (x7 : Int) => some x7)
noncomputable def math_bits_Len64_J2 (n : Nat) (s3 : Int × Int) : Option (Int) :=
  br (decide (256 ≤ s3.1)) (lt (shrI .u64 s3.1 8) fun (x8 : Int) => lt (w64 (s3.2 + 8)) fun (x9 : Int) => math_bits_Len64_J1 n (x8, x9)) (math_bits_Len64_J1 n (s3.1, s3.2))
noncomputable def math_bits_Len64_J3 (n : Nat) (s2 : Int × Int) : Option (Int) :=
  br (decide (65536 ≤ s2.1)) (lt (shrI .u64 s2.1 16) fun (x10 : Int) => lt (w64 (s2.2 + 16)) fun (x11 : Int) => math_bits_Len64_J2 n (x10, x11)) (math_bits_Len64_J2 n (s2.1, s2.2))
noncomputable def math_bits_Len64 (n : Nat) (a1 : Int) : Option (Int) :=
  br (decide (4294967296 ≤ a1)) (lt (shrI .u64 a1 32) fun (x12 : Int) => math_bits_Len64_J3 n (x12, 32)) (math_bits_Len64_J3 n (a1, 0))

/-- math_bits_Len -/
noncomputable def math_bits_Len (n : Nat) (a1 : Int) : Option (Int) :=
  ob (math_bits_Len64 n a1) fun (r2 : Int) => some r2

/-- i_number -/
noncomputable def i_number_L1 (n : Nat) (go2 : Int × (V4 Int) × Int → Option (Int)) (s3 : Int × (V4 Int) × Int) : Option (Int) :=
  br (decide (s3.2.2 < 4)) (ckb (inb s3.2.2 4) (lt (w64 (3 * s3.1)) fun (x4 : Int) => lt (w64 (x4 + (V4.get s3.2.1 s3.2.2.toNat))) fun (x5 : Int) => lt (w64 (s3.2.2 + 1)) fun (x6 : Int) => go2 (x5, s3.2.1, x6))) (some s3.1)
noncomputable def i_number (n : Nat) (a1 : (V4 Int)) : Option (Int) :=
  fx (i_number_L1 n) n (0, a1, 0)

/-- i_compareCards -/
noncomputable def i_compareCards (n : Nat) (a1 : (V4 Int)) (a2 : (V4 Int)) : Option (Int) :=
  ob (i_number n a1) fun (r3 : Int) => ob (i_number n a2) fun (r4 : Int) => lt (w64 (r3 - r4)) fun (x5 : Int) => some x5

/-- slices_nextPowerOfTwo -/
noncomputable def slices_nextPowerOfTwo (n : Nat) (a1 : Int) : Option (Int) :=
  lt (IntKind.wrap .u64 a1) fun (x2 : Int) => ob (math_bits_Len n x2) fun (r3 : Int) => ckb (nneg r3) (lt (shlI .u64 1 r3) fun (x4 : Int) => some x4)

/-- __slices_xorshift__Next'p -/
noncomputable def __slices_xorshift__Next'p (n : Nat) (a1 : Int) : Option (Int × Int) :=
  lt (shlI .u64 a1 13) fun (x2 : Int) => lt (bits .xor .u64 a1 x2) fun (x3 : Int) => lt (shrI .u64 x3 7) fun (x4 : Int) => lt (bits .xor .u64 x3 x4) fun (x5 : Int) => lt (shlI .u64 x5 17) fun (x6 : Int) => lt (bits .xor .u64 x5 x6) fun (x7 : Int) => some (x7, x7)

/-- slices_order2CmpFunc_A4_'lp_i_compareCards -/
noncomputable def slices_order2CmpFunc_A4_'lp_i_compareCards (n : Nat) (a1 : (List (V4 Int))) (a2 : Int) (a3 : Int) (a4 : Int) : Option (Int × Int × Int) :=
  ckb (inb a3 a1.length) (ckb (inb a2 a1.length) (ob (i_compareCards n (gl (⟨0, 0, 0, 0⟩ : (V4 Int)) a1 a3.toNat) (gl (⟨0, 0, 0, 0⟩ : (V4 Int)) a1 a2.toNat)) fun (r5 : Int) => br (decide (r5 < 0)) (lt (w64 (a4 + 1)) fun (x6 : Int) => some (a3, a2, x6)) (some (a2, a3, a4))))

/-- slices_medianCmpFunc_A4_'lp_i_compareCards -/
noncomputable def slices_medianCmpFunc_A4_'lp_i_compareCards (n : Nat) (a1 : (List (V4 Int))) (a2 : Int) (a3 : Int) (a4 : Int) (a5 : Int) : Option (Int × Int) :=
  ob (slices_order2CmpFunc_A4_'lp_i_compareCards n a1 a2 a3 a5) fun (r6 : Int × Int × Int) => ob (slices_order2CmpFunc_A4_'lp_i_compareCards n a1 r6.2.1 a4 r6.2.2) fun (r7 : Int × Int × Int) => ob (slices_order2CmpFunc_A4_'lp_i_compareCards n a1 r6.1 r7.1 r7.2.2) fun (r8 : Int × Int × Int) => some (r8.2.1, r8.2.2)

/-- slices_medianAdjacentCmpFunc_A4_'lp_i_compareCards -/
noncomputable def slices_medianAdjacentCmpFunc_A4_'lp_i_compareCards (n : Nat) (a1 : (List (V4 Int))) (a2 : Int) (a3 : Int) : Option (Int × Int) :=
  lt (w64 (a2 - 1)) fun (x4 : Int) => lt (w64 (a2 + 1)) fun (x5 : Int) => ob (slices_medianCmpFunc_A4_'lp_i_compareCards n a1 x4 a2 x5 a3) fun (r6 : Int × Int) => some (r6.1, r6.2)

/-- slices_choosePivotCmpFunc_A4_'l_i_compareCards -/
noncomputable def slices_choosePivotCmpFunc_A4_'l_i_compareCards_J1 (n : Nat) (s14 : Int × Int) : Option (Int × Int) :=
  br (decide (s14.2 = 0)) (some (s14.1, 1)) (br (decide (s14.2 = 12)) (some (s14.1, 2)) (some (s14.1, 0)))
noncomputable def slices_choosePivotCmpFunc_A4_'l_i_compareCards_J2 (n : Nat) (s15 : (List (V4 Int)) × Int × Int × Int × Int) : Option (Int × Int) :=
  ob (slices_medianCmpFunc_A4_'lp_i_compareCards n s15.1 s15.2.1 s15.2.2.1 s15.2.2.2.1 s15.2.2.2.2) fun (r16 : Int × Int) => slices_choosePivotCmpFunc_A4_'l_i_compareCards_J1 n (r16.1, r16.2)
noncomputable def slices_choosePivotCmpFunc_A4_'l_i_compareCards (n : Nat) (a1 : (List (V4 Int))) (a2 : Int) (a3 : Int) : Option (Int × Int) :=
  lt (w64 (a3 - a2)) fun (x4 : Int) => lt (w64 (Int.tdiv x4 4)) fun (x5 : Int) => lt (w64 (x5 * 1)) fun (x6 : Int) => lt (w64 (a2 + x6)) fun (x7 : Int) => lt (w64 (Int.tdiv x4 4)) fun (x8 : Int) => lt (w64 (x8 * 2)) fun (x9 : Int) => lt (w64 (a2 + x9)) fun (x10 : Int) => lt (w64 (Int.tdiv x4 4)) fun (x11 : Int) => lt (w64 (x11 * 3)) fun (x12 : Int) => lt (w64 (a2 + x12)) fun (x13 : Int) => br (decide (8 ≤ x4)) (br (decide (50 ≤ x4)) (ob (slices_medianAdjacentCmpFunc_A4_'lp_i_compareCards n a1 x7 0) fun (r17 : Int × Int) => ob (slices_medianAdjacentCmpFunc_A4_'lp_i_compareCards n a1 x10 r17.2) fun (r18 : Int × Int) => ob (slices_medianAdjacentCmpFunc_A4_'lp_i_compareCards n a1 x13 r18.2) fun (r19 : Int × Int) => slices_choosePivotCmpFunc_A4_'l_i_compareCards_J2 n (a1, r17.1, r18.1, r19.1, r19.2)) (slices_choosePivotCmpFunc_A4_'l_i_compareCards_J2 n (a1, x7, x10, x13, 0))) (slices_choosePivotCmpFunc_A4_'l_i_compareCards_J1 n (x10, 0))

/-- slices_insertionSortCmpFunc_A4_'o_i_compareCards -/
noncomputable def slices_insertionSortCmpFunc_A4_'o_i_compareCards_L1 (n : Nat) (go5 : Int × Int × Int × (List (V4 Int)) → Option ((List (V4 Int)))) (go7 : Int × Int × Int × Int × (List (V4 Int)) → Option ((List (V4 Int)))) (s8 : Int × Int × Int × Int × (List (V4 Int))) : Option ((List (V4 Int))) :=
  ob (br (decide (s8.1 < s8.2.2.2.1)) (ckb (inb s8.2.2.2.1 s8.2.2.2.2.length) (lt (w64 (s8.2.2.2.1 - 1)) fun (x9 : Int) => ckb (inb x9 s8.2.2.2.2.length) (ob (i_compareCards n (gl (⟨0, 0, 0, 0⟩ : (V4 Int)) s8.2.2.2.2 s8.2.2.2.1.toNat) (gl (⟨0, 0, 0, 0⟩ : (V4 Int)) s8.2.2.2.2 x9.toNat)) fun (r10 : Int) => some (decide (r10 < 0))))) (some false)) fun (x11 : Bool) => br x11 (lt (w64 (s8.2.2.2.1 - 1)) fun (x12 : Int) => lt (w64 (s8.2.2.2.1 - 1)) fun (x13 : Int) => ckb (inb x13 s8.2.2.2.2.length) (ckb (inb s8.2.2.2.1 s8.2.2.2.2.length) (ckb (inb s8.2.2.2.1 s8.2.2.2.2.length) (lt (List.set s8.2.2.2.2 s8.2.2.2.1.toNat (gl (⟨0, 0, 0, 0⟩ : (V4 Int)) s8.2.2.2.2 x13.toNat)) fun (x14 : (List (V4 Int))) => ckb (inb x12 x14.length) (lt (List.set x14 x12.toNat (gl (⟨0, 0, 0, 0⟩ : (V4 Int)) s8.2.2.2.2 s8.2.2.2.1.toNat)) fun (x15 : (List (V4 Int))) => lt (w64 (s8.2.2.2.1 - 1)) fun (x16 : Int) => go7 (s8.1, s8.2.1, s8.2.2.1, x16, x15)))))) (lt (w64 (s8.2.2.1 + 1)) fun (x17 : Int) => go5 (s8.1, s8.2.1, x17, s8.2.2.2.2))
noncomputable def slices_insertionSortCmpFunc_A4_'o_i_compareCards_L2 (n : Nat) (go5 : Int × Int × Int × (List (V4 Int)) → Option ((List (V4 Int)))) (s6 : Int × Int × Int × (List (V4 Int))) : Option ((List (V4 Int))) :=
  br (decide (s6.2.2.1 < s6.2.1)) (fx (slices_insertionSortCmpFunc_A4_'o_i_compareCards_L1 n go5) n (s6.1, s6.2.1, s6.2.2.1, s6.2.2.1, s6.2.2.2)) (some s6.2.2.2)
noncomputable def slices_insertionSortCmpFunc_A4_'o_i_compareCards (n : Nat) (a1 : Int) (a2 : Int) (a3 : (List (V4 Int))) : Option ((List (V4 Int))) :=
  lt (w64 (a1 + 1)) fun (x4 : Int) => fx (slices_insertionSortCmpFunc_A4_'o_i_compareCards_L2 n) n (a1, a2, x4, a3)

/-- slices_siftDownCmpFunc_A4_'o_i_compareCards -/
noncomputable def slices_siftDownCmpFunc_A4_'o_i_compareCards_J1 (n : Nat) (go5 : Int × Int × Int × (List (V4 Int)) → Option ((List (V4 Int)))) (s9 : Int × Int × Int × Int × (List (V4 Int))) : Option ((List (V4 Int))) :=
  lt (w64 (s9.2.1 + s9.2.2.1)) fun (x10 : Int) => ckb (inb x10 s9.2.2.2.2.length) (lt (w64 (s9.2.1 + s9.2.2.2.1)) fun (x11 : Int) => ckb (inb x11 s9.2.2.2.2.length) (ob (i_compareCards n (gl (⟨0, 0, 0, 0⟩ : (V4 Int)) s9.2.2.2.2 x10.toNat) (gl (⟨0, 0, 0, 0⟩ : (V4 Int)) s9.2.2.2.2 x11.toNat)) fun (r12 : Int) => br (! (decide (r12 < 0))) (some s9.2.2.2.2) (lt (w64 (s9.2.1 + s9.2.2.1)) fun (x13 : Int) => lt (w64 (s9.2.1 + s9.2.2.2.1)) fun (x14 : Int) => lt (w64 (s9.2.1 + s9.2.2.2.1)) fun (x15 : Int) => ckb (inb x15 s9.2.2.2.2.length) (lt (w64 (s9.2.1 + s9.2.2.1)) fun (x16 : Int) => ckb (inb x16 s9.2.2.2.2.length) (ckb (inb x13 s9.2.2.2.2.length) (lt (List.set s9.2.2.2.2 x13.toNat (gl (⟨0, 0, 0, 0⟩ : (V4 Int)) s9.2.2.2.2 x15.toNat)) fun (x17 : (List (V4 Int))) => ckb (inb x14 x17.length) (lt (List.set x17 x14.toNat (gl (⟨0, 0, 0, 0⟩ : (V4 Int)) s9.2.2.2.2 x16.toNat)) fun (x18 : (List (V4 Int))) => go5 (s9.1, s9.2.1, s9.2.2.2.1, x18))))))))
noncomputable def slices_siftDownCmpFunc_A4_'o_i_compareCards_L2 (n : Nat) (go5 : Int × Int × Int × (List (V4 Int)) → Option ((List (V4 Int)))) (s6 : Int × Int × Int × (List (V4 Int))) : Option ((List (V4 Int))) :=
  lt (w64 (2 * s6.2.2.1)) fun (x7 : Int) => lt (w64 (x7 + 1)) fun (x8 : Int) => br (decide (s6.1 ≤ x8)) (some s6.2.2.2) (lt (w64 (x8 + 1)) fun (x19 : Int) => ob (br (decide (x19 < s6.1)) (lt (w64 (s6.2.1 + x8)) fun (x20 : Int) => ckb (inb x20 s6.2.2.2.length) (lt (w64 (s6.2.1 + x8)) fun (x21 : Int) => lt (w64 (x21 + 1)) fun (x22 : Int) => ckb (inb x22 s6.2.2.2.length) (ob (i_compareCards n (gl (⟨0, 0, 0, 0⟩ : (V4 Int)) s6.2.2.2 x20.toNat) (gl (⟨0, 0, 0, 0⟩ : (V4 Int)) s6.2.2.2 x22.toNat)) fun (r23 : Int) => some (decide (r23 < 0))))) (some false)) fun (x24 : Bool) => br x24 (lt (w64 (x8 + 1)) fun (x25 : Int) => slices_siftDownCmpFunc_A4_'o_i_compareCards_J1 n go5 (s6.1, s6.2.1, s6.2.2.1, x25, s6.2.2.2)) (slices_siftDownCmpFunc_A4_'o_i_compareCards_J1 n go5 (s6.1, s6.2.1, s6.2.2.1, x8, s6.2.2.2)))
noncomputable def slices_siftDownCmpFunc_A4_'o_i_compareCards (n : Nat) (a1 : Int) (a2 : Int) (a3 : Int) (a4 : (List (V4 Int))) : Option ((List (V4 Int))) :=
  fx (slices_siftDownCmpFunc_A4_'o_i_compareCards_L2 n) n (a2, a3, a1, a4)

/-- slices_heapSortCmpFunc_A4_'o_i_compareCards -/
noncomputable def slices_heapSortCmpFunc_A4_'o_i_compareCards_L1 (n : Nat) (go12 : Int × Int × Int × (List (V4 Int)) → Option ((List (V4 Int)))) (s13 : Int × Int × Int × (List (V4 Int))) : Option ((List (V4 Int))) :=
  br (decide (0 ≤ s13.2.2.1)) (lt (w64 (s13.1 + s13.2.2.1)) fun (x14 : Int) => lt (w64 (s13.1 + s13.2.2.1)) fun (x15 : Int) => ckb (inb x15 s13.2.2.2.length) (ckb (inb s13.1 s13.2.2.2.length) (ckb (inb s13.1 s13.2.2.2.length) (lt (List.set s13.2.2.2 s13.1.toNat (gl (⟨0, 0, 0, 0⟩ : (V4 Int)) s13.2.2.2 x15.toNat)) fun (x16 : (List (V4 Int))) => ckb (inb x14 x16.length) (lt (List.set x16 x14.toNat (gl (⟨0, 0, 0, 0⟩ : (V4 Int)) s13.2.2.2 s13.1.toNat)) fun (x17 : (List (V4 Int))) => ob (slices_siftDownCmpFunc_A4_'o_i_compareCards n s13.2.1 s13.2.2.1 s13.1 x17) fun (r18 : (List (V4 Int))) => lt (w64 (s13.2.2.1 - 1)) fun (x19 : Int) => go12 (s13.1, s13.2.1, x19, r18)))))) (some s13.2.2.2)
noncomputable def slices_heapSortCmpFunc_A4_'o_i_compareCards_L2 (n : Nat) (go7 : Int × Int × Int × Int × (List (V4 Int)) → Option ((List (V4 Int)))) (s8 : Int × Int × Int × Int × (List (V4 Int))) : Option ((List (V4 Int))) :=
  br (decide (0 ≤ s8.2.2.2.1)) (ob (slices_siftDownCmpFunc_A4_'o_i_compareCards n s8.2.2.2.1 s8.2.2.1 s8.1 s8.2.2.2.2) fun (r9 : (List (V4 Int))) => lt (w64 (s8.2.2.2.1 - 1)) fun (x10 : Int) => go7 (s8.1, s8.2.1, s8.2.2.1, x10, r9)) (lt (w64 (s8.2.2.1 - 1)) fun (x11 : Int) => fx (slices_heapSortCmpFunc_A4_'o_i_compareCards_L1 n) n (s8.1, s8.2.1, x11, s8.2.2.2.2))
noncomputable def slices_heapSortCmpFunc_A4_'o_i_compareCards (n : Nat) (a1 : Int) (a2 : Int) (a3 : (List (V4 Int))) : Option ((List (V4 Int))) :=
  lt (w64 (a2 - a1)) fun (x4 : Int) => lt (w64 (x4 - 1)) fun (x5 : Int) => lt (w64 (Int.tdiv x5 2)) fun (x6 : Int) => fx (slices_heapSortCmpFunc_A4_'o_i_compareCards_L2 n) n (a1, 0, x4, x6, a3)

/-- slices_breakPatternsCmpFunc_A4_'o_i_compareCards -/
noncomputable def slices_breakPatternsCmpFunc_A4_'o_i_compareCards_J1 (n : Nat) (go11 : Int × Int × Int × Int × (List (V4 Int)) × Int → Option ((List (V4 Int)))) (s21 : Int × Int × Int × Int × Int × (List (V4 Int)) × Int) : Option ((List (V4 Int))) :=
  lt (w64 (s21.1 + s21.2.2.2.2.1)) fun (x22 : Int) => lt (w64 (s21.1 + s21.2.2.2.2.1)) fun (x23 : Int) => ckb (inb x23 s21.2.2.2.2.2.1.length) (ckb (inb s21.2.2.2.1 s21.2.2.2.2.2.1.length) (ckb (inb s21.2.2.2.1 s21.2.2.2.2.2.1.length) (lt (List.set s21.2.2.2.2.2.1 s21.2.2.2.1.toNat (gl (⟨0, 0, 0, 0⟩ : (V4 Int)) s21.2.2.2.2.2.1 x23.toNat)) fun (x24 : (List (V4 Int))) => ckb (inb x22 x24.length) (lt (List.set x24 x22.toNat (gl (⟨0, 0, 0, 0⟩ : (V4 Int)) s21.2.2.2.2.2.1 s21.2.2.2.1.toNat)) fun (x25 : (List (V4 Int))) => lt (w64 (s21.2.2.2.1 + 1)) fun (x26 : Int) => go11 (s21.1, s21.2.1, s21.2.2.1, x26, x25, s21.2.2.2.2.2.2)))))
noncomputable def slices_breakPatternsCmpFunc_A4_'o_i_compareCards_L2 (n : Nat) (go11 : Int × Int × Int × Int × (List (V4 Int)) × Int → Option ((List (V4 Int)))) (s12 : Int × Int × Int × Int × (List (V4 Int)) × Int) : Option ((List (V4 Int))) :=
  lt (w64 (Int.tdiv s12.2.1 4)) fun (x13 : Int) => lt (w64 (x13 * 2)) fun (x14 : Int) => lt (w64 (s12.1 + x14)) fun (x15 : Int) => lt (w64 (x15 + 1)) fun (x16 : Int) => br (decide (s12.2.2.2.1 ≤ x16)) (ob (__slices_xorshift__Next'p n s12.2.2.2.2.2) fun (r17 : Int × Int) => lt (IntKind.wrap .u64 (s12.2.2.1 - 1)) fun (x18 : Int) => lt (bits .and .u64 r17.1 x18) fun (x19 : Int) => lt (w64 x19) fun (x20 : Int) => br (decide (s12.2.1 ≤ x20)) (lt (w64 (x20 - s12.2.1)) fun (x27 : Int) => slices_breakPatternsCmpFunc_A4_'o_i_compareCards_J1 n go11 (s12.1, s12.2.1, s12.2.2.1, s12.2.2.2.1, x27, s12.2.2.2.2.1, r17.2)) (slices_breakPatternsCmpFunc_A4_'o_i_compareCards_J1 n go11 (s12.1, s12.2.1, s12.2.2.1, s12.2.2.2.1, x20, s12.2.2.2.2.1, r17.2))) (some s12.2.2.2.2.1)
noncomputable def slices_breakPatternsCmpFunc_A4_'o_i_compareCards (n : Nat) (a1 : Int) (a2 : Int) (a3 : (List (V4 Int))) : Option ((List (V4 Int))) :=
  lt (w64 (a2 - a1)) fun (x4 : Int) => br (decide (8 ≤ x4)) (lt (IntKind.wrap .u64 x4) fun (x5 : Int) => ob (slices_nextPowerOfTwo n x4) fun (r6 : Int) => lt (w64 (Int.tdiv x4 4)) fun (x7 : Int) => lt (w64 (x7 * 2)) fun (x8 : Int) => lt (w64 (a1 + x8)) fun (x9 : Int) => lt (w64 (x9 - 1)) fun (x10 : Int) => fx (slices_breakPatternsCmpFunc_A4_'o_i_compareCards_L2 n) n (a1, x4, r6, x10, a3, x5)) (some a3)

/-- slices_reverseRangeCmpFunc_A4_'o_i_compareCards -/
noncomputable def slices_reverseRangeCmpFunc_A4_'o_i_compareCards_L1 (n : Nat) (go5 : Int × Int × (List (V4 Int)) → Option ((List (V4 Int)))) (s6 : Int × Int × (List (V4 Int))) : Option ((List (V4 Int))) :=
  br (decide (s6.1 < s6.2.1)) (ckb (inb s6.2.1 s6.2.2.length) (ckb (inb s6.1 s6.2.2.length) (ckb (inb s6.1 s6.2.2.length) (lt (List.set s6.2.2 s6.1.toNat (gl (⟨0, 0, 0, 0⟩ : (V4 Int)) s6.2.2 s6.2.1.toNat)) fun (x7 : (List (V4 Int))) => ckb (inb s6.2.1 x7.length) (lt (List.set x7 s6.2.1.toNat (gl (⟨0, 0, 0, 0⟩ : (V4 Int)) s6.2.2 s6.1.toNat)) fun (x8 : (List (V4 Int))) => lt (w64 (s6.1 + 1)) fun (x9 : Int) => lt (w64 (s6.2.1 - 1)) fun (x10 : Int) => go5 (x9, x10, x8)))))) (some s6.2.2)
noncomputable def slices_reverseRangeCmpFunc_A4_'o_i_compareCards (n : Nat) (a1 : Int) (a2 : Int) (a3 : (List (V4 Int))) : Option ((List (V4 Int))) :=
  lt (w64 (a2 - 1)) fun (x4 : Int) => fx (slices_reverseRangeCmpFunc_A4_'o_i_compareCards_L1 n) n (a1, x4, a3)

/-- slices_partialInsertionSortCmpFunc_A4_'o_i_compareCards -/
noncomputable def slices_partialInsertionSortCmpFunc_A4_'o_i_compareCards_L1 (n : Nat) (go5 : Int × Int × Int × Int × (List (V4 Int)) → Option (Bool × (List (V4 Int)))) (go21 : Int × Int × Int × Int × Int × (List (V4 Int)) → Option (Bool × (List (V4 Int)))) (s22 : Int × Int × Int × Int × Int × (List (V4 Int))) : Option (Bool × (List (V4 Int))) :=
  br (decide (s22.2.2.2.2.1 < s22.2.1)) (ckb (inb s22.2.2.2.2.1 s22.2.2.2.2.2.length) (lt (w64 (s22.2.2.2.2.1 - 1)) fun (x23 : Int) => ckb (inb x23 s22.2.2.2.2.2.length) (ob (i_compareCards n (gl (⟨0, 0, 0, 0⟩ : (V4 Int)) s22.2.2.2.2.2 s22.2.2.2.2.1.toNat) (gl (⟨0, 0, 0, 0⟩ : (V4 Int)) s22.2.2.2.2.2 x23.toNat)) fun (r24 : Int) => br (! (decide (r24 < 0))) (lt (w64 (s22.2.2.2.1 + 1)) fun (x25 : Int) => go5 (s22.1, s22.2.1, s22.2.2.1, x25, s22.2.2.2.2.2)) (lt (w64 (s22.2.2.2.2.1 - 1)) fun (x26 : Int) => lt (w64 (s22.2.2.2.2.1 - 1)) fun (x27 : Int) => ckb (inb x27 s22.2.2.2.2.2.length) (ckb (inb s22.2.2.2.2.1 s22.2.2.2.2.2.length) (ckb (inb s22.2.2.2.2.1 s22.2.2.2.2.2.length) (lt (List.set s22.2.2.2.2.2 s22.2.2.2.2.1.toNat (gl (⟨0, 0, 0, 0⟩ : (V4 Int)) s22.2.2.2.2.2 x27.toNat)) fun (x28 : (List (V4 Int))) => ckb (inb x26 x28.length) (lt (List.set x28 x26.toNat (gl (⟨0, 0, 0, 0⟩ : (V4 Int)) s22.2.2.2.2.2 s22.2.2.2.2.1.toNat)) fun (x29 : (List (V4 Int))) => lt (w64 (s22.2.2.2.2.1 + 1)) fun (x30 : Int) => go21 (s22.1, s22.2.1, s22.2.2.1, s22.2.2.2.1, x30, x29))))))))) (lt (w64 (s22.2.2.2.1 + 1)) fun (x31 : Int) => go5 (s22.1, s22.2.1, s22.2.2.1, x31, s22.2.2.2.2.2))
noncomputable def slices_partialInsertionSortCmpFunc_A4_'o_i_compareCards_J2 (n : Nat) (go5 : Int × Int × Int × Int × (List (V4 Int)) → Option (Bool × (List (V4 Int)))) (s18 : Int × Int × Int × Int × (List (V4 Int))) : Option (Bool × (List (V4 Int))) :=
  lt (w64 (s18.2.1 - s18.2.2.1)) fun (x19 : Int) => br (decide (2 ≤ x19)) (lt (w64 (s18.2.2.1 + 1)) fun (x20 : Int) => fx (slices_partialInsertionSortCmpFunc_A4_'o_i_compareCards_L1 n go5) n (s18.1, s18.2.1, s18.2.2.1, s18.2.2.2.1, x20, s18.2.2.2.2)) (lt (w64 (s18.2.2.2.1 + 1)) fun (x32 : Int) => go5 (s18.1, s18.2.1, s18.2.2.1, x32, s18.2.2.2.2))
noncomputable def slices_partialInsertionSortCmpFunc_A4_'o_i_compareCards_L3 (n : Nat) (go5 : Int × Int × Int × Int × (List (V4 Int)) → Option (Bool × (List (V4 Int)))) (go35 : Int × Int × Int × Int × Int × (List (V4 Int)) → Option (Bool × (List (V4 Int)))) (s36 : Int × Int × Int × Int × Int × (List (V4 Int))) : Option (Bool × (List (V4 Int))) :=
  br (decide (1 ≤ s36.2.2.2.2.1)) (ckb (inb s36.2.2.2.2.1 s36.2.2.2.2.2.length) (lt (w64 (s36.2.2.2.2.1 - 1)) fun (x37 : Int) => ckb (inb x37 s36.2.2.2.2.2.length) (ob (i_compareCards n (gl (⟨0, 0, 0, 0⟩ : (V4 Int)) s36.2.2.2.2.2 s36.2.2.2.2.1.toNat) (gl (⟨0, 0, 0, 0⟩ : (V4 Int)) s36.2.2.2.2.2 x37.toNat)) fun (r38 : Int) => br (! (decide (r38 < 0))) (slices_partialInsertionSortCmpFunc_A4_'o_i_compareCards_J2 n go5 (s36.1, s36.2.1, s36.2.2.1, s36.2.2.2.1, s36.2.2.2.2.2)) (lt (w64 (s36.2.2.2.2.1 - 1)) fun (x39 : Int) => lt (w64 (s36.2.2.2.2.1 - 1)) fun (x40 : Int) => ckb (inb x40 s36.2.2.2.2.2.length) (ckb (inb s36.2.2.2.2.1 s36.2.2.2.2.2.length) (ckb (inb s36.2.2.2.2.1 s36.2.2.2.2.2.length) (lt (List.set s36.2.2.2.2.2 s36.2.2.2.2.1.toNat (gl (⟨0, 0, 0, 0⟩ : (V4 Int)) s36.2.2.2.2.2 x40.toNat)) fun (x41 : (List (V4 Int))) => ckb (inb x39 x41.length) (lt (List.set x41 x39.toNat (gl (⟨0, 0, 0, 0⟩ : (V4 Int)) s36.2.2.2.2.2 s36.2.2.2.2.1.toNat)) fun (x42 : (List (V4 Int))) => lt (w64 (s36.2.2.2.2.1 - 1)) fun (x43 : Int) => go35 (s36.1, s36.2.1, s36.2.2.1, s36.2.2.2.1, x43, x42))))))))) (slices_partialInsertionSortCmpFunc_A4_'o_i_compareCards_J2 n go5 (s36.1, s36.2.1, s36.2.2.1, s36.2.2.2.1, s36.2.2.2.2.2))
noncomputable def slices_partialInsertionSortCmpFunc_A4_'o_i_compareCards_L4 (n : Nat) (go5 : Int × Int × Int × Int × (List (V4 Int)) → Option (Bool × (List (V4 Int)))) (go7 : Int × Int × Int × Int × (List (V4 Int)) → Option (Bool × (List (V4 Int)))) (s8 : Int × Int × Int × Int × (List (V4 Int))) : Option (Bool × (List (V4 Int))) :=
  ob (br (decide (s8.2.2.1 < s8.2.1)) (ckb (inb s8.2.2.1 s8.2.2.2.2.length) (lt (w64 (s8.2.2.1 - 1)) fun (x9 : Int) => ckb (inb x9 s8.2.2.2.2.length) (ob (i_compareCards n (gl (⟨0, 0, 0, 0⟩ : (V4 Int)) s8.2.2.2.2 s8.2.2.1.toNat) (gl (⟨0, 0, 0, 0⟩ : (V4 Int)) s8.2.2.2.2 x9.toNat)) fun (r10 : Int) => some (! (decide (r10 < 0)))))) (some false)) fun (x11 : Bool) => br x11 (lt (w64 (s8.2.2.1 + 1)) fun (x12 : Int) => go7 (s8.1, s8.2.1, x12, s8.2.2.2.1, s8.2.2.2.2)) (br (decide (s8.2.2.1 = s8.2.1)) (some (true, s8.2.2.2.2)) (lt (w64 (s8.2.1 - s8.1)) fun (x13 : Int) => br (decide (x13 < 50)) (some (false, s8.2.2.2.2)) (lt (w64 (s8.2.2.1 - 1)) fun (x14 : Int) => lt (w64 (s8.2.2.1 - 1)) fun (x15 : Int) => ckb (inb x15 s8.2.2.2.2.length) (ckb (inb s8.2.2.1 s8.2.2.2.2.length) (ckb (inb s8.2.2.1 s8.2.2.2.2.length) (lt (List.set s8.2.2.2.2 s8.2.2.1.toNat (gl (⟨0, 0, 0, 0⟩ : (V4 Int)) s8.2.2.2.2 x15.toNat)) fun (x16 : (List (V4 Int))) => ckb (inb x14 x16.length) (lt (List.set x16 x14.toNat (gl (⟨0, 0, 0, 0⟩ : (V4 Int)) s8.2.2.2.2 s8.2.2.1.toNat)) fun (x17 : (List (V4 Int))) => lt (w64 (s8.2.2.1 - s8.1)) fun (x33 : Int) => br (decide (2 ≤ x33)) (lt (w64 (s8.2.2.1 - 1)) fun (x34 : Int) => fx (slices_partialInsertionSortCmpFunc_A4_'o_i_compareCards_L3 n go5) n (s8.1, s8.2.1, s8.2.2.1, s8.2.2.2.1, x34, x17)) (slices_partialInsertionSortCmpFunc_A4_'o_i_compareCards_J2 n go5 (s8.1, s8.2.1, s8.2.2.1, s8.2.2.2.1, x17)))))))))
noncomputable def slices_partialInsertionSortCmpFunc_A4_'o_i_compareCards_L5 (n : Nat) (go5 : Int × Int × Int × Int × (List (V4 Int)) → Option (Bool × (List (V4 Int)))) (s6 : Int × Int × Int × Int × (List (V4 Int))) : Option (Bool × (List (V4 Int))) :=
  br (decide (s6.2.2.2.1 < 5)) (fx (slices_partialInsertionSortCmpFunc_A4_'o_i_compareCards_L4 n go5) n (s6.1, s6.2.1, s6.2.2.1, s6.2.2.2.1, s6.2.2.2.2)) (some (false, s6.2.2.2.2))
noncomputable def slices_partialInsertionSortCmpFunc_A4_'o_i_compareCards (n : Nat) (a1 : Int) (a2 : Int) (a3 : (List (V4 Int))) : Option (Bool × (List (V4 Int))) :=
  lt (w64 (a1 + 1)) fun (x4 : Int) => fx (slices_partialInsertionSortCmpFunc_A4_'o_i_compareCards_L5 n) n (a1, a2, x4, 0, a3)

/-- slices_partitionEqualCmpFunc_A4_'o_i_compareCards -/
noncomputable def slices_partitionEqualCmpFunc_A4_'o_i_compareCards_L1 (n : Nat) (go9 : Int × Int × Int × (List (V4 Int)) → Option (Int × (List (V4 Int)))) (go16 : Int × Int × Int × (List (V4 Int)) → Option (Int × (List (V4 Int)))) (s17 : Int × Int × Int × (List (V4 Int))) : Option (Int × (List (V4 Int))) :=
  ob (br (decide (s17.2.1 ≤ s17.2.2.1)) (ckb (inb s17.1 s17.2.2.2.length) (ckb (inb s17.2.2.1 s17.2.2.2.length) (ob (i_compareCards n (gl (⟨0, 0, 0, 0⟩ : (V4 Int)) s17.2.2.2 s17.1.toNat) (gl (⟨0, 0, 0, 0⟩ : (V4 Int)) s17.2.2.2 s17.2.2.1.toNat)) fun (r18 : Int) => some (decide (r18 < 0))))) (some false)) fun (x19 : Bool) => br x19 (lt (w64 (s17.2.2.1 - 1)) fun (x20 : Int) => go16 (s17.1, s17.2.1, x20, s17.2.2.2)) (br (decide (s17.2.2.1 < s17.2.1)) (some (s17.2.1, s17.2.2.2)) (ckb (inb s17.2.2.1 s17.2.2.2.length) (ckb (inb s17.2.1 s17.2.2.2.length) (ckb (inb s17.2.1 s17.2.2.2.length) (lt (List.set s17.2.2.2 s17.2.1.toNat (gl (⟨0, 0, 0, 0⟩ : (V4 Int)) s17.2.2.2 s17.2.2.1.toNat)) fun (x21 : (List (V4 Int))) => ckb (inb s17.2.2.1 x21.length) (lt (List.set x21 s17.2.2.1.toNat (gl (⟨0, 0, 0, 0⟩ : (V4 Int)) s17.2.2.2 s17.2.1.toNat)) fun (x22 : (List (V4 Int))) => lt (w64 (s17.2.1 + 1)) fun (x23 : Int) => lt (w64 (s17.2.2.1 - 1)) fun (x24 : Int) => go9 (s17.1, x23, x24, x22)))))))
noncomputable def slices_partitionEqualCmpFunc_A4_'o_i_compareCards_L2 (n : Nat) (go9 : Int × Int × Int × (List (V4 Int)) → Option (Int × (List (V4 Int)))) (go11 : Int × Int × Int × (List (V4 Int)) → Option (Int × (List (V4 Int)))) (s12 : Int × Int × Int × (List (V4 Int))) : Option (Int × (List (V4 Int))) :=
  ob (br (decide (s12.2.1 ≤ s12.2.2.1)) (ckb (inb s12.1 s12.2.2.2.length) (ckb (inb s12.2.1 s12.2.2.2.length) (ob (i_compareCards n (gl (⟨0, 0, 0, 0⟩ : (V4 Int)) s12.2.2.2 s12.1.toNat) (gl (⟨0, 0, 0, 0⟩ : (V4 Int)) s12.2.2.2 s12.2.1.toNat)) fun (r13 : Int) => some (! (decide (r13 < 0)))))) (some false)) fun (x14 : Bool) => br x14 (lt (w64 (s12.2.1 + 1)) fun (x15 : Int) => go11 (s12.1, x15, s12.2.2.1, s12.2.2.2)) (fx (slices_partitionEqualCmpFunc_A4_'o_i_compareCards_L1 n go9) n (s12.1, s12.2.1, s12.2.2.1, s12.2.2.2))
noncomputable def slices_partitionEqualCmpFunc_A4_'o_i_compareCards_L3 (n : Nat) (go9 : Int × Int × Int × (List (V4 Int)) → Option (Int × (List (V4 Int)))) (s10 : Int × Int × Int × (List (V4 Int))) : Option (Int × (List (V4 Int))) :=
  fx (slices_partitionEqualCmpFunc_A4_'o_i_compareCards_L2 n go9) n (s10.1, s10.2.1, s10.2.2.1, s10.2.2.2)
noncomputable def slices_partitionEqualCmpFunc_A4_'o_i_compareCards (n : Nat) (a1 : Int) (a2 : Int) (a3 : Int) (a4 : (List (V4 Int))) : Option (Int × (List (V4 Int))) :=
  ckb (inb a3 a4.length) (ckb (inb a1 a4.length) (ckb (inb a1 a4.length) (lt (List.set a4 a1.toNat (gl (⟨0, 0, 0, 0⟩ : (V4 Int)) a4 a3.toNat)) fun (x5 : (List (V4 Int))) => ckb (inb a3 x5.length) (lt (List.set x5 a3.toNat (gl (⟨0, 0, 0, 0⟩ : (V4 Int)) a4 a1.toNat)) fun (x6 : (List (V4 Int))) => lt (w64 (a1 + 1)) fun (x7 : Int) => lt (w64 (a2 - 1)) fun (x8 : Int) => fx (slices_partitionEqualCmpFunc_A4_'o_i_compareCards_L3 n) n (a1, x7, x8, x6)))))

/-- slices_partitionCmpFunc_A4_'o_i_compareCards -/
noncomputable def slices_partitionCmpFunc_A4_'o_i_compareCards_L1 (n : Nat) (go25 : Int × Int × Int × (List (V4 Int)) → Option (Int × Bool × (List (V4 Int)))) (go32 : Int × Int × Int × (List (V4 Int)) → Option (Int × Bool × (List (V4 Int)))) (s33 : Int × Int × Int × (List (V4 Int))) : Option (Int × Bool × (List (V4 Int))) :=
  ob (br (decide (s33.2.1 ≤ s33.2.2.1)) (ckb (inb s33.2.2.1 s33.2.2.2.length) (ckb (inb s33.1 s33.2.2.2.length) (ob (i_compareCards n (gl (⟨0, 0, 0, 0⟩ : (V4 Int)) s33.2.2.2 s33.2.2.1.toNat) (gl (⟨0, 0, 0, 0⟩ : (V4 Int)) s33.2.2.2 s33.1.toNat)) fun (r34 : Int) => some (! (decide (r34 < 0)))))) (some false)) fun (x35 : Bool) => br x35 (lt (w64 (s33.2.2.1 - 1)) fun (x36 : Int) => go32 (s33.1, s33.2.1, x36, s33.2.2.2)) (br (decide (s33.2.2.1 < s33.2.1)) (ckb (inb s33.1 s33.2.2.2.length) (ckb (inb s33.2.2.1 s33.2.2.2.length) (ckb (inb s33.2.2.1 s33.2.2.2.length) (lt (List.set s33.2.2.2 s33.2.2.1.toNat (gl (⟨0, 0, 0, 0⟩ : (V4 Int)) s33.2.2.2 s33.1.toNat)) fun (x37 : (List (V4 Int))) => ckb (inb s33.1 x37.length) (lt (List.set x37 s33.1.toNat (gl (⟨0, 0, 0, 0⟩ : (V4 Int)) s33.2.2.2 s33.2.2.1.toNat)) fun (x38 : (List (V4 Int))) => some (s33.2.2.1, false, x38)))))) (ckb (inb s33.2.2.1 s33.2.2.2.length) (ckb (inb s33.2.1 s33.2.2.2.length) (ckb (inb s33.2.1 s33.2.2.2.length) (lt (List.set s33.2.2.2 s33.2.1.toNat (gl (⟨0, 0, 0, 0⟩ : (V4 Int)) s33.2.2.2 s33.2.2.1.toNat)) fun (x39 : (List (V4 Int))) => ckb (inb s33.2.2.1 x39.length) (lt (List.set x39 s33.2.2.1.toNat (gl (⟨0, 0, 0, 0⟩ : (V4 Int)) s33.2.2.2 s33.2.1.toNat)) fun (x40 : (List (V4 Int))) => lt (w64 (s33.2.1 + 1)) fun (x41 : Int) => lt (w64 (s33.2.2.1 - 1)) fun (x42 : Int) => go25 (s33.1, x41, x42, x40)))))))
noncomputable def slices_partitionCmpFunc_A4_'o_i_compareCards_L2 (n : Nat) (go25 : Int × Int × Int × (List (V4 Int)) → Option (Int × Bool × (List (V4 Int)))) (go27 : Int × Int × Int × (List (V4 Int)) → Option (Int × Bool × (List (V4 Int)))) (s28 : Int × Int × Int × (List (V4 Int))) : Option (Int × Bool × (List (V4 Int))) :=
  ob (br (decide (s28.2.1 ≤ s28.2.2.1)) (ckb (inb s28.2.1 s28.2.2.2.length) (ckb (inb s28.1 s28.2.2.2.length) (ob (i_compareCards n (gl (⟨0, 0, 0, 0⟩ : (V4 Int)) s28.2.2.2 s28.2.1.toNat) (gl (⟨0, 0, 0, 0⟩ : (V4 Int)) s28.2.2.2 s28.1.toNat)) fun (r29 : Int) => some (decide (r29 < 0))))) (some false)) fun (x30 : Bool) => br x30 (lt (w64 (s28.2.1 + 1)) fun (x31 : Int) => go27 (s28.1, x31, s28.2.2.1, s28.2.2.2)) (fx (slices_partitionCmpFunc_A4_'o_i_compareCards_L1 n go25) n (s28.1, s28.2.1, s28.2.2.1, s28.2.2.2))
noncomputable def slices_partitionCmpFunc_A4_'o_i_compareCards_L3 (n : Nat) (go25 : Int × Int × Int × (List (V4 Int)) → Option (Int × Bool × (List (V4 Int)))) (s26 : Int × Int × Int × (List (V4 Int))) : Option (Int × Bool × (List (V4 Int))) :=
  fx (slices_partitionCmpFunc_A4_'o_i_compareCards_L2 n go25) n (s26.1, s26.2.1, s26.2.2.1, s26.2.2.2)
noncomputable def slices_partitionCmpFunc_A4_'o_i_compareCards_L4 (n : Nat) (go14 : Int × Int × Int × (List (V4 Int)) → Option (Int × Bool × (List (V4 Int)))) (s15 : Int × Int × Int × (List (V4 Int))) : Option (Int × Bool × (List (V4 Int))) :=
  ob (br (decide (s15.2.1 ≤ s15.2.2.1)) (ckb (inb s15.2.2.1 s15.2.2.2.length) (ckb (inb s15.1 s15.2.2.2.length) (ob (i_compareCards n (gl (⟨0, 0, 0, 0⟩ : (V4 Int)) s15.2.2.2 s15.2.2.1.toNat) (gl (⟨0, 0, 0, 0⟩ : (V4 Int)) s15.2.2.2 s15.1.toNat)) fun (r16 : Int) => some (! (decide (r16 < 0)))))) (some false)) fun (x17 : Bool) => br x17 (lt (w64 (s15.2.2.1 - 1)) fun (x18 : Int) => go14 (s15.1, s15.2.1, x18, s15.2.2.2)) (br (decide (s15.2.2.1 < s15.2.1)) (ckb (inb s15.1 s15.2.2.2.length) (ckb (inb s15.2.2.1 s15.2.2.2.length) (ckb (inb s15.2.2.1 s15.2.2.2.length) (lt (List.set s15.2.2.2 s15.2.2.1.toNat (gl (⟨0, 0, 0, 0⟩ : (V4 Int)) s15.2.2.2 s15.1.toNat)) fun (x19 : (List (V4 Int))) => ckb (inb s15.1 x19.length) (lt (List.set x19 s15.1.toNat (gl (⟨0, 0, 0, 0⟩ : (V4 Int)) s15.2.2.2 s15.2.2.1.toNat)) fun (x20 : (List (V4 Int))) => some (s15.2.2.1, true, x20)))))) (ckb (inb s15.2.2.1 s15.2.2.2.length) (ckb (inb s15.2.1 s15.2.2.2.length) (ckb (inb s15.2.1 s15.2.2.2.length) (lt (List.set s15.2.2.2 s15.2.1.toNat (gl (⟨0, 0, 0, 0⟩ : (V4 Int)) s15.2.2.2 s15.2.2.1.toNat)) fun (x21 : (List (V4 Int))) => ckb (inb s15.2.2.1 x21.length) (lt (List.set x21 s15.2.2.1.toNat (gl (⟨0, 0, 0, 0⟩ : (V4 Int)) s15.2.2.2 s15.2.1.toNat)) fun (x22 : (List (V4 Int))) => lt (w64 (s15.2.1 + 1)) fun (x23 : Int) => lt (w64 (s15.2.2.1 - 1)) fun (x24 : Int) => fx (slices_partitionCmpFunc_A4_'o_i_compareCards_L3 n) n (s15.1, x23, x24, x22)))))))
noncomputable def slices_partitionCmpFunc_A4_'o_i_compareCards_L5 (n : Nat) (go9 : Int × Int × Int × (List (V4 Int)) → Option (Int × Bool × (List (V4 Int)))) (s10 : Int × Int × Int × (List (V4 Int))) : Option (Int × Bool × (List (V4 Int))) :=
  ob (br (decide (s10.2.1 ≤ s10.2.2.1)) (ckb (inb s10.2.1 s10.2.2.2.length) (ckb (inb s10.1 s10.2.2.2.length) (ob (i_compareCards n (gl (⟨0, 0, 0, 0⟩ : (V4 Int)) s10.2.2.2 s10.2.1.toNat) (gl (⟨0, 0, 0, 0⟩ : (V4 Int)) s10.2.2.2 s10.1.toNat)) fun (r11 : Int) => some (decide (r11 < 0))))) (some false)) fun (x12 : Bool) => br x12 (lt (w64 (s10.2.1 + 1)) fun (x13 : Int) => go9 (s10.1, x13, s10.2.2.1, s10.2.2.2)) (fx (slices_partitionCmpFunc_A4_'o_i_compareCards_L4 n) n (s10.1, s10.2.1, s10.2.2.1, s10.2.2.2))
noncomputable def slices_partitionCmpFunc_A4_'o_i_compareCards (n : Nat) (a1 : Int) (a2 : Int) (a3 : Int) (a4 : (List (V4 Int))) : Option (Int × Bool × (List (V4 Int))) :=
  ckb (inb a3 a4.length) (ckb (inb a1 a4.length) (ckb (inb a1 a4.length) (lt (List.set a4 a1.toNat (gl (⟨0, 0, 0, 0⟩ : (V4 Int)) a4 a3.toNat)) fun (x5 : (List (V4 Int))) => ckb (inb a3 x5.length) (lt (List.set x5 a3.toNat (gl (⟨0, 0, 0, 0⟩ : (V4 Int)) a4 a1.toNat)) fun (x6 : (List (V4 Int))) => lt (w64 (a1 + 1)) fun (x7 : Int) => lt (w64 (a2 - 1)) fun (x8 : Int) => fx (slices_partitionCmpFunc_A4_'o_i_compareCards_L5 n) n (a1, x7, x8, x6)))))

/-- slices_pdqsortCmpFunc_A4_'o_i_compareCards -/
noncomputable def slices_pdqsortCmpFunc_A4_'o_i_compareCards_J1 (n : Nat) (go0 : Int × Int × Int × (List (V4 Int)) → Option ((List (V4 Int)))) (go5 : Int × Int × Int × Bool × Bool × (List (V4 Int)) → Option ((List (V4 Int)))) (s13 : Int × Int × Int × Bool × Bool × Int × Int × (List (V4 Int))) : Option ((List (V4 Int))) :=
  ob (br (decide (0 < s13.1)) (lt (w64 (s13.1 - 1)) fun (x14 : Int) => ckb (inb x14 s13.2.2.2.2.2.2.2.length) (ckb (inb s13.2.2.2.2.2.2.1 s13.2.2.2.2.2.2.2.length) (ob (i_compareCards n (gl (⟨0, 0, 0, 0⟩ : (V4 Int)) s13.2.2.2.2.2.2.2 x14.toNat) (gl (⟨0, 0, 0, 0⟩ : (V4 Int)) s13.2.2.2.2.2.2.2 s13.2.2.2.2.2.2.1.toNat)) fun (r15 : Int) => some (! (decide (r15 < 0)))))) (some false)) fun (x16 : Bool) => br x16 (ob (slices_partitionEqualCmpFunc_A4_'o_i_compareCards n s13.1 s13.2.1 s13.2.2.2.2.2.2.1 s13.2.2.2.2.2.2.2) fun (r17 : Int × (List (V4 Int))) => go5 (r17.1, s13.2.1, s13.2.2.1, s13.2.2.2.1, s13.2.2.2.2.1, r17.2)) (ob (slices_partitionCmpFunc_A4_'o_i_compareCards n s13.1 s13.2.1 s13.2.2.2.2.2.2.1 s13.2.2.2.2.2.2.2) fun (r18 : Int × Bool × (List (V4 Int))) => lt (w64 (r18.1 - s13.1)) fun (x19 : Int) => lt (w64 (s13.2.1 - r18.1)) fun (x20 : Int) => lt (w64 (Int.tdiv s13.2.2.2.2.2.1 8)) fun (x21 : Int) => br (decide (x19 < x20)) (ob (go0 (s13.1, r18.1, s13.2.2.1, r18.2.2)) fun (r22 : (List (V4 Int))) => lt (w64 (r18.1 + 1)) fun (x23 : Int) => go5 (x23, s13.2.1, s13.2.2.1, (decide (x21 ≤ x19)), r18.2.1, r22)) (lt (w64 (r18.1 + 1)) fun (x24 : Int) => ob (go0 (x24, s13.2.1, s13.2.2.1, r18.2.2)) fun (r25 : (List (V4 Int))) => go5 (s13.1, r18.1, s13.2.2.1, (decide (x21 ≤ x20)), r18.2.1, r25)))
noncomputable def slices_pdqsortCmpFunc_A4_'o_i_compareCards_J2 (n : Nat) (go0 : Int × Int × Int × (List (V4 Int)) → Option ((List (V4 Int)))) (go5 : Int × Int × Int × Bool × Bool × (List (V4 Int)) → Option ((List (V4 Int)))) (s12 : Int × Int × Int × Bool × Bool × Int × Int × Int × (List (V4 Int))) : Option ((List (V4 Int))) :=
  ob (br s12.2.2.2.1 (some s12.2.2.2.2.1) (some false)) fun (x26 : Bool) => ob (br x26 (some (decide (s12.2.2.2.2.2.2.2.1 = 1))) (some false)) fun (x27 : Bool) => br x27 (ob (slices_partialInsertionSortCmpFunc_A4_'o_i_compareCards n s12.1 s12.2.1 s12.2.2.2.2.2.2.2.2) fun (r28 : Bool × (List (V4 Int))) => br r28.1 (some r28.2) (slices_pdqsortCmpFunc_A4_'o_i_compareCards_J1 n go0 go5 (s12.1, s12.2.1, s12.2.2.1, s12.2.2.2.1, s12.2.2.2.2.1, s12.2.2.2.2.2.1, s12.2.2.2.2.2.2.1, r28.2))) (slices_pdqsortCmpFunc_A4_'o_i_compareCards_J1 n go0 go5 (s12.1, s12.2.1, s12.2.2.1, s12.2.2.2.1, s12.2.2.2.2.1, s12.2.2.2.2.2.1, s12.2.2.2.2.2.2.1, s12.2.2.2.2.2.2.2.2))
noncomputable def slices_pdqsortCmpFunc_A4_'o_i_compareCards_J3 (n : Nat) (go0 : Int × Int × Int × (List (V4 Int)) → Option ((List (V4 Int)))) (go5 : Int × Int × Int × Bool × Bool × (List (V4 Int)) → Option ((List (V4 Int)))) (s10 : Int × Int × Int × Bool × Bool × Int × (List (V4 Int))) : Option ((List (V4 Int))) :=
  ob (slices_choosePivotCmpFunc_A4_'l_i_compareCards n s10.2.2.2.2.2.2 s10.1 s10.2.1) fun (r11 : Int × Int) => br (decide (r11.2 = 2)) (ob (slices_reverseRangeCmpFunc_A4_'o_i_compareCards n s10.1 s10.2.1 s10.2.2.2.2.2.2) fun (r29 : (List (V4 Int))) => lt (w64 (s10.2.1 - 1)) fun (x30 : Int) => lt (w64 (r11.1 - s10.1)) fun (x31 : Int) => lt (w64 (x30 - x31)) fun (x32 : Int) => slices_pdqsortCmpFunc_A4_'o_i_compareCards_J2 n go0 go5 (s10.1, s10.2.1, s10.2.2.1, s10.2.2.2.1, s10.2.2.2.2.1, s10.2.2.2.2.2.1, x32, 1, r29)) (slices_pdqsortCmpFunc_A4_'o_i_compareCards_J2 n go0 go5 (s10.1, s10.2.1, s10.2.2.1, s10.2.2.2.1, s10.2.2.2.2.1, s10.2.2.2.2.2.1, r11.1, r11.2, s10.2.2.2.2.2.2))
noncomputable def slices_pdqsortCmpFunc_A4_'o_i_compareCards_L4 (n : Nat) (go0 : Int × Int × Int × (List (V4 Int)) → Option ((List (V4 Int)))) (go5 : Int × Int × Int × Bool × Bool × (List (V4 Int)) → Option ((List (V4 Int)))) (s6 : Int × Int × Int × Bool × Bool × (List (V4 Int))) : Option ((List (V4 Int))) :=
  lt (w64 (s6.2.1 - s6.1)) fun (x7 : Int) => br (decide (x7 ≤ 12)) (ob (slices_insertionSortCmpFunc_A4_'o_i_compareCards n s6.1 s6.2.1 s6.2.2.2.2.2) fun (r8 : (List (V4 Int))) => some r8) (br (decide (s6.2.2.1 = 0)) (ob (slices_heapSortCmpFunc_A4_'o_i_compareCards n s6.1 s6.2.1 s6.2.2.2.2.2) fun (r9 : (List (V4 Int))) => some r9) (br (! s6.2.2.2.1) (ob (slices_breakPatternsCmpFunc_A4_'o_i_compareCards n s6.1 s6.2.1 s6.2.2.2.2.2) fun (r33 : (List (V4 Int))) => lt (w64 (s6.2.2.1 - 1)) fun (x34 : Int) => slices_pdqsortCmpFunc_A4_'o_i_compareCards_J3 n go0 go5 (s6.1, s6.2.1, x34, s6.2.2.2.1, s6.2.2.2.2.1, x7, r33)) (slices_pdqsortCmpFunc_A4_'o_i_compareCards_J3 n go0 go5 (s6.1, s6.2.1, s6.2.2.1, s6.2.2.2.1, s6.2.2.2.2.1, x7, s6.2.2.2.2.2))))
noncomputable def slices_pdqsortCmpFunc_A4_'o_i_compareCards_R (n : Nat) (go0 : Int × Int × Int × (List (V4 Int)) → Option ((List (V4 Int)))) (x : Int × Int × Int × (List (V4 Int))) : Option ((List (V4 Int))) :=
  (fun (a1 : Int) (a2 : Int) (a3 : Int) (a4 : (List (V4 Int))) => fx (slices_pdqsortCmpFunc_A4_'o_i_compareCards_L4 n go0) n (a1, a2, a3, true, true, a4)) x.1 x.2.1 x.2.2.1 x.2.2.2
noncomputable def slices_pdqsortCmpFunc_A4_'o_i_compareCards (n : Nat) (a1 : Int) (a2 : Int) (a3 : Int) (a4 : (List (V4 Int))) : Option ((List (V4 Int))) := fx (slices_pdqsortCmpFunc_A4_'o_i_compareCards_R n) n (a1, a2, a3, a4)

/-- slices_SortFunc_SA4_A4_'o_i_compareCards -/
noncomputable def slices_SortFunc_SA4_A4_'o_i_compareCards (n : Nat) (a1 : (List (V4 Int))) : Option ((List (V4 Int))) :=
  lt (IntKind.wrap .u64 (a1.length : Int)) fun (x2 : Int) => ob (math_bits_Len n x2) fun (r3 : Int) => ob (slices_pdqsortCmpFunc_A4_'o_i_compareCards n 0 (a1.length : Int) r3 a1) fun (r4 : (List (V4 Int))) => some r4

/-- slices_Compact_SA4_A4_'o -/
noncomputable def slices_Compact_SA4_A4_'o_L1 (n : Nat) (go5 : Int × Int × Int × Int × (List (V4 Int)) → Option ((List (V4 Int)))) (s6 : Int × Int × Int × Int × (List (V4 Int))) : Option ((List (V4 Int))) :=
  br (decide (s6.2.2.2.1 < (s6.2.2.1.toNat : Int))) (ckb (cand (inb s6.2.2.2.1 s6.2.2.1.toNat) (nlt (s6.2.1.toNat + s6.2.2.2.1.toNat) s6.2.2.2.2.length)) (lt (w64 (s6.2.2.2.1 - 1)) fun (x7 : Int) => ckb (cand (inb x7 s6.2.2.1.toNat) (nlt (s6.2.1.toNat + x7.toNat) s6.2.2.2.2.length)) (br (!eqd (gl (⟨0, 0, 0, 0⟩ : (V4 Int)) s6.2.2.2.2 (s6.2.1.toNat + s6.2.2.2.1.toNat)) (gl (⟨0, 0, 0, 0⟩ : (V4 Int)) s6.2.2.2.2 (s6.2.1.toNat + x7.toNat))) (ckb (cand (inb s6.2.2.2.1 s6.2.2.1.toNat) (nlt (s6.2.1.toNat + s6.2.2.2.1.toNat) s6.2.2.2.2.length)) (ckb (inb s6.1 s6.2.2.2.2.length) (lt (List.set s6.2.2.2.2 s6.1.toNat (gl (⟨0, 0, 0, 0⟩ : (V4 Int)) s6.2.2.2.2 (s6.2.1.toNat + s6.2.2.2.1.toNat))) fun (x8 : (List (V4 Int))) => lt (w64 (s6.1 + 1)) fun (x9 : Int) => lt (w64 (s6.2.2.2.1 + 1)) fun (x10 : Int) => go5 (x9, (s6.2.1.toNat : Int), (s6.2.2.1.toNat : Int), x10, x8)))) (lt (w64 (s6.2.2.2.1 + 1)) fun (x11 : Int) => go5 (s6.1, (s6.2.1.toNat : Int), (s6.2.2.1.toNat : Int), x11, s6.2.2.2.2))))) (ckb (slb s6.1 (s6.2.2.2.2.length : Int) s6.2.2.2.2.length) (ckb (slb 0 s6.1 (clr (⟨0, 0, 0, 0⟩ : (V4 Int)) s6.2.2.2.2 s6.1.toNat (w64 ((s6.2.2.2.2.length : Int) - s6.1)).toNat).length) (some (sub (clr (⟨0, 0, 0, 0⟩ : (V4 Int)) s6.2.2.2.2 s6.1.toNat (w64 ((s6.2.2.2.2.length : Int) - s6.1)).toNat) 0 (w64 (s6.1 - 0)).toNat))))
noncomputable def slices_Compact_SA4_A4_'o_L2 (n : Nat) (go2 : Int × (List (V4 Int)) → Option ((List (V4 Int)))) (s3 : Int × (List (V4 Int))) : Option ((List (V4 Int))) :=
  br (decide (s3.1 < (s3.2.length : Int))) (ckb (inb s3.1 s3.2.length) (lt (w64 (s3.1 - 1)) fun (x4 : Int) => ckb (inb x4 s3.2.length) (br (eqd (gl (⟨0, 0, 0, 0⟩ : (V4 Int)) s3.2 s3.1.toNat) (gl (⟨0, 0, 0, 0⟩ : (V4 Int)) s3.2 x4.toNat)) (ckb (slb s3.1 (s3.2.length : Int) s3.2.length) (fx (slices_Compact_SA4_A4_'o_L1 n) n (s3.1, (s3.1.toNat : Int), ((w64 ((s3.2.length : Int) - s3.1)).toNat : Int), 1, s3.2))) (lt (w64 (s3.1 + 1)) fun (x12 : Int) => go2 (x12, s3.2))))) (some s3.2)
noncomputable def slices_Compact_SA4_A4_'o (n : Nat) (a1 : (List (V4 Int))) : Option ((List (V4 Int))) :=
  br (decide ((a1.length : Int) < 2)) (some a1) (fx (slices_Compact_SA4_A4_'o_L2 n) n (1, a1))

/-- i_sorted -/
noncomputable def i_sorted (n : Nat) (a1 : (List (V4 Int))) : Option ((List (V4 Int))) :=
  ob (slices_Clone_SA4_A4_ n a1) fun (r2 : (List (V4 Int))) => ob (slices_SortFunc_SA4_A4_'o_i_compareCards n r2) fun (r3 : (List (V4 Int))) => ob (slices_Compact_SA4_A4_'o n r3) fun (r4 : (List (V4 Int))) => ob (slices_Clone_SA4_A4_ n r4) fun (r5 : (List (V4 Int))) => some r5

/-- s_Cur_next'p -/
noncomputable def s_Cur_next'p_J1 (n : Nat) (s2 : Int × ((List Int) × (Int × Int))) : Option (Int × ((List Int) × (Int × Int))) :=
  lt (w64 (s2.2.2.1 + 1)) fun (x3 : Int) => lt (s2.2.1, (x3, s2.2.2.2)) fun (x4 : ((List Int) × (Int × Int))) => lt (IntKind.wrap .u64 (x4.2.2 * 6364136223846793005)) fun (x5 : Int) => lt (IntKind.wrap .u64 s2.1) fun (x6 : Int) => lt (IntKind.wrap .u64 (x5 + x6)) fun (x7 : Int) => lt (IntKind.wrap .u64 (x7 + 462197)) fun (x8 : Int) => lt (x4.1, (x4.2.1, x8)) fun (x9 : ((List Int) × (Int × Int))) => br (decide (x9.2.1 ≤ (x9.1.length : Int))) (some (s2.1, x9)) (lt (shrI .u64 x9.2.2 40) fun (x10 : Int) => lt (bits .and .u64 x10 255) fun (x11 : Int) => lt (w64 x11) fun (x12 : Int) => some (x12, x9))
noncomputable def s_Cur_next'p (n : Nat) (a1 : ((List Int) × (Int × Int))) : Option (Int × ((List Int) × (Int × Int))) :=
  br (decide (a1.2.1 < (a1.1.length : Int))) (ckb (inb a1.2.1 a1.1.length) (lt (w64 (gl 0 a1.1 a1.2.1.toNat)) fun (x13 : Int) => s_Cur_next'p_J1 n (x13, a1))) (s_Cur_next'p_J1 n (0, a1))

/-- s_Cur_pick'p -/
noncomputable def s_Cur_pick'p (n : Nat) (a1 : Int) (a2 : ((List Int) × (Int × Int))) : Option (Int × ((List Int) × (Int × Int))) :=
  br (decide (a1 ≤ 1)) (some (0, a2)) (ob (s_Cur_next'p n a2) fun (r3 : Int × ((List Int) × (Int × Int))) => br (decide (200 < a1)) (lt (w64 (r3.1 * 256)) fun (x4 : Int) => ob (s_Cur_next'p n r3.2) fun (r5 : Int × ((List Int) × (Int × Int))) => lt (w64 (x4 + r5.1)) fun (x6 : Int) => ckb (!decide (a1 = 0)) (lt (Int.tmod x6 a1) fun (x7 : Int) => some (x7, r5.2))) (ckb (!decide (a1 = 0)) (lt (Int.tmod r3.1 a1) fun (x8 : Int) => some (x8, r3.2))))

/-- s_Cur_among'pl -/
noncomputable def s_Cur_among'pl (n : Nat) (a1 : (List Int)) (a2 : ((List Int) × (Int × Int))) : Option (Int × ((List Int) × (Int × Int))) :=
  ob (s_Cur_pick'p n (a1.length : Int) a2) fun (r3 : Int × ((List Int) × (Int × Int))) => ckb (inb r3.1 a1.length) (some ((gl 0 a1 r3.1.toNat), r3.2))

/-- s_l1Most -/
noncomputable def s_l1Most (n : Nat) (a1 : Int) (a2 : Int) : Option (Int) :=
  br (decide (a2 < a1)) (some a1) (some a2)

/-- s_l2At -/
noncomputable def s_l2At (n : Nat) (a1 : Int) : Option ((V4 Int)) :=
  lt (w64 (Int.tdiv a1 27)) fun (x2 : Int) => lt (w64 (Int.tdiv a1 9)) fun (x3 : Int) => lt (Int.tmod x3 3) fun (x4 : Int) => lt (w64 (Int.tdiv a1 3)) fun (x5 : Int) => lt (Int.tmod x5 3) fun (x6 : Int) => lt (Int.tmod a1 3) fun (x7 : Int) => lt (⟨x2, x4, x6, x7⟩ : (V4 Int)) fun (x8 : (V4 Int)) => some x8

/-- s_l2Number -/
noncomputable def s_l2Number (n : Nat) (a1 : (V4 Int)) : Option (Int) :=
  lt (w64 (27 * a1.x0)) fun (x2 : Int) => lt (w64 (9 * a1.x1)) fun (x3 : Int) => lt (w64 (x2 + x3)) fun (x4 : Int) => lt (w64 (3 * a1.x2)) fun (x5 : Int) => lt (w64 (x4 + x5)) fun (x6 : Int) => lt (w64 (x6 + a1.x3)) fun (x7 : Int) => some x7

/-- s_l2Less -/
noncomputable def s_l2Less (n : Nat) (a1 : (V4 Int)) (a2 : (V4 Int)) : Option (Bool) :=
  ob (s_l2Number n a1) fun (r3 : Int) => ob (s_l2Number n a2) fun (r4 : Int) => some (decide (r3 < r4))

/-- s_l2Own -/
noncomputable def s_l2Own (n : Nat) (a1 : (List (V4 Int))) : Option ((List (V4 Int))) :=
  ckb (apok 32 (0 + a1.length)) (some a1)

/-- s_l2Put -/
noncomputable def s_l2Put_L1 (n : Nat) (go3 : (List (V4 Int)) × Int × (V4 Int) → Option ((List (V4 Int)))) (s4 : (List (V4 Int)) × Int × (V4 Int)) : Option ((List (V4 Int))) :=
  ob (br (decide (s4.2.1 < (s4.1.length : Int))) (ckb (inb s4.2.1 s4.1.length) (ob (s_l2Less n (gl (⟨0, 0, 0, 0⟩ : (V4 Int)) s4.1 s4.2.1.toNat) s4.2.2) fun (r5 : Bool) => some r5)) (some false)) fun (x6 : Bool) => br x6 (lt (w64 (s4.2.1 + 1)) fun (x7 : Int) => go3 (s4.1, x7, s4.2.2)) (ob (br (decide (s4.2.1 < (s4.1.length : Int))) (ckb (inb s4.2.1 s4.1.length) (some (eqd (gl (⟨0, 0, 0, 0⟩ : (V4 Int)) s4.1 s4.2.1.toNat) s4.2.2))) (some false)) fun (x8 : Bool) => br x8 (ob (s_l2Own n s4.1) fun (r9 : (List (V4 Int))) => some r9) (ckb (slb 0 s4.2.1 s4.1.length) (ob (s_l2Own n (sub s4.1 0 s4.2.1.toNat)) fun (r10 : (List (V4 Int))) => ckb (apok 32 (r10.length + 1)) (ckb (slb s4.2.1 (s4.1.length : Int) s4.1.length) (ckb (apok 32 ((r10 ++ [s4.2.2]).length + (sub s4.1 s4.2.1.toNat s4.1.length).length)) (some ((r10 ++ [s4.2.2]) ++ (sub s4.1 s4.2.1.toNat s4.1.length))))))))
noncomputable def s_l2Put (n : Nat) (a1 : (List (V4 Int))) (a2 : (V4 Int)) : Option ((List (V4 Int))) :=
  fx (s_l2Put_L1 n) n (a1, 0, a2)

/-- s_Cur_one'p -/
noncomputable def s_Cur_one'p (n : Nat) (a1 : Int) (a2 : ((List Int) × (Int × Int))) : Option (Bool × ((List Int) × (Int × Int))) :=
  ob (s_Cur_pick'p n a1 a2) fun (r3 : Int × ((List Int) × (Int × Int))) => some ((decide (r3.1 = 0)), r3.2)

/-- s_Cur_hand'p -/
noncomputable def s_Cur_hand'p_L1 (n : Nat) (go4 : Int × Int × ((List Int) × (Int × Int)) × (List (V4 Int)) → Option (((List Int) × (Int × Int)) × (List (V4 Int)))) (go8 : Int × Int × Int × ((List Int) × (Int × Int)) × (List (V4 Int)) × (V4 Int) → Option (((List Int) × (Int × Int)) × (List (V4 Int)))) (s9 : Int × Int × Int × ((List Int) × (Int × Int)) × (List (V4 Int)) × (V4 Int)) : Option (((List Int) × (Int × Int)) × (List (V4 Int))) :=
  br (decide (s9.2.2.1 < 4)) (ckb (inb s9.2.2.1 4) (lt (V4.set s9.2.2.2.2.2 s9.2.2.1.toNat 1) fun (x10 : (V4 Int)) => lt (w64 (s9.2.2.1 + 1)) fun (x11 : Int) => go8 (s9.1, s9.2.1, x11, s9.2.2.2.1, s9.2.2.2.2.1, x10))) (ob (s_l2Put n s9.2.2.2.2.1 s9.2.2.2.2.2) fun (r12 : (List (V4 Int))) => lt (w64 (s9.2.1 - 1)) fun (x13 : Int) => go4 (s9.1, x13, s9.2.2.2.1, r12))
noncomputable def s_Cur_hand'p_J2 (n : Nat) (s14 : Bool × ((List Int) × (Int × Int)) × (List (V4 Int))) : Option (((List Int) × (Int × Int)) × (List (V4 Int))) :=
  br s14.1 (ob (s_Cur_pick'p n (s14.2.2.length : Int) s14.2.1) fun (r15 : Int × ((List Int) × (Int × Int))) => ob (s_Cur_pick'p n 3 r15.2) fun (r16 : Int × ((List Int) × (Int × Int))) => br (decide (r16.1 = 0)) (ob (s_Cur_pick'p n 4 r16.2) fun (r17 : Int × ((List Int) × (Int × Int))) => ob (s_Cur_among'pl n [(-1), 3] r17.2) fun (r18 : Int × ((List Int) × (Int × Int))) => ckb (inb r15.1 s14.2.2.length) (ckb (inb r17.1 4) (lt (List.set s14.2.2 r15.1.toNat (V4.set (gl (⟨0, 0, 0, 0⟩ : (V4 Int)) s14.2.2 r15.1.toNat) r17.1.toNat r18.1)) fun (x19 : (List (V4 Int))) => some (r18.2, x19)))) (br (decide (r16.1 = 1)) (ckb (inb r15.1 s14.2.2.length) (ckb (apok 32 (s14.2.2.length + 1)) (some (r16.2, (s14.2.2 ++ [(gl (⟨0, 0, 0, 0⟩ : (V4 Int)) s14.2.2 r15.1.toNat)]))))) (ob (s_Cur_pick'p n 81 r16.2) fun (r20 : Int × ((List Int) × (Int × Int))) => ob (s_l2At n r20.1) fun (r21 : (V4 Int)) => ckb (inb r15.1 s14.2.2.length) (lt (List.set s14.2.2 r15.1.toNat r21) fun (x22 : (List (V4 Int))) => some (r20.2, x22))))) (some (s14.2.1, s14.2.2))
noncomputable def s_Cur_hand'p_L3 (n : Nat) (go4 : Int × Int × ((List Int) × (Int × Int)) × (List (V4 Int)) → Option (((List Int) × (Int × Int)) × (List (V4 Int)))) (s5 : Int × Int × ((List Int) × (Int × Int)) × (List (V4 Int))) : Option (((List Int) × (Int × Int)) × (List (V4 Int))) :=
  br (decide (0 < s5.2.1)) (ob (s_Cur_pick'p n 81 s5.2.2.1) fun (r6 : Int × ((List Int) × (Int × Int))) => ob (s_l2At n r6.1) fun (r7 : (V4 Int)) => fx (s_Cur_hand'p_L1 n go4) n (s5.1, s5.2.1, s5.1, r6.2, s5.2.2.2, r7)) (br (decide (0 < (s5.2.2.2.length : Int))) (ob (s_Cur_one'p n 24 s5.2.2.1) fun (r23 : Bool × ((List Int) × (Int × Int))) => s_Cur_hand'p_J2 n (r23.1, r23.2, s5.2.2.2)) (s_Cur_hand'p_J2 n (false, s5.2.2.1, s5.2.2.2)))
noncomputable def s_Cur_hand'p (n : Nat) (a1 : ((List Int) × (Int × Int))) : Option (((List Int) × (Int × Int)) × (List (V4 Int))) :=
  ob (s_Cur_among'pl n [4, 3, 4, 2] a1) fun (r2 : Int × ((List Int) × (Int × Int))) => ob (s_Cur_among'pl n [6, 9, 4, 12, 3, 2, 1, 0, 20, 26, 27, 28] r2.2) fun (r3 : Int × ((List Int) × (Int × Int))) => fx (s_Cur_hand'p_L3 n) n (r2.1, r3.1, r3.2, ([] : List (V4 Int)))

/-- s_l2Hand -/
noncomputable def s_l2Hand_L1 (n : Nat) (go2 : (List (V4 Int)) × Int → Option (Bool)) (s3 : (List (V4 Int)) × Int) : Option (Bool) :=
  ob (br (decide (s3.2 < (s3.1.length : Int))) (some (decide (s3.2 ≤ 27))) (some false)) fun (x4 : Bool) => br x4 (ckb (inb s3.2 s3.1.length) (ob (s_l2Card n (gl (⟨0, 0, 0, 0⟩ : (V4 Int)) s3.1 s3.2.toNat)) fun (r5 : Bool) => ob (br (! r5) (some true) (ob (br (decide (0 < s3.2)) (lt (w64 (s3.2 - 1)) fun (x6 : Int) => ckb (inb x6 s3.1.length) (ckb (inb s3.2 s3.1.length) (ob (s_l2Less n (gl (⟨0, 0, 0, 0⟩ : (V4 Int)) s3.1 x6.toNat) (gl (⟨0, 0, 0, 0⟩ : (V4 Int)) s3.1 s3.2.toNat)) fun (r7 : Bool) => some (! r7)))) (some false)) fun (x8 : Bool) => some x8)) fun (x9 : Bool) => br x9 (some false) (lt (w64 (s3.2 + 1)) fun (x10 : Int) => go2 (s3.1, x10)))) (some (decide ((s3.1.length : Int) ≤ 27)))
noncomputable def s_l2Hand (n : Nat) (a1 : (List (V4 Int))) : Option (Bool) :=
  fx (s_l2Hand_L1 n) n (a1, 0)

/-- s_l2Third -/
noncomputable def s_l2Third_L1 (n : Nat) (go4 : Int × (V4 Int) × (V4 Int) × (V4 Int) × (V4 Int) → Option ((V4 Int))) (s5 : Int × (V4 Int) × (V4 Int) × (V4 Int) × (V4 Int)) : Option ((V4 Int)) :=
  br (decide (s5.1 < 4)) (ckb (inb s5.1 4) (lt (w64 (6 - (V4.get s5.2.1 s5.1.toNat))) fun (x6 : Int) => ckb (inb s5.1 4) (lt (w64 (x6 - (V4.get s5.2.2.1 s5.1.toNat))) fun (x7 : Int) => lt (Int.tmod x7 3) fun (x8 : Int) => ckb (inb s5.1 4) (lt (V4.set s5.2.2.2.2 s5.1.toNat x8) fun (x9 : (V4 Int)) => lt (w64 (s5.1 + 1)) fun (x10 : Int) => go4 (x10, s5.2.1, s5.2.2.1, s5.2.2.2.1, x9))))) (some s5.2.2.2.2)
noncomputable def s_l2Third (n : Nat) (a1 : (V4 Int)) (a2 : (V4 Int)) : Option ((V4 Int)) :=
  lt (⟨0, 0, 0, 0⟩ : (V4 Int)) fun (x3 : (V4 Int)) => fx (s_l2Third_L1 n) n (0, a1, a2, (⟨0, 0, 0, 0⟩ : (V4 Int)), x3)

/-- i_IsHand -/
noncomputable def i_IsHand_L1 (n : Nat) (go2 : (List (V4 Int)) × (List (V4 Int)) × Int × Int → Option (Bool)) (s3 : (List (V4 Int)) × (List (V4 Int)) × Int × Int) : Option (Bool) :=
  br (decide (s3.2.2.2 < s3.2.2.1)) (ckb (inb s3.2.2.2 s3.2.1.length) (ob (i_IsCard n (gl (⟨0, 0, 0, 0⟩ : (V4 Int)) s3.2.1 s3.2.2.2.toNat)) fun (r4 : Bool) => ob (br (! r4) (some true) (ob (br (decide (0 < s3.2.2.2)) (lt (w64 (s3.2.2.2 - 1)) fun (x5 : Int) => ckb (inb x5 s3.1.length) (ob (i_number n (gl (⟨0, 0, 0, 0⟩ : (V4 Int)) s3.1 x5.toNat)) fun (r6 : Int) => ob (i_number n (gl (⟨0, 0, 0, 0⟩ : (V4 Int)) s3.2.1 s3.2.2.2.toNat)) fun (r7 : Int) => some (decide (r7 ≤ r6)))) (some false)) fun (x8 : Bool) => some x8)) fun (x9 : Bool) => br x9 (some false) (lt (w64 (s3.2.2.2 + 1)) fun (x10 : Int) => go2 (s3.1, s3.2.1, s3.2.2.1, x10)))) (some (decide ((s3.1.length : Int) ≤ 27)))
noncomputable def i_IsHand (n : Nat) (a1 : (List (V4 Int))) : Option (Bool) :=
  fx (i_IsHand_L1 n) n (a1, a1, (a1.length : Int), 0)

/-- i_card -/
noncomputable def i_card (n : Nat) (a1 : Int) : Option ((V4 Int)) :=
  lt (w64 (Int.tdiv a1 27)) fun (x2 : Int) => lt (w64 (Int.tdiv a1 9)) fun (x3 : Int) => lt (Int.tmod x3 3) fun (x4 : Int) => lt (w64 (Int.tdiv a1 3)) fun (x5 : Int) => lt (Int.tmod x5 3) fun (x6 : Int) => lt (Int.tmod a1 3) fun (x7 : Int) => lt (⟨x2, x4, x6, x7⟩ : (V4 Int)) fun (x8 : (V4 Int)) => some x8

/-- i_third -/
noncomputable def i_third_L1 (n : Nat) (go4 : Int × (V4 Int) × (V4 Int) × (V4 Int) × (V4 Int) → Option ((V4 Int))) (s5 : Int × (V4 Int) × (V4 Int) × (V4 Int) × (V4 Int)) : Option ((V4 Int)) :=
  br (decide (s5.1 < 4)) (ckb (inb s5.1 4) (lt (w64 (6 - (V4.get s5.2.1 s5.1.toNat))) fun (x6 : Int) => ckb (inb s5.1 4) (lt (w64 (x6 - (V4.get s5.2.2.1 s5.1.toNat))) fun (x7 : Int) => lt (Int.tmod x7 3) fun (x8 : Int) => ckb (inb s5.1 4) (lt (V4.set s5.2.2.2.2 s5.1.toNat x8) fun (x9 : (V4 Int)) => lt (w64 (s5.1 + 1)) fun (x10 : Int) => go4 (x10, s5.2.1, s5.2.2.1, s5.2.2.2.1, x9))))) (some s5.2.2.2.2)
noncomputable def i_third (n : Nat) (a1 : (V4 Int)) (a2 : (V4 Int)) : Option ((V4 Int)) :=
  lt (⟨0, 0, 0, 0⟩ : (V4 Int)) fun (x3 : (V4 Int)) => fx (i_third_L1 n) n (0, a1, a2, (⟨0, 0, 0, 0⟩ : (V4 Int)), x3)

/-- s_l2Place -/
noncomputable def s_l2Place_L1 (n : Nat) (go3 : (List (V4 Int)) × Int × (V4 Int) → Option (Int)) (s4 : (List (V4 Int)) × Int × (V4 Int)) : Option (Int) :=
  br (decide (s4.2.1 < (s4.1.length : Int))) (ckb (inb s4.2.1 s4.1.length) (br (eqd (gl (⟨0, 0, 0, 0⟩ : (V4 Int)) s4.1 s4.2.1.toNat) s4.2.2) (some s4.2.1) (lt (w64 (s4.2.1 + 1)) fun (x5 : Int) => go3 (s4.1, x5, s4.2.2)))) (some (-1))
noncomputable def s_l2Place (n : Nat) (a1 : (List (V4 Int))) (a2 : (V4 Int)) : Option (Int) :=
  fx (s_l2Place_L1 n) n (a1, 0, a2)

/-- s_l2Has -/
noncomputable def s_l2Has (n : Nat) (a1 : (List (V4 Int))) (a2 : (V4 Int)) : Option (Bool) :=
  ob (s_l2Place n a1 a2) fun (r3 : Int) => some (decide (0 ≤ r3))

/-- s_Cur_card'p -/
noncomputable def s_Cur_card'p (n : Nat) (a1 : ((List Int) × (Int × Int))) : Option ((V4 Int) × ((List Int) × (Int × Int))) :=
  ob (s_Cur_pick'p n 81 a1) fun (r2 : Int × ((List Int) × (Int × Int))) => ob (s_l2At n r2.1) fun (r3 : (V4 Int)) => ob (s_Cur_one'p n 40 r2.2) fun (r4 : Bool × ((List Int) × (Int × Int))) => br r4.1 (ob (s_Cur_pick'p n 4 r4.2) fun (r5 : Int × ((List Int) × (Int × Int))) => ob (s_Cur_among'pl n [(-1), 3, 4611686018427387904, (-9223372036854775808)] r5.2) fun (r6 : Int × ((List Int) × (Int × Int))) => ckb (inb r5.1 4) (lt (V4.set r3 r5.1.toNat r6.1) fun (x7 : (V4 Int)) => some (x7, r6.2))) (some (r3, r4.2))

/-- s_l2Sorted -/
noncomputable def s_l2Sorted_L1 (n : Nat) (go2 : (List (V4 Int)) × Int × (List (V4 Int)) → Option ((List (V4 Int)))) (s3 : (List (V4 Int)) × Int × (List (V4 Int))) : Option ((List (V4 Int))) :=
  br (decide (s3.2.1 < (s3.1.length : Int))) (ckb (inb s3.2.1 s3.1.length) (ob (s_l2Put n s3.2.2 (gl (⟨0, 0, 0, 0⟩ : (V4 Int)) s3.1 s3.2.1.toNat)) fun (r4 : (List (V4 Int))) => lt (w64 (s3.2.1 + 1)) fun (x5 : Int) => go2 (s3.1, x5, r4))) (some s3.2.2)
noncomputable def s_l2Sorted (n : Nat) (a1 : (List (V4 Int))) : Option ((List (V4 Int))) :=
  fx (s_l2Sorted_L1 n) n (a1, 0, ([] : List (V4 Int)))

/-- v_vHands -/
noncomputable def v_vHands_L1 (n : Nat) (go3 : (List (V4 Int)) × (List (V4 Int)) × Int → Option (Bool)) (s4 : (List (V4 Int)) × (List (V4 Int)) × Int) : Option (Bool) :=
  br (decide (s4.2.2 < (s4.1.length : Int))) (ckb (inb s4.2.2 s4.1.length) (ckb (inb s4.2.2 s4.2.1.length) (br (!eqd (gl (⟨0, 0, 0, 0⟩ : (V4 Int)) s4.1 s4.2.2.toNat) (gl (⟨0, 0, 0, 0⟩ : (V4 Int)) s4.2.1 s4.2.2.toNat)) (some false) (lt (w64 (s4.2.2 + 1)) fun (x5 : Int) => go3 (s4.1, s4.2.1, x5))))) (some true)
noncomputable def v_vHands (n : Nat) (a1 : (List (V4 Int))) (a2 : (List (V4 Int))) : Option (Bool) :=
  br (!decide ((a1.length : Int) = (a2.length : Int))) (some false) (fx (v_vHands_L1 n) n (a1, a2, 0))

/-- v_rBig -/
noncomputable def v_rBig (n : Nat) (a1 : (List Int)) : Option (Bool) :=
  some (decide (65536 < (a1.length : Int)))

/-- s_l2Drop -/
noncomputable def s_l2Drop (n : Nat) (a1 : (List (V4 Int))) (a2 : Int) : Option ((List (V4 Int))) :=
  ckb (slb 0 a2 a1.length) (ob (s_l2Own n (sub a1 0 a2.toNat)) fun (r3 : (List (V4 Int))) => lt (w64 (a2 + 1)) fun (x4 : Int) => ckb (slb x4 (a1.length : Int) a1.length) (ckb (apok 32 (r3.length + (sub a1 x4.toNat a1.length).length)) (some (r3 ++ (sub a1 x4.toNat a1.length)))))

/-- s_l6Span -/
noncomputable def s_l6Span_L1 (n : Nat) (go3 : Int × (List (V4 Int)) → Option ((List (V4 Int)))) (go5 : Int × Int × (List (V4 Int)) → Option ((List (V4 Int)))) (s6 : Int × Int × (List (V4 Int))) : Option ((List (V4 Int))) :=
  br (decide (s6.2.1 < s6.1)) (ckb (inb s6.1 s6.2.2.length) (ckb (inb s6.2.1 s6.2.2.length) (ob (s_l2Third n (gl (⟨0, 0, 0, 0⟩ : (V4 Int)) s6.2.2 s6.1.toNat) (gl (⟨0, 0, 0, 0⟩ : (V4 Int)) s6.2.2 s6.2.1.toNat)) fun (r7 : (V4 Int)) => ob (s_l2Has n s6.2.2 r7) fun (r8 : Bool) => br (! r8) (ob (s_l2Put n s6.2.2 r7) fun (r9 : (List (V4 Int))) => lt (w64 ((-1) + 1)) fun (x10 : Int) => go5 (0, x10, r9)) (lt (w64 (s6.2.1 + 1)) fun (x11 : Int) => go5 (s6.1, x11, s6.2.2))))) (lt (w64 (s6.1 + 1)) fun (x12 : Int) => go3 (x12, s6.2.2))
noncomputable def s_l6Span_L2 (n : Nat) (go3 : Int × (List (V4 Int)) → Option ((List (V4 Int)))) (s4 : Int × (List (V4 Int))) : Option ((List (V4 Int))) :=
  br (decide (s4.1 < (s4.2.length : Int))) (fx (s_l6Span_L1 n go3) n (s4.1, 0, s4.2)) (some s4.2)
noncomputable def s_l6Span (n : Nat) (a1 : (List (V4 Int))) : Option ((List (V4 Int))) :=
  ob (s_l2Sorted n a1) fun (r2 : (List (V4 Int))) => fx (s_l6Span_L2 n) n (0, r2)

/-- s_Cur_flat'p -/
noncomputable def s_Cur_flat'p_J1 (n : Nat) (s14 : Bool × ((List Int) × (Int × Int)) × (List (V4 Int))) : Option (((List Int) × (Int × Int)) × (List (V4 Int))) :=
  br s14.1 (ob (s_Cur_pick'p n (s14.2.2.length : Int) s14.2.1) fun (r15 : Int × ((List Int) × (Int × Int))) => ob (s_l2Drop n s14.2.2 r15.1) fun (r16 : (List (V4 Int))) => some (r15.2, r16)) (some (s14.2.1, s14.2.2))
noncomputable def s_Cur_flat'p_L2 (n : Nat) (go10 : ((List Int) × (Int × Int)) × (List (V4 Int)) → Option (((List Int) × (Int × Int)) × (List (V4 Int)))) (s11 : ((List Int) × (Int × Int)) × (List (V4 Int))) : Option (((List Int) × (Int × Int)) × (List (V4 Int))) :=
  br (decide (27 < (s11.2.length : Int))) (ob (s_Cur_pick'p n (s11.2.length : Int) s11.1) fun (r12 : Int × ((List Int) × (Int × Int))) => ob (s_l2Drop n s11.2 r12.1) fun (r13 : (List (V4 Int))) => go10 (r12.2, r13)) (br (decide (1 < (s11.2.length : Int))) (ob (s_Cur_one'p n 3 s11.1) fun (r17 : Bool × ((List Int) × (Int × Int))) => s_Cur_flat'p_J1 n (r17.1, r17.2, s11.2)) (s_Cur_flat'p_J1 n (false, s11.1, s11.2)))
noncomputable def s_Cur_flat'p_L3 (n : Nat) (go3 : Int × ((List Int) × (Int × Int)) × (List (V4 Int)) → Option (((List Int) × (Int × Int)) × (List (V4 Int)))) (s4 : Int × ((List Int) × (Int × Int)) × (List (V4 Int))) : Option (((List Int) × (Int × Int)) × (List (V4 Int))) :=
  br (decide (0 < s4.1)) (ob (s_Cur_pick'p n 81 s4.2.1) fun (r5 : Int × ((List Int) × (Int × Int))) => ob (s_l2At n r5.1) fun (r6 : (V4 Int)) => ob (s_l2Put n s4.2.2 r6) fun (r7 : (List (V4 Int))) => lt (w64 (s4.1 - 1)) fun (x8 : Int) => go3 (x8, r5.2, r7)) (ob (s_l6Span n s4.2.2) fun (r9 : (List (V4 Int))) => fx (s_Cur_flat'p_L2 n) n (s4.2.1, r9))
noncomputable def s_Cur_flat'p (n : Nat) (a1 : ((List Int) × (Int × Int))) : Option (((List Int) × (Int × Int)) × (List (V4 Int))) :=
  ob (s_Cur_among'pl n [3, 2, 1, 4] a1) fun (r2 : Int × ((List Int) × (Int × Int))) => fx (s_Cur_flat'p_L3 n) n (r2.1, r2.2, ([] : List (V4 Int)))

/-- s_Cur_someHand'p -/
noncomputable def s_Cur_someHand'p (n : Nat) (a1 : ((List Int) × (Int × Int))) : Option (((List Int) × (Int × Int)) × (List (V4 Int))) :=
  ob (s_Cur_one'p n 2 a1) fun (r2 : Bool × ((List Int) × (Int × Int))) => br r2.1 (ob (s_Cur_flat'p n r2.2) fun (r3 : ((List Int) × (Int × Int)) × (List (V4 Int))) => some (r3.1, r3.2)) (ob (s_Cur_hand'p n r2.2) fun (r4 : ((List Int) × (Int × Int)) × (List (V4 Int))) => some (r4.1, r4.2))

/-- v_rHand -/
noncomputable def v_rHand_L1 (n : Nat) (go3 : (List (V4 Int)) × (List (V4 Int)) × Int → Option (Bool)) (s4 : (List (V4 Int)) × (List (V4 Int)) × Int) : Option (Bool) :=
  br (decide (s4.2.2 < (s4.1.length : Int))) (ckb (inb s4.2.2 s4.1.length) (ckb (inb s4.2.2 s4.2.1.length) (br (!eqd (gl (⟨0, 0, 0, 0⟩ : (V4 Int)) s4.1 s4.2.2.toNat) (gl (⟨0, 0, 0, 0⟩ : (V4 Int)) s4.2.1 s4.2.2.toNat)) (some false) (lt (w64 (s4.2.2 + 1)) fun (x5 : Int) => go3 (s4.1, s4.2.1, x5))))) (some true)
noncomputable def v_rHand (n : Nat) (a1 : (List (V4 Int))) (a2 : (List (V4 Int))) : Option (Bool) :=
  br (!decide ((a1.length : Int) = (a2.length : Int))) (some false) (fx (v_rHand_L1 n) n (a1, a2, 0))

/-- s_Cur_weight'p -/
noncomputable def s_Cur_weight'p_J1 (n : Nat) (go4 : Int × ((List Int) × (Int × Int)) × (V4 Int) × (V4 Int) → Option ((V4 Int) × ((List Int) × (Int × Int)))) (s6 : Int × ((List Int) × (Int × Int)) × (V4 Int) × (V4 Int)) : Option ((V4 Int) × ((List Int) × (Int × Int))) :=
  ckb (inb s6.1 4) (br (!decide ((V4.get s6.2.2.2 s6.1.toNat) = 0)) (some (s6.2.2.2, s6.2.1)) (lt (w64 (s6.1 + 1)) fun (x7 : Int) => go4 (x7, s6.2.1, s6.2.2.1, s6.2.2.2)))
noncomputable def s_Cur_weight'p_J2 (n : Nat) (go4 : Int × ((List Int) × (Int × Int)) × (V4 Int) × (V4 Int) → Option ((V4 Int) × ((List Int) × (Int × Int)))) (s8 : Int × Bool × ((List Int) × (Int × Int)) × (V4 Int) × (V4 Int)) : Option ((V4 Int) × ((List Int) × (Int × Int))) :=
  br s8.2.1 (ckb (inb s8.1 4) (lt (V4.set s8.2.2.2.2 s8.1.toNat 1) fun (x9 : (V4 Int)) => s_Cur_weight'p_J1 n go4 (s8.1, s8.2.2.1, s8.2.2.2.1, x9))) (s_Cur_weight'p_J1 n go4 (s8.1, s8.2.2.1, s8.2.2.2.1, s8.2.2.2.2))
noncomputable def s_Cur_weight'p_L3 (n : Nat) (go4 : Int × ((List Int) × (Int × Int)) × (V4 Int) × (V4 Int) → Option ((V4 Int) × ((List Int) × (Int × Int)))) (s5 : Int × ((List Int) × (Int × Int)) × (V4 Int) × (V4 Int)) : Option ((V4 Int) × ((List Int) × (Int × Int))) :=
  br (decide (s5.1 < 4)) (ckb (inb s5.1 4) (br (decide ((V4.get s5.2.2.2 s5.1.toNat) = 2)) (ob (s_Cur_one'p n 6 s5.2.1) fun (r10 : Bool × ((List Int) × (Int × Int))) => s_Cur_weight'p_J2 n go4 (s5.1, (! r10.1), r10.2, s5.2.2.1, s5.2.2.2)) (s_Cur_weight'p_J2 n go4 (s5.1, false, s5.2.1, s5.2.2.1, s5.2.2.2)))) (some (s5.2.2.2, s5.2.1))
noncomputable def s_Cur_weight'p (n : Nat) (a1 : ((List Int) × (Int × Int))) : Option ((V4 Int) × ((List Int) × (Int × Int))) :=
  ob (s_Cur_pick'p n 81 a1) fun (r2 : Int × ((List Int) × (Int × Int))) => ob (s_l2At n r2.1) fun (r3 : (V4 Int)) => fx (s_Cur_weight'p_L3 n) n (0, r2.2, (⟨0, 0, 0, 0⟩ : (V4 Int)), r3)

/-- s_DrawSplitBy -/
noncomputable def s_DrawSplitBy (n : Nat) (a1 : (List Int)) : Option ((V4 Int) × (List (V4 Int))) :=
  lt (a1, (0, 0)) fun (x2 : ((List Int) × (Int × Int))) => ob (s_Cur_weight'p n x2) fun (r3 : (V4 Int) × ((List Int) × (Int × Int))) => ob (s_Cur_someHand'p n r3.2) fun (r4 : ((List Int) × (Int × Int)) × (List (V4 Int))) => some (r3.1, r4.2)

/-- i_IsWeight -/
noncomputable def i_IsWeight_L1 (n : Nat) (go2 : (V4 Int) × Int × (V4 Int) → Option (Bool)) (s3 : (V4 Int) × Int × (V4 Int)) : Option (Bool) :=
  br (decide (s3.2.1 < 4)) (ckb (inb s3.2.1 4) (br (!decide ((V4.get s3.1 s3.2.1.toNat) = 0)) (ob (br (decide ((V4.get s3.1 s3.2.1.toNat) = 1)) (ob (i_IsCard n s3.2.2) fun (r4 : Bool) => some r4) (some false)) fun (x5 : Bool) => some x5) (lt (w64 (s3.2.1 + 1)) fun (x6 : Int) => go2 (s3.1, x6, s3.2.2)))) (some false)
noncomputable def i_IsWeight (n : Nat) (a1 : (V4 Int)) : Option (Bool) :=
  fx (i_IsWeight_L1 n) n (a1, 0, a1)

/-- i_value -/
noncomputable def i_value_L1 (n : Nat) (go3 : Int × (V4 Int) × Int × (V4 Int) → Option (Int)) (s4 : Int × (V4 Int) × Int × (V4 Int)) : Option (Int) :=
  br (decide (s4.2.2.1 < 4)) (ckb (inb s4.2.2.1 4) (ckb (inb s4.2.2.1 4) (lt (w64 ((V4.get s4.2.1 s4.2.2.1.toNat) * (V4.get s4.2.2.2 s4.2.2.1.toNat))) fun (x5 : Int) => lt (w64 (s4.1 + x5)) fun (x6 : Int) => lt (w64 (s4.2.2.1 + 1)) fun (x7 : Int) => go3 (x6, s4.2.1, x7, s4.2.2.2)))) (lt (Int.tmod s4.1 3) fun (x8 : Int) => some x8)
noncomputable def i_value (n : Nat) (a1 : (V4 Int)) (a2 : (V4 Int)) : Option (Int) :=
  fx (i_value_L1 n) n (0, a1, 0, a2)

/-- i_split -/
noncomputable def i_split_L1 (n : Nat) (go4 : (List (V4 Int)) × Int × Int × (V4 Int) × (V3 Int) × (V3 Int) → Option ((V3 Int))) (s5 : (List (V4 Int)) × Int × Int × (V4 Int) × (V3 Int) × (V3 Int)) : Option ((V3 Int)) :=
  br (decide (s5.2.2.1 < s5.2.1)) (ckb (inb s5.2.2.1 s5.1.length) (ob (i_value n (gl (⟨0, 0, 0, 0⟩ : (V4 Int)) s5.1 s5.2.2.1.toNat) s5.2.2.2.1) fun (r6 : Int) => ckb (inb r6 3) (lt (w64 ((V3.get s5.2.2.2.2.2 r6.toNat) + 1)) fun (x7 : Int) => ckb (inb r6 3) (lt (V3.set s5.2.2.2.2.2 r6.toNat x7) fun (x8 : (V3 Int)) => lt (w64 (s5.2.2.1 + 1)) fun (x9 : Int) => go4 (s5.1, s5.2.1, x9, s5.2.2.2.1, s5.2.2.2.2.1, x8))))) (some s5.2.2.2.2.2)
noncomputable def i_split (n : Nat) (a1 : (List (V4 Int))) (a2 : (V4 Int)) : Option ((V3 Int)) :=
  lt (⟨0, 0, 0⟩ : (V3 Int)) fun (x3 : (V3 Int)) => fx (i_split_L1 n) n (a1, (a1.length : Int), 0, a2, (⟨0, 0, 0⟩ : (V3 Int)), x3)

/-- i_SplitBy -/
noncomputable def i_SplitBy (n : Nat) (a1 : (List (V4 Int))) (a2 : (V4 Int)) : Option ((V3 Int) × Bool) :=
  ob (i_IsHand n a1) fun (r3 : Bool) => ob (br (! r3) (some true) (ob (i_IsWeight n a2) fun (r4 : Bool) => some (! r4))) fun (x5 : Bool) => br x5 (lt (⟨0, 0, 0⟩ : (V3 Int)) fun (x6 : (V3 Int)) => some (x6, false)) (ob (i_split n a1 a2) fun (r7 : (V3 Int)) => some (r7, true))

/-- s_l6Weight -/
noncomputable def s_l6Weight_L1 (n : Nat) (go2 : Int × (V4 Int) → Option (Bool)) (s3 : Int × (V4 Int)) : Option (Bool) :=
  br (decide (s3.1 < 4)) (ckb (inb s3.1 4) (br (!decide ((V4.get s3.2 s3.1.toNat) = 0)) (ckb (inb s3.1 4) (ob (br (decide ((V4.get s3.2 s3.1.toNat) = 1)) (ob (s_l2Card n s3.2) fun (r4 : Bool) => some r4) (some false)) fun (x5 : Bool) => some x5)) (lt (w64 (s3.1 + 1)) fun (x6 : Int) => go2 (x6, s3.2)))) (some false)
noncomputable def s_l6Weight (n : Nat) (a1 : (V4 Int)) : Option (Bool) :=
  fx (s_l6Weight_L1 n) n (0, a1)

/-- s_l6Value -/
noncomputable def s_l6Value (n : Nat) (a1 : (V4 Int)) (a2 : (V4 Int)) : Option (Int) :=
  lt (w64 (a1.x0 * a2.x0)) fun (x3 : Int) => lt (w64 (a1.x1 * a2.x1)) fun (x4 : Int) => lt (w64 (x3 + x4)) fun (x5 : Int) => lt (w64 (a1.x2 * a2.x2)) fun (x6 : Int) => lt (w64 (x5 + x6)) fun (x7 : Int) => lt (w64 (a1.x3 * a2.x3)) fun (x8 : Int) => lt (w64 (x7 + x8)) fun (x9 : Int) => lt (Int.tmod x9 3) fun (x10 : Int) => some x10

/-- s_l6Split -/
noncomputable def s_l6Split_L1 (n : Nat) (go4 : (List (V4 Int)) × Int × (V4 Int) × (V3 Int) × (V3 Int) → Option ((V3 Int))) (s5 : (List (V4 Int)) × Int × (V4 Int) × (V3 Int) × (V3 Int)) : Option ((V3 Int)) :=
  br (decide (s5.2.1 < (s5.1.length : Int))) (ckb (inb s5.2.1 s5.1.length) (ob (s_l6Value n (gl (⟨0, 0, 0, 0⟩ : (V4 Int)) s5.1 s5.2.1.toNat) s5.2.2.1) fun (r6 : Int) => ckb (inb r6 3) (lt (w64 ((V3.get s5.2.2.2.2 r6.toNat) + 1)) fun (x7 : Int) => ckb (inb r6 3) (lt (V3.set s5.2.2.2.2 r6.toNat x7) fun (x8 : (V3 Int)) => lt (w64 (s5.2.1 + 1)) fun (x9 : Int) => go4 (s5.1, x9, s5.2.2.1, s5.2.2.2.1, x8))))) (some s5.2.2.2.2)
noncomputable def s_l6Split (n : Nat) (a1 : (List (V4 Int))) (a2 : (V4 Int)) : Option ((V3 Int)) :=
  lt (⟨0, 0, 0⟩ : (V3 Int)) fun (x3 : (V3 Int)) => fx (s_l6Split_L1 n) n (a1, 0, a2, (⟨0, 0, 0⟩ : (V3 Int)), x3)

/-- s_SplitBy -/
noncomputable def s_SplitBy (n : Nat) (a1 : (List (V4 Int))) (a2 : (V4 Int)) : Option ((V3 Int) × Bool) :=
  ob (s_l2Hand n a1) fun (r3 : Bool) => ob (br (! r3) (some true) (ob (s_l6Weight n a2) fun (r4 : Bool) => some (! r4))) fun (x5 : Bool) => br x5 (lt (⟨0, 0, 0⟩ : (V3 Int)) fun (x6 : (V3 Int)) => some (x6, false)) (ob (s_l6Split n a1 a2) fun (r7 : (V3 Int)) => some (r7, true))

/-- i_weights -/
noncomputable def i_weights_L1 (n : Nat) (go1 : Int × (List (V4 Int)) → Option ((List (V4 Int)))) (s2 : Int × (List (V4 Int))) : Option ((List (V4 Int))) :=
  br (decide (s2.1 < 81)) (ob (i_card n s2.1) fun (r3 : (V4 Int)) => ob (i_IsWeight n r3) fun (r4 : Bool) => br r4 (ckb (apok 32 (s2.2.length + 1)) (lt (w64 (s2.1 + 1)) fun (x5 : Int) => go1 (x5, (s2.2 ++ [r3])))) (lt (w64 (s2.1 + 1)) fun (x6 : Int) => go1 (x6, s2.2))) (some s2.2)
noncomputable def i_weights (n : Nat) : Option ((List (V4 Int))) :=
  fx (i_weights_L1 n) n (0, ([] : List (V4 Int)))

/-- i_MostInSpace -/
noncomputable def i_MostInSpace_L1 (n : Nat) (go6 : (List (V4 Int)) × Int × Int × Int × Int × (V4 Int) × (V4 Int) × (List (V4 Int)) → Option (Int × (V4 Int) × Int × Bool)) (go9 : (List (V4 Int)) × Int × Int × Int × Int × (V3 Int) × Int × (V4 Int) × (V4 Int) × (V4 Int) × (List (V4 Int)) → Option (Int × (V4 Int) × Int × Bool)) (s10 : (List (V4 Int)) × Int × Int × Int × Int × (V3 Int) × Int × (V4 Int) × (V4 Int) × (V4 Int) × (List (V4 Int))) : Option (Int × (V4 Int) × Int × Bool) :=
  br (decide (s10.2.2.2.2.2.2.1 < 3)) (ckb (inb s10.2.2.2.2.2.2.1 3) (br (decide (s10.2.1 < (V3.get s10.2.2.2.2.2.1 s10.2.2.2.2.2.2.1.toNat))) (lt (w64 (s10.2.2.2.2.2.2.1 + 1)) fun (x11 : Int) => go9 (s10.1, (V3.get s10.2.2.2.2.2.1 s10.2.2.2.2.2.2.1.toNat), s10.2.2.2.2.2.2.1, s10.2.2.2.1, s10.2.2.2.2.1, s10.2.2.2.2.2.1, x11, s10.2.2.2.2.2.2.2.1, s10.2.2.2.2.2.2.2.2.2.1, s10.2.2.2.2.2.2.2.2.2.1, s10.2.2.2.2.2.2.2.2.2.2)) (lt (w64 (s10.2.2.2.2.2.2.1 + 1)) fun (x12 : Int) => go9 (s10.1, s10.2.1, s10.2.2.1, s10.2.2.2.1, s10.2.2.2.2.1, s10.2.2.2.2.2.1, x12, s10.2.2.2.2.2.2.2.1, s10.2.2.2.2.2.2.2.2.1, s10.2.2.2.2.2.2.2.2.2.1, s10.2.2.2.2.2.2.2.2.2.2)))) (lt (w64 (s10.2.2.2.2.1 + 1)) fun (x13 : Int) => go6 (s10.1, s10.2.1, s10.2.2.1, s10.2.2.2.1, x13, s10.2.2.2.2.2.2.2.1, s10.2.2.2.2.2.2.2.2.1, s10.2.2.2.2.2.2.2.2.2.2))
noncomputable def i_MostInSpace_L2 (n : Nat) (go6 : (List (V4 Int)) × Int × Int × Int × Int × (V4 Int) × (V4 Int) × (List (V4 Int)) → Option (Int × (V4 Int) × Int × Bool)) (s7 : (List (V4 Int)) × Int × Int × Int × Int × (V4 Int) × (V4 Int) × (List (V4 Int))) : Option (Int × (V4 Int) × Int × Bool) :=
  br (decide (s7.2.2.2.2.1 < s7.2.2.2.1)) (ckb (inb s7.2.2.2.2.1 s7.2.2.2.2.2.2.2.length) (ob (i_split n s7.1 (gl (⟨0, 0, 0, 0⟩ : (V4 Int)) s7.2.2.2.2.2.2.2 s7.2.2.2.2.1.toNat)) fun (r8 : (V3 Int)) => fx (i_MostInSpace_L1 n go6) n (s7.1, s7.2.1, s7.2.2.1, s7.2.2.2.1, s7.2.2.2.2.1, r8, 0, s7.2.2.2.2.2.1, s7.2.2.2.2.2.2.1, (gl (⟨0, 0, 0, 0⟩ : (V4 Int)) s7.2.2.2.2.2.2.2 s7.2.2.2.2.1.toNat), s7.2.2.2.2.2.2.2))) (some (s7.2.1, s7.2.2.2.2.2.2.1, s7.2.2.1, true))
noncomputable def i_MostInSpace (n : Nat) (a1 : (List (V4 Int))) : Option (Int × (V4 Int) × Int × Bool) :=
  ob (i_IsHand n a1) fun (r2 : Bool) => br (! r2) (lt (⟨0, 0, 0, 0⟩ : (V4 Int)) fun (x3 : (V4 Int)) => some (0, x3, 0, false)) (lt (⟨0, 0, 0, 0⟩ : (V4 Int)) fun (x4 : (V4 Int)) => ob (i_weights n) fun (r5 : (List (V4 Int))) => fx (i_MostInSpace_L2 n) n (a1, (-1), 0, (r5.length : Int), 0, (⟨0, 0, 0, 0⟩ : (V4 Int)), x4, r5))

/-- s_MostInSpace -/
noncomputable def s_MostInSpace_L1 (n : Nat) (go4 : (List (V4 Int)) × Int × Int × Int × (V4 Int) × (V4 Int) → Option (Int × (V4 Int) × Int × Bool)) (go10 : (List (V4 Int)) × Int × Int × Int × Int × (V4 Int) × (V4 Int) × (V4 Int) × (V3 Int) → Option (Int × (V4 Int) × Int × Bool)) (s11 : (List (V4 Int)) × Int × Int × Int × Int × (V4 Int) × (V4 Int) × (V4 Int) × (V3 Int)) : Option (Int × (V4 Int) × Int × Bool) :=
  br (decide (s11.2.2.2.2.1 < 3)) (ckb (inb s11.2.2.2.2.1 3) (br (decide (s11.2.1 < (V3.get s11.2.2.2.2.2.2.2.2 s11.2.2.2.2.1.toNat))) (ckb (inb s11.2.2.2.2.1 3) (lt (w64 (s11.2.2.2.2.1 + 1)) fun (x12 : Int) => go10 (s11.1, (V3.get s11.2.2.2.2.2.2.2.2 s11.2.2.2.2.1.toNat), s11.2.2.2.2.1, s11.2.2.2.1, x12, s11.2.2.2.2.2.1, s11.2.2.2.2.2.2.2.1, s11.2.2.2.2.2.2.2.1, s11.2.2.2.2.2.2.2.2))) (lt (w64 (s11.2.2.2.2.1 + 1)) fun (x13 : Int) => go10 (s11.1, s11.2.1, s11.2.2.1, s11.2.2.2.1, x13, s11.2.2.2.2.2.1, s11.2.2.2.2.2.2.1, s11.2.2.2.2.2.2.2.1, s11.2.2.2.2.2.2.2.2)))) (lt (w64 (s11.2.2.2.1 + 1)) fun (x14 : Int) => go4 (s11.1, s11.2.1, s11.2.2.1, x14, s11.2.2.2.2.2.1, s11.2.2.2.2.2.2.1))
noncomputable def s_MostInSpace_L2 (n : Nat) (go4 : (List (V4 Int)) × Int × Int × Int × (V4 Int) × (V4 Int) → Option (Int × (V4 Int) × Int × Bool)) (s5 : (List (V4 Int)) × Int × Int × Int × (V4 Int) × (V4 Int)) : Option (Int × (V4 Int) × Int × Bool) :=
  br (decide (s5.2.2.2.1 < 81)) (ob (s_l2At n s5.2.2.2.1) fun (r6 : (V4 Int)) => ob (s_l6Weight n r6) fun (r7 : Bool) => br (! r7) (lt (w64 (s5.2.2.2.1 + 1)) fun (x8 : Int) => go4 (s5.1, s5.2.1, s5.2.2.1, x8, s5.2.2.2.2.1, s5.2.2.2.2.2)) (ob (s_l6Split n s5.1 r6) fun (r9 : (V3 Int)) => fx (s_MostInSpace_L1 n go4) n (s5.1, s5.2.1, s5.2.2.1, s5.2.2.2.1, 0, s5.2.2.2.2.1, s5.2.2.2.2.2, r6, r9))) (some (s5.2.1, s5.2.2.2.2.2, s5.2.2.1, true))
noncomputable def s_MostInSpace (n : Nat) (a1 : (List (V4 Int))) : Option (Int × (V4 Int) × Int × Bool) :=
  lt (⟨0, 0, 0, 0⟩ : (V4 Int)) fun (x2 : (V4 Int)) => ob (s_l2Hand n a1) fun (r3 : Bool) => br (! r3) (some (0, x2, 0, false)) (fx (s_MostInSpace_L2 n) n (a1, (-1), 0, 0, (⟨0, 0, 0, 0⟩ : (V4 Int)), x2))

/-- i_SpacesWith -/
noncomputable def i_SpacesWith_L1 (n : Nat) (go4 : (List (V4 Int)) × Int × Int × (List (V4 Int)) × (List (V4 Int)) → Option (Bool × (List (V4 Int)))) (s5 : (List (V4 Int)) × Int × Int × (List (V4 Int)) × (List (V4 Int))) : Option (Bool × (List (V4 Int))) :=
  br (decide (s5.2.2.1 < s5.2.1)) (ckb (inb s5.2.2.1 s5.2.2.2.2.length) (ob (i_split n s5.1 (gl (⟨0, 0, 0, 0⟩ : (V4 Int)) s5.2.2.2.2 s5.2.2.1.toNat)) fun (r6 : (V3 Int)) => br (decide ((mxI (mxI r6.x0 r6.x1) r6.x2) = (s5.1.length : Int))) (ckb (apok 32 (s5.2.2.2.1.length + 1)) (lt (w64 (s5.2.2.1 + 1)) fun (x7 : Int) => go4 (s5.1, s5.2.1, x7, (s5.2.2.2.1 ++ [(gl (⟨0, 0, 0, 0⟩ : (V4 Int)) s5.2.2.2.2 s5.2.2.1.toNat)]), s5.2.2.2.2))) (lt (w64 (s5.2.2.1 + 1)) fun (x8 : Int) => go4 (s5.1, s5.2.1, x8, s5.2.2.2.1, s5.2.2.2.2)))) (some (true, s5.2.2.2.1))
noncomputable def i_SpacesWith (n : Nat) (a1 : (List (V4 Int))) : Option (Bool × (List (V4 Int))) :=
  ob (i_IsHand n a1) fun (r2 : Bool) => br (! r2) (some (false, ([] : List (V4 Int)))) (ob (i_weights n) fun (r3 : (List (V4 Int))) => fx (i_SpacesWith_L1 n) n (a1, (r3.length : Int), 0, ([] : List (V4 Int)), r3))

/-- s_SpacesWith -/
noncomputable def s_SpacesWith_L1 (n : Nat) (go3 : (List (V4 Int)) × Int × (List (V4 Int)) → Option (Bool × (List (V4 Int)))) (s4 : (List (V4 Int)) × Int × (List (V4 Int))) : Option (Bool × (List (V4 Int))) :=
  br (decide (s4.2.1 < 81)) (ob (s_l2At n s4.2.1) fun (r5 : (V4 Int)) => ob (s_l6Weight n r5) fun (r6 : Bool) => br (! r6) (lt (w64 (s4.2.1 + 1)) fun (x7 : Int) => go3 (s4.1, x7, s4.2.2)) (ob (s_l6Split n s4.1 r5) fun (r8 : (V3 Int)) => ob (s_l1Most n r8.x1 r8.x2) fun (r9 : Int) => ob (s_l1Most n r8.x0 r9) fun (r10 : Int) => br (decide (r10 = (s4.1.length : Int))) (ckb (apok 32 (s4.2.2.length + 1)) (lt (w64 (s4.2.1 + 1)) fun (x11 : Int) => go3 (s4.1, x11, (s4.2.2 ++ [r5])))) (lt (w64 (s4.2.1 + 1)) fun (x12 : Int) => go3 (s4.1, x12, s4.2.2)))) (some (true, s4.2.2))
noncomputable def s_SpacesWith (n : Nat) (a1 : (List (V4 Int))) : Option (Bool × (List (V4 Int))) :=
  ob (s_l2Hand n a1) fun (r2 : Bool) => br (! r2) (some (false, ([] : List (V4 Int)))) (fx (s_SpacesWith_L1 n) n (a1, 0, ([] : List (V4 Int))))

/-- s_DrawValueBy -/
noncomputable def s_DrawValueBy (n : Nat) (a1 : (List Int)) : Option ((V4 Int) × (V4 Int)) :=
  lt (a1, (0, 0)) fun (x2 : ((List Int) × (Int × Int))) => ob (s_Cur_weight'p n x2) fun (r3 : (V4 Int) × ((List Int) × (Int × Int))) => ob (s_Cur_card'p n r3.2) fun (r4 : (V4 Int) × ((List Int) × (Int × Int))) => some (r4.1, r3.1)

/-- i_ValueBy -/
noncomputable def i_ValueBy (n : Nat) (a1 : (V4 Int)) (a2 : (V4 Int)) : Option (Int × Bool) :=
  ob (i_IsCard n a1) fun (r3 : Bool) => ob (br (! r3) (some true) (ob (i_IsWeight n a2) fun (r4 : Bool) => some (! r4))) fun (x5 : Bool) => br x5 (some (0, false)) (ob (i_value n a1 a2) fun (r6 : Int) => some (r6, true))

/-- s_ValueBy -/
noncomputable def s_ValueBy (n : Nat) (a1 : (V4 Int)) (a2 : (V4 Int)) : Option (Int × Bool) :=
  ob (s_l2Card n a1) fun (r3 : Bool) => ob (br (! r3) (some true) (ob (s_l6Weight n a2) fun (r4 : Bool) => some (! r4))) fun (x5 : Bool) => br x5 (some (0, false)) (ob (s_l6Value n a1 a2) fun (r6 : Int) => some (r6, true))

/-- s_DrawIsWeight -/
noncomputable def s_DrawIsWeight (n : Nat) (a1 : (List Int)) : Option ((V4 Int)) :=
  lt (a1, (0, 0)) fun (x2 : ((List Int) × (Int × Int))) => ob (s_Cur_one'p n 12 x2) fun (r3 : Bool × ((List Int) × (Int × Int))) => br r3.1 (ob (s_Cur_card'p n r3.2) fun (r4 : (V4 Int) × ((List Int) × (Int × Int))) => some r4.1) (ob (s_Cur_weight'p n r3.2) fun (r5 : (V4 Int) × ((List Int) × (Int × Int))) => some r5.1)

/-- s_IsWeight -/
noncomputable def s_IsWeight (n : Nat) (a1 : (V4 Int)) : Option (Bool) :=
  ob (s_l6Weight n a1) fun (r2 : Bool) => some r2

/-- i_span_1'pp_o -/
noncomputable def i_span_1'pp_o (n : Nat) (a1 : (V4 Int)) (a2 : (VL 81 Bool)) (a3 : (List (V4 Int))) : Option ((VL 81 Bool) × (List (V4 Int))) :=
  ob (i_number n a1) fun (r4 : Int) => ckb (inb r4 81) (br (! (VL.get false a2 r4.toNat)) (ob (i_number n a1) fun (r5 : Int) => ckb (inb r5 81) (lt (VL.set a2 r5.toNat true) fun (x6 : (VL 81 Bool)) => ckb (apok 32 (a3.length + 1)) (some (x6, (a3 ++ [a1]))))) (some (a2, a3)))

/-- i_span -/
noncomputable def i_span_L1 (n : Nat) (go7 : Int × (VL 81 Bool) × (List (V4 Int)) → Option ((List (V4 Int)))) (go9 : Int × Int × Int × (VL 81 Bool) × (List (V4 Int)) → Option ((List (V4 Int)))) (s10 : Int × Int × Int × (VL 81 Bool) × (List (V4 Int))) : Option ((List (V4 Int))) :=
  br (decide (s10.2.2.1 < s10.2.1)) (ckb (inb s10.2.2.1 s10.2.2.2.2.length) (ckb (inb s10.1 s10.2.2.2.2.length) (ob (i_third n (gl (⟨0, 0, 0, 0⟩ : (V4 Int)) s10.2.2.2.2 s10.2.2.1.toNat) (gl (⟨0, 0, 0, 0⟩ : (V4 Int)) s10.2.2.2.2 s10.1.toNat)) fun (r11 : (V4 Int)) => ob (i_span_1'pp_o n r11 s10.2.2.2.1 s10.2.2.2.2) fun (r12 : (VL 81 Bool) × (List (V4 Int))) => lt (w64 (s10.2.2.1 + 1)) fun (x13 : Int) => go9 (s10.1, s10.2.1, x13, r12.1, r12.2)))) (lt (w64 (s10.1 + 1)) fun (x14 : Int) => go7 (x14, s10.2.2.2.1, s10.2.2.2.2))
noncomputable def i_span_L2 (n : Nat) (go7 : Int × (VL 81 Bool) × (List (V4 Int)) → Option ((List (V4 Int)))) (s8 : Int × (VL 81 Bool) × (List (V4 Int))) : Option ((List (V4 Int))) :=
  br (decide (s8.1 < (s8.2.2.length : Int))) (fx (i_span_L1 n go7) n (s8.1, s8.1, 0, s8.2.1, s8.2.2)) (ob (i_sorted n s8.2.2) fun (r15 : (List (V4 Int))) => some r15)
noncomputable def i_span_L3 (n : Nat) (go3 : (List (V4 Int)) × Int × Int × (VL 81 Bool) × (List (V4 Int)) → Option ((List (V4 Int)))) (s4 : (List (V4 Int)) × Int × Int × (VL 81 Bool) × (List (V4 Int))) : Option ((List (V4 Int))) :=
  br (decide (s4.2.2.1 < s4.2.1)) (ckb (inb s4.2.2.1 s4.1.length) (ob (i_span_1'pp_o n (gl (⟨0, 0, 0, 0⟩ : (V4 Int)) s4.1 s4.2.2.1.toNat) s4.2.2.2.1 s4.2.2.2.2) fun (r5 : (VL 81 Bool) × (List (V4 Int))) => lt (w64 (s4.2.2.1 + 1)) fun (x6 : Int) => go3 (s4.1, s4.2.1, x6, r5.1, r5.2))) (fx (i_span_L2 n) n (0, s4.2.2.2.1, s4.2.2.2.2))
noncomputable def i_span (n : Nat) (a1 : (List (V4 Int))) : Option ((List (V4 Int))) :=
  lt (VL.rep 81 false) fun (x2 : (VL 81 Bool)) => fx (i_span_L3 n) n (a1, (a1.length : Int), 0, x2, ([] : List (V4 Int)))

/-- i_DimensionOf -/
noncomputable def i_DimensionOf_L1 (n : Nat) (go4 : Int × Int → Option (Int × Bool)) (s5 : Int × Int) : Option (Int × Bool) :=
  br (decide (0 < s5.2)) (lt (w64 (s5.1 + 1)) fun (x6 : Int) => lt (w64 (Int.tdiv s5.2 3)) fun (x7 : Int) => go4 (x6, x7)) (some (s5.1, true))
noncomputable def i_DimensionOf (n : Nat) (a1 : (List (V4 Int))) : Option (Int × Bool) :=
  ob (i_IsHand n a1) fun (r2 : Bool) => br (! r2) (some (0, false)) (ob (i_span n a1) fun (r3 : (List (V4 Int))) => fx (i_DimensionOf_L1 n) n ((-1), (r3.length : Int)))

/-- v_FnSpaces -/
noncomputable def v_FnSpaces_L1 (n : Nat) (go40 : Int × Int × Int × (List (V4 Int)) → Option (Bool)) (s41 : Int × Int × Int × (List (V4 Int))) : Option (Bool) :=
  br (decide (s41.2.2.1 < s41.1)) (lt (w64 (s41.2.1 - 1)) fun (x42 : Int) => lt (w64 (Int.tdiv x42 3)) fun (x43 : Int) => lt (w64 (s41.2.2.1 + 1)) fun (x44 : Int) => go40 (s41.1, x43, x44, s41.2.2.2)) (some (decide ((s41.2.2.2.length : Int) = s41.2.1)))
noncomputable def v_FnSpaces_J2 (n : Nat) (s34 : Int × Int × Bool × (List (V4 Int)) × (V4 Int) × (List (V4 Int))) : Option (Bool) :=
  br (! s34.2.2.1) (some true) (ob (i_SplitBy n s34.2.2.2.1 s34.2.2.2.2.1) fun (r35 : (V3 Int) × Bool) => ob (i_DimensionOf n s34.2.2.2.1) fun (r36 : Int × Bool) => ob (br (! r35.2) (some true) (some (! r36.2))) fun (x37 : Bool) => ob (br x37 (some true) (ckb (inb s34.2.1 3) (some (!decide ((V3.get r35.1 s34.2.1.toNat) = s34.1))))) fun (x38 : Bool) => ob (br x38 (some true) (some (! ((decide (0 < (s34.2.2.2.2.2.length : Int))) == (decide (s34.1 = (s34.2.2.2.1.length : Int))))))) fun (x39 : Bool) => br x39 (some false) (fx (v_FnSpaces_L1 n) n (r36.1, 40, 0, s34.2.2.2.2.2)))
noncomputable def v_FnSpaces_L3 (n : Nat) (go45 : Int × Int × Bool × Int × (List (V4 Int)) × (V3 Int) × (V4 Int) × (List (V4 Int)) → Option (Bool)) (s46 : Int × Int × Bool × Int × (List (V4 Int)) × (V3 Int) × (V4 Int) × (List (V4 Int))) : Option (Bool) :=
  br (decide (s46.2.2.2.1 < 3)) (ckb (inb s46.2.2.2.1 3) (br (decide (s46.1 < (V3.get s46.2.2.2.2.2.1 s46.2.2.2.1.toNat))) (some false) (lt (w64 (s46.2.2.2.1 + 1)) fun (x47 : Int) => go45 (s46.1, s46.2.1, s46.2.2.1, x47, s46.2.2.2.2.1, s46.2.2.2.2.2.1, s46.2.2.2.2.2.2.1, s46.2.2.2.2.2.2.2)))) (v_FnSpaces_J2 n (s46.1, s46.2.1, s46.2.2.1, s46.2.2.2.2.1, s46.2.2.2.2.2.2.1, s46.2.2.2.2.2.2.2))
noncomputable def v_FnSpaces (n : Nat) (a1 : (List Int)) : Option (Bool) :=
  ob (v_rBig n a1) fun (r2 : Bool) => br r2 (some true) (ob (s_DrawSplitBy n a1) fun (r3 : (V4 Int) × (List (V4 Int))) => ob (i_SplitBy n r3.2 r3.1) fun (r4 : (V3 Int) × Bool) => ob (s_SplitBy n r3.2 r3.1) fun (r5 : (V3 Int) × Bool) => ob (br (!eqd r4.1 r5.1) (some true) (some (! (r4.2 == r5.2)))) fun (x6 : Bool) => ob (br x6 (some true) (ob (br r4.2 (lt (w64 (r4.1.x0 + r4.1.x1)) fun (x7 : Int) => lt (w64 (x7 + r4.1.x2)) fun (x8 : Int) => some (!decide (x8 = (r3.2.length : Int)))) (some false)) fun (x9 : Bool) => some x9)) fun (x10 : Bool) => br x10 (some false) (ob (i_MostInSpace n r3.2) fun (r11 : Int × (V4 Int) × Int × Bool) => ob (s_MostInSpace n r3.2) fun (r12 : Int × (V4 Int) × Int × Bool) => ob (br (!decide (r11.1 = r12.1)) (some true) (some (!eqd r11.2.1 r12.2.1))) fun (x13 : Bool) => ob (br x13 (some true) (some (!decide (r11.2.2.1 = r12.2.2.1)))) fun (x14 : Bool) => ob (br x14 (some true) (some (! (r11.2.2.2 == r12.2.2.2)))) fun (x15 : Bool) => ob (br x15 (some true) (ob (br r4.2 (some (! r11.2.2.2)) (some false)) fun (x16 : Bool) => some x16)) fun (x17 : Bool) => br x17 (some false) (ob (i_SpacesWith n r3.2) fun (r18 : Bool × (List (V4 Int))) => ob (s_SpacesWith n r3.2) fun (r19 : Bool × (List (V4 Int))) => ob (br (! (r18.1 == r19.1)) (some true) (some (! (r18.1 == r11.2.2.2)))) fun (x20 : Bool) => ob (br x20 (some true) (ob (v_rHand n r18.2 r19.2) fun (r21 : Bool) => some (! r21))) fun (x22 : Bool) => br x22 (some false) (ob (s_DrawValueBy n a1) fun (r23 : (V4 Int) × (V4 Int)) => ob (i_ValueBy n r23.1 r23.2) fun (r24 : Int × Bool) => ob (s_ValueBy n r23.1 r23.2) fun (r25 : Int × Bool) => ob (br (!decide (r24.1 = r25.1)) (some true) (some (! (r24.2 == r25.2)))) fun (x26 : Bool) => ob (br x26 (some true) (ob (i_IsCard n r23.1) fun (r27 : Bool) => ob (br r27 (ob (i_IsWeight n r23.2) fun (r28 : Bool) => some r28) (some false)) fun (x29 : Bool) => some (! (r24.2 == x29)))) fun (x30 : Bool) => br x30 (some false) (ob (s_DrawIsWeight n a1) fun (r31 : (V4 Int)) => ob (i_IsWeight n r31) fun (r32 : Bool) => ob (s_IsWeight n r31) fun (r33 : Bool) => br (! (r32 == r33)) (some false) (br r4.2 (fx (v_FnSpaces_L3 n) n (r11.1, r11.2.2.1, r11.2.2.2, 0, r3.2, r4.1, r11.2.1, r18.2)) (v_FnSpaces_J2 n (r11.1, r11.2.2.1, r11.2.2.2, r3.2, r11.2.1, r18.2))))))))

end Go.Pl
