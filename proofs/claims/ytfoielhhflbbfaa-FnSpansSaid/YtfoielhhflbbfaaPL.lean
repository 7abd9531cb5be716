/- Printed by a program of the session: the program's functions as plain functions. -/
import Derived.Test.YtfoielhhflbbfaaZ0
import Derived.Lib.Bytealg
namespace Go.Pl
open Go Go.Tv Go.RowKit
set_option linter.unusedVariables false
def bls (a b : ByteArray) : Bool := Op.bytesLess a.toList b.toList
/-- s_l1In -/
noncomputable def s_l1In (n : Nat) (a1 : Int) (a2 : Int) (a3 : Int) : Option (Bool) :=
  ob (br (decide (a2 ≤ a1)) (some (decide (a1 ≤ a3))) (some false)) fun (x4 : Bool) => some x4

/-- s_l2Card -/
noncomputable def s_l2Card_L1 (n : Nat) (go2 : Int × (V4 Int) → Option (Bool)) (s3 : Int × (V4 Int)) : Option (Bool) :=
  br (decide (s3.1 < 4)) (ckb (inb s3.1 4) (ob (s_l1In n (V4.get s3.2 s3.1.toNat) 0 2) fun (r4 : Bool) => br (! r4) (some false) (lt (w64 (s3.1 + 1)) fun (x5 : Int) => go2 (x5, s3.2)))) (some true)
noncomputable def s_l2Card (n : Nat) (a1 : (V4 Int)) : Option (Bool) :=
  fx (s_l2Card_L1 n) n (0, a1)

/-- i_within -/
noncomputable def i_within (n : Nat) (a1 : Int) (a2 : Int) (a3 : Int) : Option (Bool) :=
  ob (br (decide (a2 ≤ a1)) (some (decide (a1 ≤ a3))) (some false)) fun (x4 : Bool) => some x4

/-- i_allWithin_1'pp -/
noncomputable def i_allWithin_1'pp (n : Nat) (a1 : Int) (a2 : Int) (a3 : Int) : Option (Bool × Int × Int) :=
  ob (i_within n a1 a2 a3) fun (r4 : Bool) => some ((! r4), a2, a3)

/-- slices_IndexFunc_Sint_int_'l_i_allWithin_1pp -/
noncomputable def slices_IndexFunc_Sint_int_'l_i_allWithin_1pp_L1 (n : Nat) (go4 : (List Int) × Int × Int × Int × Int → Option (Int × Int × Int)) (s5 : (List Int) × Int × Int × Int × Int) : Option (Int × Int × Int) :=
  br (decide (s5.2.2.1 < s5.2.1)) (ckb (inb s5.2.2.1 s5.1.length) (ob (i_allWithin_1'pp n (gl 0 s5.1 s5.2.2.1.toNat) s5.2.2.2.1 s5.2.2.2.2) fun (r6 : Bool × Int × Int) => br r6.1 (some (s5.2.2.1, r6.2.1, r6.2.2)) (lt (w64 (s5.2.2.1 + 1)) fun (x7 : Int) => go4 (s5.1, s5.2.1, x7, r6.2.1, r6.2.2)))) (some ((-1), s5.2.2.2.1, s5.2.2.2.2))
noncomputable def slices_IndexFunc_Sint_int_'l_i_allWithin_1pp (n : Nat) (a1 : (List Int)) (a2 : Int) (a3 : Int) : Option (Int × Int × Int) :=
  fx (slices_IndexFunc_Sint_int_'l_i_allWithin_1pp_L1 n) n (a1, (a1.length : Int), 0, a2, a3)

/-- slices_ContainsFunc_Sint_int_'l_i_allWithin_1pp -/
noncomputable def slices_ContainsFunc_Sint_int_'l_i_allWithin_1pp (n : Nat) (a1 : (List Int)) (a2 : Int) (a3 : Int) : Option (Bool × Int × Int) :=
  ob (slices_IndexFunc_Sint_int_'l_i_allWithin_1pp n a1 a2 a3) fun (r4 : Int × Int × Int) => some ((decide (0 ≤ r4.1)), r4.2.1, r4.2.2)

/-- i_allWithin -/
noncomputable def i_allWithin (n : Nat) (a1 : (List Int)) (a2 : Int) (a3 : Int) : Option (Bool) :=
  ob (slices_ContainsFunc_Sint_int_'l_i_allWithin_1pp n a1 a2 a3) fun (r4 : Bool × Int × Int) => some (! r4.1)

/-- i_IsCard -/
noncomputable def i_IsCard (n : Nat) (a1 : (V4 Int)) : Option (Bool) :=
  ob (i_allWithin n (V4.els a1) 0 2) fun (r2 : Bool) => some r2

/-- slices_Clone_SA4_A4_ -/
noncomputable def slices_Clone_SA4_A4_ (n : Nat) (a1 : (List (V4 Int))) : Option ((List (V4 Int))) :=
  amb a1.isEmpty fun (b2 : Bool) => br b2 (some ([] : List (V4 Int))) (ckb (apok 32 (0 + a1.length)) (some a1))

/-- math_bits_Len64 -/
noncomputable def math_bits_Len64_J1 (n : Nat) (s4 : Int × Int) : Option (Int) :=
  lt (IntKind.wrap .u8 s4.1) fun (x5 : Int) => ckb (inb x5 256) (lt (w64 (sb (⟨((List.append (List.append (0 :: 1 :: 2 :: 2 :: 3 :: 3 :: 3 :: 3 :: 4 :: 4 :: 4 :: 4 :: 4 :: 4 :: 4 :: 4 :: 5 :: 5 :: 5 :: 5 :: 5 :: 5 :: 5 :: 5 :: 5 :: 5 :: 5 :: 5 :: 5 :: 5 :: 5 :: 5 :: 6 :: 6 :: 6 :: 6 :: 6 :: 6 :: 6 :: 6 :: 6 :: 6 :: 6 :: 6 :: 6 :: 6 :: 6 :: 6 :: 6 :: 6 :: 6 :: 6 :: 6 :: 6 :: 6 :: 6 :: 6 :: 6 :: 6 :: 6 :: 6 :: 6 :: 6 :: 6 :: []) (7 :: 7 :: 7 :: 7 :: 7 :: 7 :: 7 :: 7 :: 7 :: 7 :: 7 :: 7 :: 7 :: 7 :: 7 :: 7 :: 7 :: 7 :: 7 :: 7 :: 7 :: 7 :: 7 :: 7 :: 7 :: 7 :: 7 :: 7 :: 7 :: 7 :: 7 :: 7 :: 7 :: 7 :: 7 :: 7 :: 7 :: 7 :: 7 :: 7 :: 7 :: 7 :: 7 :: 7 :: 7 :: 7 :: 7 :: 7 :: 7 :: 7 :: 7 :: 7 :: 7 :: 7 :: 7 :: 7 :: 7 :: 7 :: 7 :: 7 :: 7 :: 7 :: 7 :: 7 :: [])) (List.append (8 :: 8 :: 8 :: 8 :: 8 :: 8 :: 8 :: 8 :: 8 :: 8 :: 8 :: 8 :: 8 :: 8 :: 8 :: 8 :: 8 :: 8 :: 8 :: 8 :: 8 :: 8 :: 8 :: 8 :: 8 :: 8 :: 8 :: 8 :: 8 :: 8 :: 8 :: 8 :: 8 :: 8 :: 8 :: 8 :: 8 :: 8 :: 8 :: 8 :: 8 :: 8 :: 8 :: 8 :: 8 :: 8 :: 8 :: 8 :: 8 :: 8 :: 8 :: 8 :: 8 :: 8 :: 8 :: 8 :: 8 :: 8 :: 8 :: 8 :: 8 :: 8 :: 8 :: 8 :: []) (8 :: 8 :: 8 :: 8 :: 8 :: 8 :: 8 :: 8 :: 8 :: 8 :: 8 :: 8 :: 8 :: 8 :: 8 :: 8 :: 8 :: 8 :: 8 :: 8 :: 8 :: 8 :: 8 :: 8 :: 8 :: 8 :: 8 :: 8 :: 8 :: 8 :: 8 :: 8 :: 8 :: 8 :: 8 :: 8 :: 8 :: 8 :: 8 :: 8 :: 8 :: 8 :: 8 :: 8 :: 8 :: 8 :: 8 :: 8 :: 8 :: 8 :: 8 :: 8 :: 8 :: 8 :: 8 :: 8 :: 8 :: 8 :: 8 :: 8 :: 8 :: 8 :: 8 :: 8 :: [])))).toArray⟩ : ByteArray) x5.toNat)) fun (x6 : Int) => lt (w64 (s4.2 + x6)) fun (x7 : Int) => some x7)
noncomputable def math_bits_Len64_J2 (n : Nat) (s3 : Int × Int) : Option (Int) :=
  br (decide (256 ≤ s3.1)) (lt (shrI .u64 s3.1 8) fun (x8 : Int) => lt (w64 (s3.2 + 8)) fun (x9 : Int) => math_bits_Len64_J1 n (x8, x9)) (math_bits_Len64_J1 n (s3.1, s3.2))
noncomputable def math_bits_Len64_J3 (n : Nat) (s2 : Int × Int) : Option (Int) :=
  br (decide (65536 ≤ s2.1)) (lt (shrI .u64 s2.1 16) fun (x10 : Int) => lt (w64 (s2.2 + 16)) fun (x11 : Int) => math_bits_Len64_J2 n (x10, x11)) (math_bits_Len64_J2 n (s2.1, s2.2))
noncomputable def math_bits_Len64 (n : Nat) (a1 : Int) : Option (Int) :=
  br (decide (4294967296 ≤ a1)) (lt (shrI .u64 a1 32) fun (x12 : Int) => math_bits_Len64_J3 n (x12, 32)) (math_bits_Len64_J3 n (a1, 0))

/-- math_bits_Len -/
noncomputable def math_bits_Len (n : Nat) (a1 : Int) : Option (Int) :=
  ob (math_bits_Len64 n a1) fun (r2 : Int) => some r2

/-- i_number -/
noncomputable def i_number_L1 (n : Nat) (go2 : Int × (V4 Int) × Int → Option (Int)) (s3 : Int × (V4 Int) × Int) : Option (Int) :=
  br (decide (s3.2.2 < 4)) (ckb (inb s3.2.2 4) (lt (w64 (3 * s3.1)) fun (x4 : Int) => lt (w64 (x4 + (V4.get s3.2.1 s3.2.2.toNat))) fun (x5 : Int) => lt (w64 (s3.2.2 + 1)) fun (x6 : Int) => go2 (x5, s3.2.1, x6))) (some s3.1)
noncomputable def i_number (n : Nat) (a1 : (V4 Int)) : Option (Int) :=
  fx (i_number_L1 n) n (0, a1, 0)

/-- i_compareCards -/
noncomputable def i_compareCards (n : Nat) (a1 : (V4 Int)) (a2 : (V4 Int)) : Option (Int) :=
  ob (i_number n a1) fun (r3 : Int) => ob (i_number n a2) fun (r4 : Int) => lt (w64 (r3 - r4)) fun (x5 : Int) => some x5

/-- slices_nextPowerOfTwo -/
noncomputable def slices_nextPowerOfTwo (n : Nat) (a1 : Int) : Option (Int) :=
  lt (IntKind.wrap .u64 a1) fun (x2 : Int) => ob (math_bits_Len n x2) fun (r3 : Int) => ckb (nneg r3) (lt (shlI .u64 1 r3) fun (x4 : Int) => some x4)

/-- __slices_xorshift__Next'p -/
noncomputable def __slices_xorshift__Next'p (n : Nat) (a1 : Int) : Option (Int × Int) :=
  lt (shlI .u64 a1 13) fun (x2 : Int) => lt (bits .xor .u64 a1 x2) fun (x3 : Int) => lt (shrI .u64 x3 7) fun (x4 : Int) => lt (bits .xor .u64 x3 x4) fun (x5 : Int) => lt (shlI .u64 x5 17) fun (x6 : Int) => lt (bits .xor .u64 x5 x6) fun (x7 : Int) => some (x7, x7)

/-- slices_order2CmpFunc_A4_'lp_i_compareCards -/
noncomputable def slices_order2CmpFunc_A4_'lp_i_compareCards (n : Nat) (a1 : (List (V4 Int))) (a2 : Int) (a3 : Int) (a4 : Int) : Option (Int × Int × Int) :=
  ckb (inb a3 a1.length) (ckb (inb a2 a1.length) (ob (i_compareCards n (gl (⟨0, 0, 0, 0⟩ : (V4 Int)) a1 a3.toNat) (gl (⟨0, 0, 0, 0⟩ : (V4 Int)) a1 a2.toNat)) fun (r5 : Int) => br (decide (r5 < 0)) (lt (w64 (a4 + 1)) fun (x6 : Int) => some (a3, a2, x6)) (some (a2, a3, a4))))

/-- slices_medianCmpFunc_A4_'lp_i_compareCards -/
noncomputable def slices_medianCmpFunc_A4_'lp_i_compareCards (n : Nat) (a1 : (List (V4 Int))) (a2 : Int) (a3 : Int) (a4 : Int) (a5 : Int) : Option (Int × Int) :=
  ob (slices_order2CmpFunc_A4_'lp_i_compareCards n a1 a2 a3 a5) fun (r6 : Int × Int × Int) => ob (slices_order2CmpFunc_A4_'lp_i_compareCards n a1 r6.2.1 a4 r6.2.2) fun (r7 : Int × Int × Int) => ob (slices_order2CmpFunc_A4_'lp_i_compareCards n a1 r6.1 r7.1 r7.2.2) fun (r8 : Int × Int × Int) => some (r8.2.1, r8.2.2)

/-- slices_medianAdjacentCmpFunc_A4_'lp_i_compareCards -/
noncomputable def slices_medianAdjacentCmpFunc_A4_'lp_i_compareCards (n : Nat) (a1 : (List (V4 Int))) (a2 : Int) (a3 : Int) : Option (Int × Int) :=
  lt (w64 (a2 - 1)) fun (x4 : Int) => lt (w64 (a2 + 1)) fun (x5 : Int) => ob (slices_medianCmpFunc_A4_'lp_i_compareCards n a1 x4 a2 x5 a3) fun (r6 : Int × Int) => some (r6.1, r6.2)

/-- slices_choosePivotCmpFunc_A4_'l_i_compareCards -/
noncomputable def slices_choosePivotCmpFunc_A4_'l_i_compareCards_J1 (n : Nat) (s14 : Int × Int) : Option (Int × Int) :=
  br (decide (s14.2 = 0)) (some (s14.1, 1)) (br (decide (s14.2 = 12)) (some (s14.1, 2)) (some (s14.1, 0)))
noncomputable def slices_choosePivotCmpFunc_A4_'l_i_compareCards_J2 (n : Nat) (s15 : (List (V4 Int)) × Int × Int × Int × Int) : Option (Int × Int) :=
  ob (slices_medianCmpFunc_A4_'lp_i_compareCards n s15.1 s15.2.1 s15.2.2.1 s15.2.2.2.1 s15.2.2.2.2) fun (r16 : Int × Int) => slices_choosePivotCmpFunc_A4_'l_i_compareCards_J1 n (r16.1, r16.2)
noncomputable def slices_choosePivotCmpFunc_A4_'l_i_compareCards (n : Nat) (a1 : (List (V4 Int))) (a2 : Int) (a3 : Int) : Option (Int × Int) :=
  lt (w64 (a3 - a2)) fun (x4 : Int) => lt (w64 (Int.tdiv x4 4)) fun (x5 : Int) => lt (w64 (x5 * 1)) fun (x6 : Int) => lt (w64 (a2 + x6)) fun (x7 : Int) => lt (w64 (Int.tdiv x4 4)) fun (x8 : Int) => lt (w64 (x8 * 2)) fun (x9 : Int) => lt (w64 (a2 + x9)) fun (x10 : Int) => lt (w64 (Int.tdiv x4 4)) fun (x11 : Int) => lt (w64 (x11 * 3)) fun (x12 : Int) => lt (w64 (a2 + x12)) fun (x13 : Int) => br (decide (8 ≤ x4)) (br (decide (50 ≤ x4)) (ob (slices_medianAdjacentCmpFunc_A4_'lp_i_compareCards n a1 x7 0) fun (r17 : Int × Int) => ob (slices_medianAdjacentCmpFunc_A4_'lp_i_compareCards n a1 x10 r17.2) fun (r18 : Int × Int) => ob (slices_medianAdjacentCmpFunc_A4_'lp_i_compareCards n a1 x13 r18.2) fun (r19 : Int × Int) => slices_choosePivotCmpFunc_A4_'l_i_compareCards_J2 n (a1, r17.1, r18.1, r19.1, r19.2)) (slices_choosePivotCmpFunc_A4_'l_i_compareCards_J2 n (a1, x7, x10, x13, 0))) (slices_choosePivotCmpFunc_A4_'l_i_compareCards_J1 n (x10, 0))

/-- slices_insertionSortCmpFunc_A4_'o_i_compareCards -/
noncomputable def slices_insertionSortCmpFunc_A4_'o_i_compareCards_L1 (n : Nat) (go5 : Int × Int × Int × (List (V4 Int)) → Option ((List (V4 Int)))) (go7 : Int × Int × Int × Int × (List (V4 Int)) → Option ((List (V4 Int)))) (s8 : Int × Int × Int × Int × (List (V4 Int))) : Option ((List (V4 Int))) :=
  ob (br (decide (s8.1 < s8.2.2.2.1)) (ckb (inb s8.2.2.2.1 s8.2.2.2.2.length) (lt (w64 (s8.2.2.2.1 - 1)) fun (x9 : Int) => ckb (inb x9 s8.2.2.2.2.length) (ob (i_compareCards n (gl (⟨0, 0, 0, 0⟩ : (V4 Int)) s8.2.2.2.2 s8.2.2.2.1.toNat) (gl (⟨0, 0, 0, 0⟩ : (V4 Int)) s8.2.2.2.2 x9.toNat)) fun (r10 : Int) => some (decide (r10 < 0))))) (some false)) fun (x11 : Bool) => br x11 (lt (w64 (s8.2.2.2.1 - 1)) fun (x12 : Int) => lt (w64 (s8.2.2.2.1 - 1)) fun (x13 : Int) => ckb (inb x13 s8.2.2.2.2.length) (ckb (inb s8.2.2.2.1 s8.2.2.2.2.length) (ckb (inb s8.2.2.2.1 s8.2.2.2.2.length) (lt (List.set s8.2.2.2.2 s8.2.2.2.1.toNat (gl (⟨0, 0, 0, 0⟩ : (V4 Int)) s8.2.2.2.2 x13.toNat)) fun (x14 : (List (V4 Int))) => ckb (inb x12 x14.length) (lt (List.set x14 x12.toNat (gl (⟨0, 0, 0, 0⟩ : (V4 Int)) s8.2.2.2.2 s8.2.2.2.1.toNat)) fun (x15 : (List (V4 Int))) => lt (w64 (s8.2.2.2.1 - 1)) fun (x16 : Int) => go7 (s8.1, s8.2.1, s8.2.2.1, x16, x15)))))) (lt (w64 (s8.2.2.1 + 1)) fun (x17 : Int) => go5 (s8.1, s8.2.1, x17, s8.2.2.2.2))
noncomputable def slices_insertionSortCmpFunc_A4_'o_i_compareCards_L2 (n : Nat) (go5 : Int × Int × Int × (List (V4 Int)) → Option ((List (V4 Int)))) (s6 : Int × Int × Int × (List (V4 Int))) : Option ((List (V4 Int))) :=
  br (decide (s6.2.2.1 < s6.2.1)) (fx (slices_insertionSortCmpFunc_A4_'o_i_compareCards_L1 n go5) n (s6.1, s6.2.1, s6.2.2.1, s6.2.2.1, s6.2.2.2)) (some s6.2.2.2)
noncomputable def slices_insertionSortCmpFunc_A4_'o_i_compareCards (n : Nat) (a1 : Int) (a2 : Int) (a3 : (List (V4 Int))) : Option ((List (V4 Int))) :=
  lt (w64 (a1 + 1)) fun (x4 : Int) => fx (slices_insertionSortCmpFunc_A4_'o_i_compareCards_L2 n) n (a1, a2, x4, a3)

/-- slices_siftDownCmpFunc_A4_'o_i_compareCards -/
noncomputable def slices_siftDownCmpFunc_A4_'o_i_compareCards_J1 (n : Nat) (go5 : Int × Int × Int × (List (V4 Int)) → Option ((List (V4 Int)))) (s9 : Int × Int × Int × Int × (List (V4 Int))) : Option ((List (V4 Int))) :=
  lt (w64 (s9.2.1 + s9.2.2.1)) fun (x10 : Int) => ckb (inb x10 s9.2.2.2.2.length) (lt (w64 (s9.2.1 + s9.2.2.2.1)) fun (x11 : Int) => ckb (inb x11 s9.2.2.2.2.length) (ob (i_compareCards n (gl (⟨0, 0, 0, 0⟩ : (V4 Int)) s9.2.2.2.2 x10.toNat) (gl (⟨0, 0, 0, 0⟩ : (V4 Int)) s9.2.2.2.2 x11.toNat)) fun (r12 : Int) => br (! (decide (r12 < 0))) (some s9.2.2.2.2) (lt (w64 (s9.2.1 + s9.2.2.1)) fun (x13 : Int) => lt (w64 (s9.2.1 + s9.2.2.2.1)) fun (x14 : Int) => lt (w64 (s9.2.1 + s9.2.2.2.1)) fun (x15 : Int) => ckb (inb x15 s9.2.2.2.2.length) (lt (w64 (s9.2.1 + s9.2.2.1)) fun (x16 : Int) => ckb (inb x16 s9.2.2.2.2.length) (ckb (inb x13 s9.2.2.2.2.length) (lt (List.set s9.2.2.2.2 x13.toNat (gl (⟨0, 0, 0, 0⟩ : (V4 Int)) s9.2.2.2.2 x15.toNat)) fun (x17 : (List (V4 Int))) => ckb (inb x14 x17.length) (lt (List.set x17 x14.toNat (gl (⟨0, 0, 0, 0⟩ : (V4 Int)) s9.2.2.2.2 x16.toNat)) fun (x18 : (List (V4 Int))) => go5 (s9.1, s9.2.1, s9.2.2.2.1, x18))))))))
noncomputable def slices_siftDownCmpFunc_A4_'o_i_compareCards_L2 (n : Nat) (go5 : Int × Int × Int × (List (V4 Int)) → Option ((List (V4 Int)))) (s6 : Int × Int × Int × (List (V4 Int))) : Option ((List (V4 Int))) :=
  lt (w64 (2 * s6.2.2.1)) fun (x7 : Int) => lt (w64 (x7 + 1)) fun (x8 : Int) => br (decide (s6.1 ≤ x8)) (some s6.2.2.2) (lt (w64 (x8 + 1)) fun (x19 : Int) => ob (br (decide (x19 < s6.1)) (lt (w64 (s6.2.1 + x8)) fun (x20 : Int) => ckb (inb x20 s6.2.2.2.length) (lt (w64 (s6.2.1 + x8)) fun (x21 : Int) => lt (w64 (x21 + 1)) fun (x22 : Int) => ckb (inb x22 s6.2.2.2.length) (ob (i_compareCards n (gl (⟨0, 0, 0, 0⟩ : (V4 Int)) s6.2.2.2 x20.toNat) (gl (⟨0, 0, 0, 0⟩ : (V4 Int)) s6.2.2.2 x22.toNat)) fun (r23 : Int) => some (decide (r23 < 0))))) (some false)) fun (x24 : Bool) => br x24 (lt (w64 (x8 + 1)) fun (x25 : Int) => slices_siftDownCmpFunc_A4_'o_i_compareCards_J1 n go5 (s6.1, s6.2.1, s6.2.2.1, x25, s6.2.2.2)) (slices_siftDownCmpFunc_A4_'o_i_compareCards_J1 n go5 (s6.1, s6.2.1, s6.2.2.1, x8, s6.2.2.2)))
noncomputable def slices_siftDownCmpFunc_A4_'o_i_compareCards (n : Nat) (a1 : Int) (a2 : Int) (a3 : Int) (a4 : (List (V4 Int))) : Option ((List (V4 Int))) :=
  fx (slices_siftDownCmpFunc_A4_'o_i_compareCards_L2 n) n (a2, a3, a1, a4)

/-- slices_heapSortCmpFunc_A4_'o_i_compareCards -/
noncomputable def slices_heapSortCmpFunc_A4_'o_i_compareCards_L1 (n : Nat) (go12 : Int × Int × Int × (List (V4 Int)) → Option ((List (V4 Int)))) (s13 : Int × Int × Int × (List (V4 Int))) : Option ((List (V4 Int))) :=
  br (decide (0 ≤ s13.2.2.1)) (lt (w64 (s13.1 + s13.2.2.1)) fun (x14 : Int) => lt (w64 (s13.1 + s13.2.2.1)) fun (x15 : Int) => ckb (inb x15 s13.2.2.2.length) (ckb (inb s13.1 s13.2.2.2.length) (ckb (inb s13.1 s13.2.2.2.length) (lt (List.set s13.2.2.2 s13.1.toNat (gl (⟨0, 0, 0, 0⟩ : (V4 Int)) s13.2.2.2 x15.toNat)) fun (x16 : (List (V4 Int))) => ckb (inb x14 x16.length) (lt (List.set x16 x14.toNat (gl (⟨0, 0, 0, 0⟩ : (V4 Int)) s13.2.2.2 s13.1.toNat)) fun (x17 : (List (V4 Int))) => ob (slices_siftDownCmpFunc_A4_'o_i_compareCards n s13.2.1 s13.2.2.1 s13.1 x17) fun (r18 : (List (V4 Int))) => lt (w64 (s13.2.2.1 - 1)) fun (x19 : Int) => go12 (s13.1, s13.2.1, x19, r18)))))) (some s13.2.2.2)
noncomputable def slices_heapSortCmpFunc_A4_'o_i_compareCards_L2 (n : Nat) (go7 : Int × Int × Int × Int × (List (V4 Int)) → Option ((List (V4 Int)))) (s8 : Int × Int × Int × Int × (List (V4 Int))) : Option ((List (V4 Int))) :=
  br (decide (0 ≤ s8.2.2.2.1)) (ob (slices_siftDownCmpFunc_A4_'o_i_compareCards n s8.2.2.2.1 s8.2.2.1 s8.1 s8.2.2.2.2) fun (r9 : (List (V4 Int))) => lt (w64 (s8.2.2.2.1 - 1)) fun (x10 : Int) => go7 (s8.1, s8.2.1, s8.2.2.1, x10, r9)) (lt (w64 (s8.2.2.1 - 1)) fun (x11 : Int) => fx (slices_heapSortCmpFunc_A4_'o_i_compareCards_L1 n) n (s8.1, s8.2.1, x11, s8.2.2.2.2))
noncomputable def slices_heapSortCmpFunc_A4_'o_i_compareCards (n : Nat) (a1 : Int) (a2 : Int) (a3 : (List (V4 Int))) : Option ((List (V4 Int))) :=
  lt (w64 (a2 - a1)) fun (x4 : Int) => lt (w64 (x4 - 1)) fun (x5 : Int) => lt (w64 (Int.tdiv x5 2)) fun (x6 : Int) => fx (slices_heapSortCmpFunc_A4_'o_i_compareCards_L2 n) n (a1, 0, x4, x6, a3)

/-- slices_breakPatternsCmpFunc_A4_'o_i_compareCards -/
noncomputable def slices_breakPatternsCmpFunc_A4_'o_i_compareCards_J1 (n : Nat) (go11 : Int × Int × Int × Int × (List (V4 Int)) × Int → Option ((List (V4 Int)))) (s21 : Int × Int × Int × Int × Int × (List (V4 Int)) × Int) : Option ((List (V4 Int))) :=
  lt (w64 (s21.1 + s21.2.2.2.2.1)) fun (x22 : Int) => lt (w64 (s21.1 + s21.2.2.2.2.1)) fun (x23 : Int) => ckb (inb x23 s21.2.2.2.2.2.1.length) (ckb (inb s21.2.2.2.1 s21.2.2.2.2.2.1.length) (ckb (inb s21.2.2.2.1 s21.2.2.2.2.2.1.length) (lt (List.set s21.2.2.2.2.2.1 s21.2.2.2.1.toNat (gl (⟨0, 0, 0, 0⟩ : (V4 Int)) s21.2.2.2.2.2.1 x23.toNat)) fun (x24 : (List (V4 Int))) => ckb (inb x22 x24.length) (lt (List.set x24 x22.toNat (gl (⟨0, 0, 0, 0⟩ : (V4 Int)) s21.2.2.2.2.2.1 s21.2.2.2.1.toNat)) fun (x25 : (List (V4 Int))) => lt (w64 (s21.2.2.2.1 + 1)) fun (x26 : Int) => go11 (s21.1, s21.2.1, s21.2.2.1, x26, x25, s21.2.2.2.2.2.2)))))
noncomputable def slices_breakPatternsCmpFunc_A4_'o_i_compareCards_L2 (n : Nat) (go11 : Int × Int × Int × Int × (List (V4 Int)) × Int → Option ((List (V4 Int)))) (s12 : Int × Int × Int × Int × (List (V4 Int)) × Int) : Option ((List (V4 Int))) :=
  lt (w64 (Int.tdiv s12.2.1 4)) fun (x13 : Int) => lt (w64 (x13 * 2)) fun (x14 : Int) => lt (w64 (s12.1 + x14)) fun (x15 : Int) => lt (w64 (x15 + 1)) fun (x16 : Int) => br (decide (s12.2.2.2.1 ≤ x16)) (ob (__slices_xorshift__Next'p n s12.2.2.2.2.2) fun (r17 : Int × Int) => lt (IntKind.wrap .u64 (s12.2.2.1 - 1)) fun (x18 : Int) => lt (bits .and .u64 r17.1 x18) fun (x19 : Int) => lt (w64 x19) fun (x20 : Int) => br (decide (s12.2.1 ≤ x20)) (lt (w64 (x20 - s12.2.1)) fun (x27 : Int) => slices_breakPatternsCmpFunc_A4_'o_i_compareCards_J1 n go11 (s12.1, s12.2.1, s12.2.2.1, s12.2.2.2.1, x27, s12.2.2.2.2.1, r17.2)) (slices_breakPatternsCmpFunc_A4_'o_i_compareCards_J1 n go11 (s12.1, s12.2.1, s12.2.2.1, s12.2.2.2.1, x20, s12.2.2.2.2.1, r17.2))) (some s12.2.2.2.2.1)
noncomputable def slices_breakPatternsCmpFunc_A4_'o_i_compareCards (n : Nat) (a1 : Int) (a2 : Int) (a3 : (List (V4 Int))) : Option ((List (V4 Int))) :=
  lt (w64 (a2 - a1)) fun (x4 : Int) => br (decide (8 ≤ x4)) (lt (IntKind.wrap .u64 x4) fun (x5 : Int) => ob (slices_nextPowerOfTwo n x4) fun (r6 : Int) => lt (w64 (Int.tdiv x4 4)) fun (x7 : Int) => lt (w64 (x7 * 2)) fun (x8 : Int) => lt (w64 (a1 + x8)) fun (x9 : Int) => lt (w64 (x9 - 1)) fun (x10 : Int) => fx (slices_breakPatternsCmpFunc_A4_'o_i_compareCards_L2 n) n (a1, x4, r6, x10, a3, x5)) (some a3)

/-- slices_reverseRangeCmpFunc_A4_'o_i_compareCards -/
noncomputable def slices_reverseRangeCmpFunc_A4_'o_i_compareCards_L1 (n : Nat) (go5 : Int × Int × (List (V4 Int)) → Option ((List (V4 Int)))) (s6 : Int × Int × (List (V4 Int))) : Option ((List (V4 Int))) :=
  br (decide (s6.1 < s6.2.1)) (ckb (inb s6.2.1 s6.2.2.length) (ckb (inb s6.1 s6.2.2.length) (ckb (inb s6.1 s6.2.2.length) (lt (List.set s6.2.2 s6.1.toNat (gl (⟨0, 0, 0, 0⟩ : (V4 Int)) s6.2.2 s6.2.1.toNat)) fun (x7 : (List (V4 Int))) => ckb (inb s6.2.1 x7.length) (lt (List.set x7 s6.2.1.toNat (gl (⟨0, 0, 0, 0⟩ : (V4 Int)) s6.2.2 s6.1.toNat)) fun (x8 : (List (V4 Int))) => lt (w64 (s6.1 + 1)) fun (x9 : Int) => lt (w64 (s6.2.1 - 1)) fun (x10 : Int) => go5 (x9, x10, x8)))))) (some s6.2.2)
noncomputable def slices_reverseRangeCmpFunc_A4_'o_i_compareCards (n : Nat) (a1 : Int) (a2 : Int) (a3 : (List (V4 Int))) : Option ((List (V4 Int))) :=
  lt (w64 (a2 - 1)) fun (x4 : Int) => fx (slices_reverseRangeCmpFunc_A4_'o_i_compareCards_L1 n) n (a1, x4, a3)

/-- slices_partialInsertionSortCmpFunc_A4_'o_i_compareCards -/
noncomputable def slices_partialInsertionSortCmpFunc_A4_'o_i_compareCards_L1 (n : Nat) (go5 : Int × Int × Int × Int × (List (V4 Int)) → Option (Bool × (List (V4 Int)))) (go21 : Int × Int × Int × Int × Int × (List (V4 Int)) → Option (Bool × (List (V4 Int)))) (s22 : Int × Int × Int × Int × Int × (List (V4 Int))) : Option (Bool × (List (V4 Int))) :=
  br (decide (s22.2.2.2.2.1 < s22.2.1)) (ckb (inb s22.2.2.2.2.1 s22.2.2.2.2.2.length) (lt (w64 (s22.2.2.2.2.1 - 1)) fun (x23 : Int) => ckb (inb x23 s22.2.2.2.2.2.length) (ob (i_compareCards n (gl (⟨0, 0, 0, 0⟩ : (V4 Int)) s22.2.2.2.2.2 s22.2.2.2.2.1.toNat) (gl (⟨0, 0, 0, 0⟩ : (V4 Int)) s22.2.2.2.2.2 x23.toNat)) fun (r24 : Int) => br (! (decide (r24 < 0))) (lt (w64 (s22.2.2.2.1 + 1)) fun (x25 : Int) => go5 (s22.1, s22.2.1, s22.2.2.1, x25, s22.2.2.2.2.2)) (lt (w64 (s22.2.2.2.2.1 - 1)) fun (x26 : Int) => lt (w64 (s22.2.2.2.2.1 - 1)) fun (x27 : Int) => ckb (inb x27 s22.2.2.2.2.2.length) (ckb (inb s22.2.2.2.2.1 s22.2.2.2.2.2.length) (ckb (inb s22.2.2.2.2.1 s22.2.2.2.2.2.length) (lt (List.set s22.2.2.2.2.2 s22.2.2.2.2.1.toNat (gl (⟨0, 0, 0, 0⟩ : (V4 Int)) s22.2.2.2.2.2 x27.toNat)) fun (x28 : (List (V4 Int))) => ckb (inb x26 x28.length) (lt (List.set x28 x26.toNat (gl (⟨0, 0, 0, 0⟩ : (V4 Int)) s22.2.2.2.2.2 s22.2.2.2.2.1.toNat)) fun (x29 : (List (V4 Int))) => lt (w64 (s22.2.2.2.2.1 + 1)) fun (x30 : Int) => go21 (s22.1, s22.2.1, s22.2.2.1, s22.2.2.2.1, x30, x29))))))))) (lt (w64 (s22.2.2.2.1 + 1)) fun (x31 : Int) => go5 (s22.1, s22.2.1, s22.2.2.1, x31, s22.2.2.2.2.2))
noncomputable def slices_partialInsertionSortCmpFunc_A4_'o_i_compareCards_J2 (n : Nat) (go5 : Int × Int × Int × Int × (List (V4 Int)) → Option (Bool × (List (V4 Int)))) (s18 : Int × Int × Int × Int × (List (V4 Int))) : Option (Bool × (List (V4 Int))) :=
  lt (w64 (s18.2.1 - s18.2.2.1)) fun (x19 : Int) => br (decide (2 ≤ x19)) (lt (w64 (s18.2.2.1 + 1)) fun (x20 : Int) => fx (slices_partialInsertionSortCmpFunc_A4_'o_i_compareCards_L1 n go5) n (s18.1, s18.2.1, s18.2.2.1, s18.2.2.2.1, x20, s18.2.2.2.2)) (lt (w64 (s18.2.2.2.1 + 1)) fun (x32 : Int) => go5 (s18.1, s18.2.1, s18.2.2.1, x32, s18.2.2.2.2))
noncomputable def slices_partialInsertionSortCmpFunc_A4_'o_i_compareCards_L3 (n : Nat) (go5 : Int × Int × Int × Int × (List (V4 Int)) → Option (Bool × (List (V4 Int)))) (go35 : Int × Int × Int × Int × Int × (List (V4 Int)) → Option (Bool × (List (V4 Int)))) (s36 : Int × Int × Int × Int × Int × (List (V4 Int))) : Option (Bool × (List (V4 Int))) :=
  br (decide (1 ≤ s36.2.2.2.2.1)) (ckb (inb s36.2.2.2.2.1 s36.2.2.2.2.2.length) (lt (w64 (s36.2.2.2.2.1 - 1)) fun (x37 : Int) => ckb (inb x37 s36.2.2.2.2.2.length) (ob (i_compareCards n (gl (⟨0, 0, 0, 0⟩ : (V4 Int)) s36.2.2.2.2.2 s36.2.2.2.2.1.toNat) (gl (⟨0, 0, 0, 0⟩ : (V4 Int)) s36.2.2.2.2.2 x37.toNat)) fun (r38 : Int) => br (! (decide (r38 < 0))) (slices_partialInsertionSortCmpFunc_A4_'o_i_compareCards_J2 n go5 (s36.1, s36.2.1, s36.2.2.1, s36.2.2.2.1, s36.2.2.2.2.2)) (lt (w64 (s36.2.2.2.2.1 - 1)) fun (x39 : Int) => lt (w64 (s36.2.2.2.2.1 - 1)) fun (x40 : Int) => ckb (inb x40 s36.2.2.2.2.2.length) (ckb (inb s36.2.2.2.2.1 s36.2.2.2.2.2.length) (ckb (inb s36.2.2.2.2.1 s36.2.2.2.2.2.length) (lt (List.set s36.2.2.2.2.2 s36.2.2.2.2.1.toNat (gl (⟨0, 0, 0, 0⟩ : (V4 Int)) s36.2.2.2.2.2 x40.toNat)) fun (x41 : (List (V4 Int))) => ckb (inb x39 x41.length) (lt (List.set x41 x39.toNat (gl (⟨0, 0, 0, 0⟩ : (V4 Int)) s36.2.2.2.2.2 s36.2.2.2.2.1.toNat)) fun (x42 : (List (V4 Int))) => lt (w64 (s36.2.2.2.2.1 - 1)) fun (x43 : Int) => go35 (s36.1, s36.2.1, s36.2.2.1, s36.2.2.2.1, x43, x42))))))))) (slices_partialInsertionSortCmpFunc_A4_'o_i_compareCards_J2 n go5 (s36.1, s36.2.1, s36.2.2.1, s36.2.2.2.1, s36.2.2.2.2.2))
noncomputable def slices_partialInsertionSortCmpFunc_A4_'o_i_compareCards_L4 (n : Nat) (go5 : Int × Int × Int × Int × (List (V4 Int)) → Option (Bool × (List (V4 Int)))) (go7 : Int × Int × Int × Int × (List (V4 Int)) → Option (Bool × (List (V4 Int)))) (s8 : Int × Int × Int × Int × (List (V4 Int))) : Option (Bool × (List (V4 Int))) :=
  ob (br (decide (s8.2.2.1 < s8.2.1)) (ckb (inb s8.2.2.1 s8.2.2.2.2.length) (lt (w64 (s8.2.2.1 - 1)) fun (x9 : Int) => ckb (inb x9 s8.2.2.2.2.length) (ob (i_compareCards n (gl (⟨0, 0, 0, 0⟩ : (V4 Int)) s8.2.2.2.2 s8.2.2.1.toNat) (gl (⟨0, 0, 0, 0⟩ : (V4 Int)) s8.2.2.2.2 x9.toNat)) fun (r10 : Int) => some (! (decide (r10 < 0)))))) (some false)) fun (x11 : Bool) => br x11 (lt (w64 (s8.2.2.1 + 1)) fun (x12 : Int) => go7 (s8.1, s8.2.1, x12, s8.2.2.2.1, s8.2.2.2.2)) (br (decide (s8.2.2.1 = s8.2.1)) (some (true, s8.2.2.2.2)) (lt (w64 (s8.2.1 - s8.1)) fun (x13 : Int) => br (decide (x13 < 50)) (some (false, s8.2.2.2.2)) (lt (w64 (s8.2.2.1 - 1)) fun (x14 : Int) => lt (w64 (s8.2.2.1 - 1)) fun (x15 : Int) => ckb (inb x15 s8.2.2.2.2.length) (ckb (inb s8.2.2.1 s8.2.2.2.2.length) (ckb (inb s8.2.2.1 s8.2.2.2.2.length) (lt (List.set s8.2.2.2.2 s8.2.2.1.toNat (gl (⟨0, 0, 0, 0⟩ : (V4 Int)) s8.2.2.2.2 x15.toNat)) fun (x16 : (List (V4 Int))) => ckb (inb x14 x16.length) (lt (List.set x16 x14.toNat (gl (⟨0, 0, 0, 0⟩ : (V4 Int)) s8.2.2.2.2 s8.2.2.1.toNat)) fun (x17 : (List (V4 Int))) => lt (w64 (s8.2.2.1 - s8.1)) fun (x33 : Int) => br (decide (2 ≤ x33)) (lt (w64 (s8.2.2.1 - 1)) fun (x34 : Int) => fx (slices_partialInsertionSortCmpFunc_A4_'o_i_compareCards_L3 n go5) n (s8.1, s8.2.1, s8.2.2.1, s8.2.2.2.1, x34, x17)) (slices_partialInsertionSortCmpFunc_A4_'o_i_compareCards_J2 n go5 (s8.1, s8.2.1, s8.2.2.1, s8.2.2.2.1, x17)))))))))
noncomputable def slices_partialInsertionSortCmpFunc_A4_'o_i_compareCards_L5 (n : Nat) (go5 : Int × Int × Int × Int × (List (V4 Int)) → Option (Bool × (List (V4 Int)))) (s6 : Int × Int × Int × Int × (List (V4 Int))) : Option (Bool × (List (V4 Int))) :=
  br (decide (s6.2.2.2.1 < 5)) (fx (slices_partialInsertionSortCmpFunc_A4_'o_i_compareCards_L4 n go5) n (s6.1, s6.2.1, s6.2.2.1, s6.2.2.2.1, s6.2.2.2.2)) (some (false, s6.2.2.2.2))
noncomputable def slices_partialInsertionSortCmpFunc_A4_'o_i_compareCards (n : Nat) (a1 : Int) (a2 : Int) (a3 : (List (V4 Int))) : Option (Bool × (List (V4 Int))) :=
  lt (w64 (a1 + 1)) fun (x4 : Int) => fx (slices_partialInsertionSortCmpFunc_A4_'o_i_compareCards_L5 n) n (a1, a2, x4, 0, a3)

/-- slices_partitionEqualCmpFunc_A4_'o_i_compareCards -/
noncomputable def slices_partitionEqualCmpFunc_A4_'o_i_compareCards_L1 (n : Nat) (go9 : Int × Int × Int × (List (V4 Int)) → Option (Int × (List (V4 Int)))) (go16 : Int × Int × Int × (List (V4 Int)) → Option (Int × (List (V4 Int)))) (s17 : Int × Int × Int × (List (V4 Int))) : Option (Int × (List (V4 Int))) :=
  ob (br (decide (s17.2.1 ≤ s17.2.2.1)) (ckb (inb s17.1 s17.2.2.2.length) (ckb (inb s17.2.2.1 s17.2.2.2.length) (ob (i_compareCards n (gl (⟨0, 0, 0, 0⟩ : (V4 Int)) s17.2.2.2 s17.1.toNat) (gl (⟨0, 0, 0, 0⟩ : (V4 Int)) s17.2.2.2 s17.2.2.1.toNat)) fun (r18 : Int) => some (decide (r18 < 0))))) (some false)) fun (x19 : Bool) => br x19 (lt (w64 (s17.2.2.1 - 1)) fun (x20 : Int) => go16 (s17.1, s17.2.1, x20, s17.2.2.2)) (br (decide (s17.2.2.1 < s17.2.1)) (some (s17.2.1, s17.2.2.2)) (ckb (inb s17.2.2.1 s17.2.2.2.length) (ckb (inb s17.2.1 s17.2.2.2.length) (ckb (inb s17.2.1 s17.2.2.2.length) (lt (List.set s17.2.2.2 s17.2.1.toNat (gl (⟨0, 0, 0, 0⟩ : (V4 Int)) s17.2.2.2 s17.2.2.1.toNat)) fun (x21 : (List (V4 Int))) => ckb (inb s17.2.2.1 x21.length) (lt (List.set x21 s17.2.2.1.toNat (gl (⟨0, 0, 0, 0⟩ : (V4 Int)) s17.2.2.2 s17.2.1.toNat)) fun (x22 : (List (V4 Int))) => lt (w64 (s17.2.1 + 1)) fun (x23 : Int) => lt (w64 (s17.2.2.1 - 1)) fun (x24 : Int) => go9 (s17.1, x23, x24, x22)))))))
noncomputable def slices_partitionEqualCmpFunc_A4_'o_i_compareCards_L2 (n : Nat) (go9 : Int × Int × Int × (List (V4 Int)) → Option (Int × (List (V4 Int)))) (go11 : Int × Int × Int × (List (V4 Int)) → Option (Int × (List (V4 Int)))) (s12 : Int × Int × Int × (List (V4 Int))) : Option (Int × (List (V4 Int))) :=
  ob (br (decide (s12.2.1 ≤ s12.2.2.1)) (ckb (inb s12.1 s12.2.2.2.length) (ckb (inb s12.2.1 s12.2.2.2.length) (ob (i_compareCards n (gl (⟨0, 0, 0, 0⟩ : (V4 Int)) s12.2.2.2 s12.1.toNat) (gl (⟨0, 0, 0, 0⟩ : (V4 Int)) s12.2.2.2 s12.2.1.toNat)) fun (r13 : Int) => some (! (decide (r13 < 0)))))) (some false)) fun (x14 : Bool) => br x14 (lt (w64 (s12.2.1 + 1)) fun (x15 : Int) => go11 (s12.1, x15, s12.2.2.1, s12.2.2.2)) (fx (slices_partitionEqualCmpFunc_A4_'o_i_compareCards_L1 n go9) n (s12.1, s12.2.1, s12.2.2.1, s12.2.2.2))
noncomputable def slices_partitionEqualCmpFunc_A4_'o_i_compareCards_L3 (n : Nat) (go9 : Int × Int × Int × (List (V4 Int)) → Option (Int × (List (V4 Int)))) (s10 : Int × Int × Int × (List (V4 Int))) : Option (Int × (List (V4 Int))) :=
  fx (slices_partitionEqualCmpFunc_A4_'o_i_compareCards_L2 n go9) n (s10.1, s10.2.1, s10.2.2.1, s10.2.2.2)
noncomputable def slices_partitionEqualCmpFunc_A4_'o_i_compareCards (n : Nat) (a1 : Int) (a2 : Int) (a3 : Int) (a4 : (List (V4 Int))) : Option (Int × (List (V4 Int))) :=
  ckb (inb a3 a4.length) (ckb (inb a1 a4.length) (ckb (inb a1 a4.length) (lt (List.set a4 a1.toNat (gl (⟨0, 0, 0, 0⟩ : (V4 Int)) a4 a3.toNat)) fun (x5 : (List (V4 Int))) => ckb (inb a3 x5.length) (lt (List.set x5 a3.toNat (gl (⟨0, 0, 0, 0⟩ : (V4 Int)) a4 a1.toNat)) fun (x6 : (List (V4 Int))) => lt (w64 (a1 + 1)) fun (x7 : Int) => lt (w64 (a2 - 1)) fun (x8 : Int) => fx (slices_partitionEqualCmpFunc_A4_'o_i_compareCards_L3 n) n (a1, x7, x8, x6)))))

/-- slices_partitionCmpFunc_A4_'o_i_compareCards -/
noncomputable def slices_partitionCmpFunc_A4_'o_i_compareCards_L1 (n : Nat) (go25 : Int × Int × Int × (List (V4 Int)) → Option (Int × Bool × (List (V4 Int)))) (go32 : Int × Int × Int × (List (V4 Int)) → Option (Int × Bool × (List (V4 Int)))) (s33 : Int × Int × Int × (List (V4 Int))) : Option (Int × Bool × (List (V4 Int))) :=
  ob (br (decide (s33.2.1 ≤ s33.2.2.1)) (ckb (inb s33.2.2.1 s33.2.2.2.length) (ckb (inb s33.1 s33.2.2.2.length) (ob (i_compareCards n (gl (⟨0, 0, 0, 0⟩ : (V4 Int)) s33.2.2.2 s33.2.2.1.toNat) (gl (⟨0, 0, 0, 0⟩ : (V4 Int)) s33.2.2.2 s33.1.toNat)) fun (r34 : Int) => some (! (decide (r34 < 0)))))) (some false)) fun (x35 : Bool) => br x35 (lt (w64 (s33.2.2.1 - 1)) fun (x36 : Int) => go32 (s33.1, s33.2.1, x36, s33.2.2.2)) (br (decide (s33.2.2.1 < s33.2.1)) (ckb (inb s33.1 s33.2.2.2.length) (ckb (inb s33.2.2.1 s33.2.2.2.length) (ckb (inb s33.2.2.1 s33.2.2.2.length) (lt (List.set s33.2.2.2 s33.2.2.1.toNat (gl (⟨0, 0, 0, 0⟩ : (V4 Int)) s33.2.2.2 s33.1.toNat)) fun (x37 : (List (V4 Int))) => ckb (inb s33.1 x37.length) (lt (List.set x37 s33.1.toNat (gl (⟨0, 0, 0, 0⟩ : (V4 Int)) s33.2.2.2 s33.2.2.1.toNat)) fun (x38 : (List (V4 Int))) => some (s33.2.2.1, false, x38)))))) (ckb (inb s33.2.2.1 s33.2.2.2.length) (ckb (inb s33.2.1 s33.2.2.2.length) (ckb (inb s33.2.1 s33.2.2.2.length) (lt (List.set s33.2.2.2 s33.2.1.toNat (gl (⟨0, 0, 0, 0⟩ : (V4 Int)) s33.2.2.2 s33.2.2.1.toNat)) fun (x39 : (List (V4 Int))) => ckb (inb s33.2.2.1 x39.length) (lt (List.set x39 s33.2.2.1.toNat (gl (⟨0, 0, 0, 0⟩ : (V4 Int)) s33.2.2.2 s33.2.1.toNat)) fun (x40 : (List (V4 Int))) => lt (w64 (s33.2.1 + 1)) fun (x41 : Int) => lt (w64 (s33.2.2.1 - 1)) fun (x42 : Int) => go25 (s33.1, x41, x42, x40)))))))
noncomputable def slices_partitionCmpFunc_A4_'o_i_compareCards_L2 (n : Nat) (go25 : Int × Int × Int × (List (V4 Int)) → Option (Int × Bool × (List (V4 Int)))) (go27 : Int × Int × Int × (List (V4 Int)) → Option (Int × Bool × (List (V4 Int)))) (s28 : Int × Int × Int × (List (V4 Int))) : Option (Int × Bool × (List (V4 Int))) :=
  ob (br (decide (s28.2.1 ≤ s28.2.2.1)) (ckb (inb s28.2.1 s28.2.2.2.length) (ckb (inb s28.1 s28.2.2.2.length) (ob (i_compareCards n (gl (⟨0, 0, 0, 0⟩ : (V4 Int)) s28.2.2.2 s28.2.1.toNat) (gl (⟨0, 0, 0, 0⟩ : (V4 Int)) s28.2.2.2 s28.1.toNat)) fun (r29 : Int) => some (decide (r29 < 0))))) (some false)) fun (x30 : Bool) => br x30 (lt (w64 (s28.2.1 + 1)) fun (x31 : Int) => go27 (s28.1, x31, s28.2.2.1, s28.2.2.2)) (fx (slices_partitionCmpFunc_A4_'o_i_compareCards_L1 n go25) n (s28.1, s28.2.1, s28.2.2.1, s28.2.2.2))
noncomputable def slices_partitionCmpFunc_A4_'o_i_compareCards_L3 (n : Nat) (go25 : Int × Int × Int × (List (V4 Int)) → Option (Int × Bool × (List (V4 Int)))) (s26 : Int × Int × Int × (List (V4 Int))) : Option (Int × Bool × (List (V4 Int))) :=
  fx (slices_partitionCmpFunc_A4_'o_i_compareCards_L2 n go25) n (s26.1, s26.2.1, s26.2.2.1, s26.2.2.2)
noncomputable def slices_partitionCmpFunc_A4_'o_i_compareCards_L4 (n : Nat) (go14 : Int × Int × Int × (List (V4 Int)) → Option (Int × Bool × (List (V4 Int)))) (s15 : Int × Int × Int × (List (V4 Int))) : Option (Int × Bool × (List (V4 Int))) :=
  ob (br (decide (s15.2.1 ≤ s15.2.2.1)) (ckb (inb s15.2.2.1 s15.2.2.2.length) (ckb (inb s15.1 s15.2.2.2.length) (ob (i_compareCards n (gl (⟨0, 0, 0, 0⟩ : (V4 Int)) s15.2.2.2 s15.2.2.1.toNat) (gl (⟨0, 0, 0, 0⟩ : (V4 Int)) s15.2.2.2 s15.1.toNat)) fun (r16 : Int) => some (! (decide (r16 < 0)))))) (some false)) fun (x17 : Bool) => br x17 (lt (w64 (s15.2.2.1 - 1)) fun (x18 : Int) => go14 (s15.1, s15.2.1, x18, s15.2.2.2)) (br (decide (s15.2.2.1 < s15.2.1)) (ckb (inb s15.1 s15.2.2.2.length) (ckb (inb s15.2.2.1 s15.2.2.2.length) (ckb (inb s15.2.2.1 s15.2.2.2.length) (lt (List.set s15.2.2.2 s15.2.2.1.toNat (gl (⟨0, 0, 0, 0⟩ : (V4 Int)) s15.2.2.2 s15.1.toNat)) fun (x19 : (List (V4 Int))) => ckb (inb s15.1 x19.length) (lt (List.set x19 s15.1.toNat (gl (⟨0, 0, 0, 0⟩ : (V4 Int)) s15.2.2.2 s15.2.2.1.toNat)) fun (x20 : (List (V4 Int))) => some (s15.2.2.1, true, x20)))))) (ckb (inb s15.2.2.1 s15.2.2.2.length) (ckb (inb s15.2.1 s15.2.2.2.length) (ckb (inb s15.2.1 s15.2.2.2.length) (lt (List.set s15.2.2.2 s15.2.1.toNat (gl (⟨0, 0, 0, 0⟩ : (V4 Int)) s15.2.2.2 s15.2.2.1.toNat)) fun (x21 : (List (V4 Int))) => ckb (inb s15.2.2.1 x21.length) (lt (List.set x21 s15.2.2.1.toNat (gl (⟨0, 0, 0, 0⟩ : (V4 Int)) s15.2.2.2 s15.2.1.toNat)) fun (x22 : (List (V4 Int))) => lt (w64 (s15.2.1 + 1)) fun (x23 : Int) => lt (w64 (s15.2.2.1 - 1)) fun (x24 : Int) => fx (slices_partitionCmpFunc_A4_'o_i_compareCards_L3 n) n (s15.1, x23, x24, x22)))))))
noncomputable def slices_partitionCmpFunc_A4_'o_i_compareCards_L5 (n : Nat) (go9 : Int × Int × Int × (List (V4 Int)) → Option (Int × Bool × (List (V4 Int)))) (s10 : Int × Int × Int × (List (V4 Int))) : Option (Int × Bool × (List (V4 Int))) :=
  ob (br (decide (s10.2.1 ≤ s10.2.2.1)) (ckb (inb s10.2.1 s10.2.2.2.length) (ckb (inb s10.1 s10.2.2.2.length) (ob (i_compareCards n (gl (⟨0, 0, 0, 0⟩ : (V4 Int)) s10.2.2.2 s10.2.1.toNat) (gl (⟨0, 0, 0, 0⟩ : (V4 Int)) s10.2.2.2 s10.1.toNat)) fun (r11 : Int) => some (decide (r11 < 0))))) (some false)) fun (x12 : Bool) => br x12 (lt (w64 (s10.2.1 + 1)) fun (x13 : Int) => go9 (s10.1, x13, s10.2.2.1, s10.2.2.2)) (fx (slices_partitionCmpFunc_A4_'o_i_compareCards_L4 n) n (s10.1, s10.2.1, s10.2.2.1, s10.2.2.2))
noncomputable def slices_partitionCmpFunc_A4_'o_i_compareCards (n : Nat) (a1 : Int) (a2 : Int) (a3 : Int) (a4 : (List (V4 Int))) : Option (Int × Bool × (List (V4 Int))) :=
  ckb (inb a3 a4.length) (ckb (inb a1 a4.length) (ckb (inb a1 a4.length) (lt (List.set a4 a1.toNat (gl (⟨0, 0, 0, 0⟩ : (V4 Int)) a4 a3.toNat)) fun (x5 : (List (V4 Int))) => ckb (inb a3 x5.length) (lt (List.set x5 a3.toNat (gl (⟨0, 0, 0, 0⟩ : (V4 Int)) a4 a1.toNat)) fun (x6 : (List (V4 Int))) => lt (w64 (a1 + 1)) fun (x7 : Int) => lt (w64 (a2 - 1)) fun (x8 : Int) => fx (slices_partitionCmpFunc_A4_'o_i_compareCards_L5 n) n (a1, x7, x8, x6)))))

/-- slices_pdqsortCmpFunc_A4_'o_i_compareCards -/
noncomputable def slices_pdqsortCmpFunc_A4_'o_i_compareCards_J1 (n : Nat) (go0 : Int × Int × Int × (List (V4 Int)) → Option ((List (V4 Int)))) (go5 : Int × Int × Int × Bool × Bool × (List (V4 Int)) → Option ((List (V4 Int)))) (s13 : Int × Int × Int × Bool × Bool × Int × Int × (List (V4 Int))) : Option ((List (V4 Int))) :=
  ob (br (decide (0 < s13.1)) (lt (w64 (s13.1 - 1)) fun (x14 : Int) => ckb (inb x14 s13.2.2.2.2.2.2.2.length) (ckb (inb s13.2.2.2.2.2.2.1 s13.2.2.2.2.2.2.2.length) (ob (i_compareCards n (gl (⟨0, 0, 0, 0⟩ : (V4 Int)) s13.2.2.2.2.2.2.2 x14.toNat) (gl (⟨0, 0, 0, 0⟩ : (V4 Int)) s13.2.2.2.2.2.2.2 s13.2.2.2.2.2.2.1.toNat)) fun (r15 : Int) => some (! (decide (r15 < 0)))))) (some false)) fun (x16 : Bool) => br x16 (ob (slices_partitionEqualCmpFunc_A4_'o_i_compareCards n s13.1 s13.2.1 s13.2.2.2.2.2.2.1 s13.2.2.2.2.2.2.2) fun (r17 : Int × (List (V4 Int))) => go5 (r17.1, s13.2.1, s13.2.2.1, s13.2.2.2.1, s13.2.2.2.2.1, r17.2)) (ob (slices_partitionCmpFunc_A4_'o_i_compareCards n s13.1 s13.2.1 s13.2.2.2.2.2.2.1 s13.2.2.2.2.2.2.2) fun (r18 : Int × Bool × (List (V4 Int))) => lt (w64 (r18.1 - s13.1)) fun (x19 : Int) => lt (w64 (s13.2.1 - r18.1)) fun (x20 : Int) => lt (w64 (Int.tdiv s13.2.2.2.2.2.1 8)) fun (x21 : Int) => br (decide (x19 < x20)) (ob (go0 (s13.1, r18.1, s13.2.2.1, r18.2.2)) fun (r22 : (List (V4 Int))) => lt (w64 (r18.1 + 1)) fun (x23 : Int) => go5 (x23, s13.2.1, s13.2.2.1, (decide (x21 ≤ x19)), r18.2.1, r22)) (lt (w64 (r18.1 + 1)) fun (x24 : Int) => ob (go0 (x24, s13.2.1, s13.2.2.1, r18.2.2)) fun (r25 : (List (V4 Int))) => go5 (s13.1, r18.1, s13.2.2.1, (decide (x21 ≤ x20)), r18.2.1, r25)))
noncomputable def slices_pdqsortCmpFunc_A4_'o_i_compareCards_J2 (n : Nat) (go0 : Int × Int × Int × (List (V4 Int)) → Option ((List (V4 Int)))) (go5 : Int × Int × Int × Bool × Bool × (List (V4 Int)) → Option ((List (V4 Int)))) (s12 : Int × Int × Int × Bool × Bool × Int × Int × Int × (List (V4 Int))) : Option ((List (V4 Int))) :=
  ob (br s12.2.2.2.1 (some s12.2.2.2.2.1) (some false)) fun (x26 : Bool) => ob (br x26 (some (decide (s12.2.2.2.2.2.2.2.1 = 1))) (some false)) fun (x27 : Bool) => br x27 (ob (slices_partialInsertionSortCmpFunc_A4_'o_i_compareCards n s12.1 s12.2.1 s12.2.2.2.2.2.2.2.2) fun (r28 : Bool × (List (V4 Int))) => br r28.1 (some r28.2) (slices_pdqsortCmpFunc_A4_'o_i_compareCards_J1 n go0 go5 (s12.1, s12.2.1, s12.2.2.1, s12.2.2.2.1, s12.2.2.2.2.1, s12.2.2.2.2.2.1, s12.2.2.2.2.2.2.1, r28.2))) (slices_pdqsortCmpFunc_A4_'o_i_compareCards_J1 n go0 go5 (s12.1, s12.2.1, s12.2.2.1, s12.2.2.2.1, s12.2.2.2.2.1, s12.2.2.2.2.2.1, s12.2.2.2.2.2.2.1, s12.2.2.2.2.2.2.2.2))
noncomputable def slices_pdqsortCmpFunc_A4_'o_i_compareCards_J3 (n : Nat) (go0 : Int × Int × Int × (List (V4 Int)) → Option ((List (V4 Int)))) (go5 : Int × Int × Int × Bool × Bool × (List (V4 Int)) → Option ((List (V4 Int)))) (s10 : Int × Int × Int × Bool × Bool × Int × (List (V4 Int))) : Option ((List (V4 Int))) :=
  ob (slices_choosePivotCmpFunc_A4_'l_i_compareCards n s10.2.2.2.2.2.2 s10.1 s10.2.1) fun (r11 : Int × Int) => br (decide (r11.2 = 2)) (ob (slices_reverseRangeCmpFunc_A4_'o_i_compareCards n s10.1 s10.2.1 s10.2.2.2.2.2.2) fun (r29 : (List (V4 Int))) => lt (w64 (s10.2.1 - 1)) fun (x30 : Int) => lt (w64 (r11.1 - s10.1)) fun (x31 : Int) => lt (w64 (x30 - x31)) fun (x32 : Int) => slices_pdqsortCmpFunc_A4_'o_i_compareCards_J2 n go0 go5 (s10.1, s10.2.1, s10.2.2.1, s10.2.2.2.1, s10.2.2.2.2.1, s10.2.2.2.2.2.1, x32, 1, r29)) (slices_pdqsortCmpFunc_A4_'o_i_compareCards_J2 n go0 go5 (s10.1, s10.2.1, s10.2.2.1, s10.2.2.2.1, s10.2.2.2.2.1, s10.2.2.2.2.2.1, r11.1, r11.2, s10.2.2.2.2.2.2))
noncomputable def slices_pdqsortCmpFunc_A4_'o_i_compareCards_L4 (n : Nat) (go0 : Int × Int × Int × (List (V4 Int)) → Option ((List (V4 Int)))) (go5 : Int × Int × Int × Bool × Bool × (List (V4 Int)) → Option ((List (V4 Int)))) (s6 : Int × Int × Int × Bool × Bool × (List (V4 Int))) : Option ((List (V4 Int))) :=
  lt (w64 (s6.2.1 - s6.1)) fun (x7 : Int) => br (decide (x7 ≤ 12)) (ob (slices_insertionSortCmpFunc_A4_'o_i_compareCards n s6.1 s6.2.1 s6.2.2.2.2.2) fun (r8 : (List (V4 Int))) => some r8) (br (decide (s6.2.2.1 = 0)) (ob (slices_heapSortCmpFunc_A4_'o_i_compareCards n s6.1 s6.2.1 s6.2.2.2.2.2) fun (r9 : (List (V4 Int))) => some r9) (br (! s6.2.2.2.1) (ob (slices_breakPatternsCmpFunc_A4_'o_i_compareCards n s6.1 s6.2.1 s6.2.2.2.2.2) fun (r33 : (List (V4 Int))) => lt (w64 (s6.2.2.1 - 1)) fun (x34 : Int) => slices_pdqsortCmpFunc_A4_'o_i_compareCards_J3 n go0 go5 (s6.1, s6.2.1, x34, s6.2.2.2.1, s6.2.2.2.2.1, x7, r33)) (slices_pdqsortCmpFunc_A4_'o_i_compareCards_J3 n go0 go5 (s6.1, s6.2.1, s6.2.2.1, s6.2.2.2.1, s6.2.2.2.2.1, x7, s6.2.2.2.2.2))))
noncomputable def slices_pdqsortCmpFunc_A4_'o_i_compareCards_R (n : Nat) (go0 : Int × Int × Int × (List (V4 Int)) → Option ((List (V4 Int)))) (x : Int × Int × Int × (List (V4 Int))) : Option ((List (V4 Int))) :=
  (fun (a1 : Int) (a2 : Int) (a3 : Int) (a4 : (List (V4 Int))) => fx (slices_pdqsortCmpFunc_A4_'o_i_compareCards_L4 n go0) n (a1, a2, a3, true, true, a4)) x.1 x.2.1 x.2.2.1 x.2.2.2
noncomputable def slices_pdqsortCmpFunc_A4_'o_i_compareCards (n : Nat) (a1 : Int) (a2 : Int) (a3 : Int) (a4 : (List (V4 Int))) : Option ((List (V4 Int))) := fx (slices_pdqsortCmpFunc_A4_'o_i_compareCards_R n) n (a1, a2, a3, a4)

/-- slices_SortFunc_SA4_A4_'o_i_compareCards -/
noncomputable def slices_SortFunc_SA4_A4_'o_i_compareCards (n : Nat) (a1 : (List (V4 Int))) : Option ((List (V4 Int))) :=
  lt (IntKind.wrap .u64 (a1.length : Int)) fun (x2 : Int) => ob (math_bits_Len n x2) fun (r3 : Int) => ob (slices_pdqsortCmpFunc_A4_'o_i_compareCards n 0 (a1.length : Int) r3 a1) fun (r4 : (List (V4 Int))) => some r4

/-- slices_Compact_SA4_A4_'o -/
noncomputable def slices_Compact_SA4_A4_'o_L1 (n : Nat) (go5 : Int × Int × Int × Int × (List (V4 Int)) → Option ((List (V4 Int)))) (s6 : Int × Int × Int × Int × (List (V4 Int))) : Option ((List (V4 Int))) :=
  br (decide (s6.2.2.2.1 < (s6.2.2.1.toNat : Int))) (ckb (cand (inb s6.2.2.2.1 s6.2.2.1.toNat) (nlt (s6.2.1.toNat + s6.2.2.2.1.toNat) s6.2.2.2.2.length)) (lt (w64 (s6.2.2.2.1 - 1)) fun (x7 : Int) => ckb (cand (inb x7 s6.2.2.1.toNat) (nlt (s6.2.1.toNat + x7.toNat) s6.2.2.2.2.length)) (br (!eqd (gl (⟨0, 0, 0, 0⟩ : (V4 Int)) s6.2.2.2.2 (s6.2.1.toNat + s6.2.2.2.1.toNat)) (gl (⟨0, 0, 0, 0⟩ : (V4 Int)) s6.2.2.2.2 (s6.2.1.toNat + x7.toNat))) (ckb (cand (inb s6.2.2.2.1 s6.2.2.1.toNat) (nlt (s6.2.1.toNat + s6.2.2.2.1.toNat) s6.2.2.2.2.length)) (ckb (inb s6.1 s6.2.2.2.2.length) (lt (List.set s6.2.2.2.2 s6.1.toNat (gl (⟨0, 0, 0, 0⟩ : (V4 Int)) s6.2.2.2.2 (s6.2.1.toNat + s6.2.2.2.1.toNat))) fun (x8 : (List (V4 Int))) => lt (w64 (s6.1 + 1)) fun (x9 : Int) => lt (w64 (s6.2.2.2.1 + 1)) fun (x10 : Int) => go5 (x9, (s6.2.1.toNat : Int), (s6.2.2.1.toNat : Int), x10, x8)))) (lt (w64 (s6.2.2.2.1 + 1)) fun (x11 : Int) => go5 (s6.1, (s6.2.1.toNat : Int), (s6.2.2.1.toNat : Int), x11, s6.2.2.2.2))))) (ckb (slb s6.1 (s6.2.2.2.2.length : Int) s6.2.2.2.2.length) (ckb (slb 0 s6.1 (clr (⟨0, 0, 0, 0⟩ : (V4 Int)) s6.2.2.2.2 s6.1.toNat (w64 ((s6.2.2.2.2.length : Int) - s6.1)).toNat).length) (some (sub (clr (⟨0, 0, 0, 0⟩ : (V4 Int)) s6.2.2.2.2 s6.1.toNat (w64 ((s6.2.2.2.2.length : Int) - s6.1)).toNat) 0 (w64 (s6.1 - 0)).toNat))))
noncomputable def slices_Compact_SA4_A4_'o_L2 (n : Nat) (go2 : Int × (List (V4 Int)) → Option ((List (V4 Int)))) (s3 : Int × (List (V4 Int))) : Option ((List (V4 Int))) :=
  br (decide (s3.1 < (s3.2.length : Int))) (ckb (inb s3.1 s3.2.length) (lt (w64 (s3.1 - 1)) fun (x4 : Int) => ckb (inb x4 s3.2.length) (br (eqd (gl (⟨0, 0, 0, 0⟩ : (V4 Int)) s3.2 s3.1.toNat) (gl (⟨0, 0, 0, 0⟩ : (V4 Int)) s3.2 x4.toNat)) (ckb (slb s3.1 (s3.2.length : Int) s3.2.length) (fx (slices_Compact_SA4_A4_'o_L1 n) n (s3.1, (s3.1.toNat : Int), ((w64 ((s3.2.length : Int) - s3.1)).toNat : Int), 1, s3.2))) (lt (w64 (s3.1 + 1)) fun (x12 : Int) => go2 (x12, s3.2))))) (some s3.2)
noncomputable def slices_Compact_SA4_A4_'o (n : Nat) (a1 : (List (V4 Int))) : Option ((List (V4 Int))) :=
  br (decide ((a1.length : Int) < 2)) (some a1) (fx (slices_Compact_SA4_A4_'o_L2 n) n (1, a1))

/-- i_sorted -/
noncomputable def i_sorted (n : Nat) (a1 : (List (V4 Int))) : Option ((List (V4 Int))) :=
  ob (slices_Clone_SA4_A4_ n a1) fun (r2 : (List (V4 Int))) => ob (slices_SortFunc_SA4_A4_'o_i_compareCards n r2) fun (r3 : (List (V4 Int))) => ob (slices_Compact_SA4_A4_'o n r3) fun (r4 : (List (V4 Int))) => ob (slices_Clone_SA4_A4_ n r4) fun (r5 : (List (V4 Int))) => some r5

/-- s_Cur_next'p -/
noncomputable def s_Cur_next'p_J1 (n : Nat) (s2 : Int × ((List Int) × (Int × Int))) : Option (Int × ((List Int) × (Int × Int))) :=
  lt (w64 (s2.2.2.1 + 1)) fun (x3 : Int) => lt (s2.2.1, (x3, s2.2.2.2)) fun (x4 : ((List Int) × (Int × Int))) => lt (IntKind.wrap .u64 (x4.2.2 * 6364136223846793005)) fun (x5 : Int) => lt (IntKind.wrap .u64 s2.1) fun (x6 : Int) => lt (IntKind.wrap .u64 (x5 + x6)) fun (x7 : Int) => lt (IntKind.wrap .u64 (x7 + 462197)) fun (x8 : Int) => lt (x4.1, (x4.2.1, x8)) fun (x9 : ((List Int) × (Int × Int))) => br (decide (x9.2.1 ≤ (x9.1.length : Int))) (some (s2.1, x9)) (lt (shrI .u64 x9.2.2 40) fun (x10 : Int) => lt (bits .and .u64 x10 255) fun (x11 : Int) => lt (w64 x11) fun (x12 : Int) => some (x12, x9))
noncomputable def s_Cur_next'p (n : Nat) (a1 : ((List Int) × (Int × Int))) : Option (Int × ((List Int) × (Int × Int))) :=
  br (decide (a1.2.1 < (a1.1.length : Int))) (ckb (inb a1.2.1 a1.1.length) (lt (w64 (gl 0 a1.1 a1.2.1.toNat)) fun (x13 : Int) => s_Cur_next'p_J1 n (x13, a1))) (s_Cur_next'p_J1 n (0, a1))

/-- s_Cur_pick'p -/
noncomputable def s_Cur_pick'p (n : Nat) (a1 : Int) (a2 : ((List Int) × (Int × Int))) : Option (Int × ((List Int) × (Int × Int))) :=
  br (decide (a1 ≤ 1)) (some (0, a2)) (ob (s_Cur_next'p n a2) fun (r3 : Int × ((List Int) × (Int × Int))) => br (decide (200 < a1)) (lt (w64 (r3.1 * 256)) fun (x4 : Int) => ob (s_Cur_next'p n r3.2) fun (r5 : Int × ((List Int) × (Int × Int))) => lt (w64 (x4 + r5.1)) fun (x6 : Int) => ckb (!decide (a1 = 0)) (lt (Int.tmod x6 a1) fun (x7 : Int) => some (x7, r5.2))) (ckb (!decide (a1 = 0)) (lt (Int.tmod r3.1 a1) fun (x8 : Int) => some (x8, r3.2))))

/-- s_Cur_among'pl -/
noncomputable def s_Cur_among'pl (n : Nat) (a1 : (List Int)) (a2 : ((List Int) × (Int × Int))) : Option (Int × ((List Int) × (Int × Int))) :=
  ob (s_Cur_pick'p n (a1.length : Int) a2) fun (r3 : Int × ((List Int) × (Int × Int))) => ckb (inb r3.1 a1.length) (some ((gl 0 a1 r3.1.toNat), r3.2))

/-- s_l2At -/
noncomputable def s_l2At (n : Nat) (a1 : Int) : Option ((V4 Int)) :=
  lt (w64 (Int.tdiv a1 27)) fun (x2 : Int) => lt (w64 (Int.tdiv a1 9)) fun (x3 : Int) => lt (Int.tmod x3 3) fun (x4 : Int) => lt (w64 (Int.tdiv a1 3)) fun (x5 : Int) => lt (Int.tmod x5 3) fun (x6 : Int) => lt (Int.tmod a1 3) fun (x7 : Int) => lt (⟨x2, x4, x6, x7⟩ : (V4 Int)) fun (x8 : (V4 Int)) => some x8

/-- s_l2Number -/
noncomputable def s_l2Number (n : Nat) (a1 : (V4 Int)) : Option (Int) :=
  lt (w64 (27 * a1.x0)) fun (x2 : Int) => lt (w64 (9 * a1.x1)) fun (x3 : Int) => lt (w64 (x2 + x3)) fun (x4 : Int) => lt (w64 (3 * a1.x2)) fun (x5 : Int) => lt (w64 (x4 + x5)) fun (x6 : Int) => lt (w64 (x6 + a1.x3)) fun (x7 : Int) => some x7

/-- s_l2Less -/
noncomputable def s_l2Less (n : Nat) (a1 : (V4 Int)) (a2 : (V4 Int)) : Option (Bool) :=
  ob (s_l2Number n a1) fun (r3 : Int) => ob (s_l2Number n a2) fun (r4 : Int) => some (decide (r3 < r4))

/-- s_l2Own -/
noncomputable def s_l2Own (n : Nat) (a1 : (List (V4 Int))) : Option ((List (V4 Int))) :=
  ckb (apok 32 (0 + a1.length)) (some a1)

/-- s_l2Put -/
noncomputable def s_l2Put_L1 (n : Nat) (go3 : (List (V4 Int)) × Int × (V4 Int) → Option ((List (V4 Int)))) (s4 : (List (V4 Int)) × Int × (V4 Int)) : Option ((List (V4 Int))) :=
  ob (br (decide (s4.2.1 < (s4.1.length : Int))) (ckb (inb s4.2.1 s4.1.length) (ob (s_l2Less n (gl (⟨0, 0, 0, 0⟩ : (V4 Int)) s4.1 s4.2.1.toNat) s4.2.2) fun (r5 : Bool) => some r5)) (some false)) fun (x6 : Bool) => br x6 (lt (w64 (s4.2.1 + 1)) fun (x7 : Int) => go3 (s4.1, x7, s4.2.2)) (ob (br (decide (s4.2.1 < (s4.1.length : Int))) (ckb (inb s4.2.1 s4.1.length) (some (eqd (gl (⟨0, 0, 0, 0⟩ : (V4 Int)) s4.1 s4.2.1.toNat) s4.2.2))) (some false)) fun (x8 : Bool) => br x8 (ob (s_l2Own n s4.1) fun (r9 : (List (V4 Int))) => some r9) (ckb (slb 0 s4.2.1 s4.1.length) (ob (s_l2Own n (sub s4.1 0 s4.2.1.toNat)) fun (r10 : (List (V4 Int))) => ckb (apok 32 (r10.length + 1)) (ckb (slb s4.2.1 (s4.1.length : Int) s4.1.length) (ckb (apok 32 ((r10 ++ [s4.2.2]).length + (sub s4.1 s4.2.1.toNat s4.1.length).length)) (some ((r10 ++ [s4.2.2]) ++ (sub s4.1 s4.2.1.toNat s4.1.length))))))))
noncomputable def s_l2Put (n : Nat) (a1 : (List (V4 Int))) (a2 : (V4 Int)) : Option ((List (V4 Int))) :=
  fx (s_l2Put_L1 n) n (a1, 0, a2)

/-- s_Cur_one'p -/
noncomputable def s_Cur_one'p (n : Nat) (a1 : Int) (a2 : ((List Int) × (Int × Int))) : Option (Bool × ((List Int) × (Int × Int))) :=
  ob (s_Cur_pick'p n a1 a2) fun (r3 : Int × ((List Int) × (Int × Int))) => some ((decide (r3.1 = 0)), r3.2)

/-- s_Cur_hand'p -/
noncomputable def s_Cur_hand'p_L1 (n : Nat) (go4 : Int × Int × ((List Int) × (Int × Int)) × (List (V4 Int)) → Option (((List Int) × (Int × Int)) × (List (V4 Int)))) (go8 : Int × Int × Int × ((List Int) × (Int × Int)) × (List (V4 Int)) × (V4 Int) → Option (((List Int) × (Int × Int)) × (List (V4 Int)))) (s9 : Int × Int × Int × ((List Int) × (Int × Int)) × (List (V4 Int)) × (V4 Int)) : Option (((List Int) × (Int × Int)) × (List (V4 Int))) :=
  br (decide (s9.2.2.1 < 4)) (ckb (inb s9.2.2.1 4) (lt (V4.set s9.2.2.2.2.2 s9.2.2.1.toNat 1) fun (x10 : (V4 Int)) => lt (w64 (s9.2.2.1 + 1)) fun (x11 : Int) => go8 (s9.1, s9.2.1, x11, s9.2.2.2.1, s9.2.2.2.2.1, x10))) (ob (s_l2Put n s9.2.2.2.2.1 s9.2.2.2.2.2) fun (r12 : (List (V4 Int))) => lt (w64 (s9.2.1 - 1)) fun (x13 : Int) => go4 (s9.1, x13, s9.2.2.2.1, r12))
noncomputable def s_Cur_hand'p_J2 (n : Nat) (s14 : Bool × ((List Int) × (Int × Int)) × (List (V4 Int))) : Option (((List Int) × (Int × Int)) × (List (V4 Int))) :=
  br s14.1 (ob (s_Cur_pick'p n (s14.2.2.length : Int) s14.2.1) fun (r15 : Int × ((List Int) × (Int × Int))) => ob (s_Cur_pick'p n 3 r15.2) fun (r16 : Int × ((List Int) × (Int × Int))) => br (decide (r16.1 = 0)) (ob (s_Cur_pick'p n 4 r16.2) fun (r17 : Int × ((List Int) × (Int × Int))) => ob (s_Cur_among'pl n [(-1), 3] r17.2) fun (r18 : Int × ((List Int) × (Int × Int))) => ckb (inb r15.1 s14.2.2.length) (ckb (inb r17.1 4) (lt (List.set s14.2.2 r15.1.toNat (V4.set (gl (⟨0, 0, 0, 0⟩ : (V4 Int)) s14.2.2 r15.1.toNat) r17.1.toNat r18.1)) fun (x19 : (List (V4 Int))) => some (r18.2, x19)))) (br (decide (r16.1 = 1)) (ckb (inb r15.1 s14.2.2.length) (ckb (apok 32 (s14.2.2.length + 1)) (some (r16.2, (s14.2.2 ++ [(gl (⟨0, 0, 0, 0⟩ : (V4 Int)) s14.2.2 r15.1.toNat)]))))) (ob (s_Cur_pick'p n 81 r16.2) fun (r20 : Int × ((List Int) × (Int × Int))) => ob (s_l2At n r20.1) fun (r21 : (V4 Int)) => ckb (inb r15.1 s14.2.2.length) (lt (List.set s14.2.2 r15.1.toNat r21) fun (x22 : (List (V4 Int))) => some (r20.2, x22))))) (some (s14.2.1, s14.2.2))
noncomputable def s_Cur_hand'p_L3 (n : Nat) (go4 : Int × Int × ((List Int) × (Int × Int)) × (List (V4 Int)) → Option (((List Int) × (Int × Int)) × (List (V4 Int)))) (s5 : Int × Int × ((List Int) × (Int × Int)) × (List (V4 Int))) : Option (((List Int) × (Int × Int)) × (List (V4 Int))) :=
  br (decide (0 < s5.2.1)) (ob (s_Cur_pick'p n 81 s5.2.2.1) fun (r6 : Int × ((List Int) × (Int × Int))) => ob (s_l2At n r6.1) fun (r7 : (V4 Int)) => fx (s_Cur_hand'p_L1 n go4) n (s5.1, s5.2.1, s5.1, r6.2, s5.2.2.2, r7)) (br (decide (0 < (s5.2.2.2.length : Int))) (ob (s_Cur_one'p n 24 s5.2.2.1) fun (r23 : Bool × ((List Int) × (Int × Int))) => s_Cur_hand'p_J2 n (r23.1, r23.2, s5.2.2.2)) (s_Cur_hand'p_J2 n (false, s5.2.2.1, s5.2.2.2)))
noncomputable def s_Cur_hand'p (n : Nat) (a1 : ((List Int) × (Int × Int))) : Option (((List Int) × (Int × Int)) × (List (V4 Int))) :=
  ob (s_Cur_among'pl n [4, 3, 4, 2] a1) fun (r2 : Int × ((List Int) × (Int × Int))) => ob (s_Cur_among'pl n [6, 9, 4, 12, 3, 2, 1, 0, 20, 26, 27, 28] r2.2) fun (r3 : Int × ((List Int) × (Int × Int))) => fx (s_Cur_hand'p_L3 n) n (r2.1, r3.1, r3.2, ([] : List (V4 Int)))

/-- s_l2Hand -/
noncomputable def s_l2Hand_L1 (n : Nat) (go2 : (List (V4 Int)) × Int → Option (Bool)) (s3 : (List (V4 Int)) × Int) : Option (Bool) :=
  ob (br (decide (s3.2 < (s3.1.length : Int))) (some (decide (s3.2 ≤ 27))) (some false)) fun (x4 : Bool) => br x4 (ckb (inb s3.2 s3.1.length) (ob (s_l2Card n (gl (⟨0, 0, 0, 0⟩ : (V4 Int)) s3.1 s3.2.toNat)) fun (r5 : Bool) => ob (br (! r5) (some true) (ob (br (decide (0 < s3.2)) (lt (w64 (s3.2 - 1)) fun (x6 : Int) => ckb (inb x6 s3.1.length) (ckb (inb s3.2 s3.1.length) (ob (s_l2Less n (gl (⟨0, 0, 0, 0⟩ : (V4 Int)) s3.1 x6.toNat) (gl (⟨0, 0, 0, 0⟩ : (V4 Int)) s3.1 s3.2.toNat)) fun (r7 : Bool) => some (! r7)))) (some false)) fun (x8 : Bool) => some x8)) fun (x9 : Bool) => br x9 (some false) (lt (w64 (s3.2 + 1)) fun (x10 : Int) => go2 (s3.1, x10)))) (some (decide ((s3.1.length : Int) ≤ 27)))
noncomputable def s_l2Hand (n : Nat) (a1 : (List (V4 Int))) : Option (Bool) :=
  fx (s_l2Hand_L1 n) n (a1, 0)

/-- s_l2Third -/
noncomputable def s_l2Third_L1 (n : Nat) (go4 : Int × (V4 Int) × (V4 Int) × (V4 Int) × (V4 Int) → Option ((V4 Int))) (s5 : Int × (V4 Int) × (V4 Int) × (V4 Int) × (V4 Int)) : Option ((V4 Int)) :=
  br (decide (s5.1 < 4)) (ckb (inb s5.1 4) (lt (w64 (6 - (V4.get s5.2.1 s5.1.toNat))) fun (x6 : Int) => ckb (inb s5.1 4) (lt (w64 (x6 - (V4.get s5.2.2.1 s5.1.toNat))) fun (x7 : Int) => lt (Int.tmod x7 3) fun (x8 : Int) => ckb (inb s5.1 4) (lt (V4.set s5.2.2.2.2 s5.1.toNat x8) fun (x9 : (V4 Int)) => lt (w64 (s5.1 + 1)) fun (x10 : Int) => go4 (x10, s5.2.1, s5.2.2.1, s5.2.2.2.1, x9))))) (some s5.2.2.2.2)
noncomputable def s_l2Third (n : Nat) (a1 : (V4 Int)) (a2 : (V4 Int)) : Option ((V4 Int)) :=
  lt (⟨0, 0, 0, 0⟩ : (V4 Int)) fun (x3 : (V4 Int)) => fx (s_l2Third_L1 n) n (0, a1, a2, (⟨0, 0, 0, 0⟩ : (V4 Int)), x3)

/-- i_IsHand -/
noncomputable def i_IsHand_L1 (n : Nat) (go2 : (List (V4 Int)) × (List (V4 Int)) × Int × Int → Option (Bool)) (s3 : (List (V4 Int)) × (List (V4 Int)) × Int × Int) : Option (Bool) :=
  br (decide (s3.2.2.2 < s3.2.2.1)) (ckb (inb s3.2.2.2 s3.2.1.length) (ob (i_IsCard n (gl (⟨0, 0, 0, 0⟩ : (V4 Int)) s3.2.1 s3.2.2.2.toNat)) fun (r4 : Bool) => ob (br (! r4) (some true) (ob (br (decide (0 < s3.2.2.2)) (lt (w64 (s3.2.2.2 - 1)) fun (x5 : Int) => ckb (inb x5 s3.1.length) (ob (i_number n (gl (⟨0, 0, 0, 0⟩ : (V4 Int)) s3.1 x5.toNat)) fun (r6 : Int) => ob (i_number n (gl (⟨0, 0, 0, 0⟩ : (V4 Int)) s3.2.1 s3.2.2.2.toNat)) fun (r7 : Int) => some (decide (r7 ≤ r6)))) (some false)) fun (x8 : Bool) => some x8)) fun (x9 : Bool) => br x9 (some false) (lt (w64 (s3.2.2.2 + 1)) fun (x10 : Int) => go2 (s3.1, s3.2.1, s3.2.2.1, x10)))) (some (decide ((s3.1.length : Int) ≤ 27)))
noncomputable def i_IsHand (n : Nat) (a1 : (List (V4 Int))) : Option (Bool) :=
  fx (i_IsHand_L1 n) n (a1, a1, (a1.length : Int), 0)

/-- i_third -/
noncomputable def i_third_L1 (n : Nat) (go4 : Int × (V4 Int) × (V4 Int) × (V4 Int) × (V4 Int) → Option ((V4 Int))) (s5 : Int × (V4 Int) × (V4 Int) × (V4 Int) × (V4 Int)) : Option ((V4 Int)) :=
  br (decide (s5.1 < 4)) (ckb (inb s5.1 4) (lt (w64 (6 - (V4.get s5.2.1 s5.1.toNat))) fun (x6 : Int) => ckb (inb s5.1 4) (lt (w64 (x6 - (V4.get s5.2.2.1 s5.1.toNat))) fun (x7 : Int) => lt (Int.tmod x7 3) fun (x8 : Int) => ckb (inb s5.1 4) (lt (V4.set s5.2.2.2.2 s5.1.toNat x8) fun (x9 : (V4 Int)) => lt (w64 (s5.1 + 1)) fun (x10 : Int) => go4 (x10, s5.2.1, s5.2.2.1, s5.2.2.2.1, x9))))) (some s5.2.2.2.2)
noncomputable def i_third (n : Nat) (a1 : (V4 Int)) (a2 : (V4 Int)) : Option ((V4 Int)) :=
  lt (⟨0, 0, 0, 0⟩ : (V4 Int)) fun (x3 : (V4 Int)) => fx (i_third_L1 n) n (0, a1, a2, (⟨0, 0, 0, 0⟩ : (V4 Int)), x3)

/-- s_l2Place -/
noncomputable def s_l2Place_L1 (n : Nat) (go3 : (List (V4 Int)) × Int × (V4 Int) → Option (Int)) (s4 : (List (V4 Int)) × Int × (V4 Int)) : Option (Int) :=
  br (decide (s4.2.1 < (s4.1.length : Int))) (ckb (inb s4.2.1 s4.1.length) (br (eqd (gl (⟨0, 0, 0, 0⟩ : (V4 Int)) s4.1 s4.2.1.toNat) s4.2.2) (some s4.2.1) (lt (w64 (s4.2.1 + 1)) fun (x5 : Int) => go3 (s4.1, x5, s4.2.2)))) (some (-1))
noncomputable def s_l2Place (n : Nat) (a1 : (List (V4 Int))) (a2 : (V4 Int)) : Option (Int) :=
  fx (s_l2Place_L1 n) n (a1, 0, a2)

/-- s_l2Has -/
noncomputable def s_l2Has (n : Nat) (a1 : (List (V4 Int))) (a2 : (V4 Int)) : Option (Bool) :=
  ob (s_l2Place n a1 a2) fun (r3 : Int) => some (decide (0 ≤ r3))

/-- s_l2Line -/
noncomputable def s_l2Line (n : Nat) (a1 : (V4 Int)) (a2 : (V4 Int)) (a3 : (V4 Int)) : Option (Bool) :=
  ob (br (!eqd a1 a2) (ob (s_l2Third n a1 a2) fun (r4 : (V4 Int)) => some (eqd r4 a3)) (some false)) fun (x5 : Bool) => some x5

/-- s_Cur_card'p -/
noncomputable def s_Cur_card'p (n : Nat) (a1 : ((List Int) × (Int × Int))) : Option ((V4 Int) × ((List Int) × (Int × Int))) :=
  ob (s_Cur_pick'p n 81 a1) fun (r2 : Int × ((List Int) × (Int × Int))) => ob (s_l2At n r2.1) fun (r3 : (V4 Int)) => ob (s_Cur_one'p n 40 r2.2) fun (r4 : Bool × ((List Int) × (Int × Int))) => br r4.1 (ob (s_Cur_pick'p n 4 r4.2) fun (r5 : Int × ((List Int) × (Int × Int))) => ob (s_Cur_among'pl n [(-1), 3, 4611686018427387904, (-9223372036854775808)] r5.2) fun (r6 : Int × ((List Int) × (Int × Int))) => ckb (inb r5.1 4) (lt (V4.set r3 r5.1.toNat r6.1) fun (x7 : (V4 Int)) => some (x7, r6.2))) (some (r3, r4.2))

/-- i_areCards_1 -/
noncomputable def i_areCards_1 (n : Nat) (a1 : (V4 Int)) : Option (Bool) :=
  ob (i_IsCard n a1) fun (r2 : Bool) => some (! r2)

/-- slices_IndexFunc_SA4_A4_'l_i_areCards_1 -/
noncomputable def slices_IndexFunc_SA4_A4_'l_i_areCards_1_L1 (n : Nat) (go2 : (List (V4 Int)) × Int × Int → Option (Int)) (s3 : (List (V4 Int)) × Int × Int) : Option (Int) :=
  br (decide (s3.2.2 < s3.2.1)) (ckb (inb s3.2.2 s3.1.length) (ob (i_areCards_1 n (gl (⟨0, 0, 0, 0⟩ : (V4 Int)) s3.1 s3.2.2.toNat)) fun (r4 : Bool) => br r4 (some s3.2.2) (lt (w64 (s3.2.2 + 1)) fun (x5 : Int) => go2 (s3.1, s3.2.1, x5)))) (some (-1))
noncomputable def slices_IndexFunc_SA4_A4_'l_i_areCards_1 (n : Nat) (a1 : (List (V4 Int))) : Option (Int) :=
  fx (slices_IndexFunc_SA4_A4_'l_i_areCards_1_L1 n) n (a1, (a1.length : Int), 0)

/-- slices_ContainsFunc_SA4_A4_'l_i_areCards_1 -/
noncomputable def slices_ContainsFunc_SA4_A4_'l_i_areCards_1 (n : Nat) (a1 : (List (V4 Int))) : Option (Bool) :=
  ob (slices_IndexFunc_SA4_A4_'l_i_areCards_1 n a1) fun (r2 : Int) => some (decide (0 ≤ r2))

/-- i_areCards -/
noncomputable def i_areCards (n : Nat) (a1 : (List (V4 Int))) : Option (Bool) :=
  ob (slices_ContainsFunc_SA4_A4_'l_i_areCards_1 n a1) fun (r2 : Bool) => some (! r2)

/-- i_isLine -/
noncomputable def i_isLine (n : Nat) (a1 : (V4 Int)) (a2 : (V4 Int)) (a3 : (V4 Int)) : Option (Bool) :=
  ob (br (!eqd a1 a2) (ob (i_third n a1 a2) fun (r4 : (V4 Int)) => some (eqd r4 a3)) (some false)) fun (x5 : Bool) => some x5

/-- i_IsLine -/
noncomputable def i_IsLine (n : Nat) (a1 : (V4 Int)) (a2 : (V4 Int)) (a3 : (V4 Int)) : Option (Bool × Bool) :=
  ob (i_areCards n [a1, a2, a3]) fun (r4 : Bool) => br (! r4) (some (false, false)) (ob (i_isLine n a1 a2 a3) fun (r5 : Bool) => some (r5, true))

/-- s_l2Sorted -/
noncomputable def s_l2Sorted_L1 (n : Nat) (go2 : (List (V4 Int)) × Int × (List (V4 Int)) → Option ((List (V4 Int)))) (s3 : (List (V4 Int)) × Int × (List (V4 Int))) : Option ((List (V4 Int))) :=
  br (decide (s3.2.1 < (s3.1.length : Int))) (ckb (inb s3.2.1 s3.1.length) (ob (s_l2Put n s3.2.2 (gl (⟨0, 0, 0, 0⟩ : (V4 Int)) s3.1 s3.2.1.toNat)) fun (r4 : (List (V4 Int))) => lt (w64 (s3.2.1 + 1)) fun (x5 : Int) => go2 (s3.1, x5, r4))) (some s3.2.2)
noncomputable def s_l2Sorted (n : Nat) (a1 : (List (V4 Int))) : Option ((List (V4 Int))) :=
  fx (s_l2Sorted_L1 n) n (a1, 0, ([] : List (V4 Int)))

/-- v_vHands -/
noncomputable def v_vHands_L1 (n : Nat) (go3 : (List (V4 Int)) × (List (V4 Int)) × Int → Option (Bool)) (s4 : (List (V4 Int)) × (List (V4 Int)) × Int) : Option (Bool) :=
  br (decide (s4.2.2 < (s4.1.length : Int))) (ckb (inb s4.2.2 s4.1.length) (ckb (inb s4.2.2 s4.2.1.length) (br (!eqd (gl (⟨0, 0, 0, 0⟩ : (V4 Int)) s4.1 s4.2.2.toNat) (gl (⟨0, 0, 0, 0⟩ : (V4 Int)) s4.2.1 s4.2.2.toNat)) (some false) (lt (w64 (s4.2.2 + 1)) fun (x5 : Int) => go3 (s4.1, s4.2.1, x5))))) (some true)
noncomputable def v_vHands (n : Nat) (a1 : (List (V4 Int))) (a2 : (List (V4 Int))) : Option (Bool) :=
  br (!decide ((a1.length : Int) = (a2.length : Int))) (some false) (fx (v_vHands_L1 n) n (a1, a2, 0))

/-- s_Cur_near'p -/
noncomputable def s_Cur_near'p (n : Nat) (a1 : (V4 Int)) (a2 : ((List Int) × (Int × Int))) : Option ((V4 Int) × ((List Int) × (Int × Int))) :=
  ob (s_Cur_one'p n 2 a2) fun (r3 : Bool × ((List Int) × (Int × Int))) => br r3.1 (ob (s_Cur_card'p n r3.2) fun (r4 : (V4 Int) × ((List Int) × (Int × Int))) => some (r4.1, r4.2)) (ob (s_Cur_one'p n 4 r3.2) fun (r5 : Bool × ((List Int) × (Int × Int))) => br (! r5.1) (ob (s_Cur_pick'p n 4 r5.2) fun (r6 : Int × ((List Int) × (Int × Int))) => ob (s_Cur_pick'p n 3 r6.2) fun (r7 : Int × ((List Int) × (Int × Int))) => ckb (inb r6.1 4) (lt (V4.set a1 r6.1.toNat r7.1) fun (x8 : (V4 Int)) => some (x8, r7.2))) (some (a1, r5.2)))

/-- v_rBig -/
noncomputable def v_rBig (n : Nat) (a1 : (List Int)) : Option (Bool) :=
  some (decide (65536 < (a1.length : Int)))

/-- i_ThirdCard -/
noncomputable def i_ThirdCard (n : Nat) (a1 : (V4 Int)) (a2 : (V4 Int)) : Option ((V4 Int) × Bool) :=
  ob (i_IsCard n a1) fun (r3 : Bool) => ob (br (! r3) (some true) (ob (i_IsCard n a2) fun (r4 : Bool) => some (! r4))) fun (x5 : Bool) => ob (br x5 (some true) (some (eqd a1 a2))) fun (x6 : Bool) => br x6 (lt (⟨0, 0, 0, 0⟩ : (V4 Int)) fun (x7 : (V4 Int)) => some (x7, false)) (ob (i_third n a1 a2) fun (r8 : (V4 Int)) => some (r8, true))

/-- s_l2Drop -/
noncomputable def s_l2Drop (n : Nat) (a1 : (List (V4 Int))) (a2 : Int) : Option ((List (V4 Int))) :=
  ckb (slb 0 a2 a1.length) (ob (s_l2Own n (sub a1 0 a2.toNat)) fun (r3 : (List (V4 Int))) => lt (w64 (a2 + 1)) fun (x4 : Int) => ckb (slb x4 (a1.length : Int) a1.length) (ckb (apok 32 (r3.length + (sub a1 x4.toNat a1.length).length)) (some (r3 ++ (sub a1 x4.toNat a1.length)))))

/-- s_l6Span -/
noncomputable def s_l6Span_L1 (n : Nat) (go3 : Int × (List (V4 Int)) → Option ((List (V4 Int)))) (go5 : Int × Int × (List (V4 Int)) → Option ((List (V4 Int)))) (s6 : Int × Int × (List (V4 Int))) : Option ((List (V4 Int))) :=
  br (decide (s6.2.1 < s6.1)) (ckb (inb s6.1 s6.2.2.length) (ckb (inb s6.2.1 s6.2.2.length) (ob (s_l2Third n (gl (⟨0, 0, 0, 0⟩ : (V4 Int)) s6.2.2 s6.1.toNat) (gl (⟨0, 0, 0, 0⟩ : (V4 Int)) s6.2.2 s6.2.1.toNat)) fun (r7 : (V4 Int)) => ob (s_l2Has n s6.2.2 r7) fun (r8 : Bool) => br (! r8) (ob (s_l2Put n s6.2.2 r7) fun (r9 : (List (V4 Int))) => lt (w64 ((-1) + 1)) fun (x10 : Int) => go5 (0, x10, r9)) (lt (w64 (s6.2.1 + 1)) fun (x11 : Int) => go5 (s6.1, x11, s6.2.2))))) (lt (w64 (s6.1 + 1)) fun (x12 : Int) => go3 (x12, s6.2.2))
noncomputable def s_l6Span_L2 (n : Nat) (go3 : Int × (List (V4 Int)) → Option ((List (V4 Int)))) (s4 : Int × (List (V4 Int))) : Option ((List (V4 Int))) :=
  br (decide (s4.1 < (s4.2.length : Int))) (fx (s_l6Span_L1 n go3) n (s4.1, 0, s4.2)) (some s4.2)
noncomputable def s_l6Span (n : Nat) (a1 : (List (V4 Int))) : Option ((List (V4 Int))) :=
  ob (s_l2Sorted n a1) fun (r2 : (List (V4 Int))) => fx (s_l6Span_L2 n) n (0, r2)

/-- s_Cur_flat'p -/
noncomputable def s_Cur_flat'p_J1 (n : Nat) (s14 : Bool × ((List Int) × (Int × Int)) × (List (V4 Int))) : Option (((List Int) × (Int × Int)) × (List (V4 Int))) :=
  br s14.1 (ob (s_Cur_pick'p n (s14.2.2.length : Int) s14.2.1) fun (r15 : Int × ((List Int) × (Int × Int))) => ob (s_l2Drop n s14.2.2 r15.1) fun (r16 : (List (V4 Int))) => some (r15.2, r16)) (some (s14.2.1, s14.2.2))
noncomputable def s_Cur_flat'p_L2 (n : Nat) (go10 : ((List Int) × (Int × Int)) × (List (V4 Int)) → Option (((List Int) × (Int × Int)) × (List (V4 Int)))) (s11 : ((List Int) × (Int × Int)) × (List (V4 Int))) : Option (((List Int) × (Int × Int)) × (List (V4 Int))) :=
  br (decide (27 < (s11.2.length : Int))) (ob (s_Cur_pick'p n (s11.2.length : Int) s11.1) fun (r12 : Int × ((List Int) × (Int × Int))) => ob (s_l2Drop n s11.2 r12.1) fun (r13 : (List (V4 Int))) => go10 (r12.2, r13)) (br (decide (1 < (s11.2.length : Int))) (ob (s_Cur_one'p n 3 s11.1) fun (r17 : Bool × ((List Int) × (Int × Int))) => s_Cur_flat'p_J1 n (r17.1, r17.2, s11.2)) (s_Cur_flat'p_J1 n (false, s11.1, s11.2)))
noncomputable def s_Cur_flat'p_L3 (n : Nat) (go3 : Int × ((List Int) × (Int × Int)) × (List (V4 Int)) → Option (((List Int) × (Int × Int)) × (List (V4 Int)))) (s4 : Int × ((List Int) × (Int × Int)) × (List (V4 Int))) : Option (((List Int) × (Int × Int)) × (List (V4 Int))) :=
  br (decide (0 < s4.1)) (ob (s_Cur_pick'p n 81 s4.2.1) fun (r5 : Int × ((List Int) × (Int × Int))) => ob (s_l2At n r5.1) fun (r6 : (V4 Int)) => ob (s_l2Put n s4.2.2 r6) fun (r7 : (List (V4 Int))) => lt (w64 (s4.1 - 1)) fun (x8 : Int) => go3 (x8, r5.2, r7)) (ob (s_l6Span n s4.2.2) fun (r9 : (List (V4 Int))) => fx (s_Cur_flat'p_L2 n) n (s4.2.1, r9))
noncomputable def s_Cur_flat'p (n : Nat) (a1 : ((List Int) × (Int × Int))) : Option (((List Int) × (Int × Int)) × (List (V4 Int))) :=
  ob (s_Cur_among'pl n [3, 2, 1, 4] a1) fun (r2 : Int × ((List Int) × (Int × Int))) => fx (s_Cur_flat'p_L3 n) n (r2.1, r2.2, ([] : List (V4 Int)))

/-- s_Cur_someHand'p -/
noncomputable def s_Cur_someHand'p (n : Nat) (a1 : ((List Int) × (Int × Int))) : Option (((List Int) × (Int × Int)) × (List (V4 Int))) :=
  ob (s_Cur_one'p n 2 a1) fun (r2 : Bool × ((List Int) × (Int × Int))) => br r2.1 (ob (s_Cur_flat'p n r2.2) fun (r3 : ((List Int) × (Int × Int)) × (List (V4 Int))) => some (r3.1, r3.2)) (ob (s_Cur_hand'p n r2.2) fun (r4 : ((List Int) × (Int × Int)) × (List (V4 Int))) => some (r4.1, r4.2))

/-- v_rHand -/
noncomputable def v_rHand_L1 (n : Nat) (go3 : (List (V4 Int)) × (List (V4 Int)) × Int → Option (Bool)) (s4 : (List (V4 Int)) × (List (V4 Int)) × Int) : Option (Bool) :=
  br (decide (s4.2.2 < (s4.1.length : Int))) (ckb (inb s4.2.2 s4.1.length) (ckb (inb s4.2.2 s4.2.1.length) (br (!eqd (gl (⟨0, 0, 0, 0⟩ : (V4 Int)) s4.1 s4.2.2.toNat) (gl (⟨0, 0, 0, 0⟩ : (V4 Int)) s4.2.1 s4.2.2.toNat)) (some false) (lt (w64 (s4.2.2 + 1)) fun (x5 : Int) => go3 (s4.1, s4.2.1, x5))))) (some true)
noncomputable def v_rHand (n : Nat) (a1 : (List (V4 Int))) (a2 : (List (V4 Int))) : Option (Bool) :=
  br (!decide ((a1.length : Int) = (a2.length : Int))) (some false) (fx (v_rHand_L1 n) n (a1, a2, 0))

/-- i_span_1'pp_o -/
noncomputable def i_span_1'pp_o (n : Nat) (a1 : (V4 Int)) (a2 : (VL 81 Bool)) (a3 : (List (V4 Int))) : Option ((VL 81 Bool) × (List (V4 Int))) :=
  ob (i_number n a1) fun (r4 : Int) => ckb (inb r4 81) (br (! (VL.get false a2 r4.toNat)) (ob (i_number n a1) fun (r5 : Int) => ckb (inb r5 81) (lt (VL.set a2 r5.toNat true) fun (x6 : (VL 81 Bool)) => ckb (apok 32 (a3.length + 1)) (some (x6, (a3 ++ [a1]))))) (some (a2, a3)))

/-- i_span -/
noncomputable def i_span_L1 (n : Nat) (go7 : Int × (VL 81 Bool) × (List (V4 Int)) → Option ((List (V4 Int)))) (go9 : Int × Int × Int × (VL 81 Bool) × (List (V4 Int)) → Option ((List (V4 Int)))) (s10 : Int × Int × Int × (VL 81 Bool) × (List (V4 Int))) : Option ((List (V4 Int))) :=
  br (decide (s10.2.2.1 < s10.2.1)) (ckb (inb s10.2.2.1 s10.2.2.2.2.length) (ckb (inb s10.1 s10.2.2.2.2.length) (ob (i_third n (gl (⟨0, 0, 0, 0⟩ : (V4 Int)) s10.2.2.2.2 s10.2.2.1.toNat) (gl (⟨0, 0, 0, 0⟩ : (V4 Int)) s10.2.2.2.2 s10.1.toNat)) fun (r11 : (V4 Int)) => ob (i_span_1'pp_o n r11 s10.2.2.2.1 s10.2.2.2.2) fun (r12 : (VL 81 Bool) × (List (V4 Int))) => lt (w64 (s10.2.2.1 + 1)) fun (x13 : Int) => go9 (s10.1, s10.2.1, x13, r12.1, r12.2)))) (lt (w64 (s10.1 + 1)) fun (x14 : Int) => go7 (x14, s10.2.2.2.1, s10.2.2.2.2))
noncomputable def i_span_L2 (n : Nat) (go7 : Int × (VL 81 Bool) × (List (V4 Int)) → Option ((List (V4 Int)))) (s8 : Int × (VL 81 Bool) × (List (V4 Int))) : Option ((List (V4 Int))) :=
  br (decide (s8.1 < (s8.2.2.length : Int))) (fx (i_span_L1 n go7) n (s8.1, s8.1, 0, s8.2.1, s8.2.2)) (ob (i_sorted n s8.2.2) fun (r15 : (List (V4 Int))) => some r15)
noncomputable def i_span_L3 (n : Nat) (go3 : (List (V4 Int)) × Int × Int × (VL 81 Bool) × (List (V4 Int)) → Option ((List (V4 Int)))) (s4 : (List (V4 Int)) × Int × Int × (VL 81 Bool) × (List (V4 Int))) : Option ((List (V4 Int))) :=
  br (decide (s4.2.2.1 < s4.2.1)) (ckb (inb s4.2.2.1 s4.1.length) (ob (i_span_1'pp_o n (gl (⟨0, 0, 0, 0⟩ : (V4 Int)) s4.1 s4.2.2.1.toNat) s4.2.2.2.1 s4.2.2.2.2) fun (r5 : (VL 81 Bool) × (List (V4 Int))) => lt (w64 (s4.2.2.1 + 1)) fun (x6 : Int) => go3 (s4.1, s4.2.1, x6, r5.1, r5.2))) (fx (i_span_L2 n) n (0, s4.2.2.2.1, s4.2.2.2.2))
noncomputable def i_span (n : Nat) (a1 : (List (V4 Int))) : Option ((List (V4 Int))) :=
  lt (VL.rep 81 false) fun (x2 : (VL 81 Bool)) => fx (i_span_L3 n) n (a1, (a1.length : Int), 0, x2, ([] : List (V4 Int)))

/-- i_DimensionOf -/
noncomputable def i_DimensionOf_L1 (n : Nat) (go4 : Int × Int → Option (Int × Bool)) (s5 : Int × Int) : Option (Int × Bool) :=
  br (decide (0 < s5.2)) (lt (w64 (s5.1 + 1)) fun (x6 : Int) => lt (w64 (Int.tdiv s5.2 3)) fun (x7 : Int) => go4 (x6, x7)) (some (s5.1, true))
noncomputable def i_DimensionOf (n : Nat) (a1 : (List (V4 Int))) : Option (Int × Bool) :=
  ob (i_IsHand n a1) fun (r2 : Bool) => br (! r2) (some (0, false)) (ob (i_span n a1) fun (r3 : (List (V4 Int))) => fx (i_DimensionOf_L1 n) n ((-1), (r3.length : Int)))

/-- s_DrawSpanOf -/
noncomputable def s_DrawSpanOf (n : Nat) (a1 : (List Int)) : Option ((List (V4 Int))) :=
  lt (a1, (0, 0)) fun (x2 : ((List Int) × (Int × Int))) => ob (s_Cur_someHand'p n x2) fun (r3 : ((List Int) × (Int × Int)) × (List (V4 Int))) => some r3.2

/-- i_SpanOf -/
noncomputable def i_SpanOf (n : Nat) (a1 : (List (V4 Int))) : Option (Bool × (List (V4 Int))) :=
  ob (i_IsHand n a1) fun (r2 : Bool) => br (! r2) (some (false, ([] : List (V4 Int)))) (ob (i_span n a1) fun (r3 : (List (V4 Int))) => some (true, r3))

/-- s_SpanOf -/
noncomputable def s_SpanOf (n : Nat) (a1 : (List (V4 Int))) : Option (Bool × (List (V4 Int))) :=
  ob (s_l2Hand n a1) fun (r2 : Bool) => br (! r2) (some (false, ([] : List (V4 Int)))) (ob (s_l6Span n a1) fun (r3 : (List (V4 Int))) => some (true, r3))

/-- s_l6Dimension -/
noncomputable def s_l6Dimension_L1 (n : Nat) (go3 : Int × Int → Option (Int)) (s4 : Int × Int) : Option (Int) :=
  br (decide (0 < s4.1)) (lt (w64 (Int.tdiv s4.1 3)) fun (x5 : Int) => lt (w64 (s4.2 + 1)) fun (x6 : Int) => go3 (x5, x6)) (some s4.2)
noncomputable def s_l6Dimension (n : Nat) (a1 : (List (V4 Int))) : Option (Int) :=
  ob (s_l6Span n a1) fun (r2 : (List (V4 Int))) => fx (s_l6Dimension_L1 n) n ((r2.length : Int), (-1))

/-- s_DimensionOf -/
noncomputable def s_DimensionOf (n : Nat) (a1 : (List (V4 Int))) : Option (Int × Bool) :=
  ob (s_l2Hand n a1) fun (r2 : Bool) => br (! r2) (some (0, false)) (ob (s_l6Dimension n a1) fun (r3 : Int) => some (r3, true))

/-- i_IsFlat -/
noncomputable def i_IsFlat (n : Nat) (a1 : (List (V4 Int))) : Option (Bool × Bool) :=
  ob (i_IsHand n a1) fun (r2 : Bool) => br (! r2) (some (false, false)) (ob (br (decide (0 < (a1.length : Int))) (ob (i_span n a1) fun (r3 : (List (V4 Int))) => some (decide ((r3.length : Int) = (a1.length : Int)))) (some false)) fun (x4 : Bool) => some (x4, true))

/-- s_l6Flat -/
noncomputable def s_l6Flat (n : Nat) (a1 : (List (V4 Int))) : Option (Bool) :=
  ob (br (decide (0 < (a1.length : Int))) (ob (s_l6Span n a1) fun (r2 : (List (V4 Int))) => some (decide ((r2.length : Int) = (a1.length : Int)))) (some false)) fun (x3 : Bool) => some x3

/-- s_IsFlat -/
noncomputable def s_IsFlat (n : Nat) (a1 : (List (V4 Int))) : Option (Bool × Bool) :=
  ob (s_l2Hand n a1) fun (r2 : Bool) => br (! r2) (some (false, false)) (ob (s_l6Flat n a1) fun (r3 : Bool) => some (r3, true))

/-- s_DrawPlaneOf -/
noncomputable def s_DrawPlaneOf (n : Nat) (a1 : (List Int)) : Option ((V4 Int) × (V4 Int) × (V4 Int)) :=
  lt (a1, (0, 0)) fun (x2 : ((List Int) × (Int × Int))) => ob (s_Cur_card'p n x2) fun (r3 : (V4 Int) × ((List Int) × (Int × Int))) => ob (s_Cur_near'p n r3.1 r3.2) fun (r4 : (V4 Int) × ((List Int) × (Int × Int))) => ob (s_Cur_near'p n r4.1 r4.2) fun (r5 : (V4 Int) × ((List Int) × (Int × Int))) => some (r3.1, r4.1, r5.1)

/-- i_arePlane -/
noncomputable def i_arePlane (n : Nat) (a1 : (V4 Int)) (a2 : (V4 Int)) (a3 : (V4 Int)) : Option (Bool) :=
  ob (i_areCards n [a1, a2, a3]) fun (r4 : Bool) => ob (br r4 (some (!eqd a1 a2)) (some false)) fun (x5 : Bool) => ob (br x5 (some (!eqd a1 a3)) (some false)) fun (x6 : Bool) => ob (br x6 (some (!eqd a2 a3)) (some false)) fun (x7 : Bool) => ob (br x7 (ob (i_isLine n a1 a2 a3) fun (r8 : Bool) => some (! r8)) (some false)) fun (x9 : Bool) => some x9

/-- i_PlaneOf -/
noncomputable def i_PlaneOf (n : Nat) (a1 : (V4 Int)) (a2 : (V4 Int)) (a3 : (V4 Int)) : Option (Bool × (List (V4 Int))) :=
  ob (i_arePlane n a1 a2 a3) fun (r4 : Bool) => br (! r4) (some (false, ([] : List (V4 Int)))) (ob (i_span n [a1, a2, a3]) fun (r5 : (List (V4 Int))) => some (true, r5))

/-- s_l6Open -/
noncomputable def s_l6Open (n : Nat) (a1 : (V4 Int)) (a2 : (V4 Int)) (a3 : (V4 Int)) : Option (Bool) :=
  ob (s_l2Card n a1) fun (r4 : Bool) => ob (br r4 (ob (s_l2Card n a2) fun (r5 : Bool) => some r5) (some false)) fun (x6 : Bool) => ob (br x6 (ob (s_l2Card n a3) fun (r7 : Bool) => some r7) (some false)) fun (x8 : Bool) => ob (br x8 (some (!eqd a1 a2)) (some false)) fun (x9 : Bool) => ob (br x9 (some (!eqd a1 a3)) (some false)) fun (x10 : Bool) => ob (br x10 (some (!eqd a2 a3)) (some false)) fun (x11 : Bool) => ob (br x11 (ob (s_l2Line n a1 a2 a3) fun (r12 : Bool) => some (! r12)) (some false)) fun (x13 : Bool) => some x13

/-- s_PlaneOf -/
noncomputable def s_PlaneOf (n : Nat) (a1 : (V4 Int)) (a2 : (V4 Int)) (a3 : (V4 Int)) : Option (Bool × (List (V4 Int))) :=
  ob (s_l6Open n a1 a2 a3) fun (r4 : Bool) => br (! r4) (some (false, ([] : List (V4 Int)))) (ob (s_l6Span n [a1, a2, a3]) fun (r5 : (List (V4 Int))) => some (true, r5))

/-- i_MagicSquare -/
noncomputable def i_MagicSquare_L1 (n : Nat) (go6 : Int × (V4 Int) × (V4 Int) × (V4 Int) × (VL 9 (V4 Int)) × (VL 9 (V4 Int)) → Option ((VL 9 (V4 Int)) × Bool)) (go8 : Int × Int × Int × (V4 Int) × (V4 Int) × (V4 Int) × (VL 9 (V4 Int)) × (VL 9 (V4 Int)) → Option ((VL 9 (V4 Int)) × Bool)) (s9 : Int × Int × Int × (V4 Int) × (V4 Int) × (V4 Int) × (VL 9 (V4 Int)) × (VL 9 (V4 Int))) : Option ((VL 9 (V4 Int)) × Bool) :=
  br (decide (s9.2.2.1 < 4)) (ckb (inb s9.2.2.1 4) (lt (Int.tmod s9.1 3) fun (x10 : Int) => ckb (inb s9.2.2.1 4) (ckb (inb s9.2.2.1 4) (lt (w64 ((V4.get s9.2.2.2.2.1 s9.2.2.1.toNat) - (V4.get s9.2.2.2.1 s9.2.2.1.toNat))) fun (x11 : Int) => lt (w64 (x11 + 3)) fun (x12 : Int) => lt (w64 (x10 * x12)) fun (x13 : Int) => lt (w64 ((V4.get s9.2.2.2.1 s9.2.2.1.toNat) + x13)) fun (x14 : Int) => lt (w64 (Int.tdiv s9.1 3)) fun (x15 : Int) => ckb (inb s9.2.2.1 4) (ckb (inb s9.2.2.1 4) (lt (w64 ((V4.get s9.2.2.2.2.2.1 s9.2.2.1.toNat) - (V4.get s9.2.2.2.1 s9.2.2.1.toNat))) fun (x16 : Int) => lt (w64 (x16 + 3)) fun (x17 : Int) => lt (w64 (x15 * x17)) fun (x18 : Int) => lt (w64 (x14 + x18)) fun (x19 : Int) => lt (Int.tmod x19 3) fun (x20 : Int) => ckb (inb s9.1 9) (ckb (inb s9.2.2.1 4) (lt (VL.set s9.2.2.2.2.2.2.2 s9.1.toNat (V4.set (VL.get (⟨0, 0, 0, 0⟩ : (V4 Int)) s9.2.2.2.2.2.2.2 s9.1.toNat) s9.2.2.1.toNat x20)) fun (x21 : (VL 9 (V4 Int))) => lt (w64 (s9.2.2.1 + 1)) fun (x22 : Int) => go8 (s9.1, s9.2.1, x22, s9.2.2.2.1, s9.2.2.2.2.1, s9.2.2.2.2.2.1, s9.2.2.2.2.2.2.1, x21))))))))) (lt (w64 (s9.2.1 + 1)) fun (x23 : Int) => go6 (x23, s9.2.2.2.1, s9.2.2.2.2.1, s9.2.2.2.2.2.1, s9.2.2.2.2.2.2.1, s9.2.2.2.2.2.2.2))
noncomputable def i_MagicSquare_L2 (n : Nat) (go6 : Int × (V4 Int) × (V4 Int) × (V4 Int) × (VL 9 (V4 Int)) × (VL 9 (V4 Int)) → Option ((VL 9 (V4 Int)) × Bool)) (s7 : Int × (V4 Int) × (V4 Int) × (V4 Int) × (VL 9 (V4 Int)) × (VL 9 (V4 Int))) : Option ((VL 9 (V4 Int)) × Bool) :=
  br (decide (s7.1 < 9)) (fx (i_MagicSquare_L1 n go6) n (s7.1, s7.1, 0, s7.2.1, s7.2.2.1, s7.2.2.2.1, s7.2.2.2.2.1, s7.2.2.2.2.2)) (some (s7.2.2.2.2.2, true))
noncomputable def i_MagicSquare (n : Nat) (a1 : (V4 Int)) (a2 : (V4 Int)) (a3 : (V4 Int)) : Option ((VL 9 (V4 Int)) × Bool) :=
  lt (VL.rep 9 (⟨0, 0, 0, 0⟩ : (V4 Int))) fun (x4 : (VL 9 (V4 Int))) => ob (i_arePlane n a1 a2 a3) fun (r5 : Bool) => br (! r5) (some (x4, false)) (fx (i_MagicSquare_L2 n) n (0, a1, a2, a3, (VL.rep 9 (⟨0, 0, 0, 0⟩ : (V4 Int))), x4))

/-- s_MagicSquare -/
noncomputable def s_MagicSquare_L1 (n : Nat) (go6 : Int × (V4 Int) × (V4 Int) × (V4 Int) × (VL 9 (V4 Int)) × (VL 9 (V4 Int)) → Option ((VL 9 (V4 Int)) × Bool)) (go8 : Int × Int × (V4 Int) × (V4 Int) × (V4 Int) × (VL 9 (V4 Int)) × (VL 9 (V4 Int)) → Option ((VL 9 (V4 Int)) × Bool)) (s9 : Int × Int × (V4 Int) × (V4 Int) × (V4 Int) × (VL 9 (V4 Int)) × (VL 9 (V4 Int))) : Option ((VL 9 (V4 Int)) × Bool) :=
  br (decide (s9.2.1 < 4)) (ckb (inb s9.2.1 4) (lt (Int.tmod s9.1 3) fun (x10 : Int) => ckb (inb s9.2.1 4) (ckb (inb s9.2.1 4) (lt (w64 ((V4.get s9.2.2.2.1 s9.2.1.toNat) - (V4.get s9.2.2.1 s9.2.1.toNat))) fun (x11 : Int) => lt (w64 (x11 + 3)) fun (x12 : Int) => lt (w64 (x10 * x12)) fun (x13 : Int) => lt (w64 ((V4.get s9.2.2.1 s9.2.1.toNat) + x13)) fun (x14 : Int) => lt (w64 (Int.tdiv s9.1 3)) fun (x15 : Int) => ckb (inb s9.2.1 4) (ckb (inb s9.2.1 4) (lt (w64 ((V4.get s9.2.2.2.2.1 s9.2.1.toNat) - (V4.get s9.2.2.1 s9.2.1.toNat))) fun (x16 : Int) => lt (w64 (x16 + 3)) fun (x17 : Int) => lt (w64 (x15 * x17)) fun (x18 : Int) => lt (w64 (x14 + x18)) fun (x19 : Int) => lt (Int.tmod x19 3) fun (x20 : Int) => ckb (inb s9.1 9) (ckb (inb s9.2.1 4) (lt (VL.set s9.2.2.2.2.2.2 s9.1.toNat (V4.set (VL.get (⟨0, 0, 0, 0⟩ : (V4 Int)) s9.2.2.2.2.2.2 s9.1.toNat) s9.2.1.toNat x20)) fun (x21 : (VL 9 (V4 Int))) => lt (w64 (s9.2.1 + 1)) fun (x22 : Int) => go8 (s9.1, x22, s9.2.2.1, s9.2.2.2.1, s9.2.2.2.2.1, s9.2.2.2.2.2.1, x21))))))))) (lt (w64 (s9.1 + 1)) fun (x23 : Int) => go6 (x23, s9.2.2.1, s9.2.2.2.1, s9.2.2.2.2.1, s9.2.2.2.2.2.1, s9.2.2.2.2.2.2))
noncomputable def s_MagicSquare_L2 (n : Nat) (go6 : Int × (V4 Int) × (V4 Int) × (V4 Int) × (VL 9 (V4 Int)) × (VL 9 (V4 Int)) → Option ((VL 9 (V4 Int)) × Bool)) (s7 : Int × (V4 Int) × (V4 Int) × (V4 Int) × (VL 9 (V4 Int)) × (VL 9 (V4 Int))) : Option ((VL 9 (V4 Int)) × Bool) :=
  br (decide (s7.1 < 9)) (fx (s_MagicSquare_L1 n go6) n (s7.1, 0, s7.2.1, s7.2.2.1, s7.2.2.2.1, s7.2.2.2.2.1, s7.2.2.2.2.2)) (some (s7.2.2.2.2.2, true))
noncomputable def s_MagicSquare (n : Nat) (a1 : (V4 Int)) (a2 : (V4 Int)) (a3 : (V4 Int)) : Option ((VL 9 (V4 Int)) × Bool) :=
  lt (VL.rep 9 (⟨0, 0, 0, 0⟩ : (V4 Int))) fun (x4 : (VL 9 (V4 Int))) => ob (s_l6Open n a1 a2 a3) fun (r5 : Bool) => br (! r5) (some (x4, false)) (fx (s_MagicSquare_L2 n) n (0, a1, a2, a3, (VL.rep 9 (⟨0, 0, 0, 0⟩ : (V4 Int))), x4))

/-- i_CountPlanes -/
noncomputable def i_CountPlanes_L1 (n : Nat) (go13 : (List (V4 Int)) × Int × (List (V4 Int)) × Int × Int × (List (V4 Int)) × Int × Int × (List (V4 Int)) × Int × Int × (VL 81 Bool) × (V4 Int) × (V4 Int) → Option (Int × Bool)) (go16 : (List (V4 Int)) × Int × Bool × (List (V4 Int)) × Int × Int × (List (V4 Int)) × Int × Int × (List (V4 Int)) × Int × Int × (VL 9 (V4 Int)) × Int × (VL 81 Bool) × (V4 Int) × (V4 Int) → Option (Int × Bool)) (s17 : (List (V4 Int)) × Int × Bool × (List (V4 Int)) × Int × Int × (List (V4 Int)) × Int × Int × (List (V4 Int)) × Int × Int × (VL 9 (V4 Int)) × Int × (VL 81 Bool) × (V4 Int) × (V4 Int)) : Option (Int × Bool) :=
  br (decide (s17.2.2.2.2.2.2.2.2.2.2.2.2.2.1 < 9)) (ckb (inb s17.2.2.2.2.2.2.2.2.2.2.2.2.2.1 9) (ob (br s17.2.2.1 (ob (i_number n (VL.get (⟨0, 0, 0, 0⟩ : (V4 Int)) s17.2.2.2.2.2.2.2.2.2.2.2.2.1 s17.2.2.2.2.2.2.2.2.2.2.2.2.2.1.toNat)) fun (r18 : Int) => ckb (inb r18 81) (some (VL.get false s17.2.2.2.2.2.2.2.2.2.2.2.2.2.2.1 r18.toNat))) (some false)) fun (x19 : Bool) => lt (w64 (s17.2.2.2.2.2.2.2.2.2.2.2.2.2.1 + 1)) fun (x20 : Int) => go16 (s17.1, s17.2.1, x19, s17.2.2.2.1, s17.2.2.2.2.1, s17.2.2.2.2.2.1, s17.2.2.2.2.2.2.1, s17.2.2.2.2.2.2.2.1, s17.2.2.2.2.2.2.2.2.1, s17.2.2.2.2.2.2.2.2.2.1, s17.2.2.2.2.2.2.2.2.2.2.1, s17.2.2.2.2.2.2.2.2.2.2.2.1, s17.2.2.2.2.2.2.2.2.2.2.2.2.1, x20, s17.2.2.2.2.2.2.2.2.2.2.2.2.2.2.1, s17.2.2.2.2.2.2.2.2.2.2.2.2.2.2.2.1, s17.2.2.2.2.2.2.2.2.2.2.2.2.2.2.2.2))) (br s17.2.2.1 (lt (w64 (s17.2.1 + 1)) fun (x21 : Int) => lt (w64 (s17.2.2.2.2.2.2.2.2.2.2.2.1 + 1)) fun (x22 : Int) => go13 (s17.1, x21, s17.2.2.2.1, s17.2.2.2.2.1, s17.2.2.2.2.2.1, s17.2.2.2.2.2.2.1, s17.2.2.2.2.2.2.2.1, s17.2.2.2.2.2.2.2.2.1, s17.2.2.2.2.2.2.2.2.2.1, s17.2.2.2.2.2.2.2.2.2.2.1, x22, s17.2.2.2.2.2.2.2.2.2.2.2.2.2.2.1, s17.2.2.2.2.2.2.2.2.2.2.2.2.2.2.2.1, s17.2.2.2.2.2.2.2.2.2.2.2.2.2.2.2.2)) (lt (w64 (s17.2.2.2.2.2.2.2.2.2.2.2.1 + 1)) fun (x23 : Int) => go13 (s17.1, s17.2.1, s17.2.2.2.1, s17.2.2.2.2.1, s17.2.2.2.2.2.1, s17.2.2.2.2.2.2.1, s17.2.2.2.2.2.2.2.1, s17.2.2.2.2.2.2.2.2.1, s17.2.2.2.2.2.2.2.2.2.1, s17.2.2.2.2.2.2.2.2.2.2.1, x23, s17.2.2.2.2.2.2.2.2.2.2.2.2.2.2.1, s17.2.2.2.2.2.2.2.2.2.2.2.2.2.2.2.1, s17.2.2.2.2.2.2.2.2.2.2.2.2.2.2.2.2)))
noncomputable def i_CountPlanes_L2 (n : Nat) (go11 : (List (V4 Int)) × Int × (List (V4 Int)) × Int × Int × (List (V4 Int)) × Int × Int × (VL 81 Bool) × (V4 Int) → Option (Int × Bool)) (go13 : (List (V4 Int)) × Int × (List (V4 Int)) × Int × Int × (List (V4 Int)) × Int × Int × (List (V4 Int)) × Int × Int × (VL 81 Bool) × (V4 Int) × (V4 Int) → Option (Int × Bool)) (s14 : (List (V4 Int)) × Int × (List (V4 Int)) × Int × Int × (List (V4 Int)) × Int × Int × (List (V4 Int)) × Int × Int × (VL 81 Bool) × (V4 Int) × (V4 Int)) : Option (Int × Bool) :=
  br (decide (s14.2.2.2.2.2.2.2.2.2.2.1 < s14.2.2.2.2.2.2.2.2.2.1)) (ckb (inb s14.2.2.2.2.2.2.2.2.2.2.1 s14.2.2.2.2.2.2.2.2.1.length) (ob (i_MagicSquare n s14.2.2.2.2.2.2.2.2.2.2.2.2.1 s14.2.2.2.2.2.2.2.2.2.2.2.2.2 (gl (⟨0, 0, 0, 0⟩ : (V4 Int)) s14.2.2.2.2.2.2.2.2.1 s14.2.2.2.2.2.2.2.2.2.2.1.toNat)) fun (r15 : (VL 9 (V4 Int)) × Bool) => fx (i_CountPlanes_L1 n go13) n (s14.1, s14.2.1, r15.2, s14.2.2.1, s14.2.2.2.1, s14.2.2.2.2.1, s14.2.2.2.2.2.1, s14.2.2.2.2.2.2.1, s14.2.2.2.2.2.2.2.1, s14.2.2.2.2.2.2.2.2.1, s14.2.2.2.2.2.2.2.2.2.1, s14.2.2.2.2.2.2.2.2.2.2.1, r15.1, 0, s14.2.2.2.2.2.2.2.2.2.2.2.1, s14.2.2.2.2.2.2.2.2.2.2.2.2.1, s14.2.2.2.2.2.2.2.2.2.2.2.2.2))) (lt (w64 (s14.2.2.2.2.2.2.2.1 + 1)) fun (x24 : Int) => go11 (s14.1, s14.2.1, s14.2.2.1, s14.2.2.2.1, s14.2.2.2.2.1, s14.2.2.2.2.2.1, s14.2.2.2.2.2.2.1, x24, s14.2.2.2.2.2.2.2.2.2.2.2.1, s14.2.2.2.2.2.2.2.2.2.2.2.2.1))
noncomputable def i_CountPlanes_L3 (n : Nat) (go9 : (List (V4 Int)) × Int × (List (V4 Int)) × Int × Int × (VL 81 Bool) → Option (Int × Bool)) (go11 : (List (V4 Int)) × Int × (List (V4 Int)) × Int × Int × (List (V4 Int)) × Int × Int × (VL 81 Bool) × (V4 Int) → Option (Int × Bool)) (s12 : (List (V4 Int)) × Int × (List (V4 Int)) × Int × Int × (List (V4 Int)) × Int × Int × (VL 81 Bool) × (V4 Int)) : Option (Int × Bool) :=
  br (decide (s12.2.2.2.2.2.2.2.1 < s12.2.2.2.2.2.2.1)) (ckb (inb s12.2.2.2.2.2.2.2.1 s12.2.2.2.2.2.1.length) (ckb (slb 0 s12.2.2.2.2.2.2.2.1 s12.1.length) (fx (i_CountPlanes_L2 n go11) n (s12.1, s12.2.1, s12.2.2.1, s12.2.2.2.1, s12.2.2.2.2.1, s12.2.2.2.2.2.1, s12.2.2.2.2.2.2.1, s12.2.2.2.2.2.2.2.1, (sub s12.1 0 s12.2.2.2.2.2.2.2.1.toNat), ((sub s12.1 0 s12.2.2.2.2.2.2.2.1.toNat).length : Int), 0, s12.2.2.2.2.2.2.2.2.1, s12.2.2.2.2.2.2.2.2.2, (gl (⟨0, 0, 0, 0⟩ : (V4 Int)) s12.2.2.2.2.2.1 s12.2.2.2.2.2.2.2.1.toNat))))) (lt (w64 (s12.2.2.2.2.1 + 1)) fun (x25 : Int) => go9 (s12.1, s12.2.1, s12.2.2.1, s12.2.2.2.1, x25, s12.2.2.2.2.2.2.2.2.1))
noncomputable def i_CountPlanes_L4 (n : Nat) (go9 : (List (V4 Int)) × Int × (List (V4 Int)) × Int × Int × (VL 81 Bool) → Option (Int × Bool)) (s10 : (List (V4 Int)) × Int × (List (V4 Int)) × Int × Int × (VL 81 Bool)) : Option (Int × Bool) :=
  br (decide (s10.2.2.2.2.1 < s10.2.2.2.1)) (ckb (inb s10.2.2.2.2.1 s10.2.2.1.length) (ckb (slb 0 s10.2.2.2.2.1 s10.1.length) (fx (i_CountPlanes_L3 n go9) n (s10.1, s10.2.1, s10.2.2.1, s10.2.2.2.1, s10.2.2.2.2.1, (sub s10.1 0 s10.2.2.2.2.1.toNat), ((sub s10.1 0 s10.2.2.2.2.1.toNat).length : Int), 0, s10.2.2.2.2.2, (gl (⟨0, 0, 0, 0⟩ : (V4 Int)) s10.2.2.1 s10.2.2.2.2.1.toNat))))) (lt (w64 (Int.tdiv s10.2.1 72)) fun (x26 : Int) => some (x26, true))
noncomputable def i_CountPlanes_L5 (n : Nat) (go4 : (List (V4 Int)) × (List (V4 Int)) × Int × Int × (VL 81 Bool) → Option (Int × Bool)) (s5 : (List (V4 Int)) × (List (V4 Int)) × Int × Int × (VL 81 Bool)) : Option (Int × Bool) :=
  br (decide (s5.2.2.2.1 < s5.2.2.1)) (ckb (inb s5.2.2.2.1 s5.2.1.length) (ob (i_number n (gl (⟨0, 0, 0, 0⟩ : (V4 Int)) s5.2.1 s5.2.2.2.1.toNat)) fun (r6 : Int) => ckb (inb r6 81) (lt (VL.set s5.2.2.2.2 r6.toNat true) fun (x7 : (VL 81 Bool)) => lt (w64 (s5.2.2.2.1 + 1)) fun (x8 : Int) => go4 (s5.1, s5.2.1, s5.2.2.1, x8, x7)))) (fx (i_CountPlanes_L4 n) n (s5.1, 0, s5.1, (s5.1.length : Int), 0, s5.2.2.2.2))
noncomputable def i_CountPlanes (n : Nat) (a1 : (List (V4 Int))) : Option (Int × Bool) :=
  ob (i_IsHand n a1) fun (r2 : Bool) => br (! r2) (some (0, false)) (lt (VL.rep 81 false) fun (x3 : (VL 81 Bool)) => fx (i_CountPlanes_L5 n) n (a1, a1, (a1.length : Int), 0, x3))

/-- s_l6First -/
noncomputable def s_l6First_J1 (n : Nat) (s11 : (List (V4 Int)) × Int × Int × Int × Int × (List (V4 Int))) : Option (Bool) :=
  ckb (inb 0 s11.2.2.2.2.2.length) (ckb (inb s11.2.1 s11.1.length) (ob (br (eqd (gl (⟨0, 0, 0, 0⟩ : (V4 Int)) s11.2.2.2.2.2 0) (gl (⟨0, 0, 0, 0⟩ : (V4 Int)) s11.1 s11.2.1.toNat)) (ckb (inb 1 s11.2.2.2.2.2.length) (ckb (inb s11.2.2.1 s11.1.length) (some (eqd (gl (⟨0, 0, 0, 0⟩ : (V4 Int)) s11.2.2.2.2.2 1) (gl (⟨0, 0, 0, 0⟩ : (V4 Int)) s11.1 s11.2.2.1.toNat))))) (some false)) fun (x12 : Bool) => ob (br x12 (ckb (inb s11.2.2.2.2.1 s11.2.2.2.2.2.length) (ckb (inb s11.2.2.2.1 s11.1.length) (some (eqd (gl (⟨0, 0, 0, 0⟩ : (V4 Int)) s11.2.2.2.2.2 s11.2.2.2.2.1.toNat) (gl (⟨0, 0, 0, 0⟩ : (V4 Int)) s11.1 s11.2.2.2.1.toNat))))) (some false)) fun (x13 : Bool) => some x13))
noncomputable def s_l6First_L2 (n : Nat) (go6 : (List (V4 Int)) × Int × Int × Int × Int × (List (V4 Int)) → Option (Bool)) (s7 : (List (V4 Int)) × Int × Int × Int × Int × (List (V4 Int))) : Option (Bool) :=
  br (decide (s7.2.2.2.2.1 < (s7.2.2.2.2.2.length : Int))) (ckb (inb s7.2.2.2.2.1 s7.2.2.2.2.2.length) (ob (s_l2Has n s7.1 (gl (⟨0, 0, 0, 0⟩ : (V4 Int)) s7.2.2.2.2.2 s7.2.2.2.2.1.toNat)) fun (r8 : Bool) => br (! r8) (some false) (lt (w64 (s7.2.2.2.2.1 + 1)) fun (x9 : Int) => go6 (s7.1, s7.2.1, s7.2.2.1, s7.2.2.2.1, x9, s7.2.2.2.2.2)))) (ckb (inb 0 s7.2.2.2.2.2.length) (ckb (inb 1 s7.2.2.2.2.2.length) (ob (s_l2Third n (gl (⟨0, 0, 0, 0⟩ : (V4 Int)) s7.2.2.2.2.2 0) (gl (⟨0, 0, 0, 0⟩ : (V4 Int)) s7.2.2.2.2.2 1)) fun (r10 : (V4 Int)) => ckb (inb 2 s7.2.2.2.2.2.length) (br (eqd (gl (⟨0, 0, 0, 0⟩ : (V4 Int)) s7.2.2.2.2.2 2) r10) (lt (w64 (2 + 1)) fun (x14 : Int) => s_l6First_J1 n (s7.1, s7.2.1, s7.2.2.1, s7.2.2.2.1, x14, s7.2.2.2.2.2)) (s_l6First_J1 n (s7.1, s7.2.1, s7.2.2.1, s7.2.2.2.1, 2, s7.2.2.2.2.2))))))
noncomputable def s_l6First (n : Nat) (a1 : (List (V4 Int))) (a2 : Int) (a3 : Int) (a4 : Int) : Option (Bool) :=
  ckb (inb a2 a1.length) (ckb (inb a3 a1.length) (ckb (inb a4 a1.length) (ob (s_l6Span n [(gl (⟨0, 0, 0, 0⟩ : (V4 Int)) a1 a2.toNat), (gl (⟨0, 0, 0, 0⟩ : (V4 Int)) a1 a3.toNat), (gl (⟨0, 0, 0, 0⟩ : (V4 Int)) a1 a4.toNat)]) fun (r5 : (List (V4 Int))) => fx (s_l6First_L2 n) n (a1, a2, a3, a4, 0, r5))))

/-- s_CountPlanes -/
noncomputable def s_CountPlanes_L1 (n : Nat) (go6 : (List (V4 Int)) × Int × Int × Int → Option (Int × Bool)) (go12 : (List (V4 Int)) × Int × Int × Int × Int × (V4 Int) → Option (Int × Bool)) (s13 : (List (V4 Int)) × Int × Int × Int × Int × (V4 Int)) : Option (Int × Bool) :=
  br (decide (s13.2.2.2.2.1 < (s13.1.length : Int))) (ckb (inb s13.2.2.2.2.1 s13.1.length) (ob (br (!eqd (gl (⟨0, 0, 0, 0⟩ : (V4 Int)) s13.1 s13.2.2.2.2.1.toNat) s13.2.2.2.2.2) (ob (s_l6First n s13.1 s13.2.2.1 s13.2.2.2.1 s13.2.2.2.2.1) fun (r14 : Bool) => some r14) (some false)) fun (x15 : Bool) => br x15 (lt (w64 (s13.2.1 + 1)) fun (x16 : Int) => lt (w64 (s13.2.2.2.2.1 + 1)) fun (x17 : Int) => go12 (s13.1, x16, s13.2.2.1, s13.2.2.2.1, x17, s13.2.2.2.2.2)) (lt (w64 (s13.2.2.2.2.1 + 1)) fun (x18 : Int) => go12 (s13.1, s13.2.1, s13.2.2.1, s13.2.2.2.1, x18, s13.2.2.2.2.2)))) (lt (w64 (s13.2.2.2.1 + 1)) fun (x19 : Int) => go6 (s13.1, s13.2.1, s13.2.2.1, x19))
noncomputable def s_CountPlanes_L2 (n : Nat) (go3 : (List (V4 Int)) × Int × Int → Option (Int × Bool)) (go6 : (List (V4 Int)) × Int × Int × Int → Option (Int × Bool)) (s7 : (List (V4 Int)) × Int × Int × Int) : Option (Int × Bool) :=
  br (decide (s7.2.2.2 < (s7.1.length : Int))) (ckb (inb s7.2.2.1 s7.1.length) (ckb (inb s7.2.2.2 s7.1.length) (ob (s_l2Third n (gl (⟨0, 0, 0, 0⟩ : (V4 Int)) s7.1 s7.2.2.1.toNat) (gl (⟨0, 0, 0, 0⟩ : (V4 Int)) s7.1 s7.2.2.2.toNat)) fun (r8 : (V4 Int)) => ob (s_l2Has n s7.1 r8) fun (r9 : Bool) => br (! r9) (lt (w64 (s7.2.2.2 + 1)) fun (x10 : Int) => go6 (s7.1, s7.2.1, s7.2.2.1, x10)) (lt (w64 (s7.2.2.2 + 1)) fun (x11 : Int) => fx (s_CountPlanes_L1 n go6) n (s7.1, s7.2.1, s7.2.2.1, s7.2.2.2, x11, r8))))) (lt (w64 (s7.2.2.1 + 1)) fun (x20 : Int) => go3 (s7.1, s7.2.1, x20))
noncomputable def s_CountPlanes_L3 (n : Nat) (go3 : (List (V4 Int)) × Int × Int → Option (Int × Bool)) (s4 : (List (V4 Int)) × Int × Int) : Option (Int × Bool) :=
  br (decide (s4.2.2 < (s4.1.length : Int))) (lt (w64 (s4.2.2 + 1)) fun (x5 : Int) => fx (s_CountPlanes_L2 n go3) n (s4.1, s4.2.1, s4.2.2, x5)) (some (s4.2.1, true))
noncomputable def s_CountPlanes (n : Nat) (a1 : (List (V4 Int))) : Option (Int × Bool) :=
  ob (s_l2Hand n a1) fun (r2 : Bool) => br (! r2) (some (0, false)) (fx (s_CountPlanes_L3 n) n (a1, 0, 0))

/-- s_DrawCountFlats -/
noncomputable def s_DrawCountFlats (n : Nat) (a1 : (List Int)) : Option (Int) :=
  lt (a1, (0, 0)) fun (x2 : ((List Int) × (Int × Int))) => ob (s_Cur_pick'p n 7 x2) fun (r3 : Int × ((List Int) × (Int × Int))) => lt (w64 (r3.1 - 1)) fun (x4 : Int) => some x4

/-- i_CountFlats -/
noncomputable def i_CountFlats (n : Nat) (a1 : Int) : Option (Int × Bool) :=
  ob (i_within n a1 0 4) fun (r2 : Bool) => br (! r2) (some (0, false)) (ckb (inb a1 5) (some ((gl 0 [81, 1080, 1170, 120, 1] a1.toNat), true)))

/-- s_CountFlats -/
noncomputable def s_CountFlats (n : Nat) (a1 : Int) : Option (Int × Bool) :=
  ob (s_l1In n a1 0 4) fun (r2 : Bool) => br (! r2) (some (0, false)) (lt (⟨81, 1080, 1170, 120, 1⟩ : (V5 Int)) fun (x3 : (V5 Int)) => ckb (inb a1 5) (some ((V5.get x3 a1.toNat), true)))

/-- v_rIn -/
noncomputable def v_rIn_L1 (n : Nat) (go3 : (List (V4 Int)) × Int × (V4 Int) → Option (Bool)) (s4 : (List (V4 Int)) × Int × (V4 Int)) : Option (Bool) :=
  br (decide (s4.2.1 < (s4.1.length : Int))) (ckb (inb s4.2.1 s4.1.length) (br (eqd (gl (⟨0, 0, 0, 0⟩ : (V4 Int)) s4.1 s4.2.1.toNat) s4.2.2) (some true) (lt (w64 (s4.2.1 + 1)) fun (x5 : Int) => go3 (s4.1, x5, s4.2.2)))) (some false)
noncomputable def v_rIn (n : Nat) (a1 : (List (V4 Int))) (a2 : (V4 Int)) : Option (Bool) :=
  fx (v_rIn_L1 n) n (a1, 0, a2)

/-- v_FnSpans -/
noncomputable def v_FnSpans_L1 (n : Nat) (go46 : Int × (List (V4 Int)) → Option (Bool)) (go48 : Int × Int × (List (V4 Int)) → Option (Bool)) (s49 : Int × Int × (List (V4 Int))) : Option (Bool) :=
  br (decide (s49.2.1 < s49.1)) (ckb (inb s49.1 s49.2.2.length) (ckb (inb s49.2.1 s49.2.2.length) (ob (i_ThirdCard n (gl (⟨0, 0, 0, 0⟩ : (V4 Int)) s49.2.2 s49.1.toNat) (gl (⟨0, 0, 0, 0⟩ : (V4 Int)) s49.2.2 s49.2.1.toNat)) fun (r50 : (V4 Int) × Bool) => ob (br (! r50.2) (some true) (ob (v_rIn n s49.2.2 r50.1) fun (r51 : Bool) => some (! r51))) fun (x52 : Bool) => br x52 (some false) (lt (w64 (s49.2.1 + 1)) fun (x53 : Int) => go48 (s49.1, x53, s49.2.2))))) (lt (w64 (s49.1 + 1)) fun (x54 : Int) => go46 (x54, s49.2.2))
noncomputable def v_FnSpans_L2 (n : Nat) (go46 : Int × (List (V4 Int)) → Option (Bool)) (s47 : Int × (List (V4 Int))) : Option (Bool) :=
  br (decide (s47.1 < (s47.2.length : Int))) (fx (v_FnSpans_L1 n go46) n (s47.1, 0, s47.2)) (some true)
noncomputable def v_FnSpans_L3 (n : Nat) (go39 : Int × Int × Int × (List (V4 Int)) → Option (Bool)) (s40 : Int × Int × Int × (List (V4 Int))) : Option (Bool) :=
  br (decide (s40.2.2.1 < s40.1)) (lt (w64 (3 * s40.2.1)) fun (x41 : Int) => lt (w64 (s40.2.2.1 + 1)) fun (x42 : Int) => go39 (s40.1, x41, x42, s40.2.2.2)) (ob (br (decide (0 ≤ s40.1)) (some (!decide ((s40.2.2.2.length : Int) = s40.2.1))) (some false)) fun (x43 : Bool) => ob (br x43 (some true) (ob (br (decide (s40.1 < 0)) (some (!decide ((s40.2.2.2.length : Int) = 0))) (some false)) fun (x44 : Bool) => some x44)) fun (x45 : Bool) => br x45 (some false) (fx (v_FnSpans_L2 n) n (0, s40.2.2.2)))
noncomputable def v_FnSpans_J4 (n : Nat) (s38 : Bool × Int × (List (V4 Int))) : Option (Bool) :=
  br s38.1 (fx (v_FnSpans_L3 n) n (s38.2.1, 1, 0, s38.2.2)) (some true)
noncomputable def v_FnSpans_L5 (n : Nat) (go55 : Bool × Int × Int × (List (V4 Int)) × (List (V4 Int)) × (VL 9 (V4 Int)) → Option (Bool)) (go58 : Bool × Int × Int × Int × (List (V4 Int)) × (List (V4 Int)) × (VL 9 (V4 Int)) → Option (Bool)) (s59 : Bool × Int × Int × Int × (List (V4 Int)) × (List (V4 Int)) × (VL 9 (V4 Int))) : Option (Bool) :=
  br (decide (s59.2.2.2.1 < s59.2.2.1)) (lt (w64 (Int.tdiv s59.2.2.1 3)) fun (x60 : Int) => lt (w64 (6 - x60)) fun (x61 : Int) => lt (w64 (Int.tdiv s59.2.2.2.1 3)) fun (x62 : Int) => lt (w64 (x61 - x62)) fun (x63 : Int) => lt (Int.tmod x63 3) fun (x64 : Int) => lt (Int.tmod s59.2.2.1 3) fun (x65 : Int) => lt (w64 (6 - x65)) fun (x66 : Int) => lt (Int.tmod s59.2.2.2.1 3) fun (x67 : Int) => lt (w64 (x66 - x67)) fun (x68 : Int) => lt (Int.tmod x68 3) fun (x69 : Int) => ckb (inb s59.2.2.1 9) (ckb (inb s59.2.2.2.1 9) (lt (w64 (3 * x64)) fun (x70 : Int) => lt (w64 (x70 + x69)) fun (x71 : Int) => ckb (inb x71 9) (ob (i_IsLine n (VL.get (⟨0, 0, 0, 0⟩ : (V4 Int)) s59.2.2.2.2.2.2 s59.2.2.1.toNat) (VL.get (⟨0, 0, 0, 0⟩ : (V4 Int)) s59.2.2.2.2.2.2 s59.2.2.2.1.toNat) (VL.get (⟨0, 0, 0, 0⟩ : (V4 Int)) s59.2.2.2.2.2.2 x71.toNat)) fun (r72 : Bool × Bool) => ob (br (! r72.2) (some true) (some (! r72.1))) fun (x73 : Bool) => br x73 (some false) (lt (w64 (s59.2.2.2.1 + 1)) fun (x74 : Int) => go58 (s59.1, s59.2.1, s59.2.2.1, x74, s59.2.2.2.2.1, s59.2.2.2.2.2.1, s59.2.2.2.2.2.2)))))) (lt (w64 (s59.2.2.1 + 1)) fun (x75 : Int) => go55 (s59.1, s59.2.1, x75, s59.2.2.2.2.1, s59.2.2.2.2.2.1, s59.2.2.2.2.2.2))
noncomputable def v_FnSpans_L6 (n : Nat) (go55 : Bool × Int × Int × (List (V4 Int)) × (List (V4 Int)) × (VL 9 (V4 Int)) → Option (Bool)) (s56 : Bool × Int × Int × (List (V4 Int)) × (List (V4 Int)) × (VL 9 (V4 Int))) : Option (Bool) :=
  br (decide (s56.2.2.1 < 9)) (ckb (inb s56.2.2.1 9) (ob (v_rIn n s56.2.2.2.2.1 (VL.get (⟨0, 0, 0, 0⟩ : (V4 Int)) s56.2.2.2.2.2 s56.2.2.1.toNat)) fun (r57 : Bool) => br (! r57) (some false) (fx (v_FnSpans_L5 n go55) n (s56.1, s56.2.1, s56.2.2.1, 0, s56.2.2.2.1, s56.2.2.2.2.1, s56.2.2.2.2.2)))) (v_FnSpans_J4 n (s56.1, s56.2.1, s56.2.2.2.1))
noncomputable def v_FnSpans (n : Nat) (a1 : (List Int)) : Option (Bool) :=
  ob (v_rBig n a1) fun (r2 : Bool) => br r2 (some true) (ob (s_DrawSpanOf n a1) fun (r3 : (List (V4 Int))) => ob (i_SpanOf n r3) fun (r4 : Bool × (List (V4 Int))) => ob (s_SpanOf n r3) fun (r5 : Bool × (List (V4 Int))) => ob (br (! (r4.1 == r5.1)) (some true) (ob (v_rHand n r4.2 r5.2) fun (r6 : Bool) => some (! r6))) fun (x7 : Bool) => br x7 (some false) (ob (i_DimensionOf n r3) fun (r8 : Int × Bool) => ob (s_DimensionOf n r3) fun (r9 : Int × Bool) => ob (br (!decide (r8.1 = r9.1)) (some true) (some (! (r8.2 == r9.2)))) fun (x10 : Bool) => ob (br x10 (some true) (some (! (r8.2 == r4.1)))) fun (x11 : Bool) => br x11 (some false) (ob (i_IsFlat n r3) fun (r12 : Bool × Bool) => ob (s_IsFlat n r3) fun (r13 : Bool × Bool) => ob (br (! (r12.1 == r13.1)) (some true) (some (! (r12.2 == r13.2)))) fun (x14 : Bool) => ob (br x14 (some true) (some (! (r12.2 == r4.1)))) fun (x15 : Bool) => ob (br x15 (some true) (ob (br r4.1 (ob (br (decide (0 < (r3.length : Int))) (some (decide ((r4.2.length : Int) = (r3.length : Int)))) (some false)) fun (x16 : Bool) => some (! (r12.1 == x16))) (some false)) fun (x17 : Bool) => some x17)) fun (x18 : Bool) => br x18 (some false) (ob (s_DrawPlaneOf n a1) fun (r19 : (V4 Int) × (V4 Int) × (V4 Int)) => ob (i_PlaneOf n r19.1 r19.2.1 r19.2.2) fun (r20 : Bool × (List (V4 Int))) => ob (s_PlaneOf n r19.1 r19.2.1 r19.2.2) fun (r21 : Bool × (List (V4 Int))) => ob (br (! (r20.1 == r21.1)) (some true) (ob (v_rHand n r20.2 r21.2) fun (r22 : Bool) => some (! r22))) fun (x23 : Bool) => ob (br x23 (some true) (ob (br r20.1 (some (!decide ((r20.2.length : Int) = 9))) (some false)) fun (x24 : Bool) => some x24)) fun (x25 : Bool) => br x25 (some false) (ob (i_MagicSquare n r19.1 r19.2.1 r19.2.2) fun (r26 : (VL 9 (V4 Int)) × Bool) => ob (s_MagicSquare n r19.1 r19.2.1 r19.2.2) fun (r27 : (VL 9 (V4 Int)) × Bool) => ob (br (!eqd r26.1 r27.1) (some true) (some (! (r26.2 == r27.2)))) fun (x28 : Bool) => ob (br x28 (some true) (some (! (r26.2 == r20.1)))) fun (x29 : Bool) => br x29 (some false) (ob (i_CountPlanes n r3) fun (r30 : Int × Bool) => ob (s_CountPlanes n r3) fun (r31 : Int × Bool) => ob (br (!decide (r30.1 = r31.1)) (some true) (some (! (r30.2 == r31.2)))) fun (x32 : Bool) => ob (br x32 (some true) (some (! (r30.2 == r4.1)))) fun (x33 : Bool) => br x33 (some false) (ob (s_DrawCountFlats n a1) fun (r34 : Int) => ob (i_CountFlats n r34) fun (r35 : Int × Bool) => ob (s_CountFlats n r34) fun (r36 : Int × Bool) => ob (br (!decide (r35.1 = r36.1)) (some true) (some (! (r35.2 == r36.2)))) fun (x37 : Bool) => br x37 (some false) (br r26.2 (fx (v_FnSpans_L6 n) n (r4.1, r8.1, 0, r4.2, r20.2, r26.1)) (v_FnSpans_J4 n (r4.1, r8.1, r4.2))))))))))

end Go.Pl
