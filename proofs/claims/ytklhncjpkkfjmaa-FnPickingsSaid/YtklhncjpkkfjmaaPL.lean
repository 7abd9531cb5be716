/- Printed by a program of the session: the program's functions as plain functions. -/
import Derived.Test.YtklhncjpkkfjmaaZ0
import Derived.Lib.Bytealg
namespace Go.Pl
open Go Go.Tv Go.RowKit
set_option linter.unusedVariables false
def bls (a b : ByteArray) : Bool := Op.bytesLess a.toList b.toList
/-- v_toIntA4 -/
noncomputable def v_toIntA4_L1 (n : Nat) (go2 : Int × (V4 Int) × (V4 Int) × (V4 Int) → Option ((V4 Int))) (s3 : Int × (V4 Int) × (V4 Int) × (V4 Int)) : Option ((V4 Int)) :=
  br (decide (s3.1 < 4)) (ckb (inb s3.1 4) (ckb (inb s3.1 4) (lt (V4.set s3.2.2.2 s3.1.toNat (V4.get s3.2.1 s3.1.toNat)) fun (x4 : (V4 Int)) => lt (w64 (s3.1 + 1)) fun (x5 : Int) => go2 (x5, s3.2.1, s3.2.2.1, x4)))) (some s3.2.2.2)
noncomputable def v_toIntA4 (n : Nat) (a1 : (V4 Int)) : Option ((V4 Int)) :=
  fx (v_toIntA4_L1 n) n (0, a1, (⟨0, 0, 0, 0⟩ : (V4 Int)), (⟨0, 0, 0, 0⟩ : (V4 Int)))

/-- s_l1In -/
noncomputable def s_l1In (n : Nat) (a1 : Int) (a2 : Int) (a3 : Int) : Option (Bool) :=
  ob (br (decide (a2 ≤ a1)) (some (decide (a1 ≤ a3))) (some false)) fun (x4 : Bool) => some x4

/-- s_l2Card -/
noncomputable def s_l2Card_L1 (n : Nat) (go2 : Int × (V4 Int) → Option (Bool)) (s3 : Int × (V4 Int)) : Option (Bool) :=
  br (decide (s3.1 < 4)) (ckb (inb s3.1 4) (ob (s_l1In n (V4.get s3.2 s3.1.toNat) 0 2) fun (r4 : Bool) => br (! r4) (some false) (lt (w64 (s3.1 + 1)) fun (x5 : Int) => go2 (x5, s3.2)))) (some true)
noncomputable def s_l2Card (n : Nat) (a1 : (V4 Int)) : Option (Bool) :=
  fx (s_l2Card_L1 n) n (0, a1)

/-- s_l2Differ -/
noncomputable def s_l2Differ_L1 (n : Nat) (go3 : Int × Int × (V4 Int) × (V4 Int) → Option (Int)) (s4 : Int × Int × (V4 Int) × (V4 Int)) : Option (Int) :=
  br (decide (s4.2.1 < 4)) (ckb (inb s4.2.1 4) (ckb (inb s4.2.1 4) (br (!decide ((V4.get s4.2.2.1 s4.2.1.toNat) = (V4.get s4.2.2.2 s4.2.1.toNat))) (lt (w64 (s4.1 + 1)) fun (x5 : Int) => lt (w64 (s4.2.1 + 1)) fun (x6 : Int) => go3 (x5, x6, s4.2.2.1, s4.2.2.2)) (lt (w64 (s4.2.1 + 1)) fun (x7 : Int) => go3 (s4.1, x7, s4.2.2.1, s4.2.2.2))))) (some s4.1)
noncomputable def s_l2Differ (n : Nat) (a1 : (V4 Int)) (a2 : (V4 Int)) : Option (Int) :=
  fx (s_l2Differ_L1 n) n (0, 0, a1, a2)

/-- i_within -/
noncomputable def i_within (n : Nat) (a1 : Int) (a2 : Int) (a3 : Int) : Option (Bool) :=
  ob (br (decide (a2 ≤ a1)) (some (decide (a1 ≤ a3))) (some false)) fun (x4 : Bool) => some x4

/-- i_allWithin_1'pp -/
noncomputable def i_allWithin_1'pp (n : Nat) (a1 : Int) (a2 : Int) (a3 : Int) : Option (Bool × Int × Int) :=
  ob (i_within n a1 a2 a3) fun (r4 : Bool) => some ((! r4), a2, a3)

/-- slices_IndexFunc_Sint_int_'l_i_allWithin_1pp -/
noncomputable def slices_IndexFunc_Sint_int_'l_i_allWithin_1pp_L1 (n : Nat) (go4 : (List Int) × Int × Int × Int × Int → Option (Int × Int × Int)) (s5 : (List Int) × Int × Int × Int × Int) : Option (Int × Int × Int) :=
  br (decide (s5.2.2.1 < s5.2.1)) (ckb (inb s5.2.2.1 s5.1.length) (ob (i_allWithin_1'pp n (gl 0 s5.1 s5.2.2.1.toNat) s5.2.2.2.1 s5.2.2.2.2) fun (r6 : Bool × Int × Int) => br r6.1 (some (s5.2.2.1, r6.2.1, r6.2.2)) (lt (w64 (s5.2.2.1 + 1)) fun (x7 : Int) => go4 (s5.1, s5.2.1, x7, r6.2.1, r6.2.2)))) (some ((-1), s5.2.2.2.1, s5.2.2.2.2))
noncomputable def slices_IndexFunc_Sint_int_'l_i_allWithin_1pp (n : Nat) (a1 : (List Int)) (a2 : Int) (a3 : Int) : Option (Int × Int × Int) :=
  fx (slices_IndexFunc_Sint_int_'l_i_allWithin_1pp_L1 n) n (a1, (a1.length : Int), 0, a2, a3)

/-- slices_ContainsFunc_Sint_int_'l_i_allWithin_1pp -/
noncomputable def slices_ContainsFunc_Sint_int_'l_i_allWithin_1pp (n : Nat) (a1 : (List Int)) (a2 : Int) (a3 : Int) : Option (Bool × Int × Int) :=
  ob (slices_IndexFunc_Sint_int_'l_i_allWithin_1pp n a1 a2 a3) fun (r4 : Int × Int × Int) => some ((decide (0 ≤ r4.1)), r4.2.1, r4.2.2)

/-- i_allWithin -/
noncomputable def i_allWithin (n : Nat) (a1 : (List Int)) (a2 : Int) (a3 : Int) : Option (Bool) :=
  ob (slices_ContainsFunc_Sint_int_'l_i_allWithin_1pp n a1 a2 a3) fun (r4 : Bool × Int × Int) => some (! r4.1)

/-- i_IsCard -/
noncomputable def i_IsCard (n : Nat) (a1 : (V4 Int)) : Option (Bool) :=
  ob (i_allWithin n (V4.els a1) 0 2) fun (r2 : Bool) => some r2

/-- slices_Clone_SA4_A4_ -/
noncomputable def slices_Clone_SA4_A4_ (n : Nat) (a1 : (List (V4 Int))) : Option ((List (V4 Int))) :=
  amb a1.isEmpty fun (b2 : Bool) => br b2 (some ([] : List (V4 Int))) (ckb (apok 32 (0 + a1.length)) (some a1))

/-- math_bits_Len64 -/
noncomputable def math_bits_Len64_J1 (n : Nat) (s4 : Int × Int) : Option (Int) :=
  lt (IntKind.wrap .u8 s4.1) fun (x5 : Int) => ckb (inb x5 256) (lt (w64 (sb (⟨((List.append (List.append (0 :: 1 :: 2 :: 2 :: 3 :: 3 :: 3 :: 3 :: 4 :: 4 :: 4 :: 4 :: 4 :: 4 :: 4 :: 4 :: 5 :: 5 :: 5 :: 5 :: 5 :: 5 :: 5 :: 5 :: 5 :: 5 :: 5 :: 5 :: 5 :: 5 :: 5 :: 5 :: 6 :: 6 :: 6 :: 6 :: 6 :: 6 :: 6 :: 6 :: 6 :: 6 :: 6 :: 6 :: 6 :: 6 :: 6 :: 6 :: 6 :: 6 :: 6 :: 6 :: 6 :: 6 :: 6 :: 6 :: 6 :: 6 :: 6 :: 6 :: 6 :: 6 :: 6 :: 6 :: []) (7 :: 7 :: 7 :: 7 :: 7 :: 7 :: 7 :: 7 :: 7 :: 7 :: 7 :: 7 :: 7 :: 7 :: 7 :: 7 :: 7 :: 7 :: 7 :: 7 :: 7 :: 7 :: 7 :: 7 :: 7 :: 7 :: 7 :: 7 :: 7 :: 7 :: 7 :: 7 :: 7 :: 7 :: 7 :: 7 :: 7 :: 7 :: 7 :: 7 :: 7 :: 7 :: 7 :: 7 :: 7 :: 7 :: 7 :: 7 :: 7 :: 7 :: 7 :: 7 :: 7 :: 7 :: 7 :: 7 :: 7 :: 7 :: 7 :: 7 :: 7 :: 7 :: 7 :: 7 :: [])) (List.append (8 :: 8 :: 8 :: 8 :: 8 :: 8 :: 8 :: 8 :: 8 :: 8 :: 8 :: 8 :: 8 :: 8 :: 8 :: 8 :: 8 :: 8 :: 8 :: 8 :: 8 :: 8 :: 8 :: 8 :: 8 :: 8 :: 8 :: 8 :: 8 :: 8 :: 8 :: 8 :: 8 :: 8 :: 8 :: 8 :: 8 :: 8 :: 8 :: 8 :: 8 :: 8 :: 8 :: 8 :: 8 :: 8 :: 8 :: 8 :: 8 :: 8 :: 8 :: 8 :: 8 :: 8 :: 8 :: 8 :: 8 :: 8 :: 8 :: 8 :: 8 :: 8 :: 8 :: 8 :: []) (8 :: 8 :: 8 :: 8 :: 8 :: 8 :: 8 :: 8 :: 8 :: 8 :: 8 :: 8 :: 8 :: 8 :: 8 :: 8 :: 8 :: 8 :: 8 :: 8 :: 8 :: 8 :: 8 :: 8 :: 8 :: 8 :: 8 :: 8 :: 8 :: 8 :: 8 :: 8 :: 8 :: 8 :: 8 :: 8 :: 8 :: 8 :: 8 :: 8 :: 8 :: 8 :: 8 :: 8 :: 8 :: 8 :: 8 :: 8 :: 8 :: 8 :: 8 :: 8 :: 8 :: 8 :: 8 :: 8 :: 8 :: 8 :: 8 :: 8 :: 8 :: 8 :: 8 :: 8 :: [])))).toArray⟩ : ByteArray) x5.toNat)) fun (x6 : Int) => lt (w64 (s4.2 + x6)) fun (x7 : Int) => some x7)
noncomputable def math_bits_Len64_J2 (n : Nat) (s3 : Int × Int) : Option (Int) :=
  br (decide (256 ≤ s3.1)) (lt (shrI .u64 s3.1 8) fun (x8 : Int) => lt (w64 (s3.2 + 8)) fun (x9 : Int) => math_bits_Len64_J1 n (x8, x9)) (math_bits_Len64_J1 n (s3.1, s3.2))
noncomputable def math_bits_Len64_J3 (n : Nat) (s2 : Int × Int) : Option (Int) :=
  br (decide (65536 ≤ s2.1)) (lt (shrI .u64 s2.1 16) fun (x10 : Int) => lt (w64 (s2.2 + 16)) fun (x11 : Int) => math_bits_Len64_J2 n (x10, x11)) (math_bits_Len64_J2 n (s2.1, s2.2))
noncomputable def math_bits_Len64 (n : Nat) (a1 : Int) : Option (Int) :=
  br (decide (4294967296 ≤ a1)) (lt (shrI .u64 a1 32) fun (x12 : Int) => math_bits_Len64_J3 n (x12, 32)) (math_bits_Len64_J3 n (a1, 0))

/-- math_bits_Len -/
noncomputable def math_bits_Len (n : Nat) (a1 : Int) : Option (Int) :=
  ob (math_bits_Len64 n a1) fun (r2 : Int) => some r2

/-- i_number -/
noncomputable def i_number_L1 (n : Nat) (go2 : Int × (V4 Int) × Int → Option (Int)) (s3 : Int × (V4 Int) × Int) : Option (Int) :=
  br (decide (s3.2.2 < 4)) (ckb (inb s3.2.2 4) (lt (w64 (3 * s3.1)) fun (x4 : Int) => lt (w64 (x4 + (V4.get s3.2.1 s3.2.2.toNat))) fun (x5 : Int) => lt (w64 (s3.2.2 + 1)) fun (x6 : Int) => go2 (x5, s3.2.1, x6))) (some s3.1)
noncomputable def i_number (n : Nat) (a1 : (V4 Int)) : Option (Int) :=
  fx (i_number_L1 n) n (0, a1, 0)

/-- i_compareCards -/
noncomputable def i_compareCards (n : Nat) (a1 : (V4 Int)) (a2 : (V4 Int)) : Option (Int) :=
  ob (i_number n a1) fun (r3 : Int) => ob (i_number n a2) fun (r4 : Int) => lt (w64 (r3 - r4)) fun (x5 : Int) => some x5

/-- slices_nextPowerOfTwo -/
noncomputable def slices_nextPowerOfTwo (n : Nat) (a1 : Int) : Option (Int) :=
  lt (IntKind.wrap .u64 a1) fun (x2 : Int) => ob (math_bits_Len n x2) fun (r3 : Int) => ckb (nneg r3) (lt (shlI .u64 1 r3) fun (x4 : Int) => some x4)

/-- __slices_xorshift__Next'p -/
noncomputable def __slices_xorshift__Next'p (n : Nat) (a1 : Int) : Option (Int × Int) :=
  lt (shlI .u64 a1 13) fun (x2 : Int) => lt (bits .xor .u64 a1 x2) fun (x3 : Int) => lt (shrI .u64 x3 7) fun (x4 : Int) => lt (bits .xor .u64 x3 x4) fun (x5 : Int) => lt (shlI .u64 x5 17) fun (x6 : Int) => lt (bits .xor .u64 x5 x6) fun (x7 : Int) => some (x7, x7)

/-- slices_order2CmpFunc_A4_'lp_i_compareCards -/
noncomputable def slices_order2CmpFunc_A4_'lp_i_compareCards (n : Nat) (a1 : (List (V4 Int))) (a2 : Int) (a3 : Int) (a4 : Int) : Option (Int × Int × Int) :=
  ckb (inb a3 a1.length) (ckb (inb a2 a1.length) (ob (i_compareCards n (gl (⟨0, 0, 0, 0⟩ : (V4 Int)) a1 a3.toNat) (gl (⟨0, 0, 0, 0⟩ : (V4 Int)) a1 a2.toNat)) fun (r5 : Int) => br (decide (r5 < 0)) (lt (w64 (a4 + 1)) fun (x6 : Int) => some (a3, a2, x6)) (some (a2, a3, a4))))

/-- slices_medianCmpFunc_A4_'lp_i_compareCards -/
noncomputable def slices_medianCmpFunc_A4_'lp_i_compareCards (n : Nat) (a1 : (List (V4 Int))) (a2 : Int) (a3 : Int) (a4 : Int) (a5 : Int) : Option (Int × Int) :=
  ob (slices_order2CmpFunc_A4_'lp_i_compareCards n a1 a2 a3 a5) fun (r6 : Int × Int × Int) => ob (slices_order2CmpFunc_A4_'lp_i_compareCards n a1 r6.2.1 a4 r6.2.2) fun (r7 : Int × Int × Int) => ob (slices_order2CmpFunc_A4_'lp_i_compareCards n a1 r6.1 r7.1 r7.2.2) fun (r8 : Int × Int × Int) => some (r8.2.1, r8.2.2)

/-- slices_medianAdjacentCmpFunc_A4_'lp_i_compareCards -/
noncomputable def slices_medianAdjacentCmpFunc_A4_'lp_i_compareCards (n : Nat) (a1 : (List (V4 Int))) (a2 : Int) (a3 : Int) : Option (Int × Int) :=
  lt (w64 (a2 - 1)) fun (x4 : Int) => lt (w64 (a2 + 1)) fun (x5 : Int) => ob (slices_medianCmpFunc_A4_'lp_i_compareCards n a1 x4 a2 x5 a3) fun (r6 : Int × Int) => some (r6.1, r6.2)

/-- slices_choosePivotCmpFunc_A4_'l_i_compareCards -/
noncomputable def slices_choosePivotCmpFunc_A4_'l_i_compareCards_J1 (n : Nat) (s14 : Int × Int) : Option (Int × Int) :=
  br (decide (s14.2 = 0)) (some (s14.1, 1)) (br (decide (s14.2 = 12)) (some (s14.1, 2)) (some (s14.1, 0)))
noncomputable def slices_choosePivotCmpFunc_A4_'l_i_compareCards_J2 (n : Nat) (s15 : (List (V4 Int)) × Int × Int × Int × Int) : Option (Int × Int) :=
  ob (slices_medianCmpFunc_A4_'lp_i_compareCards n s15.1 s15.2.1 s15.2.2.1 s15.2.2.2.1 s15.2.2.2.2) fun (r16 : Int × Int) => slices_choosePivotCmpFunc_A4_'l_i_compareCards_J1 n (r16.1, r16.2)
noncomputable def slices_choosePivotCmpFunc_A4_'l_i_compareCards (n : Nat) (a1 : (List (V4 Int))) (a2 : Int) (a3 : Int) : Option (Int × Int) :=
  lt (w64 (a3 - a2)) fun (x4 : Int) => lt (w64 (Int.tdiv x4 4)) fun (x5 : Int) => lt (w64 (x5 * 1)) fun (x6 : Int) => lt (w64 (a2 + x6)) fun (x7 : Int) => lt (w64 (Int.tdiv x4 4)) fun (x8 : Int) => lt (w64 (x8 * 2)) fun (x9 : Int) => lt (w64 (a2 + x9)) fun (x10 : Int) => lt (w64 (Int.tdiv x4 4)) fun (x11 : Int) => lt (w64 (x11 * 3)) fun (x12 : Int) => lt (w64 (a2 + x12)) fun (x13 : Int) => br (decide (8 ≤ x4)) (br (decide (50 ≤ x4)) (ob (slices_medianAdjacentCmpFunc_A4_'lp_i_compareCards n a1 x7 0) fun (r17 : Int × Int) => ob (slices_medianAdjacentCmpFunc_A4_'lp_i_compareCards n a1 x10 r17.2) fun (r18 : Int × Int) => ob (slices_medianAdjacentCmpFunc_A4_'lp_i_compareCards n a1 x13 r18.2) fun (r19 : Int × Int) => slices_choosePivotCmpFunc_A4_'l_i_compareCards_J2 n (a1, r17.1, r18.1, r19.1, r19.2)) (slices_choosePivotCmpFunc_A4_'l_i_compareCards_J2 n (a1, x7, x10, x13, 0))) (slices_choosePivotCmpFunc_A4_'l_i_compareCards_J1 n (x10, 0))

/-- slices_insertionSortCmpFunc_A4_'o_i_compareCards -/
noncomputable def slices_insertionSortCmpFunc_A4_'o_i_compareCards_L1 (n : Nat) (go5 : Int × Int × Int × (List (V4 Int)) → Option ((List (V4 Int)))) (go7 : Int × Int × Int × Int × (List (V4 Int)) → Option ((List (V4 Int)))) (s8 : Int × Int × Int × Int × (List (V4 Int))) : Option ((List (V4 Int))) :=
  ob (br (decide (s8.1 < s8.2.2.2.1)) (ckb (inb s8.2.2.2.1 s8.2.2.2.2.length) (lt (w64 (s8.2.2.2.1 - 1)) fun (x9 : Int) => ckb (inb x9 s8.2.2.2.2.length) (ob (i_compareCards n (gl (⟨0, 0, 0, 0⟩ : (V4 Int)) s8.2.2.2.2 s8.2.2.2.1.toNat) (gl (⟨0, 0, 0, 0⟩ : (V4 Int)) s8.2.2.2.2 x9.toNat)) fun (r10 : Int) => some (decide (r10 < 0))))) (some false)) fun (x11 : Bool) => br x11 (lt (w64 (s8.2.2.2.1 - 1)) fun (x12 : Int) => lt (w64 (s8.2.2.2.1 - 1)) fun (x13 : Int) => ckb (inb x13 s8.2.2.2.2.length) (ckb (inb s8.2.2.2.1 s8.2.2.2.2.length) (ckb (inb s8.2.2.2.1 s8.2.2.2.2.length) (lt (List.set s8.2.2.2.2 s8.2.2.2.1.toNat (gl (⟨0, 0, 0, 0⟩ : (V4 Int)) s8.2.2.2.2 x13.toNat)) fun (x14 : (List (V4 Int))) => ckb (inb x12 x14.length) (lt (List.set x14 x12.toNat (gl (⟨0, 0, 0, 0⟩ : (V4 Int)) s8.2.2.2.2 s8.2.2.2.1.toNat)) fun (x15 : (List (V4 Int))) => lt (w64 (s8.2.2.2.1 - 1)) fun (x16 : Int) => go7 (s8.1, s8.2.1, s8.2.2.1, x16, x15)))))) (lt (w64 (s8.2.2.1 + 1)) fun (x17 : Int) => go5 (s8.1, s8.2.1, x17, s8.2.2.2.2))
noncomputable def slices_insertionSortCmpFunc_A4_'o_i_compareCards_L2 (n : Nat) (go5 : Int × Int × Int × (List (V4 Int)) → Option ((List (V4 Int)))) (s6 : Int × Int × Int × (List (V4 Int))) : Option ((List (V4 Int))) :=
  br (decide (s6.2.2.1 < s6.2.1)) (fx (slices_insertionSortCmpFunc_A4_'o_i_compareCards_L1 n go5) n (s6.1, s6.2.1, s6.2.2.1, s6.2.2.1, s6.2.2.2)) (some s6.2.2.2)
noncomputable def slices_insertionSortCmpFunc_A4_'o_i_compareCards (n : Nat) (a1 : Int) (a2 : Int) (a3 : (List (V4 Int))) : Option ((List (V4 Int))) :=
  lt (w64 (a1 + 1)) fun (x4 : Int) => fx (slices_insertionSortCmpFunc_A4_'o_i_compareCards_L2 n) n (a1, a2, x4, a3)

/-- slices_siftDownCmpFunc_A4_'o_i_compareCards -/
noncomputable def slices_siftDownCmpFunc_A4_'o_i_compareCards_J1 (n : Nat) (go5 : Int × Int × Int × (List (V4 Int)) → Option ((List (V4 Int)))) (s9 : Int × Int × Int × Int × (List (V4 Int))) : Option ((List (V4 Int))) :=
  lt (w64 (s9.2.1 + s9.2.2.1)) fun (x10 : Int) => ckb (inb x10 s9.2.2.2.2.length) (lt (w64 (s9.2.1 + s9.2.2.2.1)) fun (x11 : Int) => ckb (inb x11 s9.2.2.2.2.length) (ob (i_compareCards n (gl (⟨0, 0, 0, 0⟩ : (V4 Int)) s9.2.2.2.2 x10.toNat) (gl (⟨0, 0, 0, 0⟩ : (V4 Int)) s9.2.2.2.2 x11.toNat)) fun (r12 : Int) => br (! (decide (r12 < 0))) (some s9.2.2.2.2) (lt (w64 (s9.2.1 + s9.2.2.1)) fun (x13 : Int) => lt (w64 (s9.2.1 + s9.2.2.2.1)) fun (x14 : Int) => lt (w64 (s9.2.1 + s9.2.2.2.1)) fun (x15 : Int) => ckb (inb x15 s9.2.2.2.2.length) (lt (w64 (s9.2.1 + s9.2.2.1)) fun (x16 : Int) => ckb (inb x16 s9.2.2.2.2.length) (ckb (inb x13 s9.2.2.2.2.length) (lt (List.set s9.2.2.2.2 x13.toNat (gl (⟨0, 0, 0, 0⟩ : (V4 Int)) s9.2.2.2.2 x15.toNat)) fun (x17 : (List (V4 Int))) => ckb (inb x14 x17.length) (lt (List.set x17 x14.toNat (gl (⟨0, 0, 0, 0⟩ : (V4 Int)) s9.2.2.2.2 x16.toNat)) fun (x18 : (List (V4 Int))) => go5 (s9.1, s9.2.1, s9.2.2.2.1, x18))))))))
noncomputable def slices_siftDownCmpFunc_A4_'o_i_compareCards_L2 (n : Nat) (go5 : Int × Int × Int × (List (V4 Int)) → Option ((List (V4 Int)))) (s6 : Int × Int × Int × (List (V4 Int))) : Option ((List (V4 Int))) :=
  lt (w64 (2 * s6.2.2.1)) fun (x7 : Int) => lt (w64 (x7 + 1)) fun (x8 : Int) => br (decide (s6.1 ≤ x8)) (some s6.2.2.2) (lt (w64 (x8 + 1)) fun (x19 : Int) => ob (br (decide (x19 < s6.1)) (lt (w64 (s6.2.1 + x8)) fun (x20 : Int) => ckb (inb x20 s6.2.2.2.length) (lt (w64 (s6.2.1 + x8)) fun (x21 : Int) => lt (w64 (x21 + 1)) fun (x22 : Int) => ckb (inb x22 s6.2.2.2.length) (ob (i_compareCards n (gl (⟨0, 0, 0, 0⟩ : (V4 Int)) s6.2.2.2 x20.toNat) (gl (⟨0, 0, 0, 0⟩ : (V4 Int)) s6.2.2.2 x22.toNat)) fun (r23 : Int) => some (decide (r23 < 0))))) (some false)) fun (x24 : Bool) => br x24 (lt (w64 (x8 + 1)) fun (x25 : Int) => slices_siftDownCmpFunc_A4_'o_i_compareCards_J1 n go5 (s6.1, s6.2.1, s6.2.2.1, x25, s6.2.2.2)) (slices_siftDownCmpFunc_A4_'o_i_compareCards_J1 n go5 (s6.1, s6.2.1, s6.2.2.1, x8, s6.2.2.2)))
noncomputable def slices_siftDownCmpFunc_A4_'o_i_compareCards (n : Nat) (a1 : Int) (a2 : Int) (a3 : Int) (a4 : (List (V4 Int))) : Option ((List (V4 Int))) :=
  fx (slices_siftDownCmpFunc_A4_'o_i_compareCards_L2 n) n (a2, a3, a1, a4)

/-- slices_heapSortCmpFunc_A4_'o_i_compareCards -/
noncomputable def slices_heapSortCmpFunc_A4_'o_i_compareCards_L1 (n : Nat) (go12 : Int × Int × Int × (List (V4 Int)) → Option ((List (V4 Int)))) (s13 : Int × Int × Int × (List (V4 Int))) : Option ((List (V4 Int))) :=
  br (decide (0 ≤ s13.2.2.1)) (lt (w64 (s13.1 + s13.2.2.1)) fun (x14 : Int) => lt (w64 (s13.1 + s13.2.2.1)) fun (x15 : Int) => ckb (inb x15 s13.2.2.2.length) (ckb (inb s13.1 s13.2.2.2.length) (ckb (inb s13.1 s13.2.2.2.length) (lt (List.set s13.2.2.2 s13.1.toNat (gl (⟨0, 0, 0, 0⟩ : (V4 Int)) s13.2.2.2 x15.toNat)) fun (x16 : (List (V4 Int))) => ckb (inb x14 x16.length) (lt (List.set x16 x14.toNat (gl (⟨0, 0, 0, 0⟩ : (V4 Int)) s13.2.2.2 s13.1.toNat)) fun (x17 : (List (V4 Int))) => ob (slices_siftDownCmpFunc_A4_'o_i_compareCards n s13.2.1 s13.2.2.1 s13.1 x17) fun (r18 : (List (V4 Int))) => lt (w64 (s13.2.2.1 - 1)) fun (x19 : Int) => go12 (s13.1, s13.2.1, x19, r18)))))) (some s13.2.2.2)
noncomputable def slices_heapSortCmpFunc_A4_'o_i_compareCards_L2 (n : Nat) (go7 : Int × Int × Int × Int × (List (V4 Int)) → Option ((List (V4 Int)))) (s8 : Int × Int × Int × Int × (List (V4 Int))) : Option ((List (V4 Int))) :=
  br (decide (0 ≤ s8.2.2.2.1)) (ob (slices_siftDownCmpFunc_A4_'o_i_compareCards n s8.2.2.2.1 s8.2.2.1 s8.1 s8.2.2.2.2) fun (r9 : (List (V4 Int))) => lt (w64 (s8.2.2.2.1 - 1)) fun (x10 : Int) => go7 (s8.1, s8.2.1, s8.2.2.1, x10, r9)) (lt (w64 (s8.2.2.1 - 1)) fun (x11 : Int) => fx (slices_heapSortCmpFunc_A4_'o_i_compareCards_L1 n) n (s8.1, s8.2.1, x11, s8.2.2.2.2))
noncomputable def slices_heapSortCmpFunc_A4_'o_i_compareCards (n : Nat) (a1 : Int) (a2 : Int) (a3 : (List (V4 Int))) : Option ((List (V4 Int))) :=
  lt (w64 (a2 - a1)) fun (x4 : Int) => lt (w64 (x4 - 1)) fun (x5 : Int) => lt (w64 (Int.tdiv x5 2)) fun (x6 : Int) => fx (slices_heapSortCmpFunc_A4_'o_i_compareCards_L2 n) n (a1, 0, x4, x6, a3)

/-- slices_breakPatternsCmpFunc_A4_'o_i_compareCards -/
noncomputable def slices_breakPatternsCmpFunc_A4_'o_i_compareCards_J1 (n : Nat) (go11 : Int × Int × Int × Int × (List (V4 Int)) × Int → Option ((List (V4 Int)))) (s21 : Int × Int × Int × Int × Int × (List (V4 Int)) × Int) : Option ((List (V4 Int))) :=
  lt (w64 (s21.1 + s21.2.2.2.2.1)) fun (x22 : Int) => lt (w64 (s21.1 + s21.2.2.2.2.1)) fun (x23 : Int) => ckb (inb x23 s21.2.2.2.2.2.1.length) (ckb (inb s21.2.2.2.1 s21.2.2.2.2.2.1.length) (ckb (inb s21.2.2.2.1 s21.2.2.2.2.2.1.length) (lt (List.set s21.2.2.2.2.2.1 s21.2.2.2.1.toNat (gl (⟨0, 0, 0, 0⟩ : (V4 Int)) s21.2.2.2.2.2.1 x23.toNat)) fun (x24 : (List (V4 Int))) => ckb (inb x22 x24.length) (lt (List.set x24 x22.toNat (gl (⟨0, 0, 0, 0⟩ : (V4 Int)) s21.2.2.2.2.2.1 s21.2.2.2.1.toNat)) fun (x25 : (List (V4 Int))) => lt (w64 (s21.2.2.2.1 + 1)) fun (x26 : Int) => go11 (s21.1, s21.2.1, s21.2.2.1, x26, x25, s21.2.2.2.2.2.2)))))
noncomputable def slices_breakPatternsCmpFunc_A4_'o_i_compareCards_L2 (n : Nat) (go11 : Int × Int × Int × Int × (List (V4 Int)) × Int → Option ((List (V4 Int)))) (s12 : Int × Int × Int × Int × (List (V4 Int)) × Int) : Option ((List (V4 Int))) :=
  lt (w64 (Int.tdiv s12.2.1 4)) fun (x13 : Int) => lt (w64 (x13 * 2)) fun (x14 : Int) => lt (w64 (s12.1 + x14)) fun (x15 : Int) => lt (w64 (x15 + 1)) fun (x16 : Int) => br (decide (s12.2.2.2.1 ≤ x16)) (ob (__slices_xorshift__Next'p n s12.2.2.2.2.2) fun (r17 : Int × Int) => lt (IntKind.wrap .u64 (s12.2.2.1 - 1)) fun (x18 : Int) => lt (bits .and .u64 r17.1 x18) fun (x19 : Int) => lt (w64 x19) fun (x20 : Int) => br (decide (s12.2.1 ≤ x20)) (lt (w64 (x20 - s12.2.1)) fun (x27 : Int) => slices_breakPatternsCmpFunc_A4_'o_i_compareCards_J1 n go11 (s12.1, s12.2.1, s12.2.2.1, s12.2.2.2.1, x27, s12.2.2.2.2.1, r17.2)) (slices_breakPatternsCmpFunc_A4_'o_i_compareCards_J1 n go11 (s12.1, s12.2.1, s12.2.2.1, s12.2.2.2.1, x20, s12.2.2.2.2.1, r17.2))) (some s12.2.2.2.2.1)
noncomputable def slices_breakPatternsCmpFunc_A4_'o_i_compareCards (n : Nat) (a1 : Int) (a2 : Int) (a3 : (List (V4 Int))) : Option ((List (V4 Int))) :=
  lt (w64 (a2 - a1)) fun (x4 : Int) => br (decide (8 ≤ x4)) (lt (IntKind.wrap .u64 x4) fun (x5 : Int) => ob (slices_nextPowerOfTwo n x4) fun (r6 : Int) => lt (w64 (Int.tdiv x4 4)) fun (x7 : Int) => lt (w64 (x7 * 2)) fun (x8 : Int) => lt (w64 (a1 + x8)) fun (x9 : Int) => lt (w64 (x9 - 1)) fun (x10 : Int) => fx (slices_breakPatternsCmpFunc_A4_'o_i_compareCards_L2 n) n (a1, x4, r6, x10, a3, x5)) (some a3)

/-- slices_reverseRangeCmpFunc_A4_'o_i_compareCards -/
noncomputable def slices_reverseRangeCmpFunc_A4_'o_i_compareCards_L1 (n : Nat) (go5 : Int × Int × (List (V4 Int)) → Option ((List (V4 Int)))) (s6 : Int × Int × (List (V4 Int))) : Option ((List (V4 Int))) :=
  br (decide (s6.1 < s6.2.1)) (ckb (inb s6.2.1 s6.2.2.length) (ckb (inb s6.1 s6.2.2.length) (ckb (inb s6.1 s6.2.2.length) (lt (List.set s6.2.2 s6.1.toNat (gl (⟨0, 0, 0, 0⟩ : (V4 Int)) s6.2.2 s6.2.1.toNat)) fun (x7 : (List (V4 Int))) => ckb (inb s6.2.1 x7.length) (lt (List.set x7 s6.2.1.toNat (gl (⟨0, 0, 0, 0⟩ : (V4 Int)) s6.2.2 s6.1.toNat)) fun (x8 : (List (V4 Int))) => lt (w64 (s6.1 + 1)) fun (x9 : Int) => lt (w64 (s6.2.1 - 1)) fun (x10 : Int) => go5 (x9, x10, x8)))))) (some s6.2.2)
noncomputable def slices_reverseRangeCmpFunc_A4_'o_i_compareCards (n : Nat) (a1 : Int) (a2 : Int) (a3 : (List (V4 Int))) : Option ((List (V4 Int))) :=
  lt (w64 (a2 - 1)) fun (x4 : Int) => fx (slices_reverseRangeCmpFunc_A4_'o_i_compareCards_L1 n) n (a1, x4, a3)

/-- slices_partialInsertionSortCmpFunc_A4_'o_i_compareCards -/
noncomputable def slices_partialInsertionSortCmpFunc_A4_'o_i_compareCards_L1 (n : Nat) (go5 : Int × Int × Int × Int × (List (V4 Int)) → Option (Bool × (List (V4 Int)))) (go21 : Int × Int × Int × Int × Int × (List (V4 Int)) → Option (Bool × (List (V4 Int)))) (s22 : Int × Int × Int × Int × Int × (List (V4 Int))) : Option (Bool × (List (V4 Int))) :=
  br (decide (s22.2.2.2.2.1 < s22.2.1)) (ckb (inb s22.2.2.2.2.1 s22.2.2.2.2.2.length) (lt (w64 (s22.2.2.2.2.1 - 1)) fun (x23 : Int) => ckb (inb x23 s22.2.2.2.2.2.length) (ob (i_compareCards n (gl (⟨0, 0, 0, 0⟩ : (V4 Int)) s22.2.2.2.2.2 s22.2.2.2.2.1.toNat) (gl (⟨0, 0, 0, 0⟩ : (V4 Int)) s22.2.2.2.2.2 x23.toNat)) fun (r24 : Int) => br (! (decide (r24 < 0))) (lt (w64 (s22.2.2.2.1 + 1)) fun (x25 : Int) => go5 (s22.1, s22.2.1, s22.2.2.1, x25, s22.2.2.2.2.2)) (lt (w64 (s22.2.2.2.2.1 - 1)) fun (x26 : Int) => lt (w64 (s22.2.2.2.2.1 - 1)) fun (x27 : Int) => ckb (inb x27 s22.2.2.2.2.2.length) (ckb (inb s22.2.2.2.2.1 s22.2.2.2.2.2.length) (ckb (inb s22.2.2.2.2.1 s22.2.2.2.2.2.length) (lt (List.set s22.2.2.2.2.2 s22.2.2.2.2.1.toNat (gl (⟨0, 0, 0, 0⟩ : (V4 Int)) s22.2.2.2.2.2 x27.toNat)) fun (x28 : (List (V4 Int))) => ckb (inb x26 x28.length) (lt (List.set x28 x26.toNat (gl (⟨0, 0, 0, 0⟩ : (V4 Int)) s22.2.2.2.2.2 s22.2.2.2.2.1.toNat)) fun (x29 : (List (V4 Int))) => lt (w64 (s22.2.2.2.2.1 + 1)) fun (x30 : Int) => go21 (s22.1, s22.2.1, s22.2.2.1, s22.2.2.2.1, x30, x29))))))))) (lt (w64 (s22.2.2.2.1 + 1)) fun (x31 : Int) => go5 (s22.1, s22.2.1, s22.2.2.1, x31, s22.2.2.2.2.2))
noncomputable def slices_partialInsertionSortCmpFunc_A4_'o_i_compareCards_J2 (n : Nat) (go5 : Int × Int × Int × Int × (List (V4 Int)) → Option (Bool × (List (V4 Int)))) (s18 : Int × Int × Int × Int × (List (V4 Int))) : Option (Bool × (List (V4 Int))) :=
  lt (w64 (s18.2.1 - s18.2.2.1)) fun (x19 : Int) => br (decide (2 ≤ x19)) (lt (w64 (s18.2.2.1 + 1)) fun (x20 : Int) => fx (slices_partialInsertionSortCmpFunc_A4_'o_i_compareCards_L1 n go5) n (s18.1, s18.2.1, s18.2.2.1, s18.2.2.2.1, x20, s18.2.2.2.2)) (lt (w64 (s18.2.2.2.1 + 1)) fun (x32 : Int) => go5 (s18.1, s18.2.1, s18.2.2.1, x32, s18.2.2.2.2))
noncomputable def slices_partialInsertionSortCmpFunc_A4_'o_i_compareCards_L3 (n : Nat) (go5 : Int × Int × Int × Int × (List (V4 Int)) → Option (Bool × (List (V4 Int)))) (go35 : Int × Int × Int × Int × Int × (List (V4 Int)) → Option (Bool × (List (V4 Int)))) (s36 : Int × Int × Int × Int × Int × (List (V4 Int))) : Option (Bool × (List (V4 Int))) :=
  br (decide (1 ≤ s36.2.2.2.2.1)) (ckb (inb s36.2.2.2.2.1 s36.2.2.2.2.2.length) (lt (w64 (s36.2.2.2.2.1 - 1)) fun (x37 : Int) => ckb (inb x37 s36.2.2.2.2.2.length) (ob (i_compareCards n (gl (⟨0, 0, 0, 0⟩ : (V4 Int)) s36.2.2.2.2.2 s36.2.2.2.2.1.toNat) (gl (⟨0, 0, 0, 0⟩ : (V4 Int)) s36.2.2.2.2.2 x37.toNat)) fun (r38 : Int) => br (! (decide (r38 < 0))) (slices_partialInsertionSortCmpFunc_A4_'o_i_compareCards_J2 n go5 (s36.1, s36.2.1, s36.2.2.1, s36.2.2.2.1, s36.2.2.2.2.2)) (lt (w64 (s36.2.2.2.2.1 - 1)) fun (x39 : Int) => lt (w64 (s36.2.2.2.2.1 - 1)) fun (x40 : Int) => ckb (inb x40 s36.2.2.2.2.2.length) (ckb (inb s36.2.2.2.2.1 s36.2.2.2.2.2.length) (ckb (inb s36.2.2.2.2.1 s36.2.2.2.2.2.length) (lt (List.set s36.2.2.2.2.2 s36.2.2.2.2.1.toNat (gl (⟨0, 0, 0, 0⟩ : (V4 Int)) s36.2.2.2.2.2 x40.toNat)) fun (x41 : (List (V4 Int))) => ckb (inb x39 x41.length) (lt (List.set x41 x39.toNat (gl (⟨0, 0, 0, 0⟩ : (V4 Int)) s36.2.2.2.2.2 s36.2.2.2.2.1.toNat)) fun (x42 : (List (V4 Int))) => lt (w64 (s36.2.2.2.2.1 - 1)) fun (x43 : Int) => go35 (s36.1, s36.2.1, s36.2.2.1, s36.2.2.2.1, x43, x42))))))))) (slices_partialInsertionSortCmpFunc_A4_'o_i_compareCards_J2 n go5 (s36.1, s36.2.1, s36.2.2.1, s36.2.2.2.1, s36.2.2.2.2.2))
noncomputable def slices_partialInsertionSortCmpFunc_A4_'o_i_compareCards_L4 (n : Nat) (go5 : Int × Int × Int × Int × (List (V4 Int)) → Option (Bool × (List (V4 Int)))) (go7 : Int × Int × Int × Int × (List (V4 Int)) → Option (Bool × (List (V4 Int)))) (s8 : Int × Int × Int × Int × (List (V4 Int))) : Option (Bool × (List (V4 Int))) :=
  ob (br (decide (s8.2.2.1 < s8.2.1)) (ckb (inb s8.2.2.1 s8.2.2.2.2.length) (lt (w64 (s8.2.2.1 - 1)) fun (x9 : Int) => ckb (inb x9 s8.2.2.2.2.length) (ob (i_compareCards n (gl (⟨0, 0, 0, 0⟩ : (V4 Int)) s8.2.2.2.2 s8.2.2.1.toNat) (gl (⟨0, 0, 0, 0⟩ : (V4 Int)) s8.2.2.2.2 x9.toNat)) fun (r10 : Int) => some (! (decide (r10 < 0)))))) (some false)) fun (x11 : Bool) => br x11 (lt (w64 (s8.2.2.1 + 1)) fun (x12 : Int) => go7 (s8.1, s8.2.1, x12, s8.2.2.2.1, s8.2.2.2.2)) (br (decide (s8.2.2.1 = s8.2.1)) (some (true, s8.2.2.2.2)) (lt (w64 (s8.2.1 - s8.1)) fun (x13 : Int) => br (decide (x13 < 50)) (some (false, s8.2.2.2.2)) (lt (w64 (s8.2.2.1 - 1)) fun (x14 : Int) => lt (w64 (s8.2.2.1 - 1)) fun (x15 : Int) => ckb (inb x15 s8.2.2.2.2.length) (ckb (inb s8.2.2.1 s8.2.2.2.2.length) (ckb (inb s8.2.2.1 s8.2.2.2.2.length) (lt (List.set s8.2.2.2.2 s8.2.2.1.toNat (gl (⟨0, 0, 0, 0⟩ : (V4 Int)) s8.2.2.2.2 x15.toNat)) fun (x16 : (List (V4 Int))) => ckb (inb x14 x16.length) (lt (List.set x16 x14.toNat (gl (⟨0, 0, 0, 0⟩ : (V4 Int)) s8.2.2.2.2 s8.2.2.1.toNat)) fun (x17 : (List (V4 Int))) => lt (w64 (s8.2.2.1 - s8.1)) fun (x33 : Int) => br (decide (2 ≤ x33)) (lt (w64 (s8.2.2.1 - 1)) fun (x34 : Int) => fx (slices_partialInsertionSortCmpFunc_A4_'o_i_compareCards_L3 n go5) n (s8.1, s8.2.1, s8.2.2.1, s8.2.2.2.1, x34, x17)) (slices_partialInsertionSortCmpFunc_A4_'o_i_compareCards_J2 n go5 (s8.1, s8.2.1, s8.2.2.1, s8.2.2.2.1, x17)))))))))
noncomputable def slices_partialInsertionSortCmpFunc_A4_'o_i_compareCards_L5 (n : Nat) (go5 : Int × Int × Int × Int × (List (V4 Int)) → Option (Bool × (List (V4 Int)))) (s6 : Int × Int × Int × Int × (List (V4 Int))) : Option (Bool × (List (V4 Int))) :=
  br (decide (s6.2.2.2.1 < 5)) (fx (slices_partialInsertionSortCmpFunc_A4_'o_i_compareCards_L4 n go5) n (s6.1, s6.2.1, s6.2.2.1, s6.2.2.2.1, s6.2.2.2.2)) (some (false, s6.2.2.2.2))
noncomputable def slices_partialInsertionSortCmpFunc_A4_'o_i_compareCards (n : Nat) (a1 : Int) (a2 : Int) (a3 : (List (V4 Int))) : Option (Bool × (List (V4 Int))) :=
  lt (w64 (a1 + 1)) fun (x4 : Int) => fx (slices_partialInsertionSortCmpFunc_A4_'o_i_compareCards_L5 n) n (a1, a2, x4, 0, a3)

/-- slices_partitionEqualCmpFunc_A4_'o_i_compareCards -/
noncomputable def slices_partitionEqualCmpFunc_A4_'o_i_compareCards_L1 (n : Nat) (go9 : Int × Int × Int × (List (V4 Int)) → Option (Int × (List (V4 Int)))) (go16 : Int × Int × Int × (List (V4 Int)) → Option (Int × (List (V4 Int)))) (s17 : Int × Int × Int × (List (V4 Int))) : Option (Int × (List (V4 Int))) :=
  ob (br (decide (s17.2.1 ≤ s17.2.2.1)) (ckb (inb s17.1 s17.2.2.2.length) (ckb (inb s17.2.2.1 s17.2.2.2.length) (ob (i_compareCards n (gl (⟨0, 0, 0, 0⟩ : (V4 Int)) s17.2.2.2 s17.1.toNat) (gl (⟨0, 0, 0, 0⟩ : (V4 Int)) s17.2.2.2 s17.2.2.1.toNat)) fun (r18 : Int) => some (decide (r18 < 0))))) (some false)) fun (x19 : Bool) => br x19 (lt (w64 (s17.2.2.1 - 1)) fun (x20 : Int) => go16 (s17.1, s17.2.1, x20, s17.2.2.2)) (br (decide (s17.2.2.1 < s17.2.1)) (some (s17.2.1, s17.2.2.2)) (ckb (inb s17.2.2.1 s17.2.2.2.length) (ckb (inb s17.2.1 s17.2.2.2.length) (ckb (inb s17.2.1 s17.2.2.2.length) (lt (List.set s17.2.2.2 s17.2.1.toNat (gl (⟨0, 0, 0, 0⟩ : (V4 Int)) s17.2.2.2 s17.2.2.1.toNat)) fun (x21 : (List (V4 Int))) => ckb (inb s17.2.2.1 x21.length) (lt (List.set x21 s17.2.2.1.toNat (gl (⟨0, 0, 0, 0⟩ : (V4 Int)) s17.2.2.2 s17.2.1.toNat)) fun (x22 : (List (V4 Int))) => lt (w64 (s17.2.1 + 1)) fun (x23 : Int) => lt (w64 (s17.2.2.1 - 1)) fun (x24 : Int) => go9 (s17.1, x23, x24, x22)))))))
noncomputable def slices_partitionEqualCmpFunc_A4_'o_i_compareCards_L2 (n : Nat) (go9 : Int × Int × Int × (List (V4 Int)) → Option (Int × (List (V4 Int)))) (go11 : Int × Int × Int × (List (V4 Int)) → Option (Int × (List (V4 Int)))) (s12 : Int × Int × Int × (List (V4 Int))) : Option (Int × (List (V4 Int))) :=
  ob (br (decide (s12.2.1 ≤ s12.2.2.1)) (ckb (inb s12.1 s12.2.2.2.length) (ckb (inb s12.2.1 s12.2.2.2.length) (ob (i_compareCards n (gl (⟨0, 0, 0, 0⟩ : (V4 Int)) s12.2.2.2 s12.1.toNat) (gl (⟨0, 0, 0, 0⟩ : (V4 Int)) s12.2.2.2 s12.2.1.toNat)) fun (r13 : Int) => some (! (decide (r13 < 0)))))) (some false)) fun (x14 : Bool) => br x14 (lt (w64 (s12.2.1 + 1)) fun (x15 : Int) => go11 (s12.1, x15, s12.2.2.1, s12.2.2.2)) (fx (slices_partitionEqualCmpFunc_A4_'o_i_compareCards_L1 n go9) n (s12.1, s12.2.1, s12.2.2.1, s12.2.2.2))
noncomputable def slices_partitionEqualCmpFunc_A4_'o_i_compareCards_L3 (n : Nat) (go9 : Int × Int × Int × (List (V4 Int)) → Option (Int × (List (V4 Int)))) (s10 : Int × Int × Int × (List (V4 Int))) : Option (Int × (List (V4 Int))) :=
  fx (slices_partitionEqualCmpFunc_A4_'o_i_compareCards_L2 n go9) n (s10.1, s10.2.1, s10.2.2.1, s10.2.2.2)
noncomputable def slices_partitionEqualCmpFunc_A4_'o_i_compareCards (n : Nat) (a1 : Int) (a2 : Int) (a3 : Int) (a4 : (List (V4 Int))) : Option (Int × (List (V4 Int))) :=
  ckb (inb a3 a4.length) (ckb (inb a1 a4.length) (ckb (inb a1 a4.length) (lt (List.set a4 a1.toNat (gl (⟨0, 0, 0, 0⟩ : (V4 Int)) a4 a3.toNat)) fun (x5 : (List (V4 Int))) => ckb (inb a3 x5.length) (lt (List.set x5 a3.toNat (gl (⟨0, 0, 0, 0⟩ : (V4 Int)) a4 a1.toNat)) fun (x6 : (List (V4 Int))) => lt (w64 (a1 + 1)) fun (x7 : Int) => lt (w64 (a2 - 1)) fun (x8 : Int) => fx (slices_partitionEqualCmpFunc_A4_'o_i_compareCards_L3 n) n (a1, x7, x8, x6)))))

/-- slices_partitionCmpFunc_A4_'o_i_compareCards -/
noncomputable def slices_partitionCmpFunc_A4_'o_i_compareCards_L1 (n : Nat) (go25 : Int × Int × Int × (List (V4 Int)) → Option (Int × Bool × (List (V4 Int)))) (go32 : Int × Int × Int × (List (V4 Int)) → Option (Int × Bool × (List (V4 Int)))) (s33 : Int × Int × Int × (List (V4 Int))) : Option (Int × Bool × (List (V4 Int))) :=
  ob (br (decide (s33.2.1 ≤ s33.2.2.1)) (ckb (inb s33.2.2.1 s33.2.2.2.length) (ckb (inb s33.1 s33.2.2.2.length) (ob (i_compareCards n (gl (⟨0, 0, 0, 0⟩ : (V4 Int)) s33.2.2.2 s33.2.2.1.toNat) (gl (⟨0, 0, 0, 0⟩ : (V4 Int)) s33.2.2.2 s33.1.toNat)) fun (r34 : Int) => some (! (decide (r34 < 0)))))) (some false)) fun (x35 : Bool) => br x35 (lt (w64 (s33.2.2.1 - 1)) fun (x36 : Int) => go32 (s33.1, s33.2.1, x36, s33.2.2.2)) (br (decide (s33.2.2.1 < s33.2.1)) (ckb (inb s33.1 s33.2.2.2.length) (ckb (inb s33.2.2.1 s33.2.2.2.length) (ckb (inb s33.2.2.1 s33.2.2.2.length) (lt (List.set s33.2.2.2 s33.2.2.1.toNat (gl (⟨0, 0, 0, 0⟩ : (V4 Int)) s33.2.2.2 s33.1.toNat)) fun (x37 : (List (V4 Int))) => ckb (inb s33.1 x37.length) (lt (List.set x37 s33.1.toNat (gl (⟨0, 0, 0, 0⟩ : (V4 Int)) s33.2.2.2 s33.2.2.1.toNat)) fun (x38 : (List (V4 Int))) => some (s33.2.2.1, false, x38)))))) (ckb (inb s33.2.2.1 s33.2.2.2.length) (ckb (inb s33.2.1 s33.2.2.2.length) (ckb (inb s33.2.1 s33.2.2.2.length) (lt (List.set s33.2.2.2 s33.2.1.toNat (gl (⟨0, 0, 0, 0⟩ : (V4 Int)) s33.2.2.2 s33.2.2.1.toNat)) fun (x39 : (List (V4 Int))) => ckb (inb s33.2.2.1 x39.length) (lt (List.set x39 s33.2.2.1.toNat (gl (⟨0, 0, 0, 0⟩ : (V4 Int)) s33.2.2.2 s33.2.1.toNat)) fun (x40 : (List (V4 Int))) => lt (w64 (s33.2.1 + 1)) fun (x41 : Int) => lt (w64 (s33.2.2.1 - 1)) fun (x42 : Int) => go25 (s33.1, x41, x42, x40)))))))
noncomputable def slices_partitionCmpFunc_A4_'o_i_compareCards_L2 (n : Nat) (go25 : Int × Int × Int × (List (V4 Int)) → Option (Int × Bool × (List (V4 Int)))) (go27 : Int × Int × Int × (List (V4 Int)) → Option (Int × Bool × (List (V4 Int)))) (s28 : Int × Int × Int × (List (V4 Int))) : Option (Int × Bool × (List (V4 Int))) :=
  ob (br (decide (s28.2.1 ≤ s28.2.2.1)) (ckb (inb s28.2.1 s28.2.2.2.length) (ckb (inb s28.1 s28.2.2.2.length) (ob (i_compareCards n (gl (⟨0, 0, 0, 0⟩ : (V4 Int)) s28.2.2.2 s28.2.1.toNat) (gl (⟨0, 0, 0, 0⟩ : (V4 Int)) s28.2.2.2 s28.1.toNat)) fun (r29 : Int) => some (decide (r29 < 0))))) (some false)) fun (x30 : Bool) => br x30 (lt (w64 (s28.2.1 + 1)) fun (x31 : Int) => go27 (s28.1, x31, s28.2.2.1, s28.2.2.2)) (fx (slices_partitionCmpFunc_A4_'o_i_compareCards_L1 n go25) n (s28.1, s28.2.1, s28.2.2.1, s28.2.2.2))
noncomputable def slices_partitionCmpFunc_A4_'o_i_compareCards_L3 (n : Nat) (go25 : Int × Int × Int × (List (V4 Int)) → Option (Int × Bool × (List (V4 Int)))) (s26 : Int × Int × Int × (List (V4 Int))) : Option (Int × Bool × (List (V4 Int))) :=
  fx (slices_partitionCmpFunc_A4_'o_i_compareCards_L2 n go25) n (s26.1, s26.2.1, s26.2.2.1, s26.2.2.2)
noncomputable def slices_partitionCmpFunc_A4_'o_i_compareCards_L4 (n : Nat) (go14 : Int × Int × Int × (List (V4 Int)) → Option (Int × Bool × (List (V4 Int)))) (s15 : Int × Int × Int × (List (V4 Int))) : Option (Int × Bool × (List (V4 Int))) :=
  ob (br (decide (s15.2.1 ≤ s15.2.2.1)) (ckb (inb s15.2.2.1 s15.2.2.2.length) (ckb (inb s15.1 s15.2.2.2.length) (ob (i_compareCards n (gl (⟨0, 0, 0, 0⟩ : (V4 Int)) s15.2.2.2 s15.2.2.1.toNat) (gl (⟨0, 0, 0, 0⟩ : (V4 Int)) s15.2.2.2 s15.1.toNat)) fun (r16 : Int) => some (! (decide (r16 < 0)))))) (some false)) fun (x17 : Bool) => br x17 (lt (w64 (s15.2.2.1 - 1)) fun (x18 : Int) => go14 (s15.1, s15.2.1, x18, s15.2.2.2)) (br (decide (s15.2.2.1 < s15.2.1)) (ckb (inb s15.1 s15.2.2.2.length) (ckb (inb s15.2.2.1 s15.2.2.2.length) (ckb (inb s15.2.2.1 s15.2.2.2.length) (lt (List.set s15.2.2.2 s15.2.2.1.toNat (gl (⟨0, 0, 0, 0⟩ : (V4 Int)) s15.2.2.2 s15.1.toNat)) fun (x19 : (List (V4 Int))) => ckb (inb s15.1 x19.length) (lt (List.set x19 s15.1.toNat (gl (⟨0, 0, 0, 0⟩ : (V4 Int)) s15.2.2.2 s15.2.2.1.toNat)) fun (x20 : (List (V4 Int))) => some (s15.2.2.1, true, x20)))))) (ckb (inb s15.2.2.1 s15.2.2.2.length) (ckb (inb s15.2.1 s15.2.2.2.length) (ckb (inb s15.2.1 s15.2.2.2.length) (lt (List.set s15.2.2.2 s15.2.1.toNat (gl (⟨0, 0, 0, 0⟩ : (V4 Int)) s15.2.2.2 s15.2.2.1.toNat)) fun (x21 : (List (V4 Int))) => ckb (inb s15.2.2.1 x21.length) (lt (List.set x21 s15.2.2.1.toNat (gl (⟨0, 0, 0, 0⟩ : (V4 Int)) s15.2.2.2 s15.2.1.toNat)) fun (x22 : (List (V4 Int))) => lt (w64 (s15.2.1 + 1)) fun (x23 : Int) => lt (w64 (s15.2.2.1 - 1)) fun (x24 : Int) => fx (slices_partitionCmpFunc_A4_'o_i_compareCards_L3 n) n (s15.1, x23, x24, x22)))))))
noncomputable def slices_partitionCmpFunc_A4_'o_i_compareCards_L5 (n : Nat) (go9 : Int × Int × Int × (List (V4 Int)) → Option (Int × Bool × (List (V4 Int)))) (s10 : Int × Int × Int × (List (V4 Int))) : Option (Int × Bool × (List (V4 Int))) :=
  ob (br (decide (s10.2.1 ≤ s10.2.2.1)) (ckb (inb s10.2.1 s10.2.2.2.length) (ckb (inb s10.1 s10.2.2.2.length) (ob (i_compareCards n (gl (⟨0, 0, 0, 0⟩ : (V4 Int)) s10.2.2.2 s10.2.1.toNat) (gl (⟨0, 0, 0, 0⟩ : (V4 Int)) s10.2.2.2 s10.1.toNat)) fun (r11 : Int) => some (decide (r11 < 0))))) (some false)) fun (x12 : Bool) => br x12 (lt (w64 (s10.2.1 + 1)) fun (x13 : Int) => go9 (s10.1, x13, s10.2.2.1, s10.2.2.2)) (fx (slices_partitionCmpFunc_A4_'o_i_compareCards_L4 n) n (s10.1, s10.2.1, s10.2.2.1, s10.2.2.2))
noncomputable def slices_partitionCmpFunc_A4_'o_i_compareCards (n : Nat) (a1 : Int) (a2 : Int) (a3 : Int) (a4 : (List (V4 Int))) : Option (Int × Bool × (List (V4 Int))) :=
  ckb (inb a3 a4.length) (ckb (inb a1 a4.length) (ckb (inb a1 a4.length) (lt (List.set a4 a1.toNat (gl (⟨0, 0, 0, 0⟩ : (V4 Int)) a4 a3.toNat)) fun (x5 : (List (V4 Int))) => ckb (inb a3 x5.length) (lt (List.set x5 a3.toNat (gl (⟨0, 0, 0, 0⟩ : (V4 Int)) a4 a1.toNat)) fun (x6 : (List (V4 Int))) => lt (w64 (a1 + 1)) fun (x7 : Int) => lt (w64 (a2 - 1)) fun (x8 : Int) => fx (slices_partitionCmpFunc_A4_'o_i_compareCards_L5 n) n (a1, x7, x8, x6)))))

/-- slices_pdqsortCmpFunc_A4_'o_i_compareCards -/
noncomputable def slices_pdqsortCmpFunc_A4_'o_i_compareCards_J1 (n : Nat) (go0 : Int × Int × Int × (List (V4 Int)) → Option ((List (V4 Int)))) (go5 : Int × Int × Int × Bool × Bool × (List (V4 Int)) → Option ((List (V4 Int)))) (s13 : Int × Int × Int × Bool × Bool × Int × Int × (List (V4 Int))) : Option ((List (V4 Int))) :=
  ob (br (decide (0 < s13.1)) (lt (w64 (s13.1 - 1)) fun (x14 : Int) => ckb (inb x14 s13.2.2.2.2.2.2.2.length) (ckb (inb s13.2.2.2.2.2.2.1 s13.2.2.2.2.2.2.2.length) (ob (i_compareCards n (gl (⟨0, 0, 0, 0⟩ : (V4 Int)) s13.2.2.2.2.2.2.2 x14.toNat) (gl (⟨0, 0, 0, 0⟩ : (V4 Int)) s13.2.2.2.2.2.2.2 s13.2.2.2.2.2.2.1.toNat)) fun (r15 : Int) => some (! (decide (r15 < 0)))))) (some false)) fun (x16 : Bool) => br x16 (ob (slices_partitionEqualCmpFunc_A4_'o_i_compareCards n s13.1 s13.2.1 s13.2.2.2.2.2.2.1 s13.2.2.2.2.2.2.2) fun (r17 : Int × (List (V4 Int))) => go5 (r17.1, s13.2.1, s13.2.2.1, s13.2.2.2.1, s13.2.2.2.2.1, r17.2)) (ob (slices_partitionCmpFunc_A4_'o_i_compareCards n s13.1 s13.2.1 s13.2.2.2.2.2.2.1 s13.2.2.2.2.2.2.2) fun (r18 : Int × Bool × (List (V4 Int))) => lt (w64 (r18.1 - s13.1)) fun (x19 : Int) => lt (w64 (s13.2.1 - r18.1)) fun (x20 : Int) => lt (w64 (Int.tdiv s13.2.2.2.2.2.1 8)) fun (x21 : Int) => br (decide (x19 < x20)) (ob (go0 (s13.1, r18.1, s13.2.2.1, r18.2.2)) fun (r22 : (List (V4 Int))) => lt (w64 (r18.1 + 1)) fun (x23 : Int) => go5 (x23, s13.2.1, s13.2.2.1, (decide (x21 ≤ x19)), r18.2.1, r22)) (lt (w64 (r18.1 + 1)) fun (x24 : Int) => ob (go0 (x24, s13.2.1, s13.2.2.1, r18.2.2)) fun (r25 : (List (V4 Int))) => go5 (s13.1, r18.1, s13.2.2.1, (decide (x21 ≤ x20)), r18.2.1, r25)))
noncomputable def slices_pdqsortCmpFunc_A4_'o_i_compareCards_J2 (n : Nat) (go0 : Int × Int × Int × (List (V4 Int)) → Option ((List (V4 Int)))) (go5 : Int × Int × Int × Bool × Bool × (List (V4 Int)) → Option ((List (V4 Int)))) (s12 : Int × Int × Int × Bool × Bool × Int × Int × Int × (List (V4 Int))) : Option ((List (V4 Int))) :=
  ob (br s12.2.2.2.1 (some s12.2.2.2.2.1) (some false)) fun (x26 : Bool) => ob (br x26 (some (decide (s12.2.2.2.2.2.2.2.1 = 1))) (some false)) fun (x27 : Bool) => br x27 (ob (slices_partialInsertionSortCmpFunc_A4_'o_i_compareCards n s12.1 s12.2.1 s12.2.2.2.2.2.2.2.2) fun (r28 : Bool × (List (V4 Int))) => br r28.1 (some r28.2) (slices_pdqsortCmpFunc_A4_'o_i_compareCards_J1 n go0 go5 (s12.1, s12.2.1, s12.2.2.1, s12.2.2.2.1, s12.2.2.2.2.1, s12.2.2.2.2.2.1, s12.2.2.2.2.2.2.1, r28.2))) (slices_pdqsortCmpFunc_A4_'o_i_compareCards_J1 n go0 go5 (s12.1, s12.2.1, s12.2.2.1, s12.2.2.2.1, s12.2.2.2.2.1, s12.2.2.2.2.2.1, s12.2.2.2.2.2.2.1, s12.2.2.2.2.2.2.2.2))
noncomputable def slices_pdqsortCmpFunc_A4_'o_i_compareCards_J3 (n : Nat) (go0 : Int × Int × Int × (List (V4 Int)) → Option ((List (V4 Int)))) (go5 : Int × Int × Int × Bool × Bool × (List (V4 Int)) → Option ((List (V4 Int)))) (s10 : Int × Int × Int × Bool × Bool × Int × (List (V4 Int))) : Option ((List (V4 Int))) :=
  ob (slices_choosePivotCmpFunc_A4_'l_i_compareCards n s10.2.2.2.2.2.2 s10.1 s10.2.1) fun (r11 : Int × Int) => br (decide (r11.2 = 2)) (ob (slices_reverseRangeCmpFunc_A4_'o_i_compareCards n s10.1 s10.2.1 s10.2.2.2.2.2.2) fun (r29 : (List (V4 Int))) => lt (w64 (s10.2.1 - 1)) fun (x30 : Int) => lt (w64 (r11.1 - s10.1)) fun (x31 : Int) => lt (w64 (x30 - x31)) fun (x32 : Int) => slices_pdqsortCmpFunc_A4_'o_i_compareCards_J2 n go0 go5 (s10.1, s10.2.1, s10.2.2.1, s10.2.2.2.1, s10.2.2.2.2.1, s10.2.2.2.2.2.1, x32, 1, r29)) (slices_pdqsortCmpFunc_A4_'o_i_compareCards_J2 n go0 go5 (s10.1, s10.2.1, s10.2.2.1, s10.2.2.2.1, s10.2.2.2.2.1, s10.2.2.2.2.2.1, r11.1, r11.2, s10.2.2.2.2.2.2))
noncomputable def slices_pdqsortCmpFunc_A4_'o_i_compareCards_L4 (n : Nat) (go0 : Int × Int × Int × (List (V4 Int)) → Option ((List (V4 Int)))) (go5 : Int × Int × Int × Bool × Bool × (List (V4 Int)) → Option ((List (V4 Int)))) (s6 : Int × Int × Int × Bool × Bool × (List (V4 Int))) : Option ((List (V4 Int))) :=
  lt (w64 (s6.2.1 - s6.1)) fun (x7 : Int) => br (decide (x7 ≤ 12)) (ob (slices_insertionSortCmpFunc_A4_'o_i_compareCards n s6.1 s6.2.1 s6.2.2.2.2.2) fun (r8 : (List (V4 Int))) => some r8) (br (decide (s6.2.2.1 = 0)) (ob (slices_heapSortCmpFunc_A4_'o_i_compareCards n s6.1 s6.2.1 s6.2.2.2.2.2) fun (r9 : (List (V4 Int))) => some r9) (br (! s6.2.2.2.1) (ob (slices_breakPatternsCmpFunc_A4_'o_i_compareCards n s6.1 s6.2.1 s6.2.2.2.2.2) fun (r33 : (List (V4 Int))) => lt (w64 (s6.2.2.1 - 1)) fun (x34 : Int) => slices_pdqsortCmpFunc_A4_'o_i_compareCards_J3 n go0 go5 (s6.1, s6.2.1, x34, s6.2.2.2.1, s6.2.2.2.2.1, x7, r33)) (slices_pdqsortCmpFunc_A4_'o_i_compareCards_J3 n go0 go5 (s6.1, s6.2.1, s6.2.2.1, s6.2.2.2.1, s6.2.2.2.2.1, x7, s6.2.2.2.2.2))))
noncomputable def slices_pdqsortCmpFunc_A4_'o_i_compareCards_R (n : Nat) (go0 : Int × Int × Int × (List (V4 Int)) → Option ((List (V4 Int)))) (x : Int × Int × Int × (List (V4 Int))) : Option ((List (V4 Int))) :=
  (fun (a1 : Int) (a2 : Int) (a3 : Int) (a4 : (List (V4 Int))) => fx (slices_pdqsortCmpFunc_A4_'o_i_compareCards_L4 n go0) n (a1, a2, a3, true, true, a4)) x.1 x.2.1 x.2.2.1 x.2.2.2
noncomputable def slices_pdqsortCmpFunc_A4_'o_i_compareCards (n : Nat) (a1 : Int) (a2 : Int) (a3 : Int) (a4 : (List (V4 Int))) : Option ((List (V4 Int))) := fx (slices_pdqsortCmpFunc_A4_'o_i_compareCards_R n) n (a1, a2, a3, a4)

/-- slices_SortFunc_SA4_A4_'o_i_compareCards -/
noncomputable def slices_SortFunc_SA4_A4_'o_i_compareCards (n : Nat) (a1 : (List (V4 Int))) : Option ((List (V4 Int))) :=
  lt (IntKind.wrap .u64 (a1.length : Int)) fun (x2 : Int) => ob (math_bits_Len n x2) fun (r3 : Int) => ob (slices_pdqsortCmpFunc_A4_'o_i_compareCards n 0 (a1.length : Int) r3 a1) fun (r4 : (List (V4 Int))) => some r4

/-- slices_Compact_SA4_A4_'o -/
noncomputable def slices_Compact_SA4_A4_'o_L1 (n : Nat) (go5 : Int × Int × Int × Int × (List (V4 Int)) → Option ((List (V4 Int)))) (s6 : Int × Int × Int × Int × (List (V4 Int))) : Option ((List (V4 Int))) :=
  br (decide (s6.2.2.2.1 < (s6.2.2.1.toNat : Int))) (ckb (cand (inb s6.2.2.2.1 s6.2.2.1.toNat) (nlt (s6.2.1.toNat + s6.2.2.2.1.toNat) s6.2.2.2.2.length)) (lt (w64 (s6.2.2.2.1 - 1)) fun (x7 : Int) => ckb (cand (inb x7 s6.2.2.1.toNat) (nlt (s6.2.1.toNat + x7.toNat) s6.2.2.2.2.length)) (br (!eqd (gl (⟨0, 0, 0, 0⟩ : (V4 Int)) s6.2.2.2.2 (s6.2.1.toNat + s6.2.2.2.1.toNat)) (gl (⟨0, 0, 0, 0⟩ : (V4 Int)) s6.2.2.2.2 (s6.2.1.toNat + x7.toNat))) (ckb (cand (inb s6.2.2.2.1 s6.2.2.1.toNat) (nlt (s6.2.1.toNat + s6.2.2.2.1.toNat) s6.2.2.2.2.length)) (ckb (inb s6.1 s6.2.2.2.2.length) (lt (List.set s6.2.2.2.2 s6.1.toNat (gl (⟨0, 0, 0, 0⟩ : (V4 Int)) s6.2.2.2.2 (s6.2.1.toNat + s6.2.2.2.1.toNat))) fun (x8 : (List (V4 Int))) => lt (w64 (s6.1 + 1)) fun (x9 : Int) => lt (w64 (s6.2.2.2.1 + 1)) fun (x10 : Int) => go5 (x9, (s6.2.1.toNat : Int), (s6.2.2.1.toNat : Int), x10, x8)))) (lt (w64 (s6.2.2.2.1 + 1)) fun (x11 : Int) => go5 (s6.1, (s6.2.1.toNat : Int), (s6.2.2.1.toNat : Int), x11, s6.2.2.2.2))))) (ckb (slb s6.1 (s6.2.2.2.2.length : Int) s6.2.2.2.2.length) (ckb (slb 0 s6.1 (clr (⟨0, 0, 0, 0⟩ : (V4 Int)) s6.2.2.2.2 s6.1.toNat (w64 ((s6.2.2.2.2.length : Int) - s6.1)).toNat).length) (some (sub (clr (⟨0, 0, 0, 0⟩ : (V4 Int)) s6.2.2.2.2 s6.1.toNat (w64 ((s6.2.2.2.2.length : Int) - s6.1)).toNat) 0 (w64 (s6.1 - 0)).toNat))))
noncomputable def slices_Compact_SA4_A4_'o_L2 (n : Nat) (go2 : Int × (List (V4 Int)) → Option ((List (V4 Int)))) (s3 : Int × (List (V4 Int))) : Option ((List (V4 Int))) :=
  br (decide (s3.1 < (s3.2.length : Int))) (ckb (inb s3.1 s3.2.length) (lt (w64 (s3.1 - 1)) fun (x4 : Int) => ckb (inb x4 s3.2.length) (br (eqd (gl (⟨0, 0, 0, 0⟩ : (V4 Int)) s3.2 s3.1.toNat) (gl (⟨0, 0, 0, 0⟩ : (V4 Int)) s3.2 x4.toNat)) (ckb (slb s3.1 (s3.2.length : Int) s3.2.length) (fx (slices_Compact_SA4_A4_'o_L1 n) n (s3.1, (s3.1.toNat : Int), ((w64 ((s3.2.length : Int) - s3.1)).toNat : Int), 1, s3.2))) (lt (w64 (s3.1 + 1)) fun (x12 : Int) => go2 (x12, s3.2))))) (some s3.2)
noncomputable def slices_Compact_SA4_A4_'o (n : Nat) (a1 : (List (V4 Int))) : Option ((List (V4 Int))) :=
  br (decide ((a1.length : Int) < 2)) (some a1) (fx (slices_Compact_SA4_A4_'o_L2 n) n (1, a1))

/-- i_sorted -/
noncomputable def i_sorted (n : Nat) (a1 : (List (V4 Int))) : Option ((List (V4 Int))) :=
  ob (slices_Clone_SA4_A4_ n a1) fun (r2 : (List (V4 Int))) => ob (slices_SortFunc_SA4_A4_'o_i_compareCards n r2) fun (r3 : (List (V4 Int))) => ob (slices_Compact_SA4_A4_'o n r3) fun (r4 : (List (V4 Int))) => ob (slices_Clone_SA4_A4_ n r4) fun (r5 : (List (V4 Int))) => some r5

/-- i_differ -/
noncomputable def i_differ_L1 (n : Nat) (go3 : Int × Int × (V4 Int) × (V4 Int) → Option (Int)) (s4 : Int × Int × (V4 Int) × (V4 Int)) : Option (Int) :=
  br (decide (s4.2.1 < 4)) (ckb (inb s4.2.1 4) (ckb (inb s4.2.1 4) (br (!decide ((V4.get s4.2.2.1 s4.2.1.toNat) = (V4.get s4.2.2.2 s4.2.1.toNat))) (lt (w64 (s4.1 + 1)) fun (x5 : Int) => lt (w64 (s4.2.1 + 1)) fun (x6 : Int) => go3 (x5, x6, s4.2.2.1, s4.2.2.2)) (lt (w64 (s4.2.1 + 1)) fun (x7 : Int) => go3 (s4.1, x7, s4.2.2.1, s4.2.2.2))))) (some s4.1)
noncomputable def i_differ (n : Nat) (a1 : (V4 Int)) (a2 : (V4 Int)) : Option (Int) :=
  fx (i_differ_L1 n) n (0, 0, a1, a2)

/-- v_eqIntA4 -/
noncomputable def v_eqIntA4_L1 (n : Nat) (go3 : Int × (V4 Int) × (V4 Int) → Option (Bool)) (s4 : Int × (V4 Int) × (V4 Int)) : Option (Bool) :=
  br (decide (s4.1 < 4)) (ckb (inb s4.1 4) (ckb (inb s4.1 4) (br (!decide ((V4.get s4.2.1 s4.1.toNat) = (V4.get s4.2.2 s4.1.toNat))) (some false) (lt (w64 (s4.1 + 1)) fun (x5 : Int) => go3 (x5, s4.2.1, s4.2.2))))) (some true)
noncomputable def v_eqIntA4 (n : Nat) (a1 : (V4 Int)) (a2 : (V4 Int)) : Option (Bool) :=
  fx (v_eqIntA4_L1 n) n (0, a1, a2)

/-- v_vBig -/
noncomputable def v_vBig (n : Nat) (a1 : (List Int)) : Option (Bool) :=
  some (decide (65536 < (a1.length : Int)))

/-- s_Cur_next'p -/
noncomputable def s_Cur_next'p_J1 (n : Nat) (s2 : Int × ((List Int) × (Int × Int))) : Option (Int × ((List Int) × (Int × Int))) :=
  lt (w64 (s2.2.2.1 + 1)) fun (x3 : Int) => lt (s2.2.1, (x3, s2.2.2.2)) fun (x4 : ((List Int) × (Int × Int))) => lt (IntKind.wrap .u64 (x4.2.2 * 6364136223846793005)) fun (x5 : Int) => lt (IntKind.wrap .u64 s2.1) fun (x6 : Int) => lt (IntKind.wrap .u64 (x5 + x6)) fun (x7 : Int) => lt (IntKind.wrap .u64 (x7 + 462197)) fun (x8 : Int) => lt (x4.1, (x4.2.1, x8)) fun (x9 : ((List Int) × (Int × Int))) => br (decide (x9.2.1 ≤ (x9.1.length : Int))) (some (s2.1, x9)) (lt (shrI .u64 x9.2.2 40) fun (x10 : Int) => lt (bits .and .u64 x10 255) fun (x11 : Int) => lt (w64 x11) fun (x12 : Int) => some (x12, x9))
noncomputable def s_Cur_next'p (n : Nat) (a1 : ((List Int) × (Int × Int))) : Option (Int × ((List Int) × (Int × Int))) :=
  br (decide (a1.2.1 < (a1.1.length : Int))) (ckb (inb a1.2.1 a1.1.length) (lt (w64 (gl 0 a1.1 a1.2.1.toNat)) fun (x13 : Int) => s_Cur_next'p_J1 n (x13, a1))) (s_Cur_next'p_J1 n (0, a1))

/-- s_Cur_pick'p -/
noncomputable def s_Cur_pick'p (n : Nat) (a1 : Int) (a2 : ((List Int) × (Int × Int))) : Option (Int × ((List Int) × (Int × Int))) :=
  br (decide (a1 ≤ 1)) (some (0, a2)) (ob (s_Cur_next'p n a2) fun (r3 : Int × ((List Int) × (Int × Int))) => br (decide (200 < a1)) (lt (w64 (r3.1 * 256)) fun (x4 : Int) => ob (s_Cur_next'p n r3.2) fun (r5 : Int × ((List Int) × (Int × Int))) => lt (w64 (x4 + r5.1)) fun (x6 : Int) => ckb (!decide (a1 = 0)) (lt (Int.tmod x6 a1) fun (x7 : Int) => some (x7, r5.2))) (ckb (!decide (a1 = 0)) (lt (Int.tmod r3.1 a1) fun (x8 : Int) => some (x8, r3.2))))

/-- s_Cur_among'pl -/
noncomputable def s_Cur_among'pl (n : Nat) (a1 : (List Int)) (a2 : ((List Int) × (Int × Int))) : Option (Int × ((List Int) × (Int × Int))) :=
  ob (s_Cur_pick'p n (a1.length : Int) a2) fun (r3 : Int × ((List Int) × (Int × Int))) => ckb (inb r3.1 a1.length) (some ((gl 0 a1 r3.1.toNat), r3.2))

/-- i_choose -/
noncomputable def i_choose_L1 (n : Nat) (go3 : Int × Int × Int × Int → Option (Int)) (s4 : Int × Int × Int × Int) : Option (Int) :=
  br (decide (s4.2.2.2 < s4.2.2.1)) (lt (w64 (s4.1 - s4.2.2.2)) fun (x5 : Int) => lt (w64 (s4.2.1 * x5)) fun (x6 : Int) => lt (w64 (s4.2.2.2 + 1)) fun (x7 : Int) => ckb (!decide (x7 = 0)) (lt (w64 (Int.tdiv x6 x7)) fun (x8 : Int) => lt (w64 (s4.2.2.2 + 1)) fun (x9 : Int) => go3 (s4.1, x8, s4.2.2.1, x9))) (some s4.2.1)
noncomputable def i_choose (n : Nat) (a1 : Int) (a2 : Int) : Option (Int) :=
  fx (i_choose_L1 n) n (a1, 1, a2, 0)

/-- i_fraction -/
noncomputable def i_fraction_L1 (n : Nat) (go3 : Int × Int × Int × Int × (V2 Int) → Option ((V2 Int) × Bool)) (s4 : Int × Int × Int × Int × (V2 Int)) : Option ((V2 Int) × Bool) :=
  br (!decide (s4.2.2.2.1 = 0)) (ckb (!decide (s4.2.2.2.1 = 0)) (lt (Int.tmod s4.2.2.1 s4.2.2.2.1) fun (x5 : Int) => go3 (s4.1, s4.2.1, s4.2.2.2.1, x5, s4.2.2.2.2))) (ckb (!decide (s4.2.2.1 = 0)) (lt (w64 (Int.tdiv s4.1 s4.2.2.1)) fun (x6 : Int) => ckb (!decide (s4.2.2.1 = 0)) (lt (w64 (Int.tdiv s4.2.1 s4.2.2.1)) fun (x7 : Int) => lt (⟨x6, x7⟩ : (V2 Int)) fun (x8 : (V2 Int)) => some (x8, true))))
noncomputable def i_fraction (n : Nat) (a1 : Int) (a2 : Int) : Option ((V2 Int) × Bool) :=
  fx (i_fraction_L1 n) n (a1, a2, a1, a2, (⟨0, 0⟩ : (V2 Int)))

/-- s_l9Choose -/
noncomputable def s_l9Choose_L1 (n : Nat) (go3 : Int × Int × Int × Int → Option (Int)) (s4 : Int × Int × Int × Int) : Option (Int) :=
  br (decide (s4.2.2.2 < s4.2.1)) (lt (w64 (s4.1 - s4.2.2.2)) fun (x5 : Int) => lt (w64 (s4.2.2.1 * x5)) fun (x6 : Int) => lt (w64 (s4.2.2.2 + 1)) fun (x7 : Int) => ckb (!decide (x7 = 0)) (lt (w64 (Int.tdiv x6 x7)) fun (x8 : Int) => lt (w64 (s4.2.2.2 + 1)) fun (x9 : Int) => go3 (s4.1, s4.2.1, x8, x9))) (some s4.2.2.1)
noncomputable def s_l9Choose (n : Nat) (a1 : Int) (a2 : Int) : Option (Int) :=
  fx (s_l9Choose_L1 n) n (a1, a2, 1, 0)

/-- s_l1Most -/
noncomputable def s_l1Most (n : Nat) (a1 : Int) (a2 : Int) : Option (Int) :=
  br (decide (a2 < a1)) (some a1) (some a2)

/-- s_l9Cut -/
noncomputable def s_l9Cut_L1 (n : Nat) (go3 : Int × Int × Int × Int × (V2 Int) → Option ((V2 Int))) (s4 : Int × Int × Int × Int × (V2 Int)) : Option ((V2 Int)) :=
  br (decide (0 < s4.2.2.2.1)) (ckb (!decide (s4.2.2.2.1 = 0)) (lt (Int.tmod s4.2.2.1 s4.2.2.2.1) fun (x5 : Int) => go3 (s4.1, s4.2.1, s4.2.2.2.1, x5, s4.2.2.2.2))) (ob (s_l1Most n s4.2.2.1 1) fun (r6 : Int) => ckb (!decide (r6 = 0)) (lt (w64 (Int.tdiv s4.1 r6)) fun (x7 : Int) => ob (s_l1Most n s4.2.2.1 1) fun (r8 : Int) => ckb (!decide (r8 = 0)) (lt (w64 (Int.tdiv s4.2.1 r8)) fun (x9 : Int) => lt (⟨x7, x9⟩ : (V2 Int)) fun (x10 : (V2 Int)) => some x10)))
noncomputable def s_l9Cut (n : Nat) (a1 : Int) (a2 : Int) : Option ((V2 Int)) :=
  fx (s_l9Cut_L1 n) n (a1, a2, a1, a2, (⟨0, 0⟩ : (V2 Int)))

/-- v_vCut -/
noncomputable def v_vCut_J1 (n : Nat) (s3 : (List Int) × Int) : Option ((List Int)) :=
  ckb (slb s3.2 (s3.1.length : Int) s3.1.length) (ckb (apok 1 (0 + (sub s3.1 s3.2.toNat s3.1.length).length)) (lt (IntKind.wrap .u8 s3.2) fun (x4 : Int) => ckb (apok 1 ((sub s3.1 s3.2.toNat s3.1.length).length + 1)) (some ((sub s3.1 s3.2.toNat s3.1.length) ++ [x4]))))
noncomputable def v_vCut (n : Nat) (a1 : (List Int)) (a2 : Int) : Option ((List Int)) :=
  br (decide ((a1.length : Int) < a2)) (v_vCut_J1 n (a1, (a1.length : Int))) (v_vCut_J1 n (a1, a2))

/-- s_l2At -/
noncomputable def s_l2At (n : Nat) (a1 : Int) : Option ((V4 Int)) :=
  lt (w64 (Int.tdiv a1 27)) fun (x2 : Int) => lt (w64 (Int.tdiv a1 9)) fun (x3 : Int) => lt (Int.tmod x3 3) fun (x4 : Int) => lt (w64 (Int.tdiv a1 3)) fun (x5 : Int) => lt (Int.tmod x5 3) fun (x6 : Int) => lt (Int.tmod a1 3) fun (x7 : Int) => lt (⟨x2, x4, x6, x7⟩ : (V4 Int)) fun (x8 : (V4 Int)) => some x8

/-- s_l2Number -/
noncomputable def s_l2Number (n : Nat) (a1 : (V4 Int)) : Option (Int) :=
  lt (w64 (27 * a1.x0)) fun (x2 : Int) => lt (w64 (9 * a1.x1)) fun (x3 : Int) => lt (w64 (x2 + x3)) fun (x4 : Int) => lt (w64 (3 * a1.x2)) fun (x5 : Int) => lt (w64 (x4 + x5)) fun (x6 : Int) => lt (w64 (x6 + a1.x3)) fun (x7 : Int) => some x7

/-- s_l2Less -/
noncomputable def s_l2Less (n : Nat) (a1 : (V4 Int)) (a2 : (V4 Int)) : Option (Bool) :=
  ob (s_l2Number n a1) fun (r3 : Int) => ob (s_l2Number n a2) fun (r4 : Int) => some (decide (r3 < r4))

/-- s_l2Own -/
noncomputable def s_l2Own (n : Nat) (a1 : (List (V4 Int))) : Option ((List (V4 Int))) :=
  ckb (apok 32 (0 + a1.length)) (some a1)

/-- s_l2Put -/
noncomputable def s_l2Put_L1 (n : Nat) (go3 : (List (V4 Int)) × Int × (V4 Int) → Option ((List (V4 Int)))) (s4 : (List (V4 Int)) × Int × (V4 Int)) : Option ((List (V4 Int))) :=
  ob (br (decide (s4.2.1 < (s4.1.length : Int))) (ckb (inb s4.2.1 s4.1.length) (ob (s_l2Less n (gl (⟨0, 0, 0, 0⟩ : (V4 Int)) s4.1 s4.2.1.toNat) s4.2.2) fun (r5 : Bool) => some r5)) (some false)) fun (x6 : Bool) => br x6 (lt (w64 (s4.2.1 + 1)) fun (x7 : Int) => go3 (s4.1, x7, s4.2.2)) (ob (br (decide (s4.2.1 < (s4.1.length : Int))) (ckb (inb s4.2.1 s4.1.length) (some (eqd (gl (⟨0, 0, 0, 0⟩ : (V4 Int)) s4.1 s4.2.1.toNat) s4.2.2))) (some false)) fun (x8 : Bool) => br x8 (ob (s_l2Own n s4.1) fun (r9 : (List (V4 Int))) => some r9) (ckb (slb 0 s4.2.1 s4.1.length) (ob (s_l2Own n (sub s4.1 0 s4.2.1.toNat)) fun (r10 : (List (V4 Int))) => ckb (apok 32 (r10.length + 1)) (ckb (slb s4.2.1 (s4.1.length : Int) s4.1.length) (ckb (apok 32 ((r10 ++ [s4.2.2]).length + (sub s4.1 s4.2.1.toNat s4.1.length).length)) (some ((r10 ++ [s4.2.2]) ++ (sub s4.1 s4.2.1.toNat s4.1.length))))))))
noncomputable def s_l2Put (n : Nat) (a1 : (List (V4 Int))) (a2 : (V4 Int)) : Option ((List (V4 Int))) :=
  fx (s_l2Put_L1 n) n (a1, 0, a2)

/-- s_Cur_one'p -/
noncomputable def s_Cur_one'p (n : Nat) (a1 : Int) (a2 : ((List Int) × (Int × Int))) : Option (Bool × ((List Int) × (Int × Int))) :=
  ob (s_Cur_pick'p n a1 a2) fun (r3 : Int × ((List Int) × (Int × Int))) => some ((decide (r3.1 = 0)), r3.2)

/-- s_Cur_hand'p -/
noncomputable def s_Cur_hand'p_L1 (n : Nat) (go4 : Int × Int × ((List Int) × (Int × Int)) × (List (V4 Int)) → Option (((List Int) × (Int × Int)) × (List (V4 Int)))) (go8 : Int × Int × Int × ((List Int) × (Int × Int)) × (List (V4 Int)) × (V4 Int) → Option (((List Int) × (Int × Int)) × (List (V4 Int)))) (s9 : Int × Int × Int × ((List Int) × (Int × Int)) × (List (V4 Int)) × (V4 Int)) : Option (((List Int) × (Int × Int)) × (List (V4 Int))) :=
  br (decide (s9.2.2.1 < 4)) (ckb (inb s9.2.2.1 4) (lt (V4.set s9.2.2.2.2.2 s9.2.2.1.toNat 1) fun (x10 : (V4 Int)) => lt (w64 (s9.2.2.1 + 1)) fun (x11 : Int) => go8 (s9.1, s9.2.1, x11, s9.2.2.2.1, s9.2.2.2.2.1, x10))) (ob (s_l2Put n s9.2.2.2.2.1 s9.2.2.2.2.2) fun (r12 : (List (V4 Int))) => lt (w64 (s9.2.1 - 1)) fun (x13 : Int) => go4 (s9.1, x13, s9.2.2.2.1, r12))
noncomputable def s_Cur_hand'p_J2 (n : Nat) (s14 : Bool × ((List Int) × (Int × Int)) × (List (V4 Int))) : Option (((List Int) × (Int × Int)) × (List (V4 Int))) :=
  br s14.1 (ob (s_Cur_pick'p n (s14.2.2.length : Int) s14.2.1) fun (r15 : Int × ((List Int) × (Int × Int))) => ob (s_Cur_pick'p n 3 r15.2) fun (r16 : Int × ((List Int) × (Int × Int))) => br (decide (r16.1 = 0)) (ob (s_Cur_pick'p n 4 r16.2) fun (r17 : Int × ((List Int) × (Int × Int))) => ob (s_Cur_among'pl n [(-1), 3] r17.2) fun (r18 : Int × ((List Int) × (Int × Int))) => ckb (inb r15.1 s14.2.2.length) (ckb (inb r17.1 4) (lt (List.set s14.2.2 r15.1.toNat (V4.set (gl (⟨0, 0, 0, 0⟩ : (V4 Int)) s14.2.2 r15.1.toNat) r17.1.toNat r18.1)) fun (x19 : (List (V4 Int))) => some (r18.2, x19)))) (br (decide (r16.1 = 1)) (ckb (inb r15.1 s14.2.2.length) (ckb (apok 32 (s14.2.2.length + 1)) (some (r16.2, (s14.2.2 ++ [(gl (⟨0, 0, 0, 0⟩ : (V4 Int)) s14.2.2 r15.1.toNat)]))))) (ob (s_Cur_pick'p n 81 r16.2) fun (r20 : Int × ((List Int) × (Int × Int))) => ob (s_l2At n r20.1) fun (r21 : (V4 Int)) => ckb (inb r15.1 s14.2.2.length) (lt (List.set s14.2.2 r15.1.toNat r21) fun (x22 : (List (V4 Int))) => some (r20.2, x22))))) (some (s14.2.1, s14.2.2))
noncomputable def s_Cur_hand'p_L3 (n : Nat) (go4 : Int × Int × ((List Int) × (Int × Int)) × (List (V4 Int)) → Option (((List Int) × (Int × Int)) × (List (V4 Int)))) (s5 : Int × Int × ((List Int) × (Int × Int)) × (List (V4 Int))) : Option (((List Int) × (Int × Int)) × (List (V4 Int))) :=
  br (decide (0 < s5.2.1)) (ob (s_Cur_pick'p n 81 s5.2.2.1) fun (r6 : Int × ((List Int) × (Int × Int))) => ob (s_l2At n r6.1) fun (r7 : (V4 Int)) => fx (s_Cur_hand'p_L1 n go4) n (s5.1, s5.2.1, s5.1, r6.2, s5.2.2.2, r7)) (br (decide (0 < (s5.2.2.2.length : Int))) (ob (s_Cur_one'p n 24 s5.2.2.1) fun (r23 : Bool × ((List Int) × (Int × Int))) => s_Cur_hand'p_J2 n (r23.1, r23.2, s5.2.2.2)) (s_Cur_hand'p_J2 n (false, s5.2.2.1, s5.2.2.2)))
noncomputable def s_Cur_hand'p (n : Nat) (a1 : ((List Int) × (Int × Int))) : Option (((List Int) × (Int × Int)) × (List (V4 Int))) :=
  ob (s_Cur_among'pl n [4, 3, 4, 2] a1) fun (r2 : Int × ((List Int) × (Int × Int))) => ob (s_Cur_among'pl n [6, 9, 4, 12, 3, 2, 1, 0, 20, 26, 27, 28] r2.2) fun (r3 : Int × ((List Int) × (Int × Int))) => fx (s_Cur_hand'p_L3 n) n (r2.1, r3.1, r3.2, ([] : List (V4 Int)))

/-- s_l2Hand -/
noncomputable def s_l2Hand_L1 (n : Nat) (go2 : (List (V4 Int)) × Int → Option (Bool)) (s3 : (List (V4 Int)) × Int) : Option (Bool) :=
  ob (br (decide (s3.2 < (s3.1.length : Int))) (some (decide (s3.2 ≤ 27))) (some false)) fun (x4 : Bool) => br x4 (ckb (inb s3.2 s3.1.length) (ob (s_l2Card n (gl (⟨0, 0, 0, 0⟩ : (V4 Int)) s3.1 s3.2.toNat)) fun (r5 : Bool) => ob (br (! r5) (some true) (ob (br (decide (0 < s3.2)) (lt (w64 (s3.2 - 1)) fun (x6 : Int) => ckb (inb x6 s3.1.length) (ckb (inb s3.2 s3.1.length) (ob (s_l2Less n (gl (⟨0, 0, 0, 0⟩ : (V4 Int)) s3.1 x6.toNat) (gl (⟨0, 0, 0, 0⟩ : (V4 Int)) s3.1 s3.2.toNat)) fun (r7 : Bool) => some (! r7)))) (some false)) fun (x8 : Bool) => some x8)) fun (x9 : Bool) => br x9 (some false) (lt (w64 (s3.2 + 1)) fun (x10 : Int) => go2 (s3.1, x10)))) (some (decide ((s3.1.length : Int) ≤ 27)))
noncomputable def s_l2Hand (n : Nat) (a1 : (List (V4 Int))) : Option (Bool) :=
  fx (s_l2Hand_L1 n) n (a1, 0)

/-- s_l2Third -/
noncomputable def s_l2Third_L1 (n : Nat) (go4 : Int × (V4 Int) × (V4 Int) × (V4 Int) × (V4 Int) → Option ((V4 Int))) (s5 : Int × (V4 Int) × (V4 Int) × (V4 Int) × (V4 Int)) : Option ((V4 Int)) :=
  br (decide (s5.1 < 4)) (ckb (inb s5.1 4) (lt (w64 (6 - (V4.get s5.2.1 s5.1.toNat))) fun (x6 : Int) => ckb (inb s5.1 4) (lt (w64 (x6 - (V4.get s5.2.2.1 s5.1.toNat))) fun (x7 : Int) => lt (Int.tmod x7 3) fun (x8 : Int) => ckb (inb s5.1 4) (lt (V4.set s5.2.2.2.2 s5.1.toNat x8) fun (x9 : (V4 Int)) => lt (w64 (s5.1 + 1)) fun (x10 : Int) => go4 (x10, s5.2.1, s5.2.2.1, s5.2.2.2.1, x9))))) (some s5.2.2.2.2)
noncomputable def s_l2Third (n : Nat) (a1 : (V4 Int)) (a2 : (V4 Int)) : Option ((V4 Int)) :=
  lt (⟨0, 0, 0, 0⟩ : (V4 Int)) fun (x3 : (V4 Int)) => fx (s_l2Third_L1 n) n (0, a1, a2, (⟨0, 0, 0, 0⟩ : (V4 Int)), x3)

/-- s_Cur_dense7'p -/
noncomputable def s_Cur_dense7'p_J1 (n : Nat) (go6 : Int × ((List Int) × (Int × Int)) × (List (V4 Int)) → Option (((List Int) × (Int × Int)) × (List (V4 Int)))) (s12 : Int × ((List Int) × (Int × Int)) × (List (V4 Int)) × (V4 Int) × (V4 Int)) : Option (((List Int) × (Int × Int)) × (List (V4 Int))) :=
  ob (br (!eqd s12.2.2.2.1 s12.2.2.2.2) (some (decide ((s12.2.2.1.length : Int) < 13))) (some false)) fun (x13 : Bool) => br x13 (ob (s_l2Put n s12.2.2.1 s12.2.2.2.1) fun (r14 : (List (V4 Int))) => ob (s_l2Put n r14 s12.2.2.2.2) fun (r15 : (List (V4 Int))) => ob (s_l2Third n s12.2.2.2.1 s12.2.2.2.2) fun (r16 : (V4 Int)) => ob (s_l2Put n r15 r16) fun (r17 : (List (V4 Int))) => lt (w64 (s12.1 - 1)) fun (x18 : Int) => go6 (x18, s12.2.1, r17)) (lt (w64 (s12.1 - 1)) fun (x19 : Int) => go6 (x19, s12.2.1, s12.2.2.1))
noncomputable def s_Cur_dense7'p_J2 (n : Nat) (go6 : Int × ((List Int) × (Int × Int)) × (List (V4 Int)) → Option (((List Int) × (Int × Int)) × (List (V4 Int)))) (s20 : Int × Bool × ((List Int) × (Int × Int)) × (List (V4 Int)) × (V4 Int) × (V4 Int)) : Option (((List Int) × (Int × Int)) × (List (V4 Int))) :=
  br s20.2.1 (ob (s_Cur_pick'p n (s20.2.2.2.1.length : Int) s20.2.2.1) fun (r21 : Int × ((List Int) × (Int × Int))) => ckb (inb r21.1 s20.2.2.2.1.length) (s_Cur_dense7'p_J1 n go6 (s20.1, r21.2, s20.2.2.2.1, (gl (⟨0, 0, 0, 0⟩ : (V4 Int)) s20.2.2.2.1 r21.1.toNat), s20.2.2.2.2.2))) (s_Cur_dense7'p_J1 n go6 (s20.1, s20.2.2.1, s20.2.2.2.1, s20.2.2.2.2.1, s20.2.2.2.2.2))
noncomputable def s_Cur_dense7'p_L3 (n : Nat) (go6 : Int × ((List Int) × (Int × Int)) × (List (V4 Int)) → Option (((List Int) × (Int × Int)) × (List (V4 Int)))) (s7 : Int × ((List Int) × (Int × Int)) × (List (V4 Int))) : Option (((List Int) × (Int × Int)) × (List (V4 Int))) :=
  br (decide (0 < s7.1)) (ob (s_Cur_pick'p n 81 s7.2.1) fun (r8 : Int × ((List Int) × (Int × Int))) => ob (s_l2At n r8.1) fun (r9 : (V4 Int)) => ob (s_Cur_pick'p n 81 r8.2) fun (r10 : Int × ((List Int) × (Int × Int))) => ob (s_l2At n r10.1) fun (r11 : (V4 Int)) => br (decide (1 < (s7.2.2.length : Int))) (ob (s_Cur_one'p n 2 r10.2) fun (r22 : Bool × ((List Int) × (Int × Int))) => s_Cur_dense7'p_J2 n go6 (s7.1, r22.1, r22.2, s7.2.2, r9, r11)) (s_Cur_dense7'p_J2 n go6 (s7.1, false, r10.2, s7.2.2, r9, r11))) (some (s7.2.1, s7.2.2))
noncomputable def s_Cur_dense7'p_J4 (n : Nat) (s4 : Bool × ((List Int) × (Int × Int)) × (List (V4 Int))) : Option (((List Int) × (Int × Int)) × (List (V4 Int))) :=
  br s4.1 (some (s4.2.1, s4.2.2)) (ob (s_Cur_among'pl n [2, 3, 4, 5, 1] s4.2.1) fun (r5 : Int × ((List Int) × (Int × Int))) => fx (s_Cur_dense7'p_L3 n) n (r5.1, r5.2, ([] : List (V4 Int))))
noncomputable def s_Cur_dense7'p (n : Nat) (a1 : ((List Int) × (Int × Int))) : Option (((List Int) × (Int × Int)) × (List (V4 Int))) :=
  ob (s_Cur_hand'p n a1) fun (r2 : ((List Int) × (Int × Int)) × (List (V4 Int))) => ob (s_l2Hand n r2.2) fun (r3 : Bool) => br (! r3) (s_Cur_dense7'p_J4 n (true, r2.1, r2.2)) (ob (s_Cur_one'p n 4 r2.1) fun (r23 : Bool × ((List Int) × (Int × Int))) => s_Cur_dense7'p_J4 n (r23.1, r23.2, r2.2))

/-- i_IsHand -/
noncomputable def i_IsHand_L1 (n : Nat) (go2 : (List (V4 Int)) × (List (V4 Int)) × Int × Int → Option (Bool)) (s3 : (List (V4 Int)) × (List (V4 Int)) × Int × Int) : Option (Bool) :=
  br (decide (s3.2.2.2 < s3.2.2.1)) (ckb (inb s3.2.2.2 s3.2.1.length) (ob (i_IsCard n (gl (⟨0, 0, 0, 0⟩ : (V4 Int)) s3.2.1 s3.2.2.2.toNat)) fun (r4 : Bool) => ob (br (! r4) (some true) (ob (br (decide (0 < s3.2.2.2)) (lt (w64 (s3.2.2.2 - 1)) fun (x5 : Int) => ckb (inb x5 s3.1.length) (ob (i_number n (gl (⟨0, 0, 0, 0⟩ : (V4 Int)) s3.1 x5.toNat)) fun (r6 : Int) => ob (i_number n (gl (⟨0, 0, 0, 0⟩ : (V4 Int)) s3.2.1 s3.2.2.2.toNat)) fun (r7 : Int) => some (decide (r7 ≤ r6)))) (some false)) fun (x8 : Bool) => some x8)) fun (x9 : Bool) => br x9 (some false) (lt (w64 (s3.2.2.2 + 1)) fun (x10 : Int) => go2 (s3.1, s3.2.1, s3.2.2.1, x10)))) (some (decide ((s3.1.length : Int) ≤ 27)))
noncomputable def i_IsHand (n : Nat) (a1 : (List (V4 Int))) : Option (Bool) :=
  fx (i_IsHand_L1 n) n (a1, a1, (a1.length : Int), 0)

/-- i_card -/
noncomputable def i_card (n : Nat) (a1 : Int) : Option ((V4 Int)) :=
  lt (w64 (Int.tdiv a1 27)) fun (x2 : Int) => lt (w64 (Int.tdiv a1 9)) fun (x3 : Int) => lt (Int.tmod x3 3) fun (x4 : Int) => lt (w64 (Int.tdiv a1 3)) fun (x5 : Int) => lt (Int.tmod x5 3) fun (x6 : Int) => lt (Int.tmod a1 3) fun (x7 : Int) => lt (⟨x2, x4, x6, x7⟩ : (V4 Int)) fun (x8 : (V4 Int)) => some x8

/-- slices_Index_SA4_A4_ -/
noncomputable def slices_Index_SA4_A4__L1 (n : Nat) (go3 : (List (V4 Int)) × Int × Int × (V4 Int) → Option (Int)) (s4 : (List (V4 Int)) × Int × Int × (V4 Int)) : Option (Int) :=
  br (decide (s4.2.2.1 < s4.2.1)) (ckb (inb s4.2.2.1 s4.1.length) (br (eqd s4.2.2.2 (gl (⟨0, 0, 0, 0⟩ : (V4 Int)) s4.1 s4.2.2.1.toNat)) (some s4.2.2.1) (lt (w64 (s4.2.2.1 + 1)) fun (x5 : Int) => go3 (s4.1, s4.2.1, x5, s4.2.2.2)))) (some (-1))
noncomputable def slices_Index_SA4_A4_ (n : Nat) (a1 : (List (V4 Int))) (a2 : (V4 Int)) : Option (Int) :=
  fx (slices_Index_SA4_A4__L1 n) n (a1, (a1.length : Int), 0, a2)

/-- slices_Contains_SA4_A4_ -/
noncomputable def slices_Contains_SA4_A4_ (n : Nat) (a1 : (List (V4 Int))) (a2 : (V4 Int)) : Option (Bool) :=
  ob (slices_Index_SA4_A4_ n a1 a2) fun (r3 : Int) => some (decide (0 ≤ r3))

/-- i_has -/
noncomputable def i_has (n : Nat) (a1 : (List (V4 Int))) (a2 : (V4 Int)) : Option (Bool) :=
  ob (slices_Contains_SA4_A4_ n a1 a2) fun (r3 : Bool) => some r3

/-- i_third -/
noncomputable def i_third_L1 (n : Nat) (go4 : Int × (V4 Int) × (V4 Int) × (V4 Int) × (V4 Int) → Option ((V4 Int))) (s5 : Int × (V4 Int) × (V4 Int) × (V4 Int) × (V4 Int)) : Option ((V4 Int)) :=
  br (decide (s5.1 < 4)) (ckb (inb s5.1 4) (lt (w64 (6 - (V4.get s5.2.1 s5.1.toNat))) fun (x6 : Int) => ckb (inb s5.1 4) (lt (w64 (x6 - (V4.get s5.2.2.1 s5.1.toNat))) fun (x7 : Int) => lt (Int.tmod x7 3) fun (x8 : Int) => ckb (inb s5.1 4) (lt (V4.set s5.2.2.2.2 s5.1.toNat x8) fun (x9 : (V4 Int)) => lt (w64 (s5.1 + 1)) fun (x10 : Int) => go4 (x10, s5.2.1, s5.2.2.1, s5.2.2.2.1, x9))))) (some s5.2.2.2.2)
noncomputable def i_third (n : Nat) (a1 : (V4 Int)) (a2 : (V4 Int)) : Option ((V4 Int)) :=
  lt (⟨0, 0, 0, 0⟩ : (V4 Int)) fun (x3 : (V4 Int)) => fx (i_third_L1 n) n (0, a1, a2, (⟨0, 0, 0, 0⟩ : (V4 Int)), x3)

/-- i_pairsFor -/
noncomputable def i_pairsFor_L1 (n : Nat) (go3 : (List (V4 Int)) × (List (V4 Int)) × Int × Int × (V4 Int) × (List (V2 Int)) → Option ((List (V2 Int)))) (go6 : (List (V4 Int)) × Int × Int × (List (V4 Int)) × Int × Int × (V4 Int) × (List (V2 Int)) × (V4 Int) → Option ((List (V2 Int)))) (s7 : (List (V4 Int)) × Int × Int × (List (V4 Int)) × Int × Int × (V4 Int) × (List (V2 Int)) × (V4 Int)) : Option ((List (V2 Int))) :=
  br (decide (s7.2.2.1 < (s7.1.length : Int))) (ob (br (!eqd s7.2.2.2.2.2.2.2.2 s7.2.2.2.2.2.2.1) (ckb (inb s7.2.2.1 s7.1.length) (some (!eqd (gl (⟨0, 0, 0, 0⟩ : (V4 Int)) s7.1 s7.2.2.1.toNat) s7.2.2.2.2.2.2.1))) (some false)) fun (x8 : Bool) => ob (br x8 (ckb (inb s7.2.2.1 s7.1.length) (ob (i_third n s7.2.2.2.2.2.2.2.2 (gl (⟨0, 0, 0, 0⟩ : (V4 Int)) s7.1 s7.2.2.1.toNat)) fun (r9 : (V4 Int)) => some (eqd r9 s7.2.2.2.2.2.2.1))) (some false)) fun (x10 : Bool) => br x10 (lt (⟨s7.2.1, s7.2.2.1⟩ : (V2 Int)) fun (x11 : (V2 Int)) => ckb (apok 16 (s7.2.2.2.2.2.2.2.1.length + 1)) (lt (w64 (s7.2.2.1 + 1)) fun (x12 : Int) => go6 (s7.1, s7.2.1, x12, s7.2.2.2.1, s7.2.2.2.2.1, s7.2.2.2.2.2.1, s7.2.2.2.2.2.2.1, (s7.2.2.2.2.2.2.2.1 ++ [x11]), s7.2.2.2.2.2.2.2.2))) (lt (w64 (s7.2.2.1 + 1)) fun (x13 : Int) => go6 (s7.1, s7.2.1, x13, s7.2.2.2.1, s7.2.2.2.2.1, s7.2.2.2.2.2.1, s7.2.2.2.2.2.2.1, s7.2.2.2.2.2.2.2.1, s7.2.2.2.2.2.2.2.2))) (lt (w64 (s7.2.2.2.2.2.1 + 1)) fun (x14 : Int) => go3 (s7.1, s7.2.2.2.1, s7.2.2.2.2.1, x14, s7.2.2.2.2.2.2.1, s7.2.2.2.2.2.2.2.1))
noncomputable def i_pairsFor_L2 (n : Nat) (go3 : (List (V4 Int)) × (List (V4 Int)) × Int × Int × (V4 Int) × (List (V2 Int)) → Option ((List (V2 Int)))) (s4 : (List (V4 Int)) × (List (V4 Int)) × Int × Int × (V4 Int) × (List (V2 Int))) : Option ((List (V2 Int))) :=
  br (decide (s4.2.2.2.1 < s4.2.2.1)) (ckb (inb s4.2.2.2.1 s4.2.1.length) (lt (w64 (s4.2.2.2.1 + 1)) fun (x5 : Int) => fx (i_pairsFor_L1 n go3) n (s4.1, s4.2.2.2.1, x5, s4.2.1, s4.2.2.1, s4.2.2.2.1, s4.2.2.2.2.1, s4.2.2.2.2.2, (gl (⟨0, 0, 0, 0⟩ : (V4 Int)) s4.2.1 s4.2.2.2.1.toNat)))) (some s4.2.2.2.2.2)
noncomputable def i_pairsFor (n : Nat) (a1 : (List (V4 Int))) (a2 : (V4 Int)) : Option ((List (V2 Int))) :=
  fx (i_pairsFor_L2 n) n (a1, a1, (a1.length : Int), 0, a2, ([] : List (V2 Int)))

/-- i_linesIn -/
noncomputable def i_linesIn_L1 (n : Nat) (go9 : (List (V4 Int)) × (List (V4 Int)) × Int × Int × (VL 81 Int) × (List (V3 Int)) → Option ((List (V3 Int)))) (go12 : (List (V4 Int)) × Int × Int × (List (V4 Int)) × Int × Int × (VL 81 Int) × (List (V3 Int)) × (V4 Int) → Option ((List (V3 Int)))) (s13 : (List (V4 Int)) × Int × Int × (List (V4 Int)) × Int × Int × (VL 81 Int) × (List (V3 Int)) × (V4 Int)) : Option ((List (V3 Int))) :=
  br (decide (s13.2.2.1 < (s13.1.length : Int))) (ckb (inb s13.2.2.1 s13.1.length) (ob (i_third n s13.2.2.2.2.2.2.2.2 (gl (⟨0, 0, 0, 0⟩ : (V4 Int)) s13.1 s13.2.2.1.toNat)) fun (r14 : (V4 Int)) => ob (i_number n r14) fun (r15 : Int) => ckb (inb r15 81) (lt (w64 ((VL.get 0 s13.2.2.2.2.2.2.1 r15.toNat) - 1)) fun (x16 : Int) => br (decide (s13.2.2.1 < x16)) (lt (⟨s13.2.1, s13.2.2.1, x16⟩ : (V3 Int)) fun (x17 : (V3 Int)) => ckb (apok 24 (s13.2.2.2.2.2.2.2.1.length + 1)) (lt (w64 (s13.2.2.1 + 1)) fun (x18 : Int) => go12 (s13.1, s13.2.1, x18, s13.2.2.2.1, s13.2.2.2.2.1, s13.2.2.2.2.2.1, s13.2.2.2.2.2.2.1, (s13.2.2.2.2.2.2.2.1 ++ [x17]), s13.2.2.2.2.2.2.2.2))) (lt (w64 (s13.2.2.1 + 1)) fun (x19 : Int) => go12 (s13.1, s13.2.1, x19, s13.2.2.2.1, s13.2.2.2.2.1, s13.2.2.2.2.2.1, s13.2.2.2.2.2.2.1, s13.2.2.2.2.2.2.2.1, s13.2.2.2.2.2.2.2.2))))) (lt (w64 (s13.2.2.2.2.2.1 + 1)) fun (x20 : Int) => go9 (s13.1, s13.2.2.2.1, s13.2.2.2.2.1, x20, s13.2.2.2.2.2.2.1, s13.2.2.2.2.2.2.2.1))
noncomputable def i_linesIn_L2 (n : Nat) (go9 : (List (V4 Int)) × (List (V4 Int)) × Int × Int × (VL 81 Int) × (List (V3 Int)) → Option ((List (V3 Int)))) (s10 : (List (V4 Int)) × (List (V4 Int)) × Int × Int × (VL 81 Int) × (List (V3 Int))) : Option ((List (V3 Int))) :=
  br (decide (s10.2.2.2.1 < s10.2.2.1)) (ckb (inb s10.2.2.2.1 s10.2.1.length) (lt (w64 (s10.2.2.2.1 + 1)) fun (x11 : Int) => fx (i_linesIn_L1 n go9) n (s10.1, s10.2.2.2.1, x11, s10.2.1, s10.2.2.1, s10.2.2.2.1, s10.2.2.2.2.1, s10.2.2.2.2.2, (gl (⟨0, 0, 0, 0⟩ : (V4 Int)) s10.2.1 s10.2.2.2.1.toNat)))) (some s10.2.2.2.2.2)
noncomputable def i_linesIn_L3 (n : Nat) (go3 : (List (V4 Int)) × (List (V4 Int)) × Int × Int × (VL 81 Int) → Option ((List (V3 Int)))) (s4 : (List (V4 Int)) × (List (V4 Int)) × Int × Int × (VL 81 Int)) : Option ((List (V3 Int))) :=
  br (decide (s4.2.2.2.1 < s4.2.2.1)) (ckb (inb s4.2.2.2.1 s4.2.1.length) (ob (i_number n (gl (⟨0, 0, 0, 0⟩ : (V4 Int)) s4.2.1 s4.2.2.2.1.toNat)) fun (r5 : Int) => lt (w64 (s4.2.2.2.1 + 1)) fun (x6 : Int) => ckb (inb r5 81) (lt (VL.set s4.2.2.2.2 r5.toNat x6) fun (x7 : (VL 81 Int)) => lt (w64 (s4.2.2.2.1 + 1)) fun (x8 : Int) => go3 (s4.1, s4.2.1, s4.2.2.1, x8, x7)))) (fx (i_linesIn_L2 n) n (s4.1, s4.1, (s4.1.length : Int), 0, s4.2.2.2.2, ([] : List (V3 Int))))
noncomputable def i_linesIn (n : Nat) (a1 : (List (V4 Int))) : Option ((List (V3 Int))) :=
  lt (VL.rep 81 0) fun (x2 : (VL 81 Int)) => fx (i_linesIn_L3 n) n (a1, a1, (a1.length : Int), 0, x2)

/-- s_l2Place -/
noncomputable def s_l2Place_L1 (n : Nat) (go3 : (List (V4 Int)) × Int × (V4 Int) → Option (Int)) (s4 : (List (V4 Int)) × Int × (V4 Int)) : Option (Int) :=
  br (decide (s4.2.1 < (s4.1.length : Int))) (ckb (inb s4.2.1 s4.1.length) (br (eqd (gl (⟨0, 0, 0, 0⟩ : (V4 Int)) s4.1 s4.2.1.toNat) s4.2.2) (some s4.2.1) (lt (w64 (s4.2.1 + 1)) fun (x5 : Int) => go3 (s4.1, x5, s4.2.2)))) (some (-1))
noncomputable def s_l2Place (n : Nat) (a1 : (List (V4 Int))) (a2 : (V4 Int)) : Option (Int) :=
  fx (s_l2Place_L1 n) n (a1, 0, a2)

/-- s_l2Lines -/
noncomputable def s_l2Lines_L1 (n : Nat) (go2 : (List (V4 Int)) × Int × (List (V3 Int)) → Option ((List (V3 Int)))) (go5 : (List (V4 Int)) × Int × Int × (List (V3 Int)) → Option ((List (V3 Int)))) (s6 : (List (V4 Int)) × Int × Int × (List (V3 Int))) : Option ((List (V3 Int))) :=
  br (decide (s6.2.2.1 < (s6.1.length : Int))) (ckb (inb s6.2.1 s6.1.length) (ckb (inb s6.2.2.1 s6.1.length) (ob (s_l2Third n (gl (⟨0, 0, 0, 0⟩ : (V4 Int)) s6.1 s6.2.1.toNat) (gl (⟨0, 0, 0, 0⟩ : (V4 Int)) s6.1 s6.2.2.1.toNat)) fun (r7 : (V4 Int)) => ob (s_l2Place n s6.1 r7) fun (r8 : Int) => br (decide (s6.2.2.1 < r8)) (lt (⟨s6.2.1, s6.2.2.1, r8⟩ : (V3 Int)) fun (x9 : (V3 Int)) => ckb (apok 24 (s6.2.2.2.length + 1)) (lt (w64 (s6.2.2.1 + 1)) fun (x10 : Int) => go5 (s6.1, s6.2.1, x10, (s6.2.2.2 ++ [x9])))) (lt (w64 (s6.2.2.1 + 1)) fun (x11 : Int) => go5 (s6.1, s6.2.1, x11, s6.2.2.2))))) (lt (w64 (s6.2.1 + 1)) fun (x12 : Int) => go2 (s6.1, x12, s6.2.2.2))
noncomputable def s_l2Lines_L2 (n : Nat) (go2 : (List (V4 Int)) × Int × (List (V3 Int)) → Option ((List (V3 Int)))) (s3 : (List (V4 Int)) × Int × (List (V3 Int))) : Option ((List (V3 Int))) :=
  br (decide (s3.2.1 < (s3.1.length : Int))) (lt (w64 (s3.2.1 + 1)) fun (x4 : Int) => fx (s_l2Lines_L1 n go2) n (s3.1, s3.2.1, x4, s3.2.2)) (some s3.2.2)
noncomputable def s_l2Lines (n : Nat) (a1 : (List (V4 Int))) : Option ((List (V3 Int))) :=
  fx (s_l2Lines_L2 n) n (a1, 0, ([] : List (V3 Int)))

/-- s_l2Has -/
noncomputable def s_l2Has (n : Nat) (a1 : (List (V4 Int))) (a2 : (V4 Int)) : Option (Bool) :=
  ob (s_l2Place n a1 a2) fun (r3 : Int) => some (decide (0 ≤ r3))

/-- s_l9Rest -/
noncomputable def s_l9Rest_L1 (n : Nat) (go2 : (List (V4 Int)) × Int × (List (V4 Int)) → Option ((List (V4 Int)))) (s3 : (List (V4 Int)) × Int × (List (V4 Int))) : Option ((List (V4 Int))) :=
  br (decide (s3.2.1 < 81)) (ob (s_l2At n s3.2.1) fun (r4 : (V4 Int)) => ob (s_l2Has n s3.1 r4) fun (r5 : Bool) => br (! r5) (ckb (apok 32 (s3.2.2.length + 1)) (lt (w64 (s3.2.1 + 1)) fun (x6 : Int) => go2 (s3.1, x6, (s3.2.2 ++ [r4])))) (lt (w64 (s3.2.1 + 1)) fun (x7 : Int) => go2 (s3.1, x7, s3.2.2))) (some s3.2.2)
noncomputable def s_l9Rest (n : Nat) (a1 : (List (V4 Int))) : Option ((List (V4 Int))) :=
  fx (s_l9Rest_L1 n) n (a1, 0, ([] : List (V4 Int)))

/-- s_l2Line -/
noncomputable def s_l2Line (n : Nat) (a1 : (V4 Int)) (a2 : (V4 Int)) (a3 : (V4 Int)) : Option (Bool) :=
  ob (br (!eqd a1 a2) (ob (s_l2Third n a1 a2) fun (r4 : (V4 Int)) => some (eqd r4 a3)) (some false)) fun (x5 : Bool) => some x5

/-- s_l2Through -/
noncomputable def s_l2Through_L1 (n : Nat) (go3 : (List (V4 Int)) × Int × Int × (V4 Int) → Option (Int)) (go6 : (List (V4 Int)) × Int × Int × Int × (V4 Int) → Option (Int)) (s7 : (List (V4 Int)) × Int × Int × Int × (V4 Int)) : Option (Int) :=
  br (decide (s7.2.2.2.1 < (s7.1.length : Int))) (ckb (inb s7.2.2.1 s7.1.length) (ckb (inb s7.2.2.2.1 s7.1.length) (ob (s_l2Line n (gl (⟨0, 0, 0, 0⟩ : (V4 Int)) s7.1 s7.2.2.1.toNat) (gl (⟨0, 0, 0, 0⟩ : (V4 Int)) s7.1 s7.2.2.2.1.toNat) s7.2.2.2.2) fun (r8 : Bool) => br r8 (lt (w64 (s7.2.1 + 1)) fun (x9 : Int) => lt (w64 (s7.2.2.2.1 + 1)) fun (x10 : Int) => go6 (s7.1, x9, s7.2.2.1, x10, s7.2.2.2.2)) (lt (w64 (s7.2.2.2.1 + 1)) fun (x11 : Int) => go6 (s7.1, s7.2.1, s7.2.2.1, x11, s7.2.2.2.2))))) (lt (w64 (s7.2.2.1 + 1)) fun (x12 : Int) => go3 (s7.1, s7.2.1, x12, s7.2.2.2.2))
noncomputable def s_l2Through_L2 (n : Nat) (go3 : (List (V4 Int)) × Int × Int × (V4 Int) → Option (Int)) (s4 : (List (V4 Int)) × Int × Int × (V4 Int)) : Option (Int) :=
  br (decide (s4.2.2.1 < (s4.1.length : Int))) (lt (w64 (s4.2.2.1 + 1)) fun (x5 : Int) => fx (s_l2Through_L1 n go3) n (s4.1, s4.2.1, s4.2.2.1, x5, s4.2.2.2)) (some s4.2.1)
noncomputable def s_l2Through (n : Nat) (a1 : (List (V4 Int))) (a2 : (V4 Int)) : Option (Int) :=
  fx (s_l2Through_L2 n) n (a1, 0, 0, a2)

/-- i_BestThird -/
noncomputable def i_BestThird_L1 (n : Nat) (go3 : (List (V4 Int)) × Int × Int × Int → Option (Int × Int × Bool)) (s4 : (List (V4 Int)) × Int × Int × Int) : Option (Int × Int × Bool) :=
  br (decide (s4.2.2.2 < 81)) (ob (i_card n s4.2.2.2) fun (r5 : (V4 Int)) => ob (i_has n s4.1 r5) fun (r6 : Bool) => br (! r6) (ob (i_pairsFor n s4.1 r5) fun (r7 : (List (V2 Int))) => br (decide (s4.2.2.1 < (r7.length : Int))) (lt (w64 (s4.2.2.2 + 1)) fun (x8 : Int) => go3 (s4.1, s4.2.2.2, (r7.length : Int), x8)) (lt (w64 (s4.2.2.2 + 1)) fun (x9 : Int) => go3 (s4.1, s4.2.1, s4.2.2.1, x9))) (lt (w64 (s4.2.2.2 + 1)) fun (x10 : Int) => go3 (s4.1, s4.2.1, s4.2.2.1, x10))) (some (s4.2.1, s4.2.2.1, true))
noncomputable def i_BestThird (n : Nat) (a1 : (List (V4 Int))) : Option (Int × Int × Bool) :=
  ob (i_IsHand n a1) fun (r2 : Bool) => br (! r2) (some (0, 0, false)) (fx (i_BestThird_L1 n) n (a1, 0, (-1), 0))

/-- s_BestThird -/
noncomputable def s_BestThird_L1 (n : Nat) (go4 : (List (V4 Int)) × Int × Int × Int × (List (V4 Int)) → Option (Int × Int × Bool)) (s5 : (List (V4 Int)) × Int × Int × Int × (List (V4 Int))) : Option (Int × Int × Bool) :=
  br (decide (s5.2.2.2.1 < (s5.2.2.2.2.length : Int))) (ckb (inb s5.2.2.2.1 s5.2.2.2.2.length) (ob (s_l2Through n s5.1 (gl (⟨0, 0, 0, 0⟩ : (V4 Int)) s5.2.2.2.2 s5.2.2.2.1.toNat)) fun (r6 : Int) => br (decide (s5.2.2.1 < r6)) (ckb (inb s5.2.2.2.1 s5.2.2.2.2.length) (ob (s_l2Number n (gl (⟨0, 0, 0, 0⟩ : (V4 Int)) s5.2.2.2.2 s5.2.2.2.1.toNat)) fun (r7 : Int) => lt (w64 (s5.2.2.2.1 + 1)) fun (x8 : Int) => go4 (s5.1, r7, r6, x8, s5.2.2.2.2))) (lt (w64 (s5.2.2.2.1 + 1)) fun (x9 : Int) => go4 (s5.1, s5.2.1, s5.2.2.1, x9, s5.2.2.2.2)))) (some (s5.2.1, s5.2.2.1, true))
noncomputable def s_BestThird (n : Nat) (a1 : (List (V4 Int))) : Option (Int × Int × Bool) :=
  ob (s_l2Hand n a1) fun (r2 : Bool) => br (! r2) (some (0, 0, false)) (ob (s_l9Rest n a1) fun (r3 : (List (V4 Int))) => fx (s_BestThird_L1 n) n (a1, 0, (-1), 0, r3))

/-- i_LinesIn -/
noncomputable def i_LinesIn (n : Nat) (a1 : (List (V4 Int))) : Option (Bool × (List (V3 Int))) :=
  ob (i_IsHand n a1) fun (r2 : Bool) => br (! r2) (some (false, ([] : List (V3 Int)))) (ob (i_linesIn n a1) fun (r3 : (List (V3 Int))) => some (true, r3))

/-- i_OpenPairs -/
noncomputable def i_OpenPairs (n : Nat) (a1 : (List (V4 Int))) : Option (Int × Bool) :=
  ob (i_IsHand n a1) fun (r2 : Bool) => br (! r2) (some (0, false)) (lt (w64 ((a1.length : Int) - 1)) fun (x3 : Int) => lt (w64 ((a1.length : Int) * x3)) fun (x4 : Int) => lt (w64 (Int.tdiv x4 2)) fun (x5 : Int) => ob (i_linesIn n a1) fun (r6 : (List (V3 Int))) => lt (w64 (3 * (r6.length : Int))) fun (x7 : Int) => lt (w64 (x5 - x7)) fun (x8 : Int) => some (x8, true))

/-- i_CardAt -/
noncomputable def i_CardAt (n : Nat) (a1 : Int) : Option ((V4 Int) × Bool) :=
  ob (i_within n a1 0 80) fun (r2 : Bool) => br (! r2) (lt (⟨0, 0, 0, 0⟩ : (V4 Int)) fun (x3 : (V4 Int)) => some (x3, false)) (ob (i_card n a1) fun (r4 : (V4 Int)) => some (r4, true))

/-- i_LinesThrough -/
noncomputable def i_LinesThrough (n : Nat) (a1 : (List (V4 Int))) (a2 : (V4 Int)) : Option (Int × Bool) :=
  ob (i_IsHand n a1) fun (r3 : Bool) => ob (br (! r3) (some true) (ob (i_IsCard n a2) fun (r4 : Bool) => some (! r4))) fun (x5 : Bool) => br x5 (some (0, false)) (ob (i_pairsFor n a1 a2) fun (r6 : (List (V2 Int))) => some ((r6.length : Int), true))

/-- i_without_1'p -/
noncomputable def i_without_1'p (n : Nat) (a1 : (V4 Int)) (a2 : (V4 Int)) : Option (Bool × (V4 Int)) :=
  some ((eqd a1 a2), a2)

/-- slices_IndexFunc_SA4_A4_'l_i_without_1p -/
noncomputable def slices_IndexFunc_SA4_A4_'l_i_without_1p_L1 (n : Nat) (go3 : (List (V4 Int)) × Int × Int × (V4 Int) → Option (Int × (V4 Int))) (s4 : (List (V4 Int)) × Int × Int × (V4 Int)) : Option (Int × (V4 Int)) :=
  br (decide (s4.2.2.1 < s4.2.1)) (ckb (inb s4.2.2.1 s4.1.length) (ob (i_without_1'p n (gl (⟨0, 0, 0, 0⟩ : (V4 Int)) s4.1 s4.2.2.1.toNat) s4.2.2.2) fun (r5 : Bool × (V4 Int)) => br r5.1 (some (s4.2.2.1, r5.2)) (lt (w64 (s4.2.2.1 + 1)) fun (x6 : Int) => go3 (s4.1, s4.2.1, x6, r5.2)))) (some ((-1), s4.2.2.2))
noncomputable def slices_IndexFunc_SA4_A4_'l_i_without_1p (n : Nat) (a1 : (List (V4 Int))) (a2 : (V4 Int)) : Option (Int × (V4 Int)) :=
  fx (slices_IndexFunc_SA4_A4_'l_i_without_1p_L1 n) n (a1, (a1.length : Int), 0, a2)

/-- slices_DeleteFunc_SA4_A4_'o_i_without_1p -/
noncomputable def slices_DeleteFunc_SA4_A4_'o_i_without_1p_L1 (n : Nat) (go5 : Int × Int × (List (V4 Int)) × (V4 Int) → Option ((V4 Int) × (List (V4 Int)))) (s6 : Int × Int × (List (V4 Int)) × (V4 Int)) : Option ((V4 Int) × (List (V4 Int))) :=
  br (decide (s6.2.1 < (s6.2.2.1.length : Int))) (ckb (inb s6.2.1 s6.2.2.1.length) (ob (i_without_1'p n (gl (⟨0, 0, 0, 0⟩ : (V4 Int)) s6.2.2.1 s6.2.1.toNat) s6.2.2.2) fun (r7 : Bool × (V4 Int)) => br (! r7.1) (ckb (inb s6.1 s6.2.2.1.length) (lt (List.set s6.2.2.1 s6.1.toNat (gl (⟨0, 0, 0, 0⟩ : (V4 Int)) s6.2.2.1 s6.2.1.toNat)) fun (x8 : (List (V4 Int))) => lt (w64 (s6.1 + 1)) fun (x9 : Int) => lt (w64 (s6.2.1 + 1)) fun (x10 : Int) => go5 (x9, x10, x8, r7.2))) (lt (w64 (s6.2.1 + 1)) fun (x11 : Int) => go5 (s6.1, x11, s6.2.2.1, r7.2)))) (ckb (slb s6.1 (s6.2.2.1.length : Int) s6.2.2.1.length) (ckb (slb 0 s6.1 (clr (⟨0, 0, 0, 0⟩ : (V4 Int)) s6.2.2.1 s6.1.toNat (w64 ((s6.2.2.1.length : Int) - s6.1)).toNat).length) (some (s6.2.2.2, (sub (clr (⟨0, 0, 0, 0⟩ : (V4 Int)) s6.2.2.1 s6.1.toNat (w64 ((s6.2.2.1.length : Int) - s6.1)).toNat) 0 (w64 (s6.1 - 0)).toNat)))))
noncomputable def slices_DeleteFunc_SA4_A4_'o_i_without_1p (n : Nat) (a1 : (List (V4 Int))) (a2 : (V4 Int)) : Option ((V4 Int) × (List (V4 Int))) :=
  ob (slices_IndexFunc_SA4_A4_'l_i_without_1p n a1 a2) fun (r3 : Int × (V4 Int)) => br (decide (r3.1 = (-1))) (some (r3.2, a1)) (lt (w64 (r3.1 + 1)) fun (x4 : Int) => fx (slices_DeleteFunc_SA4_A4_'o_i_without_1p_L1 n) n (r3.1, x4, a1, r3.2))

/-- i_without -/
noncomputable def i_without (n : Nat) (a1 : (List (V4 Int))) (a2 : (V4 Int)) : Option ((List (V4 Int))) :=
  ob (slices_Clone_SA4_A4_ n a1) fun (r3 : (List (V4 Int))) => ob (slices_DeleteFunc_SA4_A4_'o_i_without_1p n r3 a2) fun (r4 : (V4 Int) × (List (V4 Int))) => some r4.2

/-- i_DropCard -/
noncomputable def i_DropCard (n : Nat) (a1 : (List (V4 Int))) (a2 : (V4 Int)) : Option (Bool × (List (V4 Int))) :=
  ob (i_IsHand n a1) fun (r3 : Bool) => ob (br (! r3) (some true) (ob (i_has n a1 a2) fun (r4 : Bool) => some (! r4))) fun (x5 : Bool) => br x5 (some (false, ([] : List (V4 Int)))) (ob (i_without n a1 a2) fun (r6 : (List (V4 Int))) => some (true, r6))

/-- s_Cur_card'p -/
noncomputable def s_Cur_card'p (n : Nat) (a1 : ((List Int) × (Int × Int))) : Option ((V4 Int) × ((List Int) × (Int × Int))) :=
  ob (s_Cur_pick'p n 81 a1) fun (r2 : Int × ((List Int) × (Int × Int))) => ob (s_l2At n r2.1) fun (r3 : (V4 Int)) => ob (s_Cur_one'p n 40 r2.2) fun (r4 : Bool × ((List Int) × (Int × Int))) => br r4.1 (ob (s_Cur_pick'p n 4 r4.2) fun (r5 : Int × ((List Int) × (Int × Int))) => ob (s_Cur_among'pl n [(-1), 3, 4611686018427387904, (-9223372036854775808)] r5.2) fun (r6 : Int × ((List Int) × (Int × Int))) => ckb (inb r5.1 4) (lt (V4.set r3 r5.1.toNat r6.1) fun (x7 : (V4 Int)) => some (x7, r6.2))) (some (r3, r4.2))

/-- i_sum -/
noncomputable def i_sum_L1 (n : Nat) (go3 : (List (V4 Int)) × Int × Int × (V4 Int) × (V4 Int) → Option ((V4 Int))) (go5 : (List (V4 Int)) × Int × Int × (V4 Int) × Int × (V4 Int) × (V4 Int) → Option ((V4 Int))) (s6 : (List (V4 Int)) × Int × Int × (V4 Int) × Int × (V4 Int) × (V4 Int)) : Option ((V4 Int)) :=
  br (decide (s6.2.2.2.2.1 < 4)) (ckb (inb s6.2.2.2.2.1 4) (ckb (inb s6.2.2.2.2.1 4) (lt (w64 ((V4.get s6.2.2.2.2.2.2 s6.2.2.2.2.1.toNat) + (V4.get s6.2.2.2.1 s6.2.2.2.2.1.toNat))) fun (x7 : Int) => lt (Int.tmod x7 3) fun (x8 : Int) => ckb (inb s6.2.2.2.2.1 4) (lt (V4.set s6.2.2.2.2.2.2 s6.2.2.2.2.1.toNat x8) fun (x9 : (V4 Int)) => lt (w64 (s6.2.2.2.2.1 + 1)) fun (x10 : Int) => go5 (s6.1, s6.2.1, s6.2.2.1, s6.2.2.2.1, x10, s6.2.2.2.2.2.1, x9))))) (lt (w64 (s6.2.2.1 + 1)) fun (x11 : Int) => go3 (s6.1, s6.2.1, x11, s6.2.2.2.2.2.1, s6.2.2.2.2.2.2))
noncomputable def i_sum_L2 (n : Nat) (go3 : (List (V4 Int)) × Int × Int × (V4 Int) × (V4 Int) → Option ((V4 Int))) (s4 : (List (V4 Int)) × Int × Int × (V4 Int) × (V4 Int)) : Option ((V4 Int)) :=
  br (decide (s4.2.2.1 < s4.2.1)) (ckb (inb s4.2.2.1 s4.1.length) (fx (i_sum_L1 n go3) n (s4.1, s4.2.1, s4.2.2.1, (gl (⟨0, 0, 0, 0⟩ : (V4 Int)) s4.1 s4.2.2.1.toNat), 0, s4.2.2.2.1, s4.2.2.2.2))) (some s4.2.2.2.2)
noncomputable def i_sum (n : Nat) (a1 : (List (V4 Int))) : Option ((V4 Int)) :=
  lt (⟨0, 0, 0, 0⟩ : (V4 Int)) fun (x2 : (V4 Int)) => fx (i_sum_L2 n) n (a1, (a1.length : Int), 0, (⟨0, 0, 0, 0⟩ : (V4 Int)), x2)

/-- cmp_isNaN_int_ -/
noncomputable def cmp_isNaN_int_ (n : Nat) (a1 : Int) : Option (Bool) :=
  some (!decide (a1 = a1))

/-- v_vLines -/
noncomputable def v_vLines_L1 (n : Nat) (go3 : (List (V3 Int)) × (List (V3 Int)) × Int → Option (Bool)) (s4 : (List (V3 Int)) × (List (V3 Int)) × Int) : Option (Bool) :=
  br (decide (s4.2.2 < (s4.1.length : Int))) (ckb (inb s4.2.2 s4.1.length) (ckb (inb s4.2.2 s4.2.1.length) (br (!eqd (gl (⟨0, 0, 0⟩ : (V3 Int)) s4.1 s4.2.2.toNat) (gl (⟨0, 0, 0⟩ : (V3 Int)) s4.2.1 s4.2.2.toNat)) (some false) (lt (w64 (s4.2.2 + 1)) fun (x5 : Int) => go3 (s4.1, s4.2.1, x5))))) (some true)
noncomputable def v_vLines (n : Nat) (a1 : (List (V3 Int))) (a2 : (List (V3 Int))) : Option (Bool) :=
  br (!decide ((a1.length : Int) = (a2.length : Int))) (some false) (fx (v_vLines_L1 n) n (a1, a2, 0))

/-- i_areCards_1 -/
noncomputable def i_areCards_1 (n : Nat) (a1 : (V4 Int)) : Option (Bool) :=
  ob (i_IsCard n a1) fun (r2 : Bool) => some (! r2)

/-- slices_IndexFunc_SA4_A4_'l_i_areCards_1 -/
noncomputable def slices_IndexFunc_SA4_A4_'l_i_areCards_1_L1 (n : Nat) (go2 : (List (V4 Int)) × Int × Int → Option (Int)) (s3 : (List (V4 Int)) × Int × Int) : Option (Int) :=
  br (decide (s3.2.2 < s3.2.1)) (ckb (inb s3.2.2 s3.1.length) (ob (i_areCards_1 n (gl (⟨0, 0, 0, 0⟩ : (V4 Int)) s3.1 s3.2.2.toNat)) fun (r4 : Bool) => br r4 (some s3.2.2) (lt (w64 (s3.2.2 + 1)) fun (x5 : Int) => go2 (s3.1, s3.2.1, x5)))) (some (-1))
noncomputable def slices_IndexFunc_SA4_A4_'l_i_areCards_1 (n : Nat) (a1 : (List (V4 Int))) : Option (Int) :=
  fx (slices_IndexFunc_SA4_A4_'l_i_areCards_1_L1 n) n (a1, (a1.length : Int), 0)

/-- slices_ContainsFunc_SA4_A4_'l_i_areCards_1 -/
noncomputable def slices_ContainsFunc_SA4_A4_'l_i_areCards_1 (n : Nat) (a1 : (List (V4 Int))) : Option (Bool) :=
  ob (slices_IndexFunc_SA4_A4_'l_i_areCards_1 n a1) fun (r2 : Int) => some (decide (0 ≤ r2))

/-- i_areCards -/
noncomputable def i_areCards (n : Nat) (a1 : (List (V4 Int))) : Option (Bool) :=
  ob (slices_ContainsFunc_SA4_A4_'l_i_areCards_1 n a1) fun (r2 : Bool) => some (! r2)

/-- i_isLine -/
noncomputable def i_isLine (n : Nat) (a1 : (V4 Int)) (a2 : (V4 Int)) (a3 : (V4 Int)) : Option (Bool) :=
  ob (br (!eqd a1 a2) (ob (i_third n a1 a2) fun (r4 : (V4 Int)) => some (eqd r4 a3)) (some false)) fun (x5 : Bool) => some x5

/-- i_IsLine -/
noncomputable def i_IsLine (n : Nat) (a1 : (V4 Int)) (a2 : (V4 Int)) (a3 : (V4 Int)) : Option (Bool × Bool) :=
  ob (i_areCards n [a1, a2, a3]) fun (r4 : Bool) => br (! r4) (some (false, false)) (ob (i_isLine n a1 a2 a3) fun (r5 : Bool) => some (r5, true))

/-- v_szIntA4S -/
noncomputable def v_szIntA4S (n : Nat) (a1 : (List (V4 Int))) (a2 : Int) : Option (Int) :=
  lt (w64 (a2 - (a1.length : Int))) fun (x3 : Int) => br (decide (x3 < 0)) (some (-1)) (some x3)

/-- v_toIntA4S -/
noncomputable def v_toIntA4S_L1 (n : Nat) (go2 : (List (V4 Int)) × Int × (List (V4 Int)) → Option ((List (V4 Int)))) (s3 : (List (V4 Int)) × Int × (List (V4 Int))) : Option ((List (V4 Int))) :=
  br (decide (s3.2.1 < (s3.1.length : Int))) (ckb (inb s3.2.1 s3.1.length) (ob (v_toIntA4 n (gl (⟨0, 0, 0, 0⟩ : (V4 Int)) s3.1 s3.2.1.toNat)) fun (r4 : (V4 Int)) => ckb (inb s3.2.1 s3.2.2.length) (lt (List.set s3.2.2 s3.2.1.toNat r4) fun (x5 : (List (V4 Int))) => lt (w64 (s3.2.1 + 1)) fun (x6 : Int) => go2 (s3.1, x6, x5)))) (some s3.2.2)
noncomputable def v_toIntA4S (n : Nat) (a1 : (List (V4 Int))) : Option ((List (V4 Int))) :=
  ckb (mkok 32 (a1.length : Int) (a1.length : Int)) (fx (v_toIntA4S_L1 n) n (a1, 0, (List.replicate a1.length (⟨0, 0, 0, 0⟩ : (V4 Int)))))

/-- s_l4Seed -/
noncomputable def s_l4Seed (n : Nat) (a1 : Int) : Option (Bool) :=
  ob (s_l1In n a1 0 65535) fun (r2 : Bool) => some r2

/-- s_l4Behind -/
noncomputable def s_l4Behind (n : Nat) (a1 : Int) : Option (Int) :=
  lt (w64 (25173 * a1)) fun (x2 : Int) => lt (w64 (x2 + 13849)) fun (x3 : Int) => lt (Int.tmod x3 65536) fun (x4 : Int) => some x4

/-- s_l4Pile -/
noncomputable def s_l4Pile_L1 (n : Nat) (go6 : Int × Int × (List (V4 Int)) → Option ((List (V4 Int)))) (s7 : Int × Int × (List (V4 Int))) : Option ((List (V4 Int))) :=
  br (decide (0 < s7.2.1)) (ob (s_l4Behind n s7.1) fun (r8 : Int) => lt (w64 (Int.tdiv r8 8)) fun (x9 : Int) => lt (w64 (s7.2.1 + 1)) fun (x10 : Int) => ckb (!decide (x10 = 0)) (lt (Int.tmod x9 x10) fun (x11 : Int) => ckb (inb s7.2.1 s7.2.2.length) (ckb (inb x11 s7.2.2.length) (ckb (inb s7.2.1 s7.2.2.length) (lt (List.set s7.2.2 s7.2.1.toNat (gl (⟨0, 0, 0, 0⟩ : (V4 Int)) s7.2.2 x11.toNat)) fun (x12 : (List (V4 Int))) => ckb (inb x11 x12.length) (lt (List.set x12 x11.toNat (gl (⟨0, 0, 0, 0⟩ : (V4 Int)) s7.2.2 s7.2.1.toNat)) fun (x13 : (List (V4 Int))) => lt (w64 (s7.2.1 - 1)) fun (x14 : Int) => go6 (r8, x14, x13))))))) (some s7.2.2)
noncomputable def s_l4Pile_L2 (n : Nat) (go2 : Int × Int × (List (V4 Int)) → Option ((List (V4 Int)))) (s3 : Int × Int × (List (V4 Int))) : Option ((List (V4 Int))) :=
  br (decide (s3.2.1 < 81)) (ob (s_l2At n s3.2.1) fun (r4 : (V4 Int)) => ckb (apok 32 (s3.2.2.length + 1)) (lt (w64 (s3.2.1 + 1)) fun (x5 : Int) => go2 (s3.1, x5, (s3.2.2 ++ [r4])))) (fx (s_l4Pile_L1 n) n (s3.1, 80, s3.2.2))
noncomputable def s_l4Pile (n : Nat) (a1 : Int) : Option ((List (V4 Int))) :=
  fx (s_l4Pile_L2 n) n (a1, 0, ([] : List (V4 Int)))

/-- s_l4Deal -/
noncomputable def s_l4Deal_L1 (n : Nat) (go7 : Int × Int × Int × (Int × (Int × (List (V4 Int)))) × (List (V4 Int)) → Option (Bool)) (s8 : Int × Int × Int × (Int × (Int × (List (V4 Int)))) × (List (V4 Int))) : Option (Bool) :=
  br (decide (s8.2.2.1 < (s8.2.2.2.1.2.2.length : Int))) (ckb (inb s8.2.2.1 s8.2.2.2.1.2.2.length) (ob (s_l2Has n (sub s8.2.2.2.2 s8.1.toNat (s8.1.toNat + s8.2.1.toNat)) (gl (⟨0, 0, 0, 0⟩ : (V4 Int)) s8.2.2.2.1.2.2 s8.2.2.1.toNat)) fun (r9 : Bool) => ob (br (! r9) (some true) (ckb (slb 0 s8.2.2.1 s8.2.2.2.1.2.2.length) (ckb (inb s8.2.2.1 s8.2.2.2.1.2.2.length) (ob (s_l2Has n (sub s8.2.2.2.1.2.2 0 s8.2.2.1.toNat) (gl (⟨0, 0, 0, 0⟩ : (V4 Int)) s8.2.2.2.1.2.2 s8.2.2.1.toNat)) fun (r10 : Bool) => some r10)))) fun (x11 : Bool) => br x11 (some false) (lt (w64 (s8.2.2.1 + 1)) fun (x12 : Int) => go7 ((s8.1.toNat : Int), (s8.2.1.toNat : Int), x12, s8.2.2.2.1, s8.2.2.2.2)))) (some true)
noncomputable def s_l4Deal (n : Nat) (a1 : (Int × (Int × (List (V4 Int))))) : Option (Bool) :=
  ob (s_l4Seed n a1.1) fun (r2 : Bool) => ob (br (! r2) (some true) (ob (s_l1In n a1.2.1 0 81) fun (r3 : Bool) => some (! r3))) fun (x4 : Bool) => ob (br x4 (some true) (some (decide (81 < (a1.2.2.length : Int))))) fun (x5 : Bool) => br x5 (some false) (ob (s_l4Pile n a1.1) fun (r6 : (List (V4 Int))) => ckb (slb 0 a1.2.1 r6.length) (fx (s_l4Deal_L1 n) n (0, ((w64 (a1.2.1 - 0)).toNat : Int), 0, a1, r6)))

/-- i_isSeed -/
noncomputable def i_isSeed (n : Nat) (a1 : Int) : Option (Bool) :=
  ob (i_within n a1 0 65535) fun (r2 : Bool) => some r2

/-- i_behind -/
noncomputable def i_behind (n : Nat) (a1 : Int) : Option (Int) :=
  lt (w64 (25173 * a1)) fun (x2 : Int) => lt (w64 (x2 + 13849)) fun (x3 : Int) => lt (Int.tmod x3 65536) fun (x4 : Int) => some x4

/-- i_pile -/
noncomputable def i_pile_L1 (n : Nat) (go6 : Int × Int × (List (V4 Int)) → Option ((List (V4 Int)))) (s7 : Int × Int × (List (V4 Int))) : Option ((List (V4 Int))) :=
  br (decide (1 ≤ s7.2.1)) (ob (i_behind n s7.1) fun (r8 : Int) => lt (w64 (Int.tdiv r8 8)) fun (x9 : Int) => lt (w64 (s7.2.1 + 1)) fun (x10 : Int) => ckb (!decide (x10 = 0)) (lt (Int.tmod x9 x10) fun (x11 : Int) => ckb (inb x11 s7.2.2.length) (ckb (inb s7.2.1 s7.2.2.length) (ckb (inb s7.2.1 s7.2.2.length) (lt (List.set s7.2.2 s7.2.1.toNat (gl (⟨0, 0, 0, 0⟩ : (V4 Int)) s7.2.2 x11.toNat)) fun (x12 : (List (V4 Int))) => ckb (inb x11 x12.length) (lt (List.set x12 x11.toNat (gl (⟨0, 0, 0, 0⟩ : (V4 Int)) s7.2.2 s7.2.1.toNat)) fun (x13 : (List (V4 Int))) => lt (w64 (s7.2.1 - 1)) fun (x14 : Int) => go6 (r8, x14, x13))))))) (some s7.2.2)
noncomputable def i_pile_L2 (n : Nat) (go2 : Int × Int × (List (V4 Int)) → Option ((List (V4 Int)))) (s3 : Int × Int × (List (V4 Int))) : Option ((List (V4 Int))) :=
  br (decide (s3.2.1 < 81)) (ob (i_card n s3.2.1) fun (r4 : (V4 Int)) => ckb (apok 32 (s3.2.2.length + 1)) (lt (w64 (s3.2.1 + 1)) fun (x5 : Int) => go2 (s3.1, x5, (s3.2.2 ++ [r4])))) (fx (i_pile_L1 n) n (s3.1, 80, s3.2.2))
noncomputable def i_pile (n : Nat) (a1 : Int) : Option ((List (V4 Int))) :=
  fx (i_pile_L2 n) n (a1, 0, ([] : List (V4 Int)))

/-- i_IsDeal -/
noncomputable def i_IsDeal_L1 (n : Nat) (go7 : Int × Int × (List (V4 Int)) × Int × Int × (Int × (Int × (List (V4 Int)))) × (List (V4 Int)) → Option (Bool)) (s8 : Int × Int × (List (V4 Int)) × Int × Int × (Int × (Int × (List (V4 Int)))) × (List (V4 Int))) : Option (Bool) :=
  br (decide (s8.2.2.2.2.1 < s8.2.2.2.1)) (ckb (inb s8.2.2.2.2.1 s8.2.2.1.length) (ob (i_has n (sub s8.2.2.2.2.2.2 s8.1.toNat (s8.1.toNat + s8.2.1.toNat)) (gl (⟨0, 0, 0, 0⟩ : (V4 Int)) s8.2.2.1 s8.2.2.2.2.1.toNat)) fun (r9 : Bool) => ob (br (! r9) (some true) (ckb (slb 0 s8.2.2.2.2.1 s8.2.2.2.2.2.1.2.2.length) (ob (i_has n (sub s8.2.2.2.2.2.1.2.2 0 s8.2.2.2.2.1.toNat) (gl (⟨0, 0, 0, 0⟩ : (V4 Int)) s8.2.2.1 s8.2.2.2.2.1.toNat)) fun (r10 : Bool) => some r10))) fun (x11 : Bool) => br x11 (some false) (lt (w64 (s8.2.2.2.2.1 + 1)) fun (x12 : Int) => go7 ((s8.1.toNat : Int), (s8.2.1.toNat : Int), s8.2.2.1, s8.2.2.2.1, x12, s8.2.2.2.2.2.1, s8.2.2.2.2.2.2)))) (some true)
noncomputable def i_IsDeal (n : Nat) (a1 : (Int × (Int × (List (V4 Int))))) : Option (Bool) :=
  ob (i_isSeed n a1.1) fun (r2 : Bool) => ob (br (! r2) (some true) (ob (i_within n a1.2.1 0 81) fun (r3 : Bool) => some (! r3))) fun (x4 : Bool) => ob (br x4 (some true) (some (decide (a1.2.1 < (a1.2.2.length : Int))))) fun (x5 : Bool) => br x5 (some false) (ob (i_pile n a1.1) fun (r6 : (List (V4 Int))) => ckb (slb 0 a1.2.1 r6.length) (fx (i_IsDeal_L1 n) n (0, ((w64 (a1.2.1 - 0)).toNat : Int), a1.2.2, (a1.2.2.length : Int), 0, a1, r6)))

/-- slices_Index_Sint_int_ -/
noncomputable def slices_Index_Sint_int__L1 (n : Nat) (go3 : (List Int) × Int × Int × Int → Option (Int)) (s4 : (List Int) × Int × Int × Int) : Option (Int) :=
  br (decide (s4.2.2.2 < s4.2.2.1)) (ckb (inb s4.2.2.2 s4.1.length) (br (decide (s4.2.1 = (gl 0 s4.1 s4.2.2.2.toNat))) (some s4.2.2.2) (lt (w64 (s4.2.2.2 + 1)) fun (x5 : Int) => go3 (s4.1, s4.2.1, s4.2.2.1, x5)))) (some (-1))
noncomputable def slices_Index_Sint_int_ (n : Nat) (a1 : (List Int)) (a2 : Int) : Option (Int) :=
  fx (slices_Index_Sint_int__L1 n) n (a1, a2, (a1.length : Int), 0)

/-- slices_Contains_Sint_int_ -/
noncomputable def slices_Contains_Sint_int_ (n : Nat) (a1 : (List Int)) (a2 : Int) : Option (Bool) :=
  ob (slices_Index_Sint_int_ n a1 a2) fun (r3 : Int) => some (decide (0 ≤ r3))

/-- v_eqIntA4S -/
noncomputable def v_eqIntA4S_L1 (n : Nat) (go3 : (List (V4 Int)) × (List (V4 Int)) × Int → Option (Bool)) (s4 : (List (V4 Int)) × (List (V4 Int)) × Int) : Option (Bool) :=
  br (decide (s4.2.2 < (s4.1.length : Int))) (ckb (inb s4.2.2 s4.1.length) (ckb (inb s4.2.2 s4.2.1.length) (ob (v_eqIntA4 n (gl (⟨0, 0, 0, 0⟩ : (V4 Int)) s4.1 s4.2.2.toNat) (gl (⟨0, 0, 0, 0⟩ : (V4 Int)) s4.2.1 s4.2.2.toNat)) fun (r5 : Bool) => br (! r5) (some false) (lt (w64 (s4.2.2 + 1)) fun (x6 : Int) => go3 (s4.1, s4.2.1, x6))))) (some true)
noncomputable def v_eqIntA4S (n : Nat) (a1 : (List (V4 Int))) (a2 : (List (V4 Int))) : Option (Bool) :=
  br (!decide ((a1.length : Int) = (a2.length : Int))) (some false) (fx (v_eqIntA4S_L1 n) n (a1, a2, 0))

/-- v_markIntA4S'o -/
noncomputable def v_markIntA4S'o_L1 (n : Nat) (go3 : Int × Int × (List (V4 Int)) → Option (Int × (List (V4 Int)))) (go5 : Int × Int × Int × (List (V4 Int)) → Option (Int × (List (V4 Int)))) (s6 : Int × Int × Int × (List (V4 Int))) : Option (Int × (List (V4 Int))) :=
  br (decide (s6.2.2.1 < 4)) (ckb (inb s6.2.1 s6.2.2.2.length) (ckb (inb s6.2.2.1 4) (lt (List.set s6.2.2.2 s6.2.1.toNat (V4.set (gl (⟨0, 0, 0, 0⟩ : (V4 Int)) s6.2.2.2 s6.2.1.toNat) s6.2.2.1.toNat s6.1)) fun (x7 : (List (V4 Int))) => lt (w64 (s6.1 + 1)) fun (x8 : Int) => lt (w64 (s6.2.2.1 + 1)) fun (x9 : Int) => go5 (x8, s6.2.1, x9, x7)))) (lt (w64 (s6.2.1 + 1)) fun (x10 : Int) => go3 (s6.1, x10, s6.2.2.2))
noncomputable def v_markIntA4S'o_L2 (n : Nat) (go3 : Int × Int × (List (V4 Int)) → Option (Int × (List (V4 Int)))) (s4 : Int × Int × (List (V4 Int))) : Option (Int × (List (V4 Int))) :=
  br (decide (s4.2.1 < (s4.2.2.length : Int))) (fx (v_markIntA4S'o_L1 n go3) n (s4.1, s4.2.1, 0, s4.2.2)) (some (s4.1, s4.2.2))
noncomputable def v_markIntA4S'o (n : Nat) (a1 : Int) (a2 : (List (V4 Int))) : Option (Int × (List (V4 Int))) :=
  fx (v_markIntA4S'o_L2 n) n (a1, 0, a2)

/-- v_heldIntA4S -/
noncomputable def v_heldIntA4S_L1 (n : Nat) (go3 : (List (V4 Int)) × Int × Int → Option (Int)) (go5 : (List (V4 Int)) × Int × Int × Int → Option (Int)) (s6 : (List (V4 Int)) × Int × Int × Int) : Option (Int) :=
  br (decide (s6.2.2.2 < 4)) (ckb (inb s6.2.2.1 s6.1.length) (ckb (inb s6.2.2.2 4) (br (!decide ((V4.get (gl (⟨0, 0, 0, 0⟩ : (V4 Int)) s6.1 s6.2.2.1.toNat) s6.2.2.2.toNat) = s6.2.1)) (some (-1)) (lt (w64 (s6.2.1 + 1)) fun (x7 : Int) => lt (w64 (s6.2.2.2 + 1)) fun (x8 : Int) => go5 (s6.1, x7, s6.2.2.1, x8))))) (lt (w64 (s6.2.2.1 + 1)) fun (x9 : Int) => go3 (s6.1, s6.2.1, x9))
noncomputable def v_heldIntA4S_L2 (n : Nat) (go3 : (List (V4 Int)) × Int × Int → Option (Int)) (s4 : (List (V4 Int)) × Int × Int) : Option (Int) :=
  br (decide (s4.2.2 < (s4.1.length : Int))) (fx (v_heldIntA4S_L1 n go3) n (s4.1, s4.2.1, s4.2.2, 0)) (some s4.2.1)
noncomputable def v_heldIntA4S (n : Nat) (a1 : (List (V4 Int))) (a2 : Int) : Option (Int) :=
  fx (v_heldIntA4S_L2 n) n (a1, a2, 0)

/-- s_l2Sorted -/
noncomputable def s_l2Sorted_L1 (n : Nat) (go2 : (List (V4 Int)) × Int × (List (V4 Int)) → Option ((List (V4 Int)))) (s3 : (List (V4 Int)) × Int × (List (V4 Int))) : Option ((List (V4 Int))) :=
  br (decide (s3.2.1 < (s3.1.length : Int))) (ckb (inb s3.2.1 s3.1.length) (ob (s_l2Put n s3.2.2 (gl (⟨0, 0, 0, 0⟩ : (V4 Int)) s3.1 s3.2.1.toNat)) fun (r4 : (List (V4 Int))) => lt (w64 (s3.2.1 + 1)) fun (x5 : Int) => go2 (s3.1, x5, r4))) (some s3.2.2)
noncomputable def s_l2Sorted (n : Nat) (a1 : (List (V4 Int))) : Option ((List (V4 Int))) :=
  fx (s_l2Sorted_L1 n) n (a1, 0, ([] : List (V4 Int)))

/-- i_isBlocked -/
noncomputable def i_isBlocked (n : Nat) (a1 : (List (V4 Int))) (a2 : (V4 Int)) : Option (Bool) :=
  ob (i_pairsFor n a1 a2) fun (r3 : (List (V2 Int))) => some (decide (0 < (r3.length : Int)))

/-- i_outside -/
noncomputable def i_outside_L1 (n : Nat) (go3 : (List (V4 Int)) × Bool × Int × (List Int) → Option ((List Int))) (s4 : (List (V4 Int)) × Bool × Int × (List Int)) : Option ((List Int)) :=
  br (decide (s4.2.2.1 < 81)) (ob (i_card n s4.2.2.1) fun (r5 : (V4 Int)) => ob (i_has n s4.1 r5) fun (r6 : Bool) => ob (br (! r6) (ob (i_isBlocked n s4.1 r5) fun (r7 : Bool) => some (r7 == s4.2.1)) (some false)) fun (x8 : Bool) => br x8 (ckb (apok 8 (s4.2.2.2.length + 1)) (lt (w64 (s4.2.2.1 + 1)) fun (x9 : Int) => go3 (s4.1, s4.2.1, x9, (s4.2.2.2 ++ [s4.2.2.1])))) (lt (w64 (s4.2.2.1 + 1)) fun (x10 : Int) => go3 (s4.1, s4.2.1, x10, s4.2.2.2))) (some s4.2.2.2)
noncomputable def i_outside (n : Nat) (a1 : (List (V4 Int))) (a2 : Bool) : Option ((List Int)) :=
  fx (i_outside_L1 n) n (a1, a2, 0, ([] : List Int))

/-- s_l3Cards -/
noncomputable def s_l3Cards_L1 (n : Nat) (go3 : (List (V4 Int)) × Bool × Int × (List Int) → Option ((List Int))) (s4 : (List (V4 Int)) × Bool × Int × (List Int)) : Option ((List Int)) :=
  br (decide (s4.2.2.1 < 81)) (ob (s_l2At n s4.2.2.1) fun (r5 : (V4 Int)) => ob (s_l2Has n s4.1 r5) fun (r6 : Bool) => ob (br (! r6) (ob (s_l2Through n s4.1 r5) fun (r7 : Int) => some ((decide (0 < r7)) == s4.2.1)) (some false)) fun (x8 : Bool) => br x8 (ckb (apok 8 (s4.2.2.2.length + 1)) (lt (w64 (s4.2.2.1 + 1)) fun (x9 : Int) => go3 (s4.1, s4.2.1, x9, (s4.2.2.2 ++ [s4.2.2.1])))) (lt (w64 (s4.2.2.1 + 1)) fun (x10 : Int) => go3 (s4.1, s4.2.1, x10, s4.2.2.2))) (some s4.2.2.2)
noncomputable def s_l3Cards (n : Nat) (a1 : (List (V4 Int))) (a2 : Bool) : Option ((List Int)) :=
  fx (s_l3Cards_L1 n) n (a1, a2, 0, ([] : List Int))

/-- i_isPool -/
noncomputable def i_isPool (n : Nat) (a1 : (List (V4 Int))) : Option (Bool) :=
  ob (i_IsHand n a1) fun (r2 : Bool) => ob (br r2 (some (decide ((a1.length : Int) ≤ 15))) (some false)) fun (x3 : Bool) => some x3

/-- s_l3Pool -/
noncomputable def s_l3Pool (n : Nat) (a1 : (List (V4 Int))) : Option (Bool) :=
  ob (s_l2Hand n a1) fun (r2 : Bool) => ob (br r2 (some (decide ((a1.length : Int) ≤ 15))) (some false)) fun (x3 : Bool) => some x3

/-- s_l3Picked -/
noncomputable def s_l3Picked_L1 (n : Nat) (go3 : (List (V4 Int)) × (List Int) × Int × (List (V4 Int)) → Option ((List (V4 Int)))) (s4 : (List (V4 Int)) × (List Int) × Int × (List (V4 Int))) : Option ((List (V4 Int))) :=
  br (decide (s4.2.2.1 < (s4.2.1.length : Int))) (ckb (inb s4.2.2.1 s4.2.1.length) (ckb (inb (gl 0 s4.2.1 s4.2.2.1.toNat) s4.1.length) (ckb (apok 32 (s4.2.2.2.length + 1)) (lt (w64 (s4.2.2.1 + 1)) fun (x5 : Int) => go3 (s4.1, s4.2.1, x5, (s4.2.2.2 ++ [(gl (⟨0, 0, 0, 0⟩ : (V4 Int)) s4.1 (gl 0 s4.2.1 s4.2.2.1.toNat).toNat)])))))) (some s4.2.2.2)
noncomputable def s_l3Picked (n : Nat) (a1 : (List (V4 Int))) (a2 : (List Int)) : Option ((List (V4 Int))) :=
  fx (s_l3Picked_L1 n) n (a1, a2, 0, ([] : List (V4 Int)))

/-- i_common -/
noncomputable def i_common_L1 (n : Nat) (go3 : Int × (V3 Int) × Int × (V3 Int) → Option (Int)) (s4 : Int × (V3 Int) × Int × (V3 Int)) : Option (Int) :=
  br (decide (s4.2.2.1 < 3)) (ckb (inb s4.2.2.1 3) (ob (slices_Contains_Sint_int_ n (V3.els s4.2.2.2) (V3.get s4.2.1 s4.2.2.1.toNat)) fun (r5 : Bool) => br r5 (lt (w64 (s4.1 + 1)) fun (x6 : Int) => lt (w64 (s4.2.2.1 + 1)) fun (x7 : Int) => go3 (x6, s4.2.1, x7, s4.2.2.2)) (lt (w64 (s4.2.2.1 + 1)) fun (x8 : Int) => go3 (s4.1, s4.2.1, x8, s4.2.2.2)))) (some s4.1)
noncomputable def i_common (n : Nat) (a1 : (V3 Int)) (a2 : (V3 Int)) : Option (Int) :=
  fx (i_common_L1 n) n (0, a1, 0, a2)

/-- s_l7Common -/
noncomputable def s_l7Common_L1 (n : Nat) (go3 : Int × Int × (V3 Int) × (V3 Int) → Option (Int)) (go5 : Int × Int × Int × (V3 Int) × (V3 Int) → Option (Int)) (s6 : Int × Int × Int × (V3 Int) × (V3 Int)) : Option (Int) :=
  br (decide (s6.2.2.1 < 3)) (ckb (inb s6.2.1 3) (ckb (inb s6.2.2.1 3) (br (decide ((V3.get s6.2.2.2.1 s6.2.1.toNat) = (V3.get s6.2.2.2.2 s6.2.2.1.toNat))) (lt (w64 (s6.1 + 1)) fun (x7 : Int) => lt (w64 (s6.2.2.1 + 1)) fun (x8 : Int) => go5 (x7, s6.2.1, x8, s6.2.2.2.1, s6.2.2.2.2)) (lt (w64 (s6.2.2.1 + 1)) fun (x9 : Int) => go5 (s6.1, s6.2.1, x9, s6.2.2.2.1, s6.2.2.2.2))))) (lt (w64 (s6.2.1 + 1)) fun (x10 : Int) => go3 (s6.1, x10, s6.2.2.2.1, s6.2.2.2.2))
noncomputable def s_l7Common_L2 (n : Nat) (go3 : Int × Int × (V3 Int) × (V3 Int) → Option (Int)) (s4 : Int × Int × (V3 Int) × (V3 Int)) : Option (Int) :=
  br (decide (s4.2.1 < 3)) (fx (s_l7Common_L1 n go3) n (s4.1, s4.2.1, 0, s4.2.2.1, s4.2.2.2)) (some s4.1)
noncomputable def s_l7Common (n : Nat) (a1 : (V3 Int)) (a2 : (V3 Int)) : Option (Int) :=
  fx (s_l7Common_L2 n) n (0, 0, a1, a2)

/-- i_isParted -/
noncomputable def i_isParted (n : Nat) (a1 : (List (V4 Int))) : Option (Bool) :=
  ob (i_IsHand n a1) fun (r2 : Bool) => ob (br r2 (some (decide ((a1.length : Int) ≤ 15))) (some false)) fun (x3 : Bool) => some x3

/-- slices_Clone_SA3_A3_ -/
noncomputable def slices_Clone_SA3_A3_ (n : Nat) (a1 : (List (V3 Int))) : Option ((List (V3 Int))) :=
  amb a1.isEmpty fun (b2 : Bool) => br b2 (some ([] : List (V3 Int))) (ckb (apok 24 (0 + a1.length)) (some a1))

/-- i_firstPicking_1'lp_o -/
noncomputable def i_firstPicking_1'lp_o (n : Nat) (a1 : (List (V3 Int))) (a2 : (List (V3 Int))) : Option ((List (V3 Int))) :=
  br (decide ((a2.length : Int) < (a1.length : Int))) (ob (slices_Clone_SA3_A3_ n a1) fun (r3 : (List (V3 Int))) => some r3) (some a2)

/-- i_pickings_1'p -/
noncomputable def i_pickings_1'p (n : Nat) (a1 : (V3 Int)) (a2 : (V3 Int)) : Option (Bool × (V3 Int)) :=
  ob (i_common n a2 a1) fun (r3 : Int) => some ((decide (0 < r3)), a2)

/-- slices_IndexFunc_SA3_A3_'l_i_pickings_1p -/
noncomputable def slices_IndexFunc_SA3_A3_'l_i_pickings_1p_L1 (n : Nat) (go3 : (List (V3 Int)) × Int × Int × (V3 Int) → Option (Int × (V3 Int))) (s4 : (List (V3 Int)) × Int × Int × (V3 Int)) : Option (Int × (V3 Int)) :=
  br (decide (s4.2.2.1 < s4.2.1)) (ckb (inb s4.2.2.1 s4.1.length) (ob (i_pickings_1'p n (gl (⟨0, 0, 0⟩ : (V3 Int)) s4.1 s4.2.2.1.toNat) s4.2.2.2) fun (r5 : Bool × (V3 Int)) => br r5.1 (some (s4.2.2.1, r5.2)) (lt (w64 (s4.2.2.1 + 1)) fun (x6 : Int) => go3 (s4.1, s4.2.1, x6, r5.2)))) (some ((-1), s4.2.2.2))
noncomputable def slices_IndexFunc_SA3_A3_'l_i_pickings_1p (n : Nat) (a1 : (List (V3 Int))) (a2 : (V3 Int)) : Option (Int × (V3 Int)) :=
  fx (slices_IndexFunc_SA3_A3_'l_i_pickings_1p_L1 n) n (a1, (a1.length : Int), 0, a2)

/-- slices_ContainsFunc_SA3_A3_'l_i_pickings_1p -/
noncomputable def slices_ContainsFunc_SA3_A3_'l_i_pickings_1p (n : Nat) (a1 : (List (V3 Int))) (a2 : (V3 Int)) : Option (Bool × (V3 Int)) :=
  ob (slices_IndexFunc_SA3_A3_'l_i_pickings_1p n a1 a2) fun (r3 : Int × (V3 Int)) => some ((decide (0 ≤ r3.1)), r3.2)

/-- i_pickings'll_i_firstPicking_1p_o -/
noncomputable def i_pickings'll_i_firstPicking_1p_o_L1 (n : Nat) (go0 : (List (V3 Int)) × (List (V3 Int)) × (List (V3 Int)) → Option ((List (V3 Int)))) (go5 : (List (V3 Int)) × (List (V3 Int)) × (List (V3 Int)) × Int × Int × (List (V3 Int)) → Option ((List (V3 Int)))) (s6 : (List (V3 Int)) × (List (V3 Int)) × (List (V3 Int)) × Int × Int × (List (V3 Int))) : Option ((List (V3 Int))) :=
  br (decide (s6.2.2.2.2.1 < s6.2.2.2.1)) (ckb (inb s6.2.2.2.2.1 s6.2.2.1.length) (ob (slices_ContainsFunc_SA3_A3_'l_i_pickings_1p n s6.2.1 (gl (⟨0, 0, 0⟩ : (V3 Int)) s6.2.2.1 s6.2.2.2.2.1.toNat)) fun (r7 : Bool × (V3 Int)) => br (! r7.1) (lt (w64 (s6.2.2.2.2.1 + 1)) fun (x8 : Int) => ckb (slb x8 (s6.1.length : Int) s6.1.length) (ckb (cand (slb 0 (s6.2.1.length : Int) s6.2.1.length) (decide ((s6.2.1.length : Int) = (s6.2.1.length : Int)))) (ckb (cand (apok 24 ((sub s6.2.1 0 s6.2.1.length).length + 1)) (cor (sub s6.2.1 0 s6.2.1.length).isEmpty true)) (ob (go0 ((sub s6.1 x8.toNat s6.1.length), ((sub s6.2.1 0 s6.2.1.length) ++ [r7.2]), s6.2.2.2.2.2)) fun (r9 : (List (V3 Int))) => lt (w64 (s6.2.2.2.2.1 + 1)) fun (x10 : Int) => go5 (s6.1, s6.2.1, s6.2.2.1, s6.2.2.2.1, x10, r9))))) (lt (w64 (s6.2.2.2.2.1 + 1)) fun (x11 : Int) => go5 (s6.1, s6.2.1, s6.2.2.1, s6.2.2.2.1, x11, s6.2.2.2.2.2)))) (some s6.2.2.2.2.2)
noncomputable def i_pickings'll_i_firstPicking_1p_o_R (n : Nat) (go0 : (List (V3 Int)) × (List (V3 Int)) × (List (V3 Int)) → Option ((List (V3 Int)))) (x : (List (V3 Int)) × (List (V3 Int)) × (List (V3 Int))) : Option ((List (V3 Int))) :=
  (fun (a1 : (List (V3 Int))) (a2 : (List (V3 Int))) (a3 : (List (V3 Int))) => ob (i_firstPicking_1'lp_o n a2 a3) fun (r4 : (List (V3 Int))) => fx (i_pickings'll_i_firstPicking_1p_o_L1 n go0) n (a1, a2, a1, (a1.length : Int), 0, r4)) x.1 x.2.1 x.2.2
noncomputable def i_pickings'll_i_firstPicking_1p_o (n : Nat) (a1 : (List (V3 Int))) (a2 : (List (V3 Int))) (a3 : (List (V3 Int))) : Option ((List (V3 Int))) := fx (i_pickings'll_i_firstPicking_1p_o_R n) n (a1, a2, a3)

/-- i_firstPicking -/
noncomputable def i_firstPicking (n : Nat) (a1 : (List (V4 Int))) : Option ((List (V3 Int))) :=
  ob (i_linesIn n a1) fun (r2 : (List (V3 Int))) => ob (i_pickings'll_i_firstPicking_1p_o n r2 ([] : List (V3 Int)) ([] : List (V3 Int))) fun (r3 : (List (V3 Int))) => some r3

/-- i_MostDisjoint -/
noncomputable def i_MostDisjoint (n : Nat) (a1 : (List (V4 Int))) : Option (Int × Bool) :=
  ob (i_isParted n a1) fun (r2 : Bool) => br (! r2) (some (0, false)) (ob (i_firstPicking n a1) fun (r3 : (List (V3 Int))) => some ((r3.length : Int), true))

/-- i_BlockedCards -/
noncomputable def i_BlockedCards (n : Nat) (a1 : (List (V4 Int))) : Option (Bool × (List Int)) :=
  ob (i_IsHand n a1) fun (r2 : Bool) => br (! r2) (some (false, ([] : List Int))) (ob (i_outside n a1 true) fun (r3 : (List Int)) => some (true, r3))

/-- s_l1Num -/

noncomputable def s_l1Num_R (n : Nat) (go0 : Int → Option (ByteArray)) (x : Int) : Option (ByteArray) :=
  (fun (a1 : Int) => br (decide (a1 < 0)) (br (decide ((-10) < a1)) (lt (w64 (0 - a1)) fun (x2 : Int) => ob (go0 x2) fun (r3 : ByteArray) => ckb (stok (1 + r3.size)) (lt ((⟨#[45]⟩ : ByteArray) ++ r3) fun (x4 : ByteArray) => some x4)) (lt (w64 (Int.tdiv a1 10)) fun (x5 : Int) => ob (go0 x5) fun (r6 : ByteArray) => lt (Int.tmod a1 10) fun (x7 : Int) => lt (w64 (0 - x7)) fun (x8 : Int) => ob (go0 x8) fun (r9 : ByteArray) => ckb (stok (r6.size + r9.size)) (lt (r6 ++ r9) fun (x10 : ByteArray) => some x10))) (br (decide (a1 < 10)) (lt (w64 (a1 + 1)) fun (x11 : Int) => ckb (slb a1 x11 10) (some (ssub (⟨#[48, 49, 50, 51, 52, 53, 54, 55, 56, 57]⟩ : ByteArray) a1.toNat x11.toNat))) (lt (w64 (Int.tdiv a1 10)) fun (x12 : Int) => ob (go0 x12) fun (r13 : ByteArray) => lt (Int.tmod a1 10) fun (x14 : Int) => lt (Int.tmod a1 10) fun (x15 : Int) => lt (w64 (x15 + 1)) fun (x16 : Int) => ckb (slb x14 x16 10) (ckb (stok (r13.size + (ssub (⟨#[48, 49, 50, 51, 52, 53, 54, 55, 56, 57]⟩ : ByteArray) x14.toNat x16.toNat).size)) (lt (r13 ++ (ssub (⟨#[48, 49, 50, 51, 52, 53, 54, 55, 56, 57]⟩ : ByteArray) x14.toNat x16.toNat)) fun (x17 : ByteArray) => some x17))))) x
noncomputable def s_l1Num (n : Nat) (a1 : Int) : Option (ByteArray) := fx (s_l1Num_R n) n a1

/-- v_vInts -/
noncomputable def v_vInts_L1 (n : Nat) (go3 : (List Int) × (List Int) × Int → Option (Bool)) (s4 : (List Int) × (List Int) × Int) : Option (Bool) :=
  br (decide (s4.2.2 < (s4.1.length : Int))) (ckb (inb s4.2.2 s4.1.length) (ckb (inb s4.2.2 s4.2.1.length) (br (!decide ((gl 0 s4.1 s4.2.2.toNat) = (gl 0 s4.2.1 s4.2.2.toNat))) (some false) (lt (w64 (s4.2.2 + 1)) fun (x5 : Int) => go3 (s4.1, s4.2.1, x5))))) (some true)
noncomputable def v_vInts (n : Nat) (a1 : (List Int)) (a2 : (List Int)) : Option (Bool) :=
  br (!decide ((a1.length : Int) = (a2.length : Int))) (some false) (fx (v_vInts_L1 n) n (a1, a2, 0))

/-- v_vHands -/
noncomputable def v_vHands_L1 (n : Nat) (go3 : (List (V4 Int)) × (List (V4 Int)) × Int → Option (Bool)) (s4 : (List (V4 Int)) × (List (V4 Int)) × Int) : Option (Bool) :=
  br (decide (s4.2.2 < (s4.1.length : Int))) (ckb (inb s4.2.2 s4.1.length) (ckb (inb s4.2.2 s4.2.1.length) (br (!eqd (gl (⟨0, 0, 0, 0⟩ : (V4 Int)) s4.1 s4.2.2.toNat) (gl (⟨0, 0, 0, 0⟩ : (V4 Int)) s4.2.1 s4.2.2.toNat)) (some false) (lt (w64 (s4.2.2 + 1)) fun (x5 : Int) => go3 (s4.1, s4.2.1, x5))))) (some true)
noncomputable def v_vHands (n : Nat) (a1 : (List (V4 Int))) (a2 : (List (V4 Int))) : Option (Bool) :=
  br (!decide ((a1.length : Int) = (a2.length : Int))) (some false) (fx (v_vHands_L1 n) n (a1, a2, 0))

/-- i_FreeCards -/
noncomputable def i_FreeCards (n : Nat) (a1 : (List (V4 Int))) : Option (Bool × (List Int)) :=
  ob (i_IsHand n a1) fun (r2 : Bool) => br (! r2) (some (false, ([] : List Int))) (ob (i_outside n a1 false) fun (r3 : (List Int)) => some (true, r3))

/-- i_CardNumber -/
noncomputable def i_CardNumber (n : Nat) (a1 : (V4 Int)) : Option (Int × Bool) :=
  ob (i_IsCard n a1) fun (r2 : Bool) => br (! r2) (some (0, false)) (ob (i_number n a1) fun (r3 : Int) => some (r3, true))

/-- v_eqTable -/
noncomputable def v_eqTable (n : Nat) (a1 : ((List (V4 Int)) × (Int × Int))) (a2 : ((List (V4 Int)) × (Int × Int))) : Option (Bool) :=
  ob (v_eqIntA4S n a1.1 a2.1) fun (r3 : Bool) => br (! r3) (some false) (br (!decide (a1.2.1 = a2.2.1)) (some false) (br (!decide (a1.2.2 = a2.2.2)) (some false) (some true)))

/-- v_markTable'o -/
noncomputable def v_markTable'o (n : Nat) (a1 : (Int × Int)) (a2 : Int) (a3 : (List (V4 Int))) : Option (Int × (List (V4 Int))) :=
  ob (v_markIntA4S'o n a2 a3) fun (r4 : Int × (List (V4 Int))) => some (r4.1, r4.2)

/-- v_heldTable -/
noncomputable def v_heldTable (n : Nat) (a1 : ((List (V4 Int)) × (Int × Int))) (a2 : Int) : Option (Int) :=
  ob (v_heldIntA4S n a1.1 a2) fun (r3 : Int) => br (decide (r3 < 0)) (some (-1)) (some r3)

/-- s_l7Free -/
noncomputable def s_l7Free_L1 (n : Nat) (go3 : (List (V3 Int)) × Int × (V3 Int) → Option (Bool)) (s4 : (List (V3 Int)) × Int × (V3 Int)) : Option (Bool) :=
  br (decide (s4.2.1 < (s4.1.length : Int))) (ckb (inb s4.2.1 s4.1.length) (ob (s_l7Common n (gl (⟨0, 0, 0⟩ : (V3 Int)) s4.1 s4.2.1.toNat) s4.2.2) fun (r5 : Int) => br (decide (0 < r5)) (some false) (lt (w64 (s4.2.1 + 1)) fun (x6 : Int) => go3 (s4.1, x6, s4.2.2)))) (some true)
noncomputable def s_l7Free (n : Nat) (a1 : (List (V3 Int))) (a2 : (V3 Int)) : Option (Bool) :=
  fx (s_l7Free_L1 n) n (a1, 0, a2)

/-- i_GreedyPicking_1'p -/
noncomputable def i_GreedyPicking_1'p (n : Nat) (a1 : (V3 Int)) (a2 : (V3 Int)) : Option (Bool × (V3 Int)) :=
  ob (i_common n a2 a1) fun (r3 : Int) => some ((decide (0 < r3)), a2)

/-- slices_IndexFunc_SA3_A3_'l_i_GreedyPicking_1p -/
noncomputable def slices_IndexFunc_SA3_A3_'l_i_GreedyPicking_1p_L1 (n : Nat) (go3 : (List (V3 Int)) × Int × Int × (V3 Int) → Option (Int × (V3 Int))) (s4 : (List (V3 Int)) × Int × Int × (V3 Int)) : Option (Int × (V3 Int)) :=
  br (decide (s4.2.2.1 < s4.2.1)) (ckb (inb s4.2.2.1 s4.1.length) (ob (i_GreedyPicking_1'p n (gl (⟨0, 0, 0⟩ : (V3 Int)) s4.1 s4.2.2.1.toNat) s4.2.2.2) fun (r5 : Bool × (V3 Int)) => br r5.1 (some (s4.2.2.1, r5.2)) (lt (w64 (s4.2.2.1 + 1)) fun (x6 : Int) => go3 (s4.1, s4.2.1, x6, r5.2)))) (some ((-1), s4.2.2.2))
noncomputable def slices_IndexFunc_SA3_A3_'l_i_GreedyPicking_1p (n : Nat) (a1 : (List (V3 Int))) (a2 : (V3 Int)) : Option (Int × (V3 Int)) :=
  fx (slices_IndexFunc_SA3_A3_'l_i_GreedyPicking_1p_L1 n) n (a1, (a1.length : Int), 0, a2)

/-- slices_ContainsFunc_SA3_A3_'l_i_GreedyPicking_1p -/
noncomputable def slices_ContainsFunc_SA3_A3_'l_i_GreedyPicking_1p (n : Nat) (a1 : (List (V3 Int))) (a2 : (V3 Int)) : Option (Bool × (V3 Int)) :=
  ob (slices_IndexFunc_SA3_A3_'l_i_GreedyPicking_1p n a1 a2) fun (r3 : Int × (V3 Int)) => some ((decide (0 ≤ r3.1)), r3.2)

/-- i_GreedyPicking -/
noncomputable def i_GreedyPicking_L1 (n : Nat) (go4 : Int × Int × (List (V3 Int)) × (List (V3 Int)) → Option (Bool × (List (V3 Int)))) (s5 : Int × Int × (List (V3 Int)) × (List (V3 Int))) : Option (Bool × (List (V3 Int))) :=
  br (decide (s5.2.1 < s5.1)) (ckb (inb s5.2.1 s5.2.2.2.length) (ob (slices_ContainsFunc_SA3_A3_'l_i_GreedyPicking_1p n s5.2.2.1 (gl (⟨0, 0, 0⟩ : (V3 Int)) s5.2.2.2 s5.2.1.toNat)) fun (r6 : Bool × (V3 Int)) => br (! r6.1) (ckb (apok 24 (s5.2.2.1.length + 1)) (lt (w64 (s5.2.1 + 1)) fun (x7 : Int) => go4 (s5.1, x7, (s5.2.2.1 ++ [r6.2]), s5.2.2.2))) (lt (w64 (s5.2.1 + 1)) fun (x8 : Int) => go4 (s5.1, x8, s5.2.2.1, s5.2.2.2)))) (some (true, s5.2.2.1))
noncomputable def i_GreedyPicking (n : Nat) (a1 : (List (V4 Int))) : Option (Bool × (List (V3 Int))) :=
  ob (i_IsHand n a1) fun (r2 : Bool) => br (! r2) (some (false, ([] : List (V3 Int)))) (ob (i_linesIn n a1) fun (r3 : (List (V3 Int))) => fx (i_GreedyPicking_L1 n) n ((r3.length : Int), 0, ([] : List (V3 Int)), r3))

/-- s_GreedyPicking -/
noncomputable def s_GreedyPicking_L1 (n : Nat) (go4 : Int × (List (V3 Int)) × (List (V3 Int)) → Option (Bool × (List (V3 Int)))) (s5 : Int × (List (V3 Int)) × (List (V3 Int))) : Option (Bool × (List (V3 Int))) :=
  br (decide (s5.1 < (s5.2.2.length : Int))) (ckb (inb s5.1 s5.2.2.length) (ob (s_l7Free n s5.2.1 (gl (⟨0, 0, 0⟩ : (V3 Int)) s5.2.2 s5.1.toNat)) fun (r6 : Bool) => br r6 (ckb (inb s5.1 s5.2.2.length) (ckb (apok 24 (s5.2.1.length + 1)) (lt (w64 (s5.1 + 1)) fun (x7 : Int) => go4 (x7, (s5.2.1 ++ [(gl (⟨0, 0, 0⟩ : (V3 Int)) s5.2.2 s5.1.toNat)]), s5.2.2)))) (lt (w64 (s5.1 + 1)) fun (x8 : Int) => go4 (x8, s5.2.1, s5.2.2)))) (some (true, s5.2.1))
noncomputable def s_GreedyPicking (n : Nat) (a1 : (List (V4 Int))) : Option (Bool × (List (V3 Int))) :=
  ob (s_l2Hand n a1) fun (r2 : Bool) => br (! r2) (some (false, ([] : List (V3 Int)))) (ob (s_l2Lines n a1) fun (r3 : (List (V3 Int))) => fx (s_GreedyPicking_L1 n) n (0, ([] : List (V3 Int)), r3))

/-- s_Cur_near'p -/
noncomputable def s_Cur_near'p (n : Nat) (a1 : (V4 Int)) (a2 : ((List Int) × (Int × Int))) : Option ((V4 Int) × ((List Int) × (Int × Int))) :=
  ob (s_Cur_one'p n 2 a2) fun (r3 : Bool × ((List Int) × (Int × Int))) => br r3.1 (ob (s_Cur_card'p n r3.2) fun (r4 : (V4 Int) × ((List Int) × (Int × Int))) => some (r4.1, r4.2)) (ob (s_Cur_one'p n 4 r3.2) fun (r5 : Bool × ((List Int) × (Int × Int))) => br (! r5.1) (ob (s_Cur_pick'p n 4 r5.2) fun (r6 : Int × ((List Int) × (Int × Int))) => ob (s_Cur_pick'p n 3 r6.2) fun (r7 : Int × ((List Int) × (Int × Int))) => ckb (inb r6.1 4) (lt (V4.set a1 r6.1.toNat r7.1) fun (x8 : (V4 Int)) => some (x8, r7.2))) (some (a1, r5.2)))

/-- i_ThirdCard -/
noncomputable def i_ThirdCard (n : Nat) (a1 : (V4 Int)) (a2 : (V4 Int)) : Option ((V4 Int) × Bool) :=
  ob (i_IsCard n a1) fun (r3 : Bool) => ob (br (! r3) (some true) (ob (i_IsCard n a2) fun (r4 : Bool) => some (! r4))) fun (x5 : Bool) => ob (br x5 (some true) (some (eqd a1 a2))) fun (x6 : Bool) => br x6 (lt (⟨0, 0, 0, 0⟩ : (V4 Int)) fun (x7 : (V4 Int)) => some (x7, false)) (ob (i_third n a1 a2) fun (r8 : (V4 Int)) => some (r8, true))

/-- s_ThirdCard -/
noncomputable def s_ThirdCard (n : Nat) (a1 : (V4 Int)) (a2 : (V4 Int)) : Option ((V4 Int) × Bool) :=
  ob (s_l2Card n a1) fun (r3 : Bool) => ob (br (! r3) (some true) (ob (s_l2Card n a2) fun (r4 : Bool) => some (! r4))) fun (x5 : Bool) => ob (br x5 (some true) (some (eqd a1 a2))) fun (x6 : Bool) => br x6 (lt (⟨0, 0, 0, 0⟩ : (V4 Int)) fun (x7 : (V4 Int)) => some (x7, false)) (ob (s_l2Third n a1 a2) fun (r8 : (V4 Int)) => some (r8, true))

/-- s_IsLine -/
noncomputable def s_IsLine (n : Nat) (a1 : (V4 Int)) (a2 : (V4 Int)) (a3 : (V4 Int)) : Option (Bool × Bool) :=
  ob (s_l2Card n a1) fun (r4 : Bool) => ob (br (! r4) (some true) (ob (s_l2Card n a2) fun (r5 : Bool) => some (! r5))) fun (x6 : Bool) => ob (br x6 (some true) (ob (s_l2Card n a3) fun (r7 : Bool) => some (! r7))) fun (x8 : Bool) => br x8 (some (false, false)) (ob (s_l2Line n a1 a2 a3) fun (r9 : Bool) => some (r9, true))

/-- i_LineKind -/
noncomputable def i_LineKind (n : Nat) (a1 : (V4 Int)) (a2 : (V4 Int)) (a3 : (V4 Int)) : Option (Int × Bool) :=
  ob (i_areCards n [a1, a2, a3]) fun (r4 : Bool) => ob (br (! r4) (some true) (ob (i_isLine n a1 a2 a3) fun (r5 : Bool) => some (! r5))) fun (x6 : Bool) => br x6 (some (0, false)) (ob (i_differ n a1 a2) fun (r7 : Int) => some (r7, true))

/-- s_LineKind -/
noncomputable def s_LineKind (n : Nat) (a1 : (V4 Int)) (a2 : (V4 Int)) (a3 : (V4 Int)) : Option (Int × Bool) :=
  ob (s_l2Card n a1) fun (r4 : Bool) => ob (br (! r4) (some true) (ob (s_l2Card n a2) fun (r5 : Bool) => some (! r5))) fun (x6 : Bool) => ob (br x6 (some true) (ob (s_l2Card n a3) fun (r7 : Bool) => some (! r7))) fun (x8 : Bool) => ob (br x8 (some true) (ob (s_l2Line n a1 a2 a3) fun (r9 : Bool) => some (! r9))) fun (x10 : Bool) => br x10 (some (0, false)) (ob (s_l2Differ n a1 a2) fun (r11 : Int) => some (r11, true))

/-- i_DifferIn -/
noncomputable def i_DifferIn (n : Nat) (a1 : (V4 Int)) (a2 : (V4 Int)) : Option (Int × Bool) :=
  ob (i_areCards n [a1, a2]) fun (r3 : Bool) => br (! r3) (some (0, false)) (ob (i_differ n a1 a2) fun (r4 : Int) => some (r4, true))

/-- s_DifferIn -/
noncomputable def s_DifferIn (n : Nat) (a1 : (V4 Int)) (a2 : (V4 Int)) : Option (Int × Bool) :=
  ob (s_l2Card n a1) fun (r3 : Bool) => ob (br (! r3) (some true) (ob (s_l2Card n a2) fun (r4 : Bool) => some (! r4))) fun (x5 : Bool) => br x5 (some (0, false)) (ob (s_l2Differ n a1 a2) fun (r6 : Int) => some (r6, true))

/-- s_CardNumber -/
noncomputable def s_CardNumber (n : Nat) (a1 : (V4 Int)) : Option (Int × Bool) :=
  ob (s_l2Card n a1) fun (r2 : Bool) => br (! r2) (some (0, false)) (ob (s_l2Number n a1) fun (r3 : Int) => some (r3, true))

/-- s_CardAt -/
noncomputable def s_CardAt (n : Nat) (a1 : Int) : Option ((V4 Int) × Bool) :=
  ob (s_l1In n a1 0 80) fun (r2 : Bool) => br (! r2) (lt (⟨0, 0, 0, 0⟩ : (V4 Int)) fun (x3 : (V4 Int)) => some (x3, false)) (ob (s_l2At n a1) fun (r4 : (V4 Int)) => some (r4, true))

/-- i_cardText -/
noncomputable def i_cardText_L1 (n : Nat) (go2 : (V4 Int) × Int × (List Int) → Option (ByteArray)) (s3 : (V4 Int) × Int × (List Int)) : Option (ByteArray) :=
  br (decide (s3.2.1 < 4)) (ckb (inb s3.2.1 4) (lt (w64 (48 + (V4.get s3.1 s3.2.1.toNat))) fun (x4 : Int) => lt (IntKind.wrap .u8 x4) fun (x5 : Int) => ckb (apok 1 (s3.2.2.length + 1)) (lt (w64 (s3.2.1 + 1)) fun (x6 : Int) => go2 (s3.1, x6, (s3.2.2 ++ [x5]))))) (lt (strOfNums s3.2.2) fun (x7 : ByteArray) => some x7)
noncomputable def i_cardText (n : Nat) (a1 : (V4 Int)) : Option (ByteArray) :=
  fx (i_cardText_L1 n) n (a1, 0, ([] : List Int))

/-- s_l2Text -/
noncomputable def s_l2Text_L1 (n : Nat) (go2 : ByteArray × Int × (V4 Int) → Option (ByteArray)) (s3 : ByteArray × Int × (V4 Int)) : Option (ByteArray) :=
  br (decide (s3.2.1 < 4)) (ckb (inb s3.2.1 4) (ob (s_l1Num n (V4.get s3.2.2 s3.2.1.toNat)) fun (r4 : ByteArray) => ckb (stok (s3.1.size + r4.size)) (lt (s3.1 ++ r4) fun (x5 : ByteArray) => lt (w64 (s3.2.1 + 1)) fun (x6 : Int) => go2 (x5, x6, s3.2.2)))) (some s3.1)
noncomputable def s_l2Text (n : Nat) (a1 : (V4 Int)) : Option (ByteArray) :=
  fx (s_l2Text_L1 n) n ((⟨#[]⟩ : ByteArray), 0, a1)

/-- s_l2Drop -/
noncomputable def s_l2Drop (n : Nat) (a1 : (List (V4 Int))) (a2 : Int) : Option ((List (V4 Int))) :=
  ckb (slb 0 a2 a1.length) (ob (s_l2Own n (sub a1 0 a2.toNat)) fun (r3 : (List (V4 Int))) => lt (w64 (a2 + 1)) fun (x4 : Int) => ckb (slb x4 (a1.length : Int) a1.length) (ckb (apok 32 (r3.length + (sub a1 x4.toNat a1.length).length)) (some (r3 ++ (sub a1 x4.toNat a1.length)))))

/-- s_l6Span -/
noncomputable def s_l6Span_L1 (n : Nat) (go3 : Int × (List (V4 Int)) → Option ((List (V4 Int)))) (go5 : Int × Int × (List (V4 Int)) → Option ((List (V4 Int)))) (s6 : Int × Int × (List (V4 Int))) : Option ((List (V4 Int))) :=
  br (decide (s6.2.1 < s6.1)) (ckb (inb s6.1 s6.2.2.length) (ckb (inb s6.2.1 s6.2.2.length) (ob (s_l2Third n (gl (⟨0, 0, 0, 0⟩ : (V4 Int)) s6.2.2 s6.1.toNat) (gl (⟨0, 0, 0, 0⟩ : (V4 Int)) s6.2.2 s6.2.1.toNat)) fun (r7 : (V4 Int)) => ob (s_l2Has n s6.2.2 r7) fun (r8 : Bool) => br (! r8) (ob (s_l2Put n s6.2.2 r7) fun (r9 : (List (V4 Int))) => lt (w64 ((-1) + 1)) fun (x10 : Int) => go5 (0, x10, r9)) (lt (w64 (s6.2.1 + 1)) fun (x11 : Int) => go5 (s6.1, x11, s6.2.2))))) (lt (w64 (s6.1 + 1)) fun (x12 : Int) => go3 (x12, s6.2.2))
noncomputable def s_l6Span_L2 (n : Nat) (go3 : Int × (List (V4 Int)) → Option ((List (V4 Int)))) (s4 : Int × (List (V4 Int))) : Option ((List (V4 Int))) :=
  br (decide (s4.1 < (s4.2.length : Int))) (fx (s_l6Span_L1 n go3) n (s4.1, 0, s4.2)) (some s4.2)
noncomputable def s_l6Span (n : Nat) (a1 : (List (V4 Int))) : Option ((List (V4 Int))) :=
  ob (s_l2Sorted n a1) fun (r2 : (List (V4 Int))) => fx (s_l6Span_L2 n) n (0, r2)

/-- cmp_Compare_int_ -/
noncomputable def cmp_Compare_int_ (n : Nat) (a1 : Int) (a2 : Int) : Option (Int) :=
  ob (cmp_isNaN_int_ n a1) fun (r3 : Bool) => ob (cmp_isNaN_int_ n a2) fun (r4 : Bool) => br r3 (br r4 (some 0) (some (-1))) (br r4 (some 1) (br (decide (a1 < a2)) (some (-1)) (br (decide (a2 < a1)) (some 1) (some 0))))

/-- s_DrawLineCounts -/
noncomputable def s_DrawLineCounts (n : Nat) (a1 : (List Int)) : Option ((List (V4 Int))) :=
  lt (a1, (0, 0)) fun (x2 : ((List Int) × (Int × Int))) => ob (s_Cur_dense7'p n x2) fun (r3 : ((List Int) × (Int × Int)) × (List (V4 Int))) => some r3.2

/-- s_DrawFirstPicking -/
noncomputable def s_DrawFirstPicking (n : Nat) (a1 : (List Int)) : Option ((List (V4 Int))) :=
  ob (s_DrawLineCounts n a1) fun (r2 : (List (V4 Int))) => some r2

/-- i_FirstPicking -/
noncomputable def i_FirstPicking (n : Nat) (a1 : (List (V4 Int))) : Option (Bool × (List (V3 Int))) :=
  ob (i_isParted n a1) fun (r2 : Bool) => br (! r2) (some (false, ([] : List (V3 Int)))) (ob (i_firstPicking n a1) fun (r3 : (List (V3 Int))) => some (true, r3))

/-- s_l7Pool -/
noncomputable def s_l7Pool (n : Nat) (a1 : (List (V4 Int))) : Option (Bool) :=
  ob (s_l2Hand n a1) fun (r2 : Bool) => ob (br r2 (some (decide ((a1.length : Int) ≤ 15))) (some false)) fun (x3 : Bool) => some x3

/-- s_l7Best'lk -/
noncomputable def s_l7Best'lk_L1 (n : Nat) (go0 : (List (V3 Int)) × (List (V3 Int)) × Int → Option ((List (V3 Int)))) (go4 : (List (V3 Int)) × (List (V3 Int)) × (List (V3 Int)) × Int → Option ((List (V3 Int)))) (s5 : (List (V3 Int)) × (List (V3 Int)) × (List (V3 Int)) × Int) : Option ((List (V3 Int))) :=
  br (decide (s5.2.2.2 < (s5.1.length : Int))) (ckb (inb s5.2.2.2 s5.1.length) (ob (s_l7Free n s5.2.1 (gl (⟨0, 0, 0⟩ : (V3 Int)) s5.1 s5.2.2.2.toNat)) fun (r6 : Bool) => br (! r6) (lt (w64 (s5.2.2.2 + 1)) fun (x7 : Int) => go4 (s5.1, s5.2.1, s5.2.2.1, x7)) (ckb (apok 24 (0 + s5.2.1.length)) (ckb (inb s5.2.2.2 s5.1.length) (ckb (apok 24 (s5.2.1.length + 1)) (lt (w64 (s5.2.2.2 + 1)) fun (x8 : Int) => ob (go0 (s5.1, (s5.2.1 ++ [(gl (⟨0, 0, 0⟩ : (V3 Int)) s5.1 s5.2.2.2.toNat)]), x8)) fun (r9 : (List (V3 Int))) => br (decide ((s5.2.2.1.length : Int) < (r9.length : Int))) (lt (w64 (s5.2.2.2 + 1)) fun (x10 : Int) => go4 (s5.1, s5.2.1, r9, x10)) (lt (w64 (s5.2.2.2 + 1)) fun (x11 : Int) => go4 (s5.1, s5.2.1, s5.2.2.1, x11)))))))) (some s5.2.2.1)
noncomputable def s_l7Best'lk_R (n : Nat) (go0 : (List (V3 Int)) × (List (V3 Int)) × Int → Option ((List (V3 Int)))) (x : (List (V3 Int)) × (List (V3 Int)) × Int) : Option ((List (V3 Int))) :=
  (fun (a1 : (List (V3 Int))) (a2 : (List (V3 Int))) (a3 : Int) => fx (s_l7Best'lk_L1 n go0) n (a1, a2, a2, a3)) x.1 x.2.1 x.2.2
noncomputable def s_l7Best'lk (n : Nat) (a1 : (List (V3 Int))) (a2 : (List (V3 Int))) (a3 : Int) : Option ((List (V3 Int))) := fx (s_l7Best'lk_R n) n (a1, a2, a3)

/-- s_FirstPicking -/
noncomputable def s_FirstPicking (n : Nat) (a1 : (List (V4 Int))) : Option ((List (V3 Int)) × Bool) :=
  ob (s_l7Pool n a1) fun (r2 : Bool) => br (! r2) (some (([] : List (V3 Int)), false)) (ob (s_l2Lines n a1) fun (r3 : (List (V3 Int))) => ob (s_l7Best'lk n r3 ([] : List (V3 Int)) 0) fun (r4 : (List (V3 Int))) => some (r4, true))

/-- s_MostDisjoint -/
noncomputable def s_MostDisjoint (n : Nat) (a1 : (List (V4 Int))) : Option (Int × Bool) :=
  ob (s_l7Pool n a1) fun (r2 : Bool) => br (! r2) (some (0, false)) (ob (s_l2Lines n a1) fun (r3 : (List (V3 Int))) => ob (s_l7Best'lk n r3 ([] : List (V3 Int)) 0) fun (r4 : (List (V3 Int))) => some ((r4.length : Int), true))

/-- i_countPickings_1'lpp -/
noncomputable def i_countPickings_1'lpp (n : Nat) (a1 : (List (V3 Int))) (a2 : Int) (a3 : Int) : Option (Int × Int) :=
  br (decide ((a1.length : Int) = a2)) (lt (w64 (a3 + 1)) fun (x4 : Int) => some (a2, x4)) (some (a2, a3))

/-- i_pickings'll_i_countPickings_1pp -/
noncomputable def i_pickings'll_i_countPickings_1pp_L1 (n : Nat) (go0 : (List (V3 Int)) × (List (V3 Int)) × Int × Int → Option (Int × Int)) (go6 : (List (V3 Int)) × (List (V3 Int)) × (List (V3 Int)) × Int × Int × Int × Int → Option (Int × Int)) (s7 : (List (V3 Int)) × (List (V3 Int)) × (List (V3 Int)) × Int × Int × Int × Int) : Option (Int × Int) :=
  br (decide (s7.2.2.2.2.1 < s7.2.2.2.1)) (ckb (inb s7.2.2.2.2.1 s7.2.2.1.length) (ob (slices_ContainsFunc_SA3_A3_'l_i_pickings_1p n s7.2.1 (gl (⟨0, 0, 0⟩ : (V3 Int)) s7.2.2.1 s7.2.2.2.2.1.toNat)) fun (r8 : Bool × (V3 Int)) => br (! r8.1) (lt (w64 (s7.2.2.2.2.1 + 1)) fun (x9 : Int) => ckb (slb x9 (s7.1.length : Int) s7.1.length) (ckb (cand (slb 0 (s7.2.1.length : Int) s7.2.1.length) (decide ((s7.2.1.length : Int) = (s7.2.1.length : Int)))) (ckb (cand (apok 24 ((sub s7.2.1 0 s7.2.1.length).length + 1)) (cor (sub s7.2.1 0 s7.2.1.length).isEmpty true)) (ob (go0 ((sub s7.1 x9.toNat s7.1.length), ((sub s7.2.1 0 s7.2.1.length) ++ [r8.2]), s7.2.2.2.2.2.1, s7.2.2.2.2.2.2)) fun (r10 : Int × Int) => lt (w64 (s7.2.2.2.2.1 + 1)) fun (x11 : Int) => go6 (s7.1, s7.2.1, s7.2.2.1, s7.2.2.2.1, x11, r10.1, r10.2))))) (lt (w64 (s7.2.2.2.2.1 + 1)) fun (x12 : Int) => go6 (s7.1, s7.2.1, s7.2.2.1, s7.2.2.2.1, x12, s7.2.2.2.2.2.1, s7.2.2.2.2.2.2)))) (some (s7.2.2.2.2.2.1, s7.2.2.2.2.2.2))
noncomputable def i_pickings'll_i_countPickings_1pp_R (n : Nat) (go0 : (List (V3 Int)) × (List (V3 Int)) × Int × Int → Option (Int × Int)) (x : (List (V3 Int)) × (List (V3 Int)) × Int × Int) : Option (Int × Int) :=
  (fun (a1 : (List (V3 Int))) (a2 : (List (V3 Int))) (a3 : Int) (a4 : Int) => ob (i_countPickings_1'lpp n a2 a3 a4) fun (r5 : Int × Int) => fx (i_pickings'll_i_countPickings_1pp_L1 n go0) n (a1, a2, a1, (a1.length : Int), 0, r5.1, r5.2)) x.1 x.2.1 x.2.2.1 x.2.2.2
noncomputable def i_pickings'll_i_countPickings_1pp (n : Nat) (a1 : (List (V3 Int))) (a2 : (List (V3 Int))) (a3 : Int) (a4 : Int) : Option (Int × Int) := fx (i_pickings'll_i_countPickings_1pp_R n) n (a1, a2, a3, a4)

/-- i_countPickings -/
noncomputable def i_countPickings (n : Nat) (a1 : (List (V4 Int))) (a2 : Int) : Option (Int) :=
  ob (i_linesIn n a1) fun (r3 : (List (V3 Int))) => ob (i_pickings'll_i_countPickings_1pp n r3 ([] : List (V3 Int)) a2 0) fun (r4 : Int × Int) => some r4.2

/-- i_CountPartings -/
noncomputable def i_CountPartings (n : Nat) (a1 : (List (V4 Int))) : Option (Int × Bool) :=
  ob (i_isParted n a1) fun (r2 : Bool) => br (! r2) (some (0, false)) (lt (Int.tmod (a1.length : Int) 3) fun (x3 : Int) => br (!decide (x3 = 0)) (some (0, true)) (lt (w64 (Int.tdiv (a1.length : Int) 3)) fun (x4 : Int) => ob (i_countPickings n a1 x4) fun (r5 : Int) => some (r5, true)))

/-- s_l7Count -/
noncomputable def s_l7Count_L1 (n : Nat) (go0 : (List (V3 Int)) × (List (V3 Int)) × Int × Int → Option (Int)) (go5 : (List (V3 Int)) × (List (V3 Int)) × Int × Int × Int → Option (Int)) (s6 : (List (V3 Int)) × (List (V3 Int)) × Int × Int × Int) : Option (Int) :=
  br (decide (s6.2.2.2.2 < (s6.1.length : Int))) (ckb (inb s6.2.2.2.2 s6.1.length) (ob (s_l7Free n s6.2.1 (gl (⟨0, 0, 0⟩ : (V3 Int)) s6.1 s6.2.2.2.2.toNat)) fun (r7 : Bool) => br r7 (ckb (apok 24 (0 + s6.2.1.length)) (ckb (inb s6.2.2.2.2 s6.1.length) (ckb (apok 24 (s6.2.1.length + 1)) (lt (w64 (s6.2.2.2.2 + 1)) fun (x8 : Int) => lt (w64 (s6.2.2.1 - 1)) fun (x9 : Int) => ob (go0 (s6.1, (s6.2.1 ++ [(gl (⟨0, 0, 0⟩ : (V3 Int)) s6.1 s6.2.2.2.2.toNat)]), x8, x9)) fun (r10 : Int) => lt (w64 (s6.2.2.2.1 + r10)) fun (x11 : Int) => lt (w64 (s6.2.2.2.2 + 1)) fun (x12 : Int) => go5 (s6.1, s6.2.1, s6.2.2.1, x11, x12))))) (lt (w64 (s6.2.2.2.2 + 1)) fun (x13 : Int) => go5 (s6.1, s6.2.1, s6.2.2.1, s6.2.2.2.1, x13)))) (some s6.2.2.2.1)
noncomputable def s_l7Count_R (n : Nat) (go0 : (List (V3 Int)) × (List (V3 Int)) × Int × Int → Option (Int)) (x : (List (V3 Int)) × (List (V3 Int)) × Int × Int) : Option (Int) :=
  (fun (a1 : (List (V3 Int))) (a2 : (List (V3 Int))) (a3 : Int) (a4 : Int) => br (decide (a4 = 0)) (some 1) (fx (s_l7Count_L1 n go0) n (a1, a2, a4, 0, a3))) x.1 x.2.1 x.2.2.1 x.2.2.2
noncomputable def s_l7Count (n : Nat) (a1 : (List (V3 Int))) (a2 : (List (V3 Int))) (a3 : Int) (a4 : Int) : Option (Int) := fx (s_l7Count_R n) n (a1, a2, a3, a4)

/-- s_CountPartings -/
noncomputable def s_CountPartings (n : Nat) (a1 : (List (V4 Int))) : Option (Int × Bool) :=
  ob (s_l7Pool n a1) fun (r2 : Bool) => br (! r2) (some (0, false)) (lt (Int.tmod (a1.length : Int) 3) fun (x3 : Int) => br (!decide (x3 = 0)) (some (0, true)) (ob (s_l2Lines n a1) fun (r4 : (List (V3 Int))) => lt (w64 (Int.tdiv (a1.length : Int) 3)) fun (x5 : Int) => ob (s_l7Count n r4 ([] : List (V3 Int)) 0 x5) fun (r6 : Int) => some (r6, true)))

/-- s_DrawCountPickings -/
noncomputable def s_DrawCountPickings (n : Nat) (a1 : (List Int)) : Option (Int × (List (V4 Int))) :=
  lt (a1, (0, 0)) fun (x2 : ((List Int) × (Int × Int))) => ob (s_Cur_dense7'p n x2) fun (r3 : ((List Int) × (Int × Int)) × (List (V4 Int))) => ob (s_Cur_pick'p n 24 r3.1) fun (r4 : Int × ((List Int) × (Int × Int))) => lt (w64 (Int.tdiv r4.1 11)) fun (x5 : Int) => lt (w64 (6 + x5)) fun (x6 : Int) => ckb (slb 0 x6 8) (ob (s_Cur_among'pl n (sub [1, 2, 3, 0, 4, 5, 6, (-1)] 0 (0 + (w64 (x6 - 0)).toNat)) r4.2) fun (r7 : Int × ((List Int) × (Int × Int))) => some (r7.1, r3.2))

/-- i_CountPickings -/
noncomputable def i_CountPickings (n : Nat) (a1 : (List (V4 Int))) (a2 : Int) : Option (Int × Bool) :=
  ob (i_isParted n a1) fun (r3 : Bool) => ob (br (! r3) (some true) (ob (i_within n a2 0 5) fun (r4 : Bool) => some (! r4))) fun (x5 : Bool) => br x5 (some (0, false)) (ob (i_countPickings n a1 a2) fun (r6 : Int) => some (r6, true))

/-- s_CountPickings -/
noncomputable def s_CountPickings (n : Nat) (a1 : (List (V4 Int))) (a2 : Int) : Option (Int × Bool) :=
  ob (s_l7Pool n a1) fun (r3 : Bool) => ob (br (! r3) (some true) (ob (s_l1In n a2 0 5) fun (r4 : Bool) => some (! r4))) fun (x5 : Bool) => br x5 (some (0, false)) (ob (s_l2Lines n a1) fun (r6 : (List (V3 Int))) => ob (s_l7Count n r6 ([] : List (V3 Int)) 0 a2) fun (r7 : Int) => some (r7, true))

/-- s_Cur_picking7'pl -/
noncomputable def s_Cur_picking7'pl_J1 (n : Nat) (go5 : Int × ((List Int) × (Int × Int)) × (List (V3 Int)) × (List (V3 Int)) → Option (((List Int) × (Int × Int)) × (List (V3 Int)))) (s8 : Int × Bool × ((List Int) × (Int × Int)) × (List (V3 Int)) × (List (V3 Int))) : Option (((List Int) × (Int × Int)) × (List (V3 Int))) :=
  br s8.2.1 (ckb (inb s8.1 s8.2.2.2.2.length) (ckb (apok 24 (s8.2.2.2.1.length + 1)) (lt (w64 (s8.1 + 1)) fun (x9 : Int) => go5 (x9, s8.2.2.1, (s8.2.2.2.1 ++ [(gl (⟨0, 0, 0⟩ : (V3 Int)) s8.2.2.2.2 s8.1.toNat)]), s8.2.2.2.2)))) (lt (w64 (s8.1 + 1)) fun (x10 : Int) => go5 (x10, s8.2.2.1, s8.2.2.2.1, s8.2.2.2.2))
noncomputable def s_Cur_picking7'pl_L2 (n : Nat) (go5 : Int × ((List Int) × (Int × Int)) × (List (V3 Int)) × (List (V3 Int)) → Option (((List Int) × (Int × Int)) × (List (V3 Int)))) (s6 : Int × ((List Int) × (Int × Int)) × (List (V3 Int)) × (List (V3 Int))) : Option (((List Int) × (Int × Int)) × (List (V3 Int))) :=
  br (decide (s6.1 < (s6.2.2.2.length : Int))) (ckb (inb s6.1 s6.2.2.2.length) (ob (s_l7Free n s6.2.2.1 (gl (⟨0, 0, 0⟩ : (V3 Int)) s6.2.2.2 s6.1.toNat)) fun (r7 : Bool) => br r7 (ob (s_Cur_one'p n 2 s6.2.1) fun (r11 : Bool × ((List Int) × (Int × Int))) => s_Cur_picking7'pl_J1 n go5 (s6.1, r11.1, r11.2, s6.2.2.1, s6.2.2.2)) (s_Cur_picking7'pl_J1 n go5 (s6.1, false, s6.2.1, s6.2.2.1, s6.2.2.2)))) (ob (s_Cur_pick'p n 16 s6.2.1) fun (r12 : Int × ((List Int) × (Int × Int))) => br (decide (r12.1 = 0)) (br (decide (0 < (s6.2.2.2.length : Int))) (ob (s_Cur_pick'p n (s6.2.2.2.length : Int) r12.2) fun (r13 : Int × ((List Int) × (Int × Int))) => ckb (inb r13.1 s6.2.2.2.length) (ckb (apok 24 (s6.2.2.1.length + 1)) (some (r13.2, (s6.2.2.1 ++ [(gl (⟨0, 0, 0⟩ : (V3 Int)) s6.2.2.2 r13.1.toNat)]))))) (some (r12.2, s6.2.2.1))) (br (decide (r12.1 = 1)) (ob (s_Cur_among'pl n [(-1), 0, 4611686018427387904] r12.2) fun (r14 : Int × ((List Int) × (Int × Int))) => lt (⟨r14.1, 1, 2⟩ : (V3 Int)) fun (x15 : (V3 Int)) => ckb (apok 24 (s6.2.2.1.length + 1)) (some (r14.2, (s6.2.2.1 ++ [x15])))) (some (r12.2, s6.2.2.1))))
noncomputable def s_Cur_picking7'pl (n : Nat) (a1 : (List (V4 Int))) (a2 : ((List Int) × (Int × Int))) : Option (((List Int) × (Int × Int)) × (List (V3 Int))) :=
  ob (s_l2Hand n a1) fun (r3 : Bool) => br (! r3) (some (a2, ([] : List (V3 Int)))) (ob (s_l2Lines n a1) fun (r4 : (List (V3 Int))) => fx (s_Cur_picking7'pl_L2 n) n (0, a2, ([] : List (V3 Int)), r4))

/-- s_DrawIsPicking -/
noncomputable def s_DrawIsPicking (n : Nat) (a1 : (List Int)) : Option ((List (V4 Int)) × (List (V3 Int))) :=
  lt (a1, (0, 0)) fun (x2 : ((List Int) × (Int × Int))) => ob (s_Cur_dense7'p n x2) fun (r3 : ((List Int) × (Int × Int)) × (List (V4 Int))) => ob (s_Cur_picking7'pl n r3.2 r3.1) fun (r4 : ((List Int) × (Int × Int)) × (List (V3 Int))) => some (r3.2, r4.2)

/-- slices_Index_SA3_A3_ -/
noncomputable def slices_Index_SA3_A3__L1 (n : Nat) (go3 : (List (V3 Int)) × Int × Int × (V3 Int) → Option (Int)) (s4 : (List (V3 Int)) × Int × Int × (V3 Int)) : Option (Int) :=
  br (decide (s4.2.2.1 < s4.2.1)) (ckb (inb s4.2.2.1 s4.1.length) (br (eqd s4.2.2.2 (gl (⟨0, 0, 0⟩ : (V3 Int)) s4.1 s4.2.2.1.toNat)) (some s4.2.2.1) (lt (w64 (s4.2.2.1 + 1)) fun (x5 : Int) => go3 (s4.1, s4.2.1, x5, s4.2.2.2)))) (some (-1))
noncomputable def slices_Index_SA3_A3_ (n : Nat) (a1 : (List (V3 Int))) (a2 : (V3 Int)) : Option (Int) :=
  fx (slices_Index_SA3_A3__L1 n) n (a1, (a1.length : Int), 0, a2)

/-- slices_Contains_SA3_A3_ -/
noncomputable def slices_Contains_SA3_A3_ (n : Nat) (a1 : (List (V3 Int))) (a2 : (V3 Int)) : Option (Bool) :=
  ob (slices_Index_SA3_A3_ n a1 a2) fun (r3 : Int) => some (decide (0 ≤ r3))

/-- slices_Compare_Sint_int_ -/
noncomputable def slices_Compare_Sint_int__L1 (n : Nat) (go3 : (List Int) × (List Int) × (List Int) × Int × Int → Option (Int)) (s4 : (List Int) × (List Int) × (List Int) × Int × Int) : Option (Int) :=
  br (decide (s4.2.2.2.2 < s4.2.2.2.1)) (ckb (inb s4.2.2.2.2 s4.2.2.1.length) (br (decide ((s4.2.1.length : Int) ≤ s4.2.2.2.2)) (some 1) (ckb (inb s4.2.2.2.2 s4.2.1.length) (ob (cmp_Compare_int_ n (gl 0 s4.2.2.1 s4.2.2.2.2.toNat) (gl 0 s4.2.1 s4.2.2.2.2.toNat)) fun (r5 : Int) => br (!decide (r5 = 0)) (some r5) (lt (w64 (s4.2.2.2.2 + 1)) fun (x6 : Int) => go3 (s4.1, s4.2.1, s4.2.2.1, s4.2.2.2.1, x6)))))) (br (decide ((s4.1.length : Int) < (s4.2.1.length : Int))) (some (-1)) (some 0))
noncomputable def slices_Compare_Sint_int_ (n : Nat) (a1 : (List Int)) (a2 : (List Int)) : Option (Int) :=
  fx (slices_Compare_Sint_int__L1 n) n (a1, a2, a1, (a1.length : Int), 0)

/-- i_isPicking -/
noncomputable def i_isPicking_L1 (n : Nat) (go4 : (List (V3 Int)) × (List (V3 Int)) × Int × Int × (List (V3 Int)) → Option (Bool)) (go11 : (List (V3 Int)) × (List (V3 Int)) × Int × Int × (List (V3 Int)) × Int × Int × (List (V3 Int)) × (V3 Int) → Option (Bool)) (s12 : (List (V3 Int)) × (List (V3 Int)) × Int × Int × (List (V3 Int)) × Int × Int × (List (V3 Int)) × (V3 Int)) : Option (Bool) :=
  br (decide (s12.2.2.2.2.2.2.1 < s12.2.2.2.2.2.1)) (ckb (inb s12.2.2.2.2.2.2.1 s12.2.2.2.2.1.length) (ob (i_common n s12.2.2.2.2.2.2.2.2 (gl (⟨0, 0, 0⟩ : (V3 Int)) s12.2.2.2.2.1 s12.2.2.2.2.2.2.1.toNat)) fun (r13 : Int) => br (decide (0 < r13)) (some false) (lt (w64 (s12.2.2.2.2.2.2.1 + 1)) fun (x14 : Int) => go11 (s12.1, s12.2.1, s12.2.2.1, s12.2.2.2.1, s12.2.2.2.2.1, s12.2.2.2.2.2.1, x14, s12.2.2.2.2.2.2.2.1, s12.2.2.2.2.2.2.2.2)))) (lt (w64 (s12.2.2.2.1 + 1)) fun (x15 : Int) => go4 (s12.1, s12.2.1, s12.2.2.1, x15, s12.2.2.2.2.2.2.2.1))
noncomputable def i_isPicking_L2 (n : Nat) (go4 : (List (V3 Int)) × (List (V3 Int)) × Int × Int × (List (V3 Int)) → Option (Bool)) (s5 : (List (V3 Int)) × (List (V3 Int)) × Int × Int × (List (V3 Int))) : Option (Bool) :=
  br (decide (s5.2.2.2.1 < s5.2.2.1)) (ckb (inb s5.2.2.2.1 s5.2.1.length) (ob (slices_Contains_SA3_A3_ n s5.2.2.2.2 (gl (⟨0, 0, 0⟩ : (V3 Int)) s5.2.1 s5.2.2.2.1.toNat)) fun (r6 : Bool) => ob (br (! r6) (some true) (ob (br (decide (0 < s5.2.2.2.1)) (lt (w64 (s5.2.2.2.1 - 1)) fun (x7 : Int) => ckb (inb x7 s5.1.length) (ob (slices_Compare_Sint_int_ n (V3.els (gl (⟨0, 0, 0⟩ : (V3 Int)) s5.1 x7.toNat)) (V3.els (gl (⟨0, 0, 0⟩ : (V3 Int)) s5.2.1 s5.2.2.2.1.toNat))) fun (r8 : Int) => some (decide (0 ≤ r8)))) (some false)) fun (x9 : Bool) => some x9)) fun (x10 : Bool) => br x10 (some false) (ckb (slb 0 s5.2.2.2.1 s5.1.length) (fx (i_isPicking_L1 n go4) n (s5.1, s5.2.1, s5.2.2.1, s5.2.2.2.1, (sub s5.1 0 s5.2.2.2.1.toNat), ((sub s5.1 0 s5.2.2.2.1.toNat).length : Int), 0, s5.2.2.2.2, (gl (⟨0, 0, 0⟩ : (V3 Int)) s5.2.1 s5.2.2.2.1.toNat)))))) (some true)
noncomputable def i_isPicking (n : Nat) (a1 : (List (V4 Int))) (a2 : (List (V3 Int))) : Option (Bool) :=
  ob (i_linesIn n a1) fun (r3 : (List (V3 Int))) => fx (i_isPicking_L2 n) n (a2, a2, (a2.length : Int), 0, r3)

/-- i_IsPicking -/
noncomputable def i_IsPicking (n : Nat) (a1 : (List (V4 Int))) (a2 : (List (V3 Int))) : Option (Bool × Bool) :=
  ob (i_IsHand n a1) fun (r3 : Bool) => br (! r3) (some (false, false)) (ob (i_isPicking n a1 a2) fun (r4 : Bool) => some (r4, true))

/-- s_l7Has -/
noncomputable def s_l7Has_L1 (n : Nat) (go3 : (List (V3 Int)) × Int × (V3 Int) → Option (Bool)) (s4 : (List (V3 Int)) × Int × (V3 Int)) : Option (Bool) :=
  br (decide (s4.2.1 < (s4.1.length : Int))) (ckb (inb s4.2.1 s4.1.length) (br (eqd (gl (⟨0, 0, 0⟩ : (V3 Int)) s4.1 s4.2.1.toNat) s4.2.2) (some true) (lt (w64 (s4.2.1 + 1)) fun (x5 : Int) => go3 (s4.1, x5, s4.2.2)))) (some false)
noncomputable def s_l7Has (n : Nat) (a1 : (List (V3 Int))) (a2 : (V3 Int)) : Option (Bool) :=
  fx (s_l7Has_L1 n) n (a1, 0, a2)

/-- s_l7Before -/
noncomputable def s_l7Before_L1 (n : Nat) (go3 : Int × (V3 Int) × (V3 Int) → Option (Bool)) (s4 : Int × (V3 Int) × (V3 Int)) : Option (Bool) :=
  br (decide (s4.1 < 3)) (ckb (inb s4.1 3) (ckb (inb s4.1 3) (br (!decide ((V3.get s4.2.1 s4.1.toNat) = (V3.get s4.2.2 s4.1.toNat))) (ckb (inb s4.1 3) (ckb (inb s4.1 3) (some (decide ((V3.get s4.2.1 s4.1.toNat) < (V3.get s4.2.2 s4.1.toNat)))))) (lt (w64 (s4.1 + 1)) fun (x5 : Int) => go3 (x5, s4.2.1, s4.2.2))))) (some false)
noncomputable def s_l7Before (n : Nat) (a1 : (V3 Int)) (a2 : (V3 Int)) : Option (Bool) :=
  fx (s_l7Before_L1 n) n (0, a1, a2)

/-- s_l7Picking -/
noncomputable def s_l7Picking_L1 (n : Nat) (go4 : (List (V3 Int)) × Int × (List (V3 Int)) → Option (Bool)) (s5 : (List (V3 Int)) × Int × (List (V3 Int))) : Option (Bool) :=
  br (decide (s5.2.1 < (s5.1.length : Int))) (ckb (inb s5.2.1 s5.1.length) (ob (s_l7Has n s5.2.2 (gl (⟨0, 0, 0⟩ : (V3 Int)) s5.1 s5.2.1.toNat)) fun (r6 : Bool) => ob (br (! r6) (some true) (ckb (slb 0 s5.2.1 s5.1.length) (ckb (inb s5.2.1 s5.1.length) (ob (s_l7Free n (sub s5.1 0 s5.2.1.toNat) (gl (⟨0, 0, 0⟩ : (V3 Int)) s5.1 s5.2.1.toNat)) fun (r7 : Bool) => some (! r7))))) fun (x8 : Bool) => ob (br x8 (some true) (ob (br (decide (0 < s5.2.1)) (lt (w64 (s5.2.1 - 1)) fun (x9 : Int) => ckb (inb x9 s5.1.length) (ckb (inb s5.2.1 s5.1.length) (ob (s_l7Before n (gl (⟨0, 0, 0⟩ : (V3 Int)) s5.1 x9.toNat) (gl (⟨0, 0, 0⟩ : (V3 Int)) s5.1 s5.2.1.toNat)) fun (r10 : Bool) => some (! r10)))) (some false)) fun (x11 : Bool) => some x11)) fun (x12 : Bool) => br x12 (some false) (lt (w64 (s5.2.1 + 1)) fun (x13 : Int) => go4 (s5.1, x13, s5.2.2)))) (some true)
noncomputable def s_l7Picking (n : Nat) (a1 : (List (V4 Int))) (a2 : (List (V3 Int))) : Option (Bool) :=
  ob (s_l2Lines n a1) fun (r3 : (List (V3 Int))) => fx (s_l7Picking_L1 n) n (a2, 0, r3)

/-- s_IsPicking -/
noncomputable def s_IsPicking (n : Nat) (a1 : (List (V4 Int))) (a2 : (List (V3 Int))) : Option (Bool × Bool) :=
  ob (s_l2Hand n a1) fun (r3 : Bool) => br (! r3) (some (false, false)) (ob (s_l7Picking n a1 a2) fun (r4 : Bool) => some (r4, true))

/-- i_LeftCards_1'p -/
noncomputable def i_LeftCards_1'p (n : Nat) (a1 : (V3 Int)) (a2 : Int) : Option (Bool × Int) :=
  ob (slices_Contains_Sint_int_ n (V3.els a1) a2) fun (r3 : Bool) => some (r3, a2)

/-- slices_IndexFunc_SA3_A3_'l_i_LeftCards_1p -/
noncomputable def slices_IndexFunc_SA3_A3_'l_i_LeftCards_1p_L1 (n : Nat) (go3 : (List (V3 Int)) × Int × Int × Int → Option (Int × Int)) (s4 : (List (V3 Int)) × Int × Int × Int) : Option (Int × Int) :=
  br (decide (s4.2.2.1 < s4.2.1)) (ckb (inb s4.2.2.1 s4.1.length) (ob (i_LeftCards_1'p n (gl (⟨0, 0, 0⟩ : (V3 Int)) s4.1 s4.2.2.1.toNat) s4.2.2.2) fun (r5 : Bool × Int) => br r5.1 (some (s4.2.2.1, r5.2)) (lt (w64 (s4.2.2.1 + 1)) fun (x6 : Int) => go3 (s4.1, s4.2.1, x6, r5.2)))) (some ((-1), s4.2.2.2))
noncomputable def slices_IndexFunc_SA3_A3_'l_i_LeftCards_1p (n : Nat) (a1 : (List (V3 Int))) (a2 : Int) : Option (Int × Int) :=
  fx (slices_IndexFunc_SA3_A3_'l_i_LeftCards_1p_L1 n) n (a1, (a1.length : Int), 0, a2)

/-- slices_ContainsFunc_SA3_A3_'l_i_LeftCards_1p -/
noncomputable def slices_ContainsFunc_SA3_A3_'l_i_LeftCards_1p (n : Nat) (a1 : (List (V3 Int))) (a2 : Int) : Option (Bool × Int) :=
  ob (slices_IndexFunc_SA3_A3_'l_i_LeftCards_1p n a1 a2) fun (r3 : Int × Int) => some ((decide (0 ≤ r3.1)), r3.2)

/-- i_LeftCards -/
noncomputable def i_LeftCards_L1 (n : Nat) (go6 : (List (V3 Int)) × (List (V4 Int)) × Int × Int × (List (V4 Int)) → Option (Bool × (List (V4 Int)))) (s7 : (List (V3 Int)) × (List (V4 Int)) × Int × Int × (List (V4 Int))) : Option (Bool × (List (V4 Int))) :=
  br (decide (s7.2.2.2.1 < s7.2.2.1)) (ckb (inb s7.2.2.2.1 s7.2.1.length) (ob (slices_ContainsFunc_SA3_A3_'l_i_LeftCards_1p n s7.1 s7.2.2.2.1) fun (r8 : Bool × Int) => br (! r8.1) (ckb (apok 32 (s7.2.2.2.2.length + 1)) (lt (w64 (s7.2.2.2.1 + 1)) fun (x9 : Int) => go6 (s7.1, s7.2.1, s7.2.2.1, x9, (s7.2.2.2.2 ++ [(gl (⟨0, 0, 0, 0⟩ : (V4 Int)) s7.2.1 s7.2.2.2.1.toNat)])))) (lt (w64 (s7.2.2.2.1 + 1)) fun (x10 : Int) => go6 (s7.1, s7.2.1, s7.2.2.1, x10, s7.2.2.2.2)))) (some (true, s7.2.2.2.2))
noncomputable def i_LeftCards (n : Nat) (a1 : (List (V4 Int))) (a2 : (List (V3 Int))) : Option (Bool × (List (V4 Int))) :=
  ob (i_IsHand n a1) fun (r3 : Bool) => ob (br (! r3) (some true) (ob (i_isPicking n a1 a2) fun (r4 : Bool) => some (! r4))) fun (x5 : Bool) => br x5 (some (false, ([] : List (V4 Int)))) (fx (i_LeftCards_L1 n) n (a2, a1, (a1.length : Int), 0, ([] : List (V4 Int))))

/-- s_l7At -/
noncomputable def s_l7At_L1 (n : Nat) (go3 : (List (V3 Int)) × Int × Int × (List (V3 Int)) → Option ((List (V3 Int)))) (s4 : (List (V3 Int)) × Int × Int × (List (V3 Int))) : Option ((List (V3 Int))) :=
  br (decide (s4.2.2.1 < (s4.1.length : Int))) (ckb (inb s4.2.2.1 s4.1.length) (ob (br (decide ((gl (⟨0, 0, 0⟩ : (V3 Int)) s4.1 s4.2.2.1.toNat).x0 = s4.2.1)) (some true) (some (decide ((gl (⟨0, 0, 0⟩ : (V3 Int)) s4.1 s4.2.2.1.toNat).x1 = s4.2.1)))) fun (x5 : Bool) => ob (br x5 (some true) (some (decide ((gl (⟨0, 0, 0⟩ : (V3 Int)) s4.1 s4.2.2.1.toNat).x2 = s4.2.1)))) fun (x6 : Bool) => br x6 (ckb (apok 24 (s4.2.2.2.length + 1)) (lt (w64 (s4.2.2.1 + 1)) fun (x7 : Int) => go3 (s4.1, s4.2.1, x7, (s4.2.2.2 ++ [(gl (⟨0, 0, 0⟩ : (V3 Int)) s4.1 s4.2.2.1.toNat)])))) (lt (w64 (s4.2.2.1 + 1)) fun (x8 : Int) => go3 (s4.1, s4.2.1, x8, s4.2.2.2)))) (some s4.2.2.2)
noncomputable def s_l7At (n : Nat) (a1 : (List (V3 Int))) (a2 : Int) : Option ((List (V3 Int))) :=
  fx (s_l7At_L1 n) n (a1, a2, 0, ([] : List (V3 Int)))

/-- s_LeftCards -/
noncomputable def s_LeftCards_L1 (n : Nat) (go6 : (List (V4 Int)) × (List (V3 Int)) × Int × (List (V4 Int)) → Option (Bool × (List (V4 Int)))) (s7 : (List (V4 Int)) × (List (V3 Int)) × Int × (List (V4 Int))) : Option (Bool × (List (V4 Int))) :=
  br (decide (s7.2.2.1 < (s7.1.length : Int))) (ob (s_l7At n s7.2.1 s7.2.2.1) fun (r8 : (List (V3 Int))) => br (decide ((r8.length : Int) = 0)) (ckb (inb s7.2.2.1 s7.1.length) (ckb (apok 32 (s7.2.2.2.length + 1)) (lt (w64 (s7.2.2.1 + 1)) fun (x9 : Int) => go6 (s7.1, s7.2.1, x9, (s7.2.2.2 ++ [(gl (⟨0, 0, 0, 0⟩ : (V4 Int)) s7.1 s7.2.2.1.toNat)]))))) (lt (w64 (s7.2.2.1 + 1)) fun (x10 : Int) => go6 (s7.1, s7.2.1, x10, s7.2.2.2))) (some (true, s7.2.2.2))
noncomputable def s_LeftCards (n : Nat) (a1 : (List (V4 Int))) (a2 : (List (V3 Int))) : Option (Bool × (List (V4 Int))) :=
  ob (s_l2Hand n a1) fun (r3 : Bool) => ob (br (! r3) (some true) (ob (s_l7Picking n a1 a2) fun (r4 : Bool) => some (! r4))) fun (x5 : Bool) => br x5 (some (false, ([] : List (V4 Int)))) (fx (s_LeftCards_L1 n) n (a1, a2, 0, ([] : List (V4 Int))))

/-- i_SumCards -/
noncomputable def i_SumCards (n : Nat) (a1 : (List (V4 Int))) : Option ((V4 Int) × Bool) :=
  ob (i_IsHand n a1) fun (r2 : Bool) => br (! r2) (lt (⟨0, 0, 0, 0⟩ : (V4 Int)) fun (x3 : (V4 Int)) => some (x3, false)) (ob (i_sum n a1) fun (r4 : (V4 Int)) => some (r4, true))

/-- i_CountCrossings -/
noncomputable def i_CountCrossings_L1 (n : Nat) (go4 : Int × Int × Int × (List (V3 Int)) → Option (Int × Bool)) (go6 : Int × Int × Int × Int × Int × Int × Int × (List (V3 Int)) × (V3 Int) → Option (Int × Bool)) (s7 : Int × Int × Int × Int × Int × Int × Int × (List (V3 Int)) × (V3 Int)) : Option (Int × Bool) :=
  br (decide (s7.2.2.2.2.2.2.1 < s7.2.2.2.2.2.1)) (ckb (cand (inb s7.2.2.2.2.2.2.1 s7.2.2.2.2.1.toNat) (nlt (s7.2.2.2.1.toNat + s7.2.2.2.2.2.2.1.toNat) s7.2.2.2.2.2.2.2.1.length)) (ob (i_common n s7.2.2.2.2.2.2.2.2 (gl (⟨0, 0, 0⟩ : (V3 Int)) s7.2.2.2.2.2.2.2.1 (s7.2.2.2.1.toNat + s7.2.2.2.2.2.2.1.toNat))) fun (r8 : Int) => lt (w64 (s7.1 + r8)) fun (x9 : Int) => lt (w64 (s7.2.2.2.2.2.2.1 + 1)) fun (x10 : Int) => go6 (x9, s7.2.1, s7.2.2.1, (s7.2.2.2.1.toNat : Int), (s7.2.2.2.2.1.toNat : Int), s7.2.2.2.2.2.1, x10, s7.2.2.2.2.2.2.2.1, s7.2.2.2.2.2.2.2.2))) (lt (w64 (s7.2.2.1 + 1)) fun (x11 : Int) => go4 (s7.1, s7.2.1, x11, s7.2.2.2.2.2.2.2.1))
noncomputable def i_CountCrossings_L2 (n : Nat) (go4 : Int × Int × Int × (List (V3 Int)) → Option (Int × Bool)) (s5 : Int × Int × Int × (List (V3 Int))) : Option (Int × Bool) :=
  br (decide (s5.2.2.1 < s5.2.1)) (ckb (inb s5.2.2.1 s5.2.2.2.length) (ckb (slb 0 s5.2.2.1 s5.2.2.2.length) (fx (i_CountCrossings_L1 n go4) n (s5.1, s5.2.1, s5.2.2.1, 0, ((w64 (s5.2.2.1 - 0)).toNat : Int), ((w64 (s5.2.2.1 - 0)).toNat : Int), 0, s5.2.2.2, (gl (⟨0, 0, 0⟩ : (V3 Int)) s5.2.2.2 s5.2.2.1.toNat))))) (some (s5.1, true))
noncomputable def i_CountCrossings (n : Nat) (a1 : (List (V4 Int))) : Option (Int × Bool) :=
  ob (i_IsHand n a1) fun (r2 : Bool) => br (! r2) (some (0, false)) (ob (i_linesIn n a1) fun (r3 : (List (V3 Int))) => fx (i_CountCrossings_L2 n) n (0, (r3.length : Int), 0, r3))

/-- v_FnPickings -/
noncomputable def v_FnPickings_J1 (n : Nat) (s53 : Int × Int × (List (V4 Int))) : Option (Bool) :=
  lt (w64 (3 * s53.1)) fun (x54 : Int) => some ((decide (0 < s53.2.1)) == (decide (x54 = (s53.2.2.length : Int))))
noncomputable def v_FnPickings_J2 (n : Nat) (s45 : Bool × Int × Int × (List (V4 Int)) × (List (V3 Int)) × (List (V3 Int))) : Option (Bool) :=
  br (! s45.1) (some true) (ob (i_IsPicking n s45.2.2.2.1 s45.2.2.2.2.1) fun (r46 : Bool × Bool) => ob (i_IsPicking n s45.2.2.2.1 s45.2.2.2.2.2) fun (r47 : Bool × Bool) => ob (br (! r46.2) (some true) (some (! r47.2))) fun (x48 : Bool) => ob (br x48 (some true) (some (! r46.1))) fun (x49 : Bool) => ob (br x49 (some true) (some (! r47.1))) fun (x50 : Bool) => ob (br x50 (some true) (some (!decide ((s45.2.2.2.2.1.length : Int) = s45.2.1)))) fun (x51 : Bool) => ob (br x51 (some true) (some (decide (s45.2.1 < (s45.2.2.2.2.2.length : Int))))) fun (x52 : Bool) => br x52 (some false) (br (decide (s45.2.1 < 5)) (lt (w64 (s45.2.1 + 1)) fun (x55 : Int) => ob (i_CountPickings n s45.2.2.2.1 x55) fun (r56 : Int × Bool) => ob (br (! r56.2) (some true) (some (!decide (r56.1 = 0)))) fun (x57 : Bool) => br x57 (some false) (v_FnPickings_J1 n (s45.2.1, s45.2.2.1, s45.2.2.2.1))) (v_FnPickings_J1 n (s45.2.1, s45.2.2.1, s45.2.2.2.1))))
noncomputable def v_FnPickings_J3 (n : Nat) (s44 : Bool × Int × Int × Int × Int × Bool × (List (V4 Int)) × (List (V3 Int)) × (List (V3 Int)) × (List (V4 Int))) : Option (Bool) :=
  br s44.2.2.2.2.2.1 (ob (i_LinesIn n s44.2.2.2.2.2.2.2.2.2) fun (r58 : Bool × (List (V3 Int))) => ob (i_CountCrossings n s44.2.2.2.2.2.2.2.2.2) fun (r59 : Int × Bool) => ob (br (! r58.1) (some true) (some (! r59.2))) fun (x60 : Bool) => ob (br x60 (some true) (ob (br (decide (s44.2.2.2.1 = 0)) (some (!decide (s44.2.2.2.2.1 = 1))) (some false)) fun (x61 : Bool) => some x61)) fun (x62 : Bool) => ob (br x62 (some true) (ob (br (decide (s44.2.2.2.1 = 1)) (some (!decide (s44.2.2.2.2.1 = (r58.2.length : Int)))) (some false)) fun (x63 : Bool) => some x63)) fun (x64 : Bool) => ob (br x64 (some true) (ob (br (decide (s44.2.2.2.1 = 2)) (lt (w64 ((r58.2.length : Int) - 1)) fun (x65 : Int) => lt (w64 ((r58.2.length : Int) * x65)) fun (x66 : Int) => lt (w64 (Int.tdiv x66 2)) fun (x67 : Int) => lt (w64 (x67 - r59.1)) fun (x68 : Int) => some (!decide (s44.2.2.2.2.1 = x68))) (some false)) fun (x69 : Bool) => some x69)) fun (x70 : Bool) => br x70 (some false) (v_FnPickings_J2 n (s44.1, s44.2.1, s44.2.2.1, s44.2.2.2.2.2.2.1, s44.2.2.2.2.2.2.2.1, s44.2.2.2.2.2.2.2.2.1))) (v_FnPickings_J2 n (s44.1, s44.2.1, s44.2.2.1, s44.2.2.2.2.2.2.1, s44.2.2.2.2.2.2.2.1, s44.2.2.2.2.2.2.2.2.1))
noncomputable def v_FnPickings (n : Nat) (a1 : (List Int)) : Option (Bool) :=
  ob (v_vBig n a1) fun (r2 : Bool) => br r2 (some true) (ob (s_DrawFirstPicking n a1) fun (r3 : (List (V4 Int))) => ob (i_FirstPicking n r3) fun (r4 : Bool × (List (V3 Int))) => ob (s_FirstPicking n r3) fun (r5 : (List (V3 Int)) × Bool) => ob (i_MostDisjoint n r3) fun (r6 : Int × Bool) => ob (s_MostDisjoint n r3) fun (r7 : Int × Bool) => ob (i_GreedyPicking n r3) fun (r8 : Bool × (List (V3 Int))) => ob (s_GreedyPicking n r3) fun (r9 : Bool × (List (V3 Int))) => ob (i_CountPartings n r3) fun (r10 : Int × Bool) => ob (s_CountPartings n r3) fun (r11 : Int × Bool) => ob (v_vCut n a1 1) fun (r12 : (List Int)) => ob (s_DrawCountPickings n r12) fun (r13 : Int × (List (V4 Int))) => ob (i_CountPickings n r13.2 r13.1) fun (r14 : Int × Bool) => ob (s_CountPickings n r13.2 r13.1) fun (r15 : Int × Bool) => ob (v_vCut n a1 2) fun (r16 : (List Int)) => ob (s_DrawIsPicking n r16) fun (r17 : (List (V4 Int)) × (List (V3 Int))) => ob (i_IsPicking n r17.1 r17.2) fun (r18 : Bool × Bool) => ob (s_IsPicking n r17.1 r17.2) fun (r19 : Bool × Bool) => ob (i_LeftCards n r17.1 r17.2) fun (r20 : Bool × (List (V4 Int))) => ob (s_LeftCards n r17.1 r17.2) fun (r21 : Bool × (List (V4 Int))) => ob (br (! (r4.1 == r5.2)) (some true) (ob (v_vLines n r4.2 r5.1) fun (r22 : Bool) => some (! r22))) fun (x23 : Bool) => ob (br x23 (some true) (some (!decide (r6.1 = r7.1)))) fun (x24 : Bool) => ob (br x24 (some true) (some (! (r6.2 == r7.2)))) fun (x25 : Bool) => ob (br x25 (some true) (some (! (r8.1 == r9.1)))) fun (x26 : Bool) => ob (br x26 (some true) (ob (v_vLines n r8.2 r9.2) fun (r27 : Bool) => some (! r27))) fun (x28 : Bool) => ob (br x28 (some true) (some (!decide (r10.1 = r11.1)))) fun (x29 : Bool) => ob (br x29 (some true) (some (! (r10.2 == r11.2)))) fun (x30 : Bool) => ob (br x30 (some true) (some (!decide (r14.1 = r15.1)))) fun (x31 : Bool) => ob (br x31 (some true) (some (! (r14.2 == r15.2)))) fun (x32 : Bool) => ob (br x32 (some true) (some (! (r18.1 == r19.1)))) fun (x33 : Bool) => ob (br x33 (some true) (some (! (r18.2 == r19.2)))) fun (x34 : Bool) => ob (br x34 (some true) (some (! (r20.1 == r21.1)))) fun (x35 : Bool) => ob (br x35 (some true) (ob (v_vHands n r20.2 r21.2) fun (r36 : Bool) => some (! r36))) fun (x37 : Bool) => ob (br x37 (some true) (some (! (r4.1 == r6.2)))) fun (x38 : Bool) => ob (br x38 (some true) (some (! (r4.1 == r10.2)))) fun (x39 : Bool) => ob (br x39 (some true) (ob (br r4.1 (some (! r8.1)) (some false)) fun (x40 : Bool) => some x40)) fun (x41 : Bool) => ob (br x41 (some true) (ob (br r18.2 (some r18.1) (some false)) fun (x42 : Bool) => some (! (r20.1 == x42)))) fun (x43 : Bool) => br x43 (some false) (br r20.1 (ob (i_SumCards n r17.1) fun (r71 : (V4 Int) × Bool) => ob (i_SumCards n r20.2) fun (r72 : (V4 Int) × Bool) => ob (br (! r71.2) (some true) (some (! r72.2))) fun (x73 : Bool) => ob (br x73 (some true) (some (!eqd r71.1 r72.1))) fun (x74 : Bool) => ob (br x74 (some true) (lt (w64 (3 * (r17.2.length : Int))) fun (x75 : Int) => lt (w64 ((r17.1.length : Int) - x75)) fun (x76 : Int) => some (!decide ((r20.2.length : Int) = x76)))) fun (x77 : Bool) => br x77 (some false) (v_FnPickings_J3 n (r4.1, r6.1, r10.1, r13.1, r14.1, r14.2, r3, r4.2, r8.2, r13.2))) (v_FnPickings_J3 n (r4.1, r6.1, r10.1, r13.1, r14.1, r14.2, r3, r4.2, r8.2, r13.2))))

/-- i_GreedyCap -/
noncomputable def i_GreedyCap_L1 (n : Nat) (go3 : (List (V4 Int)) × Int × Int × (List Int) × (List (V4 Int)) → Option (Bool × (List Int))) (s4 : (List (V4 Int)) × Int × Int × (List Int) × (List (V4 Int))) : Option (Bool × (List Int)) :=
  br (decide (s4.2.2.1 < s4.2.1)) (ckb (inb s4.2.2.1 s4.1.length) (ob (i_isBlocked n s4.2.2.2.2 (gl (⟨0, 0, 0, 0⟩ : (V4 Int)) s4.1 s4.2.2.1.toNat)) fun (r5 : Bool) => br (! r5) (ckb (apok 8 (s4.2.2.2.1.length + 1)) (ckb (apok 32 (s4.2.2.2.2.length + 1)) (lt (w64 (s4.2.2.1 + 1)) fun (x6 : Int) => go3 (s4.1, s4.2.1, x6, (s4.2.2.2.1 ++ [s4.2.2.1]), (s4.2.2.2.2 ++ [(gl (⟨0, 0, 0, 0⟩ : (V4 Int)) s4.1 s4.2.2.1.toNat)]))))) (lt (w64 (s4.2.2.1 + 1)) fun (x7 : Int) => go3 (s4.1, s4.2.1, x7, s4.2.2.2.1, s4.2.2.2.2)))) (some (true, s4.2.2.2.1))
noncomputable def i_GreedyCap (n : Nat) (a1 : (List (V4 Int))) : Option (Bool × (List Int)) :=
  ob (i_IsHand n a1) fun (r2 : Bool) => br (! r2) (some (false, ([] : List Int))) (fx (i_GreedyCap_L1 n) n (a1, (a1.length : Int), 0, ([] : List Int), ([] : List (V4 Int))))

/-- s_GreedyCap -/
noncomputable def s_GreedyCap_L1 (n : Nat) (go3 : (List (V4 Int)) × Int × (List Int) → Option (Bool × (List Int))) (s4 : (List (V4 Int)) × Int × (List Int)) : Option (Bool × (List Int)) :=
  br (decide (s4.2.1 < (s4.1.length : Int))) (ob (s_l3Picked n s4.1 s4.2.2) fun (r5 : (List (V4 Int))) => ckb (inb s4.2.1 s4.1.length) (ob (s_l2Through n r5 (gl (⟨0, 0, 0, 0⟩ : (V4 Int)) s4.1 s4.2.1.toNat)) fun (r6 : Int) => br (decide (r6 = 0)) (ckb (apok 8 (s4.2.2.length + 1)) (lt (w64 (s4.2.1 + 1)) fun (x7 : Int) => go3 (s4.1, x7, (s4.2.2 ++ [s4.2.1])))) (lt (w64 (s4.2.1 + 1)) fun (x8 : Int) => go3 (s4.1, x8, s4.2.2)))) (some (true, s4.2.2))
noncomputable def s_GreedyCap (n : Nat) (a1 : (List (V4 Int))) : Option (Bool × (List Int)) :=
  ob (s_l2Hand n a1) fun (r2 : Bool) => br (! r2) (some (false, ([] : List Int))) (fx (s_GreedyCap_L1 n) n (a1, 0, ([] : List Int)))

/-- i_isCap -/
noncomputable def i_isCap (n : Nat) (a1 : (List (V4 Int))) : Option (Bool) :=
  ob (i_linesIn n a1) fun (r2 : (List (V3 Int))) => some (decide ((r2.length : Int) = 0))

/-- i_IsCap -/
noncomputable def i_IsCap (n : Nat) (a1 : (List (V4 Int))) : Option (Bool × Bool) :=
  ob (i_IsHand n a1) fun (r2 : Bool) => br (! r2) (some (false, false)) (ob (i_isCap n a1) fun (r3 : Bool) => some (r3, true))

/-- i_LinesAt -/
noncomputable def i_LinesAt_L1 (n : Nat) (go8 : Int × Int × Int × (List (V3 Int)) × (List (V3 Int)) → Option (Bool × (List (V3 Int)))) (s9 : Int × Int × Int × (List (V3 Int)) × (List (V3 Int))) : Option (Bool × (List (V3 Int))) :=
  br (decide (s9.2.2.1 < s9.2.1)) (ckb (inb s9.2.2.1 s9.2.2.2.2.length) (ob (slices_Contains_Sint_int_ n (V3.els (gl (⟨0, 0, 0⟩ : (V3 Int)) s9.2.2.2.2 s9.2.2.1.toNat)) s9.1) fun (r10 : Bool) => br r10 (ckb (apok 24 (s9.2.2.2.1.length + 1)) (lt (w64 (s9.2.2.1 + 1)) fun (x11 : Int) => go8 (s9.1, s9.2.1, x11, (s9.2.2.2.1 ++ [(gl (⟨0, 0, 0⟩ : (V3 Int)) s9.2.2.2.2 s9.2.2.1.toNat)]), s9.2.2.2.2))) (lt (w64 (s9.2.2.1 + 1)) fun (x12 : Int) => go8 (s9.1, s9.2.1, x12, s9.2.2.2.1, s9.2.2.2.2)))) (some (true, s9.2.2.2.1))
noncomputable def i_LinesAt (n : Nat) (a1 : (List (V4 Int))) (a2 : Int) : Option (Bool × (List (V3 Int))) :=
  ob (i_IsHand n a1) fun (r3 : Bool) => ob (br (! r3) (some true) (lt (w64 ((a1.length : Int) - 1)) fun (x4 : Int) => ob (i_within n a2 0 x4) fun (r5 : Bool) => some (! r5))) fun (x6 : Bool) => br x6 (some (false, ([] : List (V3 Int)))) (ob (i_linesIn n a1) fun (r7 : (List (V3 Int))) => fx (i_LinesAt_L1 n) n (a2, (r7.length : Int), 0, ([] : List (V3 Int)), r7))

/-- s_LinesAt -/
noncomputable def s_LinesAt (n : Nat) (a1 : (List (V4 Int))) (a2 : Int) : Option (Bool × (List (V3 Int))) :=
  ob (s_l2Hand n a1) fun (r3 : Bool) => ob (br (! r3) (some true) (lt (w64 ((a1.length : Int) - 1)) fun (x4 : Int) => ob (s_l1In n a2 0 x4) fun (r5 : Bool) => some (! r5))) fun (x6 : Bool) => br x6 (some (false, ([] : List (V3 Int)))) (ob (s_l2Lines n a1) fun (r7 : (List (V3 Int))) => ob (s_l7At n r7 a2) fun (r8 : (List (V3 Int))) => some (true, r8))

/-- i_LineCounts -/
noncomputable def i_LineCounts_L1 (n : Nat) (go4 : Int × Int × (List Int) × (List (V3 Int)) → Option (Bool × (List Int))) (go6 : Int × Int × (V3 Int) × Int × (List Int) × (List (V3 Int)) → Option (Bool × (List Int))) (s7 : Int × Int × (V3 Int) × Int × (List Int) × (List (V3 Int))) : Option (Bool × (List Int)) :=
  br (decide (s7.2.2.2.1 < 3)) (ckb (inb s7.2.2.2.1 3) (ckb (inb (V3.get s7.2.2.1 s7.2.2.2.1.toNat) s7.2.2.2.2.1.length) (lt (w64 ((gl 0 s7.2.2.2.2.1 (V3.get s7.2.2.1 s7.2.2.2.1.toNat).toNat) + 1)) fun (x8 : Int) => ckb (inb (V3.get s7.2.2.1 s7.2.2.2.1.toNat) s7.2.2.2.2.1.length) (lt (List.set s7.2.2.2.2.1 (V3.get s7.2.2.1 s7.2.2.2.1.toNat).toNat x8) fun (x9 : (List Int)) => lt (w64 (s7.2.2.2.1 + 1)) fun (x10 : Int) => go6 (s7.1, s7.2.1, s7.2.2.1, x10, x9, s7.2.2.2.2.2))))) (lt (w64 (s7.2.1 + 1)) fun (x11 : Int) => go4 (s7.1, x11, s7.2.2.2.2.1, s7.2.2.2.2.2))
noncomputable def i_LineCounts_L2 (n : Nat) (go4 : Int × Int × (List Int) × (List (V3 Int)) → Option (Bool × (List Int))) (s5 : Int × Int × (List Int) × (List (V3 Int))) : Option (Bool × (List Int)) :=
  br (decide (s5.2.1 < s5.1)) (ckb (inb s5.2.1 s5.2.2.2.length) (fx (i_LineCounts_L1 n go4) n (s5.1, s5.2.1, (gl (⟨0, 0, 0⟩ : (V3 Int)) s5.2.2.2 s5.2.1.toNat), 0, s5.2.2.1, s5.2.2.2))) (some (true, s5.2.2.1))
noncomputable def i_LineCounts (n : Nat) (a1 : (List (V4 Int))) : Option (Bool × (List Int)) :=
  ob (i_IsHand n a1) fun (r2 : Bool) => br (! r2) (some (false, ([] : List Int))) (ckb (mkok 8 (a1.length : Int) (a1.length : Int)) (ob (i_linesIn n a1) fun (r3 : (List (V3 Int))) => fx (i_LineCounts_L2 n) n ((r3.length : Int), 0, (List.replicate a1.length 0), r3)))

/-- s_LineCounts -/
noncomputable def s_LineCounts_L1 (n : Nat) (go4 : (List (V4 Int)) × Int × (List Int) × (List (V3 Int)) → Option (Bool × (List Int))) (s5 : (List (V4 Int)) × Int × (List Int) × (List (V3 Int))) : Option (Bool × (List Int)) :=
  br (decide (s5.2.1 < (s5.1.length : Int))) (ob (s_l7At n s5.2.2.2 s5.2.1) fun (r6 : (List (V3 Int))) => ckb (apok 8 (s5.2.2.1.length + 1)) (lt (w64 (s5.2.1 + 1)) fun (x7 : Int) => go4 (s5.1, x7, (s5.2.2.1 ++ [(r6.length : Int)]), s5.2.2.2))) (some (true, s5.2.2.1))
noncomputable def s_LineCounts (n : Nat) (a1 : (List (V4 Int))) : Option (Bool × (List Int)) :=
  ob (s_l2Hand n a1) fun (r2 : Bool) => br (! r2) (some (false, ([] : List Int))) (ob (s_l2Lines n a1) fun (r3 : (List (V3 Int))) => fx (s_LineCounts_L1 n) n (a1, 0, ([] : List Int), r3))

/-- s_OpenPairs -/
noncomputable def s_OpenPairs_L1 (n : Nat) (go2 : (List (V4 Int)) × Int × Int → Option (Int × Bool)) (go6 : (List (V4 Int)) × Int × Int × Int → Option (Int × Bool)) (s7 : (List (V4 Int)) × Int × Int × Int) : Option (Int × Bool) :=
  br (decide (s7.2.2.2 < s7.2.2.1)) (ckb (inb s7.2.2.1 s7.1.length) (ckb (inb s7.2.2.2 s7.1.length) (ob (s_l2Third n (gl (⟨0, 0, 0, 0⟩ : (V4 Int)) s7.1 s7.2.2.1.toNat) (gl (⟨0, 0, 0, 0⟩ : (V4 Int)) s7.1 s7.2.2.2.toNat)) fun (r8 : (V4 Int)) => ob (s_l2Has n s7.1 r8) fun (r9 : Bool) => br (! r9) (lt (w64 (s7.2.1 + 1)) fun (x10 : Int) => lt (w64 (s7.2.2.2 + 1)) fun (x11 : Int) => go6 (s7.1, x10, s7.2.2.1, x11)) (lt (w64 (s7.2.2.2 + 1)) fun (x12 : Int) => go6 (s7.1, s7.2.1, s7.2.2.1, x12))))) (lt (w64 (s7.2.2.1 + 1)) fun (x13 : Int) => go2 (s7.1, s7.2.1, x13))
noncomputable def s_OpenPairs_L2 (n : Nat) (go2 : (List (V4 Int)) × Int × Int → Option (Int × Bool)) (s3 : (List (V4 Int)) × Int × Int) : Option (Int × Bool) :=
  ob (br (decide (s3.2.2 < (s3.1.length : Int))) (ob (s_l2Hand n s3.1) fun (r4 : Bool) => some r4) (some false)) fun (x5 : Bool) => br x5 (fx (s_OpenPairs_L1 n go2) n (s3.1, s3.2.1, s3.2.2, 0)) (ob (s_l2Hand n s3.1) fun (r14 : Bool) => some (s3.2.1, r14))
noncomputable def s_OpenPairs (n : Nat) (a1 : (List (V4 Int))) : Option (Int × Bool) :=
  fx (s_OpenPairs_L2 n) n (a1, 0, 0)

/-- s_CountCrossings -/
noncomputable def s_CountCrossings_L1 (n : Nat) (go4 : Int × Int × (List (V3 Int)) → Option (Int × Bool)) (go6 : Int × Int × Int × (List (V3 Int)) → Option (Int × Bool)) (s7 : Int × Int × Int × (List (V3 Int))) : Option (Int × Bool) :=
  br (decide (s7.2.2.1 < s7.2.1)) (ckb (inb s7.2.1 s7.2.2.2.length) (ckb (inb s7.2.2.1 s7.2.2.2.length) (ob (s_l7Common n (gl (⟨0, 0, 0⟩ : (V3 Int)) s7.2.2.2 s7.2.1.toNat) (gl (⟨0, 0, 0⟩ : (V3 Int)) s7.2.2.2 s7.2.2.1.toNat)) fun (r8 : Int) => br (decide (r8 = 1)) (lt (w64 (s7.1 + 1)) fun (x9 : Int) => lt (w64 (s7.2.2.1 + 1)) fun (x10 : Int) => go6 (x9, s7.2.1, x10, s7.2.2.2)) (lt (w64 (s7.2.2.1 + 1)) fun (x11 : Int) => go6 (s7.1, s7.2.1, x11, s7.2.2.2))))) (lt (w64 (s7.2.1 + 1)) fun (x12 : Int) => go4 (s7.1, x12, s7.2.2.2))
noncomputable def s_CountCrossings_L2 (n : Nat) (go4 : Int × Int × (List (V3 Int)) → Option (Int × Bool)) (s5 : Int × Int × (List (V3 Int))) : Option (Int × Bool) :=
  br (decide (s5.2.1 < (s5.2.2.length : Int))) (fx (s_CountCrossings_L1 n go4) n (s5.1, s5.2.1, 0, s5.2.2)) (some (s5.1, true))
noncomputable def s_CountCrossings (n : Nat) (a1 : (List (V4 Int))) : Option (Int × Bool) :=
  ob (s_l2Hand n a1) fun (r2 : Bool) => br (! r2) (some (0, false)) (ob (s_l2Lines n a1) fun (r3 : (List (V3 Int))) => fx (s_CountCrossings_L2 n) n (0, 0, r3))

/-- s_l3Cap -/
noncomputable def s_l3Cap (n : Nat) (a1 : (List (V4 Int))) : Option (Bool) :=
  ob (s_l2Lines n a1) fun (r2 : (List (V3 Int))) => some (decide ((r2.length : Int) = 0))

/-- s_FillCap -/
noncomputable def s_FillCap_L1 (n : Nat) (go7 : (List (V4 Int)) × (List Int) → Option (Bool × (List (V4 Int)))) (s8 : (List (V4 Int)) × (List Int)) : Option (Bool × (List (V4 Int))) :=
  br (decide (0 < (s8.2.length : Int))) (ckb (inb 0 s8.2.length) (ob (s_l2At n (gl 0 s8.2 0)) fun (r9 : (V4 Int)) => ob (s_l2Put n s8.1 r9) fun (r10 : (List (V4 Int))) => ob (s_l3Cards n r10 false) fun (r11 : (List Int)) => go7 (r10, r11))) (some (true, s8.1))
noncomputable def s_FillCap (n : Nat) (a1 : (List (V4 Int))) : Option (Bool × (List (V4 Int))) :=
  ob (s_l2Hand n a1) fun (r2 : Bool) => ob (br (! r2) (some true) (ob (s_l3Cap n a1) fun (r3 : Bool) => some (! r3))) fun (x4 : Bool) => br x4 (some (false, ([] : List (V4 Int)))) (ob (s_l2Own n a1) fun (r5 : (List (V4 Int))) => ob (s_l3Cards n r5 false) fun (r6 : (List Int)) => fx (s_FillCap_L1 n) n (r5, r6))

/-- s_Cur_cap3'p -/
noncomputable def s_Cur_cap3'p_J1 (n : Nat) (s4 : Bool × ((List Int) × (Int × Int)) × (List (V4 Int))) : Option (((List Int) × (Int × Int)) × (List (V4 Int))) :=
  br s4.1 (some (s4.2.1, s4.2.2)) (ob (s_GreedyCap n s4.2.2) fun (r5 : Bool × (List Int)) => ob (s_l3Picked n s4.2.2 r5.2) fun (r6 : (List (V4 Int))) => ob (s_Cur_one'p n 4 s4.2.1) fun (r7 : Bool × ((List Int) × (Int × Int))) => br r7.1 (ob (s_FillCap n r6) fun (r8 : Bool × (List (V4 Int))) => ob (s_Cur_one'p n 2 r7.2) fun (r9 : Bool × ((List Int) × (Int × Int))) => ob (br r9.1 (some (decide (0 < (r8.2.length : Int)))) (some false)) fun (x10 : Bool) => br x10 (ob (s_Cur_pick'p n (r8.2.length : Int) r9.2) fun (r11 : Int × ((List Int) × (Int × Int))) => ob (s_l2Drop n r8.2 r11.1) fun (r12 : (List (V4 Int))) => some (r11.2, r12)) (some (r9.2, r8.2))) (some (r7.2, r6)))
noncomputable def s_Cur_cap3'p (n : Nat) (a1 : ((List Int) × (Int × Int))) : Option (((List Int) × (Int × Int)) × (List (V4 Int))) :=
  ob (s_Cur_hand'p n a1) fun (r2 : ((List Int) × (Int × Int)) × (List (V4 Int))) => ob (s_l2Hand n r2.2) fun (r3 : Bool) => br (! r3) (s_Cur_cap3'p_J1 n (true, r2.1, r2.2)) (ob (s_Cur_one'p n 4 r2.1) fun (r13 : Bool × ((List Int) × (Int × Int))) => s_Cur_cap3'p_J1 n (r13.1, r13.2, r2.2))

/-- s_IsCap -/
noncomputable def s_IsCap (n : Nat) (a1 : (List (V4 Int))) : Option (Bool × Bool) :=
  ob (s_l2Hand n a1) fun (r2 : Bool) => br (! r2) (some (false, false)) (ob (s_l3Cap n a1) fun (r3 : Bool) => some (r3, true))

/-- s_BlockedCards -/
noncomputable def s_BlockedCards (n : Nat) (a1 : (List (V4 Int))) : Option (Bool × (List Int)) :=
  ob (s_l2Hand n a1) fun (r2 : Bool) => br (! r2) (some (false, ([] : List Int))) (ob (s_l3Cards n a1 true) fun (r3 : (List Int)) => some (true, r3))

/-- s_FreeCards -/
noncomputable def s_FreeCards (n : Nat) (a1 : (List (V4 Int))) : Option (Bool × (List Int)) :=
  ob (s_l2Hand n a1) fun (r2 : Bool) => br (! r2) (some (false, ([] : List Int))) (ob (s_l3Cards n a1 false) fun (r3 : (List Int)) => some (true, r3))

/-- i_IsFullCap -/
noncomputable def i_IsFullCap (n : Nat) (a1 : (List (V4 Int))) : Option (Bool × Bool) :=
  ob (i_IsHand n a1) fun (r2 : Bool) => br (! r2) (some (false, false)) (ob (i_isCap n a1) fun (r3 : Bool) => ob (br r3 (ob (i_outside n a1 false) fun (r4 : (List Int)) => some (decide ((r4.length : Int) = 0))) (some false)) fun (x5 : Bool) => some (x5, true))

/-- s_IsFullCap -/
noncomputable def s_IsFullCap (n : Nat) (a1 : (List (V4 Int))) : Option (Bool × Bool) :=
  ob (s_l2Hand n a1) fun (r2 : Bool) => br (! r2) (some (false, false)) (ob (s_l3Cap n a1) fun (r3 : Bool) => ob (br r3 (ob (s_l3Cards n a1 false) fun (r4 : (List Int)) => some (decide ((r4.length : Int) = 0))) (some false)) fun (x5 : Bool) => some (x5, true))

/-- i_FillCap -/
noncomputable def i_FillCap_L1 (n : Nat) (go5 : Int × (List (V4 Int)) → Option (Bool × (List (V4 Int)))) (s6 : Int × (List (V4 Int))) : Option (Bool × (List (V4 Int))) :=
  br (decide (s6.1 < 81)) (ob (i_card n s6.1) fun (r7 : (V4 Int)) => ob (i_has n s6.2 r7) fun (r8 : Bool) => ob (br (! r8) (ob (i_isBlocked n s6.2 r7) fun (r9 : Bool) => some (! r9)) (some false)) fun (x10 : Bool) => br x10 (ckb (apok 32 (s6.2.length + 1)) (lt (w64 (s6.1 + 1)) fun (x11 : Int) => go5 (x11, (s6.2 ++ [r7])))) (lt (w64 (s6.1 + 1)) fun (x12 : Int) => go5 (x12, s6.2))) (ob (i_sorted n s6.2) fun (r13 : (List (V4 Int))) => some (true, r13))
noncomputable def i_FillCap (n : Nat) (a1 : (List (V4 Int))) : Option (Bool × (List (V4 Int))) :=
  ob (i_IsHand n a1) fun (r2 : Bool) => ob (br (! r2) (some true) (ob (i_isCap n a1) fun (r3 : Bool) => some (! r3))) fun (x4 : Bool) => br x4 (some (false, ([] : List (V4 Int)))) (ckb (apok 32 (0 + a1.length)) (fx (i_FillCap_L1 n) n (0, a1)))

/-- s_Cur_cardOf'pl -/
noncomputable def s_Cur_cardOf'pl_J1 (n : Nat) (s3 : (List (V4 Int)) × Bool × ((List Int) × (Int × Int)) × (V4 Int)) : Option ((V4 Int) × ((List Int) × (Int × Int))) :=
  br s3.2.1 (ob (s_Cur_pick'p n (s3.1.length : Int) s3.2.2.1) fun (r4 : Int × ((List Int) × (Int × Int))) => ckb (inb r4.1 s3.1.length) (some ((gl (⟨0, 0, 0, 0⟩ : (V4 Int)) s3.1 r4.1.toNat), r4.2))) (ob (s_Cur_card'p n s3.2.2.1) fun (r5 : (V4 Int) × ((List Int) × (Int × Int))) => some (r5.1, r5.2))
noncomputable def s_Cur_cardOf'pl (n : Nat) (a1 : (List (V4 Int))) (a2 : ((List Int) × (Int × Int))) : Option ((V4 Int) × ((List Int) × (Int × Int))) :=
  br (decide (0 < (a1.length : Int))) (ob (s_Cur_one'p n 3 a2) fun (r6 : Bool × ((List Int) × (Int × Int))) => s_Cur_cardOf'pl_J1 n (a1, (! r6.1), r6.2, (⟨0, 0, 0, 0⟩ : (V4 Int)))) (s_Cur_cardOf'pl_J1 n (a1, false, a2, (⟨0, 0, 0, 0⟩ : (V4 Int))))

/-- i_CapLines -/
noncomputable def i_CapLines (n : Nat) (a1 : (List (V4 Int))) (a2 : (V4 Int)) : Option (Bool × (List (V2 Int))) :=
  ob (i_IsHand n a1) fun (r3 : Bool) => ob (br (! r3) (some true) (ob (i_IsCard n a2) fun (r4 : Bool) => some (! r4))) fun (x5 : Bool) => ob (br x5 (some true) (ob (i_has n a1 a2) fun (r6 : Bool) => some r6)) fun (x7 : Bool) => br x7 (some (false, ([] : List (V2 Int)))) (ob (i_pairsFor n a1 a2) fun (r8 : (List (V2 Int))) => some (true, r8))

/-- s_CapLines -/
noncomputable def s_CapLines_L1 (n : Nat) (go8 : (List (V4 Int)) × Int × (V4 Int) × (List (V2 Int)) → Option (Bool × (List (V2 Int)))) (go11 : (List (V4 Int)) × Int × Int × (V4 Int) × (List (V2 Int)) → Option (Bool × (List (V2 Int)))) (s12 : (List (V4 Int)) × Int × Int × (V4 Int) × (List (V2 Int))) : Option (Bool × (List (V2 Int))) :=
  br (decide (s12.2.2.1 < (s12.1.length : Int))) (ckb (inb s12.2.1 s12.1.length) (ckb (inb s12.2.2.1 s12.1.length) (ob (s_l2Line n (gl (⟨0, 0, 0, 0⟩ : (V4 Int)) s12.1 s12.2.1.toNat) (gl (⟨0, 0, 0, 0⟩ : (V4 Int)) s12.1 s12.2.2.1.toNat) s12.2.2.2.1) fun (r13 : Bool) => br r13 (lt (⟨s12.2.1, s12.2.2.1⟩ : (V2 Int)) fun (x14 : (V2 Int)) => ckb (apok 16 (s12.2.2.2.2.length + 1)) (lt (w64 (s12.2.2.1 + 1)) fun (x15 : Int) => go11 (s12.1, s12.2.1, x15, s12.2.2.2.1, (s12.2.2.2.2 ++ [x14])))) (lt (w64 (s12.2.2.1 + 1)) fun (x16 : Int) => go11 (s12.1, s12.2.1, x16, s12.2.2.2.1, s12.2.2.2.2))))) (lt (w64 (s12.2.1 + 1)) fun (x17 : Int) => go8 (s12.1, x17, s12.2.2.2.1, s12.2.2.2.2))
noncomputable def s_CapLines_L2 (n : Nat) (go8 : (List (V4 Int)) × Int × (V4 Int) × (List (V2 Int)) → Option (Bool × (List (V2 Int)))) (s9 : (List (V4 Int)) × Int × (V4 Int) × (List (V2 Int))) : Option (Bool × (List (V2 Int))) :=
  br (decide (s9.2.1 < (s9.1.length : Int))) (lt (w64 (s9.2.1 + 1)) fun (x10 : Int) => fx (s_CapLines_L1 n go8) n (s9.1, s9.2.1, x10, s9.2.2.1, s9.2.2.2)) (some (true, s9.2.2.2))
noncomputable def s_CapLines (n : Nat) (a1 : (List (V4 Int))) (a2 : (V4 Int)) : Option (Bool × (List (V2 Int))) :=
  ob (s_l2Hand n a1) fun (r3 : Bool) => ob (br (! r3) (some true) (ob (s_l2Card n a2) fun (r4 : Bool) => some (! r4))) fun (x5 : Bool) => ob (br x5 (some true) (ob (s_l2Has n a1 a2) fun (r6 : Bool) => some r6)) fun (x7 : Bool) => br x7 (some (false, ([] : List (V2 Int)))) (fx (s_CapLines_L2 n) n (a1, 0, a2, ([] : List (V2 Int))))

/-- v_vPairs -/
noncomputable def v_vPairs_L1 (n : Nat) (go3 : (List (V2 Int)) × (List (V2 Int)) × Int → Option (Bool)) (s4 : (List (V2 Int)) × (List (V2 Int)) × Int) : Option (Bool) :=
  br (decide (s4.2.2 < (s4.1.length : Int))) (ckb (inb s4.2.2 s4.1.length) (ckb (inb s4.2.2 s4.2.1.length) (br (!eqd (gl (⟨0, 0⟩ : (V2 Int)) s4.1 s4.2.2.toNat) (gl (⟨0, 0⟩ : (V2 Int)) s4.2.1 s4.2.2.toNat)) (some false) (lt (w64 (s4.2.2 + 1)) fun (x5 : Int) => go3 (s4.1, s4.2.1, x5))))) (some true)
noncomputable def v_vPairs (n : Nat) (a1 : (List (V2 Int))) (a2 : (List (V2 Int))) : Option (Bool) :=
  br (!decide ((a1.length : Int) = (a2.length : Int))) (some false) (fx (v_vPairs_L1 n) n (a1, a2, 0))

/-- v_vHas -/
noncomputable def v_vHas_L1 (n : Nat) (go3 : (List Int) × Int × Int → Option (Bool)) (s4 : (List Int) × Int × Int) : Option (Bool) :=
  br (decide (s4.2.2 < (s4.1.length : Int))) (ckb (inb s4.2.2 s4.1.length) (br (decide ((gl 0 s4.1 s4.2.2.toNat) = s4.2.1)) (some true) (lt (w64 (s4.2.2 + 1)) fun (x5 : Int) => go3 (s4.1, s4.2.1, x5)))) (some false)
noncomputable def v_vHas (n : Nat) (a1 : (List Int)) (a2 : Int) : Option (Bool) :=
  fx (v_vHas_L1 n) n (a1, a2, 0)

end Go.Pl
