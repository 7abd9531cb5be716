/- Printed by a program of the session: the program's functions as plain functions. -/
import Derived.Test.YtfoielhhflbbfaaZ0
import Derived.Lib.Bytealg
namespace Go.Pl
open Go Go.Tv Go.RowKit
set_option linter.unusedVariables false
def bls (a b : ByteArray) : Bool := Op.bytesLess a.toList b.toList
/-- s_l1In -/
noncomputable def s_l1In (n : Nat) (a1 : Int) (a2 : Int) (a3 : Int) : Option (Bool) :=
  ob (br (decide (a2 ≤ a1)) (some (decide (a1 ≤ a3))) (some false)) fun (x4 : Bool) => some x4

/-- i_within -/
noncomputable def i_within (n : Nat) (a1 : Int) (a2 : Int) (a3 : Int) : Option (Bool) :=
  ob (br (decide (a2 ≤ a1)) (some (decide (a1 ≤ a3))) (some false)) fun (x4 : Bool) => some x4

/-- i_allWithin_1'pp -/
noncomputable def i_allWithin_1'pp (n : Nat) (a1 : Int) (a2 : Int) (a3 : Int) : Option (Bool × Int × Int) :=
  ob (i_within n a1 a2 a3) fun (r4 : Bool) => some ((! r4), a2, a3)

/-- slices_IndexFunc_Sint_int_'l_i_allWithin_1pp -/
noncomputable def slices_IndexFunc_Sint_int_'l_i_allWithin_1pp_L1 (n : Nat) (go4 : (List Int) × Int × Int × Int × Int → Option (Int × Int × Int)) (s5 : (List Int) × Int × Int × Int × Int) : Option (Int × Int × Int) :=
  br (decide (s5.2.2.1 < s5.2.1)) (ckb (inb s5.2.2.1 s5.1.length) (ob (i_allWithin_1'pp n (gl 0 s5.1 s5.2.2.1.toNat) s5.2.2.2.1 s5.2.2.2.2) fun (r6 : Bool × Int × Int) => br r6.1 (some (s5.2.2.1, r6.2.1, r6.2.2)) (lt (w64 (s5.2.2.1 + 1)) fun (x7 : Int) => go4 (s5.1, s5.2.1, x7, r6.2.1, r6.2.2)))) (some ((-1), s5.2.2.2.1, s5.2.2.2.2))
noncomputable def slices_IndexFunc_Sint_int_'l_i_allWithin_1pp (n : Nat) (a1 : (List Int)) (a2 : Int) (a3 : Int) : Option (Int × Int × Int) :=
  fx (slices_IndexFunc_Sint_int_'l_i_allWithin_1pp_L1 n) n (a1, (a1.length : Int), 0, a2, a3)

/-- slices_ContainsFunc_Sint_int_'l_i_allWithin_1pp -/
noncomputable def slices_ContainsFunc_Sint_int_'l_i_allWithin_1pp (n : Nat) (a1 : (List Int)) (a2 : Int) (a3 : Int) : Option (Bool × Int × Int) :=
  ob (slices_IndexFunc_Sint_int_'l_i_allWithin_1pp n a1 a2 a3) fun (r4 : Int × Int × Int) => some ((decide (0 ≤ r4.1)), r4.2.1, r4.2.2)

/-- i_allWithin -/
noncomputable def i_allWithin (n : Nat) (a1 : (List Int)) (a2 : Int) (a3 : Int) : Option (Bool) :=
  ob (slices_ContainsFunc_Sint_int_'l_i_allWithin_1pp n a1 a2 a3) fun (r4 : Bool × Int × Int) => some (! r4.1)

/-- slices_Clone_SA4_A4_ -/
noncomputable def slices_Clone_SA4_A4_ (n : Nat) (a1 : (List (V4 Int))) : Option ((List (V4 Int))) :=
  amb a1.isEmpty fun (b2 : Bool) => br b2 (some ([] : List (V4 Int))) (ckb (apok 32 (0 + a1.length)) (some a1))

/-- i_number -/
noncomputable def i_number_L1 (n : Nat) (go2 : Int × (V4 Int) × Int → Option (Int)) (s3 : Int × (V4 Int) × Int) : Option (Int) :=
  br (decide (s3.2.2 < 4)) (ckb (inb s3.2.2 4) (lt (w64 (3 * s3.1)) fun (x4 : Int) => lt (w64 (x4 + (V4.get s3.2.1 s3.2.2.toNat))) fun (x5 : Int) => lt (w64 (s3.2.2 + 1)) fun (x6 : Int) => go2 (x5, s3.2.1, x6))) (some s3.1)
noncomputable def i_number (n : Nat) (a1 : (V4 Int)) : Option (Int) :=
  fx (i_number_L1 n) n (0, a1, 0)

/-- s_Cur_next'p -/
noncomputable def s_Cur_next'p_J1 (n : Nat) (s2 : Int × ((List Int) × (Int × Int))) : Option (Int × ((List Int) × (Int × Int))) :=
  lt (w64 (s2.2.2.1 + 1)) fun (x3 : Int) => lt (s2.2.1, (x3, s2.2.2.2)) fun (x4 : ((List Int) × (Int × Int))) => lt (IntKind.wrap .u64 (x4.2.2 * 6364136223846793005)) fun (x5 : Int) => lt (IntKind.wrap .u64 s2.1) fun (x6 : Int) => lt (IntKind.wrap .u64 (x5 + x6)) fun (x7 : Int) => lt (IntKind.wrap .u64 (x7 + 462197)) fun (x8 : Int) => lt (x4.1, (x4.2.1, x8)) fun (x9 : ((List Int) × (Int × Int))) => br (decide (x9.2.1 ≤ (x9.1.length : Int))) (some (s2.1, x9)) (lt (shrI .u64 x9.2.2 40) fun (x10 : Int) => lt (bits .and .u64 x10 255) fun (x11 : Int) => lt (w64 x11) fun (x12 : Int) => some (x12, x9))
noncomputable def s_Cur_next'p (n : Nat) (a1 : ((List Int) × (Int × Int))) : Option (Int × ((List Int) × (Int × Int))) :=
  br (decide (a1.2.1 < (a1.1.length : Int))) (ckb (inb a1.2.1 a1.1.length) (lt (w64 (gl 0 a1.1 a1.2.1.toNat)) fun (x13 : Int) => s_Cur_next'p_J1 n (x13, a1))) (s_Cur_next'p_J1 n (0, a1))

/-- s_Cur_pick'p -/
noncomputable def s_Cur_pick'p (n : Nat) (a1 : Int) (a2 : ((List Int) × (Int × Int))) : Option (Int × ((List Int) × (Int × Int))) :=
  br (decide (a1 ≤ 1)) (some (0, a2)) (ob (s_Cur_next'p n a2) fun (r3 : Int × ((List Int) × (Int × Int))) => br (decide (200 < a1)) (lt (w64 (r3.1 * 256)) fun (x4 : Int) => ob (s_Cur_next'p n r3.2) fun (r5 : Int × ((List Int) × (Int × Int))) => lt (w64 (x4 + r5.1)) fun (x6 : Int) => ckb (!decide (a1 = 0)) (lt (Int.tmod x6 a1) fun (x7 : Int) => some (x7, r5.2))) (ckb (!decide (a1 = 0)) (lt (Int.tmod r3.1 a1) fun (x8 : Int) => some (x8, r3.2))))

/-- s_Cur_among'pl -/
noncomputable def s_Cur_among'pl (n : Nat) (a1 : (List Int)) (a2 : ((List Int) × (Int × Int))) : Option (Int × ((List Int) × (Int × Int))) :=
  ob (s_Cur_pick'p n (a1.length : Int) a2) fun (r3 : Int × ((List Int) × (Int × Int))) => ckb (inb r3.1 a1.length) (some ((gl 0 a1 r3.1.toNat), r3.2))

/-- s_l1Most -/
noncomputable def s_l1Most (n : Nat) (a1 : Int) (a2 : Int) : Option (Int) :=
  br (decide (a2 < a1)) (some a1) (some a2)

/-- s_l2At -/
noncomputable def s_l2At (n : Nat) (a1 : Int) : Option ((V4 Int)) :=
  lt (w64 (Int.tdiv a1 27)) fun (x2 : Int) => lt (w64 (Int.tdiv a1 9)) fun (x3 : Int) => lt (Int.tmod x3 3) fun (x4 : Int) => lt (w64 (Int.tdiv a1 3)) fun (x5 : Int) => lt (Int.tmod x5 3) fun (x6 : Int) => lt (Int.tmod a1 3) fun (x7 : Int) => lt (⟨x2, x4, x6, x7⟩ : (V4 Int)) fun (x8 : (V4 Int)) => some x8

/-- s_l2Own -/
noncomputable def s_l2Own (n : Nat) (a1 : (List (V4 Int))) : Option ((List (V4 Int))) :=
  ckb (apok 32 (0 + a1.length)) (some a1)

/-- s_Cur_one'p -/
noncomputable def s_Cur_one'p (n : Nat) (a1 : Int) (a2 : ((List Int) × (Int × Int))) : Option (Bool × ((List Int) × (Int × Int))) :=
  ob (s_Cur_pick'p n a1 a2) fun (r3 : Int × ((List Int) × (Int × Int))) => some ((decide (r3.1 = 0)), r3.2)

/-- s_l2Third -/
noncomputable def s_l2Third_L1 (n : Nat) (go4 : Int × (V4 Int) × (V4 Int) × (V4 Int) × (V4 Int) → Option ((V4 Int))) (s5 : Int × (V4 Int) × (V4 Int) × (V4 Int) × (V4 Int)) : Option ((V4 Int)) :=
  br (decide (s5.1 < 4)) (ckb (inb s5.1 4) (lt (w64 (6 - (V4.get s5.2.1 s5.1.toNat))) fun (x6 : Int) => ckb (inb s5.1 4) (lt (w64 (x6 - (V4.get s5.2.2.1 s5.1.toNat))) fun (x7 : Int) => lt (Int.tmod x7 3) fun (x8 : Int) => ckb (inb s5.1 4) (lt (V4.set s5.2.2.2.2 s5.1.toNat x8) fun (x9 : (V4 Int)) => lt (w64 (s5.1 + 1)) fun (x10 : Int) => go4 (x10, s5.2.1, s5.2.2.1, s5.2.2.2.1, x9))))) (some s5.2.2.2.2)
noncomputable def s_l2Third (n : Nat) (a1 : (V4 Int)) (a2 : (V4 Int)) : Option ((V4 Int)) :=
  lt (⟨0, 0, 0, 0⟩ : (V4 Int)) fun (x3 : (V4 Int)) => fx (s_l2Third_L1 n) n (0, a1, a2, (⟨0, 0, 0, 0⟩ : (V4 Int)), x3)

/-- i_card -/
noncomputable def i_card (n : Nat) (a1 : Int) : Option ((V4 Int)) :=
  lt (w64 (Int.tdiv a1 27)) fun (x2 : Int) => lt (w64 (Int.tdiv a1 9)) fun (x3 : Int) => lt (Int.tmod x3 3) fun (x4 : Int) => lt (w64 (Int.tdiv a1 3)) fun (x5 : Int) => lt (Int.tmod x5 3) fun (x6 : Int) => lt (Int.tmod a1 3) fun (x7 : Int) => lt (⟨x2, x4, x6, x7⟩ : (V4 Int)) fun (x8 : (V4 Int)) => some x8

/-- slices_Index_SA4_A4_ -/
noncomputable def slices_Index_SA4_A4__L1 (n : Nat) (go3 : (List (V4 Int)) × Int × Int × (V4 Int) → Option (Int)) (s4 : (List (V4 Int)) × Int × Int × (V4 Int)) : Option (Int) :=
  br (decide (s4.2.2.1 < s4.2.1)) (ckb (inb s4.2.2.1 s4.1.length) (br (eqd s4.2.2.2 (gl (⟨0, 0, 0, 0⟩ : (V4 Int)) s4.1 s4.2.2.1.toNat)) (some s4.2.2.1) (lt (w64 (s4.2.2.1 + 1)) fun (x5 : Int) => go3 (s4.1, s4.2.1, x5, s4.2.2.2)))) (some (-1))
noncomputable def slices_Index_SA4_A4_ (n : Nat) (a1 : (List (V4 Int))) (a2 : (V4 Int)) : Option (Int) :=
  fx (slices_Index_SA4_A4__L1 n) n (a1, (a1.length : Int), 0, a2)

/-- slices_Contains_SA4_A4_ -/
noncomputable def slices_Contains_SA4_A4_ (n : Nat) (a1 : (List (V4 Int))) (a2 : (V4 Int)) : Option (Bool) :=
  ob (slices_Index_SA4_A4_ n a1 a2) fun (r3 : Int) => some (decide (0 ≤ r3))

/-- i_has -/
noncomputable def i_has (n : Nat) (a1 : (List (V4 Int))) (a2 : (V4 Int)) : Option (Bool) :=
  ob (slices_Contains_SA4_A4_ n a1 a2) fun (r3 : Bool) => some r3

/-- i_third -/
noncomputable def i_third_L1 (n : Nat) (go4 : Int × (V4 Int) × (V4 Int) × (V4 Int) × (V4 Int) → Option ((V4 Int))) (s5 : Int × (V4 Int) × (V4 Int) × (V4 Int) × (V4 Int)) : Option ((V4 Int)) :=
  br (decide (s5.1 < 4)) (ckb (inb s5.1 4) (lt (w64 (6 - (V4.get s5.2.1 s5.1.toNat))) fun (x6 : Int) => ckb (inb s5.1 4) (lt (w64 (x6 - (V4.get s5.2.2.1 s5.1.toNat))) fun (x7 : Int) => lt (Int.tmod x7 3) fun (x8 : Int) => ckb (inb s5.1 4) (lt (V4.set s5.2.2.2.2 s5.1.toNat x8) fun (x9 : (V4 Int)) => lt (w64 (s5.1 + 1)) fun (x10 : Int) => go4 (x10, s5.2.1, s5.2.2.1, s5.2.2.2.1, x9))))) (some s5.2.2.2.2)
noncomputable def i_third (n : Nat) (a1 : (V4 Int)) (a2 : (V4 Int)) : Option ((V4 Int)) :=
  lt (⟨0, 0, 0, 0⟩ : (V4 Int)) fun (x3 : (V4 Int)) => fx (i_third_L1 n) n (0, a1, a2, (⟨0, 0, 0, 0⟩ : (V4 Int)), x3)

/-- i_linesIn -/
noncomputable def i_linesIn_L1 (n : Nat) (go9 : (List (V4 Int)) × (List (V4 Int)) × Int × Int × (VL 81 Int) × (List (V3 Int)) → Option ((List (V3 Int)))) (go12 : (List (V4 Int)) × Int × Int × (List (V4 Int)) × Int × Int × (VL 81 Int) × (List (V3 Int)) × (V4 Int) → Option ((List (V3 Int)))) (s13 : (List (V4 Int)) × Int × Int × (List (V4 Int)) × Int × Int × (VL 81 Int) × (List (V3 Int)) × (V4 Int)) : Option ((List (V3 Int))) :=
  br (decide (s13.2.2.1 < (s13.1.length : Int))) (ckb (inb s13.2.2.1 s13.1.length) (ob (i_third n s13.2.2.2.2.2.2.2.2 (gl (⟨0, 0, 0, 0⟩ : (V4 Int)) s13.1 s13.2.2.1.toNat)) fun (r14 : (V4 Int)) => ob (i_number n r14) fun (r15 : Int) => ckb (inb r15 81) (lt (w64 ((VL.get 0 s13.2.2.2.2.2.2.1 r15.toNat) - 1)) fun (x16 : Int) => br (decide (s13.2.2.1 < x16)) (lt (⟨s13.2.1, s13.2.2.1, x16⟩ : (V3 Int)) fun (x17 : (V3 Int)) => ckb (apok 24 (s13.2.2.2.2.2.2.2.1.length + 1)) (lt (w64 (s13.2.2.1 + 1)) fun (x18 : Int) => go12 (s13.1, s13.2.1, x18, s13.2.2.2.1, s13.2.2.2.2.1, s13.2.2.2.2.2.1, s13.2.2.2.2.2.2.1, (s13.2.2.2.2.2.2.2.1 ++ [x17]), s13.2.2.2.2.2.2.2.2))) (lt (w64 (s13.2.2.1 + 1)) fun (x19 : Int) => go12 (s13.1, s13.2.1, x19, s13.2.2.2.1, s13.2.2.2.2.1, s13.2.2.2.2.2.1, s13.2.2.2.2.2.2.1, s13.2.2.2.2.2.2.2.1, s13.2.2.2.2.2.2.2.2))))) (lt (w64 (s13.2.2.2.2.2.1 + 1)) fun (x20 : Int) => go9 (s13.1, s13.2.2.2.1, s13.2.2.2.2.1, x20, s13.2.2.2.2.2.2.1, s13.2.2.2.2.2.2.2.1))
noncomputable def i_linesIn_L2 (n : Nat) (go9 : (List (V4 Int)) × (List (V4 Int)) × Int × Int × (VL 81 Int) × (List (V3 Int)) → Option ((List (V3 Int)))) (s10 : (List (V4 Int)) × (List (V4 Int)) × Int × Int × (VL 81 Int) × (List (V3 Int))) : Option ((List (V3 Int))) :=
  br (decide (s10.2.2.2.1 < s10.2.2.1)) (ckb (inb s10.2.2.2.1 s10.2.1.length) (lt (w64 (s10.2.2.2.1 + 1)) fun (x11 : Int) => fx (i_linesIn_L1 n go9) n (s10.1, s10.2.2.2.1, x11, s10.2.1, s10.2.2.1, s10.2.2.2.1, s10.2.2.2.2.1, s10.2.2.2.2.2, (gl (⟨0, 0, 0, 0⟩ : (V4 Int)) s10.2.1 s10.2.2.2.1.toNat)))) (some s10.2.2.2.2.2)
noncomputable def i_linesIn_L3 (n : Nat) (go3 : (List (V4 Int)) × (List (V4 Int)) × Int × Int × (VL 81 Int) → Option ((List (V3 Int)))) (s4 : (List (V4 Int)) × (List (V4 Int)) × Int × Int × (VL 81 Int)) : Option ((List (V3 Int))) :=
  br (decide (s4.2.2.2.1 < s4.2.2.1)) (ckb (inb s4.2.2.2.1 s4.2.1.length) (ob (i_number n (gl (⟨0, 0, 0, 0⟩ : (V4 Int)) s4.2.1 s4.2.2.2.1.toNat)) fun (r5 : Int) => lt (w64 (s4.2.2.2.1 + 1)) fun (x6 : Int) => ckb (inb r5 81) (lt (VL.set s4.2.2.2.2 r5.toNat x6) fun (x7 : (VL 81 Int)) => lt (w64 (s4.2.2.2.1 + 1)) fun (x8 : Int) => go3 (s4.1, s4.2.1, s4.2.2.1, x8, x7)))) (fx (i_linesIn_L2 n) n (s4.1, s4.1, (s4.1.length : Int), 0, s4.2.2.2.2, ([] : List (V3 Int))))
noncomputable def i_linesIn (n : Nat) (a1 : (List (V4 Int))) : Option ((List (V3 Int))) :=
  lt (VL.rep 81 0) fun (x2 : (VL 81 Int)) => fx (i_linesIn_L3 n) n (a1, a1, (a1.length : Int), 0, x2)

/-- s_l2Place -/
noncomputable def s_l2Place_L1 (n : Nat) (go3 : (List (V4 Int)) × Int × (V4 Int) → Option (Int)) (s4 : (List (V4 Int)) × Int × (V4 Int)) : Option (Int) :=
  br (decide (s4.2.1 < (s4.1.length : Int))) (ckb (inb s4.2.1 s4.1.length) (br (eqd (gl (⟨0, 0, 0, 0⟩ : (V4 Int)) s4.1 s4.2.1.toNat) s4.2.2) (some s4.2.1) (lt (w64 (s4.2.1 + 1)) fun (x5 : Int) => go3 (s4.1, x5, s4.2.2)))) (some (-1))
noncomputable def s_l2Place (n : Nat) (a1 : (List (V4 Int))) (a2 : (V4 Int)) : Option (Int) :=
  fx (s_l2Place_L1 n) n (a1, 0, a2)

/-- s_l2Has -/
noncomputable def s_l2Has (n : Nat) (a1 : (List (V4 Int))) (a2 : (V4 Int)) : Option (Bool) :=
  ob (s_l2Place n a1 a2) fun (r3 : Int) => some (decide (0 ≤ r3))

/-- s_l2Line -/
noncomputable def s_l2Line (n : Nat) (a1 : (V4 Int)) (a2 : (V4 Int)) (a3 : (V4 Int)) : Option (Bool) :=
  ob (br (!eqd a1 a2) (ob (s_l2Third n a1 a2) fun (r4 : (V4 Int)) => some (eqd r4 a3)) (some false)) fun (x5 : Bool) => some x5

/-- s_Cur_card'p -/
noncomputable def s_Cur_card'p (n : Nat) (a1 : ((List Int) × (Int × Int))) : Option ((V4 Int) × ((List Int) × (Int × Int))) :=
  ob (s_Cur_pick'p n 81 a1) fun (r2 : Int × ((List Int) × (Int × Int))) => ob (s_l2At n r2.1) fun (r3 : (V4 Int)) => ob (s_Cur_one'p n 40 r2.2) fun (r4 : Bool × ((List Int) × (Int × Int))) => br r4.1 (ob (s_Cur_pick'p n 4 r4.2) fun (r5 : Int × ((List Int) × (Int × Int))) => ob (s_Cur_among'pl n [(-1), 3, 4611686018427387904, (-9223372036854775808)] r5.2) fun (r6 : Int × ((List Int) × (Int × Int))) => ckb (inb r5.1 4) (lt (V4.set r3 r5.1.toNat r6.1) fun (x7 : (V4 Int)) => some (x7, r6.2))) (some (r3, r4.2))

/-- s_l1Least -/
noncomputable def s_l1Least (n : Nat) (a1 : Int) (a2 : Int) : Option (Int) :=
  br (decide (a1 < a2)) (some a1) (some a2)

/-- i_isLine -/
noncomputable def i_isLine (n : Nat) (a1 : (V4 Int)) (a2 : (V4 Int)) (a3 : (V4 Int)) : Option (Bool) :=
  ob (br (!eqd a1 a2) (ob (i_third n a1 a2) fun (r4 : (V4 Int)) => some (eqd r4 a3)) (some false)) fun (x5 : Bool) => some x5

/-- s_l4Seed -/
noncomputable def s_l4Seed (n : Nat) (a1 : Int) : Option (Bool) :=
  ob (s_l1In n a1 0 65535) fun (r2 : Bool) => some r2

/-- s_l4Behind -/
noncomputable def s_l4Behind (n : Nat) (a1 : Int) : Option (Int) :=
  lt (w64 (25173 * a1)) fun (x2 : Int) => lt (w64 (x2 + 13849)) fun (x3 : Int) => lt (Int.tmod x3 65536) fun (x4 : Int) => some x4

/-- s_l4Pile -/
noncomputable def s_l4Pile_L1 (n : Nat) (go6 : Int × Int × (List (V4 Int)) → Option ((List (V4 Int)))) (s7 : Int × Int × (List (V4 Int))) : Option ((List (V4 Int))) :=
  br (decide (0 < s7.2.1)) (ob (s_l4Behind n s7.1) fun (r8 : Int) => lt (w64 (Int.tdiv r8 8)) fun (x9 : Int) => lt (w64 (s7.2.1 + 1)) fun (x10 : Int) => ckb (!decide (x10 = 0)) (lt (Int.tmod x9 x10) fun (x11 : Int) => ckb (inb s7.2.1 s7.2.2.length) (ckb (inb x11 s7.2.2.length) (ckb (inb s7.2.1 s7.2.2.length) (lt (List.set s7.2.2 s7.2.1.toNat (gl (⟨0, 0, 0, 0⟩ : (V4 Int)) s7.2.2 x11.toNat)) fun (x12 : (List (V4 Int))) => ckb (inb x11 x12.length) (lt (List.set x12 x11.toNat (gl (⟨0, 0, 0, 0⟩ : (V4 Int)) s7.2.2 s7.2.1.toNat)) fun (x13 : (List (V4 Int))) => lt (w64 (s7.2.1 - 1)) fun (x14 : Int) => go6 (r8, x14, x13))))))) (some s7.2.2)
noncomputable def s_l4Pile_L2 (n : Nat) (go2 : Int × Int × (List (V4 Int)) → Option ((List (V4 Int)))) (s3 : Int × Int × (List (V4 Int))) : Option ((List (V4 Int))) :=
  br (decide (s3.2.1 < 81)) (ob (s_l2At n s3.2.1) fun (r4 : (V4 Int)) => ckb (apok 32 (s3.2.2.length + 1)) (lt (w64 (s3.2.1 + 1)) fun (x5 : Int) => go2 (s3.1, x5, (s3.2.2 ++ [r4])))) (fx (s_l4Pile_L1 n) n (s3.1, 80, s3.2.2))
noncomputable def s_l4Pile (n : Nat) (a1 : Int) : Option ((List (V4 Int))) :=
  fx (s_l4Pile_L2 n) n (a1, 0, ([] : List (V4 Int)))

/-- s_l4Deal -/
noncomputable def s_l4Deal_L1 (n : Nat) (go7 : Int × Int × Int × (Int × (Int × (List (V4 Int)))) × (List (V4 Int)) → Option (Bool)) (s8 : Int × Int × Int × (Int × (Int × (List (V4 Int)))) × (List (V4 Int))) : Option (Bool) :=
  br (decide (s8.2.2.1 < (s8.2.2.2.1.2.2.length : Int))) (ckb (inb s8.2.2.1 s8.2.2.2.1.2.2.length) (ob (s_l2Has n (sub s8.2.2.2.2 s8.1.toNat (s8.1.toNat + s8.2.1.toNat)) (gl (⟨0, 0, 0, 0⟩ : (V4 Int)) s8.2.2.2.1.2.2 s8.2.2.1.toNat)) fun (r9 : Bool) => ob (br (! r9) (some true) (ckb (slb 0 s8.2.2.1 s8.2.2.2.1.2.2.length) (ckb (inb s8.2.2.1 s8.2.2.2.1.2.2.length) (ob (s_l2Has n (sub s8.2.2.2.1.2.2 0 s8.2.2.1.toNat) (gl (⟨0, 0, 0, 0⟩ : (V4 Int)) s8.2.2.2.1.2.2 s8.2.2.1.toNat)) fun (r10 : Bool) => some r10)))) fun (x11 : Bool) => br x11 (some false) (lt (w64 (s8.2.2.1 + 1)) fun (x12 : Int) => go7 ((s8.1.toNat : Int), (s8.2.1.toNat : Int), x12, s8.2.2.2.1, s8.2.2.2.2)))) (some true)
noncomputable def s_l4Deal (n : Nat) (a1 : (Int × (Int × (List (V4 Int))))) : Option (Bool) :=
  ob (s_l4Seed n a1.1) fun (r2 : Bool) => ob (br (! r2) (some true) (ob (s_l1In n a1.2.1 0 81) fun (r3 : Bool) => some (! r3))) fun (x4 : Bool) => ob (br x4 (some true) (some (decide (81 < (a1.2.2.length : Int))))) fun (x5 : Bool) => br x5 (some false) (ob (s_l4Pile n a1.1) fun (r6 : (List (V4 Int))) => ckb (slb 0 a1.2.1 r6.length) (fx (s_l4Deal_L1 n) n (0, ((w64 (a1.2.1 - 0)).toNat : Int), 0, a1, r6)))

/-- s_l8Game -/
noncomputable def s_l8Game_L1 (n : Nat) (go6 : Int × ((Int × (Int × (List (V4 Int)))) × ((List Int) × (List Int))) → Option (Bool)) (s7 : Int × ((Int × (Int × (List (V4 Int)))) × ((List Int) × (List Int)))) : Option (Bool) :=
  br (decide (s7.1 < (s7.2.2.1.length : Int))) (ckb (inb s7.1 s7.2.2.1.length) (ob (s_l1In n (gl 0 s7.2.2.1 s7.1.toNat) 0 60) fun (r8 : Bool) => ob (br (! r8) (some true) (ckb (inb s7.1 s7.2.2.2.length) (ob (s_l1In n (gl 0 s7.2.2.2 s7.1.toNat) 0 60) fun (r9 : Bool) => some (! r9)))) fun (x10 : Bool) => br x10 (some false) (lt (w64 (s7.1 + 1)) fun (x11 : Int) => go6 (x11, s7.2)))) (some true)
noncomputable def s_l8Game (n : Nat) (a1 : ((Int × (Int × (List (V4 Int)))) × ((List Int) × (List Int)))) : Option (Bool) :=
  ob (s_l4Deal n a1.1) fun (r2 : Bool) => ob (br (! r2) (some true) (ob (s_l1In n (a1.2.1.length : Int) 1 4) fun (r3 : Bool) => some (! r3))) fun (x4 : Bool) => ob (br x4 (some true) (some (!decide ((a1.2.2.length : Int) = (a1.2.1.length : Int))))) fun (x5 : Bool) => br x5 (some false) (fx (s_l8Game_L1 n) n (0, a1))

/-- s_l1Own -/
noncomputable def s_l1Own (n : Nat) (a1 : (List Int)) : Option ((List Int)) :=
  ckb (apok 8 (0 + a1.length)) (some a1)

/-- s_l8Own -/
noncomputable def s_l8Own (n : Nat) (a1 : ((Int × (Int × (List (V4 Int)))) × ((List Int) × (List Int)))) : Option (Int × Int × (List (V4 Int)) × (List Int) × (List Int)) :=
  ob (s_l2Own n a1.1.2.2) fun (r2 : (List (V4 Int))) => ob (s_l1Own n a1.2.1) fun (r3 : (List Int)) => ob (s_l1Own n a1.2.2) fun (r4 : (List Int)) => some (a1.1.1, a1.1.2.1, r2, r3, r4)

/-- s_l4Lines -/
noncomputable def s_l4Lines_L1 (n : Nat) (go5 : (List (V4 Int)) × Int × Int × (List (V3 Int)) → Option ((List (V3 Int)))) (go8 : (List (V4 Int)) × Int × Int × Int × (List (V3 Int)) → Option ((List (V3 Int)))) (s9 : (List (V4 Int)) × Int × Int × Int × (List (V3 Int))) : Option ((List (V3 Int))) :=
  br (decide (s9.2.2.2.1 < (s9.1.length : Int))) (ckb (inb s9.2.1 s9.1.length) (ckb (inb s9.2.2.1 s9.1.length) (ckb (inb s9.2.2.2.1 s9.1.length) (ob (s_l2Line n (gl (⟨0, 0, 0, 0⟩ : (V4 Int)) s9.1 s9.2.1.toNat) (gl (⟨0, 0, 0, 0⟩ : (V4 Int)) s9.1 s9.2.2.1.toNat) (gl (⟨0, 0, 0, 0⟩ : (V4 Int)) s9.1 s9.2.2.2.1.toNat)) fun (r10 : Bool) => br r10 (lt (⟨s9.2.1, s9.2.2.1, s9.2.2.2.1⟩ : (V3 Int)) fun (x11 : (V3 Int)) => ckb (apok 24 (s9.2.2.2.2.length + 1)) (lt (w64 (s9.2.2.2.1 + 1)) fun (x12 : Int) => go8 (s9.1, s9.2.1, s9.2.2.1, x12, (s9.2.2.2.2 ++ [x11])))) (lt (w64 (s9.2.2.2.1 + 1)) fun (x13 : Int) => go8 (s9.1, s9.2.1, s9.2.2.1, x13, s9.2.2.2.2)))))) (lt (w64 (s9.2.2.1 + 1)) fun (x14 : Int) => go5 (s9.1, s9.2.1, x14, s9.2.2.2.2))
noncomputable def s_l4Lines_L2 (n : Nat) (go2 : (List (V4 Int)) × Int × (List (V3 Int)) → Option ((List (V3 Int)))) (go5 : (List (V4 Int)) × Int × Int × (List (V3 Int)) → Option ((List (V3 Int)))) (s6 : (List (V4 Int)) × Int × Int × (List (V3 Int))) : Option ((List (V3 Int))) :=
  br (decide (s6.2.2.1 < (s6.1.length : Int))) (lt (w64 (s6.2.2.1 + 1)) fun (x7 : Int) => fx (s_l4Lines_L1 n go5) n (s6.1, s6.2.1, s6.2.2.1, x7, s6.2.2.2)) (lt (w64 (s6.2.1 + 1)) fun (x15 : Int) => go2 (s6.1, x15, s6.2.2.2))
noncomputable def s_l4Lines_L3 (n : Nat) (go2 : (List (V4 Int)) × Int × (List (V3 Int)) → Option ((List (V3 Int)))) (s3 : (List (V4 Int)) × Int × (List (V3 Int))) : Option ((List (V3 Int))) :=
  br (decide (s3.2.1 < (s3.1.length : Int))) (lt (w64 (s3.2.1 + 1)) fun (x4 : Int) => fx (s_l4Lines_L2 n go2) n (s3.1, s3.2.1, x4, s3.2.2)) (some s3.2.2)
noncomputable def s_l4Lines (n : Nat) (a1 : (List (V4 Int))) : Option ((List (V3 Int))) :=
  fx (s_l4Lines_L3 n) n (a1, 0, ([] : List (V3 Int)))

/-- s_l4Lay -/
noncomputable def s_l4Lay (n : Nat) (a1 : (Int × (Int × (List (V4 Int))))) (a2 : Int) : Option (Int × Int × (List (V4 Int))) :=
  ob (s_l4Pile n a1.1) fun (r3 : (List (V4 Int))) => lt (w64 (a1.2.1 + a2)) fun (x4 : Int) => ob (s_l1Least n 81 x4) fun (r5 : Int) => ob (s_l2Own n a1.2.2) fun (r6 : (List (V4 Int))) => ckb (slb a1.2.1 r5 r3.length) (ckb (apok 32 (r6.length + (sub r3 a1.2.1.toNat (a1.2.1.toNat + (w64 (r5 - a1.2.1)).toNat)).length)) (some (a1.1, r5, (r6 ++ (sub r3 a1.2.1.toNat (a1.2.1.toNat + (w64 (r5 - a1.2.1)).toNat))))))

/-- s_l4Line -/
noncomputable def s_l4Line_L1 (n : Nat) (go3 : Int × (Int × (Int × (List (V4 Int)))) × (V3 Int) → Option (Bool)) (s4 : Int × (Int × (Int × (List (V4 Int)))) × (V3 Int)) : Option (Bool) :=
  br (decide (s4.1 < 3)) (ckb (inb s4.1 3) (lt (w64 ((s4.2.1.2.2.length : Int) - 1)) fun (x5 : Int) => ob (s_l1In n (V3.get s4.2.2 s4.1.toNat) 0 x5) fun (r6 : Bool) => ob (br (! r6) (some true) (ob (br (decide (0 < s4.1)) (lt (w64 (s4.1 - 1)) fun (x7 : Int) => ckb (inb x7 3) (ckb (inb s4.1 3) (some (decide ((V3.get s4.2.2 s4.1.toNat) ≤ (V3.get s4.2.2 x7.toNat)))))) (some false)) fun (x8 : Bool) => some x8)) fun (x9 : Bool) => br x9 (some false) (lt (w64 (s4.1 + 1)) fun (x10 : Int) => go3 (x10, s4.2.1, s4.2.2)))) (ckb (inb s4.2.2.x0 s4.2.1.2.2.length) (ckb (inb s4.2.2.x1 s4.2.1.2.2.length) (ckb (inb s4.2.2.x2 s4.2.1.2.2.length) (ob (s_l2Line n (gl (⟨0, 0, 0, 0⟩ : (V4 Int)) s4.2.1.2.2 s4.2.2.x0.toNat) (gl (⟨0, 0, 0, 0⟩ : (V4 Int)) s4.2.1.2.2 s4.2.2.x1.toNat) (gl (⟨0, 0, 0, 0⟩ : (V4 Int)) s4.2.1.2.2 s4.2.2.x2.toNat)) fun (r11 : Bool) => some r11))))
noncomputable def s_l4Line (n : Nat) (a1 : (Int × (Int × (List (V4 Int))))) (a2 : (V3 Int)) : Option (Bool) :=
  fx (s_l4Line_L1 n) n (0, a1, a2)

/-- s_l8Kind -/
noncomputable def s_l8Kind_L1 (n : Nat) (go6 : Int × ((Int × (Int × (List (V4 Int)))) × ((List Int) × (List Int))) × (Int × (V3 Int)) → Option (Int)) (s7 : Int × ((Int × (Int × (List (V4 Int)))) × ((List Int) × (List Int))) × (Int × (V3 Int))) : Option (Int) :=
  br (decide (s7.1 < 3)) (ckb (inb s7.1 3) (lt (w64 ((s7.2.1.1.2.2.length : Int) - 1)) fun (x8 : Int) => ob (s_l1In n (V3.get s7.2.2.2 s7.1.toNat) 0 x8) fun (r9 : Bool) => ob (br (! r9) (some true) (ob (br (decide (0 < s7.1)) (lt (w64 (s7.1 - 1)) fun (x10 : Int) => ckb (inb x10 3) (ckb (inb s7.1 3) (some (decide ((V3.get s7.2.2.2 s7.1.toNat) ≤ (V3.get s7.2.2.2 x10.toNat)))))) (some false)) fun (x11 : Bool) => some x11)) fun (x12 : Bool) => br x12 (some 3) (lt (w64 (s7.1 + 1)) fun (x13 : Int) => go6 (x13, s7.2.1, s7.2.2)))) (some 2)
noncomputable def s_l8Kind (n : Nat) (a1 : ((Int × (Int × (List (V4 Int)))) × ((List Int) × (List Int)))) (a2 : (Int × (V3 Int))) : Option (Int) :=
  lt (w64 ((a1.2.1.length : Int) - 1)) fun (x3 : Int) => ob (s_l1In n a2.1 0 x3) fun (r4 : Bool) => br (! r4) (some 3) (ob (s_l4Line n a1.1 a2.2) fun (r5 : Bool) => br r5 (some 1) (fx (s_l8Kind_L1 n) n (0, a1, a2)))

/-- s_l4Take -/
noncomputable def s_l4Take_L1 (n : Nat) (go3 : Int × (Int × (Int × (List (V4 Int)))) × (V3 Int) × Int × Int × Int × Int × (List (V4 Int)) → Option (Int × Int × (List (V4 Int)))) (s4 : Int × (Int × (Int × (List (V4 Int)))) × (V3 Int) × Int × Int × Int × Int × (List (V4 Int))) : Option (Int × Int × (List (V4 Int))) :=
  br (decide (s4.1 < (s4.2.1.2.2.length : Int))) (ob (br (!decide (s4.1 = s4.2.2.1.x0)) (some (!decide (s4.1 = s4.2.2.1.x1))) (some false)) fun (x5 : Bool) => ob (br x5 (some (!decide (s4.1 = s4.2.2.1.x2))) (some false)) fun (x6 : Bool) => br x6 (ckb (inb s4.1 s4.2.1.2.2.length) (ckb (apok 32 (s4.2.2.2.2.2.2.2.length + 1)) (lt (w64 (s4.1 + 1)) fun (x7 : Int) => go3 (x7, s4.2.1, s4.2.2.1, s4.2.2.2.1, s4.2.2.2.2.1, s4.2.2.2.2.2.1, s4.2.2.2.2.2.2.1, (s4.2.2.2.2.2.2.2 ++ [(gl (⟨0, 0, 0, 0⟩ : (V4 Int)) s4.2.1.2.2 s4.1.toNat)]))))) (lt (w64 (s4.1 + 1)) fun (x8 : Int) => go3 (x8, s4.2.1, s4.2.2.1, s4.2.2.2.1, s4.2.2.2.2.1, s4.2.2.2.2.2.1, s4.2.2.2.2.2.2.1, s4.2.2.2.2.2.2.2))) (lt (w64 (12 - (s4.2.2.2.2.2.2.2.length : Int))) fun (x9 : Int) => ob (s_l1Most n 0 x9) fun (r10 : Int) => ob (s_l4Lay n (s4.2.2.2.2.2.1, (s4.2.2.2.2.2.2.1, s4.2.2.2.2.2.2.2)) r10) fun (r11 : Int × Int × (List (V4 Int))) => some (r11.1, r11.2.1, r11.2.2))
noncomputable def s_l4Take (n : Nat) (a1 : (Int × (Int × (List (V4 Int))))) (a2 : (V3 Int)) : Option (Int × Int × (List (V4 Int))) :=
  fx (s_l4Take_L1 n) n (0, a1, a2, 0, 0, a1.1, a1.2.1, ([] : List (V4 Int)))

/-- s_l8Made -/
noncomputable def s_l8Made_L1 (n : Nat) (go4 : (Int × (V3 Int)) × Int × Int × Int × Int × (List (V4 Int)) × (List Int) × (List Int) → Option (Int × Int × Int × (List (V4 Int)) × (List Int) × (List Int))) (s5 : (Int × (V3 Int)) × Int × Int × Int × Int × (List (V4 Int)) × (List Int) × (List Int)) : Option (Int × Int × Int × (List (V4 Int)) × (List Int) × (List Int)) :=
  ob (s_l4Lines n s5.2.2.2.2.2.1) fun (r6 : (List (V3 Int))) => ob (br (decide ((r6.length : Int) = 0)) (some (decide (s5.2.2.2.2.1 < 81))) (some false)) fun (x7 : Bool) => br x7 (ob (s_l4Lay n (s5.2.2.2.1, (s5.2.2.2.2.1, s5.2.2.2.2.2.1)) 3) fun (r8 : Int × Int × (List (V4 Int))) => go4 (s5.1, s5.2.1, s5.2.2.1, r8.1, r8.2.1, r8.2.2, s5.2.2.2.2.2.2.1, s5.2.2.2.2.2.2.2)) (ob (s_l8Kind n ((s5.2.2.2.1, (s5.2.2.2.2.1, s5.2.2.2.2.2.1)), (s5.2.2.2.2.2.2.1, s5.2.2.2.2.2.2.2)) s5.1) fun (r9 : Int) => br (decide (r9 = 1)) (ob (s_l4Take n (s5.2.2.2.1, (s5.2.2.2.2.1, s5.2.2.2.2.2.1)) s5.1.2) fun (r10 : Int × Int × (List (V4 Int))) => ckb (inb s5.1.1 s5.2.2.2.2.2.2.1.length) (lt (w64 ((gl 0 s5.2.2.2.2.2.2.1 s5.1.1.toNat) + 1)) fun (x11 : Int) => ob (s_l1Least n x11 60) fun (r12 : Int) => ckb (inb s5.1.1 s5.2.2.2.2.2.2.1.length) (lt (List.set s5.2.2.2.2.2.2.1 s5.1.1.toNat r12) fun (x13 : (List Int)) => some (r10.1, r10.2.1, r9, r10.2.2, x13, s5.2.2.2.2.2.2.2)))) (br (decide (r9 = 2)) (ckb (inb s5.1.1 s5.2.2.2.2.2.2.2.length) (lt (w64 ((gl 0 s5.2.2.2.2.2.2.2 s5.1.1.toNat) + 1)) fun (x14 : Int) => ob (s_l1Least n x14 60) fun (r15 : Int) => ckb (inb s5.1.1 s5.2.2.2.2.2.2.2.length) (lt (List.set s5.2.2.2.2.2.2.2 s5.1.1.toNat r15) fun (x16 : (List Int)) => some (s5.2.2.2.1, s5.2.2.2.2.1, r9, s5.2.2.2.2.2.1, s5.2.2.2.2.2.2.1, x16)))) (some (s5.2.2.2.1, s5.2.2.2.2.1, r9, s5.2.2.2.2.2.1, s5.2.2.2.2.2.2.1, s5.2.2.2.2.2.2.2))))
noncomputable def s_l8Made (n : Nat) (a1 : ((Int × (Int × (List (V4 Int)))) × ((List Int) × (List Int)))) (a2 : (Int × (V3 Int))) : Option (Int × Int × Int × (List (V4 Int)) × (List Int) × (List Int)) :=
  ob (s_l8Own n a1) fun (r3 : Int × Int × (List (V4 Int)) × (List Int) × (List Int)) => fx (s_l8Made_L1 n) n (a2, 0, 0, r3.1, r3.2.1, r3.2.2.1, r3.2.2.2.1, r3.2.2.2.2)

/-- s_FirstRight -/
noncomputable def s_FirstRight_L1 (n : Nat) (go5 : (List (Int × (V3 Int))) × Int × ((Int × (Int × (List (V4 Int)))) × ((List Int) × (List Int))) → Option (Int × Bool)) (s6 : (List (Int × (V3 Int))) × Int × ((Int × (Int × (List (V4 Int)))) × ((List Int) × (List Int)))) : Option (Int × Bool) :=
  br (decide (s6.2.1 < (s6.1.length : Int))) (ckb (inb s6.2.1 s6.1.length) (ob (s_l8Made n s6.2.2 (gl (0, (⟨0, 0, 0⟩ : (V3 Int))) s6.1 s6.2.1.toNat)) fun (r7 : Int × Int × Int × (List (V4 Int)) × (List Int) × (List Int)) => br (decide (r7.2.2.1 = 1)) (some (s6.2.1, true)) (lt (w64 (s6.2.1 + 1)) fun (x8 : Int) => go5 (s6.1, x8, ((r7.1, (r7.2.1, r7.2.2.2.1)), (r7.2.2.2.2.1, r7.2.2.2.2.2)))))) (some (0, false))
noncomputable def s_FirstRight (n : Nat) (a1 : ((Int × (Int × (List (V4 Int)))) × ((List Int) × (List Int)))) (a2 : (List (Int × (V3 Int)))) : Option (Int × Bool) :=
  ob (s_l8Game n a1) fun (r3 : Bool) => ob (br (! r3) (some true) (some (decide (60 < (a2.length : Int))))) fun (x4 : Bool) => br x4 (some (0, false)) (fx (s_FirstRight_L1 n) n (a2, 0, a1))

/-- i_isSeed -/
noncomputable def i_isSeed (n : Nat) (a1 : Int) : Option (Bool) :=
  ob (i_within n a1 0 65535) fun (r2 : Bool) => some r2

/-- i_behind -/
noncomputable def i_behind (n : Nat) (a1 : Int) : Option (Int) :=
  lt (w64 (25173 * a1)) fun (x2 : Int) => lt (w64 (x2 + 13849)) fun (x3 : Int) => lt (Int.tmod x3 65536) fun (x4 : Int) => some x4

/-- i_pile -/
noncomputable def i_pile_L1 (n : Nat) (go6 : Int × Int × (List (V4 Int)) → Option ((List (V4 Int)))) (s7 : Int × Int × (List (V4 Int))) : Option ((List (V4 Int))) :=
  br (decide (1 ≤ s7.2.1)) (ob (i_behind n s7.1) fun (r8 : Int) => lt (w64 (Int.tdiv r8 8)) fun (x9 : Int) => lt (w64 (s7.2.1 + 1)) fun (x10 : Int) => ckb (!decide (x10 = 0)) (lt (Int.tmod x9 x10) fun (x11 : Int) => ckb (inb x11 s7.2.2.length) (ckb (inb s7.2.1 s7.2.2.length) (ckb (inb s7.2.1 s7.2.2.length) (lt (List.set s7.2.2 s7.2.1.toNat (gl (⟨0, 0, 0, 0⟩ : (V4 Int)) s7.2.2 x11.toNat)) fun (x12 : (List (V4 Int))) => ckb (inb x11 x12.length) (lt (List.set x12 x11.toNat (gl (⟨0, 0, 0, 0⟩ : (V4 Int)) s7.2.2 s7.2.1.toNat)) fun (x13 : (List (V4 Int))) => lt (w64 (s7.2.1 - 1)) fun (x14 : Int) => go6 (r8, x14, x13))))))) (some s7.2.2)
noncomputable def i_pile_L2 (n : Nat) (go2 : Int × Int × (List (V4 Int)) → Option ((List (V4 Int)))) (s3 : Int × Int × (List (V4 Int))) : Option ((List (V4 Int))) :=
  br (decide (s3.2.1 < 81)) (ob (i_card n s3.2.1) fun (r4 : (V4 Int)) => ckb (apok 32 (s3.2.2.length + 1)) (lt (w64 (s3.2.1 + 1)) fun (x5 : Int) => go2 (s3.1, x5, (s3.2.2 ++ [r4])))) (fx (i_pile_L1 n) n (s3.1, 80, s3.2.2))
noncomputable def i_pile (n : Nat) (a1 : Int) : Option ((List (V4 Int))) :=
  fx (i_pile_L2 n) n (a1, 0, ([] : List (V4 Int)))

/-- i_IsDeal -/
noncomputable def i_IsDeal_L1 (n : Nat) (go7 : Int × Int × (List (V4 Int)) × Int × Int × (Int × (Int × (List (V4 Int)))) × (List (V4 Int)) → Option (Bool)) (s8 : Int × Int × (List (V4 Int)) × Int × Int × (Int × (Int × (List (V4 Int)))) × (List (V4 Int))) : Option (Bool) :=
  br (decide (s8.2.2.2.2.1 < s8.2.2.2.1)) (ckb (inb s8.2.2.2.2.1 s8.2.2.1.length) (ob (i_has n (sub s8.2.2.2.2.2.2 s8.1.toNat (s8.1.toNat + s8.2.1.toNat)) (gl (⟨0, 0, 0, 0⟩ : (V4 Int)) s8.2.2.1 s8.2.2.2.2.1.toNat)) fun (r9 : Bool) => ob (br (! r9) (some true) (ckb (slb 0 s8.2.2.2.2.1 s8.2.2.2.2.2.1.2.2.length) (ob (i_has n (sub s8.2.2.2.2.2.1.2.2 0 s8.2.2.2.2.1.toNat) (gl (⟨0, 0, 0, 0⟩ : (V4 Int)) s8.2.2.1 s8.2.2.2.2.1.toNat)) fun (r10 : Bool) => some r10))) fun (x11 : Bool) => br x11 (some false) (lt (w64 (s8.2.2.2.2.1 + 1)) fun (x12 : Int) => go7 ((s8.1.toNat : Int), (s8.2.1.toNat : Int), s8.2.2.1, s8.2.2.2.1, x12, s8.2.2.2.2.2.1, s8.2.2.2.2.2.2)))) (some true)
noncomputable def i_IsDeal (n : Nat) (a1 : (Int × (Int × (List (V4 Int))))) : Option (Bool) :=
  ob (i_isSeed n a1.1) fun (r2 : Bool) => ob (br (! r2) (some true) (ob (i_within n a1.2.1 0 81) fun (r3 : Bool) => some (! r3))) fun (x4 : Bool) => ob (br x4 (some true) (some (decide (a1.2.1 < (a1.2.2.length : Int))))) fun (x5 : Bool) => br x5 (some false) (ob (i_pile n a1.1) fun (r6 : (List (V4 Int))) => ckb (slb 0 a1.2.1 r6.length) (fx (i_IsDeal_L1 n) n (0, ((w64 (a1.2.1 - 0)).toNat : Int), a1.2.2, (a1.2.2.length : Int), 0, a1, r6)))

/-- i_IsGame -/
noncomputable def i_IsGame (n : Nat) (a1 : ((Int × (Int × (List (V4 Int)))) × ((List Int) × (List Int)))) : Option (Bool) :=
  ob (i_within n (a1.2.1.length : Int) 1 4) fun (r2 : Bool) => ob (br r2 (some (decide ((a1.2.2.length : Int) = (a1.2.1.length : Int)))) (some false)) fun (x3 : Bool) => ob (br x3 (ob (i_allWithin n a1.2.1 0 60) fun (r4 : Bool) => some r4) (some false)) fun (x5 : Bool) => ob (br x5 (ob (i_allWithin n a1.2.2 0 60) fun (r6 : Bool) => some r6) (some false)) fun (x7 : Bool) => ob (br x7 (ob (i_IsDeal n a1.1) fun (r8 : Bool) => some r8) (some false)) fun (x9 : Bool) => some x9

/-- i_areClaims -/
noncomputable def i_areClaims (n : Nat) (a1 : ((Int × (Int × (List (V4 Int)))) × ((List Int) × (List Int)))) (a2 : (List (Int × (V3 Int)))) : Option (Bool) :=
  ob (i_IsGame n a1) fun (r3 : Bool) => ob (br r3 (some (decide ((a2.length : Int) ≤ 60))) (some false)) fun (x4 : Bool) => some x4

/-- slices_Clone_Sint_int_ -/
noncomputable def slices_Clone_Sint_int_ (n : Nat) (a1 : (List Int)) : Option ((List Int)) :=
  amb a1.isEmpty fun (b2 : Bool) => br b2 (some ([] : List Int)) (ckb (apok 8 (0 + a1.length)) (some a1))

/-- _impl_Game__own -/
noncomputable def _impl_Game__own (n : Nat) (a1 : ((Int × (Int × (List (V4 Int)))) × ((List Int) × (List Int)))) : Option (Int × Int × (List (V4 Int)) × (List Int) × (List Int)) :=
  ob (slices_Clone_SA4_A4_ n a1.1.2.2) fun (r2 : (List (V4 Int))) => ob (slices_Clone_Sint_int_ n a1.2.1) fun (r3 : (List Int)) => ob (slices_Clone_Sint_int_ n a1.2.2) fun (r4 : (List Int)) => some (a1.1.1, a1.1.2.1, r2, r3, r4)

/-- _impl_Deal__isStuck -/
noncomputable def _impl_Deal__isStuck (n : Nat) (a1 : (Int × (Int × (List (V4 Int))))) : Option (Bool) :=
  ob (i_linesIn n a1.2.2) fun (r2 : (List (V3 Int))) => some (decide ((r2.length : Int) = 0))

/-- _impl_Deal__isOver -/
noncomputable def _impl_Deal__isOver (n : Nat) (a1 : (Int × (Int × (List (V4 Int))))) : Option (Bool) :=
  ob (_impl_Deal__isStuck n a1) fun (r2 : Bool) => ob (br r2 (some (decide (a1.2.1 = 81))) (some false)) fun (x3 : Bool) => some x3

/-- slices_Grow_SA4_A4_ -/
noncomputable def slices_Grow_SA4_A4_ (n : Nat) (a1 : Int) : Option ((List (V4 Int))) :=
  br (decide (a1 < 0)) (none) (lt (w64 (0 - 0)) fun (x2 : Int) => lt (w64 (a1 - x2)) fun (x3 : Int) => br (decide (0 < x3)) (ckb (cand (nneg x3) (apok 32 (List.replicate x3.toNat (⟨0, 0, 0, 0⟩ : (V4 Int))).length)) (ckb (slb 0 0 (List.replicate x3.toNat (⟨0, 0, 0, 0⟩ : (V4 Int))).length) (some (sub (List.replicate x3.toNat (⟨0, 0, 0, 0⟩ : (V4 Int))) 0 (w64 (0 - 0)).toNat)))) (some ([] : List (V4 Int))))

/-- slices_Concat_SA4_A4_ -/
noncomputable def slices_Concat_SA4_A4__L1 (n : Nat) (go7 : (List (List (V4 Int))) × Int × Int × (List (V4 Int)) → Option ((List (V4 Int)))) (s8 : (List (List (V4 Int))) × Int × Int × (List (V4 Int))) : Option ((List (V4 Int))) :=
  br (decide (s8.2.2.1 < s8.2.1)) (ckb (inb s8.2.2.1 s8.1.length) (ckb (apok 32 (s8.2.2.2.length + (gl ([] : List (V4 Int)) s8.1 s8.2.2.1.toNat).length)) (lt (w64 (s8.2.2.1 + 1)) fun (x9 : Int) => go7 (s8.1, s8.2.1, x9, (s8.2.2.2 ++ (gl ([] : List (V4 Int)) s8.1 s8.2.2.1.toNat)))))) (some s8.2.2.2)
noncomputable def slices_Concat_SA4_A4__L2 (n : Nat) (go2 : (List (List (V4 Int))) × Int × (List (List (V4 Int))) × Int × Int → Option ((List (V4 Int)))) (s3 : (List (List (V4 Int))) × Int × (List (List (V4 Int))) × Int × Int) : Option ((List (V4 Int))) :=
  br (decide (s3.2.2.2.2 < s3.2.2.2.1)) (ckb (inb s3.2.2.2.2 s3.2.2.1.length) (lt (w64 (s3.2.1 + ((gl ([] : List (V4 Int)) s3.2.2.1 s3.2.2.2.2.toNat).length : Int))) fun (x4 : Int) => br (decide (x4 < 0)) (none) (lt (w64 (s3.2.2.2.2 + 1)) fun (x5 : Int) => go2 (s3.1, x4, s3.2.2.1, s3.2.2.2.1, x5)))) (ob (slices_Grow_SA4_A4_ n s3.2.1) fun (r6 : (List (V4 Int))) => fx (slices_Concat_SA4_A4__L1 n) n (s3.1, (s3.1.length : Int), 0, r6))
noncomputable def slices_Concat_SA4_A4_ (n : Nat) (a1 : (List (List (V4 Int)))) : Option ((List (V4 Int))) :=
  fx (slices_Concat_SA4_A4__L2 n) n (a1, 0, a1, (a1.length : Int), 0)

/-- _impl_Deal__lay -/
noncomputable def _impl_Deal__lay (n : Nat) (a1 : (Int × (Int × (List (V4 Int))))) (a2 : Int) : Option (Int × Int × (List (V4 Int))) :=
  lt (w64 (81 - a1.2.1)) fun (x3 : Int) => ob (i_pile n a1.1) fun (r4 : (List (V4 Int))) => lt (w64 (a1.2.1 + (mnI a2 x3))) fun (x5 : Int) => ckb (slb a1.2.1 x5 r4.length) (ob (slices_Concat_SA4_A4_ n [a1.2.2, (sub r4 a1.2.1.toNat (a1.2.1.toNat + (w64 (x5 - a1.2.1)).toNat))]) fun (r6 : (List (V4 Int))) => lt (w64 (a1.2.1 + (mnI a2 x3))) fun (x7 : Int) => some (a1.1, x7, r6))

/-- _impl_Game__isPlayer -/
noncomputable def _impl_Game__isPlayer (n : Nat) (a1 : ((Int × (Int × (List (V4 Int)))) × ((List Int) × (List Int)))) (a2 : Int) : Option (Bool) :=
  lt (w64 ((a1.2.1.length : Int) - 1)) fun (x3 : Int) => ob (i_within n a2 0 x3) fun (r4 : Bool) => some r4

/-- _impl_Game__kind -/
noncomputable def _impl_Game__kind (n : Nat) (a1 : ((Int × (Int × (List (V4 Int)))) × ((List Int) × (List Int)))) (a2 : (Int × (V3 Int))) : Option (Int) :=
  ob (_impl_Game__isPlayer n a1 a2.1) fun (r3 : Bool) => ob (br (! r3) (some true) (some (decide (a2.2.x0 < 0)))) fun (x4 : Bool) => ob (br x4 (some true) (some (decide (a2.2.x1 ≤ a2.2.x0)))) fun (x5 : Bool) => ob (br x5 (some true) (some (decide (a2.2.x2 ≤ a2.2.x1)))) fun (x6 : Bool) => ob (br x6 (some true) (some (decide ((a1.1.2.2.length : Int) ≤ a2.2.x2)))) fun (x7 : Bool) => br x7 (some 3) (ckb (inb a2.2.x0 a1.1.2.2.length) (ckb (inb a2.2.x1 a1.1.2.2.length) (ckb (inb a2.2.x2 a1.1.2.2.length) (ob (i_isLine n (gl (⟨0, 0, 0, 0⟩ : (V4 Int)) a1.1.2.2 a2.2.x0.toNat) (gl (⟨0, 0, 0, 0⟩ : (V4 Int)) a1.1.2.2 a2.2.x1.toNat) (gl (⟨0, 0, 0, 0⟩ : (V4 Int)) a1.1.2.2 a2.2.x2.toNat)) fun (r8 : Bool) => br r8 (some 1) (some 2)))))

/-- slices_Index_Sint_int_ -/
noncomputable def slices_Index_Sint_int__L1 (n : Nat) (go3 : (List Int) × Int × Int × Int → Option (Int)) (s4 : (List Int) × Int × Int × Int) : Option (Int) :=
  br (decide (s4.2.2.2 < s4.2.2.1)) (ckb (inb s4.2.2.2 s4.1.length) (br (decide (s4.2.1 = (gl 0 s4.1 s4.2.2.2.toNat))) (some s4.2.2.2) (lt (w64 (s4.2.2.2 + 1)) fun (x5 : Int) => go3 (s4.1, s4.2.1, s4.2.2.1, x5)))) (some (-1))
noncomputable def slices_Index_Sint_int_ (n : Nat) (a1 : (List Int)) (a2 : Int) : Option (Int) :=
  fx (slices_Index_Sint_int__L1 n) n (a1, a2, (a1.length : Int), 0)

/-- slices_Contains_Sint_int_ -/
noncomputable def slices_Contains_Sint_int_ (n : Nat) (a1 : (List Int)) (a2 : Int) : Option (Bool) :=
  ob (slices_Index_Sint_int_ n a1 a2) fun (r3 : Int) => some (decide (0 ≤ r3))

/-- _impl_Deal__take -/
noncomputable def _impl_Deal__take_L1 (n : Nat) (go3 : (List (V4 Int)) × Int × Int × (Int × (Int × (List (V4 Int)))) × (V3 Int) × Int × Int × (List (V4 Int)) → Option (Int × Int × (List (V4 Int)))) (s4 : (List (V4 Int)) × Int × Int × (Int × (Int × (List (V4 Int)))) × (V3 Int) × Int × Int × (List (V4 Int))) : Option (Int × Int × (List (V4 Int))) :=
  br (decide (s4.2.2.1 < s4.2.1)) (ckb (inb s4.2.2.1 s4.1.length) (ob (slices_Contains_Sint_int_ n (V3.els s4.2.2.2.2.1) s4.2.2.1) fun (r5 : Bool) => br (! r5) (ckb (apok 32 (s4.2.2.2.2.2.2.2.length + 1)) (lt (w64 (s4.2.2.1 + 1)) fun (x6 : Int) => go3 (s4.1, s4.2.1, x6, s4.2.2.2.1, s4.2.2.2.2.1, s4.2.2.2.2.2.1, s4.2.2.2.2.2.2.1, (s4.2.2.2.2.2.2.2 ++ [(gl (⟨0, 0, 0, 0⟩ : (V4 Int)) s4.1 s4.2.2.1.toNat)])))) (lt (w64 (s4.2.2.1 + 1)) fun (x7 : Int) => go3 (s4.1, s4.2.1, x7, s4.2.2.2.1, s4.2.2.2.2.1, s4.2.2.2.2.2.1, s4.2.2.2.2.2.2.1, s4.2.2.2.2.2.2.2)))) (lt (w64 (12 - (s4.2.2.2.2.2.2.2.length : Int))) fun (x8 : Int) => ob (_impl_Deal__lay n (s4.2.2.2.1.1, (s4.2.2.2.1.2.1, s4.2.2.2.2.2.2.2)) (mxI 0 x8)) fun (r9 : Int × Int × (List (V4 Int))) => some (r9.1, r9.2.1, r9.2.2))
noncomputable def _impl_Deal__take (n : Nat) (a1 : (Int × (Int × (List (V4 Int))))) (a2 : (V3 Int)) : Option (Int × Int × (List (V4 Int))) :=
  fx (_impl_Deal__take_L1 n) n (a1.2.2, (a1.2.2.length : Int), 0, a1, a2, 0, 0, ([] : List (V4 Int)))

/-- __impl_Game__make'p_ooo -/
noncomputable def __impl_Game__make'p_ooo_L1 (n : Nat) (go7 : Int × Int × (List Int) × (List Int) × (Int × (V3 Int)) × (List (V4 Int)) → Option (Int × Int × Int × (List Int) × (List Int) × (List (V4 Int)))) (s8 : Int × Int × (List Int) × (List Int) × (Int × (V3 Int)) × (List (V4 Int))) : Option (Int × Int × Int × (List Int) × (List Int) × (List (V4 Int))) :=
  ob (_impl_Deal__isStuck n (s8.1, (s8.2.1, s8.2.2.2.2.2))) fun (r9 : Bool) => ob (br r9 (ob (_impl_Deal__isOver n (s8.1, (s8.2.1, s8.2.2.2.2.2))) fun (r10 : Bool) => some (! r10)) (some false)) fun (x11 : Bool) => br x11 (ob (_impl_Deal__lay n (s8.1, (s8.2.1, s8.2.2.2.2.2)) 3) fun (r12 : Int × Int × (List (V4 Int))) => go7 (r12.1, r12.2.1, s8.2.2.1, s8.2.2.2.1, s8.2.2.2.2.1, r12.2.2)) (ob (_impl_Game__kind n ((s8.1, (s8.2.1, s8.2.2.2.2.2)), (s8.2.2.1, s8.2.2.2.1)) s8.2.2.2.2.1) fun (r13 : Int) => br (decide (r13 = 1)) (ob (_impl_Deal__take n (s8.1, (s8.2.1, s8.2.2.2.2.2)) s8.2.2.2.2.1.2) fun (r14 : Int × Int × (List (V4 Int))) => ckb (inb s8.2.2.2.2.1.1 s8.2.2.1.length) (lt (w64 ((gl 0 s8.2.2.1 s8.2.2.2.2.1.1.toNat) + 1)) fun (x15 : Int) => ckb (inb s8.2.2.2.2.1.1 s8.2.2.1.length) (lt (List.set s8.2.2.1 s8.2.2.2.2.1.1.toNat (mnI 60 x15)) fun (x16 : (List Int)) => some (r13, r14.1, r14.2.1, x16, s8.2.2.2.1, r14.2.2)))) (br (decide (r13 = 2)) (ckb (inb s8.2.2.2.2.1.1 s8.2.2.2.1.length) (lt (w64 ((gl 0 s8.2.2.2.1 s8.2.2.2.2.1.1.toNat) + 1)) fun (x17 : Int) => ckb (inb s8.2.2.2.2.1.1 s8.2.2.2.1.length) (lt (List.set s8.2.2.2.1 s8.2.2.2.2.1.1.toNat (mnI 60 x17)) fun (x18 : (List Int)) => some (r13, s8.1, s8.2.1, s8.2.2.1, x18, s8.2.2.2.2.2)))) (some (r13, s8.1, s8.2.1, s8.2.2.1, s8.2.2.2.1, s8.2.2.2.2.2))))
noncomputable def __impl_Game__make'p_ooo (n : Nat) (a1 : (Int × (V3 Int))) (a2 : Int) (a3 : Int) (a4 : (List (V4 Int))) (a5 : (List Int)) (a6 : (List Int)) : Option (Int × Int × Int × (List Int) × (List Int) × (List (V4 Int))) :=
  fx (__impl_Game__make'p_ooo_L1 n) n (a2, a3, a5, a6, a1, a4)

/-- __impl_Game__run'pl_ooo -/
noncomputable def __impl_Game__run'pl_ooo_L1 (n : Nat) (go7 : (List (Int × (V3 Int))) × Int × Int × Int × Int × (List Int) × (List Int) × (List Int) × (List (V4 Int)) → Option (Int × Int × (List Int) × (List Int) × (List Int) × (List (V4 Int)))) (s8 : (List (Int × (V3 Int))) × Int × Int × Int × Int × (List Int) × (List Int) × (List Int) × (List (V4 Int))) : Option (Int × Int × (List Int) × (List Int) × (List Int) × (List (V4 Int))) :=
  br (decide (s8.2.2.1 < s8.2.1)) (ckb (inb s8.2.2.1 s8.1.length) (ob (__impl_Game__make'p_ooo n (gl (0, (⟨0, 0, 0⟩ : (V3 Int))) s8.1 s8.2.2.1.toNat) s8.2.2.2.1 s8.2.2.2.2.1 s8.2.2.2.2.2.2.2.2 s8.2.2.2.2.2.1 s8.2.2.2.2.2.2.1) fun (r9 : Int × Int × Int × (List Int) × (List Int) × (List (V4 Int))) => ckb (apok 8 (s8.2.2.2.2.2.2.2.1.length + 1)) (lt (w64 (s8.2.2.1 + 1)) fun (x10 : Int) => go7 (s8.1, s8.2.1, x10, r9.2.1, r9.2.2.1, r9.2.2.2.1, r9.2.2.2.2.1, (s8.2.2.2.2.2.2.2.1 ++ [r9.1]), r9.2.2.2.2.2)))) (some (s8.2.2.2.1, s8.2.2.2.2.1, s8.2.2.2.2.2.1, s8.2.2.2.2.2.2.1, s8.2.2.2.2.2.2.2.1, s8.2.2.2.2.2.2.2.2))
noncomputable def __impl_Game__run'pl_ooo (n : Nat) (a1 : (List (Int × (V3 Int)))) (a2 : Int) (a3 : Int) (a4 : (List (V4 Int))) (a5 : (List Int)) (a6 : (List Int)) : Option (Int × Int × (List Int) × (List Int) × (List Int) × (List (V4 Int))) :=
  fx (__impl_Game__run'pl_ooo_L1 n) n (a1, (a1.length : Int), 0, a2, a3, a5, a6, ([] : List Int), a4)

/-- i_FirstRight -/
noncomputable def i_FirstRight (n : Nat) (a1 : ((Int × (Int × (List (V4 Int)))) × ((List Int) × (List Int)))) (a2 : (List (Int × (V3 Int)))) : Option (Int × Bool) :=
  ob (i_areClaims n a1 a2) fun (r3 : Bool) => br (! r3) (some (0, false)) (ob (_impl_Game__own n a1) fun (r4 : Int × Int × (List (V4 Int)) × (List Int) × (List Int)) => ob (__impl_Game__run'pl_ooo n a2 r4.1 r4.2.1 r4.2.2.1 r4.2.2.2.1 r4.2.2.2.2) fun (r5 : Int × Int × (List Int) × (List Int) × (List Int) × (List (V4 Int))) => ob (slices_Index_Sint_int_ n r5.2.2.2.2.1 1) fun (r6 : Int) => some ((mxI 0 r6), (decide (0 ≤ r6))))

/-- v_eqIntS -/
noncomputable def v_eqIntS_L1 (n : Nat) (go3 : (List Int) × (List Int) × Int → Option (Bool)) (s4 : (List Int) × (List Int) × Int) : Option (Bool) :=
  br (decide (s4.2.2 < (s4.1.length : Int))) (ckb (inb s4.2.2 s4.1.length) (ckb (inb s4.2.2 s4.2.1.length) (br (!decide ((gl 0 s4.1 s4.2.2.toNat) = (gl 0 s4.2.1 s4.2.2.toNat))) (some false) (lt (w64 (s4.2.2 + 1)) fun (x5 : Int) => go3 (s4.1, s4.2.1, x5))))) (some true)
noncomputable def v_eqIntS (n : Nat) (a1 : (List Int)) (a2 : (List Int)) : Option (Bool) :=
  br (!decide ((a1.length : Int) = (a2.length : Int))) (some false) (fx (v_eqIntS_L1 n) n (a1, a2, 0))

/-- s_MakeClaim -/
noncomputable def s_MakeClaim (n : Nat) (a1 : ((Int × (Int × (List (V4 Int)))) × ((List Int) × (List Int)))) (a2 : (Int × (V3 Int))) : Option (Int × Int × Int × Bool × (List (V4 Int)) × (List Int) × (List Int)) :=
  ob (s_l8Game n a1) fun (r3 : Bool) => br (! r3) (some (0, 0, 0, false, ([] : List (V4 Int)), ([] : List Int), ([] : List Int))) (ob (s_l8Made n a1 a2) fun (r4 : Int × Int × Int × (List (V4 Int)) × (List Int) × (List Int)) => some (r4.1, r4.2.1, r4.2.2.1, true, r4.2.2.2.1, r4.2.2.2.2.1, r4.2.2.2.2.2))

/-- i_MakeClaim -/
noncomputable def i_MakeClaim (n : Nat) (a1 : ((Int × (Int × (List (V4 Int)))) × ((List Int) × (List Int)))) (a2 : (Int × (V3 Int))) : Option (Int × Int × Int × Bool × (List (V4 Int)) × (List Int) × (List Int)) :=
  ob (i_IsGame n a1) fun (r3 : Bool) => br (! r3) (some (0, 0, 0, false, ([] : List (V4 Int)), ([] : List Int), ([] : List Int))) (ob (_impl_Game__own n a1) fun (r4 : Int × Int × (List (V4 Int)) × (List Int) × (List Int)) => ob (__impl_Game__make'p_ooo n a2 r4.1 r4.2.1 r4.2.2.1 r4.2.2.2.1 r4.2.2.2.2) fun (r5 : Int × Int × Int × (List Int) × (List Int) × (List (V4 Int))) => some (r5.2.1, r5.2.2.1, r5.1, true, r5.2.2.2.2.2, r5.2.2.2.1, r5.2.2.2.2.1))

/-- v_vHands -/
noncomputable def v_vHands_L1 (n : Nat) (go3 : (List (V4 Int)) × (List (V4 Int)) × Int → Option (Bool)) (s4 : (List (V4 Int)) × (List (V4 Int)) × Int) : Option (Bool) :=
  br (decide (s4.2.2 < (s4.1.length : Int))) (ckb (inb s4.2.2 s4.1.length) (ckb (inb s4.2.2 s4.2.1.length) (br (!eqd (gl (⟨0, 0, 0, 0⟩ : (V4 Int)) s4.1 s4.2.2.toNat) (gl (⟨0, 0, 0, 0⟩ : (V4 Int)) s4.2.1 s4.2.2.toNat)) (some false) (lt (w64 (s4.2.2 + 1)) fun (x5 : Int) => go3 (s4.1, s4.2.1, x5))))) (some true)
noncomputable def v_vHands (n : Nat) (a1 : (List (V4 Int))) (a2 : (List (V4 Int))) : Option (Bool) :=
  br (!decide ((a1.length : Int) = (a2.length : Int))) (some false) (fx (v_vHands_L1 n) n (a1, a2, 0))

/-- v_rBig -/
noncomputable def v_rBig (n : Nat) (a1 : (List Int)) : Option (Bool) :=
  some (decide (65536 < (a1.length : Int)))

/-- s_RunClaims -/
noncomputable def s_RunClaims_L1 (n : Nat) (go7 : (List (Int × (V3 Int))) × Int × Int × Int × (V4 Int) × (V4 Int) × Int × Int × (List (V4 Int)) × (List Int) × (List Int) → Option (Int × Int × (V4 Int) × Bool × (List (V4 Int)) × (List Int) × (List Int))) (s8 : (List (Int × (V3 Int))) × Int × Int × Int × (V4 Int) × (V4 Int) × Int × Int × (List (V4 Int)) × (List Int) × (List Int)) : Option (Int × Int × (V4 Int) × Bool × (List (V4 Int)) × (List Int) × (List Int)) :=
  br (decide (s8.2.1 < (s8.1.length : Int))) (ckb (inb s8.2.1 s8.1.length) (ob (s_l8Made n ((s8.2.2.2.2.2.2.1, (s8.2.2.2.2.2.2.2.1, s8.2.2.2.2.2.2.2.2.1)), (s8.2.2.2.2.2.2.2.2.2.1, s8.2.2.2.2.2.2.2.2.2.2)) (gl (0, (⟨0, 0, 0⟩ : (V3 Int))) s8.1 s8.2.1.toNat)) fun (r9 : Int × Int × Int × (List (V4 Int)) × (List Int) × (List Int)) => ckb (inb r9.2.2.1 4) (lt (w64 ((V4.get s8.2.2.2.2.2.1 r9.2.2.1.toNat) + 1)) fun (x10 : Int) => ckb (inb r9.2.2.1 4) (lt (V4.set s8.2.2.2.2.2.1 r9.2.2.1.toNat x10) fun (x11 : (V4 Int)) => lt (w64 (s8.2.1 + 1)) fun (x12 : Int) => go7 (s8.1, x12, s8.2.2.1, s8.2.2.2.1, s8.2.2.2.2.1, x11, r9.1, r9.2.1, r9.2.2.2.1, r9.2.2.2.2.1, r9.2.2.2.2.2))))) (some (s8.2.2.2.2.2.2.1, s8.2.2.2.2.2.2.2.1, s8.2.2.2.2.2.1, true, s8.2.2.2.2.2.2.2.2.1, s8.2.2.2.2.2.2.2.2.2.1, s8.2.2.2.2.2.2.2.2.2.2))
noncomputable def s_RunClaims (n : Nat) (a1 : ((Int × (Int × (List (V4 Int)))) × ((List Int) × (List Int)))) (a2 : (List (Int × (V3 Int)))) : Option (Int × Int × (V4 Int) × Bool × (List (V4 Int)) × (List Int) × (List Int)) :=
  lt (⟨0, 0, 0, 0⟩ : (V4 Int)) fun (x3 : (V4 Int)) => ob (s_l8Game n a1) fun (r4 : Bool) => ob (br (! r4) (some true) (some (decide (60 < (a2.length : Int))))) fun (x5 : Bool) => br x5 (some (0, 0, x3, false, ([] : List (V4 Int)), ([] : List Int), ([] : List Int))) (ob (s_l8Own n a1) fun (r6 : Int × Int × (List (V4 Int)) × (List Int) × (List Int)) => fx (s_RunClaims_L1 n) n (a2, 0, 0, 0, (⟨0, 0, 0, 0⟩ : (V4 Int)), x3, r6.1, r6.2.1, r6.2.2.1, r6.2.2.2.1, r6.2.2.2.2))

/-- s_l8Points -/
noncomputable def s_l8Points_L1 (n : Nat) (go2 : Int × ((Int × (Int × (List (V4 Int)))) × ((List Int) × (List Int))) × (List Int) → Option ((List Int))) (s3 : Int × ((Int × (Int × (List (V4 Int)))) × ((List Int) × (List Int))) × (List Int)) : Option ((List Int)) :=
  br (decide (s3.1 < (s3.2.1.2.1.length : Int))) (ckb (inb s3.1 s3.2.1.2.1.length) (ckb (inb s3.1 s3.2.1.2.2.length) (lt (w64 (1 * (gl 0 s3.2.1.2.2 s3.1.toNat))) fun (x4 : Int) => lt (w64 ((gl 0 s3.2.1.2.1 s3.1.toNat) - x4)) fun (x5 : Int) => ckb (apok 8 (s3.2.2.length + 1)) (lt (w64 (s3.1 + 1)) fun (x6 : Int) => go2 (x6, s3.2.1, (s3.2.2 ++ [x5])))))) (some s3.2.2)
noncomputable def s_l8Points (n : Nat) (a1 : ((Int × (Int × (List (V4 Int)))) × ((List Int) × (List Int)))) : Option ((List Int)) :=
  fx (s_l8Points_L1 n) n (0, a1, ([] : List Int))

/-- s_WorthClaims -/
noncomputable def s_WorthClaims (n : Nat) (a1 : ((Int × (Int × (List (V4 Int)))) × ((List Int) × (List Int)))) (a2 : (List (Int × (V3 Int)))) (a3 : Int) : Option (Int × Bool) :=
  ob (s_RunClaims n a1 a2) fun (r4 : Int × Int × (V4 Int) × Bool × (List (V4 Int)) × (List Int) × (List Int)) => ob (br (! r4.2.2.2.1) (some true) (lt (w64 ((a1.2.1.length : Int) - 1)) fun (x5 : Int) => ob (s_l1In n a3 0 x5) fun (r6 : Bool) => some (! r6))) fun (x7 : Bool) => br x7 (some (0, false)) (ob (s_l8Points n ((r4.1, (r4.2.1, r4.2.2.2.2.1)), (r4.2.2.2.2.2.1, r4.2.2.2.2.2.2))) fun (r8 : (List Int)) => ckb (inb a3 r8.length) (ob (s_l8Points n a1) fun (r9 : (List Int)) => ckb (inb a3 r9.length) (lt (w64 ((gl 0 r8 a3.toNat) - (gl 0 r9 a3.toNat))) fun (x10 : Int) => some (x10, true))))

/-- _impl_Game__points -/
noncomputable def _impl_Game__points_L1 (n : Nat) (go2 : (List Int) × Int × Int × ((Int × (Int × (List (V4 Int)))) × ((List Int) × (List Int))) × (List Int) → Option ((List Int))) (s3 : (List Int) × Int × Int × ((Int × (Int × (List (V4 Int)))) × ((List Int) × (List Int))) × (List Int)) : Option ((List Int)) :=
  br (decide (s3.2.2.1 < s3.2.1)) (ckb (inb s3.2.2.1 s3.1.length) (ckb (inb s3.2.2.1 s3.2.2.2.1.2.2.length) (lt (w64 (1 * (gl 0 s3.2.2.2.1.2.2 s3.2.2.1.toNat))) fun (x4 : Int) => lt (w64 ((gl 0 s3.1 s3.2.2.1.toNat) - x4)) fun (x5 : Int) => ckb (apok 8 (s3.2.2.2.2.length + 1)) (lt (w64 (s3.2.2.1 + 1)) fun (x6 : Int) => go2 (s3.1, s3.2.1, x6, s3.2.2.2.1, (s3.2.2.2.2 ++ [x5])))))) (some s3.2.2.2.2)
noncomputable def _impl_Game__points (n : Nat) (a1 : ((Int × (Int × (List (V4 Int)))) × ((List Int) × (List Int)))) : Option ((List Int)) :=
  fx (_impl_Game__points_L1 n) n (a1.2.1, (a1.2.1.length : Int), 0, a1, ([] : List Int))

/-- i_WorthClaims -/
noncomputable def i_WorthClaims (n : Nat) (a1 : ((Int × (Int × (List (V4 Int)))) × ((List Int) × (List Int)))) (a2 : (List (Int × (V3 Int)))) (a3 : Int) : Option (Int × Bool) :=
  ob (i_areClaims n a1 a2) fun (r4 : Bool) => ob (br (! r4) (some true) (ob (_impl_Game__isPlayer n a1 a3) fun (r5 : Bool) => some (! r5))) fun (x6 : Bool) => br x6 (some (0, false)) (ob (_impl_Game__own n a1) fun (r7 : Int × Int × (List (V4 Int)) × (List Int) × (List Int)) => ob (__impl_Game__run'pl_ooo n a2 r7.1 r7.2.1 r7.2.2.1 r7.2.2.2.1 r7.2.2.2.2) fun (r8 : Int × Int × (List Int) × (List Int) × (List Int) × (List (V4 Int))) => ob (_impl_Game__points n ((r8.1, (r8.2.1, r8.2.2.2.2.2)), (r8.2.2.1, r8.2.2.2.1))) fun (r9 : (List Int)) => ckb (inb a3 r9.length) (ob (_impl_Game__points n a1) fun (r10 : (List Int)) => ckb (inb a3 r10.length) (lt (w64 ((gl 0 r9 a3.toNat) - (gl 0 r10 a3.toNat))) fun (x11 : Int) => some (x11, true))))

/-- s_l2Drop -/
noncomputable def s_l2Drop (n : Nat) (a1 : (List (V4 Int))) (a2 : Int) : Option ((List (V4 Int))) :=
  ckb (slb 0 a2 a1.length) (ob (s_l2Own n (sub a1 0 a2.toNat)) fun (r3 : (List (V4 Int))) => lt (w64 (a2 + 1)) fun (x4 : Int) => ckb (slb x4 (a1.length : Int) a1.length) (ckb (apok 32 (r3.length + (sub a1 x4.toNat a1.length).length)) (some (r3 ++ (sub a1 x4.toNat a1.length)))))

/-- s_Cur_seedOf'p -/
noncomputable def s_Cur_seedOf'p (n : Nat) (a1 : ((List Int) × (Int × Int))) : Option (Int × ((List Int) × (Int × Int))) :=
  ob (s_Cur_one'p n 40 a1) fun (r2 : Bool × ((List Int) × (Int × Int))) => br r2.1 (ob (s_Cur_among'pl n [(-1), 65536, 0, 65535, 4611686018427387904] r2.2) fun (r3 : Int × ((List Int) × (Int × Int))) => some (r3.1, r3.2)) (ob (s_Cur_pick'p n 256 r2.2) fun (r4 : Int × ((List Int) × (Int × Int))) => lt (w64 (256 * r4.1)) fun (x5 : Int) => ob (s_Cur_pick'p n 200 r4.2) fun (r6 : Int × ((List Int) × (Int × Int))) => lt (w64 (x5 + r6.1)) fun (x7 : Int) => some (x7, r6.2))

/-- s_NewDeal -/
noncomputable def s_NewDeal (n : Nat) (a1 : Int) : Option (Int × Int × Bool × (List (V4 Int))) :=
  ob (s_l4Seed n a1) fun (r2 : Bool) => br (! r2) (some (0, 0, false, ([] : List (V4 Int)))) (ob (s_l4Pile n a1) fun (r3 : (List (V4 Int))) => ckb (slb 0 12 r3.length) (ob (s_l2Own n (sub r3 0 (0 + (w64 (12 - 0)).toNat))) fun (r4 : (List (V4 Int))) => some (a1, 12, true, r4)))

/-- s_l4Over -/
noncomputable def s_l4Over (n : Nat) (a1 : (Int × (Int × (List (V4 Int))))) : Option (Bool) :=
  ob (br (decide (a1.2.1 = 81)) (ob (s_l4Lines n a1.2.2) fun (r2 : (List (V3 Int))) => some (decide ((r2.length : Int) = 0))) (some false)) fun (x3 : Bool) => some x3

/-- s_l4Step -/
noncomputable def s_l4Step (n : Nat) (a1 : (Int × (Int × (List (V4 Int))))) : Option (Int × Int × (List (V4 Int))) :=
  ob (s_l4Lines n a1.2.2) fun (r2 : (List (V3 Int))) => br (decide ((r2.length : Int) = 0)) (ob (s_l4Lay n a1 3) fun (r3 : Int × Int × (List (V4 Int))) => some (r3.1, r3.2.1, r3.2.2)) (ckb (inb 0 r2.length) (ob (s_l4Take n a1 (gl (⟨0, 0, 0⟩ : (V3 Int)) r2 0)) fun (r4 : Int × Int × (List (V4 Int))) => some (r4.1, r4.2.1, r4.2.2)))

/-- s_Cur_deal'p -/
noncomputable def s_Cur_deal'p_J1 (n : Nat) (s11 : ((List Int) × (Int × Int)) × Int × Int × Int × Int × (List (V4 Int))) : Option (Int × Int × ((List Int) × (Int × Int)) × (List (V4 Int))) :=
  ob (s_Cur_pick'p n 40 s11.1) fun (r12 : Int × ((List Int) × (Int × Int))) => br (decide (r12.1 = 0)) (ob (s_Cur_among'pl n [(-1), 82, 0, 81] r12.2) fun (r13 : Int × ((List Int) × (Int × Int))) => some (s11.2.2.2.1, r13.1, r13.2, s11.2.2.2.2.2)) (br (decide (r12.1 = 1)) (ob (s_Cur_card'p n r12.2) fun (r14 : (V4 Int) × ((List Int) × (Int × Int))) => ckb (apok 32 (s11.2.2.2.2.2.length + 1)) (some (s11.2.2.2.1, s11.2.2.2.2.1, r14.2, (s11.2.2.2.2.2 ++ [r14.1])))) (br (decide (r12.1 = 2)) (ob (s_Cur_seedOf'p n r12.2) fun (r15 : Int × ((List Int) × (Int × Int))) => some (r15.1, s11.2.2.2.2.1, r15.2, s11.2.2.2.2.2)) (some (s11.2.2.2.1, s11.2.2.2.2.1, r12.2, s11.2.2.2.2.2))))
noncomputable def s_Cur_deal'p_L2 (n : Nat) (go5 : Int × ((List Int) × (Int × Int)) × Int × Int × Int × Int × (List (V4 Int)) → Option (Int × Int × ((List Int) × (Int × Int)) × (List (V4 Int)))) (s6 : Int × ((List Int) × (Int × Int)) × Int × Int × Int × Int × (List (V4 Int))) : Option (Int × Int × ((List Int) × (Int × Int)) × (List (V4 Int))) :=
  ob (br (decide (0 < s6.1)) (ob (s_l4Over n (s6.2.2.2.2.1, (s6.2.2.2.2.2.1, s6.2.2.2.2.2.2))) fun (r7 : Bool) => some (! r7)) (some false)) fun (x8 : Bool) => br x8 (ob (s_l4Step n (s6.2.2.2.2.1, (s6.2.2.2.2.2.1, s6.2.2.2.2.2.2))) fun (r9 : Int × Int × (List (V4 Int))) => lt (w64 (s6.1 - 1)) fun (x10 : Int) => go5 (x10, s6.2.1, s6.2.2.1, s6.2.2.2.1, r9.1, r9.2.1, r9.2.2)) (ob (s_Cur_one'p n 8 s6.2.1) fun (r16 : Bool × ((List Int) × (Int × Int))) => ob (br r16.1 (some (decide (3 < (s6.2.2.2.2.2.2.length : Int)))) (some false)) fun (x17 : Bool) => br x17 (lt (w64 ((s6.2.2.2.2.2.2.length : Int) - 1)) fun (x18 : Int) => ob (s_Cur_pick'p n 3 r16.2) fun (r19 : Int × ((List Int) × (Int × Int))) => lt (w64 (x18 - r19.1)) fun (x20 : Int) => ckb (slb 0 x20 s6.2.2.2.2.2.2.length) (s_Cur_deal'p_J1 n (r19.2, s6.2.2.1, s6.2.2.2.1, s6.2.2.2.2.1, s6.2.2.2.2.2.1, (sub s6.2.2.2.2.2.2 0 (w64 (x20 - 0)).toNat)))) (s_Cur_deal'p_J1 n (r16.2, s6.2.2.1, s6.2.2.2.1, s6.2.2.2.2.1, s6.2.2.2.2.2.1, s6.2.2.2.2.2.2)))
noncomputable def s_Cur_deal'p (n : Nat) (a1 : ((List Int) × (Int × Int))) : Option (Int × Int × ((List Int) × (Int × Int)) × (List (V4 Int))) :=
  ob (s_Cur_seedOf'p n a1) fun (r2 : Int × ((List Int) × (Int × Int))) => ob (s_Cur_among'pl n [0, 3, 8, 15, 24, 40, 1] r2.2) fun (r3 : Int × ((List Int) × (Int × Int))) => ob (s_NewDeal n r2.1) fun (r4 : Int × Int × Bool × (List (V4 Int))) => br (! r4.2.2.1) (some (r2.1, 12, r3.2, ([] : List (V4 Int)))) (fx (s_Cur_deal'p_L2 n) n (r3.1, r3.2, 0, 0, r4.1, r4.2.1, r4.2.2.2))

/-- s_Cur_game'p -/
noncomputable def s_Cur_game'p_J1 (n : Nat) (s9 : Bool × ((List Int) × (Int × Int)) × Int × Int × Int × Int × (List (V4 Int)) × (List Int) × (List Int)) : Option (Int × Int × ((List Int) × (Int × Int)) × (List (V4 Int)) × (List Int) × (List Int)) :=
  br s9.1 (ob (s_Cur_pick'p n 3 s9.2.1) fun (r10 : Int × ((List Int) × (Int × Int))) => br (decide (r10.1 = 0)) (ob (s_Cur_pick'p n (s9.2.2.2.2.2.2.2.1.length : Int) r10.2) fun (r11 : Int × ((List Int) × (Int × Int))) => ob (s_Cur_among'pl n [(-1), 61] r11.2) fun (r12 : Int × ((List Int) × (Int × Int))) => ckb (inb r11.1 s9.2.2.2.2.2.2.2.1.length) (lt (List.set s9.2.2.2.2.2.2.2.1 r11.1.toNat r12.1) fun (x13 : (List Int)) => some (s9.2.2.2.2.1, s9.2.2.2.2.2.1, r12.2, s9.2.2.2.2.2.2.1, x13, s9.2.2.2.2.2.2.2.2))) (br (decide (r10.1 = 1)) (ob (s_Cur_pick'p n (s9.2.2.2.2.2.2.2.2.length : Int) r10.2) fun (r14 : Int × ((List Int) × (Int × Int))) => ob (s_Cur_among'pl n [(-1), 61] r14.2) fun (r15 : Int × ((List Int) × (Int × Int))) => ckb (inb r14.1 s9.2.2.2.2.2.2.2.2.length) (lt (List.set s9.2.2.2.2.2.2.2.2 r14.1.toNat r15.1) fun (x16 : (List Int)) => some (s9.2.2.2.2.1, s9.2.2.2.2.2.1, r15.2, s9.2.2.2.2.2.2.1, s9.2.2.2.2.2.2.2.1, x16))) (ckb (apok 8 (s9.2.2.2.2.2.2.2.2.length + 1)) (some (s9.2.2.2.2.1, s9.2.2.2.2.2.1, r10.2, s9.2.2.2.2.2.2.1, s9.2.2.2.2.2.2.2.1, (s9.2.2.2.2.2.2.2.2 ++ [0])))))) (some (s9.2.2.2.2.1, s9.2.2.2.2.2.1, s9.2.1, s9.2.2.2.2.2.2.1, s9.2.2.2.2.2.2.2.1, s9.2.2.2.2.2.2.2.2))
noncomputable def s_Cur_game'p_L2 (n : Nat) (go4 : Int × ((List Int) × (Int × Int)) × Int × Int × Int × Int × Int × Int × (List (V4 Int)) × (List Int) × (List Int) → Option (Int × Int × ((List Int) × (Int × Int)) × (List (V4 Int)) × (List Int) × (List Int))) (s5 : Int × ((List Int) × (Int × Int)) × Int × Int × Int × Int × Int × Int × (List (V4 Int)) × (List Int) × (List Int)) : Option (Int × Int × ((List Int) × (Int × Int)) × (List (V4 Int)) × (List Int) × (List Int)) :=
  br (decide (0 < s5.1)) (ob (s_Cur_among'pl n [0, 1, 2, 5, 3, 60] s5.2.1) fun (r6 : Int × ((List Int) × (Int × Int))) => ckb (apok 8 (s5.2.2.2.2.2.2.2.2.2.1.length + 1)) (ob (s_Cur_among'pl n [0, 1, 0, 2, 60] r6.2) fun (r7 : Int × ((List Int) × (Int × Int))) => ckb (apok 8 (s5.2.2.2.2.2.2.2.2.2.2.length + 1)) (lt (w64 (s5.1 - 1)) fun (x8 : Int) => go4 (x8, r7.2, s5.2.2.1, s5.2.2.2.1, s5.2.2.2.2.1, s5.2.2.2.2.2.1, s5.2.2.2.2.2.2.1, s5.2.2.2.2.2.2.2.1, s5.2.2.2.2.2.2.2.2.1, (s5.2.2.2.2.2.2.2.2.2.1 ++ [r6.1]), (s5.2.2.2.2.2.2.2.2.2.2 ++ [r7.1]))))) (br (decide (0 < (s5.2.2.2.2.2.2.2.2.2.1.length : Int))) (ob (s_Cur_one'p n 40 s5.2.1) fun (r17 : Bool × ((List Int) × (Int × Int))) => s_Cur_game'p_J1 n (r17.1, r17.2, s5.2.2.1, s5.2.2.2.1, s5.2.2.2.2.1, s5.2.2.2.2.2.1, s5.2.2.2.2.2.2.2.2.1, s5.2.2.2.2.2.2.2.2.2.1, s5.2.2.2.2.2.2.2.2.2.2)) (s_Cur_game'p_J1 n (false, s5.2.1, s5.2.2.1, s5.2.2.2.1, s5.2.2.2.2.1, s5.2.2.2.2.2.1, s5.2.2.2.2.2.2.2.2.1, s5.2.2.2.2.2.2.2.2.2.1, s5.2.2.2.2.2.2.2.2.2.2)))
noncomputable def s_Cur_game'p (n : Nat) (a1 : ((List Int) × (Int × Int))) : Option (Int × Int × ((List Int) × (Int × Int)) × (List (V4 Int)) × (List Int) × (List Int)) :=
  ob (s_Cur_deal'p n a1) fun (r2 : Int × Int × ((List Int) × (Int × Int)) × (List (V4 Int))) => ob (s_Cur_among'pl n [2, 3, 1, 4, 2, 0, 5] r2.2.2.1) fun (r3 : Int × ((List Int) × (Int × Int))) => fx (s_Cur_game'p_L2 n) n (r3.1, r3.2, 0, 0, r2.1, r2.2.1, 0, 0, r2.2.2.2, ([] : List Int), ([] : List Int))

/-- v_rInts -/
noncomputable def v_rInts_L1 (n : Nat) (go3 : (List Int) × (List Int) × Int → Option (Bool)) (s4 : (List Int) × (List Int) × Int) : Option (Bool) :=
  br (decide (s4.2.2 < (s4.1.length : Int))) (ckb (inb s4.2.2 s4.1.length) (ckb (inb s4.2.2 s4.2.1.length) (br (!decide ((gl 0 s4.1 s4.2.2.toNat) = (gl 0 s4.2.1 s4.2.2.toNat))) (some false) (lt (w64 (s4.2.2 + 1)) fun (x5 : Int) => go3 (s4.1, s4.2.1, x5))))) (some true)
noncomputable def v_rInts (n : Nat) (a1 : (List Int)) (a2 : (List Int)) : Option (Bool) :=
  br (!decide ((a1.length : Int) = (a2.length : Int))) (some false) (fx (v_rInts_L1 n) n (a1, a2, 0))

/-- i_RunClaims -/
noncomputable def i_RunClaims_L1 (n : Nat) (go7 : Int × Int × Int × Int × (V4 Int) × (V4 Int) × Int × Int × (List Int) × (List (V4 Int)) × (List Int) × (List Int) → Option (Int × Int × (V4 Int) × Bool × (List (V4 Int)) × (List Int) × (List Int))) (s8 : Int × Int × Int × Int × (V4 Int) × (V4 Int) × Int × Int × (List Int) × (List (V4 Int)) × (List Int) × (List Int)) : Option (Int × Int × (V4 Int) × Bool × (List (V4 Int)) × (List Int) × (List Int)) :=
  br (decide (s8.2.1 < s8.1)) (ckb (inb s8.2.1 s8.2.2.2.2.2.2.2.2.1.length) (ckb (inb (gl 0 s8.2.2.2.2.2.2.2.2.1 s8.2.1.toNat) 4) (lt (w64 ((V4.get s8.2.2.2.2.2.1 (gl 0 s8.2.2.2.2.2.2.2.2.1 s8.2.1.toNat).toNat) + 1)) fun (x9 : Int) => ckb (inb (gl 0 s8.2.2.2.2.2.2.2.2.1 s8.2.1.toNat) 4) (lt (V4.set s8.2.2.2.2.2.1 (gl 0 s8.2.2.2.2.2.2.2.2.1 s8.2.1.toNat).toNat x9) fun (x10 : (V4 Int)) => lt (w64 (s8.2.1 + 1)) fun (x11 : Int) => go7 (s8.1, x11, s8.2.2.1, s8.2.2.2.1, s8.2.2.2.2.1, x10, s8.2.2.2.2.2.2.1, s8.2.2.2.2.2.2.2.1, s8.2.2.2.2.2.2.2.2.1, s8.2.2.2.2.2.2.2.2.2.1, s8.2.2.2.2.2.2.2.2.2.2.1, s8.2.2.2.2.2.2.2.2.2.2.2))))) (some (s8.2.2.2.2.2.2.1, s8.2.2.2.2.2.2.2.1, s8.2.2.2.2.2.1, true, s8.2.2.2.2.2.2.2.2.2.1, s8.2.2.2.2.2.2.2.2.2.2.1, s8.2.2.2.2.2.2.2.2.2.2.2))
noncomputable def i_RunClaims (n : Nat) (a1 : ((Int × (Int × (List (V4 Int)))) × ((List Int) × (List Int)))) (a2 : (List (Int × (V3 Int)))) : Option (Int × Int × (V4 Int) × Bool × (List (V4 Int)) × (List Int) × (List Int)) :=
  lt (⟨0, 0, 0, 0⟩ : (V4 Int)) fun (x3 : (V4 Int)) => ob (i_areClaims n a1 a2) fun (r4 : Bool) => br (! r4) (some (0, 0, x3, false, ([] : List (V4 Int)), ([] : List Int), ([] : List Int))) (ob (_impl_Game__own n a1) fun (r5 : Int × Int × (List (V4 Int)) × (List Int) × (List Int)) => ob (__impl_Game__run'pl_ooo n a2 r5.1 r5.2.1 r5.2.2.1 r5.2.2.2.1 r5.2.2.2.2) fun (r6 : Int × Int × (List Int) × (List Int) × (List Int) × (List (V4 Int))) => fx (i_RunClaims_L1 n) n ((r6.2.2.2.2.1.length : Int), 0, 0, 0, (⟨0, 0, 0, 0⟩ : (V4 Int)), x3, r6.1, r6.2.1, r6.2.2.2.2.1, r6.2.2.2.2.2, r6.2.2.1, r6.2.2.2.1))

/-- s_Cur_lineOf'pl -/
noncomputable def s_Cur_lineOf'pl_J1 (n : Nat) (s6 : Bool × ((List Int) × (Int × Int)) × (V3 Int) × (List (V3 Int))) : Option ((V3 Int) × ((List Int) × (Int × Int))) :=
  br s6.1 (ob (s_Cur_pick'p n (s6.2.2.2.length : Int) s6.2.1) fun (r7 : Int × ((List Int) × (Int × Int))) => ckb (inb r7.1 s6.2.2.2.length) (some ((gl (⟨0, 0, 0⟩ : (V3 Int)) s6.2.2.2 r7.1.toNat), r7.2))) (ob (s_Cur_pick'p n 10 s6.2.1) fun (r8 : Int × ((List Int) × (Int × Int))) => ob (s_Cur_pick'p n 3 r8.2) fun (r9 : Int × ((List Int) × (Int × Int))) => lt (w64 (r8.1 + r9.1)) fun (x10 : Int) => lt (w64 (r8.1 + 2)) fun (x11 : Int) => ob (s_Cur_pick'p n 3 r9.2) fun (r12 : Int × ((List Int) × (Int × Int))) => lt (w64 (x11 + r12.1)) fun (x13 : Int) => ob (s_Cur_pick'p n 24 r12.2) fun (r14 : Int × ((List Int) × (Int × Int))) => lt (w64 (Int.tdiv r14.1 23)) fun (x15 : Int) => lt (w64 (x15 * 20)) fun (x16 : Int) => lt (w64 (x13 - x16)) fun (x17 : Int) => lt (⟨r8.1, x10, x17⟩ : (V3 Int)) fun (x18 : (V3 Int)) => some (x18, r14.2))
noncomputable def s_Cur_lineOf'pl_J2 (n : Nat) (s5 : Bool × ((List Int) × (Int × Int)) × (V3 Int) × (List (V3 Int))) : Option ((V3 Int) × ((List Int) × (Int × Int))) :=
  br s5.1 (ob (s_Cur_one'p n 4 s5.2.1) fun (r19 : Bool × ((List Int) × (Int × Int))) => s_Cur_lineOf'pl_J1 n ((! r19.1), r19.2, s5.2.2.1, s5.2.2.2)) (s_Cur_lineOf'pl_J1 n (false, s5.2.1, s5.2.2.1, s5.2.2.2))
noncomputable def s_Cur_lineOf'pl (n : Nat) (a1 : (Int × (Int × (List (V4 Int))))) (a2 : ((List Int) × (Int × Int))) : Option ((V3 Int) × ((List Int) × (Int × Int))) :=
  ob (s_l4Lines n a1.2.2) fun (r3 : (List (V3 Int))) => ob (s_l4Deal n a1) fun (r4 : Bool) => br r4 (s_Cur_lineOf'pl_J2 n ((decide (0 < (r3.length : Int))), a2, (⟨0, 0, 0⟩ : (V3 Int)), r3)) (s_Cur_lineOf'pl_J2 n (false, a2, (⟨0, 0, 0⟩ : (V3 Int)), r3))

/-- s_Cur_claim'pl -/
noncomputable def s_Cur_claim'pl (n : Nat) (a1 : ((Int × (Int × (List (V4 Int)))) × ((List Int) × (List Int)))) (a2 : ((List Int) × (Int × Int))) : Option ((Int × (V3 Int)) × ((List Int) × (Int × Int))) :=
  ob (s_l1Most n (a1.2.1.length : Int) 1) fun (r3 : Int) => ob (s_Cur_pick'p n r3 a2) fun (r4 : Int × ((List Int) × (Int × Int))) => ob (s_Cur_pick'p n 24 r4.2) fun (r5 : Int × ((List Int) × (Int × Int))) => lt (w64 (Int.tdiv r5.1 23)) fun (x6 : Int) => lt (w64 (r4.1 + x6)) fun (x7 : Int) => ob (s_Cur_pick'p n 24 r5.2) fun (r8 : Int × ((List Int) × (Int × Int))) => lt (w64 (Int.tdiv r8.1 23)) fun (x9 : Int) => lt (w64 (x7 - x9)) fun (x10 : Int) => ob (s_Cur_lineOf'pl n a1.1 r8.2) fun (r11 : (V3 Int) × ((List Int) × (Int × Int))) => lt (x10, r11.1) fun (x12 : (Int × (V3 Int))) => some (x12, r11.2)

/-- s_DrawMakeClaim -/
noncomputable def s_DrawMakeClaim_J1 (n : Nat) (s4 : Int × Int × (Int × (V3 Int)) × ((List Int) × (Int × Int)) × Int × Int × (List (V4 Int)) × (List Int) × (List Int)) : Option (Int × Int × (Int × (V3 Int)) × (List (V4 Int)) × (List Int) × (List Int)) :=
  ob (s_Cur_claim'pl n ((s4.2.2.2.2.1, (s4.2.2.2.2.2.1, s4.2.2.2.2.2.2.1)), (s4.2.2.2.2.2.2.2.1, s4.2.2.2.2.2.2.2.2)) s4.2.2.2.1) fun (r5 : (Int × (V3 Int)) × ((List Int) × (Int × Int))) => some (s4.2.2.2.2.1, s4.2.2.2.2.2.1, r5.1, s4.2.2.2.2.2.2.1, s4.2.2.2.2.2.2.2.1, s4.2.2.2.2.2.2.2.2)
noncomputable def s_DrawMakeClaim_L2 (n : Nat) (go10 : Int × Int × (Int × (V3 Int)) × ((List Int) × (Int × Int)) × Int × Int × (List (V3 Int)) × (List (V4 Int)) × (List Int) × (List Int) → Option (Int × Int × (Int × (V3 Int)) × (List (V4 Int)) × (List Int) × (List Int))) (s11 : Int × Int × (Int × (V3 Int)) × ((List Int) × (Int × Int)) × Int × Int × (List (V3 Int)) × (List (V4 Int)) × (List Int) × (List Int)) : Option (Int × Int × (Int × (V3 Int)) × (List (V4 Int)) × (List Int) × (List Int)) :=
  br (decide (0 < (s11.2.2.2.2.2.2.1.length : Int))) (ckb (inb 0 s11.2.2.2.2.2.2.1.length) (ob (s_l2Drop n s11.2.2.2.2.2.2.2.1 (gl (⟨0, 0, 0⟩ : (V3 Int)) s11.2.2.2.2.2.2.1 0).x2) fun (r12 : (List (V4 Int))) => ob (s_l4Lines n r12) fun (r13 : (List (V3 Int))) => go10 (s11.1, s11.2.1, s11.2.2.1, s11.2.2.2.1, s11.2.2.2.2.1, s11.2.2.2.2.2.1, r13, r12, s11.2.2.2.2.2.2.2.2.1, s11.2.2.2.2.2.2.2.2.2))) (s_DrawMakeClaim_J1 n (s11.1, s11.2.1, s11.2.2.1, s11.2.2.2.1, s11.2.2.2.2.1, s11.2.2.2.2.2.1, s11.2.2.2.2.2.2.2.1, s11.2.2.2.2.2.2.2.2.1, s11.2.2.2.2.2.2.2.2.2))
noncomputable def s_DrawMakeClaim (n : Nat) (a1 : (List Int)) : Option (Int × Int × (Int × (V3 Int)) × (List (V4 Int)) × (List Int) × (List Int)) :=
  lt (a1, (0, 0)) fun (x2 : ((List Int) × (Int × Int))) => ob (s_Cur_game'p n x2) fun (r3 : Int × Int × ((List Int) × (Int × Int)) × (List (V4 Int)) × (List Int) × (List Int)) => ob (s_Cur_one'p n 3 r3.2.2.1) fun (r6 : Bool × ((List Int) × (Int × Int))) => ob (br r6.1 (ob (s_l4Deal n (r3.1, (r3.2.1, r3.2.2.2.1))) fun (r7 : Bool) => some r7) (some false)) fun (x8 : Bool) => br x8 (ob (s_l4Lines n r3.2.2.2.1) fun (r9 : (List (V3 Int))) => fx (s_DrawMakeClaim_L2 n) n (0, 0, (0, (⟨0, 0, 0⟩ : (V3 Int))), r6.2, r3.1, r3.2.1, r9, r3.2.2.2.1, r3.2.2.2.2.1, r3.2.2.2.2.2)) (s_DrawMakeClaim_J1 n (0, 0, (0, (⟨0, 0, 0⟩ : (V3 Int))), r6.2, r3.1, r3.2.1, r3.2.2.2.1, r3.2.2.2.2.1, r3.2.2.2.2.2))

/-- v_rHand -/
noncomputable def v_rHand_L1 (n : Nat) (go3 : (List (V4 Int)) × (List (V4 Int)) × Int → Option (Bool)) (s4 : (List (V4 Int)) × (List (V4 Int)) × Int) : Option (Bool) :=
  br (decide (s4.2.2 < (s4.1.length : Int))) (ckb (inb s4.2.2 s4.1.length) (ckb (inb s4.2.2 s4.2.1.length) (br (!eqd (gl (⟨0, 0, 0, 0⟩ : (V4 Int)) s4.1 s4.2.2.toNat) (gl (⟨0, 0, 0, 0⟩ : (V4 Int)) s4.2.1 s4.2.2.toNat)) (some false) (lt (w64 (s4.2.2 + 1)) fun (x5 : Int) => go3 (s4.1, s4.2.1, x5))))) (some true)
noncomputable def v_rHand (n : Nat) (a1 : (List (V4 Int))) (a2 : (List (V4 Int))) : Option (Bool) :=
  br (!decide ((a1.length : Int) = (a2.length : Int))) (some false) (fx (v_rHand_L1 n) n (a1, a2, 0))

/-- v_rDeal -/
noncomputable def v_rDeal (n : Nat) (a1 : (Int × (Int × (List (V4 Int))))) (a2 : (Int × (Int × (List (V4 Int))))) : Option (Bool) :=
  ob (br (decide (a1.1 = a2.1)) (some (decide (a1.2.1 = a2.2.1))) (some false)) fun (x3 : Bool) => ob (br x3 (ob (v_rHand n a1.2.2 a2.2.2) fun (r4 : Bool) => some r4) (some false)) fun (x5 : Bool) => some x5

/-- v_rGame -/
noncomputable def v_rGame (n : Nat) (a1 : ((Int × (Int × (List (V4 Int)))) × ((List Int) × (List Int)))) (a2 : ((Int × (Int × (List (V4 Int)))) × ((List Int) × (List Int)))) : Option (Bool) :=
  ob (v_rDeal n a1.1 a2.1) fun (r3 : Bool) => ob (br r3 (ob (v_rInts n a1.2.1 a2.2.1) fun (r4 : Bool) => some r4) (some false)) fun (x5 : Bool) => ob (br x5 (ob (v_rInts n a1.2.2 a2.2.2) fun (r6 : Bool) => some r6) (some false)) fun (x7 : Bool) => some x7

/-- s_DrawClaimKind -/
noncomputable def s_DrawClaimKind (n : Nat) (a1 : (List Int)) : Option (Int × Int × (Int × (V3 Int)) × (List (V4 Int)) × (List Int) × (List Int)) :=
  lt (a1, (0, 0)) fun (x2 : ((List Int) × (Int × Int))) => ob (s_Cur_game'p n x2) fun (r3 : Int × Int × ((List Int) × (Int × Int)) × (List (V4 Int)) × (List Int) × (List Int)) => ob (s_Cur_claim'pl n ((r3.1, (r3.2.1, r3.2.2.2.1)), (r3.2.2.2.2.1, r3.2.2.2.2.2)) r3.2.2.1) fun (r4 : (Int × (V3 Int)) × ((List Int) × (Int × Int))) => some (r3.1, r3.2.1, r4.1, r3.2.2.2.1, r3.2.2.2.2.1, r3.2.2.2.2.2)

/-- i_ClaimKind -/
noncomputable def i_ClaimKind (n : Nat) (a1 : ((Int × (Int × (List (V4 Int)))) × ((List Int) × (List Int)))) (a2 : (Int × (V3 Int))) : Option (Int × Bool) :=
  ob (i_IsGame n a1) fun (r3 : Bool) => br (! r3) (some (0, false)) (ob (_impl_Game__kind n a1 a2) fun (r4 : Int) => some (r4, true))

/-- s_ClaimKind -/
noncomputable def s_ClaimKind (n : Nat) (a1 : ((Int × (Int × (List (V4 Int)))) × ((List Int) × (List Int)))) (a2 : (Int × (V3 Int))) : Option (Int × Bool) :=
  ob (s_l8Game n a1) fun (r3 : Bool) => br (! r3) (some (0, false)) (ob (s_l8Kind n a1 a2) fun (r4 : Int) => some (r4, true))

/-- s_Cur_claims'pl -/
noncomputable def s_Cur_claims'pl_L1 (n : Nat) (go4 : Int × ((List Int) × (Int × Int)) × (List (Int × (V3 Int))) × ((Int × (Int × (List (V4 Int)))) × ((List Int) × (List Int))) → Option (((List Int) × (Int × Int)) × (List (Int × (V3 Int))))) (s5 : Int × ((List Int) × (Int × Int)) × (List (Int × (V3 Int))) × ((Int × (Int × (List (V4 Int)))) × ((List Int) × (List Int)))) : Option (((List Int) × (Int × Int)) × (List (Int × (V3 Int)))) :=
  br (decide (0 < s5.1)) (br (decide (60 < s5.1)) (ob (s_Cur_pick'p n 2 s5.2.1) fun (r6 : Int × ((List Int) × (Int × Int))) => lt (w64 (61 - r6.1)) fun (x7 : Int) => ckb (mkok 32 x7 x7) (some (r6.2, (List.replicate x7.toNat (0, (⟨0, 0, 0⟩ : (V3 Int))))))) (ob (s_Cur_claim'pl n s5.2.2.2 s5.2.1) fun (r8 : (Int × (V3 Int)) × ((List Int) × (Int × Int))) => ob (s_l8Game n s5.2.2.2) fun (r9 : Bool) => br r9 (ob (s_l8Made n s5.2.2.2 r8.1) fun (r10 : Int × Int × Int × (List (V4 Int)) × (List Int) × (List Int)) => ckb (apok 32 (s5.2.2.1.length + 1)) (lt (w64 (s5.1 - 1)) fun (x11 : Int) => go4 (x11, r8.2, (s5.2.2.1 ++ [r8.1]), ((r10.1, (r10.2.1, r10.2.2.2.1)), (r10.2.2.2.2.1, r10.2.2.2.2.2))))) (ckb (apok 32 (s5.2.2.1.length + 1)) (lt (w64 (s5.1 - 1)) fun (x12 : Int) => go4 (x12, r8.2, (s5.2.2.1 ++ [r8.1]), s5.2.2.2))))) (some (s5.2.1, s5.2.2.1))
noncomputable def s_Cur_claims'pl (n : Nat) (a1 : ((Int × (Int × (List (V4 Int)))) × ((List Int) × (List Int)))) (a2 : ((List Int) × (Int × Int))) : Option (((List Int) × (Int × Int)) × (List (Int × (V3 Int)))) :=
  ob (s_Cur_among'pl n [3, 5, 8, 1, 0, 2, 61] a2) fun (r3 : Int × ((List Int) × (Int × Int))) => fx (s_Cur_claims'pl_L1 n) n (r3.1, r3.2, ([] : List (Int × (V3 Int))), a1)

/-- s_DrawRunClaims -/
noncomputable def s_DrawRunClaims (n : Nat) (a1 : (List Int)) : Option (Int × Int × (List (V4 Int)) × (List Int) × (List Int) × (List (Int × (V3 Int)))) :=
  lt (a1, (0, 0)) fun (x2 : ((List Int) × (Int × Int))) => ob (s_Cur_game'p n x2) fun (r3 : Int × Int × ((List Int) × (Int × Int)) × (List (V4 Int)) × (List Int) × (List Int)) => ob (s_Cur_claims'pl n ((r3.1, (r3.2.1, r3.2.2.2.1)), (r3.2.2.2.2.1, r3.2.2.2.2.2)) r3.2.2.1) fun (r4 : ((List Int) × (Int × Int)) × (List (Int × (V3 Int)))) => some (r3.1, r3.2.1, r3.2.2.2.1, r3.2.2.2.2.1, r3.2.2.2.2.2, r4.2)

/-- s_DrawWorthClaims -/
noncomputable def s_DrawWorthClaims (n : Nat) (a1 : (List Int)) : Option (Int × Int × Int × (List (V4 Int)) × (List Int) × (List Int) × (List (Int × (V3 Int)))) :=
  lt (a1, (0, 0)) fun (x2 : ((List Int) × (Int × Int))) => ob (s_Cur_pick'p n 4 x2) fun (r3 : Int × ((List Int) × (Int × Int))) => ob (s_Cur_pick'p n 24 r3.2) fun (r4 : Int × ((List Int) × (Int × Int))) => lt (w64 (Int.tdiv r4.1 23)) fun (x5 : Int) => lt (w64 (r3.1 - x5)) fun (x6 : Int) => ob (s_Cur_game'p n r4.2) fun (r7 : Int × Int × ((List Int) × (Int × Int)) × (List (V4 Int)) × (List Int) × (List Int)) => ob (s_Cur_claims'pl n ((r7.1, (r7.2.1, r7.2.2.2.1)), (r7.2.2.2.2.1, r7.2.2.2.2.2)) r7.2.2.1) fun (r8 : ((List Int) × (Int × Int)) × (List (Int × (V3 Int)))) => some (r7.1, r7.2.1, x6, r7.2.2.2.1, r7.2.2.2.2.1, r7.2.2.2.2.2, r8.2)

/-- s_DrawNewGame -/
noncomputable def s_DrawNewGame (n : Nat) (a1 : (List Int)) : Option (Int × Int) :=
  lt (a1, (0, 0)) fun (x2 : ((List Int) × (Int × Int))) => ob (s_Cur_seedOf'p n x2) fun (r3 : Int × ((List Int) × (Int × Int))) => ob (s_Cur_among'pl n [2, 1, 3, 4, 0, 5, (-1)] r3.2) fun (r4 : Int × ((List Int) × (Int × Int))) => some (r3.1, r4.1)

/-- i_newDeal -/
noncomputable def i_newDeal (n : Nat) (a1 : Int) : Option (Int × Int × (List (V4 Int))) :=
  ob (i_pile n a1) fun (r2 : (List (V4 Int))) => ckb (slb 0 12 r2.length) (ob (slices_Clone_SA4_A4_ n (sub r2 0 (0 + (w64 (12 - 0)).toNat))) fun (r3 : (List (V4 Int))) => some (a1, 12, r3))

/-- i_NewGame -/
noncomputable def i_NewGame (n : Nat) (a1 : Int) (a2 : Int) : Option (Int × Int × Bool × (List (V4 Int)) × (List Int) × (List Int)) :=
  ob (i_isSeed n a1) fun (r3 : Bool) => ob (br (! r3) (some true) (ob (i_within n a2 1 4) fun (r4 : Bool) => some (! r4))) fun (x5 : Bool) => br x5 (some (0, 0, false, ([] : List (V4 Int)), ([] : List Int), ([] : List Int))) (ob (i_newDeal n a1) fun (r6 : Int × Int × (List (V4 Int))) => ckb (mkok 8 a2 a2) (ckb (mkok 8 a2 a2) (some (r6.1, r6.2.1, true, r6.2.2, (List.replicate a2.toNat 0), (List.replicate a2.toNat 0)))))

/-- s_NewGame -/
noncomputable def s_NewGame (n : Nat) (a1 : Int) (a2 : Int) : Option (Int × Int × Bool × (List (V4 Int)) × (List Int) × (List Int)) :=
  ob (s_NewDeal n a1) fun (r3 : Int × Int × Bool × (List (V4 Int))) => ob (br (! r3.2.2.1) (some true) (ob (s_l1In n a2 1 4) fun (r4 : Bool) => some (! r4))) fun (x5 : Bool) => br x5 (some (0, 0, false, ([] : List (V4 Int)), ([] : List Int), ([] : List Int))) (ckb (mkok 8 a2 a2) (ckb (mkok 8 a2 a2) (some (r3.1, r3.2.1, true, r3.2.2.2, (List.replicate a2.toNat 0), (List.replicate a2.toNat 0)))))

/-- i_PileOf -/
noncomputable def i_PileOf (n : Nat) (a1 : Int) : Option (Bool × (List (V4 Int))) :=
  ob (i_isSeed n a1) fun (r2 : Bool) => br (! r2) (some (false, ([] : List (V4 Int)))) (ob (i_pile n a1) fun (r3 : (List (V4 Int))) => some (true, r3))

/-- v_rSum -/
noncomputable def v_rSum_L1 (n : Nat) (go4 : (List (V4 Int)) × Int × (Int × (Int × (List (V4 Int)))) × (V4 Int) × (V4 Int) → Option ((V4 Int))) (go6 : (List (V4 Int)) × Int × Int × (Int × (Int × (List (V4 Int)))) × (V4 Int) × (V4 Int) → Option ((V4 Int))) (s7 : (List (V4 Int)) × Int × Int × (Int × (Int × (List (V4 Int)))) × (V4 Int) × (V4 Int)) : Option ((V4 Int)) :=
  br (decide (s7.2.2.1 < 4)) (ckb (inb s7.2.2.1 4) (ckb (inb s7.2.1 s7.2.2.2.1.2.2.length) (ckb (inb s7.2.2.1 4) (lt (w64 ((V4.get s7.2.2.2.2.2 s7.2.2.1.toNat) + (V4.get (gl (⟨0, 0, 0, 0⟩ : (V4 Int)) s7.2.2.2.1.2.2 s7.2.1.toNat) s7.2.2.1.toNat))) fun (x8 : Int) => lt (Int.tmod x8 3) fun (x9 : Int) => ckb (inb s7.2.2.1 4) (lt (V4.set s7.2.2.2.2.2 s7.2.2.1.toNat x9) fun (x10 : (V4 Int)) => lt (w64 (s7.2.2.1 + 1)) fun (x11 : Int) => go6 (s7.1, s7.2.1, x11, s7.2.2.2.1, s7.2.2.2.2.1, x10)))))) (lt (w64 (s7.2.1 + 1)) fun (x12 : Int) => go4 (s7.1, x12, s7.2.2.2.1, s7.2.2.2.2.1, s7.2.2.2.2.2))
noncomputable def v_rSum_L2 (n : Nat) (go13 : (List (V4 Int)) × Int × (V4 Int) × (V4 Int) → Option ((V4 Int))) (go15 : (List (V4 Int)) × Int × Int × (V4 Int) × (V4 Int) → Option ((V4 Int))) (s16 : (List (V4 Int)) × Int × Int × (V4 Int) × (V4 Int)) : Option ((V4 Int)) :=
  br (decide (s16.2.2.1 < 4)) (ckb (inb s16.2.2.1 4) (ckb (inb s16.2.1 s16.1.length) (ckb (inb s16.2.2.1 4) (lt (w64 ((V4.get s16.2.2.2.2 s16.2.2.1.toNat) + (V4.get (gl (⟨0, 0, 0, 0⟩ : (V4 Int)) s16.1 s16.2.1.toNat) s16.2.2.1.toNat))) fun (x17 : Int) => lt (Int.tmod x17 3) fun (x18 : Int) => ckb (inb s16.2.2.1 4) (lt (V4.set s16.2.2.2.2 s16.2.2.1.toNat x18) fun (x19 : (V4 Int)) => lt (w64 (s16.2.2.1 + 1)) fun (x20 : Int) => go15 (s16.1, s16.2.1, x20, s16.2.2.2.1, x19)))))) (lt (w64 (s16.2.1 + 1)) fun (x21 : Int) => go13 (s16.1, x21, s16.2.2.2.1, s16.2.2.2.2))
noncomputable def v_rSum_L3 (n : Nat) (go13 : (List (V4 Int)) × Int × (V4 Int) × (V4 Int) → Option ((V4 Int))) (s14 : (List (V4 Int)) × Int × (V4 Int) × (V4 Int)) : Option ((V4 Int)) :=
  br (decide (s14.2.1 < (s14.1.length : Int))) (fx (v_rSum_L2 n go13) n (s14.1, s14.2.1, 0, s14.2.2.1, s14.2.2.2)) (some s14.2.2.2)
noncomputable def v_rSum_L4 (n : Nat) (go4 : (List (V4 Int)) × Int × (Int × (Int × (List (V4 Int)))) × (V4 Int) × (V4 Int) → Option ((V4 Int))) (s5 : (List (V4 Int)) × Int × (Int × (Int × (List (V4 Int)))) × (V4 Int) × (V4 Int)) : Option ((V4 Int)) :=
  br (decide (s5.2.1 < (s5.2.2.1.2.2.length : Int))) (fx (v_rSum_L1 n go4) n (s5.1, s5.2.1, 0, s5.2.2.1, s5.2.2.2.1, s5.2.2.2.2)) (fx (v_rSum_L3 n) n (s5.1, s5.2.2.1.2.1, s5.2.2.2.1, s5.2.2.2.2))
noncomputable def v_rSum (n : Nat) (a1 : (Int × (Int × (List (V4 Int))))) (a2 : (List (V4 Int))) : Option ((V4 Int)) :=
  lt (⟨0, 0, 0, 0⟩ : (V4 Int)) fun (x3 : (V4 Int)) => fx (v_rSum_L4 n) n (a2, 0, a1, (⟨0, 0, 0, 0⟩ : (V4 Int)), x3)

/-- v_FnClaims -/
noncomputable def v_FnClaims_L1 (n : Nat) (go40 : Int × (List (Int × (V3 Int))) × Int × Int × (V4 Int) × Int × Int × (V4 Int) × (List (V4 Int)) × (List Int) × (List Int) × (List (V4 Int)) × (List Int) × (List Int) → Option (Bool)) (s41 : Int × (List (Int × (V3 Int))) × Int × Int × (V4 Int) × Int × Int × (V4 Int) × (List (V4 Int)) × (List Int) × (List Int) × (List (V4 Int)) × (List Int) × (List Int)) : Option (Bool) :=
  br (decide (s41.1 < (s41.2.1.length : Int))) (ckb (inb s41.1 s41.2.1.length) (ob (i_MakeClaim n ((s41.2.2.2.2.2.1, (s41.2.2.2.2.2.2.1, s41.2.2.2.2.2.2.2.2.2.2.2.1)), (s41.2.2.2.2.2.2.2.2.2.2.2.2.1, s41.2.2.2.2.2.2.2.2.2.2.2.2.2)) (gl (0, (⟨0, 0, 0⟩ : (V3 Int))) s41.2.1 s41.1.toNat)) fun (r42 : Int × Int × Int × Bool × (List (V4 Int)) × (List Int) × (List Int)) => br (! r42.2.2.2.1) (some false) (ckb (inb r42.2.2.1 4) (lt (w64 ((V4.get s41.2.2.2.2.2.2.2.1 r42.2.2.1.toNat) + 1)) fun (x43 : Int) => ckb (inb r42.2.2.1 4) (lt (V4.set s41.2.2.2.2.2.2.2.1 r42.2.2.1.toNat x43) fun (x44 : (V4 Int)) => lt (w64 (s41.1 + 1)) fun (x45 : Int) => go40 (x45, s41.2.1, s41.2.2.1, s41.2.2.2.1, s41.2.2.2.2.1, r42.1, r42.2.1, x44, s41.2.2.2.2.2.2.2.2.1, s41.2.2.2.2.2.2.2.2.2.1, s41.2.2.2.2.2.2.2.2.2.2.1, r42.2.2.2.2.1, r42.2.2.2.2.2.1, r42.2.2.2.2.2.2)))))) (ob (br (eqd s41.2.2.2.2.2.2.2.1 s41.2.2.2.2.1) (ob (v_rGame n ((s41.2.2.2.2.2.1, (s41.2.2.2.2.2.2.1, s41.2.2.2.2.2.2.2.2.2.2.2.1)), (s41.2.2.2.2.2.2.2.2.2.2.2.2.1, s41.2.2.2.2.2.2.2.2.2.2.2.2.2)) ((s41.2.2.1, (s41.2.2.2.1, s41.2.2.2.2.2.2.2.2.1)), (s41.2.2.2.2.2.2.2.2.2.1, s41.2.2.2.2.2.2.2.2.2.2.1))) fun (r46 : Bool) => some r46) (some false)) fun (x47 : Bool) => some x47)
noncomputable def v_FnClaims_J2 (n : Nat) (s38 : Bool × Int × Int × (List (Int × (V3 Int))) × Int × Int × (V4 Int) × (List (V4 Int)) × (List Int) × (List Int) × (List (V4 Int)) × (List Int) × (List Int)) : Option (Bool) :=
  br (! s38.1) (some true) (lt (⟨0, 0, 0, 0⟩ : (V4 Int)) fun (x39 : (V4 Int)) => fx (v_FnClaims_L1 n) n (0, s38.2.2.2.1, s38.2.2.2.2.1, s38.2.2.2.2.2.1, s38.2.2.2.2.2.2.1, s38.2.1, s38.2.2.1, x39, s38.2.2.2.2.2.2.2.2.2.2.1, s38.2.2.2.2.2.2.2.2.2.2.2.1, s38.2.2.2.2.2.2.2.2.2.2.2.2, s38.2.2.2.2.2.2.2.1, s38.2.2.2.2.2.2.2.2.1, s38.2.2.2.2.2.2.2.2.2.1))
noncomputable def v_FnClaims_J3 (n : Nat) (go54 : Int × Bool × Int × Int × Int × (Int × (V3 Int)) × Int × Int × Int × Int × (List (Int × (V3 Int))) × Int × Int × (V4 Int) × (List (V4 Int)) × (List Int) × (List Int) × (List (V4 Int)) × (List Int) × (List Int) × (List (V4 Int)) × (List Int) × (List Int) × (List (V4 Int)) × (List Int) × (List Int) → Option (Bool)) (s57 : Int × Bool × Int × Int × Int × Int × Int × (Int × (V3 Int)) × Int × Int × Int × Int × (List (Int × (V3 Int))) × Int × Int × (V4 Int) × (List (V4 Int)) × (List Int) × (List Int) × (List (V4 Int)) × (List Int) × (List Int) × (List (V4 Int)) × (List Int) × (List Int) × (List (V4 Int)) × (List Int) × (List Int)) : Option (Bool) :=
  ckb (inb s57.2.2.1 s57.2.2.2.2.2.2.2.2.2.2.2.2.2.2.2.2.2.2.2.2.1.length) (ob (br (!decide ((gl 0 s57.2.2.2.2.2.2.2.2.2.2.2.2.2.2.2.2.2.2.2.2.1 s57.2.2.1.toNat) = s57.2.2.2.1)) (some true) (ckb (inb s57.2.2.1 s57.2.2.2.2.2.2.2.2.2.2.2.2.2.2.2.2.2.2.2.2.2.1.length) (some (!decide ((gl 0 s57.2.2.2.2.2.2.2.2.2.2.2.2.2.2.2.2.2.2.2.2.2.1 s57.2.2.1.toNat) = s57.2.2.2.2.1))))) fun (x58 : Bool) => br x58 (some false) (lt (w64 (s57.2.2.1 + 1)) fun (x59 : Int) => go54 (s57.1, s57.2.1, x59, s57.2.2.2.2.2.1, s57.2.2.2.2.2.2.1, s57.2.2.2.2.2.2.2.1, s57.2.2.2.2.2.2.2.2.1, s57.2.2.2.2.2.2.2.2.2.1, s57.2.2.2.2.2.2.2.2.2.2.1, s57.2.2.2.2.2.2.2.2.2.2.2.1, s57.2.2.2.2.2.2.2.2.2.2.2.2.1, s57.2.2.2.2.2.2.2.2.2.2.2.2.2.1, s57.2.2.2.2.2.2.2.2.2.2.2.2.2.2.1, s57.2.2.2.2.2.2.2.2.2.2.2.2.2.2.2.1, s57.2.2.2.2.2.2.2.2.2.2.2.2.2.2.2.2.1, s57.2.2.2.2.2.2.2.2.2.2.2.2.2.2.2.2.2.1, s57.2.2.2.2.2.2.2.2.2.2.2.2.2.2.2.2.2.2.1, s57.2.2.2.2.2.2.2.2.2.2.2.2.2.2.2.2.2.2.2.1, s57.2.2.2.2.2.2.2.2.2.2.2.2.2.2.2.2.2.2.2.2.1, s57.2.2.2.2.2.2.2.2.2.2.2.2.2.2.2.2.2.2.2.2.2.1, s57.2.2.2.2.2.2.2.2.2.2.2.2.2.2.2.2.2.2.2.2.2.2.1, s57.2.2.2.2.2.2.2.2.2.2.2.2.2.2.2.2.2.2.2.2.2.2.2.1, s57.2.2.2.2.2.2.2.2.2.2.2.2.2.2.2.2.2.2.2.2.2.2.2.2.1, s57.2.2.2.2.2.2.2.2.2.2.2.2.2.2.2.2.2.2.2.2.2.2.2.2.2.1, s57.2.2.2.2.2.2.2.2.2.2.2.2.2.2.2.2.2.2.2.2.2.2.2.2.2.2.1, s57.2.2.2.2.2.2.2.2.2.2.2.2.2.2.2.2.2.2.2.2.2.2.2.2.2.2.2)))
noncomputable def v_FnClaims_J4 (n : Nat) (go54 : Int × Bool × Int × Int × Int × (Int × (V3 Int)) × Int × Int × Int × Int × (List (Int × (V3 Int))) × Int × Int × (V4 Int) × (List (V4 Int)) × (List Int) × (List Int) × (List (V4 Int)) × (List Int) × (List Int) × (List (V4 Int)) × (List Int) × (List Int) × (List (V4 Int)) × (List Int) × (List Int) → Option (Bool)) (s56 : Int × Bool × Int × Int × Int × Int × Int × (Int × (V3 Int)) × Int × Int × Int × Int × (List (Int × (V3 Int))) × Int × Int × (V4 Int) × (List (V4 Int)) × (List Int) × (List Int) × (List (V4 Int)) × (List Int) × (List Int) × (List (V4 Int)) × (List Int) × (List Int) × (List (V4 Int)) × (List Int) × (List Int)) : Option (Bool) :=
  ob (br (decide (s56.1 = 2)) (some (decide (s56.2.2.1 = s56.2.2.2.2.2.2.2.1.1))) (some false)) fun (x60 : Bool) => ob (br x60 (some (decide (s56.2.2.2.2.1 < 60))) (some false)) fun (x61 : Bool) => br x61 (lt (w64 (s56.2.2.2.2.1 + 1)) fun (x62 : Int) => v_FnClaims_J3 n go54 (s56.1, s56.2.1, s56.2.2.1, s56.2.2.2.1, x62, s56.2.2.2.2.2.1, s56.2.2.2.2.2.2.1, s56.2.2.2.2.2.2.2.1, s56.2.2.2.2.2.2.2.2.1, s56.2.2.2.2.2.2.2.2.2.1, s56.2.2.2.2.2.2.2.2.2.2.1, s56.2.2.2.2.2.2.2.2.2.2.2.1, s56.2.2.2.2.2.2.2.2.2.2.2.2.1, s56.2.2.2.2.2.2.2.2.2.2.2.2.2.1, s56.2.2.2.2.2.2.2.2.2.2.2.2.2.2.1, s56.2.2.2.2.2.2.2.2.2.2.2.2.2.2.2.1, s56.2.2.2.2.2.2.2.2.2.2.2.2.2.2.2.2.1, s56.2.2.2.2.2.2.2.2.2.2.2.2.2.2.2.2.2.1, s56.2.2.2.2.2.2.2.2.2.2.2.2.2.2.2.2.2.2.1, s56.2.2.2.2.2.2.2.2.2.2.2.2.2.2.2.2.2.2.2.1, s56.2.2.2.2.2.2.2.2.2.2.2.2.2.2.2.2.2.2.2.2.1, s56.2.2.2.2.2.2.2.2.2.2.2.2.2.2.2.2.2.2.2.2.2.1, s56.2.2.2.2.2.2.2.2.2.2.2.2.2.2.2.2.2.2.2.2.2.2.1, s56.2.2.2.2.2.2.2.2.2.2.2.2.2.2.2.2.2.2.2.2.2.2.2.1, s56.2.2.2.2.2.2.2.2.2.2.2.2.2.2.2.2.2.2.2.2.2.2.2.2.1, s56.2.2.2.2.2.2.2.2.2.2.2.2.2.2.2.2.2.2.2.2.2.2.2.2.2.1, s56.2.2.2.2.2.2.2.2.2.2.2.2.2.2.2.2.2.2.2.2.2.2.2.2.2.2.1, s56.2.2.2.2.2.2.2.2.2.2.2.2.2.2.2.2.2.2.2.2.2.2.2.2.2.2.2)) (v_FnClaims_J3 n go54 (s56.1, s56.2.1, s56.2.2.1, s56.2.2.2.1, s56.2.2.2.2.1, s56.2.2.2.2.2.1, s56.2.2.2.2.2.2.1, s56.2.2.2.2.2.2.2.1, s56.2.2.2.2.2.2.2.2.1, s56.2.2.2.2.2.2.2.2.2.1, s56.2.2.2.2.2.2.2.2.2.2.1, s56.2.2.2.2.2.2.2.2.2.2.2.1, s56.2.2.2.2.2.2.2.2.2.2.2.2.1, s56.2.2.2.2.2.2.2.2.2.2.2.2.2.1, s56.2.2.2.2.2.2.2.2.2.2.2.2.2.2.1, s56.2.2.2.2.2.2.2.2.2.2.2.2.2.2.2.1, s56.2.2.2.2.2.2.2.2.2.2.2.2.2.2.2.2.1, s56.2.2.2.2.2.2.2.2.2.2.2.2.2.2.2.2.2.1, s56.2.2.2.2.2.2.2.2.2.2.2.2.2.2.2.2.2.2.1, s56.2.2.2.2.2.2.2.2.2.2.2.2.2.2.2.2.2.2.2.1, s56.2.2.2.2.2.2.2.2.2.2.2.2.2.2.2.2.2.2.2.2.1, s56.2.2.2.2.2.2.2.2.2.2.2.2.2.2.2.2.2.2.2.2.2.1, s56.2.2.2.2.2.2.2.2.2.2.2.2.2.2.2.2.2.2.2.2.2.2.1, s56.2.2.2.2.2.2.2.2.2.2.2.2.2.2.2.2.2.2.2.2.2.2.2.1, s56.2.2.2.2.2.2.2.2.2.2.2.2.2.2.2.2.2.2.2.2.2.2.2.2.1, s56.2.2.2.2.2.2.2.2.2.2.2.2.2.2.2.2.2.2.2.2.2.2.2.2.2.1, s56.2.2.2.2.2.2.2.2.2.2.2.2.2.2.2.2.2.2.2.2.2.2.2.2.2.2.1, s56.2.2.2.2.2.2.2.2.2.2.2.2.2.2.2.2.2.2.2.2.2.2.2.2.2.2.2))
noncomputable def v_FnClaims_L5 (n : Nat) (go54 : Int × Bool × Int × Int × Int × (Int × (V3 Int)) × Int × Int × Int × Int × (List (Int × (V3 Int))) × Int × Int × (V4 Int) × (List (V4 Int)) × (List Int) × (List Int) × (List (V4 Int)) × (List Int) × (List Int) × (List (V4 Int)) × (List Int) × (List Int) × (List (V4 Int)) × (List Int) × (List Int) → Option (Bool)) (s55 : Int × Bool × Int × Int × Int × (Int × (V3 Int)) × Int × Int × Int × Int × (List (Int × (V3 Int))) × Int × Int × (V4 Int) × (List (V4 Int)) × (List Int) × (List Int) × (List (V4 Int)) × (List Int) × (List Int) × (List (V4 Int)) × (List Int) × (List Int) × (List (V4 Int)) × (List Int) × (List Int)) : Option (Bool) :=
  br (decide (s55.2.2.1 < (s55.2.2.2.2.2.2.2.2.2.2.2.2.2.2.2.1.length : Int))) (ckb (inb s55.2.2.1 s55.2.2.2.2.2.2.2.2.2.2.2.2.2.2.2.1.length) (ckb (inb s55.2.2.1 s55.2.2.2.2.2.2.2.2.2.2.2.2.2.2.2.2.1.length) (ob (br (decide (s55.1 = 1)) (some (decide (s55.2.2.1 = s55.2.2.2.2.2.1.1))) (some false)) fun (x63 : Bool) => ob (br x63 (some (decide ((gl 0 s55.2.2.2.2.2.2.2.2.2.2.2.2.2.2.2.1 s55.2.2.1.toNat) < 60))) (some false)) fun (x64 : Bool) => br x64 (lt (w64 ((gl 0 s55.2.2.2.2.2.2.2.2.2.2.2.2.2.2.2.1 s55.2.2.1.toNat) + 1)) fun (x65 : Int) => v_FnClaims_J4 n go54 (s55.1, s55.2.1, s55.2.2.1, x65, (gl 0 s55.2.2.2.2.2.2.2.2.2.2.2.2.2.2.2.2.1 s55.2.2.1.toNat), s55.2.2.2.1, s55.2.2.2.2.1, s55.2.2.2.2.2.1, s55.2.2.2.2.2.2.1, s55.2.2.2.2.2.2.2.1, s55.2.2.2.2.2.2.2.2.1, s55.2.2.2.2.2.2.2.2.2.1, s55.2.2.2.2.2.2.2.2.2.2.1, s55.2.2.2.2.2.2.2.2.2.2.2.1, s55.2.2.2.2.2.2.2.2.2.2.2.2.1, s55.2.2.2.2.2.2.2.2.2.2.2.2.2.1, s55.2.2.2.2.2.2.2.2.2.2.2.2.2.2.1, s55.2.2.2.2.2.2.2.2.2.2.2.2.2.2.2.1, s55.2.2.2.2.2.2.2.2.2.2.2.2.2.2.2.2.1, s55.2.2.2.2.2.2.2.2.2.2.2.2.2.2.2.2.2.1, s55.2.2.2.2.2.2.2.2.2.2.2.2.2.2.2.2.2.2.1, s55.2.2.2.2.2.2.2.2.2.2.2.2.2.2.2.2.2.2.2.1, s55.2.2.2.2.2.2.2.2.2.2.2.2.2.2.2.2.2.2.2.2.1, s55.2.2.2.2.2.2.2.2.2.2.2.2.2.2.2.2.2.2.2.2.2.1, s55.2.2.2.2.2.2.2.2.2.2.2.2.2.2.2.2.2.2.2.2.2.2.1, s55.2.2.2.2.2.2.2.2.2.2.2.2.2.2.2.2.2.2.2.2.2.2.2.1, s55.2.2.2.2.2.2.2.2.2.2.2.2.2.2.2.2.2.2.2.2.2.2.2.2.1, s55.2.2.2.2.2.2.2.2.2.2.2.2.2.2.2.2.2.2.2.2.2.2.2.2.2)) (v_FnClaims_J4 n go54 (s55.1, s55.2.1, s55.2.2.1, (gl 0 s55.2.2.2.2.2.2.2.2.2.2.2.2.2.2.2.1 s55.2.2.1.toNat), (gl 0 s55.2.2.2.2.2.2.2.2.2.2.2.2.2.2.2.2.1 s55.2.2.1.toNat), s55.2.2.2.1, s55.2.2.2.2.1, s55.2.2.2.2.2.1, s55.2.2.2.2.2.2.1, s55.2.2.2.2.2.2.2.1, s55.2.2.2.2.2.2.2.2.1, s55.2.2.2.2.2.2.2.2.2.1, s55.2.2.2.2.2.2.2.2.2.2.1, s55.2.2.2.2.2.2.2.2.2.2.2.1, s55.2.2.2.2.2.2.2.2.2.2.2.2.1, s55.2.2.2.2.2.2.2.2.2.2.2.2.2.1, s55.2.2.2.2.2.2.2.2.2.2.2.2.2.2.1, s55.2.2.2.2.2.2.2.2.2.2.2.2.2.2.2.1, s55.2.2.2.2.2.2.2.2.2.2.2.2.2.2.2.2.1, s55.2.2.2.2.2.2.2.2.2.2.2.2.2.2.2.2.2.1, s55.2.2.2.2.2.2.2.2.2.2.2.2.2.2.2.2.2.2.1, s55.2.2.2.2.2.2.2.2.2.2.2.2.2.2.2.2.2.2.2.1, s55.2.2.2.2.2.2.2.2.2.2.2.2.2.2.2.2.2.2.2.2.1, s55.2.2.2.2.2.2.2.2.2.2.2.2.2.2.2.2.2.2.2.2.2.1, s55.2.2.2.2.2.2.2.2.2.2.2.2.2.2.2.2.2.2.2.2.2.2.1, s55.2.2.2.2.2.2.2.2.2.2.2.2.2.2.2.2.2.2.2.2.2.2.2.1, s55.2.2.2.2.2.2.2.2.2.2.2.2.2.2.2.2.2.2.2.2.2.2.2.2.1, s55.2.2.2.2.2.2.2.2.2.2.2.2.2.2.2.2.2.2.2.2.2.2.2.2.2))))) (v_FnClaims_J2 n (s55.2.1, s55.2.2.2.2.2.2.2.2.1, s55.2.2.2.2.2.2.2.2.2.1, s55.2.2.2.2.2.2.2.2.2.2.1, s55.2.2.2.2.2.2.2.2.2.2.2.1, s55.2.2.2.2.2.2.2.2.2.2.2.2.1, s55.2.2.2.2.2.2.2.2.2.2.2.2.2.1, s55.2.2.2.2.2.2.2.2.2.2.2.2.2.2.2.2.2.2.2.2.1, s55.2.2.2.2.2.2.2.2.2.2.2.2.2.2.2.2.2.2.2.2.2.1, s55.2.2.2.2.2.2.2.2.2.2.2.2.2.2.2.2.2.2.2.2.2.2.1, s55.2.2.2.2.2.2.2.2.2.2.2.2.2.2.2.2.2.2.2.2.2.2.2.1, s55.2.2.2.2.2.2.2.2.2.2.2.2.2.2.2.2.2.2.2.2.2.2.2.2.1, s55.2.2.2.2.2.2.2.2.2.2.2.2.2.2.2.2.2.2.2.2.2.2.2.2.2))
noncomputable def v_FnClaims (n : Nat) (a1 : (List Int)) : Option (Bool) :=
  ob (v_rBig n a1) fun (r2 : Bool) => br r2 (some true) (ob (s_DrawMakeClaim n a1) fun (r3 : Int × Int × (Int × (V3 Int)) × (List (V4 Int)) × (List Int) × (List Int)) => ob (i_MakeClaim n ((r3.1, (r3.2.1, r3.2.2.2.1)), (r3.2.2.2.2.1, r3.2.2.2.2.2)) r3.2.2.1) fun (r4 : Int × Int × Int × Bool × (List (V4 Int)) × (List Int) × (List Int)) => ob (s_MakeClaim n ((r3.1, (r3.2.1, r3.2.2.2.1)), (r3.2.2.2.2.1, r3.2.2.2.2.2)) r3.2.2.1) fun (r5 : Int × Int × Int × Bool × (List (V4 Int)) × (List Int) × (List Int)) => ob (br (!decide (r4.2.2.1 = r5.2.2.1)) (some true) (some (! (r4.2.2.2.1 == r5.2.2.2.1)))) fun (x6 : Bool) => ob (br x6 (some true) (ob (v_rGame n ((r4.1, (r4.2.1, r4.2.2.2.2.1)), (r4.2.2.2.2.2.1, r4.2.2.2.2.2.2)) ((r5.1, (r5.2.1, r5.2.2.2.2.1)), (r5.2.2.2.2.2.1, r5.2.2.2.2.2.2))) fun (r7 : Bool) => some (! r7))) fun (x8 : Bool) => br x8 (some false) (ob (s_DrawClaimKind n a1) fun (r9 : Int × Int × (Int × (V3 Int)) × (List (V4 Int)) × (List Int) × (List Int)) => ob (i_ClaimKind n ((r9.1, (r9.2.1, r9.2.2.2.1)), (r9.2.2.2.2.1, r9.2.2.2.2.2)) r9.2.2.1) fun (r10 : Int × Bool) => ob (s_ClaimKind n ((r9.1, (r9.2.1, r9.2.2.2.1)), (r9.2.2.2.2.1, r9.2.2.2.2.2)) r9.2.2.1) fun (r11 : Int × Bool) => ob (br (!decide (r10.1 = r11.1)) (some true) (some (! (r10.2 == r11.2)))) fun (x12 : Bool) => ob (br x12 (some true) (ob (br r10.2 (ob (br (decide (r10.1 < 1)) (some true) (some (decide (3 < r10.1)))) fun (x13 : Bool) => some x13) (some false)) fun (x14 : Bool) => some x14)) fun (x15 : Bool) => br x15 (some false) (ob (s_DrawRunClaims n a1) fun (r16 : Int × Int × (List (V4 Int)) × (List Int) × (List Int) × (List (Int × (V3 Int)))) => ob (i_RunClaims n ((r16.1, (r16.2.1, r16.2.2.1)), (r16.2.2.2.1, r16.2.2.2.2.1)) r16.2.2.2.2.2) fun (r17 : Int × Int × (V4 Int) × Bool × (List (V4 Int)) × (List Int) × (List Int)) => ob (s_RunClaims n ((r16.1, (r16.2.1, r16.2.2.1)), (r16.2.2.2.1, r16.2.2.2.2.1)) r16.2.2.2.2.2) fun (r18 : Int × Int × (V4 Int) × Bool × (List (V4 Int)) × (List Int) × (List Int)) => ob (br (!eqd r17.2.2.1 r18.2.2.1) (some true) (some (! (r17.2.2.2.1 == r18.2.2.2.1)))) fun (x19 : Bool) => ob (br x19 (some true) (ob (v_rGame n ((r17.1, (r17.2.1, r17.2.2.2.2.1)), (r17.2.2.2.2.2.1, r17.2.2.2.2.2.2)) ((r18.1, (r18.2.1, r18.2.2.2.2.1)), (r18.2.2.2.2.2.1, r18.2.2.2.2.2.2))) fun (r20 : Bool) => some (! r20))) fun (x21 : Bool) => br x21 (some false) (ob (i_FirstRight n ((r16.1, (r16.2.1, r16.2.2.1)), (r16.2.2.2.1, r16.2.2.2.2.1)) r16.2.2.2.2.2) fun (r22 : Int × Bool) => ob (s_FirstRight n ((r16.1, (r16.2.1, r16.2.2.1)), (r16.2.2.2.1, r16.2.2.2.2.1)) r16.2.2.2.2.2) fun (r23 : Int × Bool) => ob (br (!decide (r22.1 = r23.1)) (some true) (some (! (r22.2 == r23.2)))) fun (x24 : Bool) => ob (br x24 (some true) (ob (br r17.2.2.2.1 (some (decide (0 < r17.2.2.1.x1))) (some false)) fun (x25 : Bool) => some (! (r22.2 == x25)))) fun (x26 : Bool) => br x26 (some false) (ob (s_DrawWorthClaims n a1) fun (r27 : Int × Int × Int × (List (V4 Int)) × (List Int) × (List Int) × (List (Int × (V3 Int)))) => ob (i_WorthClaims n ((r27.1, (r27.2.1, r27.2.2.2.1)), (r27.2.2.2.2.1, r27.2.2.2.2.2.1)) r27.2.2.2.2.2.2 r27.2.2.1) fun (r28 : Int × Bool) => ob (s_WorthClaims n ((r27.1, (r27.2.1, r27.2.2.2.1)), (r27.2.2.2.2.1, r27.2.2.2.2.2.1)) r27.2.2.2.2.2.2 r27.2.2.1) fun (r29 : Int × Bool) => ob (br (!decide (r28.1 = r29.1)) (some true) (some (! (r28.2 == r29.2)))) fun (x30 : Bool) => br x30 (some false) (ob (s_DrawNewGame n a1) fun (r31 : Int × Int) => ob (i_NewGame n r31.1 r31.2) fun (r32 : Int × Int × Bool × (List (V4 Int)) × (List Int) × (List Int)) => ob (s_NewGame n r31.1 r31.2) fun (r33 : Int × Int × Bool × (List (V4 Int)) × (List Int) × (List Int)) => ob (br (! (r32.2.2.1 == r33.2.2.1)) (some true) (ob (v_rGame n ((r32.1, (r32.2.1, r32.2.2.2.1)), (r32.2.2.2.2.1, r32.2.2.2.2.2)) ((r33.1, (r33.2.1, r33.2.2.2.1)), (r33.2.2.2.2.1, r33.2.2.2.2.2))) fun (r34 : Bool) => some (! r34))) fun (x35 : Bool) => ob (br x35 (some true) (ob (i_IsGame n ((r32.1, (r32.2.1, r32.2.2.2.1)), (r32.2.2.2.2.1, r32.2.2.2.2.2))) fun (r36 : Bool) => some (! (r32.2.2.1 == r36)))) fun (x37 : Bool) => br x37 (some false) (br r4.2.2.2.1 (ob (i_IsGame n ((r4.1, (r4.2.1, r4.2.2.2.2.1)), (r4.2.2.2.2.2.1, r4.2.2.2.2.2.2))) fun (r48 : Bool) => ob (br (! r48) (some true) (some (!decide ((r4.2.2.2.2.2.1.length : Int) = (r3.2.2.2.2.1.length : Int))))) fun (x49 : Bool) => br x49 (some false) (ob (i_PileOf n r3.1) fun (r50 : Bool × (List (V4 Int))) => ob (br (! r50.1) (some true) (ob (v_rSum n (r4.1, (r4.2.1, r4.2.2.2.2.1)) r50.2) fun (r51 : (V4 Int)) => ob (v_rSum n (r3.1, (r3.2.1, r3.2.2.2.1)) r50.2) fun (r52 : (V4 Int)) => some (!eqd r51 r52))) fun (x53 : Bool) => br x53 (some false) (fx (v_FnClaims_L5 n) n (r4.2.2.1, r17.2.2.2.1, 0, r3.1, r3.2.1, r3.2.2.1, r4.1, r4.2.1, r16.1, r16.2.1, r16.2.2.2.2.2, r17.1, r17.2.1, r17.2.2.1, r3.2.2.2.1, r3.2.2.2.2.1, r3.2.2.2.2.2, r4.2.2.2.2.1, r4.2.2.2.2.2.1, r4.2.2.2.2.2.2, r16.2.2.1, r16.2.2.2.1, r16.2.2.2.2.1, r17.2.2.2.2.1, r17.2.2.2.2.2.1, r17.2.2.2.2.2.2)))) (v_FnClaims_J2 n (r17.2.2.2.1, r16.1, r16.2.1, r16.2.2.2.2.2, r17.1, r17.2.1, r17.2.2.1, r16.2.2.1, r16.2.2.2.1, r16.2.2.2.2.1, r17.2.2.2.2.1, r17.2.2.2.2.2.1, r17.2.2.2.2.2.2)))))))))

/-- _impl_Deal__step -/
noncomputable def _impl_Deal__step (n : Nat) (a1 : (Int × (Int × (List (V4 Int))))) : Option (Int × Int × Bool × (List (V4 Int))) :=
  ob (i_linesIn n a1.2.2) fun (r2 : (List (V3 Int))) => br (decide (0 < (r2.length : Int))) (ckb (inb 0 r2.length) (ob (_impl_Deal__take n a1 (gl (⟨0, 0, 0⟩ : (V3 Int)) r2 0)) fun (r3 : Int × Int × (List (V4 Int))) => some (r3.1, r3.2.1, true, r3.2.2))) (ob (_impl_Deal__lay n a1 3) fun (r4 : Int × Int × (List (V4 Int))) => some (r4.1, r4.2.1, false, r4.2.2))

end Go.Pl
