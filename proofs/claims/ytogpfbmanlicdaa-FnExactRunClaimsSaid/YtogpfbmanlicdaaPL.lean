/- Printed by a program of the session: the program's functions as plain functions. -/
import Derived.Test.YtogpfbmanlicdaaZ0
import Derived.Lib.Bytealg
namespace Go.Pl
open Go Go.Tv Go.RowKit
set_option linter.unusedVariables false
def bls (a b : ByteArray) : Bool := Op.bytesLess a.toList b.toList
/-- v_toIntA4 -/
noncomputable def v_toIntA4_L1 (n : Nat) (go2 : Int × (V4 Int) × (V4 Int) × (V4 Int) → Option ((V4 Int))) (s3 : Int × (V4 Int) × (V4 Int) × (V4 Int)) : Option ((V4 Int)) :=
  br (decide (s3.1 < 4)) (ckb (inb s3.1 4) (ckb (inb s3.1 4) (lt (V4.set s3.2.2.2 s3.1.toNat (V4.get s3.2.1 s3.1.toNat)) fun (x4 : (V4 Int)) => lt (w64 (s3.1 + 1)) fun (x5 : Int) => go2 (x5, s3.2.1, s3.2.2.1, x4)))) (some s3.2.2.2)
noncomputable def v_toIntA4 (n : Nat) (a1 : (V4 Int)) : Option ((V4 Int)) :=
  fx (v_toIntA4_L1 n) n (0, a1, (⟨0, 0, 0, 0⟩ : (V4 Int)), (⟨0, 0, 0, 0⟩ : (V4 Int)))

/-- s_l1In -/
noncomputable def s_l1In (n : Nat) (a1 : Int) (a2 : Int) (a3 : Int) : Option (Bool) :=
  ob (br (decide (a2 ≤ a1)) (some (decide (a1 ≤ a3))) (some false)) fun (x4 : Bool) => some x4

/-- s_l2Card -/
noncomputable def s_l2Card_L1 (n : Nat) (go2 : Int × (V4 Int) → Option (Bool)) (s3 : Int × (V4 Int)) : Option (Bool) :=
  br (decide (s3.1 < 4)) (ckb (inb s3.1 4) (ob (s_l1In n (V4.get s3.2 s3.1.toNat) 0 2) fun (r4 : Bool) => br (! r4) (some false) (lt (w64 (s3.1 + 1)) fun (x5 : Int) => go2 (x5, s3.2)))) (some true)
noncomputable def s_l2Card (n : Nat) (a1 : (V4 Int)) : Option (Bool) :=
  fx (s_l2Card_L1 n) n (0, a1)

/-- i_within -/
noncomputable def i_within (n : Nat) (a1 : Int) (a2 : Int) (a3 : Int) : Option (Bool) :=
  ob (br (decide (a2 ≤ a1)) (some (decide (a1 ≤ a3))) (some false)) fun (x4 : Bool) => some x4

/-- i_allWithin_1'pp -/
noncomputable def i_allWithin_1'pp (n : Nat) (a1 : Int) (a2 : Int) (a3 : Int) : Option (Bool × Int × Int) :=
  ob (i_within n a1 a2 a3) fun (r4 : Bool) => some ((! r4), a2, a3)

/-- slices_IndexFunc_Sint_int_'l_i_allWithin_1pp -/
noncomputable def slices_IndexFunc_Sint_int_'l_i_allWithin_1pp_L1 (n : Nat) (go4 : (List Int) × Int × Int × Int × Int → Option (Int × Int × Int)) (s5 : (List Int) × Int × Int × Int × Int) : Option (Int × Int × Int) :=
  br (decide (s5.2.2.1 < s5.2.1)) (ckb (inb s5.2.2.1 s5.1.length) (ob (i_allWithin_1'pp n (gl 0 s5.1 s5.2.2.1.toNat) s5.2.2.2.1 s5.2.2.2.2) fun (r6 : Bool × Int × Int) => br r6.1 (some (s5.2.2.1, r6.2.1, r6.2.2)) (lt (w64 (s5.2.2.1 + 1)) fun (x7 : Int) => go4 (s5.1, s5.2.1, x7, r6.2.1, r6.2.2)))) (some ((-1), s5.2.2.2.1, s5.2.2.2.2))
noncomputable def slices_IndexFunc_Sint_int_'l_i_allWithin_1pp (n : Nat) (a1 : (List Int)) (a2 : Int) (a3 : Int) : Option (Int × Int × Int) :=
  fx (slices_IndexFunc_Sint_int_'l_i_allWithin_1pp_L1 n) n (a1, (a1.length : Int), 0, a2, a3)

/-- slices_ContainsFunc_Sint_int_'l_i_allWithin_1pp -/
noncomputable def slices_ContainsFunc_Sint_int_'l_i_allWithin_1pp (n : Nat) (a1 : (List Int)) (a2 : Int) (a3 : Int) : Option (Bool × Int × Int) :=
  ob (slices_IndexFunc_Sint_int_'l_i_allWithin_1pp n a1 a2 a3) fun (r4 : Int × Int × Int) => some ((decide (0 ≤ r4.1)), r4.2.1, r4.2.2)

/-- i_allWithin -/
noncomputable def i_allWithin (n : Nat) (a1 : (List Int)) (a2 : Int) (a3 : Int) : Option (Bool) :=
  ob (slices_ContainsFunc_Sint_int_'l_i_allWithin_1pp n a1 a2 a3) fun (r4 : Bool × Int × Int) => some (! r4.1)

/-- i_IsCard -/
noncomputable def i_IsCard (n : Nat) (a1 : (V4 Int)) : Option (Bool) :=
  ob (i_allWithin n (V4.els a1) 0 2) fun (r2 : Bool) => some r2

/-- slices_Clone_SA4_A4_ -/
noncomputable def slices_Clone_SA4_A4_ (n : Nat) (a1 : (List (V4 Int))) : Option ((List (V4 Int))) :=
  amb a1.isEmpty fun (b2 : Bool) => br b2 (some ([] : List (V4 Int))) (ckb (apok 32 (0 + a1.length)) (some a1))

/-- i_number -/
noncomputable def i_number_L1 (n : Nat) (go2 : Int × (V4 Int) × Int → Option (Int)) (s3 : Int × (V4 Int) × Int) : Option (Int) :=
  br (decide (s3.2.2 < 4)) (ckb (inb s3.2.2 4) (lt (w64 (3 * s3.1)) fun (x4 : Int) => lt (w64 (x4 + (V4.get s3.2.1 s3.2.2.toNat))) fun (x5 : Int) => lt (w64 (s3.2.2 + 1)) fun (x6 : Int) => go2 (x5, s3.2.1, x6))) (some s3.1)
noncomputable def i_number (n : Nat) (a1 : (V4 Int)) : Option (Int) :=
  fx (i_number_L1 n) n (0, a1, 0)

/-- v_eqIntA4 -/
noncomputable def v_eqIntA4_L1 (n : Nat) (go3 : Int × (V4 Int) × (V4 Int) → Option (Bool)) (s4 : Int × (V4 Int) × (V4 Int)) : Option (Bool) :=
  br (decide (s4.1 < 4)) (ckb (inb s4.1 4) (ckb (inb s4.1 4) (br (!decide ((V4.get s4.2.1 s4.1.toNat) = (V4.get s4.2.2 s4.1.toNat))) (some false) (lt (w64 (s4.1 + 1)) fun (x5 : Int) => go3 (x5, s4.2.1, s4.2.2))))) (some true)
noncomputable def v_eqIntA4 (n : Nat) (a1 : (V4 Int)) (a2 : (V4 Int)) : Option (Bool) :=
  fx (v_eqIntA4_L1 n) n (0, a1, a2)

/-- s_Cur_next'p -/
noncomputable def s_Cur_next'p_J1 (n : Nat) (s2 : Int × ((List Int) × (Int × Int))) : Option (Int × ((List Int) × (Int × Int))) :=
  lt (w64 (s2.2.2.1 + 1)) fun (x3 : Int) => lt (s2.2.1, (x3, s2.2.2.2)) fun (x4 : ((List Int) × (Int × Int))) => lt (IntKind.wrap .u64 (x4.2.2 * 6364136223846793005)) fun (x5 : Int) => lt (IntKind.wrap .u64 s2.1) fun (x6 : Int) => lt (IntKind.wrap .u64 (x5 + x6)) fun (x7 : Int) => lt (IntKind.wrap .u64 (x7 + 462197)) fun (x8 : Int) => lt (x4.1, (x4.2.1, x8)) fun (x9 : ((List Int) × (Int × Int))) => br (decide (x9.2.1 ≤ (x9.1.length : Int))) (some (s2.1, x9)) (lt (shrI .u64 x9.2.2 40) fun (x10 : Int) => lt (bits .and .u64 x10 255) fun (x11 : Int) => lt (w64 x11) fun (x12 : Int) => some (x12, x9))
noncomputable def s_Cur_next'p (n : Nat) (a1 : ((List Int) × (Int × Int))) : Option (Int × ((List Int) × (Int × Int))) :=
  br (decide (a1.2.1 < (a1.1.length : Int))) (ckb (inb a1.2.1 a1.1.length) (lt (w64 (gl 0 a1.1 a1.2.1.toNat)) fun (x13 : Int) => s_Cur_next'p_J1 n (x13, a1))) (s_Cur_next'p_J1 n (0, a1))

/-- s_Cur_pick'p -/
noncomputable def s_Cur_pick'p (n : Nat) (a1 : Int) (a2 : ((List Int) × (Int × Int))) : Option (Int × ((List Int) × (Int × Int))) :=
  br (decide (a1 ≤ 1)) (some (0, a2)) (ob (s_Cur_next'p n a2) fun (r3 : Int × ((List Int) × (Int × Int))) => br (decide (200 < a1)) (lt (w64 (r3.1 * 256)) fun (x4 : Int) => ob (s_Cur_next'p n r3.2) fun (r5 : Int × ((List Int) × (Int × Int))) => lt (w64 (x4 + r5.1)) fun (x6 : Int) => ckb (!decide (a1 = 0)) (lt (Int.tmod x6 a1) fun (x7 : Int) => some (x7, r5.2))) (ckb (!decide (a1 = 0)) (lt (Int.tmod r3.1 a1) fun (x8 : Int) => some (x8, r3.2))))

/-- s_Cur_among'pl -/
noncomputable def s_Cur_among'pl (n : Nat) (a1 : (List Int)) (a2 : ((List Int) × (Int × Int))) : Option (Int × ((List Int) × (Int × Int))) :=
  ob (s_Cur_pick'p n (a1.length : Int) a2) fun (r3 : Int × ((List Int) × (Int × Int))) => ckb (inb r3.1 a1.length) (some ((gl 0 a1 r3.1.toNat), r3.2))

/-- s_l1Most -/
noncomputable def s_l1Most (n : Nat) (a1 : Int) (a2 : Int) : Option (Int) :=
  br (decide (a2 < a1)) (some a1) (some a2)

/-- s_l2At -/
noncomputable def s_l2At (n : Nat) (a1 : Int) : Option ((V4 Int)) :=
  lt (w64 (Int.tdiv a1 27)) fun (x2 : Int) => lt (w64 (Int.tdiv a1 9)) fun (x3 : Int) => lt (Int.tmod x3 3) fun (x4 : Int) => lt (w64 (Int.tdiv a1 3)) fun (x5 : Int) => lt (Int.tmod x5 3) fun (x6 : Int) => lt (Int.tmod a1 3) fun (x7 : Int) => lt (⟨x2, x4, x6, x7⟩ : (V4 Int)) fun (x8 : (V4 Int)) => some x8

/-- s_l2Number -/
noncomputable def s_l2Number (n : Nat) (a1 : (V4 Int)) : Option (Int) :=
  lt (w64 (27 * a1.x0)) fun (x2 : Int) => lt (w64 (9 * a1.x1)) fun (x3 : Int) => lt (w64 (x2 + x3)) fun (x4 : Int) => lt (w64 (3 * a1.x2)) fun (x5 : Int) => lt (w64 (x4 + x5)) fun (x6 : Int) => lt (w64 (x6 + a1.x3)) fun (x7 : Int) => some x7

/-- s_l2Less -/
noncomputable def s_l2Less (n : Nat) (a1 : (V4 Int)) (a2 : (V4 Int)) : Option (Bool) :=
  ob (s_l2Number n a1) fun (r3 : Int) => ob (s_l2Number n a2) fun (r4 : Int) => some (decide (r3 < r4))

/-- s_l2Own -/
noncomputable def s_l2Own (n : Nat) (a1 : (List (V4 Int))) : Option ((List (V4 Int))) :=
  ckb (apok 32 (0 + a1.length)) (some a1)

/-- s_Cur_one'p -/
noncomputable def s_Cur_one'p (n : Nat) (a1 : Int) (a2 : ((List Int) × (Int × Int))) : Option (Bool × ((List Int) × (Int × Int))) :=
  ob (s_Cur_pick'p n a1 a2) fun (r3 : Int × ((List Int) × (Int × Int))) => some ((decide (r3.1 = 0)), r3.2)

/-- s_l2Hand -/
noncomputable def s_l2Hand_L1 (n : Nat) (go2 : (List (V4 Int)) × Int → Option (Bool)) (s3 : (List (V4 Int)) × Int) : Option (Bool) :=
  ob (br (decide (s3.2 < (s3.1.length : Int))) (some (decide (s3.2 ≤ 27))) (some false)) fun (x4 : Bool) => br x4 (ckb (inb s3.2 s3.1.length) (ob (s_l2Card n (gl (⟨0, 0, 0, 0⟩ : (V4 Int)) s3.1 s3.2.toNat)) fun (r5 : Bool) => ob (br (! r5) (some true) (ob (br (decide (0 < s3.2)) (lt (w64 (s3.2 - 1)) fun (x6 : Int) => ckb (inb x6 s3.1.length) (ckb (inb s3.2 s3.1.length) (ob (s_l2Less n (gl (⟨0, 0, 0, 0⟩ : (V4 Int)) s3.1 x6.toNat) (gl (⟨0, 0, 0, 0⟩ : (V4 Int)) s3.1 s3.2.toNat)) fun (r7 : Bool) => some (! r7)))) (some false)) fun (x8 : Bool) => some x8)) fun (x9 : Bool) => br x9 (some false) (lt (w64 (s3.2 + 1)) fun (x10 : Int) => go2 (s3.1, x10)))) (some (decide ((s3.1.length : Int) ≤ 27)))
noncomputable def s_l2Hand (n : Nat) (a1 : (List (V4 Int))) : Option (Bool) :=
  fx (s_l2Hand_L1 n) n (a1, 0)

/-- s_l2Third -/
noncomputable def s_l2Third_L1 (n : Nat) (go4 : Int × (V4 Int) × (V4 Int) × (V4 Int) × (V4 Int) → Option ((V4 Int))) (s5 : Int × (V4 Int) × (V4 Int) × (V4 Int) × (V4 Int)) : Option ((V4 Int)) :=
  br (decide (s5.1 < 4)) (ckb (inb s5.1 4) (lt (w64 (6 - (V4.get s5.2.1 s5.1.toNat))) fun (x6 : Int) => ckb (inb s5.1 4) (lt (w64 (x6 - (V4.get s5.2.2.1 s5.1.toNat))) fun (x7 : Int) => lt (Int.tmod x7 3) fun (x8 : Int) => ckb (inb s5.1 4) (lt (V4.set s5.2.2.2.2 s5.1.toNat x8) fun (x9 : (V4 Int)) => lt (w64 (s5.1 + 1)) fun (x10 : Int) => go4 (x10, s5.2.1, s5.2.2.1, s5.2.2.2.1, x9))))) (some s5.2.2.2.2)
noncomputable def s_l2Third (n : Nat) (a1 : (V4 Int)) (a2 : (V4 Int)) : Option ((V4 Int)) :=
  lt (⟨0, 0, 0, 0⟩ : (V4 Int)) fun (x3 : (V4 Int)) => fx (s_l2Third_L1 n) n (0, a1, a2, (⟨0, 0, 0, 0⟩ : (V4 Int)), x3)

/-- i_IsHand -/
noncomputable def i_IsHand_L1 (n : Nat) (go2 : (List (V4 Int)) × (List (V4 Int)) × Int × Int → Option (Bool)) (s3 : (List (V4 Int)) × (List (V4 Int)) × Int × Int) : Option (Bool) :=
  br (decide (s3.2.2.2 < s3.2.2.1)) (ckb (inb s3.2.2.2 s3.2.1.length) (ob (i_IsCard n (gl (⟨0, 0, 0, 0⟩ : (V4 Int)) s3.2.1 s3.2.2.2.toNat)) fun (r4 : Bool) => ob (br (! r4) (some true) (ob (br (decide (0 < s3.2.2.2)) (lt (w64 (s3.2.2.2 - 1)) fun (x5 : Int) => ckb (inb x5 s3.1.length) (ob (i_number n (gl (⟨0, 0, 0, 0⟩ : (V4 Int)) s3.1 x5.toNat)) fun (r6 : Int) => ob (i_number n (gl (⟨0, 0, 0, 0⟩ : (V4 Int)) s3.2.1 s3.2.2.2.toNat)) fun (r7 : Int) => some (decide (r7 ≤ r6)))) (some false)) fun (x8 : Bool) => some x8)) fun (x9 : Bool) => br x9 (some false) (lt (w64 (s3.2.2.2 + 1)) fun (x10 : Int) => go2 (s3.1, s3.2.1, s3.2.2.1, x10)))) (some (decide ((s3.1.length : Int) ≤ 27)))
noncomputable def i_IsHand (n : Nat) (a1 : (List (V4 Int))) : Option (Bool) :=
  fx (i_IsHand_L1 n) n (a1, a1, (a1.length : Int), 0)

/-- i_card -/
noncomputable def i_card (n : Nat) (a1 : Int) : Option ((V4 Int)) :=
  lt (w64 (Int.tdiv a1 27)) fun (x2 : Int) => lt (w64 (Int.tdiv a1 9)) fun (x3 : Int) => lt (Int.tmod x3 3) fun (x4 : Int) => lt (w64 (Int.tdiv a1 3)) fun (x5 : Int) => lt (Int.tmod x5 3) fun (x6 : Int) => lt (Int.tmod a1 3) fun (x7 : Int) => lt (⟨x2, x4, x6, x7⟩ : (V4 Int)) fun (x8 : (V4 Int)) => some x8

/-- slices_Index_SA4_A4_ -/
noncomputable def slices_Index_SA4_A4__L1 (n : Nat) (go3 : (List (V4 Int)) × Int × Int × (V4 Int) → Option (Int)) (s4 : (List (V4 Int)) × Int × Int × (V4 Int)) : Option (Int) :=
  br (decide (s4.2.2.1 < s4.2.1)) (ckb (inb s4.2.2.1 s4.1.length) (br (eqd s4.2.2.2 (gl (⟨0, 0, 0, 0⟩ : (V4 Int)) s4.1 s4.2.2.1.toNat)) (some s4.2.2.1) (lt (w64 (s4.2.2.1 + 1)) fun (x5 : Int) => go3 (s4.1, s4.2.1, x5, s4.2.2.2)))) (some (-1))
noncomputable def slices_Index_SA4_A4_ (n : Nat) (a1 : (List (V4 Int))) (a2 : (V4 Int)) : Option (Int) :=
  fx (slices_Index_SA4_A4__L1 n) n (a1, (a1.length : Int), 0, a2)

/-- slices_Contains_SA4_A4_ -/
noncomputable def slices_Contains_SA4_A4_ (n : Nat) (a1 : (List (V4 Int))) (a2 : (V4 Int)) : Option (Bool) :=
  ob (slices_Index_SA4_A4_ n a1 a2) fun (r3 : Int) => some (decide (0 ≤ r3))

/-- i_has -/
noncomputable def i_has (n : Nat) (a1 : (List (V4 Int))) (a2 : (V4 Int)) : Option (Bool) :=
  ob (slices_Contains_SA4_A4_ n a1 a2) fun (r3 : Bool) => some r3

/-- i_third -/
noncomputable def i_third_L1 (n : Nat) (go4 : Int × (V4 Int) × (V4 Int) × (V4 Int) × (V4 Int) → Option ((V4 Int))) (s5 : Int × (V4 Int) × (V4 Int) × (V4 Int) × (V4 Int)) : Option ((V4 Int)) :=
  br (decide (s5.1 < 4)) (ckb (inb s5.1 4) (lt (w64 (6 - (V4.get s5.2.1 s5.1.toNat))) fun (x6 : Int) => ckb (inb s5.1 4) (lt (w64 (x6 - (V4.get s5.2.2.1 s5.1.toNat))) fun (x7 : Int) => lt (Int.tmod x7 3) fun (x8 : Int) => ckb (inb s5.1 4) (lt (V4.set s5.2.2.2.2 s5.1.toNat x8) fun (x9 : (V4 Int)) => lt (w64 (s5.1 + 1)) fun (x10 : Int) => go4 (x10, s5.2.1, s5.2.2.1, s5.2.2.2.1, x9))))) (some s5.2.2.2.2)
noncomputable def i_third (n : Nat) (a1 : (V4 Int)) (a2 : (V4 Int)) : Option ((V4 Int)) :=
  lt (⟨0, 0, 0, 0⟩ : (V4 Int)) fun (x3 : (V4 Int)) => fx (i_third_L1 n) n (0, a1, a2, (⟨0, 0, 0, 0⟩ : (V4 Int)), x3)

/-- i_linesIn -/
noncomputable def i_linesIn_L1 (n : Nat) (go9 : (List (V4 Int)) × (List (V4 Int)) × Int × Int × (VL 81 Int) × (List (V3 Int)) → Option ((List (V3 Int)))) (go12 : (List (V4 Int)) × Int × Int × (List (V4 Int)) × Int × Int × (VL 81 Int) × (List (V3 Int)) × (V4 Int) → Option ((List (V3 Int)))) (s13 : (List (V4 Int)) × Int × Int × (List (V4 Int)) × Int × Int × (VL 81 Int) × (List (V3 Int)) × (V4 Int)) : Option ((List (V3 Int))) :=
  br (decide (s13.2.2.1 < (s13.1.length : Int))) (ckb (inb s13.2.2.1 s13.1.length) (ob (i_third n s13.2.2.2.2.2.2.2.2 (gl (⟨0, 0, 0, 0⟩ : (V4 Int)) s13.1 s13.2.2.1.toNat)) fun (r14 : (V4 Int)) => ob (i_number n r14) fun (r15 : Int) => ckb (inb r15 81) (lt (w64 ((VL.get 0 s13.2.2.2.2.2.2.1 r15.toNat) - 1)) fun (x16 : Int) => br (decide (s13.2.2.1 < x16)) (lt (⟨s13.2.1, s13.2.2.1, x16⟩ : (V3 Int)) fun (x17 : (V3 Int)) => ckb (apok 24 (s13.2.2.2.2.2.2.2.1.length + 1)) (lt (w64 (s13.2.2.1 + 1)) fun (x18 : Int) => go12 (s13.1, s13.2.1, x18, s13.2.2.2.1, s13.2.2.2.2.1, s13.2.2.2.2.2.1, s13.2.2.2.2.2.2.1, (s13.2.2.2.2.2.2.2.1 ++ [x17]), s13.2.2.2.2.2.2.2.2))) (lt (w64 (s13.2.2.1 + 1)) fun (x19 : Int) => go12 (s13.1, s13.2.1, x19, s13.2.2.2.1, s13.2.2.2.2.1, s13.2.2.2.2.2.1, s13.2.2.2.2.2.2.1, s13.2.2.2.2.2.2.2.1, s13.2.2.2.2.2.2.2.2))))) (lt (w64 (s13.2.2.2.2.2.1 + 1)) fun (x20 : Int) => go9 (s13.1, s13.2.2.2.1, s13.2.2.2.2.1, x20, s13.2.2.2.2.2.2.1, s13.2.2.2.2.2.2.2.1))
noncomputable def i_linesIn_L2 (n : Nat) (go9 : (List (V4 Int)) × (List (V4 Int)) × Int × Int × (VL 81 Int) × (List (V3 Int)) → Option ((List (V3 Int)))) (s10 : (List (V4 Int)) × (List (V4 Int)) × Int × Int × (VL 81 Int) × (List (V3 Int))) : Option ((List (V3 Int))) :=
  br (decide (s10.2.2.2.1 < s10.2.2.1)) (ckb (inb s10.2.2.2.1 s10.2.1.length) (lt (w64 (s10.2.2.2.1 + 1)) fun (x11 : Int) => fx (i_linesIn_L1 n go9) n (s10.1, s10.2.2.2.1, x11, s10.2.1, s10.2.2.1, s10.2.2.2.1, s10.2.2.2.2.1, s10.2.2.2.2.2, (gl (⟨0, 0, 0, 0⟩ : (V4 Int)) s10.2.1 s10.2.2.2.1.toNat)))) (some s10.2.2.2.2.2)
noncomputable def i_linesIn_L3 (n : Nat) (go3 : (List (V4 Int)) × (List (V4 Int)) × Int × Int × (VL 81 Int) → Option ((List (V3 Int)))) (s4 : (List (V4 Int)) × (List (V4 Int)) × Int × Int × (VL 81 Int)) : Option ((List (V3 Int))) :=
  br (decide (s4.2.2.2.1 < s4.2.2.1)) (ckb (inb s4.2.2.2.1 s4.2.1.length) (ob (i_number n (gl (⟨0, 0, 0, 0⟩ : (V4 Int)) s4.2.1 s4.2.2.2.1.toNat)) fun (r5 : Int) => lt (w64 (s4.2.2.2.1 + 1)) fun (x6 : Int) => ckb (inb r5 81) (lt (VL.set s4.2.2.2.2 r5.toNat x6) fun (x7 : (VL 81 Int)) => lt (w64 (s4.2.2.2.1 + 1)) fun (x8 : Int) => go3 (s4.1, s4.2.1, s4.2.2.1, x8, x7)))) (fx (i_linesIn_L2 n) n (s4.1, s4.1, (s4.1.length : Int), 0, s4.2.2.2.2, ([] : List (V3 Int))))
noncomputable def i_linesIn (n : Nat) (a1 : (List (V4 Int))) : Option ((List (V3 Int))) :=
  lt (VL.rep 81 0) fun (x2 : (VL 81 Int)) => fx (i_linesIn_L3 n) n (a1, a1, (a1.length : Int), 0, x2)

/-- s_l2Place -/
noncomputable def s_l2Place_L1 (n : Nat) (go3 : (List (V4 Int)) × Int × (V4 Int) → Option (Int)) (s4 : (List (V4 Int)) × Int × (V4 Int)) : Option (Int) :=
  br (decide (s4.2.1 < (s4.1.length : Int))) (ckb (inb s4.2.1 s4.1.length) (br (eqd (gl (⟨0, 0, 0, 0⟩ : (V4 Int)) s4.1 s4.2.1.toNat) s4.2.2) (some s4.2.1) (lt (w64 (s4.2.1 + 1)) fun (x5 : Int) => go3 (s4.1, x5, s4.2.2)))) (some (-1))
noncomputable def s_l2Place (n : Nat) (a1 : (List (V4 Int))) (a2 : (V4 Int)) : Option (Int) :=
  fx (s_l2Place_L1 n) n (a1, 0, a2)

/-- s_l2Lines -/
noncomputable def s_l2Lines_L1 (n : Nat) (go2 : (List (V4 Int)) × Int × (List (V3 Int)) → Option ((List (V3 Int)))) (go5 : (List (V4 Int)) × Int × Int × (List (V3 Int)) → Option ((List (V3 Int)))) (s6 : (List (V4 Int)) × Int × Int × (List (V3 Int))) : Option ((List (V3 Int))) :=
  br (decide (s6.2.2.1 < (s6.1.length : Int))) (ckb (inb s6.2.1 s6.1.length) (ckb (inb s6.2.2.1 s6.1.length) (ob (s_l2Third n (gl (⟨0, 0, 0, 0⟩ : (V4 Int)) s6.1 s6.2.1.toNat) (gl (⟨0, 0, 0, 0⟩ : (V4 Int)) s6.1 s6.2.2.1.toNat)) fun (r7 : (V4 Int)) => ob (s_l2Place n s6.1 r7) fun (r8 : Int) => br (decide (s6.2.2.1 < r8)) (lt (⟨s6.2.1, s6.2.2.1, r8⟩ : (V3 Int)) fun (x9 : (V3 Int)) => ckb (apok 24 (s6.2.2.2.length + 1)) (lt (w64 (s6.2.2.1 + 1)) fun (x10 : Int) => go5 (s6.1, s6.2.1, x10, (s6.2.2.2 ++ [x9])))) (lt (w64 (s6.2.2.1 + 1)) fun (x11 : Int) => go5 (s6.1, s6.2.1, x11, s6.2.2.2))))) (lt (w64 (s6.2.1 + 1)) fun (x12 : Int) => go2 (s6.1, x12, s6.2.2.2))
noncomputable def s_l2Lines_L2 (n : Nat) (go2 : (List (V4 Int)) × Int × (List (V3 Int)) → Option ((List (V3 Int)))) (s3 : (List (V4 Int)) × Int × (List (V3 Int))) : Option ((List (V3 Int))) :=
  br (decide (s3.2.1 < (s3.1.length : Int))) (lt (w64 (s3.2.1 + 1)) fun (x4 : Int) => fx (s_l2Lines_L1 n go2) n (s3.1, s3.2.1, x4, s3.2.2)) (some s3.2.2)
noncomputable def s_l2Lines (n : Nat) (a1 : (List (V4 Int))) : Option ((List (V3 Int))) :=
  fx (s_l2Lines_L2 n) n (a1, 0, ([] : List (V3 Int)))

/-- s_l2Has -/
noncomputable def s_l2Has (n : Nat) (a1 : (List (V4 Int))) (a2 : (V4 Int)) : Option (Bool) :=
  ob (s_l2Place n a1 a2) fun (r3 : Int) => some (decide (0 ≤ r3))

/-- s_l2Line -/
noncomputable def s_l2Line (n : Nat) (a1 : (V4 Int)) (a2 : (V4 Int)) (a3 : (V4 Int)) : Option (Bool) :=
  ob (br (!eqd a1 a2) (ob (s_l2Third n a1 a2) fun (r4 : (V4 Int)) => some (eqd r4 a3)) (some false)) fun (x5 : Bool) => some x5

/-- s_Cur_card'p -/
noncomputable def s_Cur_card'p (n : Nat) (a1 : ((List Int) × (Int × Int))) : Option ((V4 Int) × ((List Int) × (Int × Int))) :=
  ob (s_Cur_pick'p n 81 a1) fun (r2 : Int × ((List Int) × (Int × Int))) => ob (s_l2At n r2.1) fun (r3 : (V4 Int)) => ob (s_Cur_one'p n 40 r2.2) fun (r4 : Bool × ((List Int) × (Int × Int))) => br r4.1 (ob (s_Cur_pick'p n 4 r4.2) fun (r5 : Int × ((List Int) × (Int × Int))) => ob (s_Cur_among'pl n [(-1), 3, 4611686018427387904, (-9223372036854775808)] r5.2) fun (r6 : Int × ((List Int) × (Int × Int))) => ckb (inb r5.1 4) (lt (V4.set r3 r5.1.toNat r6.1) fun (x7 : (V4 Int)) => some (x7, r6.2))) (some (r3, r4.2))

/-- s_l1Least -/
noncomputable def s_l1Least (n : Nat) (a1 : Int) (a2 : Int) : Option (Int) :=
  br (decide (a1 < a2)) (some a1) (some a2)

/-- i_isLine -/
noncomputable def i_isLine (n : Nat) (a1 : (V4 Int)) (a2 : (V4 Int)) (a3 : (V4 Int)) : Option (Bool) :=
  ob (br (!eqd a1 a2) (ob (i_third n a1 a2) fun (r4 : (V4 Int)) => some (eqd r4 a3)) (some false)) fun (x5 : Bool) => some x5

/-- v_szIntA4S -/
noncomputable def v_szIntA4S (n : Nat) (a1 : (List (V4 Int))) (a2 : Int) : Option (Int) :=
  lt (w64 (a2 - (a1.length : Int))) fun (x3 : Int) => br (decide (x3 < 0)) (some (-1)) (some x3)

/-- v_szDeal -/
noncomputable def v_szDeal (n : Nat) (a1 : (Int × (Int × (List (V4 Int))))) (a2 : Int) : Option (Int) :=
  ob (v_szIntA4S n a1.2.2 a2) fun (r3 : Int) => br (decide (r3 < 0)) (some (-1)) (some r3)

/-- v_szIntS -/
noncomputable def v_szIntS (n : Nat) (a1 : (List Int)) (a2 : Int) : Option (Int) :=
  lt (w64 (a2 - (a1.length : Int))) fun (x3 : Int) => br (decide (x3 < 0)) (some (-1)) (some x3)

/-- v_szGame -/
noncomputable def v_szGame (n : Nat) (a1 : ((Int × (Int × (List (V4 Int)))) × ((List Int) × (List Int)))) (a2 : Int) : Option (Int) :=
  ob (v_szDeal n a1.1 a2) fun (r3 : Int) => br (decide (r3 < 0)) (some (-1)) (ob (v_szIntS n a1.2.1 r3) fun (r4 : Int) => br (decide (r4 < 0)) (some (-1)) (ob (v_szIntS n a1.2.2 r4) fun (r5 : Int) => br (decide (r5 < 0)) (some (-1)) (some r5)))

/-- v_szClaimS -/
noncomputable def v_szClaimS (n : Nat) (a1 : (List (Int × (V3 Int)))) (a2 : Int) : Option (Int) :=
  lt (w64 (a2 - (a1.length : Int))) fun (x3 : Int) => br (decide (x3 < 0)) (some (-1)) (some x3)

/-- v_toIntA4S -/
noncomputable def v_toIntA4S_L1 (n : Nat) (go2 : (List (V4 Int)) × Int × (List (V4 Int)) → Option ((List (V4 Int)))) (s3 : (List (V4 Int)) × Int × (List (V4 Int))) : Option ((List (V4 Int))) :=
  br (decide (s3.2.1 < (s3.1.length : Int))) (ckb (inb s3.2.1 s3.1.length) (ob (v_toIntA4 n (gl (⟨0, 0, 0, 0⟩ : (V4 Int)) s3.1 s3.2.1.toNat)) fun (r4 : (V4 Int)) => ckb (inb s3.2.1 s3.2.2.length) (lt (List.set s3.2.2 s3.2.1.toNat r4) fun (x5 : (List (V4 Int))) => lt (w64 (s3.2.1 + 1)) fun (x6 : Int) => go2 (s3.1, x6, x5)))) (some s3.2.2)
noncomputable def v_toIntA4S (n : Nat) (a1 : (List (V4 Int))) : Option ((List (V4 Int))) :=
  ckb (mkok 32 (a1.length : Int) (a1.length : Int)) (fx (v_toIntA4S_L1 n) n (a1, 0, (List.replicate a1.length (⟨0, 0, 0, 0⟩ : (V4 Int)))))

/-- v_toDeal -/
noncomputable def v_toDeal (n : Nat) (a1 : (Int × (Int × (List (V4 Int))))) : Option (Int × Int × (List (V4 Int))) :=
  ob (v_toIntA4S n a1.2.2) fun (r2 : (List (V4 Int))) => some (a1.1, a1.2.1, r2)

/-- v_toIntS -/
noncomputable def v_toIntS_L1 (n : Nat) (go2 : (List Int) × Int × (List Int) → Option ((List Int))) (s3 : (List Int) × Int × (List Int)) : Option ((List Int)) :=
  br (decide (s3.2.1 < (s3.1.length : Int))) (ckb (inb s3.2.1 s3.1.length) (ckb (inb s3.2.1 s3.2.2.length) (lt (List.set s3.2.2 s3.2.1.toNat (gl 0 s3.1 s3.2.1.toNat)) fun (x4 : (List Int)) => lt (w64 (s3.2.1 + 1)) fun (x5 : Int) => go2 (s3.1, x5, x4)))) (some s3.2.2)
noncomputable def v_toIntS (n : Nat) (a1 : (List Int)) : Option ((List Int)) :=
  ckb (mkok 8 (a1.length : Int) (a1.length : Int)) (fx (v_toIntS_L1 n) n (a1, 0, (List.replicate a1.length 0)))

/-- v_toGame -/
noncomputable def v_toGame (n : Nat) (a1 : ((Int × (Int × (List (V4 Int)))) × ((List Int) × (List Int)))) : Option (Int × Int × (List (V4 Int)) × (List Int) × (List Int)) :=
  ob (v_toDeal n a1.1) fun (r2 : Int × Int × (List (V4 Int))) => ob (v_toIntS n a1.2.1) fun (r3 : (List Int)) => ob (v_toIntS n a1.2.2) fun (r4 : (List Int)) => some (r2.1, r2.2.1, r2.2.2, r3, r4)

/-- v_toIntA3 -/
noncomputable def v_toIntA3_L1 (n : Nat) (go2 : Int × (V3 Int) × (V3 Int) × (V3 Int) → Option ((V3 Int))) (s3 : Int × (V3 Int) × (V3 Int) × (V3 Int)) : Option ((V3 Int)) :=
  br (decide (s3.1 < 3)) (ckb (inb s3.1 3) (ckb (inb s3.1 3) (lt (V3.set s3.2.2.2 s3.1.toNat (V3.get s3.2.1 s3.1.toNat)) fun (x4 : (V3 Int)) => lt (w64 (s3.1 + 1)) fun (x5 : Int) => go2 (x5, s3.2.1, s3.2.2.1, x4)))) (some s3.2.2.2)
noncomputable def v_toIntA3 (n : Nat) (a1 : (V3 Int)) : Option ((V3 Int)) :=
  fx (v_toIntA3_L1 n) n (0, a1, (⟨0, 0, 0⟩ : (V3 Int)), (⟨0, 0, 0⟩ : (V3 Int)))

/-- v_toClaim -/
noncomputable def v_toClaim (n : Nat) (a1 : (Int × (V3 Int))) : Option ((Int × (V3 Int))) :=
  lt (a1.1, (⟨0, 0, 0⟩ : (V3 Int))) fun (x2 : (Int × (V3 Int))) => ob (v_toIntA3 n a1.2) fun (r3 : (V3 Int)) => lt (x2.1, r3) fun (x4 : (Int × (V3 Int))) => some x4

/-- v_toClaimS -/
noncomputable def v_toClaimS_L1 (n : Nat) (go2 : (List (Int × (V3 Int))) × Int × (List (Int × (V3 Int))) → Option ((List (Int × (V3 Int))))) (s3 : (List (Int × (V3 Int))) × Int × (List (Int × (V3 Int)))) : Option ((List (Int × (V3 Int)))) :=
  br (decide (s3.2.1 < (s3.1.length : Int))) (ckb (inb s3.2.1 s3.1.length) (ob (v_toClaim n (gl (0, (⟨0, 0, 0⟩ : (V3 Int))) s3.1 s3.2.1.toNat)) fun (r4 : (Int × (V3 Int))) => ckb (inb s3.2.1 s3.2.2.length) (lt (List.set s3.2.2 s3.2.1.toNat r4) fun (x5 : (List (Int × (V3 Int)))) => lt (w64 (s3.2.1 + 1)) fun (x6 : Int) => go2 (s3.1, x6, x5)))) (some s3.2.2)
noncomputable def v_toClaimS (n : Nat) (a1 : (List (Int × (V3 Int)))) : Option ((List (Int × (V3 Int)))) :=
  ckb (mkok 32 (a1.length : Int) (a1.length : Int)) (fx (v_toClaimS_L1 n) n (a1, 0, (List.replicate a1.length (0, (⟨0, 0, 0⟩ : (V3 Int))))))

/-- s_l4Seed -/
noncomputable def s_l4Seed (n : Nat) (a1 : Int) : Option (Bool) :=
  ob (s_l1In n a1 0 65535) fun (r2 : Bool) => some r2

/-- s_l4Behind -/
noncomputable def s_l4Behind (n : Nat) (a1 : Int) : Option (Int) :=
  lt (w64 (25173 * a1)) fun (x2 : Int) => lt (w64 (x2 + 13849)) fun (x3 : Int) => lt (Int.tmod x3 65536) fun (x4 : Int) => some x4

/-- s_l4Pile -/
noncomputable def s_l4Pile_L1 (n : Nat) (go6 : Int × Int × (List (V4 Int)) → Option ((List (V4 Int)))) (s7 : Int × Int × (List (V4 Int))) : Option ((List (V4 Int))) :=
  br (decide (0 < s7.2.1)) (ob (s_l4Behind n s7.1) fun (r8 : Int) => lt (w64 (Int.tdiv r8 8)) fun (x9 : Int) => lt (w64 (s7.2.1 + 1)) fun (x10 : Int) => ckb (!decide (x10 = 0)) (lt (Int.tmod x9 x10) fun (x11 : Int) => ckb (inb s7.2.1 s7.2.2.length) (ckb (inb x11 s7.2.2.length) (ckb (inb s7.2.1 s7.2.2.length) (lt (List.set s7.2.2 s7.2.1.toNat (gl (⟨0, 0, 0, 0⟩ : (V4 Int)) s7.2.2 x11.toNat)) fun (x12 : (List (V4 Int))) => ckb (inb x11 x12.length) (lt (List.set x12 x11.toNat (gl (⟨0, 0, 0, 0⟩ : (V4 Int)) s7.2.2 s7.2.1.toNat)) fun (x13 : (List (V4 Int))) => lt (w64 (s7.2.1 - 1)) fun (x14 : Int) => go6 (r8, x14, x13))))))) (some s7.2.2)
noncomputable def s_l4Pile_L2 (n : Nat) (go2 : Int × Int × (List (V4 Int)) → Option ((List (V4 Int)))) (s3 : Int × Int × (List (V4 Int))) : Option ((List (V4 Int))) :=
  br (decide (s3.2.1 < 81)) (ob (s_l2At n s3.2.1) fun (r4 : (V4 Int)) => ckb (apok 32 (s3.2.2.length + 1)) (lt (w64 (s3.2.1 + 1)) fun (x5 : Int) => go2 (s3.1, x5, (s3.2.2 ++ [r4])))) (fx (s_l4Pile_L1 n) n (s3.1, 80, s3.2.2))
noncomputable def s_l4Pile (n : Nat) (a1 : Int) : Option ((List (V4 Int))) :=
  fx (s_l4Pile_L2 n) n (a1, 0, ([] : List (V4 Int)))

/-- s_l4Deal -/
noncomputable def s_l4Deal_L1 (n : Nat) (go7 : Int × Int × Int × (Int × (Int × (List (V4 Int)))) × (List (V4 Int)) → Option (Bool)) (s8 : Int × Int × Int × (Int × (Int × (List (V4 Int)))) × (List (V4 Int))) : Option (Bool) :=
  br (decide (s8.2.2.1 < (s8.2.2.2.1.2.2.length : Int))) (ckb (inb s8.2.2.1 s8.2.2.2.1.2.2.length) (ob (s_l2Has n (sub s8.2.2.2.2 s8.1.toNat (s8.1.toNat + s8.2.1.toNat)) (gl (⟨0, 0, 0, 0⟩ : (V4 Int)) s8.2.2.2.1.2.2 s8.2.2.1.toNat)) fun (r9 : Bool) => ob (br (! r9) (some true) (ckb (slb 0 s8.2.2.1 s8.2.2.2.1.2.2.length) (ckb (inb s8.2.2.1 s8.2.2.2.1.2.2.length) (ob (s_l2Has n (sub s8.2.2.2.1.2.2 0 s8.2.2.1.toNat) (gl (⟨0, 0, 0, 0⟩ : (V4 Int)) s8.2.2.2.1.2.2 s8.2.2.1.toNat)) fun (r10 : Bool) => some r10)))) fun (x11 : Bool) => br x11 (some false) (lt (w64 (s8.2.2.1 + 1)) fun (x12 : Int) => go7 ((s8.1.toNat : Int), (s8.2.1.toNat : Int), x12, s8.2.2.2.1, s8.2.2.2.2)))) (some true)
noncomputable def s_l4Deal (n : Nat) (a1 : (Int × (Int × (List (V4 Int))))) : Option (Bool) :=
  ob (s_l4Seed n a1.1) fun (r2 : Bool) => ob (br (! r2) (some true) (ob (s_l1In n a1.2.1 0 81) fun (r3 : Bool) => some (! r3))) fun (x4 : Bool) => ob (br x4 (some true) (some (decide (81 < (a1.2.2.length : Int))))) fun (x5 : Bool) => br x5 (some false) (ob (s_l4Pile n a1.1) fun (r6 : (List (V4 Int))) => ckb (slb 0 a1.2.1 r6.length) (fx (s_l4Deal_L1 n) n (0, ((w64 (a1.2.1 - 0)).toNat : Int), 0, a1, r6)))

/-- s_l8Game -/
noncomputable def s_l8Game_L1 (n : Nat) (go6 : Int × ((Int × (Int × (List (V4 Int)))) × ((List Int) × (List Int))) → Option (Bool)) (s7 : Int × ((Int × (Int × (List (V4 Int)))) × ((List Int) × (List Int)))) : Option (Bool) :=
  br (decide (s7.1 < (s7.2.2.1.length : Int))) (ckb (inb s7.1 s7.2.2.1.length) (ob (s_l1In n (gl 0 s7.2.2.1 s7.1.toNat) 0 60) fun (r8 : Bool) => ob (br (! r8) (some true) (ckb (inb s7.1 s7.2.2.2.length) (ob (s_l1In n (gl 0 s7.2.2.2 s7.1.toNat) 0 60) fun (r9 : Bool) => some (! r9)))) fun (x10 : Bool) => br x10 (some false) (lt (w64 (s7.1 + 1)) fun (x11 : Int) => go6 (x11, s7.2)))) (some true)
noncomputable def s_l8Game (n : Nat) (a1 : ((Int × (Int × (List (V4 Int)))) × ((List Int) × (List Int)))) : Option (Bool) :=
  ob (s_l4Deal n a1.1) fun (r2 : Bool) => ob (br (! r2) (some true) (ob (s_l1In n (a1.2.1.length : Int) 1 4) fun (r3 : Bool) => some (! r3))) fun (x4 : Bool) => ob (br x4 (some true) (some (!decide ((a1.2.2.length : Int) = (a1.2.1.length : Int))))) fun (x5 : Bool) => br x5 (some false) (fx (s_l8Game_L1 n) n (0, a1))

/-- s_l1Own -/
noncomputable def s_l1Own (n : Nat) (a1 : (List Int)) : Option ((List Int)) :=
  ckb (apok 8 (0 + a1.length)) (some a1)

/-- s_l8Own -/
noncomputable def s_l8Own (n : Nat) (a1 : ((Int × (Int × (List (V4 Int)))) × ((List Int) × (List Int)))) : Option (Int × Int × (List (V4 Int)) × (List Int) × (List Int)) :=
  ob (s_l2Own n a1.1.2.2) fun (r2 : (List (V4 Int))) => ob (s_l1Own n a1.2.1) fun (r3 : (List Int)) => ob (s_l1Own n a1.2.2) fun (r4 : (List Int)) => some (a1.1.1, a1.1.2.1, r2, r3, r4)

/-- s_l4Lines -/
noncomputable def s_l4Lines_L1 (n : Nat) (go5 : (List (V4 Int)) × Int × Int × (List (V3 Int)) → Option ((List (V3 Int)))) (go8 : (List (V4 Int)) × Int × Int × Int × (List (V3 Int)) → Option ((List (V3 Int)))) (s9 : (List (V4 Int)) × Int × Int × Int × (List (V3 Int))) : Option ((List (V3 Int))) :=
  br (decide (s9.2.2.2.1 < (s9.1.length : Int))) (ckb (inb s9.2.1 s9.1.length) (ckb (inb s9.2.2.1 s9.1.length) (ckb (inb s9.2.2.2.1 s9.1.length) (ob (s_l2Line n (gl (⟨0, 0, 0, 0⟩ : (V4 Int)) s9.1 s9.2.1.toNat) (gl (⟨0, 0, 0, 0⟩ : (V4 Int)) s9.1 s9.2.2.1.toNat) (gl (⟨0, 0, 0, 0⟩ : (V4 Int)) s9.1 s9.2.2.2.1.toNat)) fun (r10 : Bool) => br r10 (lt (⟨s9.2.1, s9.2.2.1, s9.2.2.2.1⟩ : (V3 Int)) fun (x11 : (V3 Int)) => ckb (apok 24 (s9.2.2.2.2.length + 1)) (lt (w64 (s9.2.2.2.1 + 1)) fun (x12 : Int) => go8 (s9.1, s9.2.1, s9.2.2.1, x12, (s9.2.2.2.2 ++ [x11])))) (lt (w64 (s9.2.2.2.1 + 1)) fun (x13 : Int) => go8 (s9.1, s9.2.1, s9.2.2.1, x13, s9.2.2.2.2)))))) (lt (w64 (s9.2.2.1 + 1)) fun (x14 : Int) => go5 (s9.1, s9.2.1, x14, s9.2.2.2.2))
noncomputable def s_l4Lines_L2 (n : Nat) (go2 : (List (V4 Int)) × Int × (List (V3 Int)) → Option ((List (V3 Int)))) (go5 : (List (V4 Int)) × Int × Int × (List (V3 Int)) → Option ((List (V3 Int)))) (s6 : (List (V4 Int)) × Int × Int × (List (V3 Int))) : Option ((List (V3 Int))) :=
  br (decide (s6.2.2.1 < (s6.1.length : Int))) (lt (w64 (s6.2.2.1 + 1)) fun (x7 : Int) => fx (s_l4Lines_L1 n go5) n (s6.1, s6.2.1, s6.2.2.1, x7, s6.2.2.2)) (lt (w64 (s6.2.1 + 1)) fun (x15 : Int) => go2 (s6.1, x15, s6.2.2.2))
noncomputable def s_l4Lines_L3 (n : Nat) (go2 : (List (V4 Int)) × Int × (List (V3 Int)) → Option ((List (V3 Int)))) (s3 : (List (V4 Int)) × Int × (List (V3 Int))) : Option ((List (V3 Int))) :=
  br (decide (s3.2.1 < (s3.1.length : Int))) (lt (w64 (s3.2.1 + 1)) fun (x4 : Int) => fx (s_l4Lines_L2 n go2) n (s3.1, s3.2.1, x4, s3.2.2)) (some s3.2.2)
noncomputable def s_l4Lines (n : Nat) (a1 : (List (V4 Int))) : Option ((List (V3 Int))) :=
  fx (s_l4Lines_L3 n) n (a1, 0, ([] : List (V3 Int)))

/-- s_l4Lay -/
noncomputable def s_l4Lay (n : Nat) (a1 : (Int × (Int × (List (V4 Int))))) (a2 : Int) : Option (Int × Int × (List (V4 Int))) :=
  ob (s_l4Pile n a1.1) fun (r3 : (List (V4 Int))) => lt (w64 (a1.2.1 + a2)) fun (x4 : Int) => ob (s_l1Least n 81 x4) fun (r5 : Int) => ob (s_l2Own n a1.2.2) fun (r6 : (List (V4 Int))) => ckb (slb a1.2.1 r5 r3.length) (ckb (apok 32 (r6.length + (sub r3 a1.2.1.toNat (a1.2.1.toNat + (w64 (r5 - a1.2.1)).toNat)).length)) (some (a1.1, r5, (r6 ++ (sub r3 a1.2.1.toNat (a1.2.1.toNat + (w64 (r5 - a1.2.1)).toNat))))))

/-- s_l4Line -/
noncomputable def s_l4Line_L1 (n : Nat) (go3 : Int × (Int × (Int × (List (V4 Int)))) × (V3 Int) → Option (Bool)) (s4 : Int × (Int × (Int × (List (V4 Int)))) × (V3 Int)) : Option (Bool) :=
  br (decide (s4.1 < 3)) (ckb (inb s4.1 3) (lt (w64 ((s4.2.1.2.2.length : Int) - 1)) fun (x5 : Int) => ob (s_l1In n (V3.get s4.2.2 s4.1.toNat) 0 x5) fun (r6 : Bool) => ob (br (! r6) (some true) (ob (br (decide (0 < s4.1)) (lt (w64 (s4.1 - 1)) fun (x7 : Int) => ckb (inb x7 3) (ckb (inb s4.1 3) (some (decide ((V3.get s4.2.2 s4.1.toNat) ≤ (V3.get s4.2.2 x7.toNat)))))) (some false)) fun (x8 : Bool) => some x8)) fun (x9 : Bool) => br x9 (some false) (lt (w64 (s4.1 + 1)) fun (x10 : Int) => go3 (x10, s4.2.1, s4.2.2)))) (ckb (inb s4.2.2.x0 s4.2.1.2.2.length) (ckb (inb s4.2.2.x1 s4.2.1.2.2.length) (ckb (inb s4.2.2.x2 s4.2.1.2.2.length) (ob (s_l2Line n (gl (⟨0, 0, 0, 0⟩ : (V4 Int)) s4.2.1.2.2 s4.2.2.x0.toNat) (gl (⟨0, 0, 0, 0⟩ : (V4 Int)) s4.2.1.2.2 s4.2.2.x1.toNat) (gl (⟨0, 0, 0, 0⟩ : (V4 Int)) s4.2.1.2.2 s4.2.2.x2.toNat)) fun (r11 : Bool) => some r11))))
noncomputable def s_l4Line (n : Nat) (a1 : (Int × (Int × (List (V4 Int))))) (a2 : (V3 Int)) : Option (Bool) :=
  fx (s_l4Line_L1 n) n (0, a1, a2)

/-- s_l8Kind -/
noncomputable def s_l8Kind_L1 (n : Nat) (go6 : Int × ((Int × (Int × (List (V4 Int)))) × ((List Int) × (List Int))) × (Int × (V3 Int)) → Option (Int)) (s7 : Int × ((Int × (Int × (List (V4 Int)))) × ((List Int) × (List Int))) × (Int × (V3 Int))) : Option (Int) :=
  br (decide (s7.1 < 3)) (ckb (inb s7.1 3) (lt (w64 ((s7.2.1.1.2.2.length : Int) - 1)) fun (x8 : Int) => ob (s_l1In n (V3.get s7.2.2.2 s7.1.toNat) 0 x8) fun (r9 : Bool) => ob (br (! r9) (some true) (ob (br (decide (0 < s7.1)) (lt (w64 (s7.1 - 1)) fun (x10 : Int) => ckb (inb x10 3) (ckb (inb s7.1 3) (some (decide ((V3.get s7.2.2.2 s7.1.toNat) ≤ (V3.get s7.2.2.2 x10.toNat)))))) (some false)) fun (x11 : Bool) => some x11)) fun (x12 : Bool) => br x12 (some 3) (lt (w64 (s7.1 + 1)) fun (x13 : Int) => go6 (x13, s7.2.1, s7.2.2)))) (some 2)
noncomputable def s_l8Kind (n : Nat) (a1 : ((Int × (Int × (List (V4 Int)))) × ((List Int) × (List Int)))) (a2 : (Int × (V3 Int))) : Option (Int) :=
  lt (w64 ((a1.2.1.length : Int) - 1)) fun (x3 : Int) => ob (s_l1In n a2.1 0 x3) fun (r4 : Bool) => br (! r4) (some 3) (ob (s_l4Line n a1.1 a2.2) fun (r5 : Bool) => br r5 (some 1) (fx (s_l8Kind_L1 n) n (0, a1, a2)))

/-- s_l4Take -/
noncomputable def s_l4Take_L1 (n : Nat) (go3 : Int × (Int × (Int × (List (V4 Int)))) × (V3 Int) × Int × Int × Int × Int × (List (V4 Int)) → Option (Int × Int × (List (V4 Int)))) (s4 : Int × (Int × (Int × (List (V4 Int)))) × (V3 Int) × Int × Int × Int × Int × (List (V4 Int))) : Option (Int × Int × (List (V4 Int))) :=
  br (decide (s4.1 < (s4.2.1.2.2.length : Int))) (ob (br (!decide (s4.1 = s4.2.2.1.x0)) (some (!decide (s4.1 = s4.2.2.1.x1))) (some false)) fun (x5 : Bool) => ob (br x5 (some (!decide (s4.1 = s4.2.2.1.x2))) (some false)) fun (x6 : Bool) => br x6 (ckb (inb s4.1 s4.2.1.2.2.length) (ckb (apok 32 (s4.2.2.2.2.2.2.2.length + 1)) (lt (w64 (s4.1 + 1)) fun (x7 : Int) => go3 (x7, s4.2.1, s4.2.2.1, s4.2.2.2.1, s4.2.2.2.2.1, s4.2.2.2.2.2.1, s4.2.2.2.2.2.2.1, (s4.2.2.2.2.2.2.2 ++ [(gl (⟨0, 0, 0, 0⟩ : (V4 Int)) s4.2.1.2.2 s4.1.toNat)]))))) (lt (w64 (s4.1 + 1)) fun (x8 : Int) => go3 (x8, s4.2.1, s4.2.2.1, s4.2.2.2.1, s4.2.2.2.2.1, s4.2.2.2.2.2.1, s4.2.2.2.2.2.2.1, s4.2.2.2.2.2.2.2))) (lt (w64 (12 - (s4.2.2.2.2.2.2.2.length : Int))) fun (x9 : Int) => ob (s_l1Most n 0 x9) fun (r10 : Int) => ob (s_l4Lay n (s4.2.2.2.2.2.1, (s4.2.2.2.2.2.2.1, s4.2.2.2.2.2.2.2)) r10) fun (r11 : Int × Int × (List (V4 Int))) => some (r11.1, r11.2.1, r11.2.2))
noncomputable def s_l4Take (n : Nat) (a1 : (Int × (Int × (List (V4 Int))))) (a2 : (V3 Int)) : Option (Int × Int × (List (V4 Int))) :=
  fx (s_l4Take_L1 n) n (0, a1, a2, 0, 0, a1.1, a1.2.1, ([] : List (V4 Int)))

/-- s_l8Made -/
noncomputable def s_l8Made_L1 (n : Nat) (go4 : (Int × (V3 Int)) × Int × Int × Int × Int × (List (V4 Int)) × (List Int) × (List Int) → Option (Int × Int × Int × (List (V4 Int)) × (List Int) × (List Int))) (s5 : (Int × (V3 Int)) × Int × Int × Int × Int × (List (V4 Int)) × (List Int) × (List Int)) : Option (Int × Int × Int × (List (V4 Int)) × (List Int) × (List Int)) :=
  ob (s_l4Lines n s5.2.2.2.2.2.1) fun (r6 : (List (V3 Int))) => ob (br (decide ((r6.length : Int) = 0)) (some (decide (s5.2.2.2.2.1 < 81))) (some false)) fun (x7 : Bool) => br x7 (ob (s_l4Lay n (s5.2.2.2.1, (s5.2.2.2.2.1, s5.2.2.2.2.2.1)) 3) fun (r8 : Int × Int × (List (V4 Int))) => go4 (s5.1, s5.2.1, s5.2.2.1, r8.1, r8.2.1, r8.2.2, s5.2.2.2.2.2.2.1, s5.2.2.2.2.2.2.2)) (ob (s_l8Kind n ((s5.2.2.2.1, (s5.2.2.2.2.1, s5.2.2.2.2.2.1)), (s5.2.2.2.2.2.2.1, s5.2.2.2.2.2.2.2)) s5.1) fun (r9 : Int) => br (decide (r9 = 1)) (ob (s_l4Take n (s5.2.2.2.1, (s5.2.2.2.2.1, s5.2.2.2.2.2.1)) s5.1.2) fun (r10 : Int × Int × (List (V4 Int))) => ckb (inb s5.1.1 s5.2.2.2.2.2.2.1.length) (lt (w64 ((gl 0 s5.2.2.2.2.2.2.1 s5.1.1.toNat) + 1)) fun (x11 : Int) => ob (s_l1Least n x11 60) fun (r12 : Int) => ckb (inb s5.1.1 s5.2.2.2.2.2.2.1.length) (lt (List.set s5.2.2.2.2.2.2.1 s5.1.1.toNat r12) fun (x13 : (List Int)) => some (r10.1, r10.2.1, r9, r10.2.2, x13, s5.2.2.2.2.2.2.2)))) (br (decide (r9 = 2)) (ckb (inb s5.1.1 s5.2.2.2.2.2.2.2.length) (lt (w64 ((gl 0 s5.2.2.2.2.2.2.2 s5.1.1.toNat) + 1)) fun (x14 : Int) => ob (s_l1Least n x14 60) fun (r15 : Int) => ckb (inb s5.1.1 s5.2.2.2.2.2.2.2.length) (lt (List.set s5.2.2.2.2.2.2.2 s5.1.1.toNat r15) fun (x16 : (List Int)) => some (s5.2.2.2.1, s5.2.2.2.2.1, r9, s5.2.2.2.2.2.1, s5.2.2.2.2.2.2.1, x16)))) (some (s5.2.2.2.1, s5.2.2.2.2.1, r9, s5.2.2.2.2.2.1, s5.2.2.2.2.2.2.1, s5.2.2.2.2.2.2.2))))
noncomputable def s_l8Made (n : Nat) (a1 : ((Int × (Int × (List (V4 Int)))) × ((List Int) × (List Int)))) (a2 : (Int × (V3 Int))) : Option (Int × Int × Int × (List (V4 Int)) × (List Int) × (List Int)) :=
  ob (s_l8Own n a1) fun (r3 : Int × Int × (List (V4 Int)) × (List Int) × (List Int)) => fx (s_l8Made_L1 n) n (a2, 0, 0, r3.1, r3.2.1, r3.2.2.1, r3.2.2.2.1, r3.2.2.2.2)

/-- s_FirstRight -/
noncomputable def s_FirstRight_L1 (n : Nat) (go5 : (List (Int × (V3 Int))) × Int × ((Int × (Int × (List (V4 Int)))) × ((List Int) × (List Int))) → Option (Int × Bool)) (s6 : (List (Int × (V3 Int))) × Int × ((Int × (Int × (List (V4 Int)))) × ((List Int) × (List Int)))) : Option (Int × Bool) :=
  br (decide (s6.2.1 < (s6.1.length : Int))) (ckb (inb s6.2.1 s6.1.length) (ob (s_l8Made n s6.2.2 (gl (0, (⟨0, 0, 0⟩ : (V3 Int))) s6.1 s6.2.1.toNat)) fun (r7 : Int × Int × Int × (List (V4 Int)) × (List Int) × (List Int)) => br (decide (r7.2.2.1 = 1)) (some (s6.2.1, true)) (lt (w64 (s6.2.1 + 1)) fun (x8 : Int) => go5 (s6.1, x8, ((r7.1, (r7.2.1, r7.2.2.2.1)), (r7.2.2.2.2.1, r7.2.2.2.2.2)))))) (some (0, false))
noncomputable def s_FirstRight (n : Nat) (a1 : ((Int × (Int × (List (V4 Int)))) × ((List Int) × (List Int)))) (a2 : (List (Int × (V3 Int)))) : Option (Int × Bool) :=
  ob (s_l8Game n a1) fun (r3 : Bool) => ob (br (! r3) (some true) (some (decide (60 < (a2.length : Int))))) fun (x4 : Bool) => br x4 (some (0, false)) (fx (s_FirstRight_L1 n) n (a2, 0, a1))

/-- i_isSeed -/
noncomputable def i_isSeed (n : Nat) (a1 : Int) : Option (Bool) :=
  ob (i_within n a1 0 65535) fun (r2 : Bool) => some r2

/-- i_behind -/
noncomputable def i_behind (n : Nat) (a1 : Int) : Option (Int) :=
  lt (w64 (25173 * a1)) fun (x2 : Int) => lt (w64 (x2 + 13849)) fun (x3 : Int) => lt (Int.tmod x3 65536) fun (x4 : Int) => some x4

/-- i_pile -/
noncomputable def i_pile_L1 (n : Nat) (go6 : Int × Int × (List (V4 Int)) → Option ((List (V4 Int)))) (s7 : Int × Int × (List (V4 Int))) : Option ((List (V4 Int))) :=
  br (decide (1 ≤ s7.2.1)) (ob (i_behind n s7.1) fun (r8 : Int) => lt (w64 (Int.tdiv r8 8)) fun (x9 : Int) => lt (w64 (s7.2.1 + 1)) fun (x10 : Int) => ckb (!decide (x10 = 0)) (lt (Int.tmod x9 x10) fun (x11 : Int) => ckb (inb x11 s7.2.2.length) (ckb (inb s7.2.1 s7.2.2.length) (ckb (inb s7.2.1 s7.2.2.length) (lt (List.set s7.2.2 s7.2.1.toNat (gl (⟨0, 0, 0, 0⟩ : (V4 Int)) s7.2.2 x11.toNat)) fun (x12 : (List (V4 Int))) => ckb (inb x11 x12.length) (lt (List.set x12 x11.toNat (gl (⟨0, 0, 0, 0⟩ : (V4 Int)) s7.2.2 s7.2.1.toNat)) fun (x13 : (List (V4 Int))) => lt (w64 (s7.2.1 - 1)) fun (x14 : Int) => go6 (r8, x14, x13))))))) (some s7.2.2)
noncomputable def i_pile_L2 (n : Nat) (go2 : Int × Int × (List (V4 Int)) → Option ((List (V4 Int)))) (s3 : Int × Int × (List (V4 Int))) : Option ((List (V4 Int))) :=
  br (decide (s3.2.1 < 81)) (ob (i_card n s3.2.1) fun (r4 : (V4 Int)) => ckb (apok 32 (s3.2.2.length + 1)) (lt (w64 (s3.2.1 + 1)) fun (x5 : Int) => go2 (s3.1, x5, (s3.2.2 ++ [r4])))) (fx (i_pile_L1 n) n (s3.1, 80, s3.2.2))
noncomputable def i_pile (n : Nat) (a1 : Int) : Option ((List (V4 Int))) :=
  fx (i_pile_L2 n) n (a1, 0, ([] : List (V4 Int)))

/-- i_IsDeal -/
noncomputable def i_IsDeal_L1 (n : Nat) (go7 : Int × Int × (List (V4 Int)) × Int × Int × (Int × (Int × (List (V4 Int)))) × (List (V4 Int)) → Option (Bool)) (s8 : Int × Int × (List (V4 Int)) × Int × Int × (Int × (Int × (List (V4 Int)))) × (List (V4 Int))) : Option (Bool) :=
  br (decide (s8.2.2.2.2.1 < s8.2.2.2.1)) (ckb (inb s8.2.2.2.2.1 s8.2.2.1.length) (ob (i_has n (sub s8.2.2.2.2.2.2 s8.1.toNat (s8.1.toNat + s8.2.1.toNat)) (gl (⟨0, 0, 0, 0⟩ : (V4 Int)) s8.2.2.1 s8.2.2.2.2.1.toNat)) fun (r9 : Bool) => ob (br (! r9) (some true) (ckb (slb 0 s8.2.2.2.2.1 s8.2.2.2.2.2.1.2.2.length) (ob (i_has n (sub s8.2.2.2.2.2.1.2.2 0 s8.2.2.2.2.1.toNat) (gl (⟨0, 0, 0, 0⟩ : (V4 Int)) s8.2.2.1 s8.2.2.2.2.1.toNat)) fun (r10 : Bool) => some r10))) fun (x11 : Bool) => br x11 (some false) (lt (w64 (s8.2.2.2.2.1 + 1)) fun (x12 : Int) => go7 ((s8.1.toNat : Int), (s8.2.1.toNat : Int), s8.2.2.1, s8.2.2.2.1, x12, s8.2.2.2.2.2.1, s8.2.2.2.2.2.2)))) (some true)
noncomputable def i_IsDeal (n : Nat) (a1 : (Int × (Int × (List (V4 Int))))) : Option (Bool) :=
  ob (i_isSeed n a1.1) fun (r2 : Bool) => ob (br (! r2) (some true) (ob (i_within n a1.2.1 0 81) fun (r3 : Bool) => some (! r3))) fun (x4 : Bool) => ob (br x4 (some true) (some (decide (a1.2.1 < (a1.2.2.length : Int))))) fun (x5 : Bool) => br x5 (some false) (ob (i_pile n a1.1) fun (r6 : (List (V4 Int))) => ckb (slb 0 a1.2.1 r6.length) (fx (i_IsDeal_L1 n) n (0, ((w64 (a1.2.1 - 0)).toNat : Int), a1.2.2, (a1.2.2.length : Int), 0, a1, r6)))

/-- i_IsGame -/
noncomputable def i_IsGame (n : Nat) (a1 : ((Int × (Int × (List (V4 Int)))) × ((List Int) × (List Int)))) : Option (Bool) :=
  ob (i_within n (a1.2.1.length : Int) 1 4) fun (r2 : Bool) => ob (br r2 (some (decide ((a1.2.2.length : Int) = (a1.2.1.length : Int)))) (some false)) fun (x3 : Bool) => ob (br x3 (ob (i_allWithin n a1.2.1 0 60) fun (r4 : Bool) => some r4) (some false)) fun (x5 : Bool) => ob (br x5 (ob (i_allWithin n a1.2.2 0 60) fun (r6 : Bool) => some r6) (some false)) fun (x7 : Bool) => ob (br x7 (ob (i_IsDeal n a1.1) fun (r8 : Bool) => some r8) (some false)) fun (x9 : Bool) => some x9

/-- i_areClaims -/
noncomputable def i_areClaims (n : Nat) (a1 : ((Int × (Int × (List (V4 Int)))) × ((List Int) × (List Int)))) (a2 : (List (Int × (V3 Int)))) : Option (Bool) :=
  ob (i_IsGame n a1) fun (r3 : Bool) => ob (br r3 (some (decide ((a2.length : Int) ≤ 60))) (some false)) fun (x4 : Bool) => some x4

/-- slices_Clone_Sint_int_ -/
noncomputable def slices_Clone_Sint_int_ (n : Nat) (a1 : (List Int)) : Option ((List Int)) :=
  amb a1.isEmpty fun (b2 : Bool) => br b2 (some ([] : List Int)) (ckb (apok 8 (0 + a1.length)) (some a1))

/-- _impl_Game__own -/
noncomputable def _impl_Game__own (n : Nat) (a1 : ((Int × (Int × (List (V4 Int)))) × ((List Int) × (List Int)))) : Option (Int × Int × (List (V4 Int)) × (List Int) × (List Int)) :=
  ob (slices_Clone_SA4_A4_ n a1.1.2.2) fun (r2 : (List (V4 Int))) => ob (slices_Clone_Sint_int_ n a1.2.1) fun (r3 : (List Int)) => ob (slices_Clone_Sint_int_ n a1.2.2) fun (r4 : (List Int)) => some (a1.1.1, a1.1.2.1, r2, r3, r4)

/-- _impl_Deal__isStuck -/
noncomputable def _impl_Deal__isStuck (n : Nat) (a1 : (Int × (Int × (List (V4 Int))))) : Option (Bool) :=
  ob (i_linesIn n a1.2.2) fun (r2 : (List (V3 Int))) => some (decide ((r2.length : Int) = 0))

/-- _impl_Deal__isOver -/
noncomputable def _impl_Deal__isOver (n : Nat) (a1 : (Int × (Int × (List (V4 Int))))) : Option (Bool) :=
  ob (_impl_Deal__isStuck n a1) fun (r2 : Bool) => ob (br r2 (some (decide (a1.2.1 = 81))) (some false)) fun (x3 : Bool) => some x3

/-- slices_Grow_SA4_A4_ -/
noncomputable def slices_Grow_SA4_A4_ (n : Nat) (a1 : Int) : Option ((List (V4 Int))) :=
  br (decide (a1 < 0)) (none) (lt (w64 (0 - 0)) fun (x2 : Int) => lt (w64 (a1 - x2)) fun (x3 : Int) => br (decide (0 < x3)) (ckb (cand (nneg x3) (apok 32 (List.replicate x3.toNat (⟨0, 0, 0, 0⟩ : (V4 Int))).length)) (ckb (slb 0 0 (List.replicate x3.toNat (⟨0, 0, 0, 0⟩ : (V4 Int))).length) (some (sub (List.replicate x3.toNat (⟨0, 0, 0, 0⟩ : (V4 Int))) 0 (w64 (0 - 0)).toNat)))) (some ([] : List (V4 Int))))

/-- slices_Concat_SA4_A4_ -/
noncomputable def slices_Concat_SA4_A4__L1 (n : Nat) (go7 : (List (List (V4 Int))) × Int × Int × (List (V4 Int)) → Option ((List (V4 Int)))) (s8 : (List (List (V4 Int))) × Int × Int × (List (V4 Int))) : Option ((List (V4 Int))) :=
  br (decide (s8.2.2.1 < s8.2.1)) (ckb (inb s8.2.2.1 s8.1.length) (ckb (apok 32 (s8.2.2.2.length + (gl ([] : List (V4 Int)) s8.1 s8.2.2.1.toNat).length)) (lt (w64 (s8.2.2.1 + 1)) fun (x9 : Int) => go7 (s8.1, s8.2.1, x9, (s8.2.2.2 ++ (gl ([] : List (V4 Int)) s8.1 s8.2.2.1.toNat)))))) (some s8.2.2.2)
noncomputable def slices_Concat_SA4_A4__L2 (n : Nat) (go2 : (List (List (V4 Int))) × Int × (List (List (V4 Int))) × Int × Int → Option ((List (V4 Int)))) (s3 : (List (List (V4 Int))) × Int × (List (List (V4 Int))) × Int × Int) : Option ((List (V4 Int))) :=
  br (decide (s3.2.2.2.2 < s3.2.2.2.1)) (ckb (inb s3.2.2.2.2 s3.2.2.1.length) (lt (w64 (s3.2.1 + ((gl ([] : List (V4 Int)) s3.2.2.1 s3.2.2.2.2.toNat).length : Int))) fun (x4 : Int) => br (decide (x4 < 0)) (none) (lt (w64 (s3.2.2.2.2 + 1)) fun (x5 : Int) => go2 (s3.1, x4, s3.2.2.1, s3.2.2.2.1, x5)))) (ob (slices_Grow_SA4_A4_ n s3.2.1) fun (r6 : (List (V4 Int))) => fx (slices_Concat_SA4_A4__L1 n) n (s3.1, (s3.1.length : Int), 0, r6))
noncomputable def slices_Concat_SA4_A4_ (n : Nat) (a1 : (List (List (V4 Int)))) : Option ((List (V4 Int))) :=
  fx (slices_Concat_SA4_A4__L2 n) n (a1, 0, a1, (a1.length : Int), 0)

/-- _impl_Deal__lay -/
noncomputable def _impl_Deal__lay (n : Nat) (a1 : (Int × (Int × (List (V4 Int))))) (a2 : Int) : Option (Int × Int × (List (V4 Int))) :=
  lt (w64 (81 - a1.2.1)) fun (x3 : Int) => ob (i_pile n a1.1) fun (r4 : (List (V4 Int))) => lt (w64 (a1.2.1 + (mnI a2 x3))) fun (x5 : Int) => ckb (slb a1.2.1 x5 r4.length) (ob (slices_Concat_SA4_A4_ n [a1.2.2, (sub r4 a1.2.1.toNat (a1.2.1.toNat + (w64 (x5 - a1.2.1)).toNat))]) fun (r6 : (List (V4 Int))) => lt (w64 (a1.2.1 + (mnI a2 x3))) fun (x7 : Int) => some (a1.1, x7, r6))

/-- _impl_Game__isPlayer -/
noncomputable def _impl_Game__isPlayer (n : Nat) (a1 : ((Int × (Int × (List (V4 Int)))) × ((List Int) × (List Int)))) (a2 : Int) : Option (Bool) :=
  lt (w64 ((a1.2.1.length : Int) - 1)) fun (x3 : Int) => ob (i_within n a2 0 x3) fun (r4 : Bool) => some r4

/-- _impl_Game__kind -/
noncomputable def _impl_Game__kind (n : Nat) (a1 : ((Int × (Int × (List (V4 Int)))) × ((List Int) × (List Int)))) (a2 : (Int × (V3 Int))) : Option (Int) :=
  ob (_impl_Game__isPlayer n a1 a2.1) fun (r3 : Bool) => ob (br (! r3) (some true) (some (decide (a2.2.x0 < 0)))) fun (x4 : Bool) => ob (br x4 (some true) (some (decide (a2.2.x1 ≤ a2.2.x0)))) fun (x5 : Bool) => ob (br x5 (some true) (some (decide (a2.2.x2 ≤ a2.2.x1)))) fun (x6 : Bool) => ob (br x6 (some true) (some (decide ((a1.1.2.2.length : Int) ≤ a2.2.x2)))) fun (x7 : Bool) => br x7 (some 3) (ckb (inb a2.2.x0 a1.1.2.2.length) (ckb (inb a2.2.x1 a1.1.2.2.length) (ckb (inb a2.2.x2 a1.1.2.2.length) (ob (i_isLine n (gl (⟨0, 0, 0, 0⟩ : (V4 Int)) a1.1.2.2 a2.2.x0.toNat) (gl (⟨0, 0, 0, 0⟩ : (V4 Int)) a1.1.2.2 a2.2.x1.toNat) (gl (⟨0, 0, 0, 0⟩ : (V4 Int)) a1.1.2.2 a2.2.x2.toNat)) fun (r8 : Bool) => br r8 (some 1) (some 2)))))

/-- slices_Index_Sint_int_ -/
noncomputable def slices_Index_Sint_int__L1 (n : Nat) (go3 : (List Int) × Int × Int × Int → Option (Int)) (s4 : (List Int) × Int × Int × Int) : Option (Int) :=
  br (decide (s4.2.2.2 < s4.2.2.1)) (ckb (inb s4.2.2.2 s4.1.length) (br (decide (s4.2.1 = (gl 0 s4.1 s4.2.2.2.toNat))) (some s4.2.2.2) (lt (w64 (s4.2.2.2 + 1)) fun (x5 : Int) => go3 (s4.1, s4.2.1, s4.2.2.1, x5)))) (some (-1))
noncomputable def slices_Index_Sint_int_ (n : Nat) (a1 : (List Int)) (a2 : Int) : Option (Int) :=
  fx (slices_Index_Sint_int__L1 n) n (a1, a2, (a1.length : Int), 0)

/-- slices_Contains_Sint_int_ -/
noncomputable def slices_Contains_Sint_int_ (n : Nat) (a1 : (List Int)) (a2 : Int) : Option (Bool) :=
  ob (slices_Index_Sint_int_ n a1 a2) fun (r3 : Int) => some (decide (0 ≤ r3))

/-- _impl_Deal__take -/
noncomputable def _impl_Deal__take_L1 (n : Nat) (go3 : (List (V4 Int)) × Int × Int × (Int × (Int × (List (V4 Int)))) × (V3 Int) × Int × Int × (List (V4 Int)) → Option (Int × Int × (List (V4 Int)))) (s4 : (List (V4 Int)) × Int × Int × (Int × (Int × (List (V4 Int)))) × (V3 Int) × Int × Int × (List (V4 Int))) : Option (Int × Int × (List (V4 Int))) :=
  br (decide (s4.2.2.1 < s4.2.1)) (ckb (inb s4.2.2.1 s4.1.length) (ob (slices_Contains_Sint_int_ n (V3.els s4.2.2.2.2.1) s4.2.2.1) fun (r5 : Bool) => br (! r5) (ckb (apok 32 (s4.2.2.2.2.2.2.2.length + 1)) (lt (w64 (s4.2.2.1 + 1)) fun (x6 : Int) => go3 (s4.1, s4.2.1, x6, s4.2.2.2.1, s4.2.2.2.2.1, s4.2.2.2.2.2.1, s4.2.2.2.2.2.2.1, (s4.2.2.2.2.2.2.2 ++ [(gl (⟨0, 0, 0, 0⟩ : (V4 Int)) s4.1 s4.2.2.1.toNat)])))) (lt (w64 (s4.2.2.1 + 1)) fun (x7 : Int) => go3 (s4.1, s4.2.1, x7, s4.2.2.2.1, s4.2.2.2.2.1, s4.2.2.2.2.2.1, s4.2.2.2.2.2.2.1, s4.2.2.2.2.2.2.2)))) (lt (w64 (12 - (s4.2.2.2.2.2.2.2.length : Int))) fun (x8 : Int) => ob (_impl_Deal__lay n (s4.2.2.2.1.1, (s4.2.2.2.1.2.1, s4.2.2.2.2.2.2.2)) (mxI 0 x8)) fun (r9 : Int × Int × (List (V4 Int))) => some (r9.1, r9.2.1, r9.2.2))
noncomputable def _impl_Deal__take (n : Nat) (a1 : (Int × (Int × (List (V4 Int))))) (a2 : (V3 Int)) : Option (Int × Int × (List (V4 Int))) :=
  fx (_impl_Deal__take_L1 n) n (a1.2.2, (a1.2.2.length : Int), 0, a1, a2, 0, 0, ([] : List (V4 Int)))

/-- __impl_Game__make'p_ooo -/
noncomputable def __impl_Game__make'p_ooo_L1 (n : Nat) (go7 : Int × Int × (List Int) × (List Int) × (Int × (V3 Int)) × (List (V4 Int)) → Option (Int × Int × Int × (List Int) × (List Int) × (List (V4 Int)))) (s8 : Int × Int × (List Int) × (List Int) × (Int × (V3 Int)) × (List (V4 Int))) : Option (Int × Int × Int × (List Int) × (List Int) × (List (V4 Int))) :=
  ob (_impl_Deal__isStuck n (s8.1, (s8.2.1, s8.2.2.2.2.2))) fun (r9 : Bool) => ob (br r9 (ob (_impl_Deal__isOver n (s8.1, (s8.2.1, s8.2.2.2.2.2))) fun (r10 : Bool) => some (! r10)) (some false)) fun (x11 : Bool) => br x11 (ob (_impl_Deal__lay n (s8.1, (s8.2.1, s8.2.2.2.2.2)) 3) fun (r12 : Int × Int × (List (V4 Int))) => go7 (r12.1, r12.2.1, s8.2.2.1, s8.2.2.2.1, s8.2.2.2.2.1, r12.2.2)) (ob (_impl_Game__kind n ((s8.1, (s8.2.1, s8.2.2.2.2.2)), (s8.2.2.1, s8.2.2.2.1)) s8.2.2.2.2.1) fun (r13 : Int) => br (decide (r13 = 1)) (ob (_impl_Deal__take n (s8.1, (s8.2.1, s8.2.2.2.2.2)) s8.2.2.2.2.1.2) fun (r14 : Int × Int × (List (V4 Int))) => ckb (inb s8.2.2.2.2.1.1 s8.2.2.1.length) (lt (w64 ((gl 0 s8.2.2.1 s8.2.2.2.2.1.1.toNat) + 1)) fun (x15 : Int) => ckb (inb s8.2.2.2.2.1.1 s8.2.2.1.length) (lt (List.set s8.2.2.1 s8.2.2.2.2.1.1.toNat (mnI 60 x15)) fun (x16 : (List Int)) => some (r13, r14.1, r14.2.1, x16, s8.2.2.2.1, r14.2.2)))) (br (decide (r13 = 2)) (ckb (inb s8.2.2.2.2.1.1 s8.2.2.2.1.length) (lt (w64 ((gl 0 s8.2.2.2.1 s8.2.2.2.2.1.1.toNat) + 1)) fun (x17 : Int) => ckb (inb s8.2.2.2.2.1.1 s8.2.2.2.1.length) (lt (List.set s8.2.2.2.1 s8.2.2.2.2.1.1.toNat (mnI 60 x17)) fun (x18 : (List Int)) => some (r13, s8.1, s8.2.1, s8.2.2.1, x18, s8.2.2.2.2.2)))) (some (r13, s8.1, s8.2.1, s8.2.2.1, s8.2.2.2.1, s8.2.2.2.2.2))))
noncomputable def __impl_Game__make'p_ooo (n : Nat) (a1 : (Int × (V3 Int))) (a2 : Int) (a3 : Int) (a4 : (List (V4 Int))) (a5 : (List Int)) (a6 : (List Int)) : Option (Int × Int × Int × (List Int) × (List Int) × (List (V4 Int))) :=
  fx (__impl_Game__make'p_ooo_L1 n) n (a2, a3, a5, a6, a1, a4)

/-- __impl_Game__run'pl_ooo -/
noncomputable def __impl_Game__run'pl_ooo_L1 (n : Nat) (go7 : (List (Int × (V3 Int))) × Int × Int × Int × Int × (List Int) × (List Int) × (List Int) × (List (V4 Int)) → Option (Int × Int × (List Int) × (List Int) × (List Int) × (List (V4 Int)))) (s8 : (List (Int × (V3 Int))) × Int × Int × Int × Int × (List Int) × (List Int) × (List Int) × (List (V4 Int))) : Option (Int × Int × (List Int) × (List Int) × (List Int) × (List (V4 Int))) :=
  br (decide (s8.2.2.1 < s8.2.1)) (ckb (inb s8.2.2.1 s8.1.length) (ob (__impl_Game__make'p_ooo n (gl (0, (⟨0, 0, 0⟩ : (V3 Int))) s8.1 s8.2.2.1.toNat) s8.2.2.2.1 s8.2.2.2.2.1 s8.2.2.2.2.2.2.2.2 s8.2.2.2.2.2.1 s8.2.2.2.2.2.2.1) fun (r9 : Int × Int × Int × (List Int) × (List Int) × (List (V4 Int))) => ckb (apok 8 (s8.2.2.2.2.2.2.2.1.length + 1)) (lt (w64 (s8.2.2.1 + 1)) fun (x10 : Int) => go7 (s8.1, s8.2.1, x10, r9.2.1, r9.2.2.1, r9.2.2.2.1, r9.2.2.2.2.1, (s8.2.2.2.2.2.2.2.1 ++ [r9.1]), r9.2.2.2.2.2)))) (some (s8.2.2.2.1, s8.2.2.2.2.1, s8.2.2.2.2.2.1, s8.2.2.2.2.2.2.1, s8.2.2.2.2.2.2.2.1, s8.2.2.2.2.2.2.2.2))
noncomputable def __impl_Game__run'pl_ooo (n : Nat) (a1 : (List (Int × (V3 Int)))) (a2 : Int) (a3 : Int) (a4 : (List (V4 Int))) (a5 : (List Int)) (a6 : (List Int)) : Option (Int × Int × (List Int) × (List Int) × (List Int) × (List (V4 Int))) :=
  fx (__impl_Game__run'pl_ooo_L1 n) n (a1, (a1.length : Int), 0, a2, a3, a5, a6, ([] : List Int), a4)

/-- i_FirstRight -/
noncomputable def i_FirstRight (n : Nat) (a1 : ((Int × (Int × (List (V4 Int)))) × ((List Int) × (List Int)))) (a2 : (List (Int × (V3 Int)))) : Option (Int × Bool) :=
  ob (i_areClaims n a1 a2) fun (r3 : Bool) => br (! r3) (some (0, false)) (ob (_impl_Game__own n a1) fun (r4 : Int × Int × (List (V4 Int)) × (List Int) × (List Int)) => ob (__impl_Game__run'pl_ooo n a2 r4.1 r4.2.1 r4.2.2.1 r4.2.2.2.1 r4.2.2.2.2) fun (r5 : Int × Int × (List Int) × (List Int) × (List Int) × (List (V4 Int))) => ob (slices_Index_Sint_int_ n r5.2.2.2.2.1 1) fun (r6 : Int) => some ((mxI 0 r6), (decide (0 ≤ r6))))

/-- v_eqIntA4S -/
noncomputable def v_eqIntA4S_L1 (n : Nat) (go3 : (List (V4 Int)) × (List (V4 Int)) × Int → Option (Bool)) (s4 : (List (V4 Int)) × (List (V4 Int)) × Int) : Option (Bool) :=
  br (decide (s4.2.2 < (s4.1.length : Int))) (ckb (inb s4.2.2 s4.1.length) (ckb (inb s4.2.2 s4.2.1.length) (ob (v_eqIntA4 n (gl (⟨0, 0, 0, 0⟩ : (V4 Int)) s4.1 s4.2.2.toNat) (gl (⟨0, 0, 0, 0⟩ : (V4 Int)) s4.2.1 s4.2.2.toNat)) fun (r5 : Bool) => br (! r5) (some false) (lt (w64 (s4.2.2 + 1)) fun (x6 : Int) => go3 (s4.1, s4.2.1, x6))))) (some true)
noncomputable def v_eqIntA4S (n : Nat) (a1 : (List (V4 Int))) (a2 : (List (V4 Int))) : Option (Bool) :=
  br (!decide ((a1.length : Int) = (a2.length : Int))) (some false) (fx (v_eqIntA4S_L1 n) n (a1, a2, 0))

/-- v_eqDeal -/
noncomputable def v_eqDeal (n : Nat) (a1 : (Int × (Int × (List (V4 Int))))) (a2 : (Int × (Int × (List (V4 Int))))) : Option (Bool) :=
  br (!decide (a1.1 = a2.1)) (some false) (br (!decide (a1.2.1 = a2.2.1)) (some false) (ob (v_eqIntA4S n a1.2.2 a2.2.2) fun (r3 : Bool) => br (! r3) (some false) (some true)))

/-- v_eqIntS -/
noncomputable def v_eqIntS_L1 (n : Nat) (go3 : (List Int) × (List Int) × Int → Option (Bool)) (s4 : (List Int) × (List Int) × Int) : Option (Bool) :=
  br (decide (s4.2.2 < (s4.1.length : Int))) (ckb (inb s4.2.2 s4.1.length) (ckb (inb s4.2.2 s4.2.1.length) (br (!decide ((gl 0 s4.1 s4.2.2.toNat) = (gl 0 s4.2.1 s4.2.2.toNat))) (some false) (lt (w64 (s4.2.2 + 1)) fun (x5 : Int) => go3 (s4.1, s4.2.1, x5))))) (some true)
noncomputable def v_eqIntS (n : Nat) (a1 : (List Int)) (a2 : (List Int)) : Option (Bool) :=
  br (!decide ((a1.length : Int) = (a2.length : Int))) (some false) (fx (v_eqIntS_L1 n) n (a1, a2, 0))

/-- v_eqGame -/
noncomputable def v_eqGame (n : Nat) (a1 : ((Int × (Int × (List (V4 Int)))) × ((List Int) × (List Int)))) (a2 : ((Int × (Int × (List (V4 Int)))) × ((List Int) × (List Int)))) : Option (Bool) :=
  ob (v_eqDeal n a1.1 a2.1) fun (r3 : Bool) => br (! r3) (some false) (ob (v_eqIntS n a1.2.1 a2.2.1) fun (r4 : Bool) => br (! r4) (some false) (ob (v_eqIntS n a1.2.2 a2.2.2) fun (r5 : Bool) => br (! r5) (some false) (some true)))

/-- v_eqIntA3 -/
noncomputable def v_eqIntA3_L1 (n : Nat) (go3 : Int × (V3 Int) × (V3 Int) → Option (Bool)) (s4 : Int × (V3 Int) × (V3 Int)) : Option (Bool) :=
  br (decide (s4.1 < 3)) (ckb (inb s4.1 3) (ckb (inb s4.1 3) (br (!decide ((V3.get s4.2.1 s4.1.toNat) = (V3.get s4.2.2 s4.1.toNat))) (some false) (lt (w64 (s4.1 + 1)) fun (x5 : Int) => go3 (x5, s4.2.1, s4.2.2))))) (some true)
noncomputable def v_eqIntA3 (n : Nat) (a1 : (V3 Int)) (a2 : (V3 Int)) : Option (Bool) :=
  fx (v_eqIntA3_L1 n) n (0, a1, a2)

/-- v_eqClaim -/
noncomputable def v_eqClaim (n : Nat) (a1 : (Int × (V3 Int))) (a2 : (Int × (V3 Int))) : Option (Bool) :=
  br (!decide (a1.1 = a2.1)) (some false) (ob (v_eqIntA3 n a1.2 a2.2) fun (r3 : Bool) => br (! r3) (some false) (some true))

/-- v_eqClaimS -/
noncomputable def v_eqClaimS_L1 (n : Nat) (go3 : (List (Int × (V3 Int))) × (List (Int × (V3 Int))) × Int → Option (Bool)) (s4 : (List (Int × (V3 Int))) × (List (Int × (V3 Int))) × Int) : Option (Bool) :=
  br (decide (s4.2.2 < (s4.1.length : Int))) (ckb (inb s4.2.2 s4.1.length) (ckb (inb s4.2.2 s4.2.1.length) (ob (v_eqClaim n (gl (0, (⟨0, 0, 0⟩ : (V3 Int))) s4.1 s4.2.2.toNat) (gl (0, (⟨0, 0, 0⟩ : (V3 Int))) s4.2.1 s4.2.2.toNat)) fun (r5 : Bool) => br (! r5) (some false) (lt (w64 (s4.2.2 + 1)) fun (x6 : Int) => go3 (s4.1, s4.2.1, x6))))) (some true)
noncomputable def v_eqClaimS (n : Nat) (a1 : (List (Int × (V3 Int)))) (a2 : (List (Int × (V3 Int)))) : Option (Bool) :=
  br (!decide ((a1.length : Int) = (a2.length : Int))) (some false) (fx (v_eqClaimS_L1 n) n (a1, a2, 0))

/-- v_markIntA4S'o -/
noncomputable def v_markIntA4S'o_L1 (n : Nat) (go3 : Int × Int × (List (V4 Int)) → Option (Int × (List (V4 Int)))) (go5 : Int × Int × Int × (List (V4 Int)) → Option (Int × (List (V4 Int)))) (s6 : Int × Int × Int × (List (V4 Int))) : Option (Int × (List (V4 Int))) :=
  br (decide (s6.2.2.1 < 4)) (ckb (inb s6.2.1 s6.2.2.2.length) (ckb (inb s6.2.2.1 4) (lt (List.set s6.2.2.2 s6.2.1.toNat (V4.set (gl (⟨0, 0, 0, 0⟩ : (V4 Int)) s6.2.2.2 s6.2.1.toNat) s6.2.2.1.toNat s6.1)) fun (x7 : (List (V4 Int))) => lt (w64 (s6.1 + 1)) fun (x8 : Int) => lt (w64 (s6.2.2.1 + 1)) fun (x9 : Int) => go5 (x8, s6.2.1, x9, x7)))) (lt (w64 (s6.2.1 + 1)) fun (x10 : Int) => go3 (s6.1, x10, s6.2.2.2))
noncomputable def v_markIntA4S'o_L2 (n : Nat) (go3 : Int × Int × (List (V4 Int)) → Option (Int × (List (V4 Int)))) (s4 : Int × Int × (List (V4 Int))) : Option (Int × (List (V4 Int))) :=
  br (decide (s4.2.1 < (s4.2.2.length : Int))) (fx (v_markIntA4S'o_L1 n go3) n (s4.1, s4.2.1, 0, s4.2.2)) (some (s4.1, s4.2.2))
noncomputable def v_markIntA4S'o (n : Nat) (a1 : Int) (a2 : (List (V4 Int))) : Option (Int × (List (V4 Int))) :=
  fx (v_markIntA4S'o_L2 n) n (a1, 0, a2)

/-- v_markDeal'o -/
noncomputable def v_markDeal'o (n : Nat) (a1 : Int) (a2 : Int) (a3 : Int) (a4 : (List (V4 Int))) : Option (Int × (List (V4 Int))) :=
  ob (v_markIntA4S'o n a3 a4) fun (r5 : Int × (List (V4 Int))) => some (r5.1, r5.2)

/-- v_markIntS'o -/
noncomputable def v_markIntS'o_L1 (n : Nat) (go3 : Int × Int × (List Int) → Option (Int × (List Int))) (s4 : Int × Int × (List Int)) : Option (Int × (List Int)) :=
  br (decide (s4.2.1 < (s4.2.2.length : Int))) (ckb (inb s4.2.1 s4.2.2.length) (lt (List.set s4.2.2 s4.2.1.toNat s4.1) fun (x5 : (List Int)) => lt (w64 (s4.1 + 1)) fun (x6 : Int) => lt (w64 (s4.2.1 + 1)) fun (x7 : Int) => go3 (x6, x7, x5))) (some (s4.1, s4.2.2))
noncomputable def v_markIntS'o (n : Nat) (a1 : Int) (a2 : (List Int)) : Option (Int × (List Int)) :=
  fx (v_markIntS'o_L1 n) n (a1, 0, a2)

/-- v_markGame'ooo -/
noncomputable def v_markGame'ooo (n : Nat) (a1 : Int) (a2 : Int) (a3 : Int) (a4 : (List (V4 Int))) (a5 : (List Int)) (a6 : (List Int)) : Option (Int × (List (V4 Int)) × (List Int) × (List Int)) :=
  ob (v_markDeal'o n a1 a2 a3 a4) fun (r7 : Int × (List (V4 Int))) => ob (v_markIntS'o n r7.1 a5) fun (r8 : Int × (List Int)) => ob (v_markIntS'o n r8.1 a6) fun (r9 : Int × (List Int)) => some (r9.1, r7.2, r8.2, r9.2)

/-- v_heldIntA4S -/
noncomputable def v_heldIntA4S_L1 (n : Nat) (go3 : (List (V4 Int)) × Int × Int → Option (Int)) (go5 : (List (V4 Int)) × Int × Int × Int → Option (Int)) (s6 : (List (V4 Int)) × Int × Int × Int) : Option (Int) :=
  br (decide (s6.2.2.2 < 4)) (ckb (inb s6.2.2.1 s6.1.length) (ckb (inb s6.2.2.2 4) (br (!decide ((V4.get (gl (⟨0, 0, 0, 0⟩ : (V4 Int)) s6.1 s6.2.2.1.toNat) s6.2.2.2.toNat) = s6.2.1)) (some (-1)) (lt (w64 (s6.2.1 + 1)) fun (x7 : Int) => lt (w64 (s6.2.2.2 + 1)) fun (x8 : Int) => go5 (s6.1, x7, s6.2.2.1, x8))))) (lt (w64 (s6.2.2.1 + 1)) fun (x9 : Int) => go3 (s6.1, s6.2.1, x9))
noncomputable def v_heldIntA4S_L2 (n : Nat) (go3 : (List (V4 Int)) × Int × Int → Option (Int)) (s4 : (List (V4 Int)) × Int × Int) : Option (Int) :=
  br (decide (s4.2.2 < (s4.1.length : Int))) (fx (v_heldIntA4S_L1 n go3) n (s4.1, s4.2.1, s4.2.2, 0)) (some s4.2.1)
noncomputable def v_heldIntA4S (n : Nat) (a1 : (List (V4 Int))) (a2 : Int) : Option (Int) :=
  fx (v_heldIntA4S_L2 n) n (a1, a2, 0)

/-- v_heldDeal -/
noncomputable def v_heldDeal (n : Nat) (a1 : (Int × (Int × (List (V4 Int))))) (a2 : Int) : Option (Int) :=
  ob (v_heldIntA4S n a1.2.2 a2) fun (r3 : Int) => br (decide (r3 < 0)) (some (-1)) (some r3)

/-- v_heldIntS -/
noncomputable def v_heldIntS_L1 (n : Nat) (go3 : (List Int) × Int × Int → Option (Int)) (s4 : (List Int) × Int × Int) : Option (Int) :=
  br (decide (s4.2.2 < (s4.1.length : Int))) (ckb (inb s4.2.2 s4.1.length) (br (!decide ((gl 0 s4.1 s4.2.2.toNat) = s4.2.1)) (some (-1)) (lt (w64 (s4.2.1 + 1)) fun (x5 : Int) => lt (w64 (s4.2.2 + 1)) fun (x6 : Int) => go3 (s4.1, x5, x6)))) (some s4.2.1)
noncomputable def v_heldIntS (n : Nat) (a1 : (List Int)) (a2 : Int) : Option (Int) :=
  fx (v_heldIntS_L1 n) n (a1, a2, 0)

/-- v_heldGame -/
noncomputable def v_heldGame (n : Nat) (a1 : ((Int × (Int × (List (V4 Int)))) × ((List Int) × (List Int)))) (a2 : Int) : Option (Int) :=
  ob (v_heldDeal n a1.1 a2) fun (r3 : Int) => br (decide (r3 < 0)) (some (-1)) (ob (v_heldIntS n a1.2.1 r3) fun (r4 : Int) => br (decide (r4 < 0)) (some (-1)) (ob (v_heldIntS n a1.2.2 r4) fun (r5 : Int) => br (decide (r5 < 0)) (some (-1)) (some r5)))

/-- i_common -/
noncomputable def i_common_L1 (n : Nat) (go3 : Int × (V3 Int) × Int × (V3 Int) → Option (Int)) (s4 : Int × (V3 Int) × Int × (V3 Int)) : Option (Int) :=
  br (decide (s4.2.2.1 < 3)) (ckb (inb s4.2.2.1 3) (ob (slices_Contains_Sint_int_ n (V3.els s4.2.2.2) (V3.get s4.2.1 s4.2.2.1.toNat)) fun (r5 : Bool) => br r5 (lt (w64 (s4.1 + 1)) fun (x6 : Int) => lt (w64 (s4.2.2.1 + 1)) fun (x7 : Int) => go3 (x6, s4.2.1, x7, s4.2.2.2)) (lt (w64 (s4.2.2.1 + 1)) fun (x8 : Int) => go3 (s4.1, s4.2.1, x8, s4.2.2.2)))) (some s4.1)
noncomputable def i_common (n : Nat) (a1 : (V3 Int)) (a2 : (V3 Int)) : Option (Int) :=
  fx (i_common_L1 n) n (0, a1, 0, a2)

/-- s_l7Common -/
noncomputable def s_l7Common_L1 (n : Nat) (go3 : Int × Int × (V3 Int) × (V3 Int) → Option (Int)) (go5 : Int × Int × Int × (V3 Int) × (V3 Int) → Option (Int)) (s6 : Int × Int × Int × (V3 Int) × (V3 Int)) : Option (Int) :=
  br (decide (s6.2.2.1 < 3)) (ckb (inb s6.2.1 3) (ckb (inb s6.2.2.1 3) (br (decide ((V3.get s6.2.2.2.1 s6.2.1.toNat) = (V3.get s6.2.2.2.2 s6.2.2.1.toNat))) (lt (w64 (s6.1 + 1)) fun (x7 : Int) => lt (w64 (s6.2.2.1 + 1)) fun (x8 : Int) => go5 (x7, s6.2.1, x8, s6.2.2.2.1, s6.2.2.2.2)) (lt (w64 (s6.2.2.1 + 1)) fun (x9 : Int) => go5 (s6.1, s6.2.1, x9, s6.2.2.2.1, s6.2.2.2.2))))) (lt (w64 (s6.2.1 + 1)) fun (x10 : Int) => go3 (s6.1, x10, s6.2.2.2.1, s6.2.2.2.2))
noncomputable def s_l7Common_L2 (n : Nat) (go3 : Int × Int × (V3 Int) × (V3 Int) → Option (Int)) (s4 : Int × Int × (V3 Int) × (V3 Int)) : Option (Int) :=
  br (decide (s4.2.1 < 3)) (fx (s_l7Common_L1 n go3) n (s4.1, s4.2.1, 0, s4.2.2.1, s4.2.2.2)) (some s4.1)
noncomputable def s_l7Common (n : Nat) (a1 : (V3 Int)) (a2 : (V3 Int)) : Option (Int) :=
  fx (s_l7Common_L2 n) n (0, 0, a1, a2)

/-- v_eqTable -/
noncomputable def v_eqTable (n : Nat) (a1 : ((List (V4 Int)) × (Int × Int))) (a2 : ((List (V4 Int)) × (Int × Int))) : Option (Bool) :=
  ob (v_eqIntA4S n a1.1 a2.1) fun (r3 : Bool) => br (! r3) (some false) (br (!decide (a1.2.1 = a2.2.1)) (some false) (br (!decide (a1.2.2 = a2.2.2)) (some false) (some true)))

/-- v_markTable'o -/
noncomputable def v_markTable'o (n : Nat) (a1 : (Int × Int)) (a2 : Int) (a3 : (List (V4 Int))) : Option (Int × (List (V4 Int))) :=
  ob (v_markIntA4S'o n a2 a3) fun (r4 : Int × (List (V4 Int))) => some (r4.1, r4.2)

/-- v_heldTable -/
noncomputable def v_heldTable (n : Nat) (a1 : ((List (V4 Int)) × (Int × Int))) (a2 : Int) : Option (Int) :=
  ob (v_heldIntA4S n a1.1 a2) fun (r3 : Int) => br (decide (r3 < 0)) (some (-1)) (some r3)

/-- s_l7Free -/
noncomputable def s_l7Free_L1 (n : Nat) (go3 : (List (V3 Int)) × Int × (V3 Int) → Option (Bool)) (s4 : (List (V3 Int)) × Int × (V3 Int)) : Option (Bool) :=
  br (decide (s4.2.1 < (s4.1.length : Int))) (ckb (inb s4.2.1 s4.1.length) (ob (s_l7Common n (gl (⟨0, 0, 0⟩ : (V3 Int)) s4.1 s4.2.1.toNat) s4.2.2) fun (r5 : Int) => br (decide (0 < r5)) (some false) (lt (w64 (s4.2.1 + 1)) fun (x6 : Int) => go3 (s4.1, x6, s4.2.2)))) (some true)
noncomputable def s_l7Free (n : Nat) (a1 : (List (V3 Int))) (a2 : (V3 Int)) : Option (Bool) :=
  fx (s_l7Free_L1 n) n (a1, 0, a2)

/-- i_GreedyPicking_1'p -/
noncomputable def i_GreedyPicking_1'p (n : Nat) (a1 : (V3 Int)) (a2 : (V3 Int)) : Option (Bool × (V3 Int)) :=
  ob (i_common n a2 a1) fun (r3 : Int) => some ((decide (0 < r3)), a2)

/-- slices_IndexFunc_SA3_A3_'l_i_GreedyPicking_1p -/
noncomputable def slices_IndexFunc_SA3_A3_'l_i_GreedyPicking_1p_L1 (n : Nat) (go3 : (List (V3 Int)) × Int × Int × (V3 Int) → Option (Int × (V3 Int))) (s4 : (List (V3 Int)) × Int × Int × (V3 Int)) : Option (Int × (V3 Int)) :=
  br (decide (s4.2.2.1 < s4.2.1)) (ckb (inb s4.2.2.1 s4.1.length) (ob (i_GreedyPicking_1'p n (gl (⟨0, 0, 0⟩ : (V3 Int)) s4.1 s4.2.2.1.toNat) s4.2.2.2) fun (r5 : Bool × (V3 Int)) => br r5.1 (some (s4.2.2.1, r5.2)) (lt (w64 (s4.2.2.1 + 1)) fun (x6 : Int) => go3 (s4.1, s4.2.1, x6, r5.2)))) (some ((-1), s4.2.2.2))
noncomputable def slices_IndexFunc_SA3_A3_'l_i_GreedyPicking_1p (n : Nat) (a1 : (List (V3 Int))) (a2 : (V3 Int)) : Option (Int × (V3 Int)) :=
  fx (slices_IndexFunc_SA3_A3_'l_i_GreedyPicking_1p_L1 n) n (a1, (a1.length : Int), 0, a2)

/-- slices_ContainsFunc_SA3_A3_'l_i_GreedyPicking_1p -/
noncomputable def slices_ContainsFunc_SA3_A3_'l_i_GreedyPicking_1p (n : Nat) (a1 : (List (V3 Int))) (a2 : (V3 Int)) : Option (Bool × (V3 Int)) :=
  ob (slices_IndexFunc_SA3_A3_'l_i_GreedyPicking_1p n a1 a2) fun (r3 : Int × (V3 Int)) => some ((decide (0 ≤ r3.1)), r3.2)

/-- i_GreedyPicking -/
noncomputable def i_GreedyPicking_L1 (n : Nat) (go4 : Int × Int × (List (V3 Int)) × (List (V3 Int)) → Option (Bool × (List (V3 Int)))) (s5 : Int × Int × (List (V3 Int)) × (List (V3 Int))) : Option (Bool × (List (V3 Int))) :=
  br (decide (s5.2.1 < s5.1)) (ckb (inb s5.2.1 s5.2.2.2.length) (ob (slices_ContainsFunc_SA3_A3_'l_i_GreedyPicking_1p n s5.2.2.1 (gl (⟨0, 0, 0⟩ : (V3 Int)) s5.2.2.2 s5.2.1.toNat)) fun (r6 : Bool × (V3 Int)) => br (! r6.1) (ckb (apok 24 (s5.2.2.1.length + 1)) (lt (w64 (s5.2.1 + 1)) fun (x7 : Int) => go4 (s5.1, x7, (s5.2.2.1 ++ [r6.2]), s5.2.2.2))) (lt (w64 (s5.2.1 + 1)) fun (x8 : Int) => go4 (s5.1, x8, s5.2.2.1, s5.2.2.2)))) (some (true, s5.2.2.1))
noncomputable def i_GreedyPicking (n : Nat) (a1 : (List (V4 Int))) : Option (Bool × (List (V3 Int))) :=
  ob (i_IsHand n a1) fun (r2 : Bool) => br (! r2) (some (false, ([] : List (V3 Int)))) (ob (i_linesIn n a1) fun (r3 : (List (V3 Int))) => fx (i_GreedyPicking_L1 n) n ((r3.length : Int), 0, ([] : List (V3 Int)), r3))

/-- s_GreedyPicking -/
noncomputable def s_GreedyPicking_L1 (n : Nat) (go4 : Int × (List (V3 Int)) × (List (V3 Int)) → Option (Bool × (List (V3 Int)))) (s5 : Int × (List (V3 Int)) × (List (V3 Int))) : Option (Bool × (List (V3 Int))) :=
  br (decide (s5.1 < (s5.2.2.length : Int))) (ckb (inb s5.1 s5.2.2.length) (ob (s_l7Free n s5.2.1 (gl (⟨0, 0, 0⟩ : (V3 Int)) s5.2.2 s5.1.toNat)) fun (r6 : Bool) => br r6 (ckb (inb s5.1 s5.2.2.length) (ckb (apok 24 (s5.2.1.length + 1)) (lt (w64 (s5.1 + 1)) fun (x7 : Int) => go4 (x7, (s5.2.1 ++ [(gl (⟨0, 0, 0⟩ : (V3 Int)) s5.2.2 s5.1.toNat)]), s5.2.2)))) (lt (w64 (s5.1 + 1)) fun (x8 : Int) => go4 (x8, s5.2.1, s5.2.2)))) (some (true, s5.2.1))
noncomputable def s_GreedyPicking (n : Nat) (a1 : (List (V4 Int))) : Option (Bool × (List (V3 Int))) :=
  ob (s_l2Hand n a1) fun (r2 : Bool) => br (! r2) (some (false, ([] : List (V3 Int)))) (ob (s_l2Lines n a1) fun (r3 : (List (V3 Int))) => fx (s_GreedyPicking_L1 n) n (0, ([] : List (V3 Int)), r3))

/-- s_Cur_near'p -/
noncomputable def s_Cur_near'p (n : Nat) (a1 : (V4 Int)) (a2 : ((List Int) × (Int × Int))) : Option ((V4 Int) × ((List Int) × (Int × Int))) :=
  ob (s_Cur_one'p n 2 a2) fun (r3 : Bool × ((List Int) × (Int × Int))) => br r3.1 (ob (s_Cur_card'p n r3.2) fun (r4 : (V4 Int) × ((List Int) × (Int × Int))) => some (r4.1, r4.2)) (ob (s_Cur_one'p n 4 r3.2) fun (r5 : Bool × ((List Int) × (Int × Int))) => br (! r5.1) (ob (s_Cur_pick'p n 4 r5.2) fun (r6 : Int × ((List Int) × (Int × Int))) => ob (s_Cur_pick'p n 3 r6.2) fun (r7 : Int × ((List Int) × (Int × Int))) => ckb (inb r6.1 4) (lt (V4.set a1 r6.1.toNat r7.1) fun (x8 : (V4 Int)) => some (x8, r7.2))) (some (a1, r5.2)))

/-- s_RunClaims -/
noncomputable def s_RunClaims_L1 (n : Nat) (go7 : (List (Int × (V3 Int))) × Int × Int × Int × (V4 Int) × (V4 Int) × Int × Int × (List (V4 Int)) × (List Int) × (List Int) → Option (Int × Int × (V4 Int) × Bool × (List (V4 Int)) × (List Int) × (List Int))) (s8 : (List (Int × (V3 Int))) × Int × Int × Int × (V4 Int) × (V4 Int) × Int × Int × (List (V4 Int)) × (List Int) × (List Int)) : Option (Int × Int × (V4 Int) × Bool × (List (V4 Int)) × (List Int) × (List Int)) :=
  br (decide (s8.2.1 < (s8.1.length : Int))) (ckb (inb s8.2.1 s8.1.length) (ob (s_l8Made n ((s8.2.2.2.2.2.2.1, (s8.2.2.2.2.2.2.2.1, s8.2.2.2.2.2.2.2.2.1)), (s8.2.2.2.2.2.2.2.2.2.1, s8.2.2.2.2.2.2.2.2.2.2)) (gl (0, (⟨0, 0, 0⟩ : (V3 Int))) s8.1 s8.2.1.toNat)) fun (r9 : Int × Int × Int × (List (V4 Int)) × (List Int) × (List Int)) => ckb (inb r9.2.2.1 4) (lt (w64 ((V4.get s8.2.2.2.2.2.1 r9.2.2.1.toNat) + 1)) fun (x10 : Int) => ckb (inb r9.2.2.1 4) (lt (V4.set s8.2.2.2.2.2.1 r9.2.2.1.toNat x10) fun (x11 : (V4 Int)) => lt (w64 (s8.2.1 + 1)) fun (x12 : Int) => go7 (s8.1, x12, s8.2.2.1, s8.2.2.2.1, s8.2.2.2.2.1, x11, r9.1, r9.2.1, r9.2.2.2.1, r9.2.2.2.2.1, r9.2.2.2.2.2))))) (some (s8.2.2.2.2.2.2.1, s8.2.2.2.2.2.2.2.1, s8.2.2.2.2.2.1, true, s8.2.2.2.2.2.2.2.2.1, s8.2.2.2.2.2.2.2.2.2.1, s8.2.2.2.2.2.2.2.2.2.2))
noncomputable def s_RunClaims (n : Nat) (a1 : ((Int × (Int × (List (V4 Int)))) × ((List Int) × (List Int)))) (a2 : (List (Int × (V3 Int)))) : Option (Int × Int × (V4 Int) × Bool × (List (V4 Int)) × (List Int) × (List Int)) :=
  lt (⟨0, 0, 0, 0⟩ : (V4 Int)) fun (x3 : (V4 Int)) => ob (s_l8Game n a1) fun (r4 : Bool) => ob (br (! r4) (some true) (some (decide (60 < (a2.length : Int))))) fun (x5 : Bool) => br x5 (some (0, 0, x3, false, ([] : List (V4 Int)), ([] : List Int), ([] : List Int))) (ob (s_l8Own n a1) fun (r6 : Int × Int × (List (V4 Int)) × (List Int) × (List Int)) => fx (s_RunClaims_L1 n) n (a2, 0, 0, 0, (⟨0, 0, 0, 0⟩ : (V4 Int)), x3, r6.1, r6.2.1, r6.2.2.1, r6.2.2.2.1, r6.2.2.2.2))

/-- s_l8Points -/
noncomputable def s_l8Points_L1 (n : Nat) (go2 : Int × ((Int × (Int × (List (V4 Int)))) × ((List Int) × (List Int))) × (List Int) → Option ((List Int))) (s3 : Int × ((Int × (Int × (List (V4 Int)))) × ((List Int) × (List Int))) × (List Int)) : Option ((List Int)) :=
  br (decide (s3.1 < (s3.2.1.2.1.length : Int))) (ckb (inb s3.1 s3.2.1.2.1.length) (ckb (inb s3.1 s3.2.1.2.2.length) (lt (w64 (1 * (gl 0 s3.2.1.2.2 s3.1.toNat))) fun (x4 : Int) => lt (w64 ((gl 0 s3.2.1.2.1 s3.1.toNat) - x4)) fun (x5 : Int) => ckb (apok 8 (s3.2.2.length + 1)) (lt (w64 (s3.1 + 1)) fun (x6 : Int) => go2 (x6, s3.2.1, (s3.2.2 ++ [x5])))))) (some s3.2.2)
noncomputable def s_l8Points (n : Nat) (a1 : ((Int × (Int × (List (V4 Int)))) × ((List Int) × (List Int)))) : Option ((List Int)) :=
  fx (s_l8Points_L1 n) n (0, a1, ([] : List Int))

/-- s_WorthClaims -/
noncomputable def s_WorthClaims (n : Nat) (a1 : ((Int × (Int × (List (V4 Int)))) × ((List Int) × (List Int)))) (a2 : (List (Int × (V3 Int)))) (a3 : Int) : Option (Int × Bool) :=
  ob (s_RunClaims n a1 a2) fun (r4 : Int × Int × (V4 Int) × Bool × (List (V4 Int)) × (List Int) × (List Int)) => ob (br (! r4.2.2.2.1) (some true) (lt (w64 ((a1.2.1.length : Int) - 1)) fun (x5 : Int) => ob (s_l1In n a3 0 x5) fun (r6 : Bool) => some (! r6))) fun (x7 : Bool) => br x7 (some (0, false)) (ob (s_l8Points n ((r4.1, (r4.2.1, r4.2.2.2.2.1)), (r4.2.2.2.2.2.1, r4.2.2.2.2.2.2))) fun (r8 : (List Int)) => ckb (inb a3 r8.length) (ob (s_l8Points n a1) fun (r9 : (List Int)) => ckb (inb a3 r9.length) (lt (w64 ((gl 0 r8 a3.toNat) - (gl 0 r9 a3.toNat))) fun (x10 : Int) => some (x10, true))))

/-- _impl_Game__points -/
noncomputable def _impl_Game__points_L1 (n : Nat) (go2 : (List Int) × Int × Int × ((Int × (Int × (List (V4 Int)))) × ((List Int) × (List Int))) × (List Int) → Option ((List Int))) (s3 : (List Int) × Int × Int × ((Int × (Int × (List (V4 Int)))) × ((List Int) × (List Int))) × (List Int)) : Option ((List Int)) :=
  br (decide (s3.2.2.1 < s3.2.1)) (ckb (inb s3.2.2.1 s3.1.length) (ckb (inb s3.2.2.1 s3.2.2.2.1.2.2.length) (lt (w64 (1 * (gl 0 s3.2.2.2.1.2.2 s3.2.2.1.toNat))) fun (x4 : Int) => lt (w64 ((gl 0 s3.1 s3.2.2.1.toNat) - x4)) fun (x5 : Int) => ckb (apok 8 (s3.2.2.2.2.length + 1)) (lt (w64 (s3.2.2.1 + 1)) fun (x6 : Int) => go2 (s3.1, s3.2.1, x6, s3.2.2.2.1, (s3.2.2.2.2 ++ [x5])))))) (some s3.2.2.2.2)
noncomputable def _impl_Game__points (n : Nat) (a1 : ((Int × (Int × (List (V4 Int)))) × ((List Int) × (List Int)))) : Option ((List Int)) :=
  fx (_impl_Game__points_L1 n) n (a1.2.1, (a1.2.1.length : Int), 0, a1, ([] : List Int))

/-- i_WorthClaims -/
noncomputable def i_WorthClaims (n : Nat) (a1 : ((Int × (Int × (List (V4 Int)))) × ((List Int) × (List Int)))) (a2 : (List (Int × (V3 Int)))) (a3 : Int) : Option (Int × Bool) :=
  ob (i_areClaims n a1 a2) fun (r4 : Bool) => ob (br (! r4) (some true) (ob (_impl_Game__isPlayer n a1 a3) fun (r5 : Bool) => some (! r5))) fun (x6 : Bool) => br x6 (some (0, false)) (ob (_impl_Game__own n a1) fun (r7 : Int × Int × (List (V4 Int)) × (List Int) × (List Int)) => ob (__impl_Game__run'pl_ooo n a2 r7.1 r7.2.1 r7.2.2.1 r7.2.2.2.1 r7.2.2.2.2) fun (r8 : Int × Int × (List Int) × (List Int) × (List Int) × (List (V4 Int))) => ob (_impl_Game__points n ((r8.1, (r8.2.1, r8.2.2.2.2.2)), (r8.2.2.1, r8.2.2.2.1))) fun (r9 : (List Int)) => ckb (inb a3 r9.length) (ob (_impl_Game__points n a1) fun (r10 : (List Int)) => ckb (inb a3 r10.length) (lt (w64 ((gl 0 r9 a3.toNat) - (gl 0 r10 a3.toNat))) fun (x11 : Int) => some (x11, true))))

/-- i_RunClaims -/
noncomputable def i_RunClaims_L1 (n : Nat) (go7 : Int × Int × Int × Int × (V4 Int) × (V4 Int) × Int × Int × (List Int) × (List (V4 Int)) × (List Int) × (List Int) → Option (Int × Int × (V4 Int) × Bool × (List (V4 Int)) × (List Int) × (List Int))) (s8 : Int × Int × Int × Int × (V4 Int) × (V4 Int) × Int × Int × (List Int) × (List (V4 Int)) × (List Int) × (List Int)) : Option (Int × Int × (V4 Int) × Bool × (List (V4 Int)) × (List Int) × (List Int)) :=
  br (decide (s8.2.1 < s8.1)) (ckb (inb s8.2.1 s8.2.2.2.2.2.2.2.2.1.length) (ckb (inb (gl 0 s8.2.2.2.2.2.2.2.2.1 s8.2.1.toNat) 4) (lt (w64 ((V4.get s8.2.2.2.2.2.1 (gl 0 s8.2.2.2.2.2.2.2.2.1 s8.2.1.toNat).toNat) + 1)) fun (x9 : Int) => ckb (inb (gl 0 s8.2.2.2.2.2.2.2.2.1 s8.2.1.toNat) 4) (lt (V4.set s8.2.2.2.2.2.1 (gl 0 s8.2.2.2.2.2.2.2.2.1 s8.2.1.toNat).toNat x9) fun (x10 : (V4 Int)) => lt (w64 (s8.2.1 + 1)) fun (x11 : Int) => go7 (s8.1, x11, s8.2.2.1, s8.2.2.2.1, s8.2.2.2.2.1, x10, s8.2.2.2.2.2.2.1, s8.2.2.2.2.2.2.2.1, s8.2.2.2.2.2.2.2.2.1, s8.2.2.2.2.2.2.2.2.2.1, s8.2.2.2.2.2.2.2.2.2.2.1, s8.2.2.2.2.2.2.2.2.2.2.2))))) (some (s8.2.2.2.2.2.2.1, s8.2.2.2.2.2.2.2.1, s8.2.2.2.2.2.1, true, s8.2.2.2.2.2.2.2.2.2.1, s8.2.2.2.2.2.2.2.2.2.2.1, s8.2.2.2.2.2.2.2.2.2.2.2))
noncomputable def i_RunClaims (n : Nat) (a1 : ((Int × (Int × (List (V4 Int)))) × ((List Int) × (List Int)))) (a2 : (List (Int × (V3 Int)))) : Option (Int × Int × (V4 Int) × Bool × (List (V4 Int)) × (List Int) × (List Int)) :=
  lt (⟨0, 0, 0, 0⟩ : (V4 Int)) fun (x3 : (V4 Int)) => ob (i_areClaims n a1 a2) fun (r4 : Bool) => br (! r4) (some (0, 0, x3, false, ([] : List (V4 Int)), ([] : List Int), ([] : List Int))) (ob (_impl_Game__own n a1) fun (r5 : Int × Int × (List (V4 Int)) × (List Int) × (List Int)) => ob (__impl_Game__run'pl_ooo n a2 r5.1 r5.2.1 r5.2.2.1 r5.2.2.2.1 r5.2.2.2.2) fun (r6 : Int × Int × (List Int) × (List Int) × (List Int) × (List (V4 Int))) => fx (i_RunClaims_L1 n) n ((r6.2.2.2.2.1.length : Int), 0, 0, 0, (⟨0, 0, 0, 0⟩ : (V4 Int)), x3, r6.1, r6.2.1, r6.2.2.2.2.1, r6.2.2.2.2.2, r6.2.2.1, r6.2.2.2.1))

/-- v_markClaimS'o -/
noncomputable def v_markClaimS'o_L1 (n : Nat) (go3 : Int × Int × (List (Int × (V3 Int))) → Option (Int × (List (Int × (V3 Int))))) (go7 : Int × Int × Int × (List (Int × (V3 Int))) → Option (Int × (List (Int × (V3 Int))))) (s8 : Int × Int × Int × (List (Int × (V3 Int)))) : Option (Int × (List (Int × (V3 Int)))) :=
  br (decide (s8.2.2.1 < 3)) (ckb (inb s8.2.1 s8.2.2.2.length) (ckb (inb s8.2.2.1 3) (lt (List.set s8.2.2.2 s8.2.1.toNat ((gl (0, (⟨0, 0, 0⟩ : (V3 Int))) s8.2.2.2 s8.2.1.toNat).1, (V3.set (gl (0, (⟨0, 0, 0⟩ : (V3 Int))) s8.2.2.2 s8.2.1.toNat).2 s8.2.2.1.toNat s8.1))) fun (x9 : (List (Int × (V3 Int)))) => lt (w64 (s8.1 + 1)) fun (x10 : Int) => lt (w64 (s8.2.2.1 + 1)) fun (x11 : Int) => go7 (x10, s8.2.1, x11, x9)))) (lt (w64 (s8.2.1 + 1)) fun (x12 : Int) => go3 (s8.1, x12, s8.2.2.2))
noncomputable def v_markClaimS'o_L2 (n : Nat) (go3 : Int × Int × (List (Int × (V3 Int))) → Option (Int × (List (Int × (V3 Int))))) (s4 : Int × Int × (List (Int × (V3 Int)))) : Option (Int × (List (Int × (V3 Int)))) :=
  br (decide (s4.2.1 < (s4.2.2.length : Int))) (ckb (inb s4.2.1 s4.2.2.length) (lt (List.set s4.2.2 s4.2.1.toNat (s4.1, (gl (0, (⟨0, 0, 0⟩ : (V3 Int))) s4.2.2 s4.2.1.toNat).2)) fun (x5 : (List (Int × (V3 Int)))) => lt (w64 (s4.1 + 1)) fun (x6 : Int) => fx (v_markClaimS'o_L1 n go3) n (x6, s4.2.1, 0, x5))) (some (s4.1, s4.2.2))
noncomputable def v_markClaimS'o (n : Nat) (a1 : Int) (a2 : (List (Int × (V3 Int)))) : Option (Int × (List (Int × (V3 Int)))) :=
  fx (v_markClaimS'o_L2 n) n (a1, 0, a2)

/-- v_FnExactRunClaims -/
noncomputable def v_FnExactRunClaims (n : Nat) (a1 : ((Int × (Int × (List (V4 Int)))) × ((List Int) × (List Int)))) (a2 : (List (Int × (V3 Int)))) : Option (Bool) :=
  ob (v_szGame n a1 1048576) fun (r3 : Int) => br (decide (r3 < 0)) (some true) (ob (v_szClaimS n a2 r3) fun (r4 : Int) => br (decide (r4 < 0)) (some true) (ob (v_toGame n a1) fun (r5 : Int × Int × (List (V4 Int)) × (List Int) × (List Int)) => ob (v_toClaimS n a2) fun (r6 : (List (Int × (V3 Int)))) => ob (s_RunClaims n ((r5.1, (r5.2.1, r5.2.2.1)), (r5.2.2.2.1, r5.2.2.2.2)) r6) fun (r7 : Int × Int × (V4 Int) × Bool × (List (V4 Int)) × (List Int) × (List Int)) => ob (v_toGame n a1) fun (r8 : Int × Int × (List (V4 Int)) × (List Int) × (List Int)) => ob (v_toClaimS n a2) fun (r9 : (List (Int × (V3 Int)))) => ob (i_RunClaims n ((r8.1, (r8.2.1, r8.2.2.1)), (r8.2.2.2.1, r8.2.2.2.2)) r9) fun (r10 : Int × Int × (V4 Int) × Bool × (List (V4 Int)) × (List Int) × (List Int)) => ob (v_eqGame n ((r10.1, (r10.2.1, r10.2.2.2.2.1)), (r10.2.2.2.2.2.1, r10.2.2.2.2.2.2)) ((r7.1, (r7.2.1, r7.2.2.2.2.1)), (r7.2.2.2.2.2.1, r7.2.2.2.2.2.2))) fun (r11 : Bool) => ob (br (! r11) (some true) (ob (v_eqIntA4 n r10.2.2.1 r7.2.2.1) fun (r12 : Bool) => some (! r12))) fun (x13 : Bool) => ob (br x13 (some true) (some (! (r10.2.2.2.1 == r7.2.2.2.1)))) fun (x14 : Bool) => br x14 (some false) (ob (v_toGame n a1) fun (r15 : Int × Int × (List (V4 Int)) × (List Int) × (List Int)) => ob (v_eqGame n ((r8.1, (r8.2.1, r8.2.2.1)), (r8.2.2.2.1, r8.2.2.2.2)) ((r15.1, (r15.2.1, r15.2.2.1)), (r15.2.2.2.1, r15.2.2.2.2))) fun (r16 : Bool) => br (! r16) (some false) (ob (v_toClaimS n a2) fun (r17 : (List (Int × (V3 Int)))) => ob (v_eqClaimS n r9 r17) fun (r18 : Bool) => br (! r18) (some false) (ob (v_markGame'ooo n r8.1 r8.2.1 1 r8.2.2.1 r8.2.2.2.1 r8.2.2.2.2) fun (r19 : Int × (List (V4 Int)) × (List Int) × (List Int)) => ob (v_markClaimS'o n r19.1 r9) fun (r20 : Int × (List (Int × (V3 Int)))) => ob (br (decide (r20.1 < 0)) (some true) (ob (v_eqGame n ((r10.1, (r10.2.1, r10.2.2.2.2.1)), (r10.2.2.2.2.2.1, r10.2.2.2.2.2.2)) ((r7.1, (r7.2.1, r7.2.2.2.2.1)), (r7.2.2.2.2.2.1, r7.2.2.2.2.2.2))) fun (r21 : Bool) => some (! r21))) fun (x22 : Bool) => ob (br x22 (some true) (ob (v_eqIntA4 n r10.2.2.1 r7.2.2.1) fun (r23 : Bool) => some (! r23))) fun (x24 : Bool) => ob (br x24 (some true) (some (! (r10.2.2.2.1 == r7.2.2.2.1)))) fun (x25 : Bool) => br x25 (some false) (ob (v_markGame'ooo n r10.1 r10.2.1 1 r10.2.2.2.2.1 r10.2.2.2.2.2.1 r10.2.2.2.2.2.2) fun (r26 : Int × (List (V4 Int)) × (List Int) × (List Int)) => ob (v_heldGame n ((r10.1, (r10.2.1, r26.2.1)), (r26.2.2.1, r26.2.2.2)) 1) fun (r27 : Int) => br (decide (r27 < 0)) (some false) (br (!decide (r27 = r26.1)) (some false) (ob (v_toGame n a1) fun (r28 : Int × Int × (List (V4 Int)) × (List Int) × (List Int)) => ob (v_toClaimS n a2) fun (r29 : (List (Int × (V3 Int)))) => ob (i_RunClaims n ((r28.1, (r28.2.1, r28.2.2.1)), (r28.2.2.2.1, r28.2.2.2.2)) r29) fun (r30 : Int × Int × (V4 Int) × Bool × (List (V4 Int)) × (List Int) × (List Int)) => ob (v_eqGame n ((r30.1, (r30.2.1, r30.2.2.2.2.1)), (r30.2.2.2.2.2.1, r30.2.2.2.2.2.2)) ((r7.1, (r7.2.1, r7.2.2.2.2.1)), (r7.2.2.2.2.2.1, r7.2.2.2.2.2.2))) fun (r31 : Bool) => ob (br (! r31) (some true) (ob (v_eqIntA4 n r30.2.2.1 r7.2.2.1) fun (r32 : Bool) => some (! r32))) fun (x33 : Bool) => ob (br x33 (some true) (some (! (r30.2.2.2.1 == r7.2.2.2.1)))) fun (x34 : Bool) => br x34 (some false) (ob (v_heldGame n ((r10.1, (r10.2.1, r26.2.1)), (r26.2.2.1, r26.2.2.2)) 1) fun (r35 : Int) => br (decide (r35 < 0)) (some false) (br (!decide (r35 = r26.1)) (some false) (some true)))))))))))

end Go.Pl
