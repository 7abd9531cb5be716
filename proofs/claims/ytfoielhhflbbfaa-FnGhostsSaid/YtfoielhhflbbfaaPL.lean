/- Printed by a program of the session: the program's functions as plain functions. -/
import Derived.Test.YtfoielhhflbbfaaZ0
import Derived.Lib.Bytealg
namespace Go.Pl
open Go Go.Tv Go.RowKit
set_option linter.unusedVariables false
def bls (a b : ByteArray) : Bool := Op.bytesLess a.toList b.toList
/-- s_l1In -/
noncomputable def s_l1In (n : Nat) (a1 : Int) (a2 : Int) (a3 : Int) : Option (Bool) :=
  ob (br (decide (a2 ≤ a1)) (some (decide (a1 ≤ a3))) (some false)) fun (x4 : Bool) => some x4

/-- s_l2Card -/
noncomputable def s_l2Card_L1 (n : Nat) (go2 : Int × (V4 Int) → Option (Bool)) (s3 : Int × (V4 Int)) : Option (Bool) :=
  br (decide (s3.1 < 4)) (ckb (inb s3.1 4) (ob (s_l1In n (V4.get s3.2 s3.1.toNat) 0 2) fun (r4 : Bool) => br (! r4) (some false) (lt (w64 (s3.1 + 1)) fun (x5 : Int) => go2 (x5, s3.2)))) (some true)
noncomputable def s_l2Card (n : Nat) (a1 : (V4 Int)) : Option (Bool) :=
  fx (s_l2Card_L1 n) n (0, a1)

/-- s_l2Differ -/
noncomputable def s_l2Differ_L1 (n : Nat) (go3 : Int × Int × (V4 Int) × (V4 Int) → Option (Int)) (s4 : Int × Int × (V4 Int) × (V4 Int)) : Option (Int) :=
  br (decide (s4.2.1 < 4)) (ckb (inb s4.2.1 4) (ckb (inb s4.2.1 4) (br (!decide ((V4.get s4.2.2.1 s4.2.1.toNat) = (V4.get s4.2.2.2 s4.2.1.toNat))) (lt (w64 (s4.1 + 1)) fun (x5 : Int) => lt (w64 (s4.2.1 + 1)) fun (x6 : Int) => go3 (x5, x6, s4.2.2.1, s4.2.2.2)) (lt (w64 (s4.2.1 + 1)) fun (x7 : Int) => go3 (s4.1, x7, s4.2.2.1, s4.2.2.2))))) (some s4.1)
noncomputable def s_l2Differ (n : Nat) (a1 : (V4 Int)) (a2 : (V4 Int)) : Option (Int) :=
  fx (s_l2Differ_L1 n) n (0, 0, a1, a2)

/-- i_within -/
noncomputable def i_within (n : Nat) (a1 : Int) (a2 : Int) (a3 : Int) : Option (Bool) :=
  ob (br (decide (a2 ≤ a1)) (some (decide (a1 ≤ a3))) (some false)) fun (x4 : Bool) => some x4

/-- i_allWithin_1'pp -/
noncomputable def i_allWithin_1'pp (n : Nat) (a1 : Int) (a2 : Int) (a3 : Int) : Option (Bool × Int × Int) :=
  ob (i_within n a1 a2 a3) fun (r4 : Bool) => some ((! r4), a2, a3)

/-- slices_IndexFunc_Sint_int_'l_i_allWithin_1pp -/
noncomputable def slices_IndexFunc_Sint_int_'l_i_allWithin_1pp_L1 (n : Nat) (go4 : (List Int) × Int × Int × Int × Int → Option (Int × Int × Int)) (s5 : (List Int) × Int × Int × Int × Int) : Option (Int × Int × Int) :=
  br (decide (s5.2.2.1 < s5.2.1)) (ckb (inb s5.2.2.1 s5.1.length) (ob (i_allWithin_1'pp n (gl 0 s5.1 s5.2.2.1.toNat) s5.2.2.2.1 s5.2.2.2.2) fun (r6 : Bool × Int × Int) => br r6.1 (some (s5.2.2.1, r6.2.1, r6.2.2)) (lt (w64 (s5.2.2.1 + 1)) fun (x7 : Int) => go4 (s5.1, s5.2.1, x7, r6.2.1, r6.2.2)))) (some ((-1), s5.2.2.2.1, s5.2.2.2.2))
noncomputable def slices_IndexFunc_Sint_int_'l_i_allWithin_1pp (n : Nat) (a1 : (List Int)) (a2 : Int) (a3 : Int) : Option (Int × Int × Int) :=
  fx (slices_IndexFunc_Sint_int_'l_i_allWithin_1pp_L1 n) n (a1, (a1.length : Int), 0, a2, a3)

/-- slices_ContainsFunc_Sint_int_'l_i_allWithin_1pp -/
noncomputable def slices_ContainsFunc_Sint_int_'l_i_allWithin_1pp (n : Nat) (a1 : (List Int)) (a2 : Int) (a3 : Int) : Option (Bool × Int × Int) :=
  ob (slices_IndexFunc_Sint_int_'l_i_allWithin_1pp n a1 a2 a3) fun (r4 : Int × Int × Int) => some ((decide (0 ≤ r4.1)), r4.2.1, r4.2.2)

/-- i_allWithin -/
noncomputable def i_allWithin (n : Nat) (a1 : (List Int)) (a2 : Int) (a3 : Int) : Option (Bool) :=
  ob (slices_ContainsFunc_Sint_int_'l_i_allWithin_1pp n a1 a2 a3) fun (r4 : Bool × Int × Int) => some (! r4.1)

/-- i_IsCard -/
noncomputable def i_IsCard (n : Nat) (a1 : (V4 Int)) : Option (Bool) :=
  ob (i_allWithin n (V4.els a1) 0 2) fun (r2 : Bool) => some r2

/-- slices_Clone_SA4_A4_ -/
noncomputable def slices_Clone_SA4_A4_ (n : Nat) (a1 : (List (V4 Int))) : Option ((List (V4 Int))) :=
  amb a1.isEmpty fun (b2 : Bool) => br b2 (some ([] : List (V4 Int))) (ckb (apok 32 (0 + a1.length)) (some a1))

/-- i_number -/
noncomputable def i_number_L1 (n : Nat) (go2 : Int × (V4 Int) × Int → Option (Int)) (s3 : Int × (V4 Int) × Int) : Option (Int) :=
  br (decide (s3.2.2 < 4)) (ckb (inb s3.2.2 4) (lt (w64 (3 * s3.1)) fun (x4 : Int) => lt (w64 (x4 + (V4.get s3.2.1 s3.2.2.toNat))) fun (x5 : Int) => lt (w64 (s3.2.2 + 1)) fun (x6 : Int) => go2 (x5, s3.2.1, x6))) (some s3.1)
noncomputable def i_number (n : Nat) (a1 : (V4 Int)) : Option (Int) :=
  fx (i_number_L1 n) n (0, a1, 0)

/-- i_differ -/
noncomputable def i_differ_L1 (n : Nat) (go3 : Int × Int × (V4 Int) × (V4 Int) → Option (Int)) (s4 : Int × Int × (V4 Int) × (V4 Int)) : Option (Int) :=
  br (decide (s4.2.1 < 4)) (ckb (inb s4.2.1 4) (ckb (inb s4.2.1 4) (br (!decide ((V4.get s4.2.2.1 s4.2.1.toNat) = (V4.get s4.2.2.2 s4.2.1.toNat))) (lt (w64 (s4.1 + 1)) fun (x5 : Int) => lt (w64 (s4.2.1 + 1)) fun (x6 : Int) => go3 (x5, x6, s4.2.2.1, s4.2.2.2)) (lt (w64 (s4.2.1 + 1)) fun (x7 : Int) => go3 (s4.1, x7, s4.2.2.1, s4.2.2.2))))) (some s4.1)
noncomputable def i_differ (n : Nat) (a1 : (V4 Int)) (a2 : (V4 Int)) : Option (Int) :=
  fx (i_differ_L1 n) n (0, 0, a1, a2)

/-- s_Cur_next'p -/
noncomputable def s_Cur_next'p_J1 (n : Nat) (s2 : Int × ((List Int) × (Int × Int))) : Option (Int × ((List Int) × (Int × Int))) :=
  lt (w64 (s2.2.2.1 + 1)) fun (x3 : Int) => lt (s2.2.1, (x3, s2.2.2.2)) fun (x4 : ((List Int) × (Int × Int))) => lt (IntKind.wrap .u64 (x4.2.2 * 6364136223846793005)) fun (x5 : Int) => lt (IntKind.wrap .u64 s2.1) fun (x6 : Int) => lt (IntKind.wrap .u64 (x5 + x6)) fun (x7 : Int) => lt (IntKind.wrap .u64 (x7 + 462197)) fun (x8 : Int) => lt (x4.1, (x4.2.1, x8)) fun (x9 : ((List Int) × (Int × Int))) => br (decide (x9.2.1 ≤ (x9.1.length : Int))) (some (s2.1, x9)) (lt (shrI .u64 x9.2.2 40) fun (x10 : Int) => lt (bits .and .u64 x10 255) fun (x11 : Int) => lt (w64 x11) fun (x12 : Int) => some (x12, x9))
noncomputable def s_Cur_next'p (n : Nat) (a1 : ((List Int) × (Int × Int))) : Option (Int × ((List Int) × (Int × Int))) :=
  br (decide (a1.2.1 < (a1.1.length : Int))) (ckb (inb a1.2.1 a1.1.length) (lt (w64 (gl 0 a1.1 a1.2.1.toNat)) fun (x13 : Int) => s_Cur_next'p_J1 n (x13, a1))) (s_Cur_next'p_J1 n (0, a1))

/-- s_Cur_pick'p -/
noncomputable def s_Cur_pick'p (n : Nat) (a1 : Int) (a2 : ((List Int) × (Int × Int))) : Option (Int × ((List Int) × (Int × Int))) :=
  br (decide (a1 ≤ 1)) (some (0, a2)) (ob (s_Cur_next'p n a2) fun (r3 : Int × ((List Int) × (Int × Int))) => br (decide (200 < a1)) (lt (w64 (r3.1 * 256)) fun (x4 : Int) => ob (s_Cur_next'p n r3.2) fun (r5 : Int × ((List Int) × (Int × Int))) => lt (w64 (x4 + r5.1)) fun (x6 : Int) => ckb (!decide (a1 = 0)) (lt (Int.tmod x6 a1) fun (x7 : Int) => some (x7, r5.2))) (ckb (!decide (a1 = 0)) (lt (Int.tmod r3.1 a1) fun (x8 : Int) => some (x8, r3.2))))

/-- s_Cur_among'pl -/
noncomputable def s_Cur_among'pl (n : Nat) (a1 : (List Int)) (a2 : ((List Int) × (Int × Int))) : Option (Int × ((List Int) × (Int × Int))) :=
  ob (s_Cur_pick'p n (a1.length : Int) a2) fun (r3 : Int × ((List Int) × (Int × Int))) => ckb (inb r3.1 a1.length) (some ((gl 0 a1 r3.1.toNat), r3.2))

/-- s_l2At -/
noncomputable def s_l2At (n : Nat) (a1 : Int) : Option ((V4 Int)) :=
  lt (w64 (Int.tdiv a1 27)) fun (x2 : Int) => lt (w64 (Int.tdiv a1 9)) fun (x3 : Int) => lt (Int.tmod x3 3) fun (x4 : Int) => lt (w64 (Int.tdiv a1 3)) fun (x5 : Int) => lt (Int.tmod x5 3) fun (x6 : Int) => lt (Int.tmod a1 3) fun (x7 : Int) => lt (⟨x2, x4, x6, x7⟩ : (V4 Int)) fun (x8 : (V4 Int)) => some x8

/-- s_l2Number -/
noncomputable def s_l2Number (n : Nat) (a1 : (V4 Int)) : Option (Int) :=
  lt (w64 (27 * a1.x0)) fun (x2 : Int) => lt (w64 (9 * a1.x1)) fun (x3 : Int) => lt (w64 (x2 + x3)) fun (x4 : Int) => lt (w64 (3 * a1.x2)) fun (x5 : Int) => lt (w64 (x4 + x5)) fun (x6 : Int) => lt (w64 (x6 + a1.x3)) fun (x7 : Int) => some x7

/-- s_l2Less -/
noncomputable def s_l2Less (n : Nat) (a1 : (V4 Int)) (a2 : (V4 Int)) : Option (Bool) :=
  ob (s_l2Number n a1) fun (r3 : Int) => ob (s_l2Number n a2) fun (r4 : Int) => some (decide (r3 < r4))

/-- s_l2Own -/
noncomputable def s_l2Own (n : Nat) (a1 : (List (V4 Int))) : Option ((List (V4 Int))) :=
  ckb (apok 32 (0 + a1.length)) (some a1)

/-- s_l2Put -/
noncomputable def s_l2Put_L1 (n : Nat) (go3 : (List (V4 Int)) × Int × (V4 Int) → Option ((List (V4 Int)))) (s4 : (List (V4 Int)) × Int × (V4 Int)) : Option ((List (V4 Int))) :=
  ob (br (decide (s4.2.1 < (s4.1.length : Int))) (ckb (inb s4.2.1 s4.1.length) (ob (s_l2Less n (gl (⟨0, 0, 0, 0⟩ : (V4 Int)) s4.1 s4.2.1.toNat) s4.2.2) fun (r5 : Bool) => some r5)) (some false)) fun (x6 : Bool) => br x6 (lt (w64 (s4.2.1 + 1)) fun (x7 : Int) => go3 (s4.1, x7, s4.2.2)) (ob (br (decide (s4.2.1 < (s4.1.length : Int))) (ckb (inb s4.2.1 s4.1.length) (some (eqd (gl (⟨0, 0, 0, 0⟩ : (V4 Int)) s4.1 s4.2.1.toNat) s4.2.2))) (some false)) fun (x8 : Bool) => br x8 (ob (s_l2Own n s4.1) fun (r9 : (List (V4 Int))) => some r9) (ckb (slb 0 s4.2.1 s4.1.length) (ob (s_l2Own n (sub s4.1 0 s4.2.1.toNat)) fun (r10 : (List (V4 Int))) => ckb (apok 32 (r10.length + 1)) (ckb (slb s4.2.1 (s4.1.length : Int) s4.1.length) (ckb (apok 32 ((r10 ++ [s4.2.2]).length + (sub s4.1 s4.2.1.toNat s4.1.length).length)) (some ((r10 ++ [s4.2.2]) ++ (sub s4.1 s4.2.1.toNat s4.1.length))))))))
noncomputable def s_l2Put (n : Nat) (a1 : (List (V4 Int))) (a2 : (V4 Int)) : Option ((List (V4 Int))) :=
  fx (s_l2Put_L1 n) n (a1, 0, a2)

/-- s_Cur_one'p -/
noncomputable def s_Cur_one'p (n : Nat) (a1 : Int) (a2 : ((List Int) × (Int × Int))) : Option (Bool × ((List Int) × (Int × Int))) :=
  ob (s_Cur_pick'p n a1 a2) fun (r3 : Int × ((List Int) × (Int × Int))) => some ((decide (r3.1 = 0)), r3.2)

/-- s_Cur_hand'p -/
noncomputable def s_Cur_hand'p_L1 (n : Nat) (go4 : Int × Int × ((List Int) × (Int × Int)) × (List (V4 Int)) → Option (((List Int) × (Int × Int)) × (List (V4 Int)))) (go8 : Int × Int × Int × ((List Int) × (Int × Int)) × (List (V4 Int)) × (V4 Int) → Option (((List Int) × (Int × Int)) × (List (V4 Int)))) (s9 : Int × Int × Int × ((List Int) × (Int × Int)) × (List (V4 Int)) × (V4 Int)) : Option (((List Int) × (Int × Int)) × (List (V4 Int))) :=
  br (decide (s9.2.2.1 < 4)) (ckb (inb s9.2.2.1 4) (lt (V4.set s9.2.2.2.2.2 s9.2.2.1.toNat 1) fun (x10 : (V4 Int)) => lt (w64 (s9.2.2.1 + 1)) fun (x11 : Int) => go8 (s9.1, s9.2.1, x11, s9.2.2.2.1, s9.2.2.2.2.1, x10))) (ob (s_l2Put n s9.2.2.2.2.1 s9.2.2.2.2.2) fun (r12 : (List (V4 Int))) => lt (w64 (s9.2.1 - 1)) fun (x13 : Int) => go4 (s9.1, x13, s9.2.2.2.1, r12))
noncomputable def s_Cur_hand'p_J2 (n : Nat) (s14 : Bool × ((List Int) × (Int × Int)) × (List (V4 Int))) : Option (((List Int) × (Int × Int)) × (List (V4 Int))) :=
  br s14.1 (ob (s_Cur_pick'p n (s14.2.2.length : Int) s14.2.1) fun (r15 : Int × ((List Int) × (Int × Int))) => ob (s_Cur_pick'p n 3 r15.2) fun (r16 : Int × ((List Int) × (Int × Int))) => br (decide (r16.1 = 0)) (ob (s_Cur_pick'p n 4 r16.2) fun (r17 : Int × ((List Int) × (Int × Int))) => ob (s_Cur_among'pl n [(-1), 3] r17.2) fun (r18 : Int × ((List Int) × (Int × Int))) => ckb (inb r15.1 s14.2.2.length) (ckb (inb r17.1 4) (lt (List.set s14.2.2 r15.1.toNat (V4.set (gl (⟨0, 0, 0, 0⟩ : (V4 Int)) s14.2.2 r15.1.toNat) r17.1.toNat r18.1)) fun (x19 : (List (V4 Int))) => some (r18.2, x19)))) (br (decide (r16.1 = 1)) (ckb (inb r15.1 s14.2.2.length) (ckb (apok 32 (s14.2.2.length + 1)) (some (r16.2, (s14.2.2 ++ [(gl (⟨0, 0, 0, 0⟩ : (V4 Int)) s14.2.2 r15.1.toNat)]))))) (ob (s_Cur_pick'p n 81 r16.2) fun (r20 : Int × ((List Int) × (Int × Int))) => ob (s_l2At n r20.1) fun (r21 : (V4 Int)) => ckb (inb r15.1 s14.2.2.length) (lt (List.set s14.2.2 r15.1.toNat r21) fun (x22 : (List (V4 Int))) => some (r20.2, x22))))) (some (s14.2.1, s14.2.2))
noncomputable def s_Cur_hand'p_L3 (n : Nat) (go4 : Int × Int × ((List Int) × (Int × Int)) × (List (V4 Int)) → Option (((List Int) × (Int × Int)) × (List (V4 Int)))) (s5 : Int × Int × ((List Int) × (Int × Int)) × (List (V4 Int))) : Option (((List Int) × (Int × Int)) × (List (V4 Int))) :=
  br (decide (0 < s5.2.1)) (ob (s_Cur_pick'p n 81 s5.2.2.1) fun (r6 : Int × ((List Int) × (Int × Int))) => ob (s_l2At n r6.1) fun (r7 : (V4 Int)) => fx (s_Cur_hand'p_L1 n go4) n (s5.1, s5.2.1, s5.1, r6.2, s5.2.2.2, r7)) (br (decide (0 < (s5.2.2.2.length : Int))) (ob (s_Cur_one'p n 24 s5.2.2.1) fun (r23 : Bool × ((List Int) × (Int × Int))) => s_Cur_hand'p_J2 n (r23.1, r23.2, s5.2.2.2)) (s_Cur_hand'p_J2 n (false, s5.2.2.1, s5.2.2.2)))
noncomputable def s_Cur_hand'p (n : Nat) (a1 : ((List Int) × (Int × Int))) : Option (((List Int) × (Int × Int)) × (List (V4 Int))) :=
  ob (s_Cur_among'pl n [4, 3, 4, 2] a1) fun (r2 : Int × ((List Int) × (Int × Int))) => ob (s_Cur_among'pl n [6, 9, 4, 12, 3, 2, 1, 0, 20, 26, 27, 28] r2.2) fun (r3 : Int × ((List Int) × (Int × Int))) => fx (s_Cur_hand'p_L3 n) n (r2.1, r3.1, r3.2, ([] : List (V4 Int)))

/-- s_l2Hand -/
noncomputable def s_l2Hand_L1 (n : Nat) (go2 : (List (V4 Int)) × Int → Option (Bool)) (s3 : (List (V4 Int)) × Int) : Option (Bool) :=
  ob (br (decide (s3.2 < (s3.1.length : Int))) (some (decide (s3.2 ≤ 27))) (some false)) fun (x4 : Bool) => br x4 (ckb (inb s3.2 s3.1.length) (ob (s_l2Card n (gl (⟨0, 0, 0, 0⟩ : (V4 Int)) s3.1 s3.2.toNat)) fun (r5 : Bool) => ob (br (! r5) (some true) (ob (br (decide (0 < s3.2)) (lt (w64 (s3.2 - 1)) fun (x6 : Int) => ckb (inb x6 s3.1.length) (ckb (inb s3.2 s3.1.length) (ob (s_l2Less n (gl (⟨0, 0, 0, 0⟩ : (V4 Int)) s3.1 x6.toNat) (gl (⟨0, 0, 0, 0⟩ : (V4 Int)) s3.1 s3.2.toNat)) fun (r7 : Bool) => some (! r7)))) (some false)) fun (x8 : Bool) => some x8)) fun (x9 : Bool) => br x9 (some false) (lt (w64 (s3.2 + 1)) fun (x10 : Int) => go2 (s3.1, x10)))) (some (decide ((s3.1.length : Int) ≤ 27)))
noncomputable def s_l2Hand (n : Nat) (a1 : (List (V4 Int))) : Option (Bool) :=
  fx (s_l2Hand_L1 n) n (a1, 0)

/-- s_l2Third -/
noncomputable def s_l2Third_L1 (n : Nat) (go4 : Int × (V4 Int) × (V4 Int) × (V4 Int) × (V4 Int) → Option ((V4 Int))) (s5 : Int × (V4 Int) × (V4 Int) × (V4 Int) × (V4 Int)) : Option ((V4 Int)) :=
  br (decide (s5.1 < 4)) (ckb (inb s5.1 4) (lt (w64 (6 - (V4.get s5.2.1 s5.1.toNat))) fun (x6 : Int) => ckb (inb s5.1 4) (lt (w64 (x6 - (V4.get s5.2.2.1 s5.1.toNat))) fun (x7 : Int) => lt (Int.tmod x7 3) fun (x8 : Int) => ckb (inb s5.1 4) (lt (V4.set s5.2.2.2.2 s5.1.toNat x8) fun (x9 : (V4 Int)) => lt (w64 (s5.1 + 1)) fun (x10 : Int) => go4 (x10, s5.2.1, s5.2.2.1, s5.2.2.2.1, x9))))) (some s5.2.2.2.2)
noncomputable def s_l2Third (n : Nat) (a1 : (V4 Int)) (a2 : (V4 Int)) : Option ((V4 Int)) :=
  lt (⟨0, 0, 0, 0⟩ : (V4 Int)) fun (x3 : (V4 Int)) => fx (s_l2Third_L1 n) n (0, a1, a2, (⟨0, 0, 0, 0⟩ : (V4 Int)), x3)

/-- i_IsHand -/
noncomputable def i_IsHand_L1 (n : Nat) (go2 : (List (V4 Int)) × (List (V4 Int)) × Int × Int → Option (Bool)) (s3 : (List (V4 Int)) × (List (V4 Int)) × Int × Int) : Option (Bool) :=
  br (decide (s3.2.2.2 < s3.2.2.1)) (ckb (inb s3.2.2.2 s3.2.1.length) (ob (i_IsCard n (gl (⟨0, 0, 0, 0⟩ : (V4 Int)) s3.2.1 s3.2.2.2.toNat)) fun (r4 : Bool) => ob (br (! r4) (some true) (ob (br (decide (0 < s3.2.2.2)) (lt (w64 (s3.2.2.2 - 1)) fun (x5 : Int) => ckb (inb x5 s3.1.length) (ob (i_number n (gl (⟨0, 0, 0, 0⟩ : (V4 Int)) s3.1 x5.toNat)) fun (r6 : Int) => ob (i_number n (gl (⟨0, 0, 0, 0⟩ : (V4 Int)) s3.2.1 s3.2.2.2.toNat)) fun (r7 : Int) => some (decide (r7 ≤ r6)))) (some false)) fun (x8 : Bool) => some x8)) fun (x9 : Bool) => br x9 (some false) (lt (w64 (s3.2.2.2 + 1)) fun (x10 : Int) => go2 (s3.1, s3.2.1, s3.2.2.1, x10)))) (some (decide ((s3.1.length : Int) ≤ 27)))
noncomputable def i_IsHand (n : Nat) (a1 : (List (V4 Int))) : Option (Bool) :=
  fx (i_IsHand_L1 n) n (a1, a1, (a1.length : Int), 0)

/-- i_third -/
noncomputable def i_third_L1 (n : Nat) (go4 : Int × (V4 Int) × (V4 Int) × (V4 Int) × (V4 Int) → Option ((V4 Int))) (s5 : Int × (V4 Int) × (V4 Int) × (V4 Int) × (V4 Int)) : Option ((V4 Int)) :=
  br (decide (s5.1 < 4)) (ckb (inb s5.1 4) (lt (w64 (6 - (V4.get s5.2.1 s5.1.toNat))) fun (x6 : Int) => ckb (inb s5.1 4) (lt (w64 (x6 - (V4.get s5.2.2.1 s5.1.toNat))) fun (x7 : Int) => lt (Int.tmod x7 3) fun (x8 : Int) => ckb (inb s5.1 4) (lt (V4.set s5.2.2.2.2 s5.1.toNat x8) fun (x9 : (V4 Int)) => lt (w64 (s5.1 + 1)) fun (x10 : Int) => go4 (x10, s5.2.1, s5.2.2.1, s5.2.2.2.1, x9))))) (some s5.2.2.2.2)
noncomputable def i_third (n : Nat) (a1 : (V4 Int)) (a2 : (V4 Int)) : Option ((V4 Int)) :=
  lt (⟨0, 0, 0, 0⟩ : (V4 Int)) fun (x3 : (V4 Int)) => fx (i_third_L1 n) n (0, a1, a2, (⟨0, 0, 0, 0⟩ : (V4 Int)), x3)

/-- i_linesIn -/
noncomputable def i_linesIn_L1 (n : Nat) (go9 : (List (V4 Int)) × (List (V4 Int)) × Int × Int × (VL 81 Int) × (List (V3 Int)) → Option ((List (V3 Int)))) (go12 : (List (V4 Int)) × Int × Int × (List (V4 Int)) × Int × Int × (VL 81 Int) × (List (V3 Int)) × (V4 Int) → Option ((List (V3 Int)))) (s13 : (List (V4 Int)) × Int × Int × (List (V4 Int)) × Int × Int × (VL 81 Int) × (List (V3 Int)) × (V4 Int)) : Option ((List (V3 Int))) :=
  br (decide (s13.2.2.1 < (s13.1.length : Int))) (ckb (inb s13.2.2.1 s13.1.length) (ob (i_third n s13.2.2.2.2.2.2.2.2 (gl (⟨0, 0, 0, 0⟩ : (V4 Int)) s13.1 s13.2.2.1.toNat)) fun (r14 : (V4 Int)) => ob (i_number n r14) fun (r15 : Int) => ckb (inb r15 81) (lt (w64 ((VL.get 0 s13.2.2.2.2.2.2.1 r15.toNat) - 1)) fun (x16 : Int) => br (decide (s13.2.2.1 < x16)) (lt (⟨s13.2.1, s13.2.2.1, x16⟩ : (V3 Int)) fun (x17 : (V3 Int)) => ckb (apok 24 (s13.2.2.2.2.2.2.2.1.length + 1)) (lt (w64 (s13.2.2.1 + 1)) fun (x18 : Int) => go12 (s13.1, s13.2.1, x18, s13.2.2.2.1, s13.2.2.2.2.1, s13.2.2.2.2.2.1, s13.2.2.2.2.2.2.1, (s13.2.2.2.2.2.2.2.1 ++ [x17]), s13.2.2.2.2.2.2.2.2))) (lt (w64 (s13.2.2.1 + 1)) fun (x19 : Int) => go12 (s13.1, s13.2.1, x19, s13.2.2.2.1, s13.2.2.2.2.1, s13.2.2.2.2.2.1, s13.2.2.2.2.2.2.1, s13.2.2.2.2.2.2.2.1, s13.2.2.2.2.2.2.2.2))))) (lt (w64 (s13.2.2.2.2.2.1 + 1)) fun (x20 : Int) => go9 (s13.1, s13.2.2.2.1, s13.2.2.2.2.1, x20, s13.2.2.2.2.2.2.1, s13.2.2.2.2.2.2.2.1))
noncomputable def i_linesIn_L2 (n : Nat) (go9 : (List (V4 Int)) × (List (V4 Int)) × Int × Int × (VL 81 Int) × (List (V3 Int)) → Option ((List (V3 Int)))) (s10 : (List (V4 Int)) × (List (V4 Int)) × Int × Int × (VL 81 Int) × (List (V3 Int))) : Option ((List (V3 Int))) :=
  br (decide (s10.2.2.2.1 < s10.2.2.1)) (ckb (inb s10.2.2.2.1 s10.2.1.length) (lt (w64 (s10.2.2.2.1 + 1)) fun (x11 : Int) => fx (i_linesIn_L1 n go9) n (s10.1, s10.2.2.2.1, x11, s10.2.1, s10.2.2.1, s10.2.2.2.1, s10.2.2.2.2.1, s10.2.2.2.2.2, (gl (⟨0, 0, 0, 0⟩ : (V4 Int)) s10.2.1 s10.2.2.2.1.toNat)))) (some s10.2.2.2.2.2)
noncomputable def i_linesIn_L3 (n : Nat) (go3 : (List (V4 Int)) × (List (V4 Int)) × Int × Int × (VL 81 Int) → Option ((List (V3 Int)))) (s4 : (List (V4 Int)) × (List (V4 Int)) × Int × Int × (VL 81 Int)) : Option ((List (V3 Int))) :=
  br (decide (s4.2.2.2.1 < s4.2.2.1)) (ckb (inb s4.2.2.2.1 s4.2.1.length) (ob (i_number n (gl (⟨0, 0, 0, 0⟩ : (V4 Int)) s4.2.1 s4.2.2.2.1.toNat)) fun (r5 : Int) => lt (w64 (s4.2.2.2.1 + 1)) fun (x6 : Int) => ckb (inb r5 81) (lt (VL.set s4.2.2.2.2 r5.toNat x6) fun (x7 : (VL 81 Int)) => lt (w64 (s4.2.2.2.1 + 1)) fun (x8 : Int) => go3 (s4.1, s4.2.1, s4.2.2.1, x8, x7)))) (fx (i_linesIn_L2 n) n (s4.1, s4.1, (s4.1.length : Int), 0, s4.2.2.2.2, ([] : List (V3 Int))))
noncomputable def i_linesIn (n : Nat) (a1 : (List (V4 Int))) : Option ((List (V3 Int))) :=
  lt (VL.rep 81 0) fun (x2 : (VL 81 Int)) => fx (i_linesIn_L3 n) n (a1, a1, (a1.length : Int), 0, x2)

/-- s_l2Place -/
noncomputable def s_l2Place_L1 (n : Nat) (go3 : (List (V4 Int)) × Int × (V4 Int) → Option (Int)) (s4 : (List (V4 Int)) × Int × (V4 Int)) : Option (Int) :=
  br (decide (s4.2.1 < (s4.1.length : Int))) (ckb (inb s4.2.1 s4.1.length) (br (eqd (gl (⟨0, 0, 0, 0⟩ : (V4 Int)) s4.1 s4.2.1.toNat) s4.2.2) (some s4.2.1) (lt (w64 (s4.2.1 + 1)) fun (x5 : Int) => go3 (s4.1, x5, s4.2.2)))) (some (-1))
noncomputable def s_l2Place (n : Nat) (a1 : (List (V4 Int))) (a2 : (V4 Int)) : Option (Int) :=
  fx (s_l2Place_L1 n) n (a1, 0, a2)

/-- s_l2Lines -/
noncomputable def s_l2Lines_L1 (n : Nat) (go2 : (List (V4 Int)) × Int × (List (V3 Int)) → Option ((List (V3 Int)))) (go5 : (List (V4 Int)) × Int × Int × (List (V3 Int)) → Option ((List (V3 Int)))) (s6 : (List (V4 Int)) × Int × Int × (List (V3 Int))) : Option ((List (V3 Int))) :=
  br (decide (s6.2.2.1 < (s6.1.length : Int))) (ckb (inb s6.2.1 s6.1.length) (ckb (inb s6.2.2.1 s6.1.length) (ob (s_l2Third n (gl (⟨0, 0, 0, 0⟩ : (V4 Int)) s6.1 s6.2.1.toNat) (gl (⟨0, 0, 0, 0⟩ : (V4 Int)) s6.1 s6.2.2.1.toNat)) fun (r7 : (V4 Int)) => ob (s_l2Place n s6.1 r7) fun (r8 : Int) => br (decide (s6.2.2.1 < r8)) (lt (⟨s6.2.1, s6.2.2.1, r8⟩ : (V3 Int)) fun (x9 : (V3 Int)) => ckb (apok 24 (s6.2.2.2.length + 1)) (lt (w64 (s6.2.2.1 + 1)) fun (x10 : Int) => go5 (s6.1, s6.2.1, x10, (s6.2.2.2 ++ [x9])))) (lt (w64 (s6.2.2.1 + 1)) fun (x11 : Int) => go5 (s6.1, s6.2.1, x11, s6.2.2.2))))) (lt (w64 (s6.2.1 + 1)) fun (x12 : Int) => go2 (s6.1, x12, s6.2.2.2))
noncomputable def s_l2Lines_L2 (n : Nat) (go2 : (List (V4 Int)) × Int × (List (V3 Int)) → Option ((List (V3 Int)))) (s3 : (List (V4 Int)) × Int × (List (V3 Int))) : Option ((List (V3 Int))) :=
  br (decide (s3.2.1 < (s3.1.length : Int))) (lt (w64 (s3.2.1 + 1)) fun (x4 : Int) => fx (s_l2Lines_L1 n go2) n (s3.1, s3.2.1, x4, s3.2.2)) (some s3.2.2)
noncomputable def s_l2Lines (n : Nat) (a1 : (List (V4 Int))) : Option ((List (V3 Int))) :=
  fx (s_l2Lines_L2 n) n (a1, 0, ([] : List (V3 Int)))

/-- s_l2Has -/
noncomputable def s_l2Has (n : Nat) (a1 : (List (V4 Int))) (a2 : (V4 Int)) : Option (Bool) :=
  ob (s_l2Place n a1 a2) fun (r3 : Int) => some (decide (0 ≤ r3))

/-- s_l2Line -/
noncomputable def s_l2Line (n : Nat) (a1 : (V4 Int)) (a2 : (V4 Int)) (a3 : (V4 Int)) : Option (Bool) :=
  ob (br (!eqd a1 a2) (ob (s_l2Third n a1 a2) fun (r4 : (V4 Int)) => some (eqd r4 a3)) (some false)) fun (x5 : Bool) => some x5

/-- i_LinesIn -/
noncomputable def i_LinesIn (n : Nat) (a1 : (List (V4 Int))) : Option (Bool × (List (V3 Int))) :=
  ob (i_IsHand n a1) fun (r2 : Bool) => br (! r2) (some (false, ([] : List (V3 Int)))) (ob (i_linesIn n a1) fun (r3 : (List (V3 Int))) => some (true, r3))

/-- i_without_1'p -/
noncomputable def i_without_1'p (n : Nat) (a1 : (V4 Int)) (a2 : (V4 Int)) : Option (Bool × (V4 Int)) :=
  some ((eqd a1 a2), a2)

/-- slices_IndexFunc_SA4_A4_'l_i_without_1p -/
noncomputable def slices_IndexFunc_SA4_A4_'l_i_without_1p_L1 (n : Nat) (go3 : (List (V4 Int)) × Int × Int × (V4 Int) → Option (Int × (V4 Int))) (s4 : (List (V4 Int)) × Int × Int × (V4 Int)) : Option (Int × (V4 Int)) :=
  br (decide (s4.2.2.1 < s4.2.1)) (ckb (inb s4.2.2.1 s4.1.length) (ob (i_without_1'p n (gl (⟨0, 0, 0, 0⟩ : (V4 Int)) s4.1 s4.2.2.1.toNat) s4.2.2.2) fun (r5 : Bool × (V4 Int)) => br r5.1 (some (s4.2.2.1, r5.2)) (lt (w64 (s4.2.2.1 + 1)) fun (x6 : Int) => go3 (s4.1, s4.2.1, x6, r5.2)))) (some ((-1), s4.2.2.2))
noncomputable def slices_IndexFunc_SA4_A4_'l_i_without_1p (n : Nat) (a1 : (List (V4 Int))) (a2 : (V4 Int)) : Option (Int × (V4 Int)) :=
  fx (slices_IndexFunc_SA4_A4_'l_i_without_1p_L1 n) n (a1, (a1.length : Int), 0, a2)

/-- slices_DeleteFunc_SA4_A4_'o_i_without_1p -/
noncomputable def slices_DeleteFunc_SA4_A4_'o_i_without_1p_L1 (n : Nat) (go5 : Int × Int × (List (V4 Int)) × (V4 Int) → Option ((V4 Int) × (List (V4 Int)))) (s6 : Int × Int × (List (V4 Int)) × (V4 Int)) : Option ((V4 Int) × (List (V4 Int))) :=
  br (decide (s6.2.1 < (s6.2.2.1.length : Int))) (ckb (inb s6.2.1 s6.2.2.1.length) (ob (i_without_1'p n (gl (⟨0, 0, 0, 0⟩ : (V4 Int)) s6.2.2.1 s6.2.1.toNat) s6.2.2.2) fun (r7 : Bool × (V4 Int)) => br (! r7.1) (ckb (inb s6.1 s6.2.2.1.length) (lt (List.set s6.2.2.1 s6.1.toNat (gl (⟨0, 0, 0, 0⟩ : (V4 Int)) s6.2.2.1 s6.2.1.toNat)) fun (x8 : (List (V4 Int))) => lt (w64 (s6.1 + 1)) fun (x9 : Int) => lt (w64 (s6.2.1 + 1)) fun (x10 : Int) => go5 (x9, x10, x8, r7.2))) (lt (w64 (s6.2.1 + 1)) fun (x11 : Int) => go5 (s6.1, x11, s6.2.2.1, r7.2)))) (ckb (slb s6.1 (s6.2.2.1.length : Int) s6.2.2.1.length) (ckb (slb 0 s6.1 (clr (⟨0, 0, 0, 0⟩ : (V4 Int)) s6.2.2.1 s6.1.toNat (w64 ((s6.2.2.1.length : Int) - s6.1)).toNat).length) (some (s6.2.2.2, (sub (clr (⟨0, 0, 0, 0⟩ : (V4 Int)) s6.2.2.1 s6.1.toNat (w64 ((s6.2.2.1.length : Int) - s6.1)).toNat) 0 (w64 (s6.1 - 0)).toNat)))))
noncomputable def slices_DeleteFunc_SA4_A4_'o_i_without_1p (n : Nat) (a1 : (List (V4 Int))) (a2 : (V4 Int)) : Option ((V4 Int) × (List (V4 Int))) :=
  ob (slices_IndexFunc_SA4_A4_'l_i_without_1p n a1 a2) fun (r3 : Int × (V4 Int)) => br (decide (r3.1 = (-1))) (some (r3.2, a1)) (lt (w64 (r3.1 + 1)) fun (x4 : Int) => fx (slices_DeleteFunc_SA4_A4_'o_i_without_1p_L1 n) n (r3.1, x4, a1, r3.2))

/-- i_without -/
noncomputable def i_without (n : Nat) (a1 : (List (V4 Int))) (a2 : (V4 Int)) : Option ((List (V4 Int))) :=
  ob (slices_Clone_SA4_A4_ n a1) fun (r3 : (List (V4 Int))) => ob (slices_DeleteFunc_SA4_A4_'o_i_without_1p n r3 a2) fun (r4 : (V4 Int) × (List (V4 Int))) => some r4.2

/-- i_sum -/
noncomputable def i_sum_L1 (n : Nat) (go3 : (List (V4 Int)) × Int × Int × (V4 Int) × (V4 Int) → Option ((V4 Int))) (go5 : (List (V4 Int)) × Int × Int × (V4 Int) × Int × (V4 Int) × (V4 Int) → Option ((V4 Int))) (s6 : (List (V4 Int)) × Int × Int × (V4 Int) × Int × (V4 Int) × (V4 Int)) : Option ((V4 Int)) :=
  br (decide (s6.2.2.2.2.1 < 4)) (ckb (inb s6.2.2.2.2.1 4) (ckb (inb s6.2.2.2.2.1 4) (lt (w64 ((V4.get s6.2.2.2.2.2.2 s6.2.2.2.2.1.toNat) + (V4.get s6.2.2.2.1 s6.2.2.2.2.1.toNat))) fun (x7 : Int) => lt (Int.tmod x7 3) fun (x8 : Int) => ckb (inb s6.2.2.2.2.1 4) (lt (V4.set s6.2.2.2.2.2.2 s6.2.2.2.2.1.toNat x8) fun (x9 : (V4 Int)) => lt (w64 (s6.2.2.2.2.1 + 1)) fun (x10 : Int) => go5 (s6.1, s6.2.1, s6.2.2.1, s6.2.2.2.1, x10, s6.2.2.2.2.2.1, x9))))) (lt (w64 (s6.2.2.1 + 1)) fun (x11 : Int) => go3 (s6.1, s6.2.1, x11, s6.2.2.2.2.2.1, s6.2.2.2.2.2.2))
noncomputable def i_sum_L2 (n : Nat) (go3 : (List (V4 Int)) × Int × Int × (V4 Int) × (V4 Int) → Option ((V4 Int))) (s4 : (List (V4 Int)) × Int × Int × (V4 Int) × (V4 Int)) : Option ((V4 Int)) :=
  br (decide (s4.2.2.1 < s4.2.1)) (ckb (inb s4.2.2.1 s4.1.length) (fx (i_sum_L1 n go3) n (s4.1, s4.2.1, s4.2.2.1, (gl (⟨0, 0, 0, 0⟩ : (V4 Int)) s4.1 s4.2.2.1.toNat), 0, s4.2.2.2.1, s4.2.2.2.2))) (some s4.2.2.2.2)
noncomputable def i_sum (n : Nat) (a1 : (List (V4 Int))) : Option ((V4 Int)) :=
  lt (⟨0, 0, 0, 0⟩ : (V4 Int)) fun (x2 : (V4 Int)) => fx (i_sum_L2 n) n (a1, (a1.length : Int), 0, (⟨0, 0, 0, 0⟩ : (V4 Int)), x2)

/-- v_vLines -/
noncomputable def v_vLines_L1 (n : Nat) (go3 : (List (V3 Int)) × (List (V3 Int)) × Int → Option (Bool)) (s4 : (List (V3 Int)) × (List (V3 Int)) × Int) : Option (Bool) :=
  br (decide (s4.2.2 < (s4.1.length : Int))) (ckb (inb s4.2.2 s4.1.length) (ckb (inb s4.2.2 s4.2.1.length) (br (!eqd (gl (⟨0, 0, 0⟩ : (V3 Int)) s4.1 s4.2.2.toNat) (gl (⟨0, 0, 0⟩ : (V3 Int)) s4.2.1 s4.2.2.toNat)) (some false) (lt (w64 (s4.2.2 + 1)) fun (x5 : Int) => go3 (s4.1, s4.2.1, x5))))) (some true)
noncomputable def v_vLines (n : Nat) (a1 : (List (V3 Int))) (a2 : (List (V3 Int))) : Option (Bool) :=
  br (!decide ((a1.length : Int) = (a2.length : Int))) (some false) (fx (v_vLines_L1 n) n (a1, a2, 0))

/-- i_areCards_1 -/
noncomputable def i_areCards_1 (n : Nat) (a1 : (V4 Int)) : Option (Bool) :=
  ob (i_IsCard n a1) fun (r2 : Bool) => some (! r2)

/-- slices_IndexFunc_SA4_A4_'l_i_areCards_1 -/
noncomputable def slices_IndexFunc_SA4_A4_'l_i_areCards_1_L1 (n : Nat) (go2 : (List (V4 Int)) × Int × Int → Option (Int)) (s3 : (List (V4 Int)) × Int × Int) : Option (Int) :=
  br (decide (s3.2.2 < s3.2.1)) (ckb (inb s3.2.2 s3.1.length) (ob (i_areCards_1 n (gl (⟨0, 0, 0, 0⟩ : (V4 Int)) s3.1 s3.2.2.toNat)) fun (r4 : Bool) => br r4 (some s3.2.2) (lt (w64 (s3.2.2 + 1)) fun (x5 : Int) => go2 (s3.1, s3.2.1, x5)))) (some (-1))
noncomputable def slices_IndexFunc_SA4_A4_'l_i_areCards_1 (n : Nat) (a1 : (List (V4 Int))) : Option (Int) :=
  fx (slices_IndexFunc_SA4_A4_'l_i_areCards_1_L1 n) n (a1, (a1.length : Int), 0)

/-- slices_ContainsFunc_SA4_A4_'l_i_areCards_1 -/
noncomputable def slices_ContainsFunc_SA4_A4_'l_i_areCards_1 (n : Nat) (a1 : (List (V4 Int))) : Option (Bool) :=
  ob (slices_IndexFunc_SA4_A4_'l_i_areCards_1 n a1) fun (r2 : Int) => some (decide (0 ≤ r2))

/-- i_areCards -/
noncomputable def i_areCards (n : Nat) (a1 : (List (V4 Int))) : Option (Bool) :=
  ob (slices_ContainsFunc_SA4_A4_'l_i_areCards_1 n a1) fun (r2 : Bool) => some (! r2)

/-- i_isLine -/
noncomputable def i_isLine (n : Nat) (a1 : (V4 Int)) (a2 : (V4 Int)) (a3 : (V4 Int)) : Option (Bool) :=
  ob (br (!eqd a1 a2) (ob (i_third n a1 a2) fun (r4 : (V4 Int)) => some (eqd r4 a3)) (some false)) fun (x5 : Bool) => some x5

/-- i_IsLine -/
noncomputable def i_IsLine (n : Nat) (a1 : (V4 Int)) (a2 : (V4 Int)) (a3 : (V4 Int)) : Option (Bool × Bool) :=
  ob (i_areCards n [a1, a2, a3]) fun (r4 : Bool) => br (! r4) (some (false, false)) (ob (i_isLine n a1 a2 a3) fun (r5 : Bool) => some (r5, true))

/-- s_l1Own -/
noncomputable def s_l1Own (n : Nat) (a1 : (List Int)) : Option ((List Int)) :=
  ckb (apok 8 (0 + a1.length)) (some a1)

/-- s_l2Sorted -/
noncomputable def s_l2Sorted_L1 (n : Nat) (go2 : (List (V4 Int)) × Int × (List (V4 Int)) → Option ((List (V4 Int)))) (s3 : (List (V4 Int)) × Int × (List (V4 Int))) : Option ((List (V4 Int))) :=
  br (decide (s3.2.1 < (s3.1.length : Int))) (ckb (inb s3.2.1 s3.1.length) (ob (s_l2Put n s3.2.2 (gl (⟨0, 0, 0, 0⟩ : (V4 Int)) s3.1 s3.2.1.toNat)) fun (r4 : (List (V4 Int))) => lt (w64 (s3.2.1 + 1)) fun (x5 : Int) => go2 (s3.1, x5, r4))) (some s3.2.2)
noncomputable def s_l2Sorted (n : Nat) (a1 : (List (V4 Int))) : Option ((List (V4 Int))) :=
  fx (s_l2Sorted_L1 n) n (a1, 0, ([] : List (V4 Int)))

/-- i_ShadowLines_1'lpp_o -/
noncomputable def i_ShadowLines_1'lpp_o (n : Nat) (a1 : (List Int)) (a2 : Int) (a3 : (List (V4 Int))) : Option (Int × (List (V4 Int))) :=
  ckb (inb 0 a1.length) (ckb (inb (gl 0 a1 0) a3.length) (ckb (inb 1 a1.length) (ckb (inb (gl 0 a1 1) a3.length) (ckb (inb 2 a1.length) (ckb (inb (gl 0 a1 2) a3.length) (ob (i_isLine n (gl (⟨0, 0, 0, 0⟩ : (V4 Int)) a3 (gl 0 a1 0).toNat) (gl (⟨0, 0, 0, 0⟩ : (V4 Int)) a3 (gl 0 a1 1).toNat) (gl (⟨0, 0, 0, 0⟩ : (V4 Int)) a3 (gl 0 a1 2).toNat)) fun (r4 : Bool) => br r4 (lt (w64 (a2 + 1)) fun (x5 : Int) => some (x5, a3)) (some (a2, a3))))))))

/-- i_choices'l_i_ShadowLines_1pp_o -/
noncomputable def i_choices'l_i_ShadowLines_1pp_o_L1 (n : Nat) (go0 : (List Int) × Int × Int × Int × (List (V4 Int)) → Option (Int × (List (V4 Int)))) (go8 : (List Int) × Int × Int × Int × Int × (List (V4 Int)) → Option (Int × (List (V4 Int)))) (s9 : (List Int) × Int × Int × Int × Int × (List (V4 Int))) : Option (Int × (List (V4 Int))) :=
  br (decide (s9.2.2.2.1 < s9.2.2.1)) (ckb (cand (slb 0 (s9.1.length : Int) s9.1.length) (decide ((s9.1.length : Int) = (s9.1.length : Int)))) (ckb (cand (apok 8 ((sub s9.1 0 s9.1.length).length + 1)) (cor (sub s9.1 0 s9.1.length).isEmpty true)) (lt (w64 (s9.2.1 - 1)) fun (x10 : Int) => ob (go0 (((sub s9.1 0 s9.1.length) ++ [s9.2.2.2.1]), x10, s9.2.2.1, s9.2.2.2.2.1, s9.2.2.2.2.2)) fun (r11 : Int × (List (V4 Int))) => lt (w64 (s9.2.2.2.1 + 1)) fun (x12 : Int) => go8 (s9.1, s9.2.1, s9.2.2.1, x12, r11.1, r11.2)))) (some (s9.2.2.2.2.1, s9.2.2.2.2.2))
noncomputable def i_choices'l_i_ShadowLines_1pp_o_J2 (n : Nat) (go0 : (List Int) × Int × Int × Int × (List (V4 Int)) → Option (Int × (List (V4 Int)))) (s7 : (List Int) × Int × Int × Int × Int × (List (V4 Int))) : Option (Int × (List (V4 Int))) :=
  fx (i_choices'l_i_ShadowLines_1pp_o_L1 n go0) n (s7.1, s7.2.1, s7.2.2.1, s7.2.2.2.1, s7.2.2.2.2.1, s7.2.2.2.2.2)
noncomputable def i_choices'l_i_ShadowLines_1pp_o_R (n : Nat) (go0 : (List Int) × Int × Int × Int × (List (V4 Int)) → Option (Int × (List (V4 Int)))) (x : (List Int) × Int × Int × Int × (List (V4 Int))) : Option (Int × (List (V4 Int))) :=
  (fun (a1 : (List Int)) (a2 : Int) (a3 : Int) (a4 : Int) (a5 : (List (V4 Int))) => br (decide (a2 = 0)) (ob (i_ShadowLines_1'lpp_o n a1 a4 a5) fun (r6 : Int × (List (V4 Int))) => some (r6.1, r6.2)) (br (decide (0 < (a1.length : Int))) (lt (w64 ((a1.length : Int) - 1)) fun (x13 : Int) => ckb (inb x13 a1.length) (lt (w64 ((gl 0 a1 x13.toNat) + 1)) fun (x14 : Int) => i_choices'l_i_ShadowLines_1pp_o_J2 n go0 (a1, a2, a3, x14, a4, a5))) (i_choices'l_i_ShadowLines_1pp_o_J2 n go0 (a1, a2, a3, 0, a4, a5)))) x.1 x.2.1 x.2.2.1 x.2.2.2.1 x.2.2.2.2
noncomputable def i_choices'l_i_ShadowLines_1pp_o (n : Nat) (a1 : (List Int)) (a2 : Int) (a3 : Int) (a4 : Int) (a5 : (List (V4 Int))) : Option (Int × (List (V4 Int))) := fx (i_choices'l_i_ShadowLines_1pp_o_R n) n (a1, a2, a3, a4, a5)

/-- v_rBig -/
noncomputable def v_rBig (n : Nat) (a1 : (List Int)) : Option (Bool) :=
  some (decide (65536 < (a1.length : Int)))

/-- s_Cur_ghost'p -/
noncomputable def s_Cur_ghost'p_L1 (n : Nat) (go17 : Int × ((List Int) × (Int × Int)) × (List (V4 Int)) → Option (((List Int) × (Int × Int)) × (List (V4 Int)))) (s18 : Int × ((List Int) × (Int × Int)) × (List (V4 Int))) : Option (((List Int) × (Int × Int)) × (List (V4 Int))) :=
  br (decide (0 < s18.1)) (ob (s_Cur_pick'p n 81 s18.2.1) fun (r19 : Int × ((List Int) × (Int × Int))) => ob (s_l2At n r19.1) fun (r20 : (V4 Int)) => ob (s_l2Put n s18.2.2 r20) fun (r21 : (List (V4 Int))) => lt (w64 (s18.1 - 1)) fun (x22 : Int) => go17 (x22, r19.2, r21)) (some (s18.2.1, s18.2.2))
noncomputable def s_Cur_ghost'p_L2 (n : Nat) (go9 : Int × Int × ((List Int) × (Int × Int)) × (List (V4 Int)) × (V3 (V4 Int)) → Option (((List Int) × (Int × Int)) × (List (V4 Int)))) (s10 : Int × Int × ((List Int) × (Int × Int)) × (List (V4 Int)) × (V3 (V4 Int))) : Option (((List Int) × (Int × Int)) × (List (V4 Int))) :=
  br (decide (s10.2.1 < 3)) (ob (s_Cur_pick'p n 81 s10.2.2.1) fun (r11 : Int × ((List Int) × (Int × Int))) => ob (s_l2At n r11.1) fun (r12 : (V4 Int)) => ob (s_l2Put n s10.2.2.2.1 r12) fun (r13 : (List (V4 Int))) => ckb (inb s10.2.1 3) (ob (s_l2Third n r12 (V3.get s10.2.2.2.2 s10.2.1.toNat)) fun (r14 : (V4 Int)) => ob (s_l2Put n r13 r14) fun (r15 : (List (V4 Int))) => lt (w64 (s10.2.1 + 1)) fun (x16 : Int) => go9 (s10.1, x16, r11.2, r15, s10.2.2.2.2))) (fx (s_Cur_ghost'p_L1 n) n (s10.1, s10.2.2.1, s10.2.2.2.1))
noncomputable def s_Cur_ghost'p (n : Nat) (a1 : Int) (a2 : ((List Int) × (Int × Int))) : Option (((List Int) × (Int × Int)) × (List (V4 Int))) :=
  ob (s_Cur_pick'p n 81 a2) fun (r3 : Int × ((List Int) × (Int × Int))) => ob (s_l2At n r3.1) fun (r4 : (V4 Int)) => ob (s_Cur_pick'p n 81 r3.2) fun (r5 : Int × ((List Int) × (Int × Int))) => ob (s_l2At n r5.1) fun (r6 : (V4 Int)) => ob (s_l2Third n r4 r6) fun (r7 : (V4 Int)) => lt (⟨r4, r6, r7⟩ : (V3 (V4 Int))) fun (x8 : (V3 (V4 Int))) => fx (s_Cur_ghost'p_L2 n) n (a1, 0, r5.2, ([] : List (V4 Int)), x8)

/-- s_l2Drop -/
noncomputable def s_l2Drop (n : Nat) (a1 : (List (V4 Int))) (a2 : Int) : Option ((List (V4 Int))) :=
  ckb (slb 0 a2 a1.length) (ob (s_l2Own n (sub a1 0 a2.toNat)) fun (r3 : (List (V4 Int))) => lt (w64 (a2 + 1)) fun (x4 : Int) => ckb (slb x4 (a1.length : Int) a1.length) (ckb (apok 32 (r3.length + (sub a1 x4.toNat a1.length).length)) (some (r3 ++ (sub a1 x4.toNat a1.length)))))

/-- s_DrawIsGhost -/
noncomputable def s_DrawIsGhost_J1 (n : Nat) (s6 : Bool × ((List Int) × (Int × Int)) × (List (V4 Int))) : Option ((List (V4 Int))) :=
  br s6.1 (ob (s_Cur_pick'p n 6 s6.2.1) fun (r7 : Int × ((List Int) × (Int × Int))) => ob (s_l2Drop n s6.2.2 r7.1) fun (r8 : (List (V4 Int))) => ob (s_Cur_pick'p n 81 r7.2) fun (r9 : Int × ((List Int) × (Int × Int))) => ob (s_l2At n r9.1) fun (r10 : (V4 Int)) => ob (s_l2Put n r8 r10) fun (r11 : (List (V4 Int))) => some r11) (some s6.2.2)
noncomputable def s_DrawIsGhost (n : Nat) (a1 : (List Int)) : Option ((List (V4 Int))) :=
  lt (a1, (0, 0)) fun (x2 : ((List Int) × (Int × Int))) => ob (s_Cur_ghost'p n 0 x2) fun (r3 : ((List Int) × (Int × Int)) × (List (V4 Int))) => ob (s_Cur_one'p n 3 r3.1) fun (r4 : Bool × ((List Int) × (Int × Int))) => br r4.1 (ob (s_Cur_hand'p n r4.2) fun (r5 : ((List Int) × (Int × Int)) × (List (V4 Int))) => some r5.2) (br (decide ((r3.2.length : Int) = 6)) (ob (s_Cur_one'p n 3 r4.2) fun (r12 : Bool × ((List Int) × (Int × Int))) => s_DrawIsGhost_J1 n (r12.1, r12.2, r3.2)) (s_DrawIsGhost_J1 n (false, r4.2, r3.2)))

/-- i_areSix -/
noncomputable def i_areSix (n : Nat) (a1 : (List (V4 Int))) : Option (Bool) :=
  ob (i_IsHand n a1) fun (r2 : Bool) => ob (br r2 (some (decide ((a1.length : Int) = 6))) (some false)) fun (x3 : Bool) => some x3

/-- i_isGhost -/
noncomputable def i_isGhost_L1 (n : Nat) (go2 : (List (V4 Int)) × Bool × Int → Option (Bool)) (go10 : (List (V4 Int)) × Bool × Int × Int × (List (V4 Int)) × (V4 Int) → Option (Bool)) (s11 : (List (V4 Int)) × Bool × Int × Int × (List (V4 Int)) × (V4 Int)) : Option (Bool) :=
  br (decide (s11.2.2.2.1 < 4)) (ckb (inb 0 s11.2.2.2.2.1.length) (ob (i_without n s11.2.2.2.2.1 (gl (⟨0, 0, 0, 0⟩ : (V4 Int)) s11.2.2.2.2.1 0)) fun (r12 : (List (V4 Int))) => ckb (inb s11.2.2.2.1 s11.2.2.2.2.1.length) (ob (i_without n r12 (gl (⟨0, 0, 0, 0⟩ : (V4 Int)) s11.2.2.2.2.1 s11.2.2.2.1.toNat)) fun (r13 : (List (V4 Int))) => ob (br s11.2.1 (some true) (ckb (inb 0 s11.2.2.2.2.1.length) (ckb (inb s11.2.2.2.1 s11.2.2.2.2.1.length) (ob (i_third n (gl (⟨0, 0, 0, 0⟩ : (V4 Int)) s11.2.2.2.2.1 0) (gl (⟨0, 0, 0, 0⟩ : (V4 Int)) s11.2.2.2.2.1 s11.2.2.2.1.toNat)) fun (r14 : (V4 Int)) => ckb (inb 0 r13.length) (ckb (inb 1 r13.length) (ob (i_third n (gl (⟨0, 0, 0, 0⟩ : (V4 Int)) r13 0) (gl (⟨0, 0, 0, 0⟩ : (V4 Int)) r13 1)) fun (r15 : (V4 Int)) => ob (i_isLine n s11.2.2.2.2.2 r14 r15) fun (r16 : Bool) => some r16)))))) fun (x17 : Bool) => lt (w64 (s11.2.2.2.1 + 1)) fun (x18 : Int) => go10 (s11.1, x17, s11.2.2.1, x18, s11.2.2.2.2.1, s11.2.2.2.2.2)))) (lt (w64 (s11.2.2.1 + 1)) fun (x19 : Int) => go2 (s11.1, s11.2.1, x19))
noncomputable def i_isGhost_L2 (n : Nat) (go2 : (List (V4 Int)) × Bool × Int → Option (Bool)) (go5 : (List (V4 Int)) × Bool × Int × Int × (List (V4 Int)) → Option (Bool)) (s6 : (List (V4 Int)) × Bool × Int × Int × (List (V4 Int))) : Option (Bool) :=
  br (decide (s6.2.2.2.1 < 6)) (br (!decide (s6.2.2.2.1 = s6.2.2.1)) (ckb (inb s6.2.2.2.1 s6.1.length) (ckb (apok 32 (s6.2.2.2.2.length + 1)) (lt (w64 (s6.2.2.2.1 + 1)) fun (x7 : Int) => go5 (s6.1, s6.2.1, s6.2.2.1, x7, (s6.2.2.2.2 ++ [(gl (⟨0, 0, 0, 0⟩ : (V4 Int)) s6.1 s6.2.2.2.1.toNat)]))))) (lt (w64 (s6.2.2.2.1 + 1)) fun (x8 : Int) => go5 (s6.1, s6.2.1, s6.2.2.1, x8, s6.2.2.2.2))) (ckb (inb 0 s6.1.length) (ckb (inb s6.2.2.1 s6.1.length) (ob (i_third n (gl (⟨0, 0, 0, 0⟩ : (V4 Int)) s6.1 0) (gl (⟨0, 0, 0, 0⟩ : (V4 Int)) s6.1 s6.2.2.1.toNat)) fun (r9 : (V4 Int)) => fx (i_isGhost_L1 n go2) n (s6.1, s6.2.1, s6.2.2.1, 1, s6.2.2.2.2, r9))))
noncomputable def i_isGhost_L3 (n : Nat) (go2 : (List (V4 Int)) × Bool × Int → Option (Bool)) (s3 : (List (V4 Int)) × Bool × Int) : Option (Bool) :=
  ob (br (decide (s3.2.2 < 6)) (some (! s3.2.1)) (some false)) fun (x4 : Bool) => br x4 (fx (i_isGhost_L2 n go2) n (s3.1, s3.2.1, s3.2.2, 1, ([] : List (V4 Int)))) (some s3.2.1)
noncomputable def i_isGhost (n : Nat) (a1 : (List (V4 Int))) : Option (Bool) :=
  fx (i_isGhost_L3 n) n (a1, false, 1)

/-- i_IsGhost -/
noncomputable def i_IsGhost (n : Nat) (a1 : (List (V4 Int))) : Option (Bool × Bool) :=
  ob (i_areSix n a1) fun (r2 : Bool) => br (! r2) (some (false, false)) (ob (i_isGhost n a1) fun (r3 : Bool) => some (r3, true))

/-- s_l10Thirds -/
noncomputable def s_l10Thirds_L1 (n : Nat) (go0 : (List (V4 Int)) × (List (V4 Int)) → Option (Bool)) (go4 : (List (V4 Int)) × (List (V4 Int)) × Int → Option (Bool)) (s5 : (List (V4 Int)) × (List (V4 Int)) × Int) : Option (Bool) :=
  br (decide (s5.2.2 < (s5.1.length : Int))) (ob (s_l2Drop n s5.1 s5.2.2) fun (r6 : (List (V4 Int))) => ob (s_l2Drop n r6 0) fun (r7 : (List (V4 Int))) => ob (s_l2Own n s5.2.1) fun (r8 : (List (V4 Int))) => ckb (inb 0 s5.1.length) (ckb (inb s5.2.2 s5.1.length) (ob (s_l2Third n (gl (⟨0, 0, 0, 0⟩ : (V4 Int)) s5.1 0) (gl (⟨0, 0, 0, 0⟩ : (V4 Int)) s5.1 s5.2.2.toNat)) fun (r9 : (V4 Int)) => ckb (apok 32 (r8.length + 1)) (ob (go0 (r7, (r8 ++ [r9]))) fun (r10 : Bool) => br r10 (some true) (lt (w64 (s5.2.2 + 1)) fun (x11 : Int) => go4 (s5.1, s5.2.1, x11)))))) (some false)
noncomputable def s_l10Thirds_R (n : Nat) (go0 : (List (V4 Int)) × (List (V4 Int)) → Option (Bool)) (x : (List (V4 Int)) × (List (V4 Int))) : Option (Bool) :=
  (fun (a1 : (List (V4 Int))) (a2 : (List (V4 Int))) => br (decide ((a1.length : Int) = 0)) (ckb (inb 0 a2.length) (ckb (inb 1 a2.length) (ckb (inb 2 a2.length) (ob (s_l2Line n (gl (⟨0, 0, 0, 0⟩ : (V4 Int)) a2 0) (gl (⟨0, 0, 0, 0⟩ : (V4 Int)) a2 1) (gl (⟨0, 0, 0, 0⟩ : (V4 Int)) a2 2)) fun (r3 : Bool) => some r3)))) (fx (s_l10Thirds_L1 n go0) n (a1, a2, 1))) x.1 x.2
noncomputable def s_l10Thirds (n : Nat) (a1 : (List (V4 Int))) (a2 : (List (V4 Int))) : Option (Bool) := fx (s_l10Thirds_R n) n (a1, a2)

/-- s_IsGhost -/
noncomputable def s_IsGhost (n : Nat) (a1 : (List (V4 Int))) : Option (Bool × Bool) :=
  ob (s_l2Hand n a1) fun (r2 : Bool) => ob (br (! r2) (some true) (some (!decide ((a1.length : Int) = 6)))) fun (x3 : Bool) => br x3 (some (false, false)) (ob (s_l10Thirds n a1 ([] : List (V4 Int))) fun (r4 : Bool) => some (r4, true))

/-- i_SumGhost -/
noncomputable def i_SumGhost (n : Nat) (a1 : (List (V4 Int))) : Option (Bool × Bool) :=
  ob (i_areSix n a1) fun (r2 : Bool) => br (! r2) (some (false, false)) (ob (i_sum n a1) fun (r3 : (V4 Int)) => ob (i_number n r3) fun (r4 : Int) => some ((decide (r4 = 0)), true))

/-- s_l2Sum -/
noncomputable def s_l2Sum_L1 (n : Nat) (go3 : (List (V4 Int)) × Int × (V4 Int) × (V4 Int) → Option ((V4 Int))) (go5 : (List (V4 Int)) × Int × Int × (V4 Int) × (V4 Int) → Option ((V4 Int))) (s6 : (List (V4 Int)) × Int × Int × (V4 Int) × (V4 Int)) : Option ((V4 Int)) :=
  br (decide (s6.2.2.1 < 4)) (ckb (inb s6.2.2.1 4) (ckb (inb s6.2.1 s6.1.length) (ckb (inb s6.2.2.1 4) (lt (w64 ((V4.get s6.2.2.2.2 s6.2.2.1.toNat) + (V4.get (gl (⟨0, 0, 0, 0⟩ : (V4 Int)) s6.1 s6.2.1.toNat) s6.2.2.1.toNat))) fun (x7 : Int) => lt (Int.tmod x7 3) fun (x8 : Int) => ckb (inb s6.2.2.1 4) (lt (V4.set s6.2.2.2.2 s6.2.2.1.toNat x8) fun (x9 : (V4 Int)) => lt (w64 (s6.2.2.1 + 1)) fun (x10 : Int) => go5 (s6.1, s6.2.1, x10, s6.2.2.2.1, x9)))))) (lt (w64 (s6.2.1 + 1)) fun (x11 : Int) => go3 (s6.1, x11, s6.2.2.2.1, s6.2.2.2.2))
noncomputable def s_l2Sum_L2 (n : Nat) (go3 : (List (V4 Int)) × Int × (V4 Int) × (V4 Int) → Option ((V4 Int))) (s4 : (List (V4 Int)) × Int × (V4 Int) × (V4 Int)) : Option ((V4 Int)) :=
  br (decide (s4.2.1 < (s4.1.length : Int))) (fx (s_l2Sum_L1 n go3) n (s4.1, s4.2.1, 0, s4.2.2.1, s4.2.2.2)) (some s4.2.2.2)
noncomputable def s_l2Sum (n : Nat) (a1 : (List (V4 Int))) : Option ((V4 Int)) :=
  lt (⟨0, 0, 0, 0⟩ : (V4 Int)) fun (x2 : (V4 Int)) => fx (s_l2Sum_L2 n) n (a1, 0, (⟨0, 0, 0, 0⟩ : (V4 Int)), x2)

/-- s_SumGhost -/
noncomputable def s_SumGhost (n : Nat) (a1 : (List (V4 Int))) : Option (Bool × Bool) :=
  ob (s_l2Hand n a1) fun (r2 : Bool) => ob (br (! r2) (some true) (some (!decide ((a1.length : Int) = 6)))) fun (x3 : Bool) => br x3 (some (false, false)) (ob (s_l2Sum n a1) fun (r4 : (V4 Int)) => lt (⟨0, 0, 0, 0⟩ : (V4 Int)) fun (x5 : (V4 Int)) => some ((eqd r4 x5), true))

/-- s_DrawGhostsIn -/
noncomputable def s_DrawGhostsIn (n : Nat) (a1 : (List Int)) : Option ((List (V4 Int))) :=
  lt (a1, (0, 0)) fun (x2 : ((List Int) × (Int × Int))) => ob (s_Cur_among'pl n [1, 2, 0, 3, 4, 5] x2) fun (r3 : Int × ((List Int) × (Int × Int))) => ob (s_Cur_one'p n 4 r3.2) fun (r4 : Bool × ((List Int) × (Int × Int))) => br r4.1 (ob (s_Cur_hand'p n r4.2) fun (r5 : ((List Int) × (Int × Int)) × (List (V4 Int))) => some r5.2) (ob (s_Cur_ghost'p n r3.1 r4.2) fun (r6 : ((List Int) × (Int × Int)) × (List (V4 Int))) => some r6.2)

/-- i_at -/
noncomputable def i_at_L1 (n : Nat) (go3 : (List (V4 Int)) × (List Int) × Int × Int × (List (V4 Int)) → Option ((List (V4 Int)))) (s4 : (List (V4 Int)) × (List Int) × Int × Int × (List (V4 Int))) : Option ((List (V4 Int))) :=
  br (decide (s4.2.2.2.1 < s4.2.2.1)) (ckb (inb s4.2.2.2.1 s4.2.1.length) (ckb (inb (gl 0 s4.2.1 s4.2.2.2.1.toNat) s4.1.length) (ckb (apok 32 (s4.2.2.2.2.length + 1)) (lt (w64 (s4.2.2.2.1 + 1)) fun (x5 : Int) => go3 (s4.1, s4.2.1, s4.2.2.1, x5, (s4.2.2.2.2 ++ [(gl (⟨0, 0, 0, 0⟩ : (V4 Int)) s4.1 (gl 0 s4.2.1 s4.2.2.2.1.toNat).toNat)])))))) (some s4.2.2.2.2)
noncomputable def i_at (n : Nat) (a1 : (List (V4 Int))) (a2 : (List Int)) : Option ((List (V4 Int))) :=
  fx (i_at_L1 n) n (a1, a2, (a2.length : Int), 0, ([] : List (V4 Int)))

/-- i_GhostsIn_1'lpp_ko -/
noncomputable def i_GhostsIn_1'lpp_ko (n : Nat) (a1 : (List Int)) (a2 : (List (V4 Int))) (a3 : (List (V6 Int))) : Option ((List (V4 Int)) × (List (V6 Int))) :=
  ob (i_at n a2 a1) fun (r4 : (List (V4 Int))) => ob (i_isGhost n r4) fun (r5 : Bool) => br r5 (ckb (slb 0 6 a1.length) (ckb (apok 48 (a3.length + 1)) (some (a2, (a3 ++ [(⟨(gl 0 a1 0), (gl 0 a1 1), (gl 0 a1 2), (gl 0 a1 3), (gl 0 a1 4), (gl 0 a1 5)⟩ : (V6 Int))]))))) (some (a2, a3))

/-- i_choices'l_i_GhostsIn_1pp_ko -/
noncomputable def i_choices'l_i_GhostsIn_1pp_ko_L1 (n : Nat) (go0 : (List Int) × Int × Int × (List (V4 Int)) × (List (V6 Int)) → Option ((List (V4 Int)) × (List (V6 Int)))) (go8 : (List Int) × Int × Int × Int × (List (V4 Int)) × (List (V6 Int)) → Option ((List (V4 Int)) × (List (V6 Int)))) (s9 : (List Int) × Int × Int × Int × (List (V4 Int)) × (List (V6 Int))) : Option ((List (V4 Int)) × (List (V6 Int))) :=
  br (decide (s9.2.2.2.1 < s9.2.2.1)) (ckb (cand (slb 0 (s9.1.length : Int) s9.1.length) (decide ((s9.1.length : Int) = (s9.1.length : Int)))) (ckb (cand (apok 8 ((sub s9.1 0 s9.1.length).length + 1)) (cor (sub s9.1 0 s9.1.length).isEmpty true)) (lt (w64 (s9.2.1 - 1)) fun (x10 : Int) => ob (go0 (((sub s9.1 0 s9.1.length) ++ [s9.2.2.2.1]), x10, s9.2.2.1, s9.2.2.2.2.1, s9.2.2.2.2.2)) fun (r11 : (List (V4 Int)) × (List (V6 Int))) => lt (w64 (s9.2.2.2.1 + 1)) fun (x12 : Int) => go8 (s9.1, s9.2.1, s9.2.2.1, x12, r11.1, r11.2)))) (some (s9.2.2.2.2.1, s9.2.2.2.2.2))
noncomputable def i_choices'l_i_GhostsIn_1pp_ko_J2 (n : Nat) (go0 : (List Int) × Int × Int × (List (V4 Int)) × (List (V6 Int)) → Option ((List (V4 Int)) × (List (V6 Int)))) (s7 : (List Int) × Int × Int × Int × (List (V4 Int)) × (List (V6 Int))) : Option ((List (V4 Int)) × (List (V6 Int))) :=
  fx (i_choices'l_i_GhostsIn_1pp_ko_L1 n go0) n (s7.1, s7.2.1, s7.2.2.1, s7.2.2.2.1, s7.2.2.2.2.1, s7.2.2.2.2.2)
noncomputable def i_choices'l_i_GhostsIn_1pp_ko_R (n : Nat) (go0 : (List Int) × Int × Int × (List (V4 Int)) × (List (V6 Int)) → Option ((List (V4 Int)) × (List (V6 Int)))) (x : (List Int) × Int × Int × (List (V4 Int)) × (List (V6 Int))) : Option ((List (V4 Int)) × (List (V6 Int))) :=
  (fun (a1 : (List Int)) (a2 : Int) (a3 : Int) (a4 : (List (V4 Int))) (a5 : (List (V6 Int))) => br (decide (a2 = 0)) (ob (i_GhostsIn_1'lpp_ko n a1 a4 a5) fun (r6 : (List (V4 Int)) × (List (V6 Int))) => some (r6.1, r6.2)) (br (decide (0 < (a1.length : Int))) (lt (w64 ((a1.length : Int) - 1)) fun (x13 : Int) => ckb (inb x13 a1.length) (lt (w64 ((gl 0 a1 x13.toNat) + 1)) fun (x14 : Int) => i_choices'l_i_GhostsIn_1pp_ko_J2 n go0 (a1, a2, a3, x14, a4, a5))) (i_choices'l_i_GhostsIn_1pp_ko_J2 n go0 (a1, a2, a3, 0, a4, a5)))) x.1 x.2.1 x.2.2.1 x.2.2.2.1 x.2.2.2.2
noncomputable def i_choices'l_i_GhostsIn_1pp_ko (n : Nat) (a1 : (List Int)) (a2 : Int) (a3 : Int) (a4 : (List (V4 Int))) (a5 : (List (V6 Int))) : Option ((List (V4 Int)) × (List (V6 Int))) := fx (i_choices'l_i_GhostsIn_1pp_ko_R n) n (a1, a2, a3, a4, a5)

/-- i_GhostsIn -/
noncomputable def i_GhostsIn (n : Nat) (a1 : (List (V4 Int))) : Option (Bool × (List (V6 Int))) :=
  ob (i_IsHand n a1) fun (r2 : Bool) => ob (br (! r2) (some true) (some (decide (10 < (a1.length : Int))))) fun (x3 : Bool) => br x3 (some (false, ([] : List (V6 Int)))) (ob (i_choices'l_i_GhostsIn_1pp_ko n ([] : List Int) 6 (a1.length : Int) a1 ([] : List (V6 Int))) fun (r4 : (List (V4 Int)) × (List (V6 Int))) => some (true, r4.2))

/-- s_l10Choose -/
noncomputable def s_l10Choose_L1 (n : Nat) (go0 : Int × Int × Int × (List Int) → Option ((List (List Int)))) (go6 : Int × Int × (List Int) × Int × (List (List Int)) → Option ((List (List Int)))) (s7 : Int × Int × (List Int) × Int × (List (List Int))) : Option ((List (List Int))) :=
  br (decide (s7.2.2.2.1 < s7.1)) (lt (w64 (s7.2.2.2.1 + 1)) fun (x8 : Int) => lt (w64 (s7.2.1 - 1)) fun (x9 : Int) => ob (s_l1Own n s7.2.2.1) fun (r10 : (List Int)) => ckb (apok 8 (r10.length + 1)) (ob (go0 (s7.1, x8, x9, (r10 ++ [s7.2.2.2.1]))) fun (r11 : (List (List Int))) => ckb (apok 24 (s7.2.2.2.2.length + r11.length)) (lt (w64 (s7.2.2.2.1 + 1)) fun (x12 : Int) => go6 (s7.1, s7.2.1, s7.2.2.1, x12, (s7.2.2.2.2 ++ r11))))) (some s7.2.2.2.2)
noncomputable def s_l10Choose_R (n : Nat) (go0 : Int × Int × Int × (List Int) → Option ((List (List Int)))) (x : Int × Int × Int × (List Int)) : Option ((List (List Int))) :=
  (fun (a1 : Int) (a2 : Int) (a3 : Int) (a4 : (List Int)) => br (decide (a3 = 0)) (ob (s_l1Own n a4) fun (r5 : (List Int)) => some [r5]) (fx (s_l10Choose_L1 n go0) n (a1, a3, a4, a2, ([] : List (List Int))))) x.1 x.2.1 x.2.2.1 x.2.2.2
noncomputable def s_l10Choose (n : Nat) (a1 : Int) (a2 : Int) (a3 : Int) (a4 : (List Int)) : Option ((List (List Int))) := fx (s_l10Choose_R n) n (a1, a2, a3, a4)

/-- s_GhostsIn -/
noncomputable def s_GhostsIn_L1 (n : Nat) (go5 : (List (V4 Int)) × Int × (List (V6 Int)) × (List (List Int)) → Option (Bool × (List (V6 Int)))) (go8 : (List (V4 Int)) × Int × Int × (List (V6 Int)) × (List (List Int)) × (List (V4 Int)) × (V6 Int) → Option (Bool × (List (V6 Int)))) (s9 : (List (V4 Int)) × Int × Int × (List (V6 Int)) × (List (List Int)) × (List (V4 Int)) × (V6 Int)) : Option (Bool × (List (V6 Int))) :=
  br (decide (s9.2.2.1 < 6)) (ckb (inb s9.2.1 s9.2.2.2.2.1.length) (ckb (inb s9.2.2.1 (gl ([] : List Int) s9.2.2.2.2.1 s9.2.1.toNat).length) (ckb (inb (gl 0 (gl ([] : List Int) s9.2.2.2.2.1 s9.2.1.toNat) s9.2.2.1.toNat) s9.1.length) (ckb (apok 32 (s9.2.2.2.2.2.1.length + 1)) (ckb (inb s9.2.1 s9.2.2.2.2.1.length) (ckb (inb s9.2.2.1 (gl ([] : List Int) s9.2.2.2.2.1 s9.2.1.toNat).length) (ckb (inb s9.2.2.1 6) (lt (V6.set s9.2.2.2.2.2.2 s9.2.2.1.toNat (gl 0 (gl ([] : List Int) s9.2.2.2.2.1 s9.2.1.toNat) s9.2.2.1.toNat)) fun (x10 : (V6 Int)) => lt (w64 (s9.2.2.1 + 1)) fun (x11 : Int) => go8 (s9.1, s9.2.1, x11, s9.2.2.2.1, s9.2.2.2.2.1, (s9.2.2.2.2.2.1 ++ [(gl (⟨0, 0, 0, 0⟩ : (V4 Int)) s9.1 (gl 0 (gl ([] : List Int) s9.2.2.2.2.1 s9.2.1.toNat) s9.2.2.1.toNat).toNat)]), x10))))))))) (ob (s_l10Thirds n s9.2.2.2.2.2.1 ([] : List (V4 Int))) fun (r12 : Bool) => br r12 (ckb (apok 48 (s9.2.2.2.1.length + 1)) (lt (w64 (s9.2.1 + 1)) fun (x13 : Int) => go5 (s9.1, x13, (s9.2.2.2.1 ++ [s9.2.2.2.2.2.2]), s9.2.2.2.2.1))) (lt (w64 (s9.2.1 + 1)) fun (x14 : Int) => go5 (s9.1, x14, s9.2.2.2.1, s9.2.2.2.2.1)))
noncomputable def s_GhostsIn_L2 (n : Nat) (go5 : (List (V4 Int)) × Int × (List (V6 Int)) × (List (List Int)) → Option (Bool × (List (V6 Int)))) (s6 : (List (V4 Int)) × Int × (List (V6 Int)) × (List (List Int))) : Option (Bool × (List (V6 Int))) :=
  br (decide (s6.2.1 < (s6.2.2.2.length : Int))) (lt (⟨0, 0, 0, 0, 0, 0⟩ : (V6 Int)) fun (x7 : (V6 Int)) => fx (s_GhostsIn_L1 n go5) n (s6.1, s6.2.1, 0, s6.2.2.1, s6.2.2.2, ([] : List (V4 Int)), x7)) (some (true, s6.2.2.1))
noncomputable def s_GhostsIn (n : Nat) (a1 : (List (V4 Int))) : Option (Bool × (List (V6 Int))) :=
  ob (s_l2Hand n a1) fun (r2 : Bool) => ob (br (! r2) (some true) (some (decide (10 < (a1.length : Int))))) fun (x3 : Bool) => br x3 (some (false, ([] : List (V6 Int)))) (ob (s_l10Choose n (a1.length : Int) 0 6 ([] : List Int)) fun (r4 : (List (List Int))) => fx (s_GhostsIn_L2 n) n (a1, 0, ([] : List (V6 Int)), r4))

/-- s_l6Span -/
noncomputable def s_l6Span_L1 (n : Nat) (go3 : Int × (List (V4 Int)) → Option ((List (V4 Int)))) (go5 : Int × Int × (List (V4 Int)) → Option ((List (V4 Int)))) (s6 : Int × Int × (List (V4 Int))) : Option ((List (V4 Int))) :=
  br (decide (s6.2.1 < s6.1)) (ckb (inb s6.1 s6.2.2.length) (ckb (inb s6.2.1 s6.2.2.length) (ob (s_l2Third n (gl (⟨0, 0, 0, 0⟩ : (V4 Int)) s6.2.2 s6.1.toNat) (gl (⟨0, 0, 0, 0⟩ : (V4 Int)) s6.2.2 s6.2.1.toNat)) fun (r7 : (V4 Int)) => ob (s_l2Has n s6.2.2 r7) fun (r8 : Bool) => br (! r8) (ob (s_l2Put n s6.2.2 r7) fun (r9 : (List (V4 Int))) => lt (w64 ((-1) + 1)) fun (x10 : Int) => go5 (0, x10, r9)) (lt (w64 (s6.2.1 + 1)) fun (x11 : Int) => go5 (s6.1, x11, s6.2.2))))) (lt (w64 (s6.1 + 1)) fun (x12 : Int) => go3 (x12, s6.2.2))
noncomputable def s_l6Span_L2 (n : Nat) (go3 : Int × (List (V4 Int)) → Option ((List (V4 Int)))) (s4 : Int × (List (V4 Int))) : Option ((List (V4 Int))) :=
  br (decide (s4.1 < (s4.2.length : Int))) (fx (s_l6Span_L1 n go3) n (s4.1, 0, s4.2)) (some s4.2)
noncomputable def s_l6Span (n : Nat) (a1 : (List (V4 Int))) : Option ((List (V4 Int))) :=
  ob (s_l2Sorted n a1) fun (r2 : (List (V4 Int))) => fx (s_l6Span_L2 n) n (0, r2)

/-- s_Cur_flat'p -/
noncomputable def s_Cur_flat'p_J1 (n : Nat) (s14 : Bool × ((List Int) × (Int × Int)) × (List (V4 Int))) : Option (((List Int) × (Int × Int)) × (List (V4 Int))) :=
  br s14.1 (ob (s_Cur_pick'p n (s14.2.2.length : Int) s14.2.1) fun (r15 : Int × ((List Int) × (Int × Int))) => ob (s_l2Drop n s14.2.2 r15.1) fun (r16 : (List (V4 Int))) => some (r15.2, r16)) (some (s14.2.1, s14.2.2))
noncomputable def s_Cur_flat'p_L2 (n : Nat) (go10 : ((List Int) × (Int × Int)) × (List (V4 Int)) → Option (((List Int) × (Int × Int)) × (List (V4 Int)))) (s11 : ((List Int) × (Int × Int)) × (List (V4 Int))) : Option (((List Int) × (Int × Int)) × (List (V4 Int))) :=
  br (decide (27 < (s11.2.length : Int))) (ob (s_Cur_pick'p n (s11.2.length : Int) s11.1) fun (r12 : Int × ((List Int) × (Int × Int))) => ob (s_l2Drop n s11.2 r12.1) fun (r13 : (List (V4 Int))) => go10 (r12.2, r13)) (br (decide (1 < (s11.2.length : Int))) (ob (s_Cur_one'p n 3 s11.1) fun (r17 : Bool × ((List Int) × (Int × Int))) => s_Cur_flat'p_J1 n (r17.1, r17.2, s11.2)) (s_Cur_flat'p_J1 n (false, s11.1, s11.2)))
noncomputable def s_Cur_flat'p_L3 (n : Nat) (go3 : Int × ((List Int) × (Int × Int)) × (List (V4 Int)) → Option (((List Int) × (Int × Int)) × (List (V4 Int)))) (s4 : Int × ((List Int) × (Int × Int)) × (List (V4 Int))) : Option (((List Int) × (Int × Int)) × (List (V4 Int))) :=
  br (decide (0 < s4.1)) (ob (s_Cur_pick'p n 81 s4.2.1) fun (r5 : Int × ((List Int) × (Int × Int))) => ob (s_l2At n r5.1) fun (r6 : (V4 Int)) => ob (s_l2Put n s4.2.2 r6) fun (r7 : (List (V4 Int))) => lt (w64 (s4.1 - 1)) fun (x8 : Int) => go3 (x8, r5.2, r7)) (ob (s_l6Span n s4.2.2) fun (r9 : (List (V4 Int))) => fx (s_Cur_flat'p_L2 n) n (s4.2.1, r9))
noncomputable def s_Cur_flat'p (n : Nat) (a1 : ((List Int) × (Int × Int))) : Option (((List Int) × (Int × Int)) × (List (V4 Int))) :=
  ob (s_Cur_among'pl n [3, 2, 1, 4] a1) fun (r2 : Int × ((List Int) × (Int × Int))) => fx (s_Cur_flat'p_L3 n) n (r2.1, r2.2, ([] : List (V4 Int)))

/-- s_Cur_someHand'p -/
noncomputable def s_Cur_someHand'p (n : Nat) (a1 : ((List Int) × (Int × Int))) : Option (((List Int) × (Int × Int)) × (List (V4 Int))) :=
  ob (s_Cur_one'p n 2 a1) fun (r2 : Bool × ((List Int) × (Int × Int))) => br r2.1 (ob (s_Cur_flat'p n r2.2) fun (r3 : ((List Int) × (Int × Int)) × (List (V4 Int))) => some (r3.1, r3.2)) (ob (s_Cur_hand'p n r2.2) fun (r4 : ((List Int) × (Int × Int)) × (List (V4 Int))) => some (r4.1, r4.2))

/-- s_DrawLinesOfKind -/
noncomputable def s_DrawLinesOfKind (n : Nat) (a1 : (List Int)) : Option (Int × (List (V4 Int))) :=
  lt (a1, (0, 0)) fun (x2 : ((List Int) × (Int × Int))) => ob (s_Cur_pick'p n 4 x2) fun (r3 : Int × ((List Int) × (Int × Int))) => lt (w64 (1 + r3.1)) fun (x4 : Int) => ob (s_Cur_pick'p n 24 r3.2) fun (r5 : Int × ((List Int) × (Int × Int))) => lt (w64 (Int.tdiv r5.1 23)) fun (x6 : Int) => lt (w64 (x4 - x6)) fun (x7 : Int) => ob (s_Cur_pick'p n 24 r5.2) fun (r8 : Int × ((List Int) × (Int × Int))) => lt (w64 (Int.tdiv r8.1 23)) fun (x9 : Int) => lt (w64 (x7 + x9)) fun (x10 : Int) => ob (s_Cur_someHand'p n r8.2) fun (r11 : ((List Int) × (Int × Int)) × (List (V4 Int))) => some (x10, r11.2)

/-- i_LinesOfKind -/
noncomputable def i_LinesOfKind_L1 (n : Nat) (go7 : (List (V4 Int)) × Int × Int × Int × (List (V3 Int)) × (List (V3 Int)) → Option (Bool × (List (V3 Int)))) (s8 : (List (V4 Int)) × Int × Int × Int × (List (V3 Int)) × (List (V3 Int))) : Option (Bool × (List (V3 Int))) :=
  br (decide (s8.2.2.2.1 < s8.2.2.1)) (ckb (inb s8.2.2.2.1 s8.2.2.2.2.2.length) (ckb (inb (gl (⟨0, 0, 0⟩ : (V3 Int)) s8.2.2.2.2.2 s8.2.2.2.1.toNat).x0 s8.1.length) (ckb (inb (gl (⟨0, 0, 0⟩ : (V3 Int)) s8.2.2.2.2.2 s8.2.2.2.1.toNat).x1 s8.1.length) (ob (i_differ n (gl (⟨0, 0, 0, 0⟩ : (V4 Int)) s8.1 (gl (⟨0, 0, 0⟩ : (V3 Int)) s8.2.2.2.2.2 s8.2.2.2.1.toNat).x0.toNat) (gl (⟨0, 0, 0, 0⟩ : (V4 Int)) s8.1 (gl (⟨0, 0, 0⟩ : (V3 Int)) s8.2.2.2.2.2 s8.2.2.2.1.toNat).x1.toNat)) fun (r9 : Int) => br (decide (r9 = s8.2.1)) (ckb (apok 24 (s8.2.2.2.2.1.length + 1)) (lt (w64 (s8.2.2.2.1 + 1)) fun (x10 : Int) => go7 (s8.1, s8.2.1, s8.2.2.1, x10, (s8.2.2.2.2.1 ++ [(gl (⟨0, 0, 0⟩ : (V3 Int)) s8.2.2.2.2.2 s8.2.2.2.1.toNat)]), s8.2.2.2.2.2))) (lt (w64 (s8.2.2.2.1 + 1)) fun (x11 : Int) => go7 (s8.1, s8.2.1, s8.2.2.1, x11, s8.2.2.2.2.1, s8.2.2.2.2.2)))))) (some (true, s8.2.2.2.2.1))
noncomputable def i_LinesOfKind (n : Nat) (a1 : (List (V4 Int))) (a2 : Int) : Option (Bool × (List (V3 Int))) :=
  ob (i_IsHand n a1) fun (r3 : Bool) => ob (br (! r3) (some true) (ob (i_within n a2 1 4) fun (r4 : Bool) => some (! r4))) fun (x5 : Bool) => br x5 (some (false, ([] : List (V3 Int)))) (ob (i_linesIn n a1) fun (r6 : (List (V3 Int))) => fx (i_LinesOfKind_L1 n) n (a1, a2, (r6.length : Int), 0, ([] : List (V3 Int)), r6))

/-- s_LinesOfKind -/
noncomputable def s_LinesOfKind_L1 (n : Nat) (go7 : (List (V4 Int)) × Int × Int × (List (V3 Int)) × (List (V3 Int)) → Option (Bool × (List (V3 Int)))) (s8 : (List (V4 Int)) × Int × Int × (List (V3 Int)) × (List (V3 Int))) : Option (Bool × (List (V3 Int))) :=
  br (decide (s8.2.2.1 < (s8.2.2.2.2.length : Int))) (ckb (inb s8.2.2.1 s8.2.2.2.2.length) (ckb (inb (gl (⟨0, 0, 0⟩ : (V3 Int)) s8.2.2.2.2 s8.2.2.1.toNat).x0 s8.1.length) (ckb (inb s8.2.2.1 s8.2.2.2.2.length) (ckb (inb (gl (⟨0, 0, 0⟩ : (V3 Int)) s8.2.2.2.2 s8.2.2.1.toNat).x1 s8.1.length) (ob (s_l2Differ n (gl (⟨0, 0, 0, 0⟩ : (V4 Int)) s8.1 (gl (⟨0, 0, 0⟩ : (V3 Int)) s8.2.2.2.2 s8.2.2.1.toNat).x0.toNat) (gl (⟨0, 0, 0, 0⟩ : (V4 Int)) s8.1 (gl (⟨0, 0, 0⟩ : (V3 Int)) s8.2.2.2.2 s8.2.2.1.toNat).x1.toNat)) fun (r9 : Int) => br (decide (r9 = s8.2.1)) (ckb (inb s8.2.2.1 s8.2.2.2.2.length) (ckb (apok 24 (s8.2.2.2.1.length + 1)) (lt (w64 (s8.2.2.1 + 1)) fun (x10 : Int) => go7 (s8.1, s8.2.1, x10, (s8.2.2.2.1 ++ [(gl (⟨0, 0, 0⟩ : (V3 Int)) s8.2.2.2.2 s8.2.2.1.toNat)]), s8.2.2.2.2)))) (lt (w64 (s8.2.2.1 + 1)) fun (x11 : Int) => go7 (s8.1, s8.2.1, x11, s8.2.2.2.1, s8.2.2.2.2))))))) (some (true, s8.2.2.2.1))
noncomputable def s_LinesOfKind (n : Nat) (a1 : (List (V4 Int))) (a2 : Int) : Option (Bool × (List (V3 Int))) :=
  ob (s_l2Hand n a1) fun (r3 : Bool) => ob (br (! r3) (some true) (ob (s_l1In n a2 1 4) fun (r4 : Bool) => some (! r4))) fun (x5 : Bool) => br x5 (some (false, ([] : List (V3 Int)))) (ob (s_l2Lines n a1) fun (r6 : (List (V3 Int))) => fx (s_LinesOfKind_L1 n) n (a1, a2, 0, ([] : List (V3 Int)), r6))

/-- v_rThrees -/
noncomputable def v_rThrees_L1 (n : Nat) (go3 : (List (V3 Int)) × (List (V3 Int)) × Int → Option (Bool)) (s4 : (List (V3 Int)) × (List (V3 Int)) × Int) : Option (Bool) :=
  br (decide (s4.2.2 < (s4.1.length : Int))) (ckb (inb s4.2.2 s4.1.length) (ckb (inb s4.2.2 s4.2.1.length) (br (!eqd (gl (⟨0, 0, 0⟩ : (V3 Int)) s4.1 s4.2.2.toNat) (gl (⟨0, 0, 0⟩ : (V3 Int)) s4.2.1 s4.2.2.toNat)) (some false) (lt (w64 (s4.2.2 + 1)) fun (x5 : Int) => go3 (s4.1, s4.2.1, x5))))) (some true)
noncomputable def v_rThrees (n : Nat) (a1 : (List (V3 Int))) (a2 : (List (V3 Int))) : Option (Bool) :=
  br (!decide ((a1.length : Int) = (a2.length : Int))) (some false) (fx (v_rThrees_L1 n) n (a1, a2, 0))

/-- i_CountKinds -/
noncomputable def i_CountKinds_L1 (n : Nat) (go5 : (List (V4 Int)) × Int × Int × (V5 Int) × (V5 Int) × (List (V3 Int)) → Option ((V5 Int) × Bool)) (s6 : (List (V4 Int)) × Int × Int × (V5 Int) × (V5 Int) × (List (V3 Int))) : Option ((V5 Int) × Bool) :=
  br (decide (s6.2.2.1 < s6.2.1)) (ckb (inb s6.2.2.1 s6.2.2.2.2.2.length) (ckb (inb (gl (⟨0, 0, 0⟩ : (V3 Int)) s6.2.2.2.2.2 s6.2.2.1.toNat).x0 s6.1.length) (ckb (inb (gl (⟨0, 0, 0⟩ : (V3 Int)) s6.2.2.2.2.2 s6.2.2.1.toNat).x1 s6.1.length) (ob (i_differ n (gl (⟨0, 0, 0, 0⟩ : (V4 Int)) s6.1 (gl (⟨0, 0, 0⟩ : (V3 Int)) s6.2.2.2.2.2 s6.2.2.1.toNat).x0.toNat) (gl (⟨0, 0, 0, 0⟩ : (V4 Int)) s6.1 (gl (⟨0, 0, 0⟩ : (V3 Int)) s6.2.2.2.2.2 s6.2.2.1.toNat).x1.toNat)) fun (r7 : Int) => ckb (inb r7 5) (lt (w64 ((V5.get s6.2.2.2.2.1 r7.toNat) + 1)) fun (x8 : Int) => ckb (inb r7 5) (lt (V5.set s6.2.2.2.2.1 r7.toNat x8) fun (x9 : (V5 Int)) => lt (w64 (s6.2.2.1 + 1)) fun (x10 : Int) => go5 (s6.1, s6.2.1, x10, s6.2.2.2.1, x9, s6.2.2.2.2.2))))))) (some (s6.2.2.2.2.1, true))
noncomputable def i_CountKinds (n : Nat) (a1 : (List (V4 Int))) : Option ((V5 Int) × Bool) :=
  lt (⟨0, 0, 0, 0, 0⟩ : (V5 Int)) fun (x2 : (V5 Int)) => ob (i_IsHand n a1) fun (r3 : Bool) => br (! r3) (some (x2, false)) (ob (i_linesIn n a1) fun (r4 : (List (V3 Int))) => fx (i_CountKinds_L1 n) n (a1, (r4.length : Int), 0, (⟨0, 0, 0, 0, 0⟩ : (V5 Int)), x2, r4))

/-- s_CountKinds -/
noncomputable def s_CountKinds_L1 (n : Nat) (go5 : (List (V4 Int)) × Int × (V5 Int) × (V5 Int) × (List (V3 Int)) → Option ((V5 Int) × Bool)) (s6 : (List (V4 Int)) × Int × (V5 Int) × (V5 Int) × (List (V3 Int))) : Option ((V5 Int) × Bool) :=
  br (decide (s6.2.1 < (s6.2.2.2.2.length : Int))) (ckb (inb s6.2.1 s6.2.2.2.2.length) (ckb (inb (gl (⟨0, 0, 0⟩ : (V3 Int)) s6.2.2.2.2 s6.2.1.toNat).x0 s6.1.length) (ckb (inb s6.2.1 s6.2.2.2.2.length) (ckb (inb (gl (⟨0, 0, 0⟩ : (V3 Int)) s6.2.2.2.2 s6.2.1.toNat).x1 s6.1.length) (ob (s_l2Differ n (gl (⟨0, 0, 0, 0⟩ : (V4 Int)) s6.1 (gl (⟨0, 0, 0⟩ : (V3 Int)) s6.2.2.2.2 s6.2.1.toNat).x0.toNat) (gl (⟨0, 0, 0, 0⟩ : (V4 Int)) s6.1 (gl (⟨0, 0, 0⟩ : (V3 Int)) s6.2.2.2.2 s6.2.1.toNat).x1.toNat)) fun (r7 : Int) => ckb (inb r7 5) (lt (w64 ((V5.get s6.2.2.2.1 r7.toNat) + 1)) fun (x8 : Int) => ckb (inb r7 5) (lt (V5.set s6.2.2.2.1 r7.toNat x8) fun (x9 : (V5 Int)) => lt (w64 (s6.2.1 + 1)) fun (x10 : Int) => go5 (s6.1, x10, s6.2.2.1, x9, s6.2.2.2.2)))))))) (some (s6.2.2.2.1, true))
noncomputable def s_CountKinds (n : Nat) (a1 : (List (V4 Int))) : Option ((V5 Int) × Bool) :=
  lt (⟨0, 0, 0, 0, 0⟩ : (V5 Int)) fun (x2 : (V5 Int)) => ob (s_l2Hand n a1) fun (r3 : Bool) => br (! r3) (some (x2, false)) (ob (s_l2Lines n a1) fun (r4 : (List (V3 Int))) => fx (s_CountKinds_L1 n) n (a1, 0, (⟨0, 0, 0, 0, 0⟩ : (V5 Int)), x2, r4))

/-- s_DrawAllOfKind -/
noncomputable def s_DrawAllOfKind (n : Nat) (a1 : (List Int)) : Option (Int) :=
  lt (a1, (0, 0)) fun (x2 : ((List Int) × (Int × Int))) => ob (s_Cur_pick'p n 7 x2) fun (r3 : Int × ((List Int) × (Int × Int))) => lt (w64 (r3.1 - 1)) fun (x4 : Int) => some x4

/-- i_AllOfKind -/
noncomputable def i_AllOfKind (n : Nat) (a1 : Int) : Option (Int × Bool) :=
  ob (i_within n a1 1 4) fun (r2 : Bool) => br (! r2) (some (0, false)) (ckb (inb a1 5) (some ((gl 0 [0, 108, 324, 432, 216] a1.toNat), true)))

/-- s_AllOfKind -/
noncomputable def s_AllOfKind (n : Nat) (a1 : Int) : Option (Int × Bool) :=
  ob (s_l1In n a1 1 4) fun (r2 : Bool) => br (! r2) (some (0, false)) (lt (⟨0, 108, 324, 432, 216⟩ : (V5 Int)) fun (x3 : (V5 Int)) => ckb (inb a1 5) (some ((V5.get x3 a1.toNat), true)))

/-- i_NearLines_1'lpp_ko -/
noncomputable def i_NearLines_1'lpp_ko (n : Nat) (a1 : (List Int)) (a2 : (List (V4 Int))) (a3 : (List (V3 Int))) : Option ((List (V4 Int)) × (List (V3 Int))) :=
  ckb (inb 0 a1.length) (ckb (inb (gl 0 a1 0) a2.length) (ckb (inb 1 a1.length) (ckb (inb (gl 0 a1 1) a2.length) (ob (i_third n (gl (⟨0, 0, 0, 0⟩ : (V4 Int)) a2 (gl 0 a1 0).toNat) (gl (⟨0, 0, 0, 0⟩ : (V4 Int)) a2 (gl 0 a1 1).toNat)) fun (r4 : (V4 Int)) => ckb (inb 2 a1.length) (ckb (inb (gl 0 a1 2) a2.length) (ob (i_differ n r4 (gl (⟨0, 0, 0, 0⟩ : (V4 Int)) a2 (gl 0 a1 2).toNat)) fun (r5 : Int) => br (decide (r5 = 1)) (ckb (slb 0 3 a1.length) (ckb (apok 24 (a3.length + 1)) (some (a2, (a3 ++ [(⟨(gl 0 a1 0), (gl 0 a1 1), (gl 0 a1 2)⟩ : (V3 Int))]))))) (some (a2, a3))))))))

/-- i_choices'l_i_NearLines_1pp_ko -/
noncomputable def i_choices'l_i_NearLines_1pp_ko_L1 (n : Nat) (go0 : (List Int) × Int × Int × (List (V4 Int)) × (List (V3 Int)) → Option ((List (V4 Int)) × (List (V3 Int)))) (go8 : (List Int) × Int × Int × Int × (List (V4 Int)) × (List (V3 Int)) → Option ((List (V4 Int)) × (List (V3 Int)))) (s9 : (List Int) × Int × Int × Int × (List (V4 Int)) × (List (V3 Int))) : Option ((List (V4 Int)) × (List (V3 Int))) :=
  br (decide (s9.2.2.2.1 < s9.2.2.1)) (ckb (cand (slb 0 (s9.1.length : Int) s9.1.length) (decide ((s9.1.length : Int) = (s9.1.length : Int)))) (ckb (cand (apok 8 ((sub s9.1 0 s9.1.length).length + 1)) (cor (sub s9.1 0 s9.1.length).isEmpty true)) (lt (w64 (s9.2.1 - 1)) fun (x10 : Int) => ob (go0 (((sub s9.1 0 s9.1.length) ++ [s9.2.2.2.1]), x10, s9.2.2.1, s9.2.2.2.2.1, s9.2.2.2.2.2)) fun (r11 : (List (V4 Int)) × (List (V3 Int))) => lt (w64 (s9.2.2.2.1 + 1)) fun (x12 : Int) => go8 (s9.1, s9.2.1, s9.2.2.1, x12, r11.1, r11.2)))) (some (s9.2.2.2.2.1, s9.2.2.2.2.2))
noncomputable def i_choices'l_i_NearLines_1pp_ko_J2 (n : Nat) (go0 : (List Int) × Int × Int × (List (V4 Int)) × (List (V3 Int)) → Option ((List (V4 Int)) × (List (V3 Int)))) (s7 : (List Int) × Int × Int × Int × (List (V4 Int)) × (List (V3 Int))) : Option ((List (V4 Int)) × (List (V3 Int))) :=
  fx (i_choices'l_i_NearLines_1pp_ko_L1 n go0) n (s7.1, s7.2.1, s7.2.2.1, s7.2.2.2.1, s7.2.2.2.2.1, s7.2.2.2.2.2)
noncomputable def i_choices'l_i_NearLines_1pp_ko_R (n : Nat) (go0 : (List Int) × Int × Int × (List (V4 Int)) × (List (V3 Int)) → Option ((List (V4 Int)) × (List (V3 Int)))) (x : (List Int) × Int × Int × (List (V4 Int)) × (List (V3 Int))) : Option ((List (V4 Int)) × (List (V3 Int))) :=
  (fun (a1 : (List Int)) (a2 : Int) (a3 : Int) (a4 : (List (V4 Int))) (a5 : (List (V3 Int))) => br (decide (a2 = 0)) (ob (i_NearLines_1'lpp_ko n a1 a4 a5) fun (r6 : (List (V4 Int)) × (List (V3 Int))) => some (r6.1, r6.2)) (br (decide (0 < (a1.length : Int))) (lt (w64 ((a1.length : Int) - 1)) fun (x13 : Int) => ckb (inb x13 a1.length) (lt (w64 ((gl 0 a1 x13.toNat) + 1)) fun (x14 : Int) => i_choices'l_i_NearLines_1pp_ko_J2 n go0 (a1, a2, a3, x14, a4, a5))) (i_choices'l_i_NearLines_1pp_ko_J2 n go0 (a1, a2, a3, 0, a4, a5)))) x.1 x.2.1 x.2.2.1 x.2.2.2.1 x.2.2.2.2
noncomputable def i_choices'l_i_NearLines_1pp_ko (n : Nat) (a1 : (List Int)) (a2 : Int) (a3 : Int) (a4 : (List (V4 Int))) (a5 : (List (V3 Int))) : Option ((List (V4 Int)) × (List (V3 Int))) := fx (i_choices'l_i_NearLines_1pp_ko_R n) n (a1, a2, a3, a4, a5)

/-- i_NearLines -/
noncomputable def i_NearLines (n : Nat) (a1 : (List (V4 Int))) : Option (Bool × (List (V3 Int))) :=
  ob (i_IsHand n a1) fun (r2 : Bool) => br (! r2) (some (false, ([] : List (V3 Int)))) (ob (i_choices'l_i_NearLines_1pp_ko n ([] : List Int) 3 (a1.length : Int) a1 ([] : List (V3 Int))) fun (r3 : (List (V4 Int)) × (List (V3 Int))) => some (true, r3.2))

/-- s_l10Good -/
noncomputable def s_l10Good_L1 (n : Nat) (go4 : Int × Int × (V4 Int) × (V4 Int) × (V4 Int) → Option (Int)) (s5 : Int × Int × (V4 Int) × (V4 Int) × (V4 Int)) : Option (Int) :=
  br (decide (s5.2.1 < 4)) (ckb (inb s5.2.1 4) (ckb (inb s5.2.1 4) (lt (w64 ((V4.get s5.2.2.1 s5.2.1.toNat) + (V4.get s5.2.2.2.1 s5.2.1.toNat))) fun (x6 : Int) => ckb (inb s5.2.1 4) (lt (w64 (x6 + (V4.get s5.2.2.2.2 s5.2.1.toNat))) fun (x7 : Int) => lt (Int.tmod x7 3) fun (x8 : Int) => br (decide (x8 = 0)) (lt (w64 (s5.1 + 1)) fun (x9 : Int) => lt (w64 (s5.2.1 + 1)) fun (x10 : Int) => go4 (x9, x10, s5.2.2.1, s5.2.2.2.1, s5.2.2.2.2)) (lt (w64 (s5.2.1 + 1)) fun (x11 : Int) => go4 (s5.1, x11, s5.2.2.1, s5.2.2.2.1, s5.2.2.2.2)))))) (some s5.1)
noncomputable def s_l10Good (n : Nat) (a1 : (V4 Int)) (a2 : (V4 Int)) (a3 : (V4 Int)) : Option (Int) :=
  fx (s_l10Good_L1 n) n (0, 0, a1, a2, a3)

/-- s_NearLines -/
noncomputable def s_NearLines_L1 (n : Nat) (go6 : (List (V4 Int)) × Int × Int × (List (V3 Int)) → Option (Bool × (List (V3 Int)))) (go9 : (List (V4 Int)) × Int × Int × Int × (List (V3 Int)) → Option (Bool × (List (V3 Int)))) (s10 : (List (V4 Int)) × Int × Int × Int × (List (V3 Int))) : Option (Bool × (List (V3 Int))) :=
  br (decide (s10.2.2.2.1 < (s10.1.length : Int))) (ckb (inb s10.2.1 s10.1.length) (ckb (inb s10.2.2.1 s10.1.length) (ckb (inb s10.2.2.2.1 s10.1.length) (ob (s_l10Good n (gl (⟨0, 0, 0, 0⟩ : (V4 Int)) s10.1 s10.2.1.toNat) (gl (⟨0, 0, 0, 0⟩ : (V4 Int)) s10.1 s10.2.2.1.toNat) (gl (⟨0, 0, 0, 0⟩ : (V4 Int)) s10.1 s10.2.2.2.1.toNat)) fun (r11 : Int) => br (decide (r11 = 3)) (lt (⟨s10.2.1, s10.2.2.1, s10.2.2.2.1⟩ : (V3 Int)) fun (x12 : (V3 Int)) => ckb (apok 24 (s10.2.2.2.2.length + 1)) (lt (w64 (s10.2.2.2.1 + 1)) fun (x13 : Int) => go9 (s10.1, s10.2.1, s10.2.2.1, x13, (s10.2.2.2.2 ++ [x12])))) (lt (w64 (s10.2.2.2.1 + 1)) fun (x14 : Int) => go9 (s10.1, s10.2.1, s10.2.2.1, x14, s10.2.2.2.2)))))) (lt (w64 (s10.2.2.1 + 1)) fun (x15 : Int) => go6 (s10.1, s10.2.1, x15, s10.2.2.2.2))
noncomputable def s_NearLines_L2 (n : Nat) (go3 : (List (V4 Int)) × Int × (List (V3 Int)) → Option (Bool × (List (V3 Int)))) (go6 : (List (V4 Int)) × Int × Int × (List (V3 Int)) → Option (Bool × (List (V3 Int)))) (s7 : (List (V4 Int)) × Int × Int × (List (V3 Int))) : Option (Bool × (List (V3 Int))) :=
  br (decide (s7.2.2.1 < (s7.1.length : Int))) (lt (w64 (s7.2.2.1 + 1)) fun (x8 : Int) => fx (s_NearLines_L1 n go6) n (s7.1, s7.2.1, s7.2.2.1, x8, s7.2.2.2)) (lt (w64 (s7.2.1 + 1)) fun (x16 : Int) => go3 (s7.1, x16, s7.2.2.2))
noncomputable def s_NearLines_L3 (n : Nat) (go3 : (List (V4 Int)) × Int × (List (V3 Int)) → Option (Bool × (List (V3 Int)))) (s4 : (List (V4 Int)) × Int × (List (V3 Int))) : Option (Bool × (List (V3 Int))) :=
  br (decide (s4.2.1 < (s4.1.length : Int))) (lt (w64 (s4.2.1 + 1)) fun (x5 : Int) => fx (s_NearLines_L2 n go3) n (s4.1, s4.2.1, x5, s4.2.2)) (some (true, s4.2.2))
noncomputable def s_NearLines (n : Nat) (a1 : (List (V4 Int))) : Option (Bool × (List (V3 Int))) :=
  ob (s_l2Hand n a1) fun (r2 : Bool) => br (! r2) (some (false, ([] : List (V3 Int)))) (fx (s_NearLines_L3 n) n (a1, 0, ([] : List (V3 Int))))

/-- v_FnGhosts -/
noncomputable def v_FnGhosts_L1 (n : Nat) (go17 : (List Int) × Int × (List (V4 Int)) × (List (V6 Int)) × (List (V6 Int)) → Option (Bool)) (go19 : (List Int) × Int × Int × (List (V4 Int)) × (List (V6 Int)) × (List (V6 Int)) × (List (V4 Int)) → Option (Bool)) (s20 : (List Int) × Int × Int × (List (V4 Int)) × (List (V6 Int)) × (List (V6 Int)) × (List (V4 Int))) : Option (Bool) :=
  br (decide (s20.2.2.1 < 6)) (ckb (inb s20.2.1 s20.2.2.2.2.1.length) (ckb (inb s20.2.2.1 6) (ckb (inb (V6.get (gl (⟨0, 0, 0, 0, 0, 0⟩ : (V6 Int)) s20.2.2.2.2.1 s20.2.1.toNat) s20.2.2.1.toNat) s20.2.2.2.1.length) (ckb (apok 32 (s20.2.2.2.2.2.2.length + 1)) (lt (w64 (s20.2.2.1 + 1)) fun (x21 : Int) => go19 (s20.1, s20.2.1, x21, s20.2.2.2.1, s20.2.2.2.2.1, s20.2.2.2.2.2.1, (s20.2.2.2.2.2.2 ++ [(gl (⟨0, 0, 0, 0⟩ : (V4 Int)) s20.2.2.2.1 (V6.get (gl (⟨0, 0, 0, 0, 0, 0⟩ : (V6 Int)) s20.2.2.2.2.1 s20.2.1.toNat) s20.2.2.1.toNat).toNat)]))))))) (ob (i_IsGhost n s20.2.2.2.2.2.2) fun (r22 : Bool × Bool) => ob (br (! r22.2) (some true) (some (! r22.1))) fun (x23 : Bool) => br x23 (some false) (lt (w64 (s20.2.1 + 1)) fun (x24 : Int) => go17 (s20.1, x24, s20.2.2.2.1, s20.2.2.2.2.1, s20.2.2.2.2.2.1)))
noncomputable def v_FnGhosts_L2 (n : Nat) (go45 : Int × (List (V4 Int)) × (List (V3 Int)) → Option (Bool)) (s46 : Int × (List (V4 Int)) × (List (V3 Int))) : Option (Bool) :=
  br (decide (s46.1 < (s46.2.2.length : Int))) (ckb (inb s46.1 s46.2.2.length) (ckb (inb (gl (⟨0, 0, 0⟩ : (V3 Int)) s46.2.2 s46.1.toNat).x0 s46.2.1.length) (ckb (inb s46.1 s46.2.2.length) (ckb (inb (gl (⟨0, 0, 0⟩ : (V3 Int)) s46.2.2 s46.1.toNat).x1 s46.2.1.length) (ckb (inb s46.1 s46.2.2.length) (ckb (inb (gl (⟨0, 0, 0⟩ : (V3 Int)) s46.2.2 s46.1.toNat).x2 s46.2.1.length) (ob (i_IsLine n (gl (⟨0, 0, 0, 0⟩ : (V4 Int)) s46.2.1 (gl (⟨0, 0, 0⟩ : (V3 Int)) s46.2.2 s46.1.toNat).x0.toNat) (gl (⟨0, 0, 0, 0⟩ : (V4 Int)) s46.2.1 (gl (⟨0, 0, 0⟩ : (V3 Int)) s46.2.2 s46.1.toNat).x1.toNat) (gl (⟨0, 0, 0, 0⟩ : (V4 Int)) s46.2.1 (gl (⟨0, 0, 0⟩ : (V3 Int)) s46.2.2 s46.1.toNat).x2.toNat)) fun (r47 : Bool × Bool) => ob (br (! r47.2) (some true) (some r47.1)) fun (x48 : Bool) => br x48 (some false) (lt (w64 (s46.1 + 1)) fun (x49 : Int) => go45 (x49, s46.2.1, s46.2.2))))))))) (some true)
noncomputable def v_FnGhosts_J3 (n : Nat) (s44 : (List (V4 Int)) × (List (V3 Int))) : Option (Bool) :=
  fx (v_FnGhosts_L2 n) n (0, s44.1, s44.2)
noncomputable def v_FnGhosts_L4 (n : Nat) (go17 : (List Int) × Int × (List (V4 Int)) × (List (V6 Int)) × (List (V6 Int)) → Option (Bool)) (s18 : (List Int) × Int × (List (V4 Int)) × (List (V6 Int)) × (List (V6 Int))) : Option (Bool) :=
  br (decide (s18.2.1 < (s18.2.2.2.1.length : Int))) (ckb (inb s18.2.1 s18.2.2.2.1.length) (ckb (inb s18.2.1 s18.2.2.2.2.length) (br (!eqd (gl (⟨0, 0, 0, 0, 0, 0⟩ : (V6 Int)) s18.2.2.2.1 s18.2.1.toNat) (gl (⟨0, 0, 0, 0, 0, 0⟩ : (V6 Int)) s18.2.2.2.2 s18.2.1.toNat)) (some false) (fx (v_FnGhosts_L1 n go17) n (s18.1, s18.2.1, 0, s18.2.2.1, s18.2.2.2.1, s18.2.2.2.2, ([] : List (V4 Int))))))) (ob (s_DrawLinesOfKind n s18.1) fun (r25 : Int × (List (V4 Int))) => ob (i_LinesOfKind n r25.2 r25.1) fun (r26 : Bool × (List (V3 Int))) => ob (s_LinesOfKind n r25.2 r25.1) fun (r27 : Bool × (List (V3 Int))) => ob (br (! (r26.1 == r27.1)) (some true) (ob (v_rThrees n r26.2 r27.2) fun (r28 : Bool) => some (! r28))) fun (x29 : Bool) => br x29 (some false) (ob (i_CountKinds n r25.2) fun (r30 : (V5 Int) × Bool) => ob (s_CountKinds n r25.2) fun (r31 : (V5 Int) × Bool) => ob (br (!eqd r30.1 r31.1) (some true) (some (! (r30.2 == r31.2)))) fun (x32 : Bool) => ob (br x32 (some true) (ob (br r26.1 (ckb (inb r25.1 5) (some (!decide ((V5.get r30.1 r25.1.toNat) = (r26.2.length : Int))))) (some false)) fun (x33 : Bool) => some x33)) fun (x34 : Bool) => br x34 (some false) (ob (s_DrawAllOfKind n s18.1) fun (r35 : Int) => ob (i_AllOfKind n r35) fun (r36 : Int × Bool) => ob (s_AllOfKind n r35) fun (r37 : Int × Bool) => ob (br (!decide (r36.1 = r37.1)) (some true) (some (! (r36.2 == r37.2)))) fun (x38 : Bool) => br x38 (some false) (ob (i_NearLines n r25.2) fun (r39 : Bool × (List (V3 Int))) => ob (s_NearLines n r25.2) fun (r40 : Bool × (List (V3 Int))) => ob (br (! (r39.1 == r40.1)) (some true) (some (! (r39.1 == r30.2)))) fun (x41 : Bool) => ob (br x41 (some true) (ob (v_rThrees n r39.2 r40.2) fun (r42 : Bool) => some (! r42))) fun (x43 : Bool) => br x43 (some false) (br r30.2 (ob (i_LinesIn n r25.2) fun (r50 : Bool × (List (V3 Int))) => ob (br (! r50.1) (some true) (lt (w64 (r30.1.x1 + r30.1.x2)) fun (x51 : Int) => lt (w64 (x51 + r30.1.x3)) fun (x52 : Int) => lt (w64 (x52 + r30.1.x4)) fun (x53 : Int) => some (!decide (x53 = (r50.2.length : Int))))) fun (x54 : Bool) => ob (br x54 (some true) (some (!decide (r30.1.x0 = 0)))) fun (x55 : Bool) => br x55 (some false) (v_FnGhosts_J3 n (r25.2, r39.2))) (v_FnGhosts_J3 n (r25.2, r39.2)))))))
noncomputable def v_FnGhosts (n : Nat) (a1 : (List Int)) : Option (Bool) :=
  ob (v_rBig n a1) fun (r2 : Bool) => br r2 (some true) (ob (s_DrawIsGhost n a1) fun (r3 : (List (V4 Int))) => ob (i_IsGhost n r3) fun (r4 : Bool × Bool) => ob (s_IsGhost n r3) fun (r5 : Bool × Bool) => ob (br (! (r4.1 == r5.1)) (some true) (some (! (r4.2 == r5.2)))) fun (x6 : Bool) => br x6 (some false) (ob (i_SumGhost n r3) fun (r7 : Bool × Bool) => ob (s_SumGhost n r3) fun (r8 : Bool × Bool) => ob (br (! (r7.1 == r8.1)) (some true) (some (! (r7.2 == r8.2)))) fun (x9 : Bool) => ob (br x9 (some true) (some (! (r7.2 == r4.2)))) fun (x10 : Bool) => ob (br x10 (some true) (ob (br r4.1 (some (! r7.1)) (some false)) fun (x11 : Bool) => some x11)) fun (x12 : Bool) => br x12 (some false) (ob (s_DrawGhostsIn n a1) fun (r13 : (List (V4 Int))) => ob (i_GhostsIn n r13) fun (r14 : Bool × (List (V6 Int))) => ob (s_GhostsIn n r13) fun (r15 : Bool × (List (V6 Int))) => ob (br (! (r14.1 == r15.1)) (some true) (some (!decide ((r14.2.length : Int) = (r15.2.length : Int))))) fun (x16 : Bool) => br x16 (some false) (fx (v_FnGhosts_L4 n) n (a1, 0, r13, r14.2, r15.2)))))

end Go.Pl
