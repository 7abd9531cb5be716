/- Printed by a program of the session: the program's functions as plain functions. -/
import Derived.Test.YtfoielhhflbbfaaZ0
import Derived.Lib.Bytealg
namespace Go.Pl
open Go Go.Tv Go.RowKit
set_option linter.unusedVariables false
def bls (a b : ByteArray) : Bool := Op.bytesLess a.toList b.toList
/-- s_l1In -/
noncomputable def s_l1In (n : Nat) (a1 : Int) (a2 : Int) (a3 : Int) : Option (Bool) :=
  ob (br (decide (a2 ≤ a1)) (some (decide (a1 ≤ a3))) (some false)) fun (x4 : Bool) => some x4

/-- s_l2Card -/
noncomputable def s_l2Card_L1 (n : Nat) (go2 : Int × (V4 Int) → Option (Bool)) (s3 : Int × (V4 Int)) : Option (Bool) :=
  br (decide (s3.1 < 4)) (ckb (inb s3.1 4) (ob (s_l1In n (V4.get s3.2 s3.1.toNat) 0 2) fun (r4 : Bool) => br (! r4) (some false) (lt (w64 (s3.1 + 1)) fun (x5 : Int) => go2 (x5, s3.2)))) (some true)
noncomputable def s_l2Card (n : Nat) (a1 : (V4 Int)) : Option (Bool) :=
  fx (s_l2Card_L1 n) n (0, a1)

/-- i_within -/
noncomputable def i_within (n : Nat) (a1 : Int) (a2 : Int) (a3 : Int) : Option (Bool) :=
  ob (br (decide (a2 ≤ a1)) (some (decide (a1 ≤ a3))) (some false)) fun (x4 : Bool) => some x4

/-- i_allWithin_1'pp -/
noncomputable def i_allWithin_1'pp (n : Nat) (a1 : Int) (a2 : Int) (a3 : Int) : Option (Bool × Int × Int) :=
  ob (i_within n a1 a2 a3) fun (r4 : Bool) => some ((! r4), a2, a3)

/-- slices_IndexFunc_Sint_int_'l_i_allWithin_1pp -/
noncomputable def slices_IndexFunc_Sint_int_'l_i_allWithin_1pp_L1 (n : Nat) (go4 : (List Int) × Int × Int × Int × Int → Option (Int × Int × Int)) (s5 : (List Int) × Int × Int × Int × Int) : Option (Int × Int × Int) :=
  br (decide (s5.2.2.1 < s5.2.1)) (ckb (inb s5.2.2.1 s5.1.length) (ob (i_allWithin_1'pp n (gl 0 s5.1 s5.2.2.1.toNat) s5.2.2.2.1 s5.2.2.2.2) fun (r6 : Bool × Int × Int) => br r6.1 (some (s5.2.2.1, r6.2.1, r6.2.2)) (lt (w64 (s5.2.2.1 + 1)) fun (x7 : Int) => go4 (s5.1, s5.2.1, x7, r6.2.1, r6.2.2)))) (some ((-1), s5.2.2.2.1, s5.2.2.2.2))
noncomputable def slices_IndexFunc_Sint_int_'l_i_allWithin_1pp (n : Nat) (a1 : (List Int)) (a2 : Int) (a3 : Int) : Option (Int × Int × Int) :=
  fx (slices_IndexFunc_Sint_int_'l_i_allWithin_1pp_L1 n) n (a1, (a1.length : Int), 0, a2, a3)

/-- slices_ContainsFunc_Sint_int_'l_i_allWithin_1pp -/
noncomputable def slices_ContainsFunc_Sint_int_'l_i_allWithin_1pp (n : Nat) (a1 : (List Int)) (a2 : Int) (a3 : Int) : Option (Bool × Int × Int) :=
  ob (slices_IndexFunc_Sint_int_'l_i_allWithin_1pp n a1 a2 a3) fun (r4 : Int × Int × Int) => some ((decide (0 ≤ r4.1)), r4.2.1, r4.2.2)

/-- i_allWithin -/
noncomputable def i_allWithin (n : Nat) (a1 : (List Int)) (a2 : Int) (a3 : Int) : Option (Bool) :=
  ob (slices_ContainsFunc_Sint_int_'l_i_allWithin_1pp n a1 a2 a3) fun (r4 : Bool × Int × Int) => some (! r4.1)

/-- i_IsCard -/
noncomputable def i_IsCard (n : Nat) (a1 : (V4 Int)) : Option (Bool) :=
  ob (i_allWithin n (V4.els a1) 0 2) fun (r2 : Bool) => some r2

/-- i_number -/
noncomputable def i_number_L1 (n : Nat) (go2 : Int × (V4 Int) × Int → Option (Int)) (s3 : Int × (V4 Int) × Int) : Option (Int) :=
  br (decide (s3.2.2 < 4)) (ckb (inb s3.2.2 4) (lt (w64 (3 * s3.1)) fun (x4 : Int) => lt (w64 (x4 + (V4.get s3.2.1 s3.2.2.toNat))) fun (x5 : Int) => lt (w64 (s3.2.2 + 1)) fun (x6 : Int) => go2 (x5, s3.2.1, x6))) (some s3.1)
noncomputable def i_number (n : Nat) (a1 : (V4 Int)) : Option (Int) :=
  fx (i_number_L1 n) n (0, a1, 0)

/-- v_vBig -/
noncomputable def v_vBig (n : Nat) (a1 : (List Int)) : Option (Bool) :=
  some (decide (65536 < (a1.length : Int)))

/-- s_Cur_next'p -/
noncomputable def s_Cur_next'p_J1 (n : Nat) (s2 : Int × ((List Int) × (Int × Int))) : Option (Int × ((List Int) × (Int × Int))) :=
  lt (w64 (s2.2.2.1 + 1)) fun (x3 : Int) => lt (s2.2.1, (x3, s2.2.2.2)) fun (x4 : ((List Int) × (Int × Int))) => lt (IntKind.wrap .u64 (x4.2.2 * 6364136223846793005)) fun (x5 : Int) => lt (IntKind.wrap .u64 s2.1) fun (x6 : Int) => lt (IntKind.wrap .u64 (x5 + x6)) fun (x7 : Int) => lt (IntKind.wrap .u64 (x7 + 462197)) fun (x8 : Int) => lt (x4.1, (x4.2.1, x8)) fun (x9 : ((List Int) × (Int × Int))) => br (decide (x9.2.1 ≤ (x9.1.length : Int))) (some (s2.1, x9)) (lt (shrI .u64 x9.2.2 40) fun (x10 : Int) => lt (bits .and .u64 x10 255) fun (x11 : Int) => lt (w64 x11) fun (x12 : Int) => some (x12, x9))
noncomputable def s_Cur_next'p (n : Nat) (a1 : ((List Int) × (Int × Int))) : Option (Int × ((List Int) × (Int × Int))) :=
  br (decide (a1.2.1 < (a1.1.length : Int))) (ckb (inb a1.2.1 a1.1.length) (lt (w64 (gl 0 a1.1 a1.2.1.toNat)) fun (x13 : Int) => s_Cur_next'p_J1 n (x13, a1))) (s_Cur_next'p_J1 n (0, a1))

/-- s_Cur_pick'p -/
noncomputable def s_Cur_pick'p (n : Nat) (a1 : Int) (a2 : ((List Int) × (Int × Int))) : Option (Int × ((List Int) × (Int × Int))) :=
  br (decide (a1 ≤ 1)) (some (0, a2)) (ob (s_Cur_next'p n a2) fun (r3 : Int × ((List Int) × (Int × Int))) => br (decide (200 < a1)) (lt (w64 (r3.1 * 256)) fun (x4 : Int) => ob (s_Cur_next'p n r3.2) fun (r5 : Int × ((List Int) × (Int × Int))) => lt (w64 (x4 + r5.1)) fun (x6 : Int) => ckb (!decide (a1 = 0)) (lt (Int.tmod x6 a1) fun (x7 : Int) => some (x7, r5.2))) (ckb (!decide (a1 = 0)) (lt (Int.tmod r3.1 a1) fun (x8 : Int) => some (x8, r3.2))))

/-- s_Cur_among'pl -/
noncomputable def s_Cur_among'pl (n : Nat) (a1 : (List Int)) (a2 : ((List Int) × (Int × Int))) : Option (Int × ((List Int) × (Int × Int))) :=
  ob (s_Cur_pick'p n (a1.length : Int) a2) fun (r3 : Int × ((List Int) × (Int × Int))) => ckb (inb r3.1 a1.length) (some ((gl 0 a1 r3.1.toNat), r3.2))

/-- i_choose -/
noncomputable def i_choose_L1 (n : Nat) (go3 : Int × Int × Int × Int → Option (Int)) (s4 : Int × Int × Int × Int) : Option (Int) :=
  br (decide (s4.2.2.2 < s4.2.2.1)) (lt (w64 (s4.1 - s4.2.2.2)) fun (x5 : Int) => lt (w64 (s4.2.1 * x5)) fun (x6 : Int) => lt (w64 (s4.2.2.2 + 1)) fun (x7 : Int) => ckb (!decide (x7 = 0)) (lt (w64 (Int.tdiv x6 x7)) fun (x8 : Int) => lt (w64 (s4.2.2.2 + 1)) fun (x9 : Int) => go3 (s4.1, x8, s4.2.2.1, x9))) (some s4.2.1)
noncomputable def i_choose (n : Nat) (a1 : Int) (a2 : Int) : Option (Int) :=
  fx (i_choose_L1 n) n (a1, 1, a2, 0)

/-- i_fraction -/
noncomputable def i_fraction_L1 (n : Nat) (go3 : Int × Int × Int × Int × (V2 Int) → Option ((V2 Int) × Bool)) (s4 : Int × Int × Int × Int × (V2 Int)) : Option ((V2 Int) × Bool) :=
  br (!decide (s4.2.2.2.1 = 0)) (ckb (!decide (s4.2.2.2.1 = 0)) (lt (Int.tmod s4.2.2.1 s4.2.2.2.1) fun (x5 : Int) => go3 (s4.1, s4.2.1, s4.2.2.2.1, x5, s4.2.2.2.2))) (ckb (!decide (s4.2.2.1 = 0)) (lt (w64 (Int.tdiv s4.1 s4.2.2.1)) fun (x6 : Int) => ckb (!decide (s4.2.2.1 = 0)) (lt (w64 (Int.tdiv s4.2.1 s4.2.2.1)) fun (x7 : Int) => lt (⟨x6, x7⟩ : (V2 Int)) fun (x8 : (V2 Int)) => some (x8, true))))
noncomputable def i_fraction (n : Nat) (a1 : Int) (a2 : Int) : Option ((V2 Int) × Bool) :=
  fx (i_fraction_L1 n) n (a1, a2, a1, a2, (⟨0, 0⟩ : (V2 Int)))

/-- s_l9Choose -/
noncomputable def s_l9Choose_L1 (n : Nat) (go3 : Int × Int × Int × Int → Option (Int)) (s4 : Int × Int × Int × Int) : Option (Int) :=
  br (decide (s4.2.2.2 < s4.2.1)) (lt (w64 (s4.1 - s4.2.2.2)) fun (x5 : Int) => lt (w64 (s4.2.2.1 * x5)) fun (x6 : Int) => lt (w64 (s4.2.2.2 + 1)) fun (x7 : Int) => ckb (!decide (x7 = 0)) (lt (w64 (Int.tdiv x6 x7)) fun (x8 : Int) => lt (w64 (s4.2.2.2 + 1)) fun (x9 : Int) => go3 (s4.1, s4.2.1, x8, x9))) (some s4.2.2.1)
noncomputable def s_l9Choose (n : Nat) (a1 : Int) (a2 : Int) : Option (Int) :=
  fx (s_l9Choose_L1 n) n (a1, a2, 1, 0)

/-- s_l1Most -/
noncomputable def s_l1Most (n : Nat) (a1 : Int) (a2 : Int) : Option (Int) :=
  br (decide (a2 < a1)) (some a1) (some a2)

/-- s_l9Cut -/
noncomputable def s_l9Cut_L1 (n : Nat) (go3 : Int × Int × Int × Int × (V2 Int) → Option ((V2 Int))) (s4 : Int × Int × Int × Int × (V2 Int)) : Option ((V2 Int)) :=
  br (decide (0 < s4.2.2.2.1)) (ckb (!decide (s4.2.2.2.1 = 0)) (lt (Int.tmod s4.2.2.1 s4.2.2.2.1) fun (x5 : Int) => go3 (s4.1, s4.2.1, s4.2.2.2.1, x5, s4.2.2.2.2))) (ob (s_l1Most n s4.2.2.1 1) fun (r6 : Int) => ckb (!decide (r6 = 0)) (lt (w64 (Int.tdiv s4.1 r6)) fun (x7 : Int) => ob (s_l1Most n s4.2.2.1 1) fun (r8 : Int) => ckb (!decide (r8 = 0)) (lt (w64 (Int.tdiv s4.2.1 r8)) fun (x9 : Int) => lt (⟨x7, x9⟩ : (V2 Int)) fun (x10 : (V2 Int)) => some x10)))
noncomputable def s_l9Cut (n : Nat) (a1 : Int) (a2 : Int) : Option ((V2 Int)) :=
  fx (s_l9Cut_L1 n) n (a1, a2, a1, a2, (⟨0, 0⟩ : (V2 Int)))

/-- v_vCut -/
noncomputable def v_vCut_J1 (n : Nat) (s3 : (List Int) × Int) : Option ((List Int)) :=
  ckb (slb s3.2 (s3.1.length : Int) s3.1.length) (ckb (apok 1 (0 + (sub s3.1 s3.2.toNat s3.1.length).length)) (lt (IntKind.wrap .u8 s3.2) fun (x4 : Int) => ckb (apok 1 ((sub s3.1 s3.2.toNat s3.1.length).length + 1)) (some ((sub s3.1 s3.2.toNat s3.1.length) ++ [x4]))))
noncomputable def v_vCut (n : Nat) (a1 : (List Int)) (a2 : Int) : Option ((List Int)) :=
  br (decide ((a1.length : Int) < a2)) (v_vCut_J1 n (a1, (a1.length : Int))) (v_vCut_J1 n (a1, a2))

/-- s_l2At -/
noncomputable def s_l2At (n : Nat) (a1 : Int) : Option ((V4 Int)) :=
  lt (w64 (Int.tdiv a1 27)) fun (x2 : Int) => lt (w64 (Int.tdiv a1 9)) fun (x3 : Int) => lt (Int.tmod x3 3) fun (x4 : Int) => lt (w64 (Int.tdiv a1 3)) fun (x5 : Int) => lt (Int.tmod x5 3) fun (x6 : Int) => lt (Int.tmod a1 3) fun (x7 : Int) => lt (⟨x2, x4, x6, x7⟩ : (V4 Int)) fun (x8 : (V4 Int)) => some x8

/-- s_l2Number -/
noncomputable def s_l2Number (n : Nat) (a1 : (V4 Int)) : Option (Int) :=
  lt (w64 (27 * a1.x0)) fun (x2 : Int) => lt (w64 (9 * a1.x1)) fun (x3 : Int) => lt (w64 (x2 + x3)) fun (x4 : Int) => lt (w64 (3 * a1.x2)) fun (x5 : Int) => lt (w64 (x4 + x5)) fun (x6 : Int) => lt (w64 (x6 + a1.x3)) fun (x7 : Int) => some x7

/-- s_l2Less -/
noncomputable def s_l2Less (n : Nat) (a1 : (V4 Int)) (a2 : (V4 Int)) : Option (Bool) :=
  ob (s_l2Number n a1) fun (r3 : Int) => ob (s_l2Number n a2) fun (r4 : Int) => some (decide (r3 < r4))

/-- s_l2Own -/
noncomputable def s_l2Own (n : Nat) (a1 : (List (V4 Int))) : Option ((List (V4 Int))) :=
  ckb (apok 32 (0 + a1.length)) (some a1)

/-- s_l2Put -/
noncomputable def s_l2Put_L1 (n : Nat) (go3 : (List (V4 Int)) × Int × (V4 Int) → Option ((List (V4 Int)))) (s4 : (List (V4 Int)) × Int × (V4 Int)) : Option ((List (V4 Int))) :=
  ob (br (decide (s4.2.1 < (s4.1.length : Int))) (ckb (inb s4.2.1 s4.1.length) (ob (s_l2Less n (gl (⟨0, 0, 0, 0⟩ : (V4 Int)) s4.1 s4.2.1.toNat) s4.2.2) fun (r5 : Bool) => some r5)) (some false)) fun (x6 : Bool) => br x6 (lt (w64 (s4.2.1 + 1)) fun (x7 : Int) => go3 (s4.1, x7, s4.2.2)) (ob (br (decide (s4.2.1 < (s4.1.length : Int))) (ckb (inb s4.2.1 s4.1.length) (some (eqd (gl (⟨0, 0, 0, 0⟩ : (V4 Int)) s4.1 s4.2.1.toNat) s4.2.2))) (some false)) fun (x8 : Bool) => br x8 (ob (s_l2Own n s4.1) fun (r9 : (List (V4 Int))) => some r9) (ckb (slb 0 s4.2.1 s4.1.length) (ob (s_l2Own n (sub s4.1 0 s4.2.1.toNat)) fun (r10 : (List (V4 Int))) => ckb (apok 32 (r10.length + 1)) (ckb (slb s4.2.1 (s4.1.length : Int) s4.1.length) (ckb (apok 32 ((r10 ++ [s4.2.2]).length + (sub s4.1 s4.2.1.toNat s4.1.length).length)) (some ((r10 ++ [s4.2.2]) ++ (sub s4.1 s4.2.1.toNat s4.1.length))))))))
noncomputable def s_l2Put (n : Nat) (a1 : (List (V4 Int))) (a2 : (V4 Int)) : Option ((List (V4 Int))) :=
  fx (s_l2Put_L1 n) n (a1, 0, a2)

/-- s_Cur_one'p -/
noncomputable def s_Cur_one'p (n : Nat) (a1 : Int) (a2 : ((List Int) × (Int × Int))) : Option (Bool × ((List Int) × (Int × Int))) :=
  ob (s_Cur_pick'p n a1 a2) fun (r3 : Int × ((List Int) × (Int × Int))) => some ((decide (r3.1 = 0)), r3.2)

/-- s_Cur_hand'p -/
noncomputable def s_Cur_hand'p_L1 (n : Nat) (go4 : Int × Int × ((List Int) × (Int × Int)) × (List (V4 Int)) → Option (((List Int) × (Int × Int)) × (List (V4 Int)))) (go8 : Int × Int × Int × ((List Int) × (Int × Int)) × (List (V4 Int)) × (V4 Int) → Option (((List Int) × (Int × Int)) × (List (V4 Int)))) (s9 : Int × Int × Int × ((List Int) × (Int × Int)) × (List (V4 Int)) × (V4 Int)) : Option (((List Int) × (Int × Int)) × (List (V4 Int))) :=
  br (decide (s9.2.2.1 < 4)) (ckb (inb s9.2.2.1 4) (lt (V4.set s9.2.2.2.2.2 s9.2.2.1.toNat 1) fun (x10 : (V4 Int)) => lt (w64 (s9.2.2.1 + 1)) fun (x11 : Int) => go8 (s9.1, s9.2.1, x11, s9.2.2.2.1, s9.2.2.2.2.1, x10))) (ob (s_l2Put n s9.2.2.2.2.1 s9.2.2.2.2.2) fun (r12 : (List (V4 Int))) => lt (w64 (s9.2.1 - 1)) fun (x13 : Int) => go4 (s9.1, x13, s9.2.2.2.1, r12))
noncomputable def s_Cur_hand'p_J2 (n : Nat) (s14 : Bool × ((List Int) × (Int × Int)) × (List (V4 Int))) : Option (((List Int) × (Int × Int)) × (List (V4 Int))) :=
  br s14.1 (ob (s_Cur_pick'p n (s14.2.2.length : Int) s14.2.1) fun (r15 : Int × ((List Int) × (Int × Int))) => ob (s_Cur_pick'p n 3 r15.2) fun (r16 : Int × ((List Int) × (Int × Int))) => br (decide (r16.1 = 0)) (ob (s_Cur_pick'p n 4 r16.2) fun (r17 : Int × ((List Int) × (Int × Int))) => ob (s_Cur_among'pl n [(-1), 3] r17.2) fun (r18 : Int × ((List Int) × (Int × Int))) => ckb (inb r15.1 s14.2.2.length) (ckb (inb r17.1 4) (lt (List.set s14.2.2 r15.1.toNat (V4.set (gl (⟨0, 0, 0, 0⟩ : (V4 Int)) s14.2.2 r15.1.toNat) r17.1.toNat r18.1)) fun (x19 : (List (V4 Int))) => some (r18.2, x19)))) (br (decide (r16.1 = 1)) (ckb (inb r15.1 s14.2.2.length) (ckb (apok 32 (s14.2.2.length + 1)) (some (r16.2, (s14.2.2 ++ [(gl (⟨0, 0, 0, 0⟩ : (V4 Int)) s14.2.2 r15.1.toNat)]))))) (ob (s_Cur_pick'p n 81 r16.2) fun (r20 : Int × ((List Int) × (Int × Int))) => ob (s_l2At n r20.1) fun (r21 : (V4 Int)) => ckb (inb r15.1 s14.2.2.length) (lt (List.set s14.2.2 r15.1.toNat r21) fun (x22 : (List (V4 Int))) => some (r20.2, x22))))) (some (s14.2.1, s14.2.2))
noncomputable def s_Cur_hand'p_L3 (n : Nat) (go4 : Int × Int × ((List Int) × (Int × Int)) × (List (V4 Int)) → Option (((List Int) × (Int × Int)) × (List (V4 Int)))) (s5 : Int × Int × ((List Int) × (Int × Int)) × (List (V4 Int))) : Option (((List Int) × (Int × Int)) × (List (V4 Int))) :=
  br (decide (0 < s5.2.1)) (ob (s_Cur_pick'p n 81 s5.2.2.1) fun (r6 : Int × ((List Int) × (Int × Int))) => ob (s_l2At n r6.1) fun (r7 : (V4 Int)) => fx (s_Cur_hand'p_L1 n go4) n (s5.1, s5.2.1, s5.1, r6.2, s5.2.2.2, r7)) (br (decide (0 < (s5.2.2.2.length : Int))) (ob (s_Cur_one'p n 24 s5.2.2.1) fun (r23 : Bool × ((List Int) × (Int × Int))) => s_Cur_hand'p_J2 n (r23.1, r23.2, s5.2.2.2)) (s_Cur_hand'p_J2 n (false, s5.2.2.1, s5.2.2.2)))
noncomputable def s_Cur_hand'p (n : Nat) (a1 : ((List Int) × (Int × Int))) : Option (((List Int) × (Int × Int)) × (List (V4 Int))) :=
  ob (s_Cur_among'pl n [4, 3, 4, 2] a1) fun (r2 : Int × ((List Int) × (Int × Int))) => ob (s_Cur_among'pl n [6, 9, 4, 12, 3, 2, 1, 0, 20, 26, 27, 28] r2.2) fun (r3 : Int × ((List Int) × (Int × Int))) => fx (s_Cur_hand'p_L3 n) n (r2.1, r3.1, r3.2, ([] : List (V4 Int)))

/-- s_l2Hand -/
noncomputable def s_l2Hand_L1 (n : Nat) (go2 : (List (V4 Int)) × Int → Option (Bool)) (s3 : (List (V4 Int)) × Int) : Option (Bool) :=
  ob (br (decide (s3.2 < (s3.1.length : Int))) (some (decide (s3.2 ≤ 27))) (some false)) fun (x4 : Bool) => br x4 (ckb (inb s3.2 s3.1.length) (ob (s_l2Card n (gl (⟨0, 0, 0, 0⟩ : (V4 Int)) s3.1 s3.2.toNat)) fun (r5 : Bool) => ob (br (! r5) (some true) (ob (br (decide (0 < s3.2)) (lt (w64 (s3.2 - 1)) fun (x6 : Int) => ckb (inb x6 s3.1.length) (ckb (inb s3.2 s3.1.length) (ob (s_l2Less n (gl (⟨0, 0, 0, 0⟩ : (V4 Int)) s3.1 x6.toNat) (gl (⟨0, 0, 0, 0⟩ : (V4 Int)) s3.1 s3.2.toNat)) fun (r7 : Bool) => some (! r7)))) (some false)) fun (x8 : Bool) => some x8)) fun (x9 : Bool) => br x9 (some false) (lt (w64 (s3.2 + 1)) fun (x10 : Int) => go2 (s3.1, x10)))) (some (decide ((s3.1.length : Int) ≤ 27)))
noncomputable def s_l2Hand (n : Nat) (a1 : (List (V4 Int))) : Option (Bool) :=
  fx (s_l2Hand_L1 n) n (a1, 0)

/-- s_l2Third -/
noncomputable def s_l2Third_L1 (n : Nat) (go4 : Int × (V4 Int) × (V4 Int) × (V4 Int) × (V4 Int) → Option ((V4 Int))) (s5 : Int × (V4 Int) × (V4 Int) × (V4 Int) × (V4 Int)) : Option ((V4 Int)) :=
  br (decide (s5.1 < 4)) (ckb (inb s5.1 4) (lt (w64 (6 - (V4.get s5.2.1 s5.1.toNat))) fun (x6 : Int) => ckb (inb s5.1 4) (lt (w64 (x6 - (V4.get s5.2.2.1 s5.1.toNat))) fun (x7 : Int) => lt (Int.tmod x7 3) fun (x8 : Int) => ckb (inb s5.1 4) (lt (V4.set s5.2.2.2.2 s5.1.toNat x8) fun (x9 : (V4 Int)) => lt (w64 (s5.1 + 1)) fun (x10 : Int) => go4 (x10, s5.2.1, s5.2.2.1, s5.2.2.2.1, x9))))) (some s5.2.2.2.2)
noncomputable def s_l2Third (n : Nat) (a1 : (V4 Int)) (a2 : (V4 Int)) : Option ((V4 Int)) :=
  lt (⟨0, 0, 0, 0⟩ : (V4 Int)) fun (x3 : (V4 Int)) => fx (s_l2Third_L1 n) n (0, a1, a2, (⟨0, 0, 0, 0⟩ : (V4 Int)), x3)

/-- s_Cur_dense7'p -/
noncomputable def s_Cur_dense7'p_J1 (n : Nat) (go6 : Int × ((List Int) × (Int × Int)) × (List (V4 Int)) → Option (((List Int) × (Int × Int)) × (List (V4 Int)))) (s12 : Int × ((List Int) × (Int × Int)) × (List (V4 Int)) × (V4 Int) × (V4 Int)) : Option (((List Int) × (Int × Int)) × (List (V4 Int))) :=
  ob (br (!eqd s12.2.2.2.1 s12.2.2.2.2) (some (decide ((s12.2.2.1.length : Int) < 13))) (some false)) fun (x13 : Bool) => br x13 (ob (s_l2Put n s12.2.2.1 s12.2.2.2.1) fun (r14 : (List (V4 Int))) => ob (s_l2Put n r14 s12.2.2.2.2) fun (r15 : (List (V4 Int))) => ob (s_l2Third n s12.2.2.2.1 s12.2.2.2.2) fun (r16 : (V4 Int)) => ob (s_l2Put n r15 r16) fun (r17 : (List (V4 Int))) => lt (w64 (s12.1 - 1)) fun (x18 : Int) => go6 (x18, s12.2.1, r17)) (lt (w64 (s12.1 - 1)) fun (x19 : Int) => go6 (x19, s12.2.1, s12.2.2.1))
noncomputable def s_Cur_dense7'p_J2 (n : Nat) (go6 : Int × ((List Int) × (Int × Int)) × (List (V4 Int)) → Option (((List Int) × (Int × Int)) × (List (V4 Int)))) (s20 : Int × Bool × ((List Int) × (Int × Int)) × (List (V4 Int)) × (V4 Int) × (V4 Int)) : Option (((List Int) × (Int × Int)) × (List (V4 Int))) :=
  br s20.2.1 (ob (s_Cur_pick'p n (s20.2.2.2.1.length : Int) s20.2.2.1) fun (r21 : Int × ((List Int) × (Int × Int))) => ckb (inb r21.1 s20.2.2.2.1.length) (s_Cur_dense7'p_J1 n go6 (s20.1, r21.2, s20.2.2.2.1, (gl (⟨0, 0, 0, 0⟩ : (V4 Int)) s20.2.2.2.1 r21.1.toNat), s20.2.2.2.2.2))) (s_Cur_dense7'p_J1 n go6 (s20.1, s20.2.2.1, s20.2.2.2.1, s20.2.2.2.2.1, s20.2.2.2.2.2))
noncomputable def s_Cur_dense7'p_L3 (n : Nat) (go6 : Int × ((List Int) × (Int × Int)) × (List (V4 Int)) → Option (((List Int) × (Int × Int)) × (List (V4 Int)))) (s7 : Int × ((List Int) × (Int × Int)) × (List (V4 Int))) : Option (((List Int) × (Int × Int)) × (List (V4 Int))) :=
  br (decide (0 < s7.1)) (ob (s_Cur_pick'p n 81 s7.2.1) fun (r8 : Int × ((List Int) × (Int × Int))) => ob (s_l2At n r8.1) fun (r9 : (V4 Int)) => ob (s_Cur_pick'p n 81 r8.2) fun (r10 : Int × ((List Int) × (Int × Int))) => ob (s_l2At n r10.1) fun (r11 : (V4 Int)) => br (decide (1 < (s7.2.2.length : Int))) (ob (s_Cur_one'p n 2 r10.2) fun (r22 : Bool × ((List Int) × (Int × Int))) => s_Cur_dense7'p_J2 n go6 (s7.1, r22.1, r22.2, s7.2.2, r9, r11)) (s_Cur_dense7'p_J2 n go6 (s7.1, false, r10.2, s7.2.2, r9, r11))) (some (s7.2.1, s7.2.2))
noncomputable def s_Cur_dense7'p_J4 (n : Nat) (s4 : Bool × ((List Int) × (Int × Int)) × (List (V4 Int))) : Option (((List Int) × (Int × Int)) × (List (V4 Int))) :=
  br s4.1 (some (s4.2.1, s4.2.2)) (ob (s_Cur_among'pl n [2, 3, 4, 5, 1] s4.2.1) fun (r5 : Int × ((List Int) × (Int × Int))) => fx (s_Cur_dense7'p_L3 n) n (r5.1, r5.2, ([] : List (V4 Int))))
noncomputable def s_Cur_dense7'p (n : Nat) (a1 : ((List Int) × (Int × Int))) : Option (((List Int) × (Int × Int)) × (List (V4 Int))) :=
  ob (s_Cur_hand'p n a1) fun (r2 : ((List Int) × (Int × Int)) × (List (V4 Int))) => ob (s_l2Hand n r2.2) fun (r3 : Bool) => br (! r3) (s_Cur_dense7'p_J4 n (true, r2.1, r2.2)) (ob (s_Cur_one'p n 4 r2.1) fun (r23 : Bool × ((List Int) × (Int × Int))) => s_Cur_dense7'p_J4 n (r23.1, r23.2, r2.2))

/-- i_IsHand -/
noncomputable def i_IsHand_L1 (n : Nat) (go2 : (List (V4 Int)) × (List (V4 Int)) × Int × Int → Option (Bool)) (s3 : (List (V4 Int)) × (List (V4 Int)) × Int × Int) : Option (Bool) :=
  br (decide (s3.2.2.2 < s3.2.2.1)) (ckb (inb s3.2.2.2 s3.2.1.length) (ob (i_IsCard n (gl (⟨0, 0, 0, 0⟩ : (V4 Int)) s3.2.1 s3.2.2.2.toNat)) fun (r4 : Bool) => ob (br (! r4) (some true) (ob (br (decide (0 < s3.2.2.2)) (lt (w64 (s3.2.2.2 - 1)) fun (x5 : Int) => ckb (inb x5 s3.1.length) (ob (i_number n (gl (⟨0, 0, 0, 0⟩ : (V4 Int)) s3.1 x5.toNat)) fun (r6 : Int) => ob (i_number n (gl (⟨0, 0, 0, 0⟩ : (V4 Int)) s3.2.1 s3.2.2.2.toNat)) fun (r7 : Int) => some (decide (r7 ≤ r6)))) (some false)) fun (x8 : Bool) => some x8)) fun (x9 : Bool) => br x9 (some false) (lt (w64 (s3.2.2.2 + 1)) fun (x10 : Int) => go2 (s3.1, s3.2.1, s3.2.2.1, x10)))) (some (decide ((s3.1.length : Int) ≤ 27)))
noncomputable def i_IsHand (n : Nat) (a1 : (List (V4 Int))) : Option (Bool) :=
  fx (i_IsHand_L1 n) n (a1, a1, (a1.length : Int), 0)

/-- i_card -/
noncomputable def i_card (n : Nat) (a1 : Int) : Option ((V4 Int)) :=
  lt (w64 (Int.tdiv a1 27)) fun (x2 : Int) => lt (w64 (Int.tdiv a1 9)) fun (x3 : Int) => lt (Int.tmod x3 3) fun (x4 : Int) => lt (w64 (Int.tdiv a1 3)) fun (x5 : Int) => lt (Int.tmod x5 3) fun (x6 : Int) => lt (Int.tmod a1 3) fun (x7 : Int) => lt (⟨x2, x4, x6, x7⟩ : (V4 Int)) fun (x8 : (V4 Int)) => some x8

/-- slices_Index_SA4_A4_ -/
noncomputable def slices_Index_SA4_A4__L1 (n : Nat) (go3 : (List (V4 Int)) × Int × Int × (V4 Int) → Option (Int)) (s4 : (List (V4 Int)) × Int × Int × (V4 Int)) : Option (Int) :=
  br (decide (s4.2.2.1 < s4.2.1)) (ckb (inb s4.2.2.1 s4.1.length) (br (eqd s4.2.2.2 (gl (⟨0, 0, 0, 0⟩ : (V4 Int)) s4.1 s4.2.2.1.toNat)) (some s4.2.2.1) (lt (w64 (s4.2.2.1 + 1)) fun (x5 : Int) => go3 (s4.1, s4.2.1, x5, s4.2.2.2)))) (some (-1))
noncomputable def slices_Index_SA4_A4_ (n : Nat) (a1 : (List (V4 Int))) (a2 : (V4 Int)) : Option (Int) :=
  fx (slices_Index_SA4_A4__L1 n) n (a1, (a1.length : Int), 0, a2)

/-- slices_Contains_SA4_A4_ -/
noncomputable def slices_Contains_SA4_A4_ (n : Nat) (a1 : (List (V4 Int))) (a2 : (V4 Int)) : Option (Bool) :=
  ob (slices_Index_SA4_A4_ n a1 a2) fun (r3 : Int) => some (decide (0 ≤ r3))

/-- i_has -/
noncomputable def i_has (n : Nat) (a1 : (List (V4 Int))) (a2 : (V4 Int)) : Option (Bool) :=
  ob (slices_Contains_SA4_A4_ n a1 a2) fun (r3 : Bool) => some r3

/-- i_third -/
noncomputable def i_third_L1 (n : Nat) (go4 : Int × (V4 Int) × (V4 Int) × (V4 Int) × (V4 Int) → Option ((V4 Int))) (s5 : Int × (V4 Int) × (V4 Int) × (V4 Int) × (V4 Int)) : Option ((V4 Int)) :=
  br (decide (s5.1 < 4)) (ckb (inb s5.1 4) (lt (w64 (6 - (V4.get s5.2.1 s5.1.toNat))) fun (x6 : Int) => ckb (inb s5.1 4) (lt (w64 (x6 - (V4.get s5.2.2.1 s5.1.toNat))) fun (x7 : Int) => lt (Int.tmod x7 3) fun (x8 : Int) => ckb (inb s5.1 4) (lt (V4.set s5.2.2.2.2 s5.1.toNat x8) fun (x9 : (V4 Int)) => lt (w64 (s5.1 + 1)) fun (x10 : Int) => go4 (x10, s5.2.1, s5.2.2.1, s5.2.2.2.1, x9))))) (some s5.2.2.2.2)
noncomputable def i_third (n : Nat) (a1 : (V4 Int)) (a2 : (V4 Int)) : Option ((V4 Int)) :=
  lt (⟨0, 0, 0, 0⟩ : (V4 Int)) fun (x3 : (V4 Int)) => fx (i_third_L1 n) n (0, a1, a2, (⟨0, 0, 0, 0⟩ : (V4 Int)), x3)

/-- i_pairsFor -/
noncomputable def i_pairsFor_L1 (n : Nat) (go3 : (List (V4 Int)) × (List (V4 Int)) × Int × Int × (V4 Int) × (List (V2 Int)) → Option ((List (V2 Int)))) (go6 : (List (V4 Int)) × Int × Int × (List (V4 Int)) × Int × Int × (V4 Int) × (List (V2 Int)) × (V4 Int) → Option ((List (V2 Int)))) (s7 : (List (V4 Int)) × Int × Int × (List (V4 Int)) × Int × Int × (V4 Int) × (List (V2 Int)) × (V4 Int)) : Option ((List (V2 Int))) :=
  br (decide (s7.2.2.1 < (s7.1.length : Int))) (ob (br (!eqd s7.2.2.2.2.2.2.2.2 s7.2.2.2.2.2.2.1) (ckb (inb s7.2.2.1 s7.1.length) (some (!eqd (gl (⟨0, 0, 0, 0⟩ : (V4 Int)) s7.1 s7.2.2.1.toNat) s7.2.2.2.2.2.2.1))) (some false)) fun (x8 : Bool) => ob (br x8 (ckb (inb s7.2.2.1 s7.1.length) (ob (i_third n s7.2.2.2.2.2.2.2.2 (gl (⟨0, 0, 0, 0⟩ : (V4 Int)) s7.1 s7.2.2.1.toNat)) fun (r9 : (V4 Int)) => some (eqd r9 s7.2.2.2.2.2.2.1))) (some false)) fun (x10 : Bool) => br x10 (lt (⟨s7.2.1, s7.2.2.1⟩ : (V2 Int)) fun (x11 : (V2 Int)) => ckb (apok 16 (s7.2.2.2.2.2.2.2.1.length + 1)) (lt (w64 (s7.2.2.1 + 1)) fun (x12 : Int) => go6 (s7.1, s7.2.1, x12, s7.2.2.2.1, s7.2.2.2.2.1, s7.2.2.2.2.2.1, s7.2.2.2.2.2.2.1, (s7.2.2.2.2.2.2.2.1 ++ [x11]), s7.2.2.2.2.2.2.2.2))) (lt (w64 (s7.2.2.1 + 1)) fun (x13 : Int) => go6 (s7.1, s7.2.1, x13, s7.2.2.2.1, s7.2.2.2.2.1, s7.2.2.2.2.2.1, s7.2.2.2.2.2.2.1, s7.2.2.2.2.2.2.2.1, s7.2.2.2.2.2.2.2.2))) (lt (w64 (s7.2.2.2.2.2.1 + 1)) fun (x14 : Int) => go3 (s7.1, s7.2.2.2.1, s7.2.2.2.2.1, x14, s7.2.2.2.2.2.2.1, s7.2.2.2.2.2.2.2.1))
noncomputable def i_pairsFor_L2 (n : Nat) (go3 : (List (V4 Int)) × (List (V4 Int)) × Int × Int × (V4 Int) × (List (V2 Int)) → Option ((List (V2 Int)))) (s4 : (List (V4 Int)) × (List (V4 Int)) × Int × Int × (V4 Int) × (List (V2 Int))) : Option ((List (V2 Int))) :=
  br (decide (s4.2.2.2.1 < s4.2.2.1)) (ckb (inb s4.2.2.2.1 s4.2.1.length) (lt (w64 (s4.2.2.2.1 + 1)) fun (x5 : Int) => fx (i_pairsFor_L1 n go3) n (s4.1, s4.2.2.2.1, x5, s4.2.1, s4.2.2.1, s4.2.2.2.1, s4.2.2.2.2.1, s4.2.2.2.2.2, (gl (⟨0, 0, 0, 0⟩ : (V4 Int)) s4.2.1 s4.2.2.2.1.toNat)))) (some s4.2.2.2.2.2)
noncomputable def i_pairsFor (n : Nat) (a1 : (List (V4 Int))) (a2 : (V4 Int)) : Option ((List (V2 Int))) :=
  fx (i_pairsFor_L2 n) n (a1, a1, (a1.length : Int), 0, a2, ([] : List (V2 Int)))

/-- i_linesIn -/
noncomputable def i_linesIn_L1 (n : Nat) (go9 : (List (V4 Int)) × (List (V4 Int)) × Int × Int × (VL 81 Int) × (List (V3 Int)) → Option ((List (V3 Int)))) (go12 : (List (V4 Int)) × Int × Int × (List (V4 Int)) × Int × Int × (VL 81 Int) × (List (V3 Int)) × (V4 Int) → Option ((List (V3 Int)))) (s13 : (List (V4 Int)) × Int × Int × (List (V4 Int)) × Int × Int × (VL 81 Int) × (List (V3 Int)) × (V4 Int)) : Option ((List (V3 Int))) :=
  br (decide (s13.2.2.1 < (s13.1.length : Int))) (ckb (inb s13.2.2.1 s13.1.length) (ob (i_third n s13.2.2.2.2.2.2.2.2 (gl (⟨0, 0, 0, 0⟩ : (V4 Int)) s13.1 s13.2.2.1.toNat)) fun (r14 : (V4 Int)) => ob (i_number n r14) fun (r15 : Int) => ckb (inb r15 81) (lt (w64 ((VL.get 0 s13.2.2.2.2.2.2.1 r15.toNat) - 1)) fun (x16 : Int) => br (decide (s13.2.2.1 < x16)) (lt (⟨s13.2.1, s13.2.2.1, x16⟩ : (V3 Int)) fun (x17 : (V3 Int)) => ckb (apok 24 (s13.2.2.2.2.2.2.2.1.length + 1)) (lt (w64 (s13.2.2.1 + 1)) fun (x18 : Int) => go12 (s13.1, s13.2.1, x18, s13.2.2.2.1, s13.2.2.2.2.1, s13.2.2.2.2.2.1, s13.2.2.2.2.2.2.1, (s13.2.2.2.2.2.2.2.1 ++ [x17]), s13.2.2.2.2.2.2.2.2))) (lt (w64 (s13.2.2.1 + 1)) fun (x19 : Int) => go12 (s13.1, s13.2.1, x19, s13.2.2.2.1, s13.2.2.2.2.1, s13.2.2.2.2.2.1, s13.2.2.2.2.2.2.1, s13.2.2.2.2.2.2.2.1, s13.2.2.2.2.2.2.2.2))))) (lt (w64 (s13.2.2.2.2.2.1 + 1)) fun (x20 : Int) => go9 (s13.1, s13.2.2.2.1, s13.2.2.2.2.1, x20, s13.2.2.2.2.2.2.1, s13.2.2.2.2.2.2.2.1))
noncomputable def i_linesIn_L2 (n : Nat) (go9 : (List (V4 Int)) × (List (V4 Int)) × Int × Int × (VL 81 Int) × (List (V3 Int)) → Option ((List (V3 Int)))) (s10 : (List (V4 Int)) × (List (V4 Int)) × Int × Int × (VL 81 Int) × (List (V3 Int))) : Option ((List (V3 Int))) :=
  br (decide (s10.2.2.2.1 < s10.2.2.1)) (ckb (inb s10.2.2.2.1 s10.2.1.length) (lt (w64 (s10.2.2.2.1 + 1)) fun (x11 : Int) => fx (i_linesIn_L1 n go9) n (s10.1, s10.2.2.2.1, x11, s10.2.1, s10.2.2.1, s10.2.2.2.1, s10.2.2.2.2.1, s10.2.2.2.2.2, (gl (⟨0, 0, 0, 0⟩ : (V4 Int)) s10.2.1 s10.2.2.2.1.toNat)))) (some s10.2.2.2.2.2)
noncomputable def i_linesIn_L3 (n : Nat) (go3 : (List (V4 Int)) × (List (V4 Int)) × Int × Int × (VL 81 Int) → Option ((List (V3 Int)))) (s4 : (List (V4 Int)) × (List (V4 Int)) × Int × Int × (VL 81 Int)) : Option ((List (V3 Int))) :=
  br (decide (s4.2.2.2.1 < s4.2.2.1)) (ckb (inb s4.2.2.2.1 s4.2.1.length) (ob (i_number n (gl (⟨0, 0, 0, 0⟩ : (V4 Int)) s4.2.1 s4.2.2.2.1.toNat)) fun (r5 : Int) => lt (w64 (s4.2.2.2.1 + 1)) fun (x6 : Int) => ckb (inb r5 81) (lt (VL.set s4.2.2.2.2 r5.toNat x6) fun (x7 : (VL 81 Int)) => lt (w64 (s4.2.2.2.1 + 1)) fun (x8 : Int) => go3 (s4.1, s4.2.1, s4.2.2.1, x8, x7)))) (fx (i_linesIn_L2 n) n (s4.1, s4.1, (s4.1.length : Int), 0, s4.2.2.2.2, ([] : List (V3 Int))))
noncomputable def i_linesIn (n : Nat) (a1 : (List (V4 Int))) : Option ((List (V3 Int))) :=
  lt (VL.rep 81 0) fun (x2 : (VL 81 Int)) => fx (i_linesIn_L3 n) n (a1, a1, (a1.length : Int), 0, x2)

/-- s_l2Place -/
noncomputable def s_l2Place_L1 (n : Nat) (go3 : (List (V4 Int)) × Int × (V4 Int) → Option (Int)) (s4 : (List (V4 Int)) × Int × (V4 Int)) : Option (Int) :=
  br (decide (s4.2.1 < (s4.1.length : Int))) (ckb (inb s4.2.1 s4.1.length) (br (eqd (gl (⟨0, 0, 0, 0⟩ : (V4 Int)) s4.1 s4.2.1.toNat) s4.2.2) (some s4.2.1) (lt (w64 (s4.2.1 + 1)) fun (x5 : Int) => go3 (s4.1, x5, s4.2.2)))) (some (-1))
noncomputable def s_l2Place (n : Nat) (a1 : (List (V4 Int))) (a2 : (V4 Int)) : Option (Int) :=
  fx (s_l2Place_L1 n) n (a1, 0, a2)

/-- s_l2Lines -/
noncomputable def s_l2Lines_L1 (n : Nat) (go2 : (List (V4 Int)) × Int × (List (V3 Int)) → Option ((List (V3 Int)))) (go5 : (List (V4 Int)) × Int × Int × (List (V3 Int)) → Option ((List (V3 Int)))) (s6 : (List (V4 Int)) × Int × Int × (List (V3 Int))) : Option ((List (V3 Int))) :=
  br (decide (s6.2.2.1 < (s6.1.length : Int))) (ckb (inb s6.2.1 s6.1.length) (ckb (inb s6.2.2.1 s6.1.length) (ob (s_l2Third n (gl (⟨0, 0, 0, 0⟩ : (V4 Int)) s6.1 s6.2.1.toNat) (gl (⟨0, 0, 0, 0⟩ : (V4 Int)) s6.1 s6.2.2.1.toNat)) fun (r7 : (V4 Int)) => ob (s_l2Place n s6.1 r7) fun (r8 : Int) => br (decide (s6.2.2.1 < r8)) (lt (⟨s6.2.1, s6.2.2.1, r8⟩ : (V3 Int)) fun (x9 : (V3 Int)) => ckb (apok 24 (s6.2.2.2.length + 1)) (lt (w64 (s6.2.2.1 + 1)) fun (x10 : Int) => go5 (s6.1, s6.2.1, x10, (s6.2.2.2 ++ [x9])))) (lt (w64 (s6.2.2.1 + 1)) fun (x11 : Int) => go5 (s6.1, s6.2.1, x11, s6.2.2.2))))) (lt (w64 (s6.2.1 + 1)) fun (x12 : Int) => go2 (s6.1, x12, s6.2.2.2))
noncomputable def s_l2Lines_L2 (n : Nat) (go2 : (List (V4 Int)) × Int × (List (V3 Int)) → Option ((List (V3 Int)))) (s3 : (List (V4 Int)) × Int × (List (V3 Int))) : Option ((List (V3 Int))) :=
  br (decide (s3.2.1 < (s3.1.length : Int))) (lt (w64 (s3.2.1 + 1)) fun (x4 : Int) => fx (s_l2Lines_L1 n go2) n (s3.1, s3.2.1, x4, s3.2.2)) (some s3.2.2)
noncomputable def s_l2Lines (n : Nat) (a1 : (List (V4 Int))) : Option ((List (V3 Int))) :=
  fx (s_l2Lines_L2 n) n (a1, 0, ([] : List (V3 Int)))

/-- s_l2Has -/
noncomputable def s_l2Has (n : Nat) (a1 : (List (V4 Int))) (a2 : (V4 Int)) : Option (Bool) :=
  ob (s_l2Place n a1 a2) fun (r3 : Int) => some (decide (0 ≤ r3))

/-- s_l2Line -/
noncomputable def s_l2Line (n : Nat) (a1 : (V4 Int)) (a2 : (V4 Int)) (a3 : (V4 Int)) : Option (Bool) :=
  ob (br (!eqd a1 a2) (ob (s_l2Third n a1 a2) fun (r4 : (V4 Int)) => some (eqd r4 a3)) (some false)) fun (x5 : Bool) => some x5

/-- s_l2Through -/
noncomputable def s_l2Through_L1 (n : Nat) (go3 : (List (V4 Int)) × Int × Int × (V4 Int) → Option (Int)) (go6 : (List (V4 Int)) × Int × Int × Int × (V4 Int) → Option (Int)) (s7 : (List (V4 Int)) × Int × Int × Int × (V4 Int)) : Option (Int) :=
  br (decide (s7.2.2.2.1 < (s7.1.length : Int))) (ckb (inb s7.2.2.1 s7.1.length) (ckb (inb s7.2.2.2.1 s7.1.length) (ob (s_l2Line n (gl (⟨0, 0, 0, 0⟩ : (V4 Int)) s7.1 s7.2.2.1.toNat) (gl (⟨0, 0, 0, 0⟩ : (V4 Int)) s7.1 s7.2.2.2.1.toNat) s7.2.2.2.2) fun (r8 : Bool) => br r8 (lt (w64 (s7.2.1 + 1)) fun (x9 : Int) => lt (w64 (s7.2.2.2.1 + 1)) fun (x10 : Int) => go6 (s7.1, x9, s7.2.2.1, x10, s7.2.2.2.2)) (lt (w64 (s7.2.2.2.1 + 1)) fun (x11 : Int) => go6 (s7.1, s7.2.1, s7.2.2.1, x11, s7.2.2.2.2))))) (lt (w64 (s7.2.2.1 + 1)) fun (x12 : Int) => go3 (s7.1, s7.2.1, x12, s7.2.2.2.2))
noncomputable def s_l2Through_L2 (n : Nat) (go3 : (List (V4 Int)) × Int × Int × (V4 Int) → Option (Int)) (s4 : (List (V4 Int)) × Int × Int × (V4 Int)) : Option (Int) :=
  br (decide (s4.2.2.1 < (s4.1.length : Int))) (lt (w64 (s4.2.2.1 + 1)) fun (x5 : Int) => fx (s_l2Through_L1 n go3) n (s4.1, s4.2.1, s4.2.2.1, x5, s4.2.2.2)) (some s4.2.1)
noncomputable def s_l2Through (n : Nat) (a1 : (List (V4 Int))) (a2 : (V4 Int)) : Option (Int) :=
  fx (s_l2Through_L2 n) n (a1, 0, 0, a2)

/-- s_DrawChanceLine -/
noncomputable def s_DrawChanceLine (n : Nat) (a1 : (List Int)) : Option ((List (V4 Int))) :=
  lt (a1, (0, 0)) fun (x2 : ((List Int) × (Int × Int))) => ob (s_Cur_dense7'p n x2) fun (r3 : ((List Int) × (Int × Int)) × (List (V4 Int))) => some r3.2

/-- i_LinesIn -/
noncomputable def i_LinesIn (n : Nat) (a1 : (List (V4 Int))) : Option (Bool × (List (V3 Int))) :=
  ob (i_IsHand n a1) fun (r2 : Bool) => br (! r2) (some (false, ([] : List (V3 Int)))) (ob (i_linesIn n a1) fun (r3 : (List (V3 Int))) => some (true, r3))

/-- v_vLess -/
noncomputable def v_vLess (n : Nat) (a1 : (V2 Int)) (a2 : (V2 Int)) : Option (Bool) :=
  lt (w64 (a1.x0 * a2.x1)) fun (x3 : Int) => lt (w64 (a2.x0 * a1.x1)) fun (x4 : Int) => some (decide (x3 < x4))

/-- s_l1Own -/
noncomputable def s_l1Own (n : Nat) (a1 : (List Int)) : Option ((List Int)) :=
  ckb (apok 8 (0 + a1.length)) (some a1)

/-- slices_Index_Sint_int_ -/
noncomputable def slices_Index_Sint_int__L1 (n : Nat) (go3 : (List Int) × Int × Int × Int → Option (Int)) (s4 : (List Int) × Int × Int × Int) : Option (Int) :=
  br (decide (s4.2.2.2 < s4.2.2.1)) (ckb (inb s4.2.2.2 s4.1.length) (br (decide (s4.2.1 = (gl 0 s4.1 s4.2.2.2.toNat))) (some s4.2.2.2) (lt (w64 (s4.2.2.2 + 1)) fun (x5 : Int) => go3 (s4.1, s4.2.1, s4.2.2.1, x5)))) (some (-1))
noncomputable def slices_Index_Sint_int_ (n : Nat) (a1 : (List Int)) (a2 : Int) : Option (Int) :=
  fx (slices_Index_Sint_int__L1 n) n (a1, a2, (a1.length : Int), 0)

/-- slices_Contains_Sint_int_ -/
noncomputable def slices_Contains_Sint_int_ (n : Nat) (a1 : (List Int)) (a2 : Int) : Option (Bool) :=
  ob (slices_Index_Sint_int_ n a1 a2) fun (r3 : Int) => some (decide (0 ≤ r3))

/-- i_ChanceLine -/
noncomputable def i_ChanceLine (n : Nat) (a1 : (List (V4 Int))) : Option ((V2 Int) × Bool) :=
  ob (i_IsHand n a1) fun (r2 : Bool) => ob (br (! r2) (some true) (some (decide ((a1.length : Int) < 3)))) fun (x3 : Bool) => br x3 (lt (⟨0, 0⟩ : (V2 Int)) fun (x4 : (V2 Int)) => some (x4, false)) (ob (i_linesIn n a1) fun (r5 : (List (V3 Int))) => ob (i_choose n (a1.length : Int) 3) fun (r6 : Int) => ob (i_fraction n (r5.length : Int) r6) fun (r7 : (V2 Int) × Bool) => some (r7.1, r7.2))

/-- s_ChanceLine -/
noncomputable def s_ChanceLine (n : Nat) (a1 : (List (V4 Int))) : Option ((V2 Int) × Bool) :=
  ob (s_l2Hand n a1) fun (r2 : Bool) => ob (br (! r2) (some true) (some (decide ((a1.length : Int) < 3)))) fun (x3 : Bool) => br x3 (lt (⟨0, 0⟩ : (V2 Int)) fun (x4 : (V2 Int)) => some (x4, false)) (ob (s_l2Lines n a1) fun (r5 : (List (V3 Int))) => ob (s_l9Choose n (a1.length : Int) 3) fun (r6 : Int) => ob (s_l9Cut n (r5.length : Int) r6) fun (r7 : (V2 Int)) => some (r7, true))

/-- s_DrawChanceKind -/
noncomputable def s_DrawChanceKind (n : Nat) (a1 : (List Int)) : Option (Int) :=
  lt (a1, (0, 0)) fun (x2 : ((List Int) × (Int × Int))) => ob (s_Cur_pick'p n 24 x2) fun (r3 : Int × ((List Int) × (Int × Int))) => lt (w64 (Int.tdiv r3.1 7)) fun (x4 : Int) => lt (w64 (4 + x4)) fun (x5 : Int) => ckb (slb 0 x5 7) (ob (s_Cur_among'pl n (sub [1, 2, 3, 4, 0, 5, (-1)] 0 (0 + (w64 (x5 - 0)).toNat)) r3.2) fun (r6 : Int × ((List Int) × (Int × Int))) => some r6.1)

/-- i_ChanceKind -/
noncomputable def i_ChanceKind (n : Nat) (a1 : Int) : Option ((V2 Int) × Bool) :=
  ob (i_within n a1 1 4) fun (r2 : Bool) => br (! r2) (lt (⟨0, 0⟩ : (V2 Int)) fun (x3 : (V2 Int)) => some (x3, false)) (ob (i_choose n 4 a1) fun (r4 : Int) => ckb (nneg a1) (lt (shlI .i64 r4 a1) fun (x5 : Int) => ob (i_fraction n x5 80) fun (r6 : (V2 Int) × Bool) => some (r6.1, r6.2)))

/-- s_ChanceKind -/
noncomputable def s_ChanceKind (n : Nat) (a1 : Int) : Option ((V2 Int) × Bool) :=
  ob (s_l1In n a1 1 4) fun (r2 : Bool) => br (! r2) (lt (⟨0, 0⟩ : (V2 Int)) fun (x3 : (V2 Int)) => some (x3, false)) (ob (s_l9Choose n 4 a1) fun (r4 : Int) => ckb (nneg a1) (lt (shlI .i64 r4 a1) fun (x5 : Int) => ob (s_l9Cut n x5 80) fun (r6 : (V2 Int)) => some (r6, true)))

/-- i_isBlocked -/
noncomputable def i_isBlocked (n : Nat) (a1 : (List (V4 Int))) (a2 : (V4 Int)) : Option (Bool) :=
  ob (i_pairsFor n a1 a2) fun (r3 : (List (V2 Int))) => some (decide (0 < (r3.length : Int)))

/-- i_outside -/
noncomputable def i_outside_L1 (n : Nat) (go3 : (List (V4 Int)) × Bool × Int × (List Int) → Option ((List Int))) (s4 : (List (V4 Int)) × Bool × Int × (List Int)) : Option ((List Int)) :=
  br (decide (s4.2.2.1 < 81)) (ob (i_card n s4.2.2.1) fun (r5 : (V4 Int)) => ob (i_has n s4.1 r5) fun (r6 : Bool) => ob (br (! r6) (ob (i_isBlocked n s4.1 r5) fun (r7 : Bool) => some (r7 == s4.2.1)) (some false)) fun (x8 : Bool) => br x8 (ckb (apok 8 (s4.2.2.2.length + 1)) (lt (w64 (s4.2.2.1 + 1)) fun (x9 : Int) => go3 (s4.1, s4.2.1, x9, (s4.2.2.2 ++ [s4.2.2.1])))) (lt (w64 (s4.2.2.1 + 1)) fun (x10 : Int) => go3 (s4.1, s4.2.1, x10, s4.2.2.2))) (some s4.2.2.2)
noncomputable def i_outside (n : Nat) (a1 : (List (V4 Int))) (a2 : Bool) : Option ((List Int)) :=
  fx (i_outside_L1 n) n (a1, a2, 0, ([] : List Int))

/-- i_ChanceBlocked -/
noncomputable def i_ChanceBlocked (n : Nat) (a1 : (List (V4 Int))) : Option ((V2 Int) × Bool) :=
  ob (i_IsHand n a1) fun (r2 : Bool) => br (! r2) (lt (⟨0, 0⟩ : (V2 Int)) fun (x3 : (V2 Int)) => some (x3, false)) (ob (i_outside n a1 true) fun (r4 : (List Int)) => lt (w64 (81 - (a1.length : Int))) fun (x5 : Int) => ob (i_fraction n (r4.length : Int) x5) fun (r6 : (V2 Int) × Bool) => some (r6.1, r6.2))

/-- s_l3Cards -/
noncomputable def s_l3Cards_L1 (n : Nat) (go3 : (List (V4 Int)) × Bool × Int × (List Int) → Option ((List Int))) (s4 : (List (V4 Int)) × Bool × Int × (List Int)) : Option ((List Int)) :=
  br (decide (s4.2.2.1 < 81)) (ob (s_l2At n s4.2.2.1) fun (r5 : (V4 Int)) => ob (s_l2Has n s4.1 r5) fun (r6 : Bool) => ob (br (! r6) (ob (s_l2Through n s4.1 r5) fun (r7 : Int) => some ((decide (0 < r7)) == s4.2.1)) (some false)) fun (x8 : Bool) => br x8 (ckb (apok 8 (s4.2.2.2.length + 1)) (lt (w64 (s4.2.2.1 + 1)) fun (x9 : Int) => go3 (s4.1, s4.2.1, x9, (s4.2.2.2 ++ [s4.2.2.1])))) (lt (w64 (s4.2.2.1 + 1)) fun (x10 : Int) => go3 (s4.1, s4.2.1, x10, s4.2.2.2))) (some s4.2.2.2)
noncomputable def s_l3Cards (n : Nat) (a1 : (List (V4 Int))) (a2 : Bool) : Option ((List Int)) :=
  fx (s_l3Cards_L1 n) n (a1, a2, 0, ([] : List Int))

/-- s_ChanceBlocked -/
noncomputable def s_ChanceBlocked (n : Nat) (a1 : (List (V4 Int))) : Option ((V2 Int) × Bool) :=
  ob (s_l2Hand n a1) fun (r2 : Bool) => br (! r2) (lt (⟨0, 0⟩ : (V2 Int)) fun (x3 : (V2 Int)) => some (x3, false)) (ob (s_l3Cards n a1 true) fun (r4 : (List Int)) => lt (w64 (81 - (a1.length : Int))) fun (x5 : Int) => ob (s_l9Cut n (r4.length : Int) x5) fun (r6 : (V2 Int)) => some (r6, true))

/-- s_Cur_pool3'p -/
noncomputable def s_Cur_pool3'p_J1 (n : Nat) (s3 : Bool × ((List Int) × (Int × Int)) × (List (V4 Int))) : Option (((List Int) × (Int × Int)) × (List (V4 Int))) :=
  br s3.1 (ob (s_Cur_pick'p n 4 s3.2.1) fun (r4 : Int × ((List Int) × (Int × Int))) => lt (w64 (15 - r4.1)) fun (x5 : Int) => ckb (slb 0 x5 s3.2.2.length) (ob (s_l2Own n (sub s3.2.2 0 (0 + (w64 (x5 - 0)).toNat))) fun (r6 : (List (V4 Int))) => some (r4.2, r6))) (some (s3.2.1, s3.2.2))
noncomputable def s_Cur_pool3'p (n : Nat) (a1 : ((List Int) × (Int × Int))) : Option (((List Int) × (Int × Int)) × (List (V4 Int))) :=
  ob (s_Cur_hand'p n a1) fun (r2 : ((List Int) × (Int × Int)) × (List (V4 Int))) => br (decide (15 < (r2.2.length : Int))) (ob (s_Cur_one'p n 8 r2.1) fun (r7 : Bool × ((List Int) × (Int × Int))) => s_Cur_pool3'p_J1 n ((! r7.1), r7.2, r2.2)) (s_Cur_pool3'p_J1 n (false, r2.1, r2.2))

/-- s_DrawChanceCap -/
noncomputable def s_DrawChanceCap (n : Nat) (a1 : (List Int)) : Option (Int × (List (V4 Int))) :=
  lt (a1, (0, 0)) fun (x2 : ((List Int) × (Int × Int))) => ob (s_Cur_pool3'p n x2) fun (r3 : ((List Int) × (Int × Int)) × (List (V4 Int))) => ob (s_Cur_pick'p n 24 r3.1) fun (r4 : Int × ((List Int) × (Int × Int))) => lt (w64 (Int.tdiv r4.1 11)) fun (x5 : Int) => lt (w64 (6 + x5)) fun (x6 : Int) => ckb (slb 0 x6 8) (ob (s_Cur_among'pl n (sub [3, 2, 4, (r3.2.length : Int), 0, 5, (-1), 16] 0 (0 + (w64 (x6 - 0)).toNat)) r4.2) fun (r7 : Int × ((List Int) × (Int × Int))) => some (r7.1, r3.2))

/-- i_isPool -/
noncomputable def i_isPool (n : Nat) (a1 : (List (V4 Int))) : Option (Bool) :=
  ob (i_IsHand n a1) fun (r2 : Bool) => ob (br r2 (some (decide ((a1.length : Int) ≤ 15))) (some false)) fun (x3 : Bool) => some x3

/-- i_CountCaps_1'lpp -/
noncomputable def i_CountCaps_1'lpp (n : Nat) (a1 : (List Int)) (a2 : Int) (a3 : Int) : Option (Int × Int) :=
  br (decide ((a1.length : Int) = a2)) (lt (w64 (a3 + 1)) fun (x4 : Int) => some (a2, x4)) (some (a2, a3))

/-- i_caps'll_i_CountCaps_1pp -/
noncomputable def i_caps'll_i_CountCaps_1pp_L1 (n : Nat) (go9 : (List (V4 Int)) × (List Int) × Int × Bool × (List Int) × Int × Int × Int × Int → Option (Int × Int)) (go12 : (List (V4 Int)) × (List Int) × Int × Bool × Int × (List Int) × Int × Int × (List Int) × Int × Int × Int × Int → Option (Int × Int)) (s13 : (List (V4 Int)) × (List Int) × Int × Bool × Int × (List Int) × Int × Int × (List Int) × Int × Int × Int × Int) : Option (Int × Int) :=
  br (decide (s13.2.2.2.2.2.2.2.2.2.2.1 < s13.2.2.2.2.2.2.2.2.2.1)) (ckb (inb s13.2.2.2.2.2.2.2.2.2.2.1 s13.2.2.2.2.2.2.2.2.1.length) (ob (br s13.2.2.2.1 (ckb (inb s13.2.2.2.2.1 s13.1.length) (ckb (inb (gl 0 s13.2.2.2.2.2.2.2.2.1 s13.2.2.2.2.2.2.2.2.2.2.1.toNat) s13.1.length) (ob (i_third n (gl (⟨0, 0, 0, 0⟩ : (V4 Int)) s13.1 s13.2.2.2.2.1.toNat) (gl (⟨0, 0, 0, 0⟩ : (V4 Int)) s13.1 (gl 0 s13.2.2.2.2.2.2.2.2.1 s13.2.2.2.2.2.2.2.2.2.2.1.toNat).toNat)) fun (r14 : (V4 Int)) => ckb (inb s13.2.2.1 s13.1.length) (some (!eqd r14 (gl (⟨0, 0, 0, 0⟩ : (V4 Int)) s13.1 s13.2.2.1.toNat)))))) (some false)) fun (x15 : Bool) => lt (w64 (s13.2.2.2.2.2.2.2.2.2.2.1 + 1)) fun (x16 : Int) => go12 (s13.1, s13.2.1, s13.2.2.1, x15, s13.2.2.2.2.1, s13.2.2.2.2.2.1, s13.2.2.2.2.2.2.1, s13.2.2.2.2.2.2.2.1, s13.2.2.2.2.2.2.2.2.1, s13.2.2.2.2.2.2.2.2.2.1, x16, s13.2.2.2.2.2.2.2.2.2.2.2.1, s13.2.2.2.2.2.2.2.2.2.2.2.2))) (lt (w64 (s13.2.2.2.2.2.2.2.1 + 1)) fun (x17 : Int) => go9 (s13.1, s13.2.1, s13.2.2.1, s13.2.2.2.1, s13.2.2.2.2.2.1, s13.2.2.2.2.2.2.1, x17, s13.2.2.2.2.2.2.2.2.2.2.2.1, s13.2.2.2.2.2.2.2.2.2.2.2.2))
noncomputable def i_caps'll_i_CountCaps_1pp_L2 (n : Nat) (go0 : (List (V4 Int)) × Int × (List Int) × Int × Int → Option (Int × Int)) (go7 : (List (V4 Int)) × (List Int) × Int × Int × Int → Option (Int × Int)) (go9 : (List (V4 Int)) × (List Int) × Int × Bool × (List Int) × Int × Int × Int × Int → Option (Int × Int)) (s10 : (List (V4 Int)) × (List Int) × Int × Bool × (List Int) × Int × Int × Int × Int) : Option (Int × Int) :=
  br (decide (s10.2.2.2.2.2.2.1 < s10.2.2.2.2.2.1)) (ckb (inb s10.2.2.2.2.2.2.1 s10.2.2.2.2.1.length) (lt (w64 (s10.2.2.2.2.2.2.1 + 1)) fun (x11 : Int) => ckb (slb x11 (s10.2.1.length : Int) s10.2.1.length) (fx (i_caps'll_i_CountCaps_1pp_L1 n go9) n (s10.1, s10.2.1, s10.2.2.1, s10.2.2.2.1, (gl 0 s10.2.2.2.2.1 s10.2.2.2.2.2.2.1.toNat), s10.2.2.2.2.1, s10.2.2.2.2.2.1, s10.2.2.2.2.2.2.1, (sub s10.2.1 x11.toNat s10.2.1.length), ((sub s10.2.1 x11.toNat s10.2.1.length).length : Int), 0, s10.2.2.2.2.2.2.2.1, s10.2.2.2.2.2.2.2.2)))) (br s10.2.2.2.1 (lt (w64 (s10.2.2.1 + 1)) fun (x18 : Int) => ckb (cand (slb 0 (s10.2.1.length : Int) s10.2.1.length) (decide ((s10.2.1.length : Int) = (s10.2.1.length : Int)))) (ckb (cand (apok 8 ((sub s10.2.1 0 s10.2.1.length).length + 1)) (cor (sub s10.2.1 0 s10.2.1.length).isEmpty true)) (ob (go0 (s10.1, x18, ((sub s10.2.1 0 s10.2.1.length) ++ [s10.2.2.1]), s10.2.2.2.2.2.2.2.1, s10.2.2.2.2.2.2.2.2)) fun (r19 : Int × Int) => lt (w64 (s10.2.2.1 + 1)) fun (x20 : Int) => go7 (s10.1, s10.2.1, x20, r19.1, r19.2)))) (lt (w64 (s10.2.2.1 + 1)) fun (x21 : Int) => go7 (s10.1, s10.2.1, x21, s10.2.2.2.2.2.2.2.1, s10.2.2.2.2.2.2.2.2)))
noncomputable def i_caps'll_i_CountCaps_1pp_L3 (n : Nat) (go0 : (List (V4 Int)) × Int × (List Int) × Int × Int → Option (Int × Int)) (go7 : (List (V4 Int)) × (List Int) × Int × Int × Int → Option (Int × Int)) (s8 : (List (V4 Int)) × (List Int) × Int × Int × Int) : Option (Int × Int) :=
  br (decide (s8.2.2.1 < (s8.1.length : Int))) (fx (i_caps'll_i_CountCaps_1pp_L2 n go0 go7) n (s8.1, s8.2.1, s8.2.2.1, true, s8.2.1, (s8.2.1.length : Int), 0, s8.2.2.2.1, s8.2.2.2.2)) (some (s8.2.2.2.1, s8.2.2.2.2))
noncomputable def i_caps'll_i_CountCaps_1pp_R (n : Nat) (go0 : (List (V4 Int)) × Int × (List Int) × Int × Int → Option (Int × Int)) (x : (List (V4 Int)) × Int × (List Int) × Int × Int) : Option (Int × Int) :=
  (fun (a1 : (List (V4 Int))) (a2 : Int) (a3 : (List Int)) (a4 : Int) (a5 : Int) => ob (i_CountCaps_1'lpp n a3 a4 a5) fun (r6 : Int × Int) => fx (i_caps'll_i_CountCaps_1pp_L3 n go0) n (a1, a3, a2, r6.1, r6.2)) x.1 x.2.1 x.2.2.1 x.2.2.2.1 x.2.2.2.2
noncomputable def i_caps'll_i_CountCaps_1pp (n : Nat) (a1 : (List (V4 Int))) (a2 : Int) (a3 : (List Int)) (a4 : Int) (a5 : Int) : Option (Int × Int) := fx (i_caps'll_i_CountCaps_1pp_R n) n (a1, a2, a3, a4, a5)

/-- i_CountCaps -/
noncomputable def i_CountCaps (n : Nat) (a1 : (List (V4 Int))) (a2 : Int) : Option (Int × Bool) :=
  ob (i_isPool n a1) fun (r3 : Bool) => ob (br (! r3) (some true) (ob (i_within n a2 0 15) fun (r4 : Bool) => some (! r4))) fun (x5 : Bool) => br x5 (some (0, false)) (ob (i_caps'll_i_CountCaps_1pp n a1 0 ([] : List Int) a2 0) fun (r6 : Int × Int) => some (r6.2, true))

/-- i_ChanceCap -/
noncomputable def i_ChanceCap (n : Nat) (a1 : (List (V4 Int))) (a2 : Int) : Option ((V2 Int) × Bool) :=
  ob (i_CountCaps n a1 a2) fun (r3 : Int × Bool) => ob (br (! r3.2) (some true) (some (decide ((a1.length : Int) < a2)))) fun (x4 : Bool) => br x4 (lt (⟨0, 0⟩ : (V2 Int)) fun (x5 : (V2 Int)) => some (x5, false)) (ob (i_choose n (a1.length : Int) a2) fun (r6 : Int) => ob (i_fraction n r3.1 r6) fun (r7 : (V2 Int) × Bool) => some (r7.1, r7.2))

/-- s_l3Pool -/
noncomputable def s_l3Pool (n : Nat) (a1 : (List (V4 Int))) : Option (Bool) :=
  ob (s_l2Hand n a1) fun (r2 : Bool) => ob (br r2 (some (decide ((a1.length : Int) ≤ 15))) (some false)) fun (x3 : Bool) => some x3

/-- s_l3Picked -/
noncomputable def s_l3Picked_L1 (n : Nat) (go3 : (List (V4 Int)) × (List Int) × Int × (List (V4 Int)) → Option ((List (V4 Int)))) (s4 : (List (V4 Int)) × (List Int) × Int × (List (V4 Int))) : Option ((List (V4 Int))) :=
  br (decide (s4.2.2.1 < (s4.2.1.length : Int))) (ckb (inb s4.2.2.1 s4.2.1.length) (ckb (inb (gl 0 s4.2.1 s4.2.2.1.toNat) s4.1.length) (ckb (apok 32 (s4.2.2.2.length + 1)) (lt (w64 (s4.2.2.1 + 1)) fun (x5 : Int) => go3 (s4.1, s4.2.1, x5, (s4.2.2.2 ++ [(gl (⟨0, 0, 0, 0⟩ : (V4 Int)) s4.1 (gl 0 s4.2.1 s4.2.2.1.toNat).toNat)])))))) (some s4.2.2.2)
noncomputable def s_l3Picked (n : Nat) (a1 : (List (V4 Int))) (a2 : (List Int)) : Option ((List (V4 Int))) :=
  fx (s_l3Picked_L1 n) n (a1, a2, 0, ([] : List (V4 Int)))

/-- s_l3Count -/
noncomputable def s_l3Count_L1 (n : Nat) (go0 : (List (V4 Int)) × (List Int) × Int × Int → Option (Int)) (go5 : (List (V4 Int)) × (List Int) × Int × Int × Int → Option (Int)) (s6 : (List (V4 Int)) × (List Int) × Int × Int × Int) : Option (Int) :=
  br (decide (s6.2.2.2.2 < (s6.1.length : Int))) (ob (s_l3Picked n s6.1 s6.2.1) fun (r7 : (List (V4 Int))) => ckb (inb s6.2.2.2.2 s6.1.length) (ob (s_l2Through n r7 (gl (⟨0, 0, 0, 0⟩ : (V4 Int)) s6.1 s6.2.2.2.2.toNat)) fun (r8 : Int) => br (decide (r8 = 0)) (ob (s_l1Own n s6.2.1) fun (r9 : (List Int)) => ckb (apok 8 (r9.length + 1)) (lt (w64 (s6.2.2.2.2 + 1)) fun (x10 : Int) => lt (w64 (s6.2.2.1 - 1)) fun (x11 : Int) => ob (go0 (s6.1, (r9 ++ [s6.2.2.2.2]), x10, x11)) fun (r12 : Int) => lt (w64 (s6.2.2.2.1 + r12)) fun (x13 : Int) => lt (w64 (s6.2.2.2.2 + 1)) fun (x14 : Int) => go5 (s6.1, s6.2.1, s6.2.2.1, x13, x14))) (lt (w64 (s6.2.2.2.2 + 1)) fun (x15 : Int) => go5 (s6.1, s6.2.1, s6.2.2.1, s6.2.2.2.1, x15)))) (some s6.2.2.2.1)
noncomputable def s_l3Count_R (n : Nat) (go0 : (List (V4 Int)) × (List Int) × Int × Int → Option (Int)) (x : (List (V4 Int)) × (List Int) × Int × Int) : Option (Int) :=
  (fun (a1 : (List (V4 Int))) (a2 : (List Int)) (a3 : Int) (a4 : Int) => br (decide (a4 = 0)) (some 1) (fx (s_l3Count_L1 n go0) n (a1, a2, a4, 0, a3))) x.1 x.2.1 x.2.2.1 x.2.2.2
noncomputable def s_l3Count (n : Nat) (a1 : (List (V4 Int))) (a2 : (List Int)) (a3 : Int) (a4 : Int) : Option (Int) := fx (s_l3Count_R n) n (a1, a2, a3, a4)

/-- s_ChanceCap -/
noncomputable def s_ChanceCap (n : Nat) (a1 : (List (V4 Int))) (a2 : Int) : Option ((V2 Int) × Bool) :=
  ob (s_l3Pool n a1) fun (r3 : Bool) => ob (br (! r3) (some true) (ob (s_l1In n a2 0 (a1.length : Int)) fun (r4 : Bool) => some (! r4))) fun (x5 : Bool) => br x5 (lt (⟨0, 0⟩ : (V2 Int)) fun (x6 : (V2 Int)) => some (x6, false)) (ob (s_l3Count n a1 ([] : List Int) 0 a2) fun (r7 : Int) => ob (s_l9Choose n (a1.length : Int) a2) fun (r8 : Int) => ob (s_l9Cut n r7 r8) fun (r9 : (V2 Int)) => some (r9, true))

/-- s_DrawChanceTrait -/
noncomputable def s_DrawChanceTrait (n : Nat) (a1 : (List Int)) : Option (Int × Int × (List (V4 Int))) :=
  lt (a1, (0, 0)) fun (x2 : ((List Int) × (Int × Int))) => ob (s_Cur_hand'p n x2) fun (r3 : ((List Int) × (Int × Int)) × (List (V4 Int))) => ob (s_Cur_pick'p n 4 r3.1) fun (r4 : Int × ((List Int) × (Int × Int))) => ob (s_Cur_pick'p n 24 r4.2) fun (r5 : Int × ((List Int) × (Int × Int))) => lt (w64 (Int.tdiv r5.1 23)) fun (x6 : Int) => lt (w64 (r4.1 - x6)) fun (x7 : Int) => ob (s_Cur_pick'p n 24 r5.2) fun (r8 : Int × ((List Int) × (Int × Int))) => lt (w64 (Int.tdiv r8.1 11)) fun (x9 : Int) => lt (w64 (3 + x9)) fun (x10 : Int) => ckb (slb 0 x10 5) (ob (s_Cur_among'pl n (sub [2, 3, 1, 0, 4] 0 (0 + (w64 (x10 - 0)).toNat)) r8.2) fun (r11 : Int × ((List Int) × (Int × Int))) => some (x7, r11.1, r3.2))

/-- i_ChanceTrait -/
noncomputable def i_ChanceTrait_L1 (n : Nat) (go17 : (List (V4 Int)) × Int × Int × (V3 Int) × Int × (V2 Int) → Option ((V2 Int) × Bool)) (s18 : (List (V4 Int)) × Int × Int × (V3 Int) × Int × (V2 Int)) : Option ((V2 Int) × Bool) :=
  br (decide (s18.2.2.2.2.1 < 3)) (ckb (inb s18.2.2.2.2.1 3) (ob (i_choose n (V3.get s18.2.2.2.1 s18.2.2.2.2.1.toNat) s18.2.1) fun (r19 : Int) => lt (w64 (s18.2.2.1 + r19)) fun (x20 : Int) => lt (w64 (s18.2.2.2.2.1 + 1)) fun (x21 : Int) => go17 (s18.1, s18.2.1, x20, s18.2.2.2.1, x21, s18.2.2.2.2.2))) (ob (i_choose n (s18.1.length : Int) s18.2.1) fun (r22 : Int) => ob (i_fraction n s18.2.2.1 r22) fun (r23 : (V2 Int) × Bool) => some (r23.1, r23.2))
noncomputable def i_ChanceTrait_L2 (n : Nat) (go12 : (List (V4 Int)) × Int × Int × Int × (List (V4 Int)) × Int × Int × (V2 Int) × (V3 Int) → Option ((V2 Int) × Bool)) (s13 : (List (V4 Int)) × Int × Int × Int × (List (V4 Int)) × Int × Int × (V2 Int) × (V3 Int)) : Option ((V2 Int) × Bool) :=
  br (decide (s13.2.2.2.2.2.2.1 < s13.2.2.2.2.2.1)) (ckb (inb s13.2.2.2.2.2.2.1 s13.2.2.2.2.1.length) (ckb (inb s13.2.1 4) (ckb (inb (V4.get (gl (⟨0, 0, 0, 0⟩ : (V4 Int)) s13.2.2.2.2.1 s13.2.2.2.2.2.2.1.toNat) s13.2.1.toNat) 3) (lt (w64 ((V3.get s13.2.2.2.2.2.2.2.2 (V4.get (gl (⟨0, 0, 0, 0⟩ : (V4 Int)) s13.2.2.2.2.1 s13.2.2.2.2.2.2.1.toNat) s13.2.1.toNat).toNat) + 1)) fun (x14 : Int) => ckb (inb (V4.get (gl (⟨0, 0, 0, 0⟩ : (V4 Int)) s13.2.2.2.2.1 s13.2.2.2.2.2.2.1.toNat) s13.2.1.toNat) 3) (lt (V3.set s13.2.2.2.2.2.2.2.2 (V4.get (gl (⟨0, 0, 0, 0⟩ : (V4 Int)) s13.2.2.2.2.1 s13.2.2.2.2.2.2.1.toNat) s13.2.1.toNat).toNat x14) fun (x15 : (V3 Int)) => lt (w64 (s13.2.2.2.2.2.2.1 + 1)) fun (x16 : Int) => go12 (s13.1, s13.2.1, s13.2.2.1, s13.2.2.2.1, s13.2.2.2.2.1, s13.2.2.2.2.2.1, x16, s13.2.2.2.2.2.2.2.1, x15)))))) (fx (i_ChanceTrait_L1 n) n (s13.1, s13.2.2.1, s13.2.2.2.1, s13.2.2.2.2.2.2.2.2, 0, s13.2.2.2.2.2.2.2.1))
noncomputable def i_ChanceTrait (n : Nat) (a1 : (List (V4 Int))) (a2 : Int) (a3 : Int) : Option ((V2 Int) × Bool) :=
  ob (i_IsHand n a1) fun (r4 : Bool) => ob (br (! r4) (some true) (ob (i_within n a2 0 3) fun (r5 : Bool) => some (! r5))) fun (x6 : Bool) => ob (br x6 (some true) (ob (i_within n a3 1 3) fun (r7 : Bool) => some (! r7))) fun (x8 : Bool) => ob (br x8 (some true) (some (decide ((a1.length : Int) < a3)))) fun (x9 : Bool) => br x9 (lt (⟨0, 0⟩ : (V2 Int)) fun (x10 : (V2 Int)) => some (x10, false)) (lt (⟨0, 0, 0⟩ : (V3 Int)) fun (x11 : (V3 Int)) => fx (i_ChanceTrait_L2 n) n (a1, a2, a3, 0, a1, (a1.length : Int), 0, (⟨0, 0⟩ : (V2 Int)), x11))

/-- s_l5Column -/
noncomputable def s_l5Column_L1 (n : Nat) (go4 : (List (V4 Int)) × Int × Int × (V3 Int) × (V3 Int) → Option ((V3 Int))) (s5 : (List (V4 Int)) × Int × Int × (V3 Int) × (V3 Int)) : Option ((V3 Int)) :=
  br (decide (s5.2.2.1 < (s5.1.length : Int))) (ckb (inb s5.2.2.1 s5.1.length) (ckb (inb s5.2.1 4) (ckb (inb (V4.get (gl (⟨0, 0, 0, 0⟩ : (V4 Int)) s5.1 s5.2.2.1.toNat) s5.2.1.toNat) 3) (lt (w64 ((V3.get s5.2.2.2.2 (V4.get (gl (⟨0, 0, 0, 0⟩ : (V4 Int)) s5.1 s5.2.2.1.toNat) s5.2.1.toNat).toNat) + 1)) fun (x6 : Int) => ckb (inb (V4.get (gl (⟨0, 0, 0, 0⟩ : (V4 Int)) s5.1 s5.2.2.1.toNat) s5.2.1.toNat) 3) (lt (V3.set s5.2.2.2.2 (V4.get (gl (⟨0, 0, 0, 0⟩ : (V4 Int)) s5.1 s5.2.2.1.toNat) s5.2.1.toNat).toNat x6) fun (x7 : (V3 Int)) => lt (w64 (s5.2.2.1 + 1)) fun (x8 : Int) => go4 (s5.1, s5.2.1, x8, s5.2.2.2.1, x7)))))) (some s5.2.2.2.2)
noncomputable def s_l5Column (n : Nat) (a1 : (List (V4 Int))) (a2 : Int) : Option ((V3 Int)) :=
  lt (⟨0, 0, 0⟩ : (V3 Int)) fun (x3 : (V3 Int)) => fx (s_l5Column_L1 n) n (a1, a2, 0, (⟨0, 0, 0⟩ : (V3 Int)), x3)

/-- s_ChanceTrait -/
noncomputable def s_ChanceTrait_L1 (n : Nat) (go12 : (List (V4 Int)) × Int × Int × Int × (V2 Int) × (V3 Int) → Option ((V2 Int) × Bool)) (s13 : (List (V4 Int)) × Int × Int × Int × (V2 Int) × (V3 Int)) : Option ((V2 Int) × Bool) :=
  br (decide (s13.2.2.2.1 < 3)) (ckb (inb s13.2.2.2.1 3) (br (decide (s13.2.1 ≤ (V3.get s13.2.2.2.2.2 s13.2.2.2.1.toNat))) (ckb (inb s13.2.2.2.1 3) (ob (s_l9Choose n (V3.get s13.2.2.2.2.2 s13.2.2.2.1.toNat) s13.2.1) fun (r14 : Int) => lt (w64 (s13.2.2.1 + r14)) fun (x15 : Int) => lt (w64 (s13.2.2.2.1 + 1)) fun (x16 : Int) => go12 (s13.1, s13.2.1, x15, x16, s13.2.2.2.2.1, s13.2.2.2.2.2))) (lt (w64 (s13.2.2.2.1 + 1)) fun (x17 : Int) => go12 (s13.1, s13.2.1, s13.2.2.1, x17, s13.2.2.2.2.1, s13.2.2.2.2.2)))) (ob (s_l9Choose n (s13.1.length : Int) s13.2.1) fun (r18 : Int) => ob (s_l9Cut n s13.2.2.1 r18) fun (r19 : (V2 Int)) => some (r19, true))
noncomputable def s_ChanceTrait (n : Nat) (a1 : (List (V4 Int))) (a2 : Int) (a3 : Int) : Option ((V2 Int) × Bool) :=
  ob (s_l2Hand n a1) fun (r4 : Bool) => ob (br (! r4) (some true) (ob (s_l1In n a2 0 3) fun (r5 : Bool) => some (! r5))) fun (x6 : Bool) => ob (br x6 (some true) (ob (s_l1In n a3 1 3) fun (r7 : Bool) => some (! r7))) fun (x8 : Bool) => ob (br x8 (some true) (some (decide ((a1.length : Int) < a3)))) fun (x9 : Bool) => br x9 (lt (⟨0, 0⟩ : (V2 Int)) fun (x10 : (V2 Int)) => some (x10, false)) (ob (s_l5Column n a1 a2) fun (r11 : (V3 Int)) => fx (s_ChanceTrait_L1 n) n (a1, a3, 0, 0, (⟨0, 0⟩ : (V2 Int)), r11))

/-- i_common -/
noncomputable def i_common_L1 (n : Nat) (go3 : Int × (V3 Int) × Int × (V3 Int) → Option (Int)) (s4 : Int × (V3 Int) × Int × (V3 Int)) : Option (Int) :=
  br (decide (s4.2.2.1 < 3)) (ckb (inb s4.2.2.1 3) (ob (slices_Contains_Sint_int_ n (V3.els s4.2.2.2) (V3.get s4.2.1 s4.2.2.1.toNat)) fun (r5 : Bool) => br r5 (lt (w64 (s4.1 + 1)) fun (x6 : Int) => lt (w64 (s4.2.2.1 + 1)) fun (x7 : Int) => go3 (x6, s4.2.1, x7, s4.2.2.2)) (lt (w64 (s4.2.2.1 + 1)) fun (x8 : Int) => go3 (s4.1, s4.2.1, x8, s4.2.2.2)))) (some s4.1)
noncomputable def i_common (n : Nat) (a1 : (V3 Int)) (a2 : (V3 Int)) : Option (Int) :=
  fx (i_common_L1 n) n (0, a1, 0, a2)

/-- i_ChanceStays -/
noncomputable def i_ChanceStays_L1 (n : Nat) (go6 : Int × Int × Int × (V2 Int) × (List (V3 Int)) → Option ((V2 Int) × Bool)) (go8 : Int × Int × Int × Int × Int × (V2 Int) × (List (V3 Int)) × (V3 Int) → Option ((V2 Int) × Bool)) (s9 : Int × Int × Int × Int × Int × (V2 Int) × (List (V3 Int)) × (V3 Int)) : Option ((V2 Int) × Bool) :=
  br (decide (s9.2.2.2.2.1 < s9.2.2.2.1)) (ckb (inb s9.2.2.2.2.1 s9.2.2.2.2.2.2.1.length) (ob (i_common n s9.2.2.2.2.2.2.2 (gl (⟨0, 0, 0⟩ : (V3 Int)) s9.2.2.2.2.2.2.1 s9.2.2.2.2.1.toNat)) fun (r10 : Int) => br (decide (r10 = 0)) (lt (w64 (s9.1 + 1)) fun (x11 : Int) => lt (w64 (s9.2.2.1 + 1)) fun (x12 : Int) => go6 (x11, s9.2.1, x12, s9.2.2.2.2.2.1, s9.2.2.2.2.2.2.1)) (lt (w64 (s9.2.2.2.2.1 + 1)) fun (x13 : Int) => go8 (s9.1, s9.2.1, s9.2.2.1, s9.2.2.2.1, x13, s9.2.2.2.2.2.1, s9.2.2.2.2.2.2.1, s9.2.2.2.2.2.2.2)))) (lt (w64 (s9.2.2.1 + 1)) fun (x14 : Int) => go6 (s9.1, s9.2.1, x14, s9.2.2.2.2.2.1, s9.2.2.2.2.2.2.1))
noncomputable def i_ChanceStays_L2 (n : Nat) (go6 : Int × Int × Int × (V2 Int) × (List (V3 Int)) → Option ((V2 Int) × Bool)) (s7 : Int × Int × Int × (V2 Int) × (List (V3 Int))) : Option ((V2 Int) × Bool) :=
  br (decide (s7.2.2.1 < s7.2.1)) (ckb (inb s7.2.2.1 s7.2.2.2.2.length) (fx (i_ChanceStays_L1 n go6) n (s7.1, s7.2.1, s7.2.2.1, (s7.2.2.2.2.length : Int), 0, s7.2.2.2.1, s7.2.2.2.2, (gl (⟨0, 0, 0⟩ : (V3 Int)) s7.2.2.2.2 s7.2.2.1.toNat)))) (ob (i_fraction n s7.1 (s7.2.2.2.2.length : Int)) fun (r15 : (V2 Int) × Bool) => some (r15.1, r15.2))
noncomputable def i_ChanceStays (n : Nat) (a1 : (List (V4 Int))) : Option ((V2 Int) × Bool) :=
  ob (i_IsHand n a1) fun (r2 : Bool) => br (! r2) (lt (⟨0, 0⟩ : (V2 Int)) fun (x3 : (V2 Int)) => some (x3, false)) (ob (i_linesIn n a1) fun (r4 : (List (V3 Int))) => br (decide ((r4.length : Int) = 0)) (lt (⟨0, 0⟩ : (V2 Int)) fun (x5 : (V2 Int)) => some (x5, false)) (fx (i_ChanceStays_L2 n) n (0, (r4.length : Int), 0, (⟨0, 0⟩ : (V2 Int)), r4)))

/-- s_l7Common -/
noncomputable def s_l7Common_L1 (n : Nat) (go3 : Int × Int × (V3 Int) × (V3 Int) → Option (Int)) (go5 : Int × Int × Int × (V3 Int) × (V3 Int) → Option (Int)) (s6 : Int × Int × Int × (V3 Int) × (V3 Int)) : Option (Int) :=
  br (decide (s6.2.2.1 < 3)) (ckb (inb s6.2.1 3) (ckb (inb s6.2.2.1 3) (br (decide ((V3.get s6.2.2.2.1 s6.2.1.toNat) = (V3.get s6.2.2.2.2 s6.2.2.1.toNat))) (lt (w64 (s6.1 + 1)) fun (x7 : Int) => lt (w64 (s6.2.2.1 + 1)) fun (x8 : Int) => go5 (x7, s6.2.1, x8, s6.2.2.2.1, s6.2.2.2.2)) (lt (w64 (s6.2.2.1 + 1)) fun (x9 : Int) => go5 (s6.1, s6.2.1, x9, s6.2.2.2.1, s6.2.2.2.2))))) (lt (w64 (s6.2.1 + 1)) fun (x10 : Int) => go3 (s6.1, x10, s6.2.2.2.1, s6.2.2.2.2))
noncomputable def s_l7Common_L2 (n : Nat) (go3 : Int × Int × (V3 Int) × (V3 Int) → Option (Int)) (s4 : Int × Int × (V3 Int) × (V3 Int)) : Option (Int) :=
  br (decide (s4.2.1 < 3)) (fx (s_l7Common_L1 n go3) n (s4.1, s4.2.1, 0, s4.2.2.1, s4.2.2.2)) (some s4.1)
noncomputable def s_l7Common (n : Nat) (a1 : (V3 Int)) (a2 : (V3 Int)) : Option (Int) :=
  fx (s_l7Common_L2 n) n (0, 0, a1, a2)

/-- s_ChanceStays -/
noncomputable def s_ChanceStays_L1 (n : Nat) (go7 : Int × Int × (V2 Int) × (List (V3 Int)) → Option ((V2 Int) × Bool)) (go9 : Int × Int × Int × (V2 Int) × (List (V3 Int)) → Option ((V2 Int) × Bool)) (s10 : Int × Int × Int × (V2 Int) × (List (V3 Int))) : Option ((V2 Int) × Bool) :=
  br (decide (s10.2.2.1 < (s10.2.2.2.2.length : Int))) (ckb (inb s10.2.1 s10.2.2.2.2.length) (ckb (inb s10.2.2.1 s10.2.2.2.2.length) (ob (s_l7Common n (gl (⟨0, 0, 0⟩ : (V3 Int)) s10.2.2.2.2 s10.2.1.toNat) (gl (⟨0, 0, 0⟩ : (V3 Int)) s10.2.2.2.2 s10.2.2.1.toNat)) fun (r11 : Int) => br (decide (r11 = 0)) (lt (w64 (s10.1 + 1)) fun (x12 : Int) => lt (w64 (s10.2.1 + 1)) fun (x13 : Int) => go7 (x12, x13, s10.2.2.2.1, s10.2.2.2.2)) (lt (w64 (s10.2.2.1 + 1)) fun (x14 : Int) => go9 (s10.1, s10.2.1, x14, s10.2.2.2.1, s10.2.2.2.2))))) (lt (w64 (s10.2.1 + 1)) fun (x15 : Int) => go7 (s10.1, x15, s10.2.2.2.1, s10.2.2.2.2))
noncomputable def s_ChanceStays_L2 (n : Nat) (go7 : Int × Int × (V2 Int) × (List (V3 Int)) → Option ((V2 Int) × Bool)) (s8 : Int × Int × (V2 Int) × (List (V3 Int))) : Option ((V2 Int) × Bool) :=
  br (decide (s8.2.1 < (s8.2.2.2.length : Int))) (fx (s_ChanceStays_L1 n go7) n (s8.1, s8.2.1, 0, s8.2.2.1, s8.2.2.2)) (ob (s_l9Cut n s8.1 (s8.2.2.2.length : Int)) fun (r16 : (V2 Int)) => some (r16, true))
noncomputable def s_ChanceStays (n : Nat) (a1 : (List (V4 Int))) : Option ((V2 Int) × Bool) :=
  ob (s_l2Hand n a1) fun (r2 : Bool) => ob (br (! r2) (some true) (ob (s_l2Lines n a1) fun (r3 : (List (V3 Int))) => some (decide ((r3.length : Int) = 0)))) fun (x4 : Bool) => br x4 (lt (⟨0, 0⟩ : (V2 Int)) fun (x5 : (V2 Int)) => some (x5, false)) (ob (s_l2Lines n a1) fun (r6 : (List (V3 Int))) => fx (s_ChanceStays_L2 n) n (0, 0, (⟨0, 0⟩ : (V2 Int)), r6))

/-- i_WithTrait -/
noncomputable def i_WithTrait_L1 (n : Nat) (go9 : Int × Int × (List (V4 Int)) × Int × Int × (List Int) → Option (Bool × (List Int))) (s10 : Int × Int × (List (V4 Int)) × Int × Int × (List Int)) : Option (Bool × (List Int)) :=
  br (decide (s10.2.2.2.2.1 < s10.2.2.2.1)) (ckb (inb s10.2.2.2.2.1 s10.2.2.1.length) (ckb (inb s10.1 4) (br (decide ((V4.get (gl (⟨0, 0, 0, 0⟩ : (V4 Int)) s10.2.2.1 s10.2.2.2.2.1.toNat) s10.1.toNat) = s10.2.1)) (ckb (apok 8 (s10.2.2.2.2.2.length + 1)) (lt (w64 (s10.2.2.2.2.1 + 1)) fun (x11 : Int) => go9 (s10.1, s10.2.1, s10.2.2.1, s10.2.2.2.1, x11, (s10.2.2.2.2.2 ++ [s10.2.2.2.2.1])))) (lt (w64 (s10.2.2.2.2.1 + 1)) fun (x12 : Int) => go9 (s10.1, s10.2.1, s10.2.2.1, s10.2.2.2.1, x12, s10.2.2.2.2.2))))) (some (true, s10.2.2.2.2.2))
noncomputable def i_WithTrait (n : Nat) (a1 : (List (V4 Int))) (a2 : Int) (a3 : Int) : Option (Bool × (List Int)) :=
  ob (i_IsHand n a1) fun (r4 : Bool) => ob (br (! r4) (some true) (ob (i_within n a2 0 3) fun (r5 : Bool) => some (! r5))) fun (x6 : Bool) => ob (br x6 (some true) (ob (i_within n a3 0 2) fun (r7 : Bool) => some (! r7))) fun (x8 : Bool) => br x8 (some (false, ([] : List Int))) (fx (i_WithTrait_L1 n) n (a2, a3, a1, (a1.length : Int), 0, ([] : List Int)))

/-- i_isParted -/
noncomputable def i_isParted (n : Nat) (a1 : (List (V4 Int))) : Option (Bool) :=
  ob (i_IsHand n a1) fun (r2 : Bool) => ob (br r2 (some (decide ((a1.length : Int) ≤ 15))) (some false)) fun (x3 : Bool) => some x3

/-- slices_Clone_SA3_A3_ -/
noncomputable def slices_Clone_SA3_A3_ (n : Nat) (a1 : (List (V3 Int))) : Option ((List (V3 Int))) :=
  amb a1.isEmpty fun (b2 : Bool) => br b2 (some ([] : List (V3 Int))) (ckb (apok 24 (0 + a1.length)) (some a1))

/-- i_firstPicking_1'lp_o -/
noncomputable def i_firstPicking_1'lp_o (n : Nat) (a1 : (List (V3 Int))) (a2 : (List (V3 Int))) : Option ((List (V3 Int))) :=
  br (decide ((a2.length : Int) < (a1.length : Int))) (ob (slices_Clone_SA3_A3_ n a1) fun (r3 : (List (V3 Int))) => some r3) (some a2)

/-- i_pickings_1'p -/
noncomputable def i_pickings_1'p (n : Nat) (a1 : (V3 Int)) (a2 : (V3 Int)) : Option (Bool × (V3 Int)) :=
  ob (i_common n a2 a1) fun (r3 : Int) => some ((decide (0 < r3)), a2)

/-- slices_IndexFunc_SA3_A3_'l_i_pickings_1p -/
noncomputable def slices_IndexFunc_SA3_A3_'l_i_pickings_1p_L1 (n : Nat) (go3 : (List (V3 Int)) × Int × Int × (V3 Int) → Option (Int × (V3 Int))) (s4 : (List (V3 Int)) × Int × Int × (V3 Int)) : Option (Int × (V3 Int)) :=
  br (decide (s4.2.2.1 < s4.2.1)) (ckb (inb s4.2.2.1 s4.1.length) (ob (i_pickings_1'p n (gl (⟨0, 0, 0⟩ : (V3 Int)) s4.1 s4.2.2.1.toNat) s4.2.2.2) fun (r5 : Bool × (V3 Int)) => br r5.1 (some (s4.2.2.1, r5.2)) (lt (w64 (s4.2.2.1 + 1)) fun (x6 : Int) => go3 (s4.1, s4.2.1, x6, r5.2)))) (some ((-1), s4.2.2.2))
noncomputable def slices_IndexFunc_SA3_A3_'l_i_pickings_1p (n : Nat) (a1 : (List (V3 Int))) (a2 : (V3 Int)) : Option (Int × (V3 Int)) :=
  fx (slices_IndexFunc_SA3_A3_'l_i_pickings_1p_L1 n) n (a1, (a1.length : Int), 0, a2)

/-- slices_ContainsFunc_SA3_A3_'l_i_pickings_1p -/
noncomputable def slices_ContainsFunc_SA3_A3_'l_i_pickings_1p (n : Nat) (a1 : (List (V3 Int))) (a2 : (V3 Int)) : Option (Bool × (V3 Int)) :=
  ob (slices_IndexFunc_SA3_A3_'l_i_pickings_1p n a1 a2) fun (r3 : Int × (V3 Int)) => some ((decide (0 ≤ r3.1)), r3.2)

/-- i_pickings'll_i_firstPicking_1p_o -/
noncomputable def i_pickings'll_i_firstPicking_1p_o_L1 (n : Nat) (go0 : (List (V3 Int)) × (List (V3 Int)) × (List (V3 Int)) → Option ((List (V3 Int)))) (go5 : (List (V3 Int)) × (List (V3 Int)) × (List (V3 Int)) × Int × Int × (List (V3 Int)) → Option ((List (V3 Int)))) (s6 : (List (V3 Int)) × (List (V3 Int)) × (List (V3 Int)) × Int × Int × (List (V3 Int))) : Option ((List (V3 Int))) :=
  br (decide (s6.2.2.2.2.1 < s6.2.2.2.1)) (ckb (inb s6.2.2.2.2.1 s6.2.2.1.length) (ob (slices_ContainsFunc_SA3_A3_'l_i_pickings_1p n s6.2.1 (gl (⟨0, 0, 0⟩ : (V3 Int)) s6.2.2.1 s6.2.2.2.2.1.toNat)) fun (r7 : Bool × (V3 Int)) => br (! r7.1) (lt (w64 (s6.2.2.2.2.1 + 1)) fun (x8 : Int) => ckb (slb x8 (s6.1.length : Int) s6.1.length) (ckb (cand (slb 0 (s6.2.1.length : Int) s6.2.1.length) (decide ((s6.2.1.length : Int) = (s6.2.1.length : Int)))) (ckb (cand (apok 24 ((sub s6.2.1 0 s6.2.1.length).length + 1)) (cor (sub s6.2.1 0 s6.2.1.length).isEmpty true)) (ob (go0 ((sub s6.1 x8.toNat s6.1.length), ((sub s6.2.1 0 s6.2.1.length) ++ [r7.2]), s6.2.2.2.2.2)) fun (r9 : (List (V3 Int))) => lt (w64 (s6.2.2.2.2.1 + 1)) fun (x10 : Int) => go5 (s6.1, s6.2.1, s6.2.2.1, s6.2.2.2.1, x10, r9))))) (lt (w64 (s6.2.2.2.2.1 + 1)) fun (x11 : Int) => go5 (s6.1, s6.2.1, s6.2.2.1, s6.2.2.2.1, x11, s6.2.2.2.2.2)))) (some s6.2.2.2.2.2)
noncomputable def i_pickings'll_i_firstPicking_1p_o_R (n : Nat) (go0 : (List (V3 Int)) × (List (V3 Int)) × (List (V3 Int)) → Option ((List (V3 Int)))) (x : (List (V3 Int)) × (List (V3 Int)) × (List (V3 Int))) : Option ((List (V3 Int))) :=
  (fun (a1 : (List (V3 Int))) (a2 : (List (V3 Int))) (a3 : (List (V3 Int))) => ob (i_firstPicking_1'lp_o n a2 a3) fun (r4 : (List (V3 Int))) => fx (i_pickings'll_i_firstPicking_1p_o_L1 n go0) n (a1, a2, a1, (a1.length : Int), 0, r4)) x.1 x.2.1 x.2.2
noncomputable def i_pickings'll_i_firstPicking_1p_o (n : Nat) (a1 : (List (V3 Int))) (a2 : (List (V3 Int))) (a3 : (List (V3 Int))) : Option ((List (V3 Int))) := fx (i_pickings'll_i_firstPicking_1p_o_R n) n (a1, a2, a3)

/-- i_firstPicking -/
noncomputable def i_firstPicking (n : Nat) (a1 : (List (V4 Int))) : Option ((List (V3 Int))) :=
  ob (i_linesIn n a1) fun (r2 : (List (V3 Int))) => ob (i_pickings'll_i_firstPicking_1p_o n r2 ([] : List (V3 Int)) ([] : List (V3 Int))) fun (r3 : (List (V3 Int))) => some r3

/-- i_MostDisjoint -/
noncomputable def i_MostDisjoint (n : Nat) (a1 : (List (V4 Int))) : Option (Int × Bool) :=
  ob (i_isParted n a1) fun (r2 : Bool) => br (! r2) (some (0, false)) (ob (i_firstPicking n a1) fun (r3 : (List (V3 Int))) => some ((r3.length : Int), true))

/-- i_BlockedCards -/
noncomputable def i_BlockedCards (n : Nat) (a1 : (List (V4 Int))) : Option (Bool × (List Int)) :=
  ob (i_IsHand n a1) fun (r2 : Bool) => br (! r2) (some (false, ([] : List Int))) (ob (i_outside n a1 true) fun (r3 : (List Int)) => some (true, r3))

/-- v_FnChances -/
noncomputable def v_FnChances_J1 (n : Nat) (s40 : Bool × (List (V4 Int)) × (V2 Int)) : Option (Bool) :=
  br (! s40.1) (some true) (ob (i_BlockedCards n s40.2.1) fun (r41 : Bool × (List Int)) => ob (br r41.1 (lt (w64 ((r41.2.length : Int) * s40.2.2.x1)) fun (x42 : Int) => lt (w64 (81 - (s40.2.1.length : Int))) fun (x43 : Int) => lt (w64 (s40.2.2.x0 * x43)) fun (x44 : Int) => some (decide (x42 = x44))) (some false)) fun (x45 : Bool) => some x45)
noncomputable def v_FnChances_J2 (n : Nat) (s39 : Bool × Bool × (List (V4 Int)) × (V2 Int) × (V2 Int)) : Option (Bool) :=
  br s39.2.1 (ob (i_MostDisjoint n s39.2.2.1) fun (r46 : Int × Bool) => ob (br r46.2 (some (! ((decide (0 < s39.2.2.2.2.x0)) == (decide (1 < r46.1))))) (some false)) fun (x47 : Bool) => br x47 (some false) (v_FnChances_J1 n (s39.1, s39.2.2.1, s39.2.2.2.1))) (v_FnChances_J1 n (s39.1, s39.2.2.1, s39.2.2.2.1))
noncomputable def v_FnChances_J3 (n : Nat) (go48 : Bool × Int × Int × Bool × Int × Int × (List (V4 Int)) × (V2 Int) × (List (V4 Int)) × (V2 Int) × (V2 Int) → Option (Bool)) (s51 : Bool × Int × Int × Bool × Int × Int × Int × (List (V4 Int)) × (V2 Int) × (List (V4 Int)) × (V2 Int) × (V2 Int) × (List Int)) : Option (Bool) :=
  br (decide (2 < s51.2.2.1)) (lt (w64 ((s51.2.2.2.2.2.2.2.2.2.2.2.2.length : Int) - 2)) fun (x52 : Int) => lt (w64 (s51.2.2.2.2.2.2.1 * x52)) fun (x53 : Int) => lt (w64 (s51.2.2.2.2.1 + x53)) fun (x54 : Int) => lt (w64 (s51.2.2.2.2.2.1 + 1)) fun (x55 : Int) => go48 (s51.1, s51.2.1, s51.2.2.1, s51.2.2.2.1, x54, x55, s51.2.2.2.2.2.2.2.1, s51.2.2.2.2.2.2.2.2.1, s51.2.2.2.2.2.2.2.2.2.1, s51.2.2.2.2.2.2.2.2.2.2.1, s51.2.2.2.2.2.2.2.2.2.2.2.1)) (lt (w64 (s51.2.2.2.2.1 + s51.2.2.2.2.2.2.1)) fun (x56 : Int) => lt (w64 (s51.2.2.2.2.2.1 + 1)) fun (x57 : Int) => go48 (s51.1, s51.2.1, s51.2.2.1, s51.2.2.2.1, x56, x57, s51.2.2.2.2.2.2.2.1, s51.2.2.2.2.2.2.2.2.1, s51.2.2.2.2.2.2.2.2.2.1, s51.2.2.2.2.2.2.2.2.2.2.1, s51.2.2.2.2.2.2.2.2.2.2.2.1))
noncomputable def v_FnChances_J4 (n : Nat) (s61 : Bool × Bool × Int × Int × (List (V4 Int)) × (V2 Int) × (V2 Int) × (V2 Int)) : Option (Bool) :=
  lt (w64 (s61.2.2.1 * s61.2.2.2.2.2.2.1.x1)) fun (x62 : Int) => lt (w64 (s61.2.2.2.2.2.2.1.x0 * s61.2.2.2.1)) fun (x63 : Int) => br (!decide (x62 = x63)) (some false) (v_FnChances_J2 n (s61.1, s61.2.1, s61.2.2.2.2.1, s61.2.2.2.2.2.1, s61.2.2.2.2.2.2.2))
noncomputable def v_FnChances_J5 (n : Nat) (s60 : Bool × Int × Bool × Int × Int × (List (V4 Int)) × (V2 Int) × (List (V4 Int)) × (V2 Int) × (V2 Int)) : Option (Bool) :=
  br (decide (2 < s60.2.1)) (lt (w64 ((s60.2.2.2.2.2.2.2.1.length : Int) - 2)) fun (x64 : Int) => lt (w64 (s60.2.2.2.2.1 * x64)) fun (x65 : Int) => v_FnChances_J4 n (s60.1, s60.2.2.1, s60.2.2.2.1, x65, s60.2.2.2.2.2.1, s60.2.2.2.2.2.2.1, s60.2.2.2.2.2.2.2.2.1, s60.2.2.2.2.2.2.2.2.2)) (v_FnChances_J4 n (s60.1, s60.2.2.1, s60.2.2.2.1, s60.2.2.2.2.1, s60.2.2.2.2.2.1, s60.2.2.2.2.2.2.1, s60.2.2.2.2.2.2.2.2.1, s60.2.2.2.2.2.2.2.2.2))
noncomputable def v_FnChances_L6 (n : Nat) (go48 : Bool × Int × Int × Bool × Int × Int × (List (V4 Int)) × (V2 Int) × (List (V4 Int)) × (V2 Int) × (V2 Int) → Option (Bool)) (s49 : Bool × Int × Int × Bool × Int × Int × (List (V4 Int)) × (V2 Int) × (List (V4 Int)) × (V2 Int) × (V2 Int)) : Option (Bool) :=
  br (decide (s49.2.2.2.2.2.1 < 3)) (ob (i_WithTrait n s49.2.2.2.2.2.2.2.2.1 s49.2.1 s49.2.2.2.2.2.1) fun (r50 : Bool × (List Int)) => br (! r50.1) (some false) (br (decide (1 < s49.2.2.1)) (lt (w64 ((r50.2.length : Int) - 1)) fun (x58 : Int) => lt (w64 ((r50.2.length : Int) * x58)) fun (x59 : Int) => v_FnChances_J3 n go48 (s49.1, s49.2.1, s49.2.2.1, s49.2.2.2.1, s49.2.2.2.2.1, s49.2.2.2.2.2.1, x59, s49.2.2.2.2.2.2.1, s49.2.2.2.2.2.2.2.1, s49.2.2.2.2.2.2.2.2.1, s49.2.2.2.2.2.2.2.2.2.1, s49.2.2.2.2.2.2.2.2.2.2, r50.2)) (v_FnChances_J3 n go48 (s49.1, s49.2.1, s49.2.2.1, s49.2.2.2.1, s49.2.2.2.2.1, s49.2.2.2.2.2.1, (r50.2.length : Int), s49.2.2.2.2.2.2.1, s49.2.2.2.2.2.2.2.1, s49.2.2.2.2.2.2.2.2.1, s49.2.2.2.2.2.2.2.2.2.1, s49.2.2.2.2.2.2.2.2.2.2, r50.2)))) (br (decide (1 < s49.2.2.1)) (lt (w64 ((s49.2.2.2.2.2.2.2.2.1.length : Int) - 1)) fun (x66 : Int) => lt (w64 ((s49.2.2.2.2.2.2.2.2.1.length : Int) * x66)) fun (x67 : Int) => v_FnChances_J5 n (s49.1, s49.2.2.1, s49.2.2.2.1, s49.2.2.2.2.1, x67, s49.2.2.2.2.2.2.1, s49.2.2.2.2.2.2.2.1, s49.2.2.2.2.2.2.2.2.1, s49.2.2.2.2.2.2.2.2.2.1, s49.2.2.2.2.2.2.2.2.2.2)) (v_FnChances_J5 n (s49.1, s49.2.2.1, s49.2.2.2.1, s49.2.2.2.2.1, (s49.2.2.2.2.2.2.2.2.1.length : Int), s49.2.2.2.2.2.2.1, s49.2.2.2.2.2.2.2.1, s49.2.2.2.2.2.2.2.2.1, s49.2.2.2.2.2.2.2.2.2.1, s49.2.2.2.2.2.2.2.2.2.2)))
noncomputable def v_FnChances_J7 (n : Nat) (s38 : Bool × Int × Int × Bool × Bool × (List (V4 Int)) × (V2 Int) × (List (V4 Int)) × (V2 Int) × (V2 Int)) : Option (Bool) :=
  br s38.2.2.2.1 (fx (v_FnChances_L6 n) n (s38.1, s38.2.1, s38.2.2.1, s38.2.2.2.2.1, 0, 0, s38.2.2.2.2.2.1, s38.2.2.2.2.2.2.1, s38.2.2.2.2.2.2.2.1, s38.2.2.2.2.2.2.2.2.1, s38.2.2.2.2.2.2.2.2.2)) (v_FnChances_J2 n (s38.1, s38.2.2.2.2.1, s38.2.2.2.2.2.1, s38.2.2.2.2.2.2.1, s38.2.2.2.2.2.2.2.2.2))
noncomputable def v_FnChances_J8 (n : Nat) (s33 : Bool × Bool × Int × Bool × Int × Int × Bool × Bool × (List (V4 Int)) × (V2 Int) × (V2 Int) × (List (V4 Int)) × (V2 Int) × (List (V4 Int)) × (V2 Int) × (V2 Int)) : Option (Bool) :=
  ob (br s33.1 (lt (⟨1, 1⟩ : (V2 Int)) fun (x34 : (V2 Int)) => ob (v_vLess n x34 s33.2.2.2.2.2.2.2.2.2.1) fun (r35 : Bool) => ob (br r35 (some true) (some (decide (s33.2.2.2.2.2.2.2.2.2.1.x0 < 1)))) fun (x36 : Bool) => some x36) (some false)) fun (x37 : Bool) => br x37 (some false) (ob (br s33.2.2.2.1 (some (decide (s33.2.2.1 = 3))) (some false)) fun (x68 : Bool) => br x68 (ob (i_ChanceLine n s33.2.2.2.2.2.2.2.2.2.2.2.1) fun (r69 : (V2 Int) × Bool) => ob (br (! r69.2) (some true) (lt (w64 (r69.1.x0 * s33.2.2.2.2.2.2.2.2.2.2.2.2.1.x1)) fun (x70 : Int) => lt (w64 (s33.2.2.2.2.2.2.2.2.2.2.2.2.1.x0 * r69.1.x1)) fun (x71 : Int) => lt (w64 (x70 + x71)) fun (x72 : Int) => lt (w64 (r69.1.x1 * s33.2.2.2.2.2.2.2.2.2.2.2.2.1.x1)) fun (x73 : Int) => some (!decide (x72 = x73)))) fun (x74 : Bool) => br x74 (some false) (v_FnChances_J7 n (s33.2.1, s33.2.2.2.2.1, s33.2.2.2.2.2.1, s33.2.2.2.2.2.2.1, s33.2.2.2.2.2.2.2.1, s33.2.2.2.2.2.2.2.2.1, s33.2.2.2.2.2.2.2.2.2.2.1, s33.2.2.2.2.2.2.2.2.2.2.2.2.2.1, s33.2.2.2.2.2.2.2.2.2.2.2.2.2.2.1, s33.2.2.2.2.2.2.2.2.2.2.2.2.2.2.2))) (v_FnChances_J7 n (s33.2.1, s33.2.2.2.2.1, s33.2.2.2.2.2.1, s33.2.2.2.2.2.2.1, s33.2.2.2.2.2.2.2.1, s33.2.2.2.2.2.2.2.2.1, s33.2.2.2.2.2.2.2.2.2.2.1, s33.2.2.2.2.2.2.2.2.2.2.2.2.2.1, s33.2.2.2.2.2.2.2.2.2.2.2.2.2.2.1, s33.2.2.2.2.2.2.2.2.2.2.2.2.2.2.2)))
noncomputable def v_FnChances (n : Nat) (a1 : (List Int)) : Option (Bool) :=
  ob (v_vBig n a1) fun (r2 : Bool) => br r2 (some true) (ob (s_DrawChanceLine n a1) fun (r3 : (List (V4 Int))) => ob (i_ChanceLine n r3) fun (r4 : (V2 Int) × Bool) => ob (s_ChanceLine n r3) fun (r5 : (V2 Int) × Bool) => ob (v_vCut n a1 1) fun (r6 : (List Int)) => ob (s_DrawChanceKind n r6) fun (r7 : Int) => ob (i_ChanceKind n r7) fun (r8 : (V2 Int) × Bool) => ob (s_ChanceKind n r7) fun (r9 : (V2 Int) × Bool) => ob (i_ChanceBlocked n r3) fun (r10 : (V2 Int) × Bool) => ob (s_ChanceBlocked n r3) fun (r11 : (V2 Int) × Bool) => ob (v_vCut n a1 2) fun (r12 : (List Int)) => ob (s_DrawChanceCap n r12) fun (r13 : Int × (List (V4 Int))) => ob (i_ChanceCap n r13.2 r13.1) fun (r14 : (V2 Int) × Bool) => ob (s_ChanceCap n r13.2 r13.1) fun (r15 : (V2 Int) × Bool) => ob (v_vCut n a1 1) fun (r16 : (List Int)) => ob (s_DrawChanceTrait n r16) fun (r17 : Int × Int × (List (V4 Int))) => ob (i_ChanceTrait n r17.2.2 r17.1 r17.2.1) fun (r18 : (V2 Int) × Bool) => ob (s_ChanceTrait n r17.2.2 r17.1 r17.2.1) fun (r19 : (V2 Int) × Bool) => ob (i_ChanceStays n r3) fun (r20 : (V2 Int) × Bool) => ob (s_ChanceStays n r3) fun (r21 : (V2 Int) × Bool) => ob (br (!eqd r4.1 r5.1) (some true) (some (! (r4.2 == r5.2)))) fun (x22 : Bool) => ob (br x22 (some true) (some (!eqd r8.1 r9.1))) fun (x23 : Bool) => ob (br x23 (some true) (some (! (r8.2 == r9.2)))) fun (x24 : Bool) => ob (br x24 (some true) (some (!eqd r10.1 r11.1))) fun (x25 : Bool) => ob (br x25 (some true) (some (! (r10.2 == r11.2)))) fun (x26 : Bool) => ob (br x26 (some true) (some (!eqd r14.1 r15.1))) fun (x27 : Bool) => ob (br x27 (some true) (some (! (r14.2 == r15.2)))) fun (x28 : Bool) => ob (br x28 (some true) (some (!eqd r18.1 r19.1))) fun (x29 : Bool) => ob (br x29 (some true) (some (! (r18.2 == r19.2)))) fun (x30 : Bool) => ob (br x30 (some true) (some (!eqd r20.1 r21.1))) fun (x31 : Bool) => ob (br x31 (some true) (some (! (r20.2 == r21.2)))) fun (x32 : Bool) => br x32 (some false) (br r4.2 (ob (i_LinesIn n r3) fun (r75 : Bool × (List (V3 Int))) => ob (br (! r75.1) (some true) (lt (w64 (6 * (r75.2.length : Int))) fun (x76 : Int) => lt (w64 (x76 * r4.1.x1)) fun (x77 : Int) => lt (w64 (r4.1.x0 * (r3.length : Int))) fun (x78 : Int) => lt (w64 ((r3.length : Int) - 1)) fun (x79 : Int) => lt (w64 (x78 * x79)) fun (x80 : Int) => lt (w64 ((r3.length : Int) - 2)) fun (x81 : Int) => lt (w64 (x80 * x81)) fun (x82 : Int) => some (!decide (x77 = x82)))) fun (x83 : Bool) => ob (br x83 (some true) (some (! ((decide (0 < r4.1.x0)) == r20.2)))) fun (x84 : Bool) => br x84 (some false) (v_FnChances_J8 n (r8.2, r10.2, r13.1, r14.2, r17.1, r17.2.1, r18.2, r20.2, r3, r8.1, r10.1, r13.2, r14.1, r17.2.2, r18.1, r20.1))) (v_FnChances_J8 n (r8.2, r10.2, r13.1, r14.2, r17.1, r17.2.1, r18.2, r20.2, r3, r8.1, r10.1, r13.2, r14.1, r17.2.2, r18.1, r20.1))))

/-- s_CountCaps -/
noncomputable def s_CountCaps (n : Nat) (a1 : (List (V4 Int))) (a2 : Int) : Option (Int × Bool) :=
  ob (s_l3Pool n a1) fun (r3 : Bool) => ob (br (! r3) (some true) (ob (s_l1In n a2 0 15) fun (r4 : Bool) => some (! r4))) fun (x5 : Bool) => br x5 (some (0, false)) (ob (s_l3Count n a1 ([] : List Int) 0 a2) fun (r6 : Int) => some (r6, true))

end Go.Pl
