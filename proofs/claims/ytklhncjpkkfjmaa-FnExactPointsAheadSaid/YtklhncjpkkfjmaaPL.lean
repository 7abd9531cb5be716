/- Printed by a program of the session: the program's functions as plain functions. -/
import Derived.Test.YtklhncjpkkfjmaaZ0
namespace Go.Pl
open Go Go.Tv Go.RowKit
set_option linter.unusedVariables false
def bls (a b : ByteArray) : Bool := Op.bytesLess a.toList b.toList
/-- v_szIntA4S -/
noncomputable def v_szIntA4S (n : Nat) (a1 : (List (V4 Int))) (a2 : Int) : Option (Int) :=
  lt (w64 (a2 - (a1.length : Int))) fun (x3 : Int) => br (decide (x3 < 0)) (some (-1)) (some x3)

/-- v_toIntA4 -/
noncomputable def v_toIntA4_L1 (n : Nat) (go2 : Int × (V4 Int) × (V4 Int) × (V4 Int) → Option ((V4 Int))) (s3 : Int × (V4 Int) × (V4 Int) × (V4 Int)) : Option ((V4 Int)) :=
  br (decide (s3.1 < 4)) (ckb (inb s3.1 4) (ckb (inb s3.1 4) (lt (V4.set s3.2.2.2 s3.1.toNat (V4.get s3.2.1 s3.1.toNat)) fun (x4 : (V4 Int)) => lt (w64 (s3.1 + 1)) fun (x5 : Int) => go2 (x5, s3.2.1, s3.2.2.1, x4)))) (some s3.2.2.2)
noncomputable def v_toIntA4 (n : Nat) (a1 : (V4 Int)) : Option ((V4 Int)) :=
  fx (v_toIntA4_L1 n) n (0, a1, (⟨0, 0, 0, 0⟩ : (V4 Int)), (⟨0, 0, 0, 0⟩ : (V4 Int)))

/-- v_toIntA4S -/
noncomputable def v_toIntA4S_L1 (n : Nat) (go2 : (List (V4 Int)) × Int × (List (V4 Int)) → Option ((List (V4 Int)))) (s3 : (List (V4 Int)) × Int × (List (V4 Int))) : Option ((List (V4 Int))) :=
  br (decide (s3.2.1 < (s3.1.length : Int))) (ckb (inb s3.2.1 s3.1.length) (ob (v_toIntA4 n (gl (⟨0, 0, 0, 0⟩ : (V4 Int)) s3.1 s3.2.1.toNat)) fun (r4 : (V4 Int)) => ckb (inb s3.2.1 s3.2.2.length) (lt (List.set s3.2.2 s3.2.1.toNat r4) fun (x5 : (List (V4 Int))) => lt (w64 (s3.2.1 + 1)) fun (x6 : Int) => go2 (s3.1, x6, x5)))) (some s3.2.2)
noncomputable def v_toIntA4S (n : Nat) (a1 : (List (V4 Int))) : Option ((List (V4 Int))) :=
  ckb (mkok 32 (a1.length : Int) (a1.length : Int)) (fx (v_toIntA4S_L1 n) n (a1, 0, (List.replicate a1.length (⟨0, 0, 0, 0⟩ : (V4 Int)))))

/-- s_l1In -/
noncomputable def s_l1In (n : Nat) (a1 : Int) (a2 : Int) (a3 : Int) : Option (Bool) :=
  ob (br (decide (a2 ≤ a1)) (some (decide (a1 ≤ a3))) (some false)) fun (x4 : Bool) => some x4

/-- s_l2Card -/
noncomputable def s_l2Card_L1 (n : Nat) (go2 : Int × (V4 Int) → Option (Bool)) (s3 : Int × (V4 Int)) : Option (Bool) :=
  br (decide (s3.1 < 4)) (ckb (inb s3.1 4) (ob (s_l1In n (V4.get s3.2 s3.1.toNat) 0 2) fun (r4 : Bool) => br (! r4) (some false) (lt (w64 (s3.1 + 1)) fun (x5 : Int) => go2 (x5, s3.2)))) (some true)
noncomputable def s_l2Card (n : Nat) (a1 : (V4 Int)) : Option (Bool) :=
  fx (s_l2Card_L1 n) n (0, a1)

/-- i_within -/
noncomputable def i_within (n : Nat) (a1 : Int) (a2 : Int) (a3 : Int) : Option (Bool) :=
  ob (br (decide (a2 ≤ a1)) (some (decide (a1 ≤ a3))) (some false)) fun (x4 : Bool) => some x4

/-- i_allWithin_1'pp -/
noncomputable def i_allWithin_1'pp (n : Nat) (a1 : Int) (a2 : Int) (a3 : Int) : Option (Bool × Int × Int) :=
  ob (i_within n a1 a2 a3) fun (r4 : Bool) => some ((! r4), a2, a3)

/-- slices_IndexFunc_Sint_int_'l_i_allWithin_1pp -/
noncomputable def slices_IndexFunc_Sint_int_'l_i_allWithin_1pp_L1 (n : Nat) (go4 : (List Int) × Int × Int × Int × Int → Option (Int × Int × Int)) (s5 : (List Int) × Int × Int × Int × Int) : Option (Int × Int × Int) :=
  br (decide (s5.2.2.1 < s5.2.1)) (ckb (inb s5.2.2.1 s5.1.length) (ob (i_allWithin_1'pp n (gl 0 s5.1 s5.2.2.1.toNat) s5.2.2.2.1 s5.2.2.2.2) fun (r6 : Bool × Int × Int) => br r6.1 (some (s5.2.2.1, r6.2.1, r6.2.2)) (lt (w64 (s5.2.2.1 + 1)) fun (x7 : Int) => go4 (s5.1, s5.2.1, x7, r6.2.1, r6.2.2)))) (some ((-1), s5.2.2.2.1, s5.2.2.2.2))
noncomputable def slices_IndexFunc_Sint_int_'l_i_allWithin_1pp (n : Nat) (a1 : (List Int)) (a2 : Int) (a3 : Int) : Option (Int × Int × Int) :=
  fx (slices_IndexFunc_Sint_int_'l_i_allWithin_1pp_L1 n) n (a1, (a1.length : Int), 0, a2, a3)

/-- slices_ContainsFunc_Sint_int_'l_i_allWithin_1pp -/
noncomputable def slices_ContainsFunc_Sint_int_'l_i_allWithin_1pp (n : Nat) (a1 : (List Int)) (a2 : Int) (a3 : Int) : Option (Bool × Int × Int) :=
  ob (slices_IndexFunc_Sint_int_'l_i_allWithin_1pp n a1 a2 a3) fun (r4 : Int × Int × Int) => some ((decide (0 ≤ r4.1)), r4.2.1, r4.2.2)

/-- i_allWithin -/
noncomputable def i_allWithin (n : Nat) (a1 : (List Int)) (a2 : Int) (a3 : Int) : Option (Bool) :=
  ob (slices_ContainsFunc_Sint_int_'l_i_allWithin_1pp n a1 a2 a3) fun (r4 : Bool × Int × Int) => some (! r4.1)

/-- i_IsCard -/
noncomputable def i_IsCard (n : Nat) (a1 : (V4 Int)) : Option (Bool) :=
  ob (i_allWithin n (V4.els a1) 0 2) fun (r2 : Bool) => some r2

/-- v_eqIntA4 -/
noncomputable def v_eqIntA4_L1 (n : Nat) (go3 : Int × (V4 Int) × (V4 Int) → Option (Bool)) (s4 : Int × (V4 Int) × (V4 Int)) : Option (Bool) :=
  br (decide (s4.1 < 4)) (ckb (inb s4.1 4) (ckb (inb s4.1 4) (br (!decide ((V4.get s4.2.1 s4.1.toNat) = (V4.get s4.2.2 s4.1.toNat))) (some false) (lt (w64 (s4.1 + 1)) fun (x5 : Int) => go3 (x5, s4.2.1, s4.2.2))))) (some true)
noncomputable def v_eqIntA4 (n : Nat) (a1 : (V4 Int)) (a2 : (V4 Int)) : Option (Bool) :=
  fx (v_eqIntA4_L1 n) n (0, a1, a2)

/-- v_eqIntA4S -/
noncomputable def v_eqIntA4S_L1 (n : Nat) (go3 : (List (V4 Int)) × (List (V4 Int)) × Int → Option (Bool)) (s4 : (List (V4 Int)) × (List (V4 Int)) × Int) : Option (Bool) :=
  br (decide (s4.2.2 < (s4.1.length : Int))) (ckb (inb s4.2.2 s4.1.length) (ckb (inb s4.2.2 s4.2.1.length) (ob (v_eqIntA4 n (gl (⟨0, 0, 0, 0⟩ : (V4 Int)) s4.1 s4.2.2.toNat) (gl (⟨0, 0, 0, 0⟩ : (V4 Int)) s4.2.1 s4.2.2.toNat)) fun (r5 : Bool) => br (! r5) (some false) (lt (w64 (s4.2.2 + 1)) fun (x6 : Int) => go3 (s4.1, s4.2.1, x6))))) (some true)
noncomputable def v_eqIntA4S (n : Nat) (a1 : (List (V4 Int))) (a2 : (List (V4 Int))) : Option (Bool) :=
  br (!decide ((a1.length : Int) = (a2.length : Int))) (some false) (fx (v_eqIntA4S_L1 n) n (a1, a2, 0))

/-- v_szTable -/
noncomputable def v_szTable (n : Nat) (a1 : ((List (V4 Int)) × (Int × Int))) (a2 : Int) : Option (Int) :=
  ob (v_szIntA4S n a1.1 a2) fun (r3 : Int) => br (decide (r3 < 0)) (some (-1)) (some r3)

/-- v_toTable -/
noncomputable def v_toTable (n : Nat) (a1 : ((List (V4 Int)) × (Int × Int))) : Option ((Int × Int) × (List (V4 Int))) :=
  ob (v_toIntA4S n a1.1) fun (r2 : (List (V4 Int))) => some ((a1.2.1, a1.2.2), r2)

/-- s_l2Number -/
noncomputable def s_l2Number (n : Nat) (a1 : (V4 Int)) : Option (Int) :=
  lt (w64 (27 * a1.x0)) fun (x2 : Int) => lt (w64 (9 * a1.x1)) fun (x3 : Int) => lt (w64 (x2 + x3)) fun (x4 : Int) => lt (w64 (3 * a1.x2)) fun (x5 : Int) => lt (w64 (x4 + x5)) fun (x6 : Int) => lt (w64 (x6 + a1.x3)) fun (x7 : Int) => some x7

/-- s_l2Less -/
noncomputable def s_l2Less (n : Nat) (a1 : (V4 Int)) (a2 : (V4 Int)) : Option (Bool) :=
  ob (s_l2Number n a1) fun (r3 : Int) => ob (s_l2Number n a2) fun (r4 : Int) => some (decide (r3 < r4))

/-- s_l2Hand -/
noncomputable def s_l2Hand_L1 (n : Nat) (go2 : (List (V4 Int)) × Int → Option (Bool)) (s3 : (List (V4 Int)) × Int) : Option (Bool) :=
  ob (br (decide (s3.2 < (s3.1.length : Int))) (some (decide (s3.2 ≤ 27))) (some false)) fun (x4 : Bool) => br x4 (ckb (inb s3.2 s3.1.length) (ob (s_l2Card n (gl (⟨0, 0, 0, 0⟩ : (V4 Int)) s3.1 s3.2.toNat)) fun (r5 : Bool) => ob (br (! r5) (some true) (ob (br (decide (0 < s3.2)) (lt (w64 (s3.2 - 1)) fun (x6 : Int) => ckb (inb x6 s3.1.length) (ckb (inb s3.2 s3.1.length) (ob (s_l2Less n (gl (⟨0, 0, 0, 0⟩ : (V4 Int)) s3.1 x6.toNat) (gl (⟨0, 0, 0, 0⟩ : (V4 Int)) s3.1 s3.2.toNat)) fun (r7 : Bool) => some (! r7)))) (some false)) fun (x8 : Bool) => some x8)) fun (x9 : Bool) => br x9 (some false) (lt (w64 (s3.2 + 1)) fun (x10 : Int) => go2 (s3.1, x10)))) (some (decide ((s3.1.length : Int) ≤ 27)))
noncomputable def s_l2Hand (n : Nat) (a1 : (List (V4 Int))) : Option (Bool) :=
  fx (s_l2Hand_L1 n) n (a1, 0)

/-- s_l12Good -/
noncomputable def s_l12Good (n : Nat) (a1 : ((List (V4 Int)) × (Int × Int))) : Option (Bool) :=
  ob (s_l2Hand n a1.1) fun (r2 : Bool) => ob (br r2 (ob (s_l1In n a1.2.1 0 1000) fun (r3 : Bool) => some r3) (some false)) fun (x4 : Bool) => ob (br x4 (ob (s_l1In n a1.2.2 0 1000) fun (r5 : Bool) => some r5) (some false)) fun (x6 : Bool) => some x6

/-- i_number -/
noncomputable def i_number_L1 (n : Nat) (go2 : Int × (V4 Int) × Int → Option (Int)) (s3 : Int × (V4 Int) × Int) : Option (Int) :=
  br (decide (s3.2.2 < 4)) (ckb (inb s3.2.2 4) (lt (w64 (3 * s3.1)) fun (x4 : Int) => lt (w64 (x4 + (V4.get s3.2.1 s3.2.2.toNat))) fun (x5 : Int) => lt (w64 (s3.2.2 + 1)) fun (x6 : Int) => go2 (x5, s3.2.1, x6))) (some s3.1)
noncomputable def i_number (n : Nat) (a1 : (V4 Int)) : Option (Int) :=
  fx (i_number_L1 n) n (0, a1, 0)

/-- i_IsHand -/
noncomputable def i_IsHand_L1 (n : Nat) (go2 : (List (V4 Int)) × (List (V4 Int)) × Int × Int → Option (Bool)) (s3 : (List (V4 Int)) × (List (V4 Int)) × Int × Int) : Option (Bool) :=
  br (decide (s3.2.2.2 < s3.2.2.1)) (ckb (inb s3.2.2.2 s3.2.1.length) (ob (i_IsCard n (gl (⟨0, 0, 0, 0⟩ : (V4 Int)) s3.2.1 s3.2.2.2.toNat)) fun (r4 : Bool) => ob (br (! r4) (some true) (ob (br (decide (0 < s3.2.2.2)) (lt (w64 (s3.2.2.2 - 1)) fun (x5 : Int) => ckb (inb x5 s3.1.length) (ob (i_number n (gl (⟨0, 0, 0, 0⟩ : (V4 Int)) s3.1 x5.toNat)) fun (r6 : Int) => ob (i_number n (gl (⟨0, 0, 0, 0⟩ : (V4 Int)) s3.2.1 s3.2.2.2.toNat)) fun (r7 : Int) => some (decide (r7 ≤ r6)))) (some false)) fun (x8 : Bool) => some x8)) fun (x9 : Bool) => br x9 (some false) (lt (w64 (s3.2.2.2 + 1)) fun (x10 : Int) => go2 (s3.1, s3.2.1, s3.2.2.1, x10)))) (some (decide ((s3.1.length : Int) ≤ 27)))
noncomputable def i_IsHand (n : Nat) (a1 : (List (V4 Int))) : Option (Bool) :=
  fx (i_IsHand_L1 n) n (a1, a1, (a1.length : Int), 0)

/-- i_IsTable -/
noncomputable def i_IsTable (n : Nat) (a1 : ((List (V4 Int)) × (Int × Int))) : Option (Bool) :=
  ob (i_IsHand n a1.1) fun (r2 : Bool) => ob (br r2 (ob (i_within n a1.2.1 0 1000) fun (r3 : Bool) => some r3) (some false)) fun (x4 : Bool) => ob (br x4 (ob (i_within n a1.2.2 0 1000) fun (r5 : Bool) => some r5) (some false)) fun (x6 : Bool) => some x6

/-- v_eqTable -/
noncomputable def v_eqTable (n : Nat) (a1 : ((List (V4 Int)) × (Int × Int))) (a2 : ((List (V4 Int)) × (Int × Int))) : Option (Bool) :=
  ob (v_eqIntA4S n a1.1 a2.1) fun (r3 : Bool) => br (! r3) (some false) (br (!decide (a1.2.1 = a2.2.1)) (some false) (br (!decide (a1.2.2 = a2.2.2)) (some false) (some true)))

/-- s_l2Place -/
noncomputable def s_l2Place_L1 (n : Nat) (go3 : (List (V4 Int)) × Int × (V4 Int) → Option (Int)) (s4 : (List (V4 Int)) × Int × (V4 Int)) : Option (Int) :=
  br (decide (s4.2.1 < (s4.1.length : Int))) (ckb (inb s4.2.1 s4.1.length) (br (eqd (gl (⟨0, 0, 0, 0⟩ : (V4 Int)) s4.1 s4.2.1.toNat) s4.2.2) (some s4.2.1) (lt (w64 (s4.2.1 + 1)) fun (x5 : Int) => go3 (s4.1, x5, s4.2.2)))) (some (-1))
noncomputable def s_l2Place (n : Nat) (a1 : (List (V4 Int))) (a2 : (V4 Int)) : Option (Int) :=
  fx (s_l2Place_L1 n) n (a1, 0, a2)

/-- s_l2Own -/
noncomputable def s_l2Own (n : Nat) (a1 : (List (V4 Int))) : Option ((List (V4 Int))) :=
  ckb (apok 32 (0 + a1.length)) (some a1)

/-- slices_Clone_SA4_A4_ -/
noncomputable def slices_Clone_SA4_A4_ (n : Nat) (a1 : (List (V4 Int))) : Option ((List (V4 Int))) :=
  amb a1.isEmpty fun (b2 : Bool) => br b2 (some ([] : List (V4 Int))) (ckb (apok 32 (0 + a1.length)) (some a1))

/-- v_markIntA4S'o -/
noncomputable def v_markIntA4S'o_L1 (n : Nat) (go3 : Int × Int × (List (V4 Int)) → Option (Int × (List (V4 Int)))) (go5 : Int × Int × Int × (List (V4 Int)) → Option (Int × (List (V4 Int)))) (s6 : Int × Int × Int × (List (V4 Int))) : Option (Int × (List (V4 Int))) :=
  br (decide (s6.2.2.1 < 4)) (ckb (inb s6.2.1 s6.2.2.2.length) (ckb (inb s6.2.2.1 4) (lt (List.set s6.2.2.2 s6.2.1.toNat (V4.set (gl (⟨0, 0, 0, 0⟩ : (V4 Int)) s6.2.2.2 s6.2.1.toNat) s6.2.2.1.toNat s6.1)) fun (x7 : (List (V4 Int))) => lt (w64 (s6.1 + 1)) fun (x8 : Int) => lt (w64 (s6.2.2.1 + 1)) fun (x9 : Int) => go5 (x8, s6.2.1, x9, x7)))) (lt (w64 (s6.2.1 + 1)) fun (x10 : Int) => go3 (s6.1, x10, s6.2.2.2))
noncomputable def v_markIntA4S'o_L2 (n : Nat) (go3 : Int × Int × (List (V4 Int)) → Option (Int × (List (V4 Int)))) (s4 : Int × Int × (List (V4 Int))) : Option (Int × (List (V4 Int))) :=
  br (decide (s4.2.1 < (s4.2.2.length : Int))) (fx (v_markIntA4S'o_L1 n go3) n (s4.1, s4.2.1, 0, s4.2.2)) (some (s4.1, s4.2.2))
noncomputable def v_markIntA4S'o (n : Nat) (a1 : Int) (a2 : (List (V4 Int))) : Option (Int × (List (V4 Int))) :=
  fx (v_markIntA4S'o_L2 n) n (a1, 0, a2)

/-- v_markTable'o -/
noncomputable def v_markTable'o (n : Nat) (a1 : (Int × Int)) (a2 : Int) (a3 : (List (V4 Int))) : Option (Int × (List (V4 Int))) :=
  ob (v_markIntA4S'o n a2 a3) fun (r4 : Int × (List (V4 Int))) => some (r4.1, r4.2)

/-- v_heldIntA4S -/
noncomputable def v_heldIntA4S_L1 (n : Nat) (go3 : (List (V4 Int)) × Int × Int → Option (Int)) (go5 : (List (V4 Int)) × Int × Int × Int → Option (Int)) (s6 : (List (V4 Int)) × Int × Int × Int) : Option (Int) :=
  br (decide (s6.2.2.2 < 4)) (ckb (inb s6.2.2.1 s6.1.length) (ckb (inb s6.2.2.2 4) (br (!decide ((V4.get (gl (⟨0, 0, 0, 0⟩ : (V4 Int)) s6.1 s6.2.2.1.toNat) s6.2.2.2.toNat) = s6.2.1)) (some (-1)) (lt (w64 (s6.2.1 + 1)) fun (x7 : Int) => lt (w64 (s6.2.2.2 + 1)) fun (x8 : Int) => go5 (s6.1, x7, s6.2.2.1, x8))))) (lt (w64 (s6.2.2.1 + 1)) fun (x9 : Int) => go3 (s6.1, s6.2.1, x9))
noncomputable def v_heldIntA4S_L2 (n : Nat) (go3 : (List (V4 Int)) × Int × Int → Option (Int)) (s4 : (List (V4 Int)) × Int × Int) : Option (Int) :=
  br (decide (s4.2.2 < (s4.1.length : Int))) (fx (v_heldIntA4S_L1 n go3) n (s4.1, s4.2.1, s4.2.2, 0)) (some s4.2.1)
noncomputable def v_heldIntA4S (n : Nat) (a1 : (List (V4 Int))) (a2 : Int) : Option (Int) :=
  fx (v_heldIntA4S_L2 n) n (a1, a2, 0)

/-- v_heldTable -/
noncomputable def v_heldTable (n : Nat) (a1 : ((List (V4 Int)) × (Int × Int))) (a2 : Int) : Option (Int) :=
  ob (v_heldIntA4S n a1.1 a2) fun (r3 : Int) => br (decide (r3 < 0)) (some (-1)) (some r3)

/-- s_l2Third -/
noncomputable def s_l2Third_L1 (n : Nat) (go4 : Int × (V4 Int) × (V4 Int) × (V4 Int) × (V4 Int) → Option ((V4 Int))) (s5 : Int × (V4 Int) × (V4 Int) × (V4 Int) × (V4 Int)) : Option ((V4 Int)) :=
  br (decide (s5.1 < 4)) (ckb (inb s5.1 4) (lt (w64 (6 - (V4.get s5.2.1 s5.1.toNat))) fun (x6 : Int) => ckb (inb s5.1 4) (lt (w64 (x6 - (V4.get s5.2.2.1 s5.1.toNat))) fun (x7 : Int) => lt (Int.tmod x7 3) fun (x8 : Int) => ckb (inb s5.1 4) (lt (V4.set s5.2.2.2.2 s5.1.toNat x8) fun (x9 : (V4 Int)) => lt (w64 (s5.1 + 1)) fun (x10 : Int) => go4 (x10, s5.2.1, s5.2.2.1, s5.2.2.2.1, x9))))) (some s5.2.2.2.2)
noncomputable def s_l2Third (n : Nat) (a1 : (V4 Int)) (a2 : (V4 Int)) : Option ((V4 Int)) :=
  lt (⟨0, 0, 0, 0⟩ : (V4 Int)) fun (x3 : (V4 Int)) => fx (s_l2Third_L1 n) n (0, a1, a2, (⟨0, 0, 0, 0⟩ : (V4 Int)), x3)

/-- s_l2Line -/
noncomputable def s_l2Line (n : Nat) (a1 : (V4 Int)) (a2 : (V4 Int)) (a3 : (V4 Int)) : Option (Bool) :=
  ob (br (!eqd a1 a2) (ob (s_l2Third n a1 a2) fun (r4 : (V4 Int)) => some (eqd r4 a3)) (some false)) fun (x5 : Bool) => some x5

/-- i_third -/
noncomputable def i_third_L1 (n : Nat) (go4 : Int × (V4 Int) × (V4 Int) × (V4 Int) × (V4 Int) → Option ((V4 Int))) (s5 : Int × (V4 Int) × (V4 Int) × (V4 Int) × (V4 Int)) : Option ((V4 Int)) :=
  br (decide (s5.1 < 4)) (ckb (inb s5.1 4) (lt (w64 (6 - (V4.get s5.2.1 s5.1.toNat))) fun (x6 : Int) => ckb (inb s5.1 4) (lt (w64 (x6 - (V4.get s5.2.2.1 s5.1.toNat))) fun (x7 : Int) => lt (Int.tmod x7 3) fun (x8 : Int) => ckb (inb s5.1 4) (lt (V4.set s5.2.2.2.2 s5.1.toNat x8) fun (x9 : (V4 Int)) => lt (w64 (s5.1 + 1)) fun (x10 : Int) => go4 (x10, s5.2.1, s5.2.2.1, s5.2.2.2.1, x9))))) (some s5.2.2.2.2)
noncomputable def i_third (n : Nat) (a1 : (V4 Int)) (a2 : (V4 Int)) : Option ((V4 Int)) :=
  lt (⟨0, 0, 0, 0⟩ : (V4 Int)) fun (x3 : (V4 Int)) => fx (i_third_L1 n) n (0, a1, a2, (⟨0, 0, 0, 0⟩ : (V4 Int)), x3)

/-- i_isLine -/
noncomputable def i_isLine (n : Nat) (a1 : (V4 Int)) (a2 : (V4 Int)) (a3 : (V4 Int)) : Option (Bool) :=
  ob (br (!eqd a1 a2) (ob (i_third n a1 a2) fun (r4 : (V4 Int)) => some (eqd r4 a3)) (some false)) fun (x5 : Bool) => some x5

/-- i_linesIn -/
noncomputable def i_linesIn_L1 (n : Nat) (go9 : (List (V4 Int)) × (List (V4 Int)) × Int × Int × (VL 81 Int) × (List (V3 Int)) → Option ((List (V3 Int)))) (go12 : (List (V4 Int)) × Int × Int × (List (V4 Int)) × Int × Int × (VL 81 Int) × (List (V3 Int)) × (V4 Int) → Option ((List (V3 Int)))) (s13 : (List (V4 Int)) × Int × Int × (List (V4 Int)) × Int × Int × (VL 81 Int) × (List (V3 Int)) × (V4 Int)) : Option ((List (V3 Int))) :=
  br (decide (s13.2.2.1 < (s13.1.length : Int))) (ckb (inb s13.2.2.1 s13.1.length) (ob (i_third n s13.2.2.2.2.2.2.2.2 (gl (⟨0, 0, 0, 0⟩ : (V4 Int)) s13.1 s13.2.2.1.toNat)) fun (r14 : (V4 Int)) => ob (i_number n r14) fun (r15 : Int) => ckb (inb r15 81) (lt (w64 ((VL.get 0 s13.2.2.2.2.2.2.1 r15.toNat) - 1)) fun (x16 : Int) => br (decide (s13.2.2.1 < x16)) (lt (⟨s13.2.1, s13.2.2.1, x16⟩ : (V3 Int)) fun (x17 : (V3 Int)) => ckb (apok 24 (s13.2.2.2.2.2.2.2.1.length + 1)) (lt (w64 (s13.2.2.1 + 1)) fun (x18 : Int) => go12 (s13.1, s13.2.1, x18, s13.2.2.2.1, s13.2.2.2.2.1, s13.2.2.2.2.2.1, s13.2.2.2.2.2.2.1, (s13.2.2.2.2.2.2.2.1 ++ [x17]), s13.2.2.2.2.2.2.2.2))) (lt (w64 (s13.2.2.1 + 1)) fun (x19 : Int) => go12 (s13.1, s13.2.1, x19, s13.2.2.2.1, s13.2.2.2.2.1, s13.2.2.2.2.2.1, s13.2.2.2.2.2.2.1, s13.2.2.2.2.2.2.2.1, s13.2.2.2.2.2.2.2.2))))) (lt (w64 (s13.2.2.2.2.2.1 + 1)) fun (x20 : Int) => go9 (s13.1, s13.2.2.2.1, s13.2.2.2.2.1, x20, s13.2.2.2.2.2.2.1, s13.2.2.2.2.2.2.2.1))
noncomputable def i_linesIn_L2 (n : Nat) (go9 : (List (V4 Int)) × (List (V4 Int)) × Int × Int × (VL 81 Int) × (List (V3 Int)) → Option ((List (V3 Int)))) (s10 : (List (V4 Int)) × (List (V4 Int)) × Int × Int × (VL 81 Int) × (List (V3 Int))) : Option ((List (V3 Int))) :=
  br (decide (s10.2.2.2.1 < s10.2.2.1)) (ckb (inb s10.2.2.2.1 s10.2.1.length) (lt (w64 (s10.2.2.2.1 + 1)) fun (x11 : Int) => fx (i_linesIn_L1 n go9) n (s10.1, s10.2.2.2.1, x11, s10.2.1, s10.2.2.1, s10.2.2.2.1, s10.2.2.2.2.1, s10.2.2.2.2.2, (gl (⟨0, 0, 0, 0⟩ : (V4 Int)) s10.2.1 s10.2.2.2.1.toNat)))) (some s10.2.2.2.2.2)
noncomputable def i_linesIn_L3 (n : Nat) (go3 : (List (V4 Int)) × (List (V4 Int)) × Int × Int × (VL 81 Int) → Option ((List (V3 Int)))) (s4 : (List (V4 Int)) × (List (V4 Int)) × Int × Int × (VL 81 Int)) : Option ((List (V3 Int))) :=
  br (decide (s4.2.2.2.1 < s4.2.2.1)) (ckb (inb s4.2.2.2.1 s4.2.1.length) (ob (i_number n (gl (⟨0, 0, 0, 0⟩ : (V4 Int)) s4.2.1 s4.2.2.2.1.toNat)) fun (r5 : Int) => lt (w64 (s4.2.2.2.1 + 1)) fun (x6 : Int) => ckb (inb r5 81) (lt (VL.set s4.2.2.2.2 r5.toNat x6) fun (x7 : (VL 81 Int)) => lt (w64 (s4.2.2.2.1 + 1)) fun (x8 : Int) => go3 (s4.1, s4.2.1, s4.2.2.1, x8, x7)))) (fx (i_linesIn_L2 n) n (s4.1, s4.1, (s4.1.length : Int), 0, s4.2.2.2.2, ([] : List (V3 Int))))
noncomputable def i_linesIn (n : Nat) (a1 : (List (V4 Int))) : Option ((List (V3 Int))) :=
  lt (VL.rep 81 0) fun (x2 : (VL 81 Int)) => fx (i_linesIn_L3 n) n (a1, a1, (a1.length : Int), 0, x2)

/-- slices_Index_Sint_int_ -/
noncomputable def slices_Index_Sint_int__L1 (n : Nat) (go3 : (List Int) × Int × Int × Int → Option (Int)) (s4 : (List Int) × Int × Int × Int) : Option (Int) :=
  br (decide (s4.2.2.2 < s4.2.2.1)) (ckb (inb s4.2.2.2 s4.1.length) (br (decide (s4.2.1 = (gl 0 s4.1 s4.2.2.2.toNat))) (some s4.2.2.2) (lt (w64 (s4.2.2.2 + 1)) fun (x5 : Int) => go3 (s4.1, s4.2.1, s4.2.2.1, x5)))) (some (-1))
noncomputable def slices_Index_Sint_int_ (n : Nat) (a1 : (List Int)) (a2 : Int) : Option (Int) :=
  fx (slices_Index_Sint_int__L1 n) n (a1, a2, (a1.length : Int), 0)

/-- slices_Contains_Sint_int_ -/
noncomputable def slices_Contains_Sint_int_ (n : Nat) (a1 : (List Int)) (a2 : Int) : Option (Bool) :=
  ob (slices_Index_Sint_int_ n a1 a2) fun (r3 : Int) => some (decide (0 ≤ r3))

/-- i_common -/
noncomputable def i_common_L1 (n : Nat) (go3 : Int × (V3 Int) × Int × (V3 Int) → Option (Int)) (s4 : Int × (V3 Int) × Int × (V3 Int)) : Option (Int) :=
  br (decide (s4.2.2.1 < 3)) (ckb (inb s4.2.2.1 3) (ob (slices_Contains_Sint_int_ n (V3.els s4.2.2.2) (V3.get s4.2.1 s4.2.2.1.toNat)) fun (r5 : Bool) => br r5 (lt (w64 (s4.1 + 1)) fun (x6 : Int) => lt (w64 (s4.2.2.1 + 1)) fun (x7 : Int) => go3 (x6, s4.2.1, x7, s4.2.2.2)) (lt (w64 (s4.2.2.1 + 1)) fun (x8 : Int) => go3 (s4.1, s4.2.1, x8, s4.2.2.2)))) (some s4.1)
noncomputable def i_common (n : Nat) (a1 : (V3 Int)) (a2 : (V3 Int)) : Option (Int) :=
  fx (i_common_L1 n) n (0, a1, 0, a2)

/-- s_l2Lines -/
noncomputable def s_l2Lines_L1 (n : Nat) (go2 : (List (V4 Int)) × Int × (List (V3 Int)) → Option ((List (V3 Int)))) (go5 : (List (V4 Int)) × Int × Int × (List (V3 Int)) → Option ((List (V3 Int)))) (s6 : (List (V4 Int)) × Int × Int × (List (V3 Int))) : Option ((List (V3 Int))) :=
  br (decide (s6.2.2.1 < (s6.1.length : Int))) (ckb (inb s6.2.1 s6.1.length) (ckb (inb s6.2.2.1 s6.1.length) (ob (s_l2Third n (gl (⟨0, 0, 0, 0⟩ : (V4 Int)) s6.1 s6.2.1.toNat) (gl (⟨0, 0, 0, 0⟩ : (V4 Int)) s6.1 s6.2.2.1.toNat)) fun (r7 : (V4 Int)) => ob (s_l2Place n s6.1 r7) fun (r8 : Int) => br (decide (s6.2.2.1 < r8)) (lt (⟨s6.2.1, s6.2.2.1, r8⟩ : (V3 Int)) fun (x9 : (V3 Int)) => ckb (apok 24 (s6.2.2.2.length + 1)) (lt (w64 (s6.2.2.1 + 1)) fun (x10 : Int) => go5 (s6.1, s6.2.1, x10, (s6.2.2.2 ++ [x9])))) (lt (w64 (s6.2.2.1 + 1)) fun (x11 : Int) => go5 (s6.1, s6.2.1, x11, s6.2.2.2))))) (lt (w64 (s6.2.1 + 1)) fun (x12 : Int) => go2 (s6.1, x12, s6.2.2.2))
noncomputable def s_l2Lines_L2 (n : Nat) (go2 : (List (V4 Int)) × Int × (List (V3 Int)) → Option ((List (V3 Int)))) (s3 : (List (V4 Int)) × Int × (List (V3 Int))) : Option ((List (V3 Int))) :=
  br (decide (s3.2.1 < (s3.1.length : Int))) (lt (w64 (s3.2.1 + 1)) fun (x4 : Int) => fx (s_l2Lines_L1 n go2) n (s3.1, s3.2.1, x4, s3.2.2)) (some s3.2.2)
noncomputable def s_l2Lines (n : Nat) (a1 : (List (V4 Int))) : Option ((List (V3 Int))) :=
  fx (s_l2Lines_L2 n) n (a1, 0, ([] : List (V3 Int)))

/-- s_l7Common -/
noncomputable def s_l7Common_L1 (n : Nat) (go3 : Int × Int × (V3 Int) × (V3 Int) → Option (Int)) (go5 : Int × Int × Int × (V3 Int) × (V3 Int) → Option (Int)) (s6 : Int × Int × Int × (V3 Int) × (V3 Int)) : Option (Int) :=
  br (decide (s6.2.2.1 < 3)) (ckb (inb s6.2.1 3) (ckb (inb s6.2.2.1 3) (br (decide ((V3.get s6.2.2.2.1 s6.2.1.toNat) = (V3.get s6.2.2.2.2 s6.2.2.1.toNat))) (lt (w64 (s6.1 + 1)) fun (x7 : Int) => lt (w64 (s6.2.2.1 + 1)) fun (x8 : Int) => go5 (x7, s6.2.1, x8, s6.2.2.2.1, s6.2.2.2.2)) (lt (w64 (s6.2.2.1 + 1)) fun (x9 : Int) => go5 (s6.1, s6.2.1, x9, s6.2.2.2.1, s6.2.2.2.2))))) (lt (w64 (s6.2.1 + 1)) fun (x10 : Int) => go3 (s6.1, x10, s6.2.2.2.1, s6.2.2.2.2))
noncomputable def s_l7Common_L2 (n : Nat) (go3 : Int × Int × (V3 Int) × (V3 Int) → Option (Int)) (s4 : Int × Int × (V3 Int) × (V3 Int)) : Option (Int) :=
  br (decide (s4.2.1 < 3)) (fx (s_l7Common_L1 n go3) n (s4.1, s4.2.1, 0, s4.2.2.1, s4.2.2.2)) (some s4.1)
noncomputable def s_l7Common (n : Nat) (a1 : (V3 Int)) (a2 : (V3 Int)) : Option (Int) :=
  fx (s_l7Common_L2 n) n (0, 0, a1, a2)

/-- s_l7Free -/
noncomputable def s_l7Free_L1 (n : Nat) (go3 : (List (V3 Int)) × Int × (V3 Int) → Option (Bool)) (s4 : (List (V3 Int)) × Int × (V3 Int)) : Option (Bool) :=
  br (decide (s4.2.1 < (s4.1.length : Int))) (ckb (inb s4.2.1 s4.1.length) (ob (s_l7Common n (gl (⟨0, 0, 0⟩ : (V3 Int)) s4.1 s4.2.1.toNat) s4.2.2) fun (r5 : Int) => br (decide (0 < r5)) (some false) (lt (w64 (s4.2.1 + 1)) fun (x6 : Int) => go3 (s4.1, x6, s4.2.2)))) (some true)
noncomputable def s_l7Free (n : Nat) (a1 : (List (V3 Int))) (a2 : (V3 Int)) : Option (Bool) :=
  fx (s_l7Free_L1 n) n (a1, 0, a2)

/-- i_GreedyPicking_1'p -/
noncomputable def i_GreedyPicking_1'p (n : Nat) (a1 : (V3 Int)) (a2 : (V3 Int)) : Option (Bool × (V3 Int)) :=
  ob (i_common n a2 a1) fun (r3 : Int) => some ((decide (0 < r3)), a2)

/-- slices_IndexFunc_SA3_A3_'l_i_GreedyPicking_1p -/
noncomputable def slices_IndexFunc_SA3_A3_'l_i_GreedyPicking_1p_L1 (n : Nat) (go3 : (List (V3 Int)) × Int × Int × (V3 Int) → Option (Int × (V3 Int))) (s4 : (List (V3 Int)) × Int × Int × (V3 Int)) : Option (Int × (V3 Int)) :=
  br (decide (s4.2.2.1 < s4.2.1)) (ckb (inb s4.2.2.1 s4.1.length) (ob (i_GreedyPicking_1'p n (gl (⟨0, 0, 0⟩ : (V3 Int)) s4.1 s4.2.2.1.toNat) s4.2.2.2) fun (r5 : Bool × (V3 Int)) => br r5.1 (some (s4.2.2.1, r5.2)) (lt (w64 (s4.2.2.1 + 1)) fun (x6 : Int) => go3 (s4.1, s4.2.1, x6, r5.2)))) (some ((-1), s4.2.2.2))
noncomputable def slices_IndexFunc_SA3_A3_'l_i_GreedyPicking_1p (n : Nat) (a1 : (List (V3 Int))) (a2 : (V3 Int)) : Option (Int × (V3 Int)) :=
  fx (slices_IndexFunc_SA3_A3_'l_i_GreedyPicking_1p_L1 n) n (a1, (a1.length : Int), 0, a2)

/-- slices_ContainsFunc_SA3_A3_'l_i_GreedyPicking_1p -/
noncomputable def slices_ContainsFunc_SA3_A3_'l_i_GreedyPicking_1p (n : Nat) (a1 : (List (V3 Int))) (a2 : (V3 Int)) : Option (Bool × (V3 Int)) :=
  ob (slices_IndexFunc_SA3_A3_'l_i_GreedyPicking_1p n a1 a2) fun (r3 : Int × (V3 Int)) => some ((decide (0 ≤ r3.1)), r3.2)

/-- i_GreedyPicking -/
noncomputable def i_GreedyPicking_L1 (n : Nat) (go4 : Int × Int × (List (V3 Int)) × (List (V3 Int)) → Option (Bool × (List (V3 Int)))) (s5 : Int × Int × (List (V3 Int)) × (List (V3 Int))) : Option (Bool × (List (V3 Int))) :=
  br (decide (s5.2.1 < s5.1)) (ckb (inb s5.2.1 s5.2.2.2.length) (ob (slices_ContainsFunc_SA3_A3_'l_i_GreedyPicking_1p n s5.2.2.1 (gl (⟨0, 0, 0⟩ : (V3 Int)) s5.2.2.2 s5.2.1.toNat)) fun (r6 : Bool × (V3 Int)) => br (! r6.1) (ckb (apok 24 (s5.2.2.1.length + 1)) (lt (w64 (s5.2.1 + 1)) fun (x7 : Int) => go4 (s5.1, x7, (s5.2.2.1 ++ [r6.2]), s5.2.2.2))) (lt (w64 (s5.2.1 + 1)) fun (x8 : Int) => go4 (s5.1, x8, s5.2.2.1, s5.2.2.2)))) (some (true, s5.2.2.1))
noncomputable def i_GreedyPicking (n : Nat) (a1 : (List (V4 Int))) : Option (Bool × (List (V3 Int))) :=
  ob (i_IsHand n a1) fun (r2 : Bool) => br (! r2) (some (false, ([] : List (V3 Int)))) (ob (i_linesIn n a1) fun (r3 : (List (V3 Int))) => fx (i_GreedyPicking_L1 n) n ((r3.length : Int), 0, ([] : List (V3 Int)), r3))

/-- s_GreedyPicking -/
noncomputable def s_GreedyPicking_L1 (n : Nat) (go4 : Int × (List (V3 Int)) × (List (V3 Int)) → Option (Bool × (List (V3 Int)))) (s5 : Int × (List (V3 Int)) × (List (V3 Int))) : Option (Bool × (List (V3 Int))) :=
  br (decide (s5.1 < (s5.2.2.length : Int))) (ckb (inb s5.1 s5.2.2.length) (ob (s_l7Free n s5.2.1 (gl (⟨0, 0, 0⟩ : (V3 Int)) s5.2.2 s5.1.toNat)) fun (r6 : Bool) => br r6 (ckb (inb s5.1 s5.2.2.length) (ckb (apok 24 (s5.2.1.length + 1)) (lt (w64 (s5.1 + 1)) fun (x7 : Int) => go4 (x7, (s5.2.1 ++ [(gl (⟨0, 0, 0⟩ : (V3 Int)) s5.2.2 s5.1.toNat)]), s5.2.2)))) (lt (w64 (s5.1 + 1)) fun (x8 : Int) => go4 (x8, s5.2.1, s5.2.2)))) (some (true, s5.2.1))
noncomputable def s_GreedyPicking (n : Nat) (a1 : (List (V4 Int))) : Option (Bool × (List (V3 Int))) :=
  ob (s_l2Hand n a1) fun (r2 : Bool) => br (! r2) (some (false, ([] : List (V3 Int)))) (ob (s_l2Lines n a1) fun (r3 : (List (V3 Int))) => fx (s_GreedyPicking_L1 n) n (0, ([] : List (V3 Int)), r3))

/-- s_l12Own -/
noncomputable def s_l12Own (n : Nat) (a1 : ((List (V4 Int)) × (Int × Int))) : Option ((Int × Int) × (List (V4 Int))) :=
  ob (s_l2Own n a1.1) fun (r2 : (List (V4 Int))) => some ((a1.2.1, a1.2.2), r2)

/-- _impl_Table__own -/
noncomputable def _impl_Table__own (n : Nat) (a1 : ((List (V4 Int)) × (Int × Int))) : Option ((Int × Int) × (List (V4 Int))) :=
  ob (slices_Clone_SA4_A4_ n a1.1) fun (r2 : (List (V4 Int))) => some (a1.2, r2)

/-- v_eqLog -/
noncomputable def v_eqLog (n : Nat) (a1 : (ByteArray × (ByteArray × Int))) (a2 : (ByteArray × (ByteArray × Int))) : Option (Bool) :=
  br (!eqd a1.1 a2.1) (some false) (br (!eqd a1.2.1 a2.2.1) (some false) (br (!decide (a1.2.2 = a2.2.2)) (some false) (some true)))

/-- v_eqConsole -/
noncomputable def v_eqConsole (n : Nat) (a1 : (((List (V4 Int)) × (Int × Int)) × (ByteArray × (ByteArray × Int)))) (a2 : (((List (V4 Int)) × (Int × Int)) × (ByteArray × (ByteArray × Int)))) : Option (Bool) :=
  ob (v_eqTable n a1.1 a2.1) fun (r3 : Bool) => br (! r3) (some false) (ob (v_eqLog n a1.2 a2.2) fun (r4 : Bool) => br (! r4) (some false) (some true))

/-- v_markConsole'o -/
noncomputable def v_markConsole'o (n : Nat) (a1 : (Int × Int)) (a2 : (ByteArray × (ByteArray × Int))) (a3 : Int) (a4 : (List (V4 Int))) : Option (Int × (List (V4 Int))) :=
  ob (v_markTable'o n a1 a3 a4) fun (r5 : Int × (List (V4 Int))) => some (r5.1, r5.2)

/-- v_heldConsole -/
noncomputable def v_heldConsole (n : Nat) (a1 : (((List (V4 Int)) × (Int × Int)) × (ByteArray × (ByteArray × Int)))) (a2 : Int) : Option (Int) :=
  ob (v_heldTable n a1.1 a2) fun (r3 : Int) => br (decide (r3 < 0)) (some (-1)) (some r3)

/-- s_PointsAhead -/
noncomputable def s_PointsAhead (n : Nat) (a1 : ((List (V4 Int)) × (Int × Int))) : Option (Int × Bool) :=
  ob (s_l12Good n a1) fun (r2 : Bool) => br (! r2) (some (0, false)) (ob (s_GreedyPicking n a1.1) fun (r3 : Bool × (List (V3 Int))) => lt (w64 (a1.2.1 + (r3.2.length : Int))) fun (x4 : Int) => some (x4, true))

/-- i_PointsAhead -/
noncomputable def i_PointsAhead (n : Nat) (a1 : ((List (V4 Int)) × (Int × Int))) : Option (Int × Bool) :=
  ob (i_IsTable n a1) fun (r2 : Bool) => br (! r2) (some (0, false)) (ob (i_GreedyPicking n a1.1) fun (r3 : Bool × (List (V3 Int))) => lt (w64 (a1.2.1 + (r3.2.length : Int))) fun (x4 : Int) => some (x4, true))

/-- v_FnExactPointsAhead -/
noncomputable def v_FnExactPointsAhead (n : Nat) (a1 : ((List (V4 Int)) × (Int × Int))) : Option (Bool) :=
  ob (v_szTable n a1 1048576) fun (r2 : Int) => br (decide (r2 < 0)) (some true) (ob (v_toTable n a1) fun (r3 : (Int × Int) × (List (V4 Int))) => ob (s_PointsAhead n (r3.2, r3.1)) fun (r4 : Int × Bool) => ob (v_toTable n a1) fun (r5 : (Int × Int) × (List (V4 Int))) => ob (i_PointsAhead n (r5.2, r5.1)) fun (r6 : Int × Bool) => ob (br (!decide (r6.1 = r4.1)) (some true) (some (! (r6.2 == r4.2)))) fun (x7 : Bool) => br x7 (some false) (ob (v_toTable n a1) fun (r8 : (Int × Int) × (List (V4 Int))) => ob (v_eqTable n (r5.2, r5.1) (r8.2, r8.1)) fun (r9 : Bool) => br (! r9) (some false) (some true)))

end Go.Pl
