/- Printed by a program of the session: the program's functions as plain functions. -/
import Derived.Test.YtklhncjpkkfjmaaZ0
import Derived.Lib.Bytealg
namespace Go.Pl
open Go Go.Tv Go.RowKit
set_option linter.unusedVariables false
def bls (a b : ByteArray) : Bool := Op.bytesLess a.toList b.toList
/-- v_szIntA4S -/
noncomputable def v_szIntA4S (n : Nat) (a1 : (List (V4 Int))) (a2 : Int) : Option (Int) :=
  lt (w64 (a2 - (a1.length : Int))) fun (x3 : Int) => br (decide (x3 < 0)) (some (-1)) (some x3)

/-- v_toIntA4 -/
noncomputable def v_toIntA4_L1 (n : Nat) (go2 : Int × (V4 Int) × (V4 Int) × (V4 Int) → Option ((V4 Int))) (s3 : Int × (V4 Int) × (V4 Int) × (V4 Int)) : Option ((V4 Int)) :=
  br (decide (s3.1 < 4)) (ckb (inb s3.1 4) (ckb (inb s3.1 4) (lt (V4.set s3.2.2.2 s3.1.toNat (V4.get s3.2.1 s3.1.toNat)) fun (x4 : (V4 Int)) => lt (w64 (s3.1 + 1)) fun (x5 : Int) => go2 (x5, s3.2.1, s3.2.2.1, x4)))) (some s3.2.2.2)
noncomputable def v_toIntA4 (n : Nat) (a1 : (V4 Int)) : Option ((V4 Int)) :=
  fx (v_toIntA4_L1 n) n (0, a1, (⟨0, 0, 0, 0⟩ : (V4 Int)), (⟨0, 0, 0, 0⟩ : (V4 Int)))

/-- v_toIntA4S -/
noncomputable def v_toIntA4S_L1 (n : Nat) (go2 : (List (V4 Int)) × Int × (List (V4 Int)) → Option ((List (V4 Int)))) (s3 : (List (V4 Int)) × Int × (List (V4 Int))) : Option ((List (V4 Int))) :=
  br (decide (s3.2.1 < (s3.1.length : Int))) (ckb (inb s3.2.1 s3.1.length) (ob (v_toIntA4 n (gl (⟨0, 0, 0, 0⟩ : (V4 Int)) s3.1 s3.2.1.toNat)) fun (r4 : (V4 Int)) => ckb (inb s3.2.1 s3.2.2.length) (lt (List.set s3.2.2 s3.2.1.toNat r4) fun (x5 : (List (V4 Int))) => lt (w64 (s3.2.1 + 1)) fun (x6 : Int) => go2 (s3.1, x6, x5)))) (some s3.2.2)
noncomputable def v_toIntA4S (n : Nat) (a1 : (List (V4 Int))) : Option ((List (V4 Int))) :=
  ckb (mkok 32 (a1.length : Int) (a1.length : Int)) (fx (v_toIntA4S_L1 n) n (a1, 0, (List.replicate a1.length (⟨0, 0, 0, 0⟩ : (V4 Int)))))

/-- s_l1In -/
noncomputable def s_l1In (n : Nat) (a1 : Int) (a2 : Int) (a3 : Int) : Option (Bool) :=
  ob (br (decide (a2 ≤ a1)) (some (decide (a1 ≤ a3))) (some false)) fun (x4 : Bool) => some x4

/-- s_l2Card -/
noncomputable def s_l2Card_L1 (n : Nat) (go2 : Int × (V4 Int) → Option (Bool)) (s3 : Int × (V4 Int)) : Option (Bool) :=
  br (decide (s3.1 < 4)) (ckb (inb s3.1 4) (ob (s_l1In n (V4.get s3.2 s3.1.toNat) 0 2) fun (r4 : Bool) => br (! r4) (some false) (lt (w64 (s3.1 + 1)) fun (x5 : Int) => go2 (x5, s3.2)))) (some true)
noncomputable def s_l2Card (n : Nat) (a1 : (V4 Int)) : Option (Bool) :=
  fx (s_l2Card_L1 n) n (0, a1)

/-- s_l2Differ -/
noncomputable def s_l2Differ_L1 (n : Nat) (go3 : Int × Int × (V4 Int) × (V4 Int) → Option (Int)) (s4 : Int × Int × (V4 Int) × (V4 Int)) : Option (Int) :=
  br (decide (s4.2.1 < 4)) (ckb (inb s4.2.1 4) (ckb (inb s4.2.1 4) (br (!decide ((V4.get s4.2.2.1 s4.2.1.toNat) = (V4.get s4.2.2.2 s4.2.1.toNat))) (lt (w64 (s4.1 + 1)) fun (x5 : Int) => lt (w64 (s4.2.1 + 1)) fun (x6 : Int) => go3 (x5, x6, s4.2.2.1, s4.2.2.2)) (lt (w64 (s4.2.1 + 1)) fun (x7 : Int) => go3 (s4.1, x7, s4.2.2.1, s4.2.2.2))))) (some s4.1)
noncomputable def s_l2Differ (n : Nat) (a1 : (V4 Int)) (a2 : (V4 Int)) : Option (Int) :=
  fx (s_l2Differ_L1 n) n (0, 0, a1, a2)

/-- i_within -/
noncomputable def i_within (n : Nat) (a1 : Int) (a2 : Int) (a3 : Int) : Option (Bool) :=
  ob (br (decide (a2 ≤ a1)) (some (decide (a1 ≤ a3))) (some false)) fun (x4 : Bool) => some x4

/-- i_allWithin_1'pp -/
noncomputable def i_allWithin_1'pp (n : Nat) (a1 : Int) (a2 : Int) (a3 : Int) : Option (Bool × Int × Int) :=
  ob (i_within n a1 a2 a3) fun (r4 : Bool) => some ((! r4), a2, a3)

/-- slices_IndexFunc_Sint_int_'l_i_allWithin_1pp -/
noncomputable def slices_IndexFunc_Sint_int_'l_i_allWithin_1pp_L1 (n : Nat) (go4 : (List Int) × Int × Int × Int × Int → Option (Int × Int × Int)) (s5 : (List Int) × Int × Int × Int × Int) : Option (Int × Int × Int) :=
  br (decide (s5.2.2.1 < s5.2.1)) (ckb (inb s5.2.2.1 s5.1.length) (ob (i_allWithin_1'pp n (gl 0 s5.1 s5.2.2.1.toNat) s5.2.2.2.1 s5.2.2.2.2) fun (r6 : Bool × Int × Int) => br r6.1 (some (s5.2.2.1, r6.2.1, r6.2.2)) (lt (w64 (s5.2.2.1 + 1)) fun (x7 : Int) => go4 (s5.1, s5.2.1, x7, r6.2.1, r6.2.2)))) (some ((-1), s5.2.2.2.1, s5.2.2.2.2))
noncomputable def slices_IndexFunc_Sint_int_'l_i_allWithin_1pp (n : Nat) (a1 : (List Int)) (a2 : Int) (a3 : Int) : Option (Int × Int × Int) :=
  fx (slices_IndexFunc_Sint_int_'l_i_allWithin_1pp_L1 n) n (a1, (a1.length : Int), 0, a2, a3)

/-- slices_ContainsFunc_Sint_int_'l_i_allWithin_1pp -/
noncomputable def slices_ContainsFunc_Sint_int_'l_i_allWithin_1pp (n : Nat) (a1 : (List Int)) (a2 : Int) (a3 : Int) : Option (Bool × Int × Int) :=
  ob (slices_IndexFunc_Sint_int_'l_i_allWithin_1pp n a1 a2 a3) fun (r4 : Int × Int × Int) => some ((decide (0 ≤ r4.1)), r4.2.1, r4.2.2)

/-- i_allWithin -/
noncomputable def i_allWithin (n : Nat) (a1 : (List Int)) (a2 : Int) (a3 : Int) : Option (Bool) :=
  ob (slices_ContainsFunc_Sint_int_'l_i_allWithin_1pp n a1 a2 a3) fun (r4 : Bool × Int × Int) => some (! r4.1)

/-- i_IsCard -/
noncomputable def i_IsCard (n : Nat) (a1 : (V4 Int)) : Option (Bool) :=
  ob (i_allWithin n (V4.els a1) 0 2) fun (r2 : Bool) => some r2

/-- i_areCards_1 -/
noncomputable def i_areCards_1 (n : Nat) (a1 : (V4 Int)) : Option (Bool) :=
  ob (i_IsCard n a1) fun (r2 : Bool) => some (! r2)

/-- slices_IndexFunc_SA4_A4_'l_i_areCards_1 -/
noncomputable def slices_IndexFunc_SA4_A4_'l_i_areCards_1_L1 (n : Nat) (go2 : (List (V4 Int)) × Int × Int → Option (Int)) (s3 : (List (V4 Int)) × Int × Int) : Option (Int) :=
  br (decide (s3.2.2 < s3.2.1)) (ckb (inb s3.2.2 s3.1.length) (ob (i_areCards_1 n (gl (⟨0, 0, 0, 0⟩ : (V4 Int)) s3.1 s3.2.2.toNat)) fun (r4 : Bool) => br r4 (some s3.2.2) (lt (w64 (s3.2.2 + 1)) fun (x5 : Int) => go2 (s3.1, s3.2.1, x5)))) (some (-1))
noncomputable def slices_IndexFunc_SA4_A4_'l_i_areCards_1 (n : Nat) (a1 : (List (V4 Int))) : Option (Int) :=
  fx (slices_IndexFunc_SA4_A4_'l_i_areCards_1_L1 n) n (a1, (a1.length : Int), 0)

/-- slices_ContainsFunc_SA4_A4_'l_i_areCards_1 -/
noncomputable def slices_ContainsFunc_SA4_A4_'l_i_areCards_1 (n : Nat) (a1 : (List (V4 Int))) : Option (Bool) :=
  ob (slices_IndexFunc_SA4_A4_'l_i_areCards_1 n a1) fun (r2 : Int) => some (decide (0 ≤ r2))

/-- i_areCards -/
noncomputable def i_areCards (n : Nat) (a1 : (List (V4 Int))) : Option (Bool) :=
  ob (slices_ContainsFunc_SA4_A4_'l_i_areCards_1 n a1) fun (r2 : Bool) => some (! r2)

/-- i_differ -/
noncomputable def i_differ_L1 (n : Nat) (go3 : Int × Int × (V4 Int) × (V4 Int) → Option (Int)) (s4 : Int × Int × (V4 Int) × (V4 Int)) : Option (Int) :=
  br (decide (s4.2.1 < 4)) (ckb (inb s4.2.1 4) (ckb (inb s4.2.1 4) (br (!decide ((V4.get s4.2.2.1 s4.2.1.toNat) = (V4.get s4.2.2.2 s4.2.1.toNat))) (lt (w64 (s4.1 + 1)) fun (x5 : Int) => lt (w64 (s4.2.1 + 1)) fun (x6 : Int) => go3 (x5, x6, s4.2.2.1, s4.2.2.2)) (lt (w64 (s4.2.1 + 1)) fun (x7 : Int) => go3 (s4.1, x7, s4.2.2.1, s4.2.2.2))))) (some s4.1)
noncomputable def i_differ (n : Nat) (a1 : (V4 Int)) (a2 : (V4 Int)) : Option (Int) :=
  fx (i_differ_L1 n) n (0, 0, a1, a2)

/-- v_eqIntA4 -/
noncomputable def v_eqIntA4_L1 (n : Nat) (go3 : Int × (V4 Int) × (V4 Int) → Option (Bool)) (s4 : Int × (V4 Int) × (V4 Int)) : Option (Bool) :=
  br (decide (s4.1 < 4)) (ckb (inb s4.1 4) (ckb (inb s4.1 4) (br (!decide ((V4.get s4.2.1 s4.1.toNat) = (V4.get s4.2.2 s4.1.toNat))) (some false) (lt (w64 (s4.1 + 1)) fun (x5 : Int) => go3 (x5, s4.2.1, s4.2.2))))) (some true)
noncomputable def v_eqIntA4 (n : Nat) (a1 : (V4 Int)) (a2 : (V4 Int)) : Option (Bool) :=
  fx (v_eqIntA4_L1 n) n (0, a1, a2)

/-- v_eqIntA4S -/
noncomputable def v_eqIntA4S_L1 (n : Nat) (go3 : (List (V4 Int)) × (List (V4 Int)) × Int → Option (Bool)) (s4 : (List (V4 Int)) × (List (V4 Int)) × Int) : Option (Bool) :=
  br (decide (s4.2.2 < (s4.1.length : Int))) (ckb (inb s4.2.2 s4.1.length) (ckb (inb s4.2.2 s4.2.1.length) (ob (v_eqIntA4 n (gl (⟨0, 0, 0, 0⟩ : (V4 Int)) s4.1 s4.2.2.toNat) (gl (⟨0, 0, 0, 0⟩ : (V4 Int)) s4.2.1 s4.2.2.toNat)) fun (r5 : Bool) => br (! r5) (some false) (lt (w64 (s4.2.2 + 1)) fun (x6 : Int) => go3 (s4.1, s4.2.1, x6))))) (some true)
noncomputable def v_eqIntA4S (n : Nat) (a1 : (List (V4 Int))) (a2 : (List (V4 Int))) : Option (Bool) :=
  br (!decide ((a1.length : Int) = (a2.length : Int))) (some false) (fx (v_eqIntA4S_L1 n) n (a1, a2, 0))

/-- s_l2Number -/
noncomputable def s_l2Number (n : Nat) (a1 : (V4 Int)) : Option (Int) :=
  lt (w64 (27 * a1.x0)) fun (x2 : Int) => lt (w64 (9 * a1.x1)) fun (x3 : Int) => lt (w64 (x2 + x3)) fun (x4 : Int) => lt (w64 (3 * a1.x2)) fun (x5 : Int) => lt (w64 (x4 + x5)) fun (x6 : Int) => lt (w64 (x6 + a1.x3)) fun (x7 : Int) => some x7

/-- s_l2Less -/
noncomputable def s_l2Less (n : Nat) (a1 : (V4 Int)) (a2 : (V4 Int)) : Option (Bool) :=
  ob (s_l2Number n a1) fun (r3 : Int) => ob (s_l2Number n a2) fun (r4 : Int) => some (decide (r3 < r4))

/-- s_l2Hand -/
noncomputable def s_l2Hand_L1 (n : Nat) (go2 : (List (V4 Int)) × Int → Option (Bool)) (s3 : (List (V4 Int)) × Int) : Option (Bool) :=
  ob (br (decide (s3.2 < (s3.1.length : Int))) (some (decide (s3.2 ≤ 27))) (some false)) fun (x4 : Bool) => br x4 (ckb (inb s3.2 s3.1.length) (ob (s_l2Card n (gl (⟨0, 0, 0, 0⟩ : (V4 Int)) s3.1 s3.2.toNat)) fun (r5 : Bool) => ob (br (! r5) (some true) (ob (br (decide (0 < s3.2)) (lt (w64 (s3.2 - 1)) fun (x6 : Int) => ckb (inb x6 s3.1.length) (ckb (inb s3.2 s3.1.length) (ob (s_l2Less n (gl (⟨0, 0, 0, 0⟩ : (V4 Int)) s3.1 x6.toNat) (gl (⟨0, 0, 0, 0⟩ : (V4 Int)) s3.1 s3.2.toNat)) fun (r7 : Bool) => some (! r7)))) (some false)) fun (x8 : Bool) => some x8)) fun (x9 : Bool) => br x9 (some false) (lt (w64 (s3.2 + 1)) fun (x10 : Int) => go2 (s3.1, x10)))) (some (decide ((s3.1.length : Int) ≤ 27)))
noncomputable def s_l2Hand (n : Nat) (a1 : (List (V4 Int))) : Option (Bool) :=
  fx (s_l2Hand_L1 n) n (a1, 0)

/-- i_number -/
noncomputable def i_number_L1 (n : Nat) (go2 : Int × (V4 Int) × Int → Option (Int)) (s3 : Int × (V4 Int) × Int) : Option (Int) :=
  br (decide (s3.2.2 < 4)) (ckb (inb s3.2.2 4) (lt (w64 (3 * s3.1)) fun (x4 : Int) => lt (w64 (x4 + (V4.get s3.2.1 s3.2.2.toNat))) fun (x5 : Int) => lt (w64 (s3.2.2 + 1)) fun (x6 : Int) => go2 (x5, s3.2.1, x6))) (some s3.1)
noncomputable def i_number (n : Nat) (a1 : (V4 Int)) : Option (Int) :=
  fx (i_number_L1 n) n (0, a1, 0)

/-- i_IsHand -/
noncomputable def i_IsHand_L1 (n : Nat) (go2 : (List (V4 Int)) × (List (V4 Int)) × Int × Int → Option (Bool)) (s3 : (List (V4 Int)) × (List (V4 Int)) × Int × Int) : Option (Bool) :=
  br (decide (s3.2.2.2 < s3.2.2.1)) (ckb (inb s3.2.2.2 s3.2.1.length) (ob (i_IsCard n (gl (⟨0, 0, 0, 0⟩ : (V4 Int)) s3.2.1 s3.2.2.2.toNat)) fun (r4 : Bool) => ob (br (! r4) (some true) (ob (br (decide (0 < s3.2.2.2)) (lt (w64 (s3.2.2.2 - 1)) fun (x5 : Int) => ckb (inb x5 s3.1.length) (ob (i_number n (gl (⟨0, 0, 0, 0⟩ : (V4 Int)) s3.1 x5.toNat)) fun (r6 : Int) => ob (i_number n (gl (⟨0, 0, 0, 0⟩ : (V4 Int)) s3.2.1 s3.2.2.2.toNat)) fun (r7 : Int) => some (decide (r7 ≤ r6)))) (some false)) fun (x8 : Bool) => some x8)) fun (x9 : Bool) => br x9 (some false) (lt (w64 (s3.2.2.2 + 1)) fun (x10 : Int) => go2 (s3.1, s3.2.1, s3.2.2.1, x10)))) (some (decide ((s3.1.length : Int) ≤ 27)))
noncomputable def i_IsHand (n : Nat) (a1 : (List (V4 Int))) : Option (Bool) :=
  fx (i_IsHand_L1 n) n (a1, a1, (a1.length : Int), 0)

/-- v_eqTable -/
noncomputable def v_eqTable (n : Nat) (a1 : ((List (V4 Int)) × (Int × Int))) (a2 : ((List (V4 Int)) × (Int × Int))) : Option (Bool) :=
  ob (v_eqIntA4S n a1.1 a2.1) fun (r3 : Bool) => br (! r3) (some false) (br (!decide (a1.2.1 = a2.2.1)) (some false) (br (!decide (a1.2.2 = a2.2.2)) (some false) (some true)))

/-- s_l2Place -/
noncomputable def s_l2Place_L1 (n : Nat) (go3 : (List (V4 Int)) × Int × (V4 Int) → Option (Int)) (s4 : (List (V4 Int)) × Int × (V4 Int)) : Option (Int) :=
  br (decide (s4.2.1 < (s4.1.length : Int))) (ckb (inb s4.2.1 s4.1.length) (br (eqd (gl (⟨0, 0, 0, 0⟩ : (V4 Int)) s4.1 s4.2.1.toNat) s4.2.2) (some s4.2.1) (lt (w64 (s4.2.1 + 1)) fun (x5 : Int) => go3 (s4.1, x5, s4.2.2)))) (some (-1))
noncomputable def s_l2Place (n : Nat) (a1 : (List (V4 Int))) (a2 : (V4 Int)) : Option (Int) :=
  fx (s_l2Place_L1 n) n (a1, 0, a2)

/-- s_l2Own -/
noncomputable def s_l2Own (n : Nat) (a1 : (List (V4 Int))) : Option ((List (V4 Int))) :=
  ckb (apok 32 (0 + a1.length)) (some a1)

/-- slices_Clone_SA4_A4_ -/
noncomputable def slices_Clone_SA4_A4_ (n : Nat) (a1 : (List (V4 Int))) : Option ((List (V4 Int))) :=
  amb a1.isEmpty fun (b2 : Bool) => br b2 (some ([] : List (V4 Int))) (ckb (apok 32 (0 + a1.length)) (some a1))

/-- v_markIntA4S'o -/
noncomputable def v_markIntA4S'o_L1 (n : Nat) (go3 : Int × Int × (List (V4 Int)) → Option (Int × (List (V4 Int)))) (go5 : Int × Int × Int × (List (V4 Int)) → Option (Int × (List (V4 Int)))) (s6 : Int × Int × Int × (List (V4 Int))) : Option (Int × (List (V4 Int))) :=
  br (decide (s6.2.2.1 < 4)) (ckb (inb s6.2.1 s6.2.2.2.length) (ckb (inb s6.2.2.1 4) (lt (List.set s6.2.2.2 s6.2.1.toNat (V4.set (gl (⟨0, 0, 0, 0⟩ : (V4 Int)) s6.2.2.2 s6.2.1.toNat) s6.2.2.1.toNat s6.1)) fun (x7 : (List (V4 Int))) => lt (w64 (s6.1 + 1)) fun (x8 : Int) => lt (w64 (s6.2.2.1 + 1)) fun (x9 : Int) => go5 (x8, s6.2.1, x9, x7)))) (lt (w64 (s6.2.1 + 1)) fun (x10 : Int) => go3 (s6.1, x10, s6.2.2.2))
noncomputable def v_markIntA4S'o_L2 (n : Nat) (go3 : Int × Int × (List (V4 Int)) → Option (Int × (List (V4 Int)))) (s4 : Int × Int × (List (V4 Int))) : Option (Int × (List (V4 Int))) :=
  br (decide (s4.2.1 < (s4.2.2.length : Int))) (fx (v_markIntA4S'o_L1 n go3) n (s4.1, s4.2.1, 0, s4.2.2)) (some (s4.1, s4.2.2))
noncomputable def v_markIntA4S'o (n : Nat) (a1 : Int) (a2 : (List (V4 Int))) : Option (Int × (List (V4 Int))) :=
  fx (v_markIntA4S'o_L2 n) n (a1, 0, a2)

/-- v_markTable'o -/
noncomputable def v_markTable'o (n : Nat) (a1 : (Int × Int)) (a2 : Int) (a3 : (List (V4 Int))) : Option (Int × (List (V4 Int))) :=
  ob (v_markIntA4S'o n a2 a3) fun (r4 : Int × (List (V4 Int))) => some (r4.1, r4.2)

/-- v_heldIntA4S -/
noncomputable def v_heldIntA4S_L1 (n : Nat) (go3 : (List (V4 Int)) × Int × Int → Option (Int)) (go5 : (List (V4 Int)) × Int × Int × Int → Option (Int)) (s6 : (List (V4 Int)) × Int × Int × Int) : Option (Int) :=
  br (decide (s6.2.2.2 < 4)) (ckb (inb s6.2.2.1 s6.1.length) (ckb (inb s6.2.2.2 4) (br (!decide ((V4.get (gl (⟨0, 0, 0, 0⟩ : (V4 Int)) s6.1 s6.2.2.1.toNat) s6.2.2.2.toNat) = s6.2.1)) (some (-1)) (lt (w64 (s6.2.1 + 1)) fun (x7 : Int) => lt (w64 (s6.2.2.2 + 1)) fun (x8 : Int) => go5 (s6.1, x7, s6.2.2.1, x8))))) (lt (w64 (s6.2.2.1 + 1)) fun (x9 : Int) => go3 (s6.1, s6.2.1, x9))
noncomputable def v_heldIntA4S_L2 (n : Nat) (go3 : (List (V4 Int)) × Int × Int → Option (Int)) (s4 : (List (V4 Int)) × Int × Int) : Option (Int) :=
  br (decide (s4.2.2 < (s4.1.length : Int))) (fx (v_heldIntA4S_L1 n go3) n (s4.1, s4.2.1, s4.2.2, 0)) (some s4.2.1)
noncomputable def v_heldIntA4S (n : Nat) (a1 : (List (V4 Int))) (a2 : Int) : Option (Int) :=
  fx (v_heldIntA4S_L2 n) n (a1, a2, 0)

/-- v_heldTable -/
noncomputable def v_heldTable (n : Nat) (a1 : ((List (V4 Int)) × (Int × Int))) (a2 : Int) : Option (Int) :=
  ob (v_heldIntA4S n a1.1 a2) fun (r3 : Int) => br (decide (r3 < 0)) (some (-1)) (some r3)

/-- s_l2Third -/
noncomputable def s_l2Third_L1 (n : Nat) (go4 : Int × (V4 Int) × (V4 Int) × (V4 Int) × (V4 Int) → Option ((V4 Int))) (s5 : Int × (V4 Int) × (V4 Int) × (V4 Int) × (V4 Int)) : Option ((V4 Int)) :=
  br (decide (s5.1 < 4)) (ckb (inb s5.1 4) (lt (w64 (6 - (V4.get s5.2.1 s5.1.toNat))) fun (x6 : Int) => ckb (inb s5.1 4) (lt (w64 (x6 - (V4.get s5.2.2.1 s5.1.toNat))) fun (x7 : Int) => lt (Int.tmod x7 3) fun (x8 : Int) => ckb (inb s5.1 4) (lt (V4.set s5.2.2.2.2 s5.1.toNat x8) fun (x9 : (V4 Int)) => lt (w64 (s5.1 + 1)) fun (x10 : Int) => go4 (x10, s5.2.1, s5.2.2.1, s5.2.2.2.1, x9))))) (some s5.2.2.2.2)
noncomputable def s_l2Third (n : Nat) (a1 : (V4 Int)) (a2 : (V4 Int)) : Option ((V4 Int)) :=
  lt (⟨0, 0, 0, 0⟩ : (V4 Int)) fun (x3 : (V4 Int)) => fx (s_l2Third_L1 n) n (0, a1, a2, (⟨0, 0, 0, 0⟩ : (V4 Int)), x3)

/-- s_l2Line -/
noncomputable def s_l2Line (n : Nat) (a1 : (V4 Int)) (a2 : (V4 Int)) (a3 : (V4 Int)) : Option (Bool) :=
  ob (br (!eqd a1 a2) (ob (s_l2Third n a1 a2) fun (r4 : (V4 Int)) => some (eqd r4 a3)) (some false)) fun (x5 : Bool) => some x5

/-- i_third -/
noncomputable def i_third_L1 (n : Nat) (go4 : Int × (V4 Int) × (V4 Int) × (V4 Int) × (V4 Int) → Option ((V4 Int))) (s5 : Int × (V4 Int) × (V4 Int) × (V4 Int) × (V4 Int)) : Option ((V4 Int)) :=
  br (decide (s5.1 < 4)) (ckb (inb s5.1 4) (lt (w64 (6 - (V4.get s5.2.1 s5.1.toNat))) fun (x6 : Int) => ckb (inb s5.1 4) (lt (w64 (x6 - (V4.get s5.2.2.1 s5.1.toNat))) fun (x7 : Int) => lt (Int.tmod x7 3) fun (x8 : Int) => ckb (inb s5.1 4) (lt (V4.set s5.2.2.2.2 s5.1.toNat x8) fun (x9 : (V4 Int)) => lt (w64 (s5.1 + 1)) fun (x10 : Int) => go4 (x10, s5.2.1, s5.2.2.1, s5.2.2.2.1, x9))))) (some s5.2.2.2.2)
noncomputable def i_third (n : Nat) (a1 : (V4 Int)) (a2 : (V4 Int)) : Option ((V4 Int)) :=
  lt (⟨0, 0, 0, 0⟩ : (V4 Int)) fun (x3 : (V4 Int)) => fx (i_third_L1 n) n (0, a1, a2, (⟨0, 0, 0, 0⟩ : (V4 Int)), x3)

/-- i_isLine -/
noncomputable def i_isLine (n : Nat) (a1 : (V4 Int)) (a2 : (V4 Int)) (a3 : (V4 Int)) : Option (Bool) :=
  ob (br (!eqd a1 a2) (ob (i_third n a1 a2) fun (r4 : (V4 Int)) => some (eqd r4 a3)) (some false)) fun (x5 : Bool) => some x5

/-- s_Cur_next'p -/
noncomputable def s_Cur_next'p_J1 (n : Nat) (s2 : Int × ((List Int) × (Int × Int))) : Option (Int × ((List Int) × (Int × Int))) :=
  lt (w64 (s2.2.2.1 + 1)) fun (x3 : Int) => lt (s2.2.1, (x3, s2.2.2.2)) fun (x4 : ((List Int) × (Int × Int))) => lt (IntKind.wrap .u64 (x4.2.2 * 6364136223846793005)) fun (x5 : Int) => lt (IntKind.wrap .u64 s2.1) fun (x6 : Int) => lt (IntKind.wrap .u64 (x5 + x6)) fun (x7 : Int) => lt (IntKind.wrap .u64 (x7 + 462197)) fun (x8 : Int) => lt (x4.1, (x4.2.1, x8)) fun (x9 : ((List Int) × (Int × Int))) => br (decide (x9.2.1 ≤ (x9.1.length : Int))) (some (s2.1, x9)) (lt (shrI .u64 x9.2.2 40) fun (x10 : Int) => lt (bits .and .u64 x10 255) fun (x11 : Int) => lt (w64 x11) fun (x12 : Int) => some (x12, x9))
noncomputable def s_Cur_next'p (n : Nat) (a1 : ((List Int) × (Int × Int))) : Option (Int × ((List Int) × (Int × Int))) :=
  br (decide (a1.2.1 < (a1.1.length : Int))) (ckb (inb a1.2.1 a1.1.length) (lt (w64 (gl 0 a1.1 a1.2.1.toNat)) fun (x13 : Int) => s_Cur_next'p_J1 n (x13, a1))) (s_Cur_next'p_J1 n (0, a1))

/-- s_Cur_pick'p -/
noncomputable def s_Cur_pick'p (n : Nat) (a1 : Int) (a2 : ((List Int) × (Int × Int))) : Option (Int × ((List Int) × (Int × Int))) :=
  br (decide (a1 ≤ 1)) (some (0, a2)) (ob (s_Cur_next'p n a2) fun (r3 : Int × ((List Int) × (Int × Int))) => br (decide (200 < a1)) (lt (w64 (r3.1 * 256)) fun (x4 : Int) => ob (s_Cur_next'p n r3.2) fun (r5 : Int × ((List Int) × (Int × Int))) => lt (w64 (x4 + r5.1)) fun (x6 : Int) => ckb (!decide (a1 = 0)) (lt (Int.tmod x6 a1) fun (x7 : Int) => some (x7, r5.2))) (ckb (!decide (a1 = 0)) (lt (Int.tmod r3.1 a1) fun (x8 : Int) => some (x8, r3.2))))

/-- s_Cur_among'pl -/
noncomputable def s_Cur_among'pl (n : Nat) (a1 : (List Int)) (a2 : ((List Int) × (Int × Int))) : Option (Int × ((List Int) × (Int × Int))) :=
  ob (s_Cur_pick'p n (a1.length : Int) a2) fun (r3 : Int × ((List Int) × (Int × Int))) => ckb (inb r3.1 a1.length) (some ((gl 0 a1 r3.1.toNat), r3.2))

/-- s_l2At -/
noncomputable def s_l2At (n : Nat) (a1 : Int) : Option ((V4 Int)) :=
  lt (w64 (Int.tdiv a1 27)) fun (x2 : Int) => lt (w64 (Int.tdiv a1 9)) fun (x3 : Int) => lt (Int.tmod x3 3) fun (x4 : Int) => lt (w64 (Int.tdiv a1 3)) fun (x5 : Int) => lt (Int.tmod x5 3) fun (x6 : Int) => lt (Int.tmod a1 3) fun (x7 : Int) => lt (⟨x2, x4, x6, x7⟩ : (V4 Int)) fun (x8 : (V4 Int)) => some x8

/-- s_Cur_one'p -/
noncomputable def s_Cur_one'p (n : Nat) (a1 : Int) (a2 : ((List Int) × (Int × Int))) : Option (Bool × ((List Int) × (Int × Int))) :=
  ob (s_Cur_pick'p n a1 a2) fun (r3 : Int × ((List Int) × (Int × Int))) => some ((decide (r3.1 = 0)), r3.2)

/-- i_linesIn -/
noncomputable def i_linesIn_L1 (n : Nat) (go9 : (List (V4 Int)) × (List (V4 Int)) × Int × Int × (VL 81 Int) × (List (V3 Int)) → Option ((List (V3 Int)))) (go12 : (List (V4 Int)) × Int × Int × (List (V4 Int)) × Int × Int × (VL 81 Int) × (List (V3 Int)) × (V4 Int) → Option ((List (V3 Int)))) (s13 : (List (V4 Int)) × Int × Int × (List (V4 Int)) × Int × Int × (VL 81 Int) × (List (V3 Int)) × (V4 Int)) : Option ((List (V3 Int))) :=
  br (decide (s13.2.2.1 < (s13.1.length : Int))) (ckb (inb s13.2.2.1 s13.1.length) (ob (i_third n s13.2.2.2.2.2.2.2.2 (gl (⟨0, 0, 0, 0⟩ : (V4 Int)) s13.1 s13.2.2.1.toNat)) fun (r14 : (V4 Int)) => ob (i_number n r14) fun (r15 : Int) => ckb (inb r15 81) (lt (w64 ((VL.get 0 s13.2.2.2.2.2.2.1 r15.toNat) - 1)) fun (x16 : Int) => br (decide (s13.2.2.1 < x16)) (lt (⟨s13.2.1, s13.2.2.1, x16⟩ : (V3 Int)) fun (x17 : (V3 Int)) => ckb (apok 24 (s13.2.2.2.2.2.2.2.1.length + 1)) (lt (w64 (s13.2.2.1 + 1)) fun (x18 : Int) => go12 (s13.1, s13.2.1, x18, s13.2.2.2.1, s13.2.2.2.2.1, s13.2.2.2.2.2.1, s13.2.2.2.2.2.2.1, (s13.2.2.2.2.2.2.2.1 ++ [x17]), s13.2.2.2.2.2.2.2.2))) (lt (w64 (s13.2.2.1 + 1)) fun (x19 : Int) => go12 (s13.1, s13.2.1, x19, s13.2.2.2.1, s13.2.2.2.2.1, s13.2.2.2.2.2.1, s13.2.2.2.2.2.2.1, s13.2.2.2.2.2.2.2.1, s13.2.2.2.2.2.2.2.2))))) (lt (w64 (s13.2.2.2.2.2.1 + 1)) fun (x20 : Int) => go9 (s13.1, s13.2.2.2.1, s13.2.2.2.2.1, x20, s13.2.2.2.2.2.2.1, s13.2.2.2.2.2.2.2.1))
noncomputable def i_linesIn_L2 (n : Nat) (go9 : (List (V4 Int)) × (List (V4 Int)) × Int × Int × (VL 81 Int) × (List (V3 Int)) → Option ((List (V3 Int)))) (s10 : (List (V4 Int)) × (List (V4 Int)) × Int × Int × (VL 81 Int) × (List (V3 Int))) : Option ((List (V3 Int))) :=
  br (decide (s10.2.2.2.1 < s10.2.2.1)) (ckb (inb s10.2.2.2.1 s10.2.1.length) (lt (w64 (s10.2.2.2.1 + 1)) fun (x11 : Int) => fx (i_linesIn_L1 n go9) n (s10.1, s10.2.2.2.1, x11, s10.2.1, s10.2.2.1, s10.2.2.2.1, s10.2.2.2.2.1, s10.2.2.2.2.2, (gl (⟨0, 0, 0, 0⟩ : (V4 Int)) s10.2.1 s10.2.2.2.1.toNat)))) (some s10.2.2.2.2.2)
noncomputable def i_linesIn_L3 (n : Nat) (go3 : (List (V4 Int)) × (List (V4 Int)) × Int × Int × (VL 81 Int) → Option ((List (V3 Int)))) (s4 : (List (V4 Int)) × (List (V4 Int)) × Int × Int × (VL 81 Int)) : Option ((List (V3 Int))) :=
  br (decide (s4.2.2.2.1 < s4.2.2.1)) (ckb (inb s4.2.2.2.1 s4.2.1.length) (ob (i_number n (gl (⟨0, 0, 0, 0⟩ : (V4 Int)) s4.2.1 s4.2.2.2.1.toNat)) fun (r5 : Int) => lt (w64 (s4.2.2.2.1 + 1)) fun (x6 : Int) => ckb (inb r5 81) (lt (VL.set s4.2.2.2.2 r5.toNat x6) fun (x7 : (VL 81 Int)) => lt (w64 (s4.2.2.2.1 + 1)) fun (x8 : Int) => go3 (s4.1, s4.2.1, s4.2.2.1, x8, x7)))) (fx (i_linesIn_L2 n) n (s4.1, s4.1, (s4.1.length : Int), 0, s4.2.2.2.2, ([] : List (V3 Int))))
noncomputable def i_linesIn (n : Nat) (a1 : (List (V4 Int))) : Option ((List (V3 Int))) :=
  lt (VL.rep 81 0) fun (x2 : (VL 81 Int)) => fx (i_linesIn_L3 n) n (a1, a1, (a1.length : Int), 0, x2)

/-- s_l2Lines -/
noncomputable def s_l2Lines_L1 (n : Nat) (go2 : (List (V4 Int)) × Int × (List (V3 Int)) → Option ((List (V3 Int)))) (go5 : (List (V4 Int)) × Int × Int × (List (V3 Int)) → Option ((List (V3 Int)))) (s6 : (List (V4 Int)) × Int × Int × (List (V3 Int))) : Option ((List (V3 Int))) :=
  br (decide (s6.2.2.1 < (s6.1.length : Int))) (ckb (inb s6.2.1 s6.1.length) (ckb (inb s6.2.2.1 s6.1.length) (ob (s_l2Third n (gl (⟨0, 0, 0, 0⟩ : (V4 Int)) s6.1 s6.2.1.toNat) (gl (⟨0, 0, 0, 0⟩ : (V4 Int)) s6.1 s6.2.2.1.toNat)) fun (r7 : (V4 Int)) => ob (s_l2Place n s6.1 r7) fun (r8 : Int) => br (decide (s6.2.2.1 < r8)) (lt (⟨s6.2.1, s6.2.2.1, r8⟩ : (V3 Int)) fun (x9 : (V3 Int)) => ckb (apok 24 (s6.2.2.2.length + 1)) (lt (w64 (s6.2.2.1 + 1)) fun (x10 : Int) => go5 (s6.1, s6.2.1, x10, (s6.2.2.2 ++ [x9])))) (lt (w64 (s6.2.2.1 + 1)) fun (x11 : Int) => go5 (s6.1, s6.2.1, x11, s6.2.2.2))))) (lt (w64 (s6.2.1 + 1)) fun (x12 : Int) => go2 (s6.1, x12, s6.2.2.2))
noncomputable def s_l2Lines_L2 (n : Nat) (go2 : (List (V4 Int)) × Int × (List (V3 Int)) → Option ((List (V3 Int)))) (s3 : (List (V4 Int)) × Int × (List (V3 Int))) : Option ((List (V3 Int))) :=
  br (decide (s3.2.1 < (s3.1.length : Int))) (lt (w64 (s3.2.1 + 1)) fun (x4 : Int) => fx (s_l2Lines_L1 n go2) n (s3.1, s3.2.1, x4, s3.2.2)) (some s3.2.2)
noncomputable def s_l2Lines (n : Nat) (a1 : (List (V4 Int))) : Option ((List (V3 Int))) :=
  fx (s_l2Lines_L2 n) n (a1, 0, ([] : List (V3 Int)))

/-- v_rBig -/
noncomputable def v_rBig (n : Nat) (a1 : (List Int)) : Option (Bool) :=
  some (decide (65536 < (a1.length : Int)))

/-- s_Cur_card'p -/
noncomputable def s_Cur_card'p (n : Nat) (a1 : ((List Int) × (Int × Int))) : Option ((V4 Int) × ((List Int) × (Int × Int))) :=
  ob (s_Cur_pick'p n 81 a1) fun (r2 : Int × ((List Int) × (Int × Int))) => ob (s_l2At n r2.1) fun (r3 : (V4 Int)) => ob (s_Cur_one'p n 40 r2.2) fun (r4 : Bool × ((List Int) × (Int × Int))) => br r4.1 (ob (s_Cur_pick'p n 4 r4.2) fun (r5 : Int × ((List Int) × (Int × Int))) => ob (s_Cur_among'pl n [(-1), 3, 4611686018427387904, (-9223372036854775808)] r5.2) fun (r6 : Int × ((List Int) × (Int × Int))) => ckb (inb r5.1 4) (lt (V4.set r3 r5.1.toNat r6.1) fun (x7 : (V4 Int)) => some (x7, r6.2))) (some (r3, r4.2))

/-- s_Cur_near'p -/
noncomputable def s_Cur_near'p (n : Nat) (a1 : (V4 Int)) (a2 : ((List Int) × (Int × Int))) : Option ((V4 Int) × ((List Int) × (Int × Int))) :=
  ob (s_Cur_one'p n 2 a2) fun (r3 : Bool × ((List Int) × (Int × Int))) => br r3.1 (ob (s_Cur_card'p n r3.2) fun (r4 : (V4 Int) × ((List Int) × (Int × Int))) => some (r4.1, r4.2)) (ob (s_Cur_one'p n 4 r3.2) fun (r5 : Bool × ((List Int) × (Int × Int))) => br (! r5.1) (ob (s_Cur_pick'p n 4 r5.2) fun (r6 : Int × ((List Int) × (Int × Int))) => ob (s_Cur_pick'p n 3 r6.2) fun (r7 : Int × ((List Int) × (Int × Int))) => ckb (inb r6.1 4) (lt (V4.set a1 r6.1.toNat r7.1) fun (x8 : (V4 Int)) => some (x8, r7.2))) (some (a1, r5.2)))

/-- s_DrawThirdCard -/
noncomputable def s_DrawThirdCard (n : Nat) (a1 : (List Int)) : Option ((V4 Int) × (V4 Int)) :=
  lt (a1, (0, 0)) fun (x2 : ((List Int) × (Int × Int))) => ob (s_Cur_card'p n x2) fun (r3 : (V4 Int) × ((List Int) × (Int × Int))) => ob (s_Cur_near'p n r3.1 r3.2) fun (r4 : (V4 Int) × ((List Int) × (Int × Int))) => some (r3.1, r4.1)

/-- i_ThirdCard -/
noncomputable def i_ThirdCard (n : Nat) (a1 : (V4 Int)) (a2 : (V4 Int)) : Option ((V4 Int) × Bool) :=
  ob (i_IsCard n a1) fun (r3 : Bool) => ob (br (! r3) (some true) (ob (i_IsCard n a2) fun (r4 : Bool) => some (! r4))) fun (x5 : Bool) => ob (br x5 (some true) (some (eqd a1 a2))) fun (x6 : Bool) => br x6 (lt (⟨0, 0, 0, 0⟩ : (V4 Int)) fun (x7 : (V4 Int)) => some (x7, false)) (ob (i_third n a1 a2) fun (r8 : (V4 Int)) => some (r8, true))

/-- s_ThirdCard -/
noncomputable def s_ThirdCard (n : Nat) (a1 : (V4 Int)) (a2 : (V4 Int)) : Option ((V4 Int) × Bool) :=
  ob (s_l2Card n a1) fun (r3 : Bool) => ob (br (! r3) (some true) (ob (s_l2Card n a2) fun (r4 : Bool) => some (! r4))) fun (x5 : Bool) => ob (br x5 (some true) (some (eqd a1 a2))) fun (x6 : Bool) => br x6 (lt (⟨0, 0, 0, 0⟩ : (V4 Int)) fun (x7 : (V4 Int)) => some (x7, false)) (ob (s_l2Third n a1 a2) fun (r8 : (V4 Int)) => some (r8, true))

/-- s_DrawIsLine -/
noncomputable def s_DrawIsLine (n : Nat) (a1 : (List Int)) : Option ((V4 Int) × (V4 Int) × (V4 Int)) :=
  lt (a1, (0, 0)) fun (x2 : ((List Int) × (Int × Int))) => ob (s_Cur_one'p n 3 x2) fun (r3 : Bool × ((List Int) × (Int × Int))) => ob (s_Cur_card'p n r3.2) fun (r4 : (V4 Int) × ((List Int) × (Int × Int))) => ob (s_Cur_near'p n r4.1 r4.2) fun (r5 : (V4 Int) × ((List Int) × (Int × Int))) => ob (br (! r3.1) (ob (s_l2Card n r4.1) fun (r6 : Bool) => some r6) (some false)) fun (x7 : Bool) => ob (br x7 (ob (s_l2Card n r5.1) fun (r8 : Bool) => some r8) (some false)) fun (x9 : Bool) => br x9 (ob (s_l2Third n r4.1 r5.1) fun (r10 : (V4 Int)) => some (r4.1, r5.1, r10)) (ob (s_Cur_near'p n r5.1 r5.2) fun (r11 : (V4 Int) × ((List Int) × (Int × Int))) => some (r4.1, r5.1, r11.1))

/-- i_IsLine -/
noncomputable def i_IsLine (n : Nat) (a1 : (V4 Int)) (a2 : (V4 Int)) (a3 : (V4 Int)) : Option (Bool × Bool) :=
  ob (i_areCards n [a1, a2, a3]) fun (r4 : Bool) => br (! r4) (some (false, false)) (ob (i_isLine n a1 a2 a3) fun (r5 : Bool) => some (r5, true))

/-- s_IsLine -/
noncomputable def s_IsLine (n : Nat) (a1 : (V4 Int)) (a2 : (V4 Int)) (a3 : (V4 Int)) : Option (Bool × Bool) :=
  ob (s_l2Card n a1) fun (r4 : Bool) => ob (br (! r4) (some true) (ob (s_l2Card n a2) fun (r5 : Bool) => some (! r5))) fun (x6 : Bool) => ob (br x6 (some true) (ob (s_l2Card n a3) fun (r7 : Bool) => some (! r7))) fun (x8 : Bool) => br x8 (some (false, false)) (ob (s_l2Line n a1 a2 a3) fun (r9 : Bool) => some (r9, true))

/-- i_LineKind -/
noncomputable def i_LineKind (n : Nat) (a1 : (V4 Int)) (a2 : (V4 Int)) (a3 : (V4 Int)) : Option (Int × Bool) :=
  ob (i_areCards n [a1, a2, a3]) fun (r4 : Bool) => ob (br (! r4) (some true) (ob (i_isLine n a1 a2 a3) fun (r5 : Bool) => some (! r5))) fun (x6 : Bool) => br x6 (some (0, false)) (ob (i_differ n a1 a2) fun (r7 : Int) => some (r7, true))

/-- s_LineKind -/
noncomputable def s_LineKind (n : Nat) (a1 : (V4 Int)) (a2 : (V4 Int)) (a3 : (V4 Int)) : Option (Int × Bool) :=
  ob (s_l2Card n a1) fun (r4 : Bool) => ob (br (! r4) (some true) (ob (s_l2Card n a2) fun (r5 : Bool) => some (! r5))) fun (x6 : Bool) => ob (br x6 (some true) (ob (s_l2Card n a3) fun (r7 : Bool) => some (! r7))) fun (x8 : Bool) => ob (br x8 (some true) (ob (s_l2Line n a1 a2 a3) fun (r9 : Bool) => some (! r9))) fun (x10 : Bool) => br x10 (some (0, false)) (ob (s_l2Differ n a1 a2) fun (r11 : Int) => some (r11, true))

/-- i_DifferIn -/
noncomputable def i_DifferIn (n : Nat) (a1 : (V4 Int)) (a2 : (V4 Int)) : Option (Int × Bool) :=
  ob (i_areCards n [a1, a2]) fun (r3 : Bool) => br (! r3) (some (0, false)) (ob (i_differ n a1 a2) fun (r4 : Int) => some (r4, true))

/-- s_DifferIn -/
noncomputable def s_DifferIn (n : Nat) (a1 : (V4 Int)) (a2 : (V4 Int)) : Option (Int × Bool) :=
  ob (s_l2Card n a1) fun (r3 : Bool) => ob (br (! r3) (some true) (ob (s_l2Card n a2) fun (r4 : Bool) => some (! r4))) fun (x5 : Bool) => br x5 (some (0, false)) (ob (s_l2Differ n a1 a2) fun (r6 : Int) => some (r6, true))

/-- i_CardNumber -/
noncomputable def i_CardNumber (n : Nat) (a1 : (V4 Int)) : Option (Int × Bool) :=
  ob (i_IsCard n a1) fun (r2 : Bool) => br (! r2) (some (0, false)) (ob (i_number n a1) fun (r3 : Int) => some (r3, true))

/-- s_CardNumber -/
noncomputable def s_CardNumber (n : Nat) (a1 : (V4 Int)) : Option (Int × Bool) :=
  ob (s_l2Card n a1) fun (r2 : Bool) => br (! r2) (some (0, false)) (ob (s_l2Number n a1) fun (r3 : Int) => some (r3, true))

/-- s_DrawCardAt -/
noncomputable def s_DrawCardAt (n : Nat) (a1 : (List Int)) : Option (Int) :=
  lt (a1, (0, 0)) fun (x2 : ((List Int) × (Int × Int))) => ob (s_Cur_pick'p n 81 x2) fun (r3 : Int × ((List Int) × (Int × Int))) => ob (s_Cur_among'pl n [0, 0, 0, 0, 80, (-80)] r3.2) fun (r4 : Int × ((List Int) × (Int × Int))) => lt (w64 (r3.1 + r4.1)) fun (x5 : Int) => some x5

/-- i_card -/
noncomputable def i_card (n : Nat) (a1 : Int) : Option ((V4 Int)) :=
  lt (w64 (Int.tdiv a1 27)) fun (x2 : Int) => lt (w64 (Int.tdiv a1 9)) fun (x3 : Int) => lt (Int.tmod x3 3) fun (x4 : Int) => lt (w64 (Int.tdiv a1 3)) fun (x5 : Int) => lt (Int.tmod x5 3) fun (x6 : Int) => lt (Int.tmod a1 3) fun (x7 : Int) => lt (⟨x2, x4, x6, x7⟩ : (V4 Int)) fun (x8 : (V4 Int)) => some x8

/-- i_CardAt -/
noncomputable def i_CardAt (n : Nat) (a1 : Int) : Option ((V4 Int) × Bool) :=
  ob (i_within n a1 0 80) fun (r2 : Bool) => br (! r2) (lt (⟨0, 0, 0, 0⟩ : (V4 Int)) fun (x3 : (V4 Int)) => some (x3, false)) (ob (i_card n a1) fun (r4 : (V4 Int)) => some (r4, true))

/-- s_CardAt -/
noncomputable def s_CardAt (n : Nat) (a1 : Int) : Option ((V4 Int) × Bool) :=
  ob (s_l1In n a1 0 80) fun (r2 : Bool) => br (! r2) (lt (⟨0, 0, 0, 0⟩ : (V4 Int)) fun (x3 : (V4 Int)) => some (x3, false)) (ob (s_l2At n a1) fun (r4 : (V4 Int)) => some (r4, true))

/-- i_cardText -/
noncomputable def i_cardText_L1 (n : Nat) (go2 : (V4 Int) × Int × (List Int) → Option (ByteArray)) (s3 : (V4 Int) × Int × (List Int)) : Option (ByteArray) :=
  br (decide (s3.2.1 < 4)) (ckb (inb s3.2.1 4) (lt (w64 (48 + (V4.get s3.1 s3.2.1.toNat))) fun (x4 : Int) => lt (IntKind.wrap .u8 x4) fun (x5 : Int) => ckb (apok 1 (s3.2.2.length + 1)) (lt (w64 (s3.2.1 + 1)) fun (x6 : Int) => go2 (s3.1, x6, (s3.2.2 ++ [x5]))))) (lt (strOfNums s3.2.2) fun (x7 : ByteArray) => some x7)
noncomputable def i_cardText (n : Nat) (a1 : (V4 Int)) : Option (ByteArray) :=
  fx (i_cardText_L1 n) n (a1, 0, ([] : List Int))

/-- i_CardText -/
noncomputable def i_CardText (n : Nat) (a1 : (V4 Int)) : Option (ByteArray × Bool) :=
  ob (i_IsCard n a1) fun (r2 : Bool) => br (! r2) (some ((⟨#[]⟩ : ByteArray), false)) (ob (i_cardText n a1) fun (r3 : ByteArray) => some (r3, true))

/-- s_l1Num -/

noncomputable def s_l1Num_R (n : Nat) (go0 : Int → Option (ByteArray)) (x : Int) : Option (ByteArray) :=
  (fun (a1 : Int) => br (decide (a1 < 0)) (br (decide ((-10) < a1)) (lt (w64 (0 - a1)) fun (x2 : Int) => ob (go0 x2) fun (r3 : ByteArray) => ckb (stok (1 + r3.size)) (lt ((⟨#[45]⟩ : ByteArray) ++ r3) fun (x4 : ByteArray) => some x4)) (lt (w64 (Int.tdiv a1 10)) fun (x5 : Int) => ob (go0 x5) fun (r6 : ByteArray) => lt (Int.tmod a1 10) fun (x7 : Int) => lt (w64 (0 - x7)) fun (x8 : Int) => ob (go0 x8) fun (r9 : ByteArray) => ckb (stok (r6.size + r9.size)) (lt (r6 ++ r9) fun (x10 : ByteArray) => some x10))) (br (decide (a1 < 10)) (lt (w64 (a1 + 1)) fun (x11 : Int) => ckb (slb a1 x11 10) (some (ssub (⟨#[48, 49, 50, 51, 52, 53, 54, 55, 56, 57]⟩ : ByteArray) a1.toNat x11.toNat))) (lt (w64 (Int.tdiv a1 10)) fun (x12 : Int) => ob (go0 x12) fun (r13 : ByteArray) => lt (Int.tmod a1 10) fun (x14 : Int) => lt (Int.tmod a1 10) fun (x15 : Int) => lt (w64 (x15 + 1)) fun (x16 : Int) => ckb (slb x14 x16 10) (ckb (stok (r13.size + (ssub (⟨#[48, 49, 50, 51, 52, 53, 54, 55, 56, 57]⟩ : ByteArray) x14.toNat x16.toNat).size)) (lt (r13 ++ (ssub (⟨#[48, 49, 50, 51, 52, 53, 54, 55, 56, 57]⟩ : ByteArray) x14.toNat x16.toNat)) fun (x17 : ByteArray) => some x17))))) x
noncomputable def s_l1Num (n : Nat) (a1 : Int) : Option (ByteArray) := fx (s_l1Num_R n) n a1

/-- s_l2Text -/
noncomputable def s_l2Text_L1 (n : Nat) (go2 : ByteArray × Int × (V4 Int) → Option (ByteArray)) (s3 : ByteArray × Int × (V4 Int)) : Option (ByteArray) :=
  br (decide (s3.2.1 < 4)) (ckb (inb s3.2.1 4) (ob (s_l1Num n (V4.get s3.2.2 s3.2.1.toNat)) fun (r4 : ByteArray) => ckb (stok (s3.1.size + r4.size)) (lt (s3.1 ++ r4) fun (x5 : ByteArray) => lt (w64 (s3.2.1 + 1)) fun (x6 : Int) => go2 (x5, x6, s3.2.2)))) (some s3.1)
noncomputable def s_l2Text (n : Nat) (a1 : (V4 Int)) : Option (ByteArray) :=
  fx (s_l2Text_L1 n) n ((⟨#[]⟩ : ByteArray), 0, a1)

/-- s_CardText -/
noncomputable def s_CardText (n : Nat) (a1 : (V4 Int)) : Option (ByteArray × Bool) :=
  ob (s_l2Card n a1) fun (r2 : Bool) => br (! r2) (some ((⟨#[]⟩ : ByteArray), false)) (ob (s_l2Text n a1) fun (r3 : ByteArray) => some (r3, true))

/-- v_FnCards -/
noncomputable def v_FnCards_J1 (n : Nat) (s41 : Bool × (V4 Int) × (V4 Int) × (V4 Int)) : Option (Bool) :=
  br (! s41.1) (some true) (ob (i_ThirdCard n s41.2.2.1 s41.2.1) fun (r42 : (V4 Int) × Bool) => ob (i_ThirdCard n s41.2.1 s41.2.2.2) fun (r43 : (V4 Int) × Bool) => ob (i_IsLine n s41.2.2.2 s41.2.2.1 s41.2.1) fun (r44 : Bool × Bool) => ob (br r42.2 (some r43.2) (some false)) fun (x45 : Bool) => ob (br x45 (some r44.2) (some false)) fun (x46 : Bool) => ob (br x46 (some (eqd r42.1 s41.2.2.2)) (some false)) fun (x47 : Bool) => ob (br x47 (some (eqd r43.1 s41.2.2.1)) (some false)) fun (x48 : Bool) => ob (br x48 (some r44.1) (some false)) fun (x49 : Bool) => ob (br x49 (some (!eqd s41.2.2.2 s41.2.1)) (some false)) fun (x50 : Bool) => ob (br x50 (some (!eqd s41.2.2.2 s41.2.2.1)) (some false)) fun (x51 : Bool) => some x51)
noncomputable def v_FnCards_L2 (n : Nat) (go55 : Bool × Bool × Bool × Int × (V4 Int) × (V4 Int) × (V4 Int) × (V4 Int) × (V4 Int) × (V4 Int) → Option (Bool)) (s56 : Bool × Bool × Bool × Int × (V4 Int) × (V4 Int) × (V4 Int) × (V4 Int) × (V4 Int) × (V4 Int)) : Option (Bool) :=
  br (decide (s56.2.2.2.1 < 4)) (ob (br s56.2.2.1 (ckb (inb s56.2.2.2.1 4) (ckb (inb s56.2.2.2.1 4) (lt (w64 ((V4.get s56.2.2.2.2.2.2.2.1 s56.2.2.2.1.toNat) + (V4.get s56.2.2.2.2.2.2.2.2.1 s56.2.2.2.1.toNat))) fun (x57 : Int) => ckb (inb s56.2.2.2.1 4) (lt (w64 (x57 + (V4.get s56.2.2.2.2.2.2.2.2.2 s56.2.2.2.1.toNat))) fun (x58 : Int) => lt (Int.tmod x58 3) fun (x59 : Int) => some (decide (x59 = 0)))))) (some false)) fun (x60 : Bool) => lt (w64 (s56.2.2.2.1 + 1)) fun (x61 : Int) => go55 (s56.1, s56.2.1, x60, x61, s56.2.2.2.2.1, s56.2.2.2.2.2.1, s56.2.2.2.2.2.2.1, s56.2.2.2.2.2.2.2.1, s56.2.2.2.2.2.2.2.2.1, s56.2.2.2.2.2.2.2.2.2)) (br (! (s56.2.2.1 == s56.2.1)) (some false) (v_FnCards_J1 n (s56.1, s56.2.2.2.2.1, s56.2.2.2.2.2.1, s56.2.2.2.2.2.2.1)))
noncomputable def v_FnCards_J3 (n : Nat) (s40 : Bool × Bool × Bool × (V4 Int) × (V4 Int) × (V4 Int) × (V4 Int) × (V4 Int) × (V4 Int)) : Option (Bool) :=
  ob (br s40.2.2.1 (some (!eqd s40.2.2.2.2.2.2.1 s40.2.2.2.2.2.2.2.1)) (some false)) fun (x52 : Bool) => ob (br x52 (some (!eqd s40.2.2.2.2.2.2.1 s40.2.2.2.2.2.2.2.2)) (some false)) fun (x53 : Bool) => ob (br x53 (some (!eqd s40.2.2.2.2.2.2.2.1 s40.2.2.2.2.2.2.2.2)) (some false)) fun (x54 : Bool) => br x54 (fx (v_FnCards_L2 n) n (s40.1, s40.2.1, true, 0, s40.2.2.2.1, s40.2.2.2.2.1, s40.2.2.2.2.2.1, s40.2.2.2.2.2.2.1, s40.2.2.2.2.2.2.2.1, s40.2.2.2.2.2.2.2.2)) (v_FnCards_J1 n (s40.1, s40.2.2.2.1, s40.2.2.2.2.1, s40.2.2.2.2.2.1))
noncomputable def v_FnCards_J4 (n : Nat) (s39 : Bool × Bool × Bool × Int × Bool × (V4 Int) × (V4 Int) × (V4 Int) × (V4 Int) × (V4 Int) × (V4 Int)) : Option (Bool) :=
  br s39.2.2.2.2.1 (ob (i_DifferIn n s39.2.2.2.2.2.2.2.2.2.1 s39.2.2.2.2.2.2.2.2.2.2) fun (r62 : Int × Bool) => ob (br (! r62.2) (some true) (some (!decide (r62.1 = s39.2.2.2.1)))) fun (x63 : Bool) => br x63 (some false) (v_FnCards_J3 n (s39.1, s39.2.1, s39.2.2.1, s39.2.2.2.2.2.1, s39.2.2.2.2.2.2.1, s39.2.2.2.2.2.2.2.1, s39.2.2.2.2.2.2.2.2.1, s39.2.2.2.2.2.2.2.2.2.1, s39.2.2.2.2.2.2.2.2.2.2))) (v_FnCards_J3 n (s39.1, s39.2.1, s39.2.2.1, s39.2.2.2.2.2.1, s39.2.2.2.2.2.2.1, s39.2.2.2.2.2.2.2.1, s39.2.2.2.2.2.2.2.2.1, s39.2.2.2.2.2.2.2.2.2.1, s39.2.2.2.2.2.2.2.2.2.2))
noncomputable def v_FnCards (n : Nat) (a1 : (List Int)) : Option (Bool) :=
  ob (v_rBig n a1) fun (r2 : Bool) => br r2 (some true) (ob (s_DrawThirdCard n a1) fun (r3 : (V4 Int) × (V4 Int)) => ob (i_ThirdCard n r3.1 r3.2) fun (r4 : (V4 Int) × Bool) => ob (s_ThirdCard n r3.1 r3.2) fun (r5 : (V4 Int) × Bool) => ob (br (!eqd r4.1 r5.1) (some true) (some (! (r4.2 == r5.2)))) fun (x6 : Bool) => br x6 (some false) (ob (s_DrawIsLine n a1) fun (r7 : (V4 Int) × (V4 Int) × (V4 Int)) => ob (i_IsLine n r7.1 r7.2.1 r7.2.2) fun (r8 : Bool × Bool) => ob (s_IsLine n r7.1 r7.2.1 r7.2.2) fun (r9 : Bool × Bool) => ob (br (! (r8.1 == r9.1)) (some true) (some (! (r8.2 == r9.2)))) fun (x10 : Bool) => br x10 (some false) (ob (i_LineKind n r7.1 r7.2.1 r7.2.2) fun (r11 : Int × Bool) => ob (s_LineKind n r7.1 r7.2.1 r7.2.2) fun (r12 : Int × Bool) => ob (br (!decide (r11.1 = r12.1)) (some true) (some (! (r11.2 == r12.2)))) fun (x13 : Bool) => ob (br x13 (some true) (ob (br r8.2 (some r8.1) (some false)) fun (x14 : Bool) => some (! (r11.2 == x14)))) fun (x15 : Bool) => br x15 (some false) (ob (i_DifferIn n r3.1 r3.2) fun (r16 : Int × Bool) => ob (s_DifferIn n r3.1 r3.2) fun (r17 : Int × Bool) => ob (br (!decide (r16.1 = r17.1)) (some true) (some (! (r16.2 == r17.2)))) fun (x18 : Bool) => ob (br x18 (some true) (ob (i_IsCard n r3.1) fun (r19 : Bool) => ob (br r19 (ob (i_IsCard n r3.2) fun (r20 : Bool) => some r20) (some false)) fun (x21 : Bool) => some (! (r16.2 == x21)))) fun (x22 : Bool) => ob (br x22 (some true) (ob (br r16.2 (some (decide (0 < r16.1))) (some false)) fun (x23 : Bool) => some (! (r4.2 == x23)))) fun (x24 : Bool) => br x24 (some false) (ob (i_CardNumber n r3.1) fun (r25 : Int × Bool) => ob (s_CardNumber n r3.1) fun (r26 : Int × Bool) => ob (br (!decide (r25.1 = r26.1)) (some true) (some (! (r25.2 == r26.2)))) fun (x27 : Bool) => ob (br x27 (some true) (ob (i_IsCard n r3.1) fun (r28 : Bool) => some (! (r25.2 == r28)))) fun (x29 : Bool) => br x29 (some false) (ob (s_DrawCardAt n a1) fun (r30 : Int) => ob (i_CardAt n r30) fun (r31 : (V4 Int) × Bool) => ob (s_CardAt n r30) fun (r32 : (V4 Int) × Bool) => ob (br (!eqd r31.1 r32.1) (some true) (some (! (r31.2 == r32.2)))) fun (x33 : Bool) => br x33 (some false) (ob (i_CardText n r3.1) fun (r34 : ByteArray × Bool) => ob (s_CardText n r3.1) fun (r35 : ByteArray × Bool) => ob (br (!eqd r34.1 r35.1) (some true) (some (! (r34.2 == r35.2)))) fun (x36 : Bool) => ob (br x36 (some true) (ob (br r34.2 (some (!decide ((r34.1.size : Int) = 4))) (some false)) fun (x37 : Bool) => some x37)) fun (x38 : Bool) => br x38 (some false) (br r25.2 (ob (i_CardAt n r25.1) fun (r64 : (V4 Int) × Bool) => ob (br (! r64.2) (some true) (some (!eqd r64.1 r3.1))) fun (x65 : Bool) => br x65 (some false) (v_FnCards_J4 n (r4.2, r8.1, r8.2, r11.1, r11.2, r3.1, r3.2, r4.1, r7.1, r7.2.1, r7.2.2))) (v_FnCards_J4 n (r4.2, r8.1, r8.2, r11.1, r11.2, r3.1, r3.2, r4.1, r7.1, r7.2.1, r7.2.2))))))))))

end Go.Pl
