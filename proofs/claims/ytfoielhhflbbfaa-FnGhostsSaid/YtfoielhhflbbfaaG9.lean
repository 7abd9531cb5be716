/- Plain laws: LHc, LGh, LGc, LFlt. -/
import Derived.Test.YtfoielhhflbbfaaG8
import Derived.Test.YtfoielhhflbbfaaPL
import Derived.Test.YtfoielhhflbbfaaG3
import Derived.Test.YtfoielhhflbbfaaG7
set_option linter.unusedVariables false
set_option linter.unusedSimpArgs false
namespace Go.Pl
open Go Go.Tv Go.RowKit
set_option linter.unusedVariables false
set_option linter.unusedSimpArgs false
theorem s_sum_step {n : Nat} (hn : BIG ≤ n) (go : List Card × Int × Card × Card → Opt Card) (h : List Card) (z : Card) {a : Card} {i : Nat} (hi : i < h.length) (hl : h.length ≤ 1000000) (hc : isC (gl (⟨0, 0, 0, 0⟩ : Card) h i) = true) (ha : isC a = true) :
    fx (s_l2Sum_L1 n go) n (h, (i : Int), 0, z, a) = go (h, (i : Int) + 1, z, ⟨(a.x0 + (gl (⟨0, 0, 0, 0⟩ : Card) h i).x0) % 3, (a.x1 + (gl (⟨0, 0, 0, 0⟩ : Card) h i).x1) % 3, (a.x2 + (gl (⟨0, 0, 0, 0⟩ : Card) h i).x2) % 3, (a.x3 + (gl (⟨0, 0, 0, 0⟩ : Card) h i).x3) % 3⟩) := by
  obtain ⟨m, rfl⟩ : ∃ m, n = m + 5 := ⟨n - 5, by unfold BIG at hn; omega⟩
  rw [isC_iff] at hc ha
  have hin : inb (i : Int) h.length = true := inb_ok hi
  simp only [lt_eq, fx_succ, s_l2Sum_L1, hin, toNat_cast]
  generalize gl (⟨0, 0, 0, 0⟩ : Card) h i = c at hc ⊢
  simp [V4.get, V4.set, show inb 0 4 = true from rfl, show inb 1 4 = true from rfl, show inb 2 4 = true from rfl, show inb 3 4 = true from rfl, show w64 1 = 1 from by decide, show w64 (1 + 1) = 2 from by decide, show w64 (2 + 1) = 3 from by decide, show w64 (3 + 1) = 4 from by decide]
  rw [w64_id (x := a.x0 + c.x0) (by omega), w64_id (x := a.x1 + c.x1) (by omega), w64_id (x := a.x2 + c.x2) (by omega), w64_id (x := a.x3 + c.x3) (by omega), w64_id (x := (i : Int) + 1) (by omega), Int.tmod_eq_emod_of_nonneg (by omega), Int.tmod_eq_emod_of_nonneg (by omega), Int.tmod_eq_emod_of_nonneg (by omega), Int.tmod_eq_emod_of_nonneg (by omega)]
theorem s_l2Sum_eq {n : Nat} (hn : BIG ≤ n) {h : List Card} (hc : AllC h) (hl : h.length ≤ 1000) : s_l2Sum n h = some (sumC h) := by
  unfold s_l2Sum
  rw [lt_eq]
  have := fx_cnt (B := s_l2Sum_L2 n) h.length (fun i => (h, (i : Int), (⟨0, 0, 0, 0⟩ : Card), sumC (h.take i))) (fun _ => True) (fun _ => some (sumC h)) (fun self i hi _ ih => by
    simp only [s_l2Sum_L2]
    by_cases h1 : i < h.length
    · have g : gl (⟨0, 0, 0, 0⟩ : Card) h i = h[i] := gl_eq h1
      rw [br_pos (decide_eq_true (show (i : Int) < (h.length : Int) by omega)), s_sum_step hn self _ _ h1 (by omega) (gl_C hc h1) (sumC_isC _), ← ih h1 trivial, List.take_succ_eq_append_getElem h1, sumC_snoc, g]
      rfl
    · have : i = h.length := by omega
      subst this
      rw [br_neg (decide_eq_false (by omega)), List.take_length]) n 0 (Nat.zero_le _) trivial (big_gt hn (by omega))
  exact this
end Go.Pl
namespace Go.Pl
open Go Go.Tv Go.RowKit
set_option linter.unusedVariables false
set_option linter.unusedSimpArgs false
def g4 (t a b c d : Card) : Bool := lineB t (third a b) (third c d) || lineB t (third a c) (third b d) || lineB t (third a d) (third b c)
def gh6 (a b c d e f : Card) : Bool := g4 (third a b) c d e f || g4 (third a c) b d e f || g4 (third a d) b c e f || g4 (third a e) b c d f || g4 (third a f) b c d e
def ghB (l : List Card) : Bool := match l with | [a, b, c, d, e, f] => gh6 a b c d e f | _ => false
theorem wo4 {a b c d : Card} (h : [a, b, c, d].Nodup) : wo [a, b, c, d] a = [b, c, d] ∧ wo [b, c, d] b = [c, d] ∧ wo [b, c, d] c = [b, d] ∧ wo [b, c, d] d = [b, c] := by
  simp only [List.nodup_cons, List.mem_cons, List.not_mem_nil, or_false, not_or] at h
  obtain ⟨⟨h1, h2, h3⟩, ⟨h4, h5⟩, h6, _⟩ := h
  unfold wo
  refine ⟨?_, ?_, ?_, ?_⟩
  · simp [List.filter_cons, Ne.symm h1, Ne.symm h2, Ne.symm h3]
  · simp [List.filter_cons, Ne.symm h4, Ne.symm h5]
  · simp [List.filter_cons, h4, Ne.symm h6]
  · simp [List.filter_cons, h5, h6]
theorem gh_L1 {n : Nat} (hn : BIG ≤ n) (h : List Card) (f : Bool) (k : Int) {t a b c d : Card} (ht : isC t = true) (hc : AllC [a, b, c, d]) (hnd : [a, b, c, d].Nodup) (go : List Card × Bool × Int → Opt Bool) :
    fx (i_isGhost_L1 n go) n (h, f, k, 1, [a, b, c, d], t) = go (h, f || g4 t a b c d, w64 (k + 1)) := by
  obtain ⟨w1, w2, w3, w4⟩ := wo4 hnd
  have ka := hc a (by simp)
  have kb := hc b (by simp)
  have kc := hc c (by simp)
  have kd := hc d (by simp)
  have st : ∀ (m : Nat) (f : Bool) (i : Nat) (x u v : Card), 1 ≤ i → i < 4 → gl (⟨0, 0, 0, 0⟩ : Card) [a, b, c, d] i = x → isC x = true → isC u = true → isC v = true → wo [b, c, d] x = [u, v] →
      i_isGhost_L1 n go (fx (i_isGhost_L1 n go) m) (h, f, k, (i : Int), [a, b, c, d], t) = fx (i_isGhost_L1 n go) m (h, f || lineB t (third a x) (third u v), k, ((i + 1 : Nat) : Int), [a, b, c, d], t) := fun m f i x u v h1 h4 hx kx ku kv hw => by
    simp only [i_isGhost_L1]
    have b0 : inb 0 ([a, b, c, d] : List Card).length = true := rfl
    have bi : inb (i : Int) ([a, b, c, d] : List Card).length = true := inb_ok (by simpa using h4)
    have e0 : gl (⟨0, 0, 0, 0⟩ : Card) [a, b, c, d] 0 = a := rfl
    simp only [lt_eq]
    rw [br_pos (decide_eq_true (show (i : Int) < 4 by omega)), ckb_pos b0, e0, i_without_eq hn (by simp), ob_some, w1, ckb_pos bi, toNat_cast, hx, i_without_eq hn (by simp), ob_some, hw]
    have c0 : inb 0 ([u, v] : List Card).length = true := rfl
    have c1 : inb 1 ([u, v] : List Card).length = true := rfl
    have g0 : gl (⟨0, 0, 0, 0⟩ : Card) [u, v] 0 = u := rfl
    have g1 : gl (⟨0, 0, 0, 0⟩ : Card) [u, v] 1 = v := rfl
    rw [ckb_pos b0, ckb_pos bi, i_third_eq hn ka kx, ob_some, ckb_pos c0, ckb_pos c1, g0, g1, i_third_eq hn ku kv, ob_some, i_isLine_eq hn _ ht (third_isC ka kx), w64_succ (by omega)]
    cases f <;> rfl
  obtain ⟨q, hq⟩ : ∃ q, n = q + 4 := ⟨n - 4, by unfold BIG at hn; omega⟩
  have s1 := st (q + 3) f 1 b c d (by omega) (by omega) rfl kb kc kd w2
  have s2 := st (q + 2) (f || lineB t (third a b) (third c d)) 2 c b d (by omega) (by omega) rfl kc kb kd w3
  have s3 := st (q + 1) (f || lineB t (third a b) (third c d) || lineB t (third a c) (third b d)) 3 d b c (by omega) (by omega) rfl kd kb kc w4
  conv => lhs; arg 2; rw [hq]
  have e1 : ((1 : Nat) : Int) = 1 := rfl
  rw [fx_succ]
  refine s1.trans ?_
  rw [fx_succ]
  refine s2.trans ?_
  rw [fx_succ]
  refine s3.trans ?_
  rw [fx_succ]
  simp only [i_isGhost_L1]
  rw [br_neg (show decide (((3 + 1 : Nat) : Int) < 4) = false by decide), lt_eq]
  unfold g4
  rw [Bool.or_assoc, Bool.or_assoc, Bool.or_assoc]
structure Six (a b c d e f : Card) : Prop where
  al : AllC [a, b, c, d, e, f]
  nd : [a, b, c, d, e, f].Nodup
theorem gh_L2 {n : Nat} (hn : BIG ≤ n) {a b c d e f : Card} (H : Six a b c d e f) (fo : Bool) (go : List Card × Bool × Int → Opt Bool) :
    fx (i_isGhost_L2 n go) n ([a, b, c, d, e, f], fo, 1, 1, []) = go ([a, b, c, d, e, f], fo || g4 (third a b) c d e f, 2) ∧
    fx (i_isGhost_L2 n go) n ([a, b, c, d, e, f], fo, 2, 1, []) = go ([a, b, c, d, e, f], fo || g4 (third a c) b d e f, 3) ∧
    fx (i_isGhost_L2 n go) n ([a, b, c, d, e, f], fo, 3, 1, []) = go ([a, b, c, d, e, f], fo || g4 (third a d) b c e f, 4) ∧
    fx (i_isGhost_L2 n go) n ([a, b, c, d, e, f], fo, 4, 1, []) = go ([a, b, c, d, e, f], fo || g4 (third a e) b c d f, 5) ∧
    fx (i_isGhost_L2 n go) n ([a, b, c, d, e, f], fo, 5, 1, []) = go ([a, b, c, d, e, f], fo || g4 (third a f) b c d e, 6) := by
  have hc := H.al
  have hnd := H.nd
  have ka := hc a (by simp)
  have kb := hc b (by simp)
  have kc := hc c (by simp)
  have kd := hc d (by simp)
  have ke := hc e (by simp)
  have kf := hc f (by simp)
  obtain ⟨q, hq⟩ : ∃ q, n = q + 6 := ⟨n - 6, by unfold BIG at hn; omega⟩
  have i0 : inb 0 6 = true := rfl
  have i1 : inb 1 6 = true := rfl
  have i2 : inb 2 6 = true := rfl
  have i3 : inb 3 6 = true := rfl
  have i4 : inb 4 6 = true := rfl
  have i5 : inb 5 6 = true := rfl
  have w1 : w64 (1 + 1) = 2 := by decide
  have w2 : w64 (2 + 1) = 3 := by decide
  have w3 : w64 (3 + 1) = 4 := by decide
  have w4 : w64 (4 + 1) = 5 := by decide
  have w5 : w64 (5 + 1) = 6 := by decide
  have a1 : apok 32 1 = true := by decide
  have a2 : apok 32 2 = true := by decide
  have a3 : apok 32 3 = true := by decide
  have a4 : apok 32 4 = true := by decide
  have sub4 : ∀ {x y z w : Card}, [x, y, z, w].Sublist [a, b, c, d, e, f] → AllC [x, y, z, w] ∧ [x, y, z, w].Nodup := fun hs => ⟨fun u hu => hc u (hs.subset hu), hnd.sublist hs⟩
  have cc : ∀ {x : Card} (k : Int), isC x = true → ∀ {u v w y : Card}, [u, v, w, y].Sublist [a, b, c, d, e, f] → fx (i_isGhost_L1 n go) n ([a, b, c, d, e, f], fo, k, 1, [u, v, w, y], x) = go ([a, b, c, d, e, f], fo || g4 x u v w y, w64 (k + 1)) := fun {x} k hx {u v w y} hs =>
    gh_L1 hn _ fo k hx (sub4 hs).1 (sub4 hs).2 go
  have t : ∀ {x : Card}, isC x = true → i_third n a x = some (third a x) := fun hx => i_third_eq hn ka hx
  refine ⟨?_, ?_, ?_, ?_, ?_⟩
  · conv => lhs; arg 2; rw [hq]
    simp [fx_succ, i_isGhost_L2, i0, i1, i2, i3, i4, i5, w1, w2, w3, w4, w5, a1, a2, a3, a4, gl, t kb]
    rw [cc 1 (third_isC ka kb) (by simp), w1]
  · conv => lhs; arg 2; rw [hq]
    simp [fx_succ, i_isGhost_L2, i0, i1, i2, i3, i4, i5, w1, w2, w3, w4, w5, a1, a2, a3, a4, gl, t kc]
    rw [cc 2 (third_isC ka kc) (by simp), w2]
  · conv => lhs; arg 2; rw [hq]
    simp [fx_succ, i_isGhost_L2, i0, i1, i2, i3, i4, i5, w1, w2, w3, w4, w5, a1, a2, a3, a4, gl, t kd]
    rw [cc 3 (third_isC ka kd) (by simp), w3]
  · conv => lhs; arg 2; rw [hq]
    simp [fx_succ, i_isGhost_L2, i0, i1, i2, i3, i4, i5, w1, w2, w3, w4, w5, a1, a2, a3, a4, gl, t ke]
    rw [cc 4 (third_isC ka ke) (by simp), w4]
  · conv => lhs; arg 2; rw [hq]
    simp [fx_succ, i_isGhost_L2, i0, i1, i2, i3, i4, i5, w1, w2, w3, w4, w5, a1, a2, a3, a4, gl, t kf]
    rw [cc 5 (third_isC ka kf) (by simp), w5]
theorem i_isGhost_eq {n : Nat} (hn : BIG ≤ n) {a b c d e f : Card} (H : Six a b c d e f) : i_isGhost n [a, b, c, d, e, f] = some (gh6 a b c d e f) := by
  unfold i_isGhost
  obtain ⟨q, hq⟩ : ∃ q, n = q + 6 := ⟨n - 6, by unfold BIG at hn; omega⟩
  have fin : ∀ (m : Nat) (k : Int), fx (i_isGhost_L3 n) (m + 1) ([a, b, c, d, e, f], true, k) = some true := fun m k => by
    rw [fx_succ]
    simp only [i_isGhost_L3]
    cases decide (k < 6) <;> rfl
  have st : ∀ (m : Nat) (k : Int), k < 6 → fx (i_isGhost_L3 n) (m + 1) ([a, b, c, d, e, f], false, k) = fx (i_isGhost_L2 n (fx (i_isGhost_L3 n) m)) n ([a, b, c, d, e, f], false, k, 1, []) := fun m k hk => by
    rw [fx_succ]
    simp only [i_isGhost_L3]
    rw [decide_eq_true hk]; rfl
  conv => lhs; arg 2; rw [hq]
  unfold gh6
  rw [st _ 1 (by omega), (gh_L2 hn H false _).1, Bool.false_or]
  cases g1 : g4 (third a b) c d e f with
  | true => rw [fin]; rfl
  | false =>
    rw [st _ 2 (by omega), (gh_L2 hn H false _).2.1, Bool.false_or]
    cases g2 : g4 (third a c) b d e f with
    | true => rw [fin]; rfl
    | false =>
      rw [st _ 3 (by omega), (gh_L2 hn H false _).2.2.1, Bool.false_or]
      cases g3 : g4 (third a d) b c e f with
      | true => rw [fin]; rfl
      | false =>
        rw [st _ 4 (by omega), (gh_L2 hn H false _).2.2.2.1, Bool.false_or]
        cases g4' : g4 (third a e) b c d f with
        | true => rw [fin]; rfl
        | false =>
          rw [st _ 5 (by omega), (gh_L2 hn H false _).2.2.2.2, Bool.false_or]
          cases g5 : g4 (third a f) b c d e with
          | true => rw [fin]
          | false =>
            rw [fx_succ]; rfl
theorem dropA {n : Nat} {h : List Card} (hl : h.length ≤ 1000000) {k : Nat} (hk : k < h.length) : s_l2Drop n h (k : Int) = some (h.take k ++ h.drop (k + 1)) := by
  unfold s_l2Drop
  have e1 : sub h 0 (k : Int).toNat = h.take k := by unfold sub; simp
  have e2 : sub h ((k + 1 : Nat) : Int).toNat h.length = h.drop (k + 1) := by unfold sub; rw [toNat_cast, List.take_of_length_le (by rw [List.length_drop]; omega)]
  have l1 : (h.take k).length ≤ 1000000 := by rw [List.length_take]; omega
  have l2 : (h.drop (k + 1)).length ≤ 1000000 := by rw [List.length_drop]; omega
  rw [ckb_pos (slb_ok (by omega) (by omega) (by omega)), e1, s_l2Own_eq (by omega), ob_some, lt_eq, w64_succ (by omega), ckb_pos (slb_ok (by omega) (by omega) (by omega)), e2, ckb_pos (apok_ok (by omega) (by omega))]
theorem th_step {n : Nat} (hn : BIG ≤ n) (go0 : List Card × List Card → Opt Bool) (go4 : List Card × List Card × Int → Opt Bool) {l T : List Card} {k : Nat} (hk : k < l.length) (h1 : 1 ≤ k) (hl : l.length ≤ 1000) (hT : T.length ≤ 1000) {x y : Card} (hx : gl (⟨0, 0, 0, 0⟩ : Card) l 0 = x) (hy : gl (⟨0, 0, 0, 0⟩ : Card) l k = y) (kx : isC x = true) (ky : isC y = true) {r : List Card}
    (hr : (l.take k ++ l.drop (k + 1)).drop 1 = r) (v : Bool) (hv : go0 (r, T ++ [third x y]) = some v) : s_l10Thirds_L1 n go0 go4 (l, T, (k : Int)) = br v (some true) (go4 (l, T, ((k + 1 : Nat) : Int))) := by
  simp only [s_l10Thirds_L1]
  have hd : (l.take k ++ l.drop (k + 1)).length = l.length - 1 := by rw [List.length_append, List.length_take, List.length_drop]; omega
  have d0 := dropA (n := n) (h := l.take k ++ l.drop (k + 1)) (by omega) (k := 0) (by omega)
  have d0 : s_l2Drop n (l.take k ++ l.drop (k + 1)) 0 = some ((l.take k ++ l.drop (k + 1)).drop 1) := d0
  have b0 : inb 0 l.length = true := inb_ok (i := 0) (by omega)
  rw [br_pos (decide_eq_true (show (k : Int) < (l.length : Int) by omega)), dropA (by omega) hk, ob_some, d0, ob_some, hr, s_l2Own_eq (by omega), ob_some, ckb_pos b0, ckb_pos (inb_ok hk), toNat_cast, hx, hy, s_l2Third_eq hn kx ky, ob_some, ckb_pos (apok_ok (by omega) (by omega)), hv, ob_some, lt_eq, w64_succ (by omega)]
theorem th_any {n : Nat} (hn : BIG ≤ n) (go0 : List Card × List Card → Opt Bool) {l T : List Card} (h1 : 1 ≤ l.length) (hl : l.length ≤ 1000) (hT : T.length ≤ 1000) (v : Nat → Bool)
    (hv : ∀ k, 1 ≤ k → k < l.length → ∃ x y r, gl (⟨0, 0, 0, 0⟩ : Card) l 0 = x ∧ gl (⟨0, 0, 0, 0⟩ : Card) l k = y ∧ isC x = true ∧ isC y = true ∧ (l.take k ++ l.drop (k + 1)).drop 1 = r ∧ go0 (r, T ++ [third x y]) = some (v k)) :
    fx (s_l10Thirds_L1 n go0) n (l, T, 1) = some ((List.range' 1 (l.length - 1)).any v) := by
  have := fx_cnt (B := s_l10Thirds_L1 n go0) l.length (fun k => (l, T, (k : Int))) (fun k => 1 ≤ k) (fun k => some ((List.range' k (l.length - k)).any v)) (fun self k hk h1 ih => by
    by_cases h2 : k < l.length
    · obtain ⟨x, y, r, e1, e2, kx, ky, e3, e4⟩ := hv k h1 h2
      rw [th_step hn go0 self h2 h1 hl hT e1 e2 kx ky e3 _ e4, ih h2 (by omega), range'_cons h2, List.any_cons]
      cases v k <;> rfl
    · have : k = l.length := by omega
      subst this
      simp only [s_l10Thirds_L1]
      rw [br_neg (decide_eq_false (by omega)), range'_nil (Nat.le_refl _)]; rfl) n 1 h1 (Nat.le_refl _) (big_gt hn (by omega))
  exact this
theorem th0 {n : Nat} (hn : BIG ≤ n) {t u v : Card} (ht : isC t = true) (hu : isC u = true) (m : Nat) : fx (s_l10Thirds_R n) (m + 1) ([], [t, u, v]) = some (lineB t u v) := by
  rw [fx_succ]
  simp only [s_l10Thirds_R]
  have b0 : inb 0 ([t, u, v] : List Card).length = true := rfl
  have b1 : inb 1 ([t, u, v] : List Card).length = true := rfl
  have b2 : inb 2 ([t, u, v] : List Card).length = true := rfl
  have g0 : gl (⟨0, 0, 0, 0⟩ : Card) [t, u, v] 0 = t := rfl
  have g1 : gl (⟨0, 0, 0, 0⟩ : Card) [t, u, v] 1 = u := rfl
  have g2 : gl (⟨0, 0, 0, 0⟩ : Card) [t, u, v] 2 = v := rfl
  rw [br_pos (by rfl), ckb_pos b0, ckb_pos b1, ckb_pos b2, g0, g1, g2, s_l2Line_eq hn _ ht hu]; rfl
theorem th2 {n : Nat} (hn : BIG ≤ n) {t u c d : Card} (ht : isC t = true) (hu : isC u = true) (kc : isC c = true) (kd : isC d = true) (m : Nat) : fx (s_l10Thirds_R n) (m + 2) ([c, d], [t, u]) = some (lineB t u (third c d)) := by
  rw [fx_succ]
  have hz := th0 hn (v := third c d) ht hu m
  generalize fx (s_l10Thirds_R n) (m + 1) = go0 at hz
  have A := th_any hn go0 (l := [c, d]) (T := [t, u]) (by simp) (by simp) (by simp) (fun _ => lineB t u (third c d)) (fun k h1 h2 => by
    have : k = 1 := by simp at h2; omega
    subst this
    exact ⟨c, d, [], rfl, rfl, kc, kd, rfl, hz⟩)
  have e : ((List.range' 1 (([c, d] : List Card).length - 1)).any fun _ => lineB t u (third c d)) = lineB t u (third c d) := by
    show (lineB t u (third c d) || false) = _
    rw [Bool.or_false]
  rw [e] at A
  exact A
theorem th4 {n : Nat} (hn : BIG ≤ n) {t a b c d : Card} (ht : isC t = true) (ka : isC a = true) (kb : isC b = true) (kc : isC c = true) (kd : isC d = true) (m : Nat) : fx (s_l10Thirds_R n) (m + 3) ([a, b, c, d], [t]) = some (g4 t a b c d) := by
  rw [fx_succ]
  have z1 := th2 hn ht (third_isC ka kb) kc kd m
  have z2 := th2 hn ht (third_isC ka kc) kb kd m
  have z3 := th2 hn ht (third_isC ka kd) kb kc m
  generalize fx (s_l10Thirds_R n) (m + 2) = go0 at z1 z2 z3
  have A := th_any hn go0 (l := [a, b, c, d]) (T := [t]) (by simp) (by simp) (by simp) (fun k => if k = 1 then lineB t (third a b) (third c d) else if k = 2 then lineB t (third a c) (third b d) else lineB t (third a d) (third b c)) (fun k h1 h2 => by
    rcases (show k = 1 ∨ k = 2 ∨ k = 3 by simp at h2; omega) with rfl | rfl | rfl
    · exact ⟨a, b, [c, d], rfl, rfl, ka, kb, rfl, z1⟩
    · exact ⟨a, c, [b, d], rfl, rfl, ka, kc, rfl, z2⟩
    · exact ⟨a, d, [b, c], rfl, rfl, ka, kd, rfl, z3⟩)
  have e : ((List.range' 1 (([a, b, c, d] : List Card).length - 1)).any fun k => if k = 1 then lineB t (third a b) (third c d) else if k = 2 then lineB t (third a c) (third b d) else lineB t (third a d) (third b c)) = g4 t a b c d := by
    unfold g4
    show (lineB t (third a b) (third c d) || (lineB t (third a c) (third b d) || (lineB t (third a d) (third b c) || false))) = _
    rw [Bool.or_false, Bool.or_assoc]
  rw [e] at A
  exact A
theorem s_l10Thirds_eq {n : Nat} (hn : BIG ≤ n) {a b c d e f : Card} (hc : AllC [a, b, c, d, e, f]) : s_l10Thirds n [a, b, c, d, e, f] [] = some (gh6 a b c d e f) := by
  have ka := hc a (by simp)
  have kb := hc b (by simp)
  have kc := hc c (by simp)
  have kd := hc d (by simp)
  have ke := hc e (by simp)
  have kf := hc f (by simp)
  unfold s_l10Thirds
  obtain ⟨m, hq⟩ : ∃ q, n = q + 4 := ⟨n - 4, by unfold BIG at hn; omega⟩
  have z1 := th4 hn (third_isC ka kb) kc kd ke kf m
  have z2 := th4 hn (third_isC ka kc) kb kd ke kf m
  have z3 := th4 hn (third_isC ka kd) kb kc ke kf m
  have z4 := th4 hn (third_isC ka ke) kb kc kd kf m
  have z5 := th4 hn (third_isC ka kf) kb kc kd ke m
  have en : ∀ x, fx (s_l10Thirds_R n) n x = s_l10Thirds_R n (fx (s_l10Thirds_R n) (m + 3)) x := fun x => by
    conv => lhs; arg 2; rw [hq]
    rfl
  rw [en]
  generalize fx (s_l10Thirds_R n) (m + 3) = go0 at z1 z2 z3 z4 z5
  have A := th_any hn go0 (l := [a, b, c, d, e, f]) (T := []) (by simp) (by simp) (by simp) (fun k => if k = 1 then g4 (third a b) c d e f else if k = 2 then g4 (third a c) b d e f else if k = 3 then g4 (third a d) b c e f else if k = 4 then g4 (third a e) b c d f else g4 (third a f) b c d e) (fun k h1 h2 => by
    rcases (show k = 1 ∨ k = 2 ∨ k = 3 ∨ k = 4 ∨ k = 5 by simp at h2; omega) with rfl | rfl | rfl | rfl | rfl
    · exact ⟨a, b, [c, d, e, f], rfl, rfl, ka, kb, rfl, z1⟩
    · exact ⟨a, c, [b, d, e, f], rfl, rfl, ka, kc, rfl, z2⟩
    · exact ⟨a, d, [b, c, e, f], rfl, rfl, ka, kd, rfl, z3⟩
    · exact ⟨a, e, [b, c, d, f], rfl, rfl, ka, ke, rfl, z4⟩
    · exact ⟨a, f, [b, c, d, e], rfl, rfl, ka, kf, rfl, z5⟩)
  have e' : ((List.range' 1 (([a, b, c, d, e, f] : List Card).length - 1)).any fun k => if k = 1 then g4 (third a b) c d e f else if k = 2 then g4 (third a c) b d e f else if k = 3 then g4 (third a d) b c e f else if k = 4 then g4 (third a e) b c d f else g4 (third a f) b c d e) = gh6 a b c d e f := by
    unfold gh6
    show (g4 (third a b) c d e f || (g4 (third a c) b d e f || (g4 (third a d) b c e f || (g4 (third a e) b c d f || (g4 (third a f) b c d e || false))))) = _
    rw [Bool.or_false, Bool.or_assoc, Bool.or_assoc, Bool.or_assoc]
  rw [e'] at A
  exact A
theorem cx_third {a b : Card} (ha : isC a = true) (hb : isC b = true) {q : Nat} (hq : q < 4) : (cx q a + cx q b + cx q (third a b)) % 3 = 0 := by
  have ka := isC_iff.1 ha
  have kb := isC_iff.1 hb
  have t : ∀ x y : Int, 0 ≤ x ∧ x ≤ 2 → 0 ≤ y ∧ y ≤ 2 → (x + y + t3 x y) % 3 = 0 := fun x y hx hy => by
    unfold t3
    rw [Int.tmod_eq_emod_of_nonneg (by omega)]; omega
  rcases (show q = 0 ∨ q = 1 ∨ q = 2 ∨ q = 3 by omega) with rfl | rfl | rfl | rfl
  · exact t _ _ ka.1 kb.1
  · exact t _ _ ka.2.1 kb.2.1
  · exact t _ _ ka.2.2.1 kb.2.2.1
  · exact t _ _ ka.2.2.2 kb.2.2.2
theorem line3_sum {a b c d e f : Card} (hc : AllC [a, b, c, d, e, f]) (h : lineB (third a b) (third c d) (third e f) = true) {q : Nat} (hq : q < 4) : (cx q a + cx q b + cx q c + cx q d + cx q e + cx q f) % 3 = 0 := by
  have ka := hc a (by simp)
  have kb := hc b (by simp)
  have kc := hc c (by simp)
  have kd := hc d (by simp)
  have ke := hc e (by simp)
  have kf := hc f (by simp)
  unfold lineB at h
  rw [Bool.and_eq_true, decide_eq_true_iff] at h
  have h1 := cx_third ka kb hq
  have h2 := cx_third kc kd hq
  have h3 := cx_third ke kf hq
  have h4 := cx_third (third_isC ka kb) (third_isC kc kd) hq
  rw [h.2] at h4
  omega
theorem g4_sum {x y a b c d : Card} (hc : AllC [x, y, a, b, c, d]) (h : g4 (third x y) a b c d = true) {q : Nat} (hq : q < 4) : (cx q x + cx q y + cx q a + cx q b + cx q c + cx q d) % 3 = 0 := by
  unfold g4 at h
  rw [Bool.or_eq_true, Bool.or_eq_true] at h
  rcases h with (h | h) | h
  · exact line3_sum hc h hq
  · have := line3_sum (a := x) (b := y) (c := a) (d := c) (e := b) (f := d) (fun u hu => hc u (by simp at hu ⊢; rcases hu with h | h | h | h | h | h <;> simp [h])) h hq
    omega
  · have := line3_sum (a := x) (b := y) (c := a) (d := d) (e := b) (f := c) (fun u hu => hc u (by simp at hu ⊢; rcases hu with h | h | h | h | h | h <;> simp [h])) h hq
    omega
theorem gh6_sum {a b c d e f : Card} (hc : AllC [a, b, c, d, e, f]) (h : gh6 a b c d e f = true) {q : Nat} (hq : q < 4) : (cx q a + cx q b + cx q c + cx q d + cx q e + cx q f) % 3 = 0 := by
  have hp : ∀ {l : List Card}, (∀ u ∈ l, u = a ∨ u = b ∨ u = c ∨ u = d ∨ u = e ∨ u = f) → AllC l := fun hl u hu => hc u (by
    have := hl u hu
    simp only [List.mem_cons, List.not_mem_nil, or_false]; exact this)
  unfold gh6 at h
  simp only [Bool.or_eq_true] at h
  rcases h with (((h | h) | h) | h) | h
  · have := g4_sum hc h hq; omega
  · have := g4_sum (x := a) (y := c) (a := b) (b := d) (c := e) (d := f) (hp fun u hu => by simp at hu; rcases hu with h | h | h | h | h | h <;> simp [h]) h hq; omega
  · have := g4_sum (x := a) (y := d) (a := b) (b := c) (c := e) (d := f) (hp fun u hu => by simp at hu; rcases hu with h | h | h | h | h | h <;> simp [h]) h hq; omega
  · have := g4_sum (x := a) (y := e) (a := b) (b := c) (c := d) (d := f) (hp fun u hu => by simp at hu; rcases hu with h | h | h | h | h | h <;> simp [h]) h hq; omega
  · have := g4_sum (x := a) (y := f) (a := b) (b := c) (c := d) (d := e) (hp fun u hu => by simp at hu; rcases hu with h | h | h | h | h | h <;> simp [h]) h hq; omega
theorem gh_zero {a b c d e f : Card} (hc : AllC [a, b, c, d, e, f]) (h : gh6 a b c d e f = true) : sumC [a, b, c, d, e, f] = ⟨0, 0, 0, 0⟩ := by
  have s0 := gh6_sum hc h (q := 0) (by omega)
  have s1 := gh6_sum hc h (q := 1) (by omega)
  have s2 := gh6_sum hc h (q := 2) (by omega)
  have s3 := gh6_sum hc h (q := 3) (by omega)
  unfold sumC
  simp only [sm_cons, sm_nil]
  congr 1 <;> omega
theorem six_of {h : List Card} (h6 : h.length = 6) : ∃ a b c d e f, h = [a, b, c, d, e, f] := by
  match h, h6 with
  | [a, b, c, d, e, f], _ => exact ⟨a, b, c, d, e, f, rfl⟩
def sixB (h : List Card) : Bool := hand h && decide (h.length = 6)
theorem IsGhost_eq {n : Nat} (hn : BIG ≤ n) {h : List Card} (hl : h.length ≤ 1048576) : i_IsGhost n h = some (if sixB h then (ghB h, true) else (false, false)) ∧ s_IsGhost n h = some (if sixB h then (ghB h, true) else (false, false)) := by
  unfold i_IsGhost s_IsGhost i_areSix
  rw [i_IsHand_eq hn (by omega), s_l2Hand_eq hn (by omega)]
  have e1 : decide ((h.length : Int) = 6) = decide (h.length = 6) := by congr 1; apply propext; omega
  rw [e1]
  unfold sixB
  cases hh : hand h with
  | false => exact ⟨rfl, rfl⟩
  | true =>
    cases h6 : decide (h.length = 6) with
    | false => exact ⟨rfl, rfl⟩
    | true =>
      have hc := hand_all hh
      have hnd := hand_nodup hh
      obtain ⟨a, b, c, d, e, f, rfl⟩ := six_of (of_decide_eq_true h6)
      simp only [Bool.and_self, if_true, ob_some, br_true, Bool.not_true, br_false]
      rw [i_isGhost_eq hn ⟨hc, hnd⟩, s_l10Thirds_eq hn hc]
      exact ⟨rfl, rfl⟩
theorem SumGhost_eq {n : Nat} (hn : BIG ≤ n) {h : List Card} (hl : h.length ≤ 1048576) : i_SumGhost n h = some (if sixB h then (decide (sumC h = ⟨0, 0, 0, 0⟩), true) else (false, false)) ∧ s_SumGhost n h = some (if sixB h then (decide (sumC h = ⟨0, 0, 0, 0⟩), true) else (false, false)) := by
  unfold i_SumGhost s_SumGhost i_areSix
  rw [i_IsHand_eq hn (by omega), s_l2Hand_eq hn (by omega)]
  have e1 : decide ((h.length : Int) = 6) = decide (h.length = 6) := by congr 1; apply propext; omega
  rw [e1]
  unfold sixB
  cases hh : hand h with
  | false => exact ⟨rfl, rfl⟩
  | true =>
    cases h6 : decide (h.length = 6) with
    | false => exact ⟨rfl, rfl⟩
    | true =>
      have hc := hand_all hh
      have h27 := hand_len hh
      have ks := sumC_isC h
      have kz : isC (⟨0, 0, 0, 0⟩ : Card) = true := by decide
      have e : decide (num (sumC h) = 0) = decide (sumC h = ⟨0, 0, 0, 0⟩) := by
        congr 1; apply propext
        constructor
        · intro h0; exact num_inj ks kz h0
        · intro h0; rw [h0]; rfl
      simp only [Bool.and_self, if_true, ob_some, br_true, Bool.not_true, br_false, lt_eq]
      rw [i_sum_eq hn hc (by omega), ob_some, i_number_eq hn ks, ob_some, e, s_l2Sum_eq hn hc (by omega)]
      exact ⟨rfl, rfl⟩
end Go.Pl
namespace Go.Pl
open Go Go.Tv Go.RowKit
set_option linter.unusedVariables false
set_option linter.unusedSimpArgs false
def ch (N : Nat) : Nat → Nat → List Nat → List (List Nat)
  | 0, _, I => [I]
  | m + 1, s, I => (List.range' s (N - s)).flatMap fun i => ch N m (i + 1) (I ++ [i])
def FrmB (I : List Nat) (s : Nat) : Prop := (I = [] ∧ s = 0) ∨ ∃ I' i, I = I' ++ [i] ∧ s = i + 1
theorem ch_pk {N : Nat} : ∀ {m s : Nat} {I : List Nat}, Pk I s → s ≤ N → ∀ J ∈ ch N m s I, Pk J N ∧ J.length = I.length + m
  | 0, s, I, P, hs, J, hJ => by
    rw [ch, List.mem_singleton] at hJ
    subst hJ
    exact ⟨P.mono hs, rfl⟩
  | m + 1, s, I, P, hs, J, hJ => by
    rw [ch, List.mem_flatMap] at hJ
    obtain ⟨i, hi, hJ⟩ := hJ
    rw [List.mem_range'_1] at hi
    obtain ⟨a, b⟩ := ch_pk (P.mono hi.1).snoc (by omega) J hJ
    exact ⟨a, by rw [b]; simp; omega⟩
theorem ch_len (N : Nat) : ∀ (m s : Nat) (I : List Nat), (ch N m s I).length ≤ N ^ m
  | 0, s, I => Nat.le_refl _
  | m + 1, s, I => by
    have := flen (l := List.range' s (N - s)) (f := fun i => ch N m (i + 1) (I ++ [i])) (M := N ^ m) fun i _ => ch_len N m (i + 1) (I ++ [i])
    rw [List.length_range'] at this
    rw [ch, Nat.pow_succ, Nat.mul_comm]
    exact Nat.le_trans this (Nat.mul_le_mul_right _ (by omega))
theorem fx_app2 {σ ρ β : Type} {B : (σ → Opt ρ) → σ → Opt ρ} (N : Nat) (st : Nat → List β → σ) (f : Nat → List β) (fin : List β → Opt ρ) (M s : Nat)
    (step : ∀ self i a, s ≤ i → i < N → a.length + (f i).length ≤ M → B self (st i a) = self (st (i + 1) (a ++ f i))) (stop : ∀ self a, B self (st N a) = fin a) :
    ∀ k i a, s ≤ i → i ≤ N → N - i < k → a.length + ((List.range' i (N - i)).flatMap f).length ≤ M → fx B k (st i a) = fin (a ++ (List.range' i (N - i)).flatMap f)
  | 0, _, _, _, _, h, _ => by omega
  | k + 1, i, a, hs, hi, h, hM => by
    rw [fx_succ]
    by_cases hlt : i < N
    · rw [range'_cons hlt, List.flatMap_cons] at hM ⊢
      rw [List.length_append] at hM
      rw [step _ i a hs hlt (by omega), fx_app2 N st f fin M s step stop k (i + 1) (a ++ f i) (by omega) (by omega) (by omega) (by rw [List.length_append]; omega), List.append_assoc]
    · have : i = N := by omega
      subst this
      rw [stop, range'_nil (Nat.le_refl _)]; simp
theorem slb_full' {n : Nat} : slb 0 (n : Int) n = true := slb_ok (by omega) (by omega) (by omega)
theorem chI_GhostsIn {n : Nat} (hn : BIG ≤ n) {h : List Card} (hl : h.length ≤ 100) (V : List Nat → List (V6 Int)) (tot : Nat) (htot : tot ≤ 100)
    (hV : ∀ (J : List Nat) (out : List (V6 Int)), Pk J h.length → J.length = tot → out.length + (V J).length ≤ 1000000000 → i_GhostsIn_1'lpp_ko n (iz J) h out = some (h, out ++ V J)) :
    ∀ (m K s : Nat) (I : List Nat) (out : List (V6 Int)), m < K → Pk I s → s ≤ h.length → I.length + m = tot → FrmB I s → out.length + ((ch h.length m s I).flatMap V).length ≤ 1000000000 →
      fx (i_choices'l_i_GhostsIn_1pp_ko_R n) K (iz I, (m : Int), (h.length : Int), h, out) = some (h, out ++ (ch h.length m s I).flatMap V)
  | 0, K + 1, s, I, out, _, P, hs, hI, _, hM => by
    rw [fx_succ]
    simp only [i_choices'l_i_GhostsIn_1pp_ko_R]
    have e : (ch h.length 0 s I).flatMap V = V I := by rw [ch]; simp
    rw [e] at hM ⊢
    rw [br_pos (by rfl), hV I out (P.mono hs) (by omega) hM]; rfl
  | m + 1, K + 1, s, I, out, hK, P, hs, hI, hF, hM => by
    have hil := P.len
    rw [fx_succ]
    have J2 : i_choices'l_i_GhostsIn_1pp_ko_J2 n (fx (i_choices'l_i_GhostsIn_1pp_ko_R n) K) (iz I, ((m + 1 : Nat) : Int), (h.length : Int), (s : Int), h, out) = some (h, out ++ (ch h.length (m + 1) s I).flatMap V) := by
      unfold i_choices'l_i_GhostsIn_1pp_ko_J2
      have e : (ch h.length (m + 1) s I).flatMap V = (List.range' s (h.length - s)).flatMap fun i => (ch h.length m (i + 1) (I ++ [i])).flatMap V := by rw [ch, List.flatMap_assoc]
      rw [e] at hM ⊢
      refine fx_app2 (B := i_choices'l_i_GhostsIn_1pp_ko_L1 n (fx (i_choices'l_i_GhostsIn_1pp_ko_R n) K)) h.length (fun i o => (iz I, ((m + 1 : Nat) : Int), (h.length : Int), (i : Int), h, o)) (fun i => (ch h.length m (i + 1) (I ++ [i])).flatMap V) (fun o => some (h, o)) 1000000000 s (fun self i o hsi hi ho => ?_) (fun self o => ?_) n s out (Nat.le_refl _) hs (big_gt hn (by omega)) hM
      · have ih := chI_GhostsIn hn hl V tot htot hV m K (i + 1) (I ++ [i]) o (by omega) (P.mono hsi).snoc (by omega) (by simp; omega) (.inr ⟨I, i, rfl, rfl⟩) ho
        have a1 : apok 8 ((iz I).length + 1) = true := apok_ok (by rw [iz_len]; omega) (by rw [iz_len]; omega)
        have a2 : cor (iz I).isEmpty true = true := by cases (iz I).isEmpty <;> rfl
        have a3 : w64 (((m + 1 : Nat) : Int) - 1) = (m : Int) := by rw [w64_id (by omega)]; omega
        simp only [i_choices'l_i_GhostsIn_1pp_ko_L1]
        rw [br_pos (decide_eq_true (show (i : Int) < (h.length : Int) by omega)), slb_full', iz_full, a1, a2]
        simp only [cand, decide_true, ckb_true, lt_eq]
        rw [a3, iz_snoc, ih, ob_some, w64_succ (by omega)]
      · simp only [i_choices'l_i_GhostsIn_1pp_ko_L1]
        rw [br_neg (decide_eq_false (by omega))]
    simp only [i_choices'l_i_GhostsIn_1pp_ko_R]
    rw [br_neg (decide_eq_false (by omega)), iz_len]
    rcases hF with ⟨rfl, rfl⟩ | ⟨I', i, rfl, rfl⟩
    · rw [br_neg (by rfl)]
      exact J2
    · have hlen : (I' ++ [i]).length = I'.length + 1 := by simp
      rw [br_pos (decide_eq_true (by omega)), lt_eq, hlen, w64_id (by omega)]
      have e1 : (((I'.length + 1 : Nat) : Int) - 1) = (I'.length : Int) := by omega
      rw [e1, ckb_pos (inb_ok (by omega)), toNat_cast, iz_gl (by omega)]
      have e2 : gl 0 (I' ++ [i]) I'.length = i := by rw [gl_eq (by omega)]; simp
      rw [e2, lt_eq, w64_succ (by omega)]
      exact J2
theorem chI_NearLines {n : Nat} (hn : BIG ≤ n) {h : List Card} (hl : h.length ≤ 100) (V : List Nat → List (V3 Int)) (tot : Nat) (htot : tot ≤ 100)
    (hV : ∀ (J : List Nat) (out : List (V3 Int)), Pk J h.length → J.length = tot → out.length + (V J).length ≤ 1000000000 → i_NearLines_1'lpp_ko n (iz J) h out = some (h, out ++ V J)) :
    ∀ (m K s : Nat) (I : List Nat) (out : List (V3 Int)), m < K → Pk I s → s ≤ h.length → I.length + m = tot → FrmB I s → out.length + ((ch h.length m s I).flatMap V).length ≤ 1000000000 →
      fx (i_choices'l_i_NearLines_1pp_ko_R n) K (iz I, (m : Int), (h.length : Int), h, out) = some (h, out ++ (ch h.length m s I).flatMap V)
  | 0, K + 1, s, I, out, _, P, hs, hI, _, hM => by
    rw [fx_succ]
    simp only [i_choices'l_i_NearLines_1pp_ko_R]
    have e : (ch h.length 0 s I).flatMap V = V I := by rw [ch]; simp
    rw [e] at hM ⊢
    rw [br_pos (by rfl), hV I out (P.mono hs) (by omega) hM]; rfl
  | m + 1, K + 1, s, I, out, hK, P, hs, hI, hF, hM => by
    have hil := P.len
    rw [fx_succ]
    have J2 : i_choices'l_i_NearLines_1pp_ko_J2 n (fx (i_choices'l_i_NearLines_1pp_ko_R n) K) (iz I, ((m + 1 : Nat) : Int), (h.length : Int), (s : Int), h, out) = some (h, out ++ (ch h.length (m + 1) s I).flatMap V) := by
      unfold i_choices'l_i_NearLines_1pp_ko_J2
      have e : (ch h.length (m + 1) s I).flatMap V = (List.range' s (h.length - s)).flatMap fun i => (ch h.length m (i + 1) (I ++ [i])).flatMap V := by rw [ch, List.flatMap_assoc]
      rw [e] at hM ⊢
      refine fx_app2 (B := i_choices'l_i_NearLines_1pp_ko_L1 n (fx (i_choices'l_i_NearLines_1pp_ko_R n) K)) h.length (fun i o => (iz I, ((m + 1 : Nat) : Int), (h.length : Int), (i : Int), h, o)) (fun i => (ch h.length m (i + 1) (I ++ [i])).flatMap V) (fun o => some (h, o)) 1000000000 s (fun self i o hsi hi ho => ?_) (fun self o => ?_) n s out (Nat.le_refl _) hs (big_gt hn (by omega)) hM
      · have ih := chI_NearLines hn hl V tot htot hV m K (i + 1) (I ++ [i]) o (by omega) (P.mono hsi).snoc (by omega) (by simp; omega) (.inr ⟨I, i, rfl, rfl⟩) ho
        have a1 : apok 8 ((iz I).length + 1) = true := apok_ok (by rw [iz_len]; omega) (by rw [iz_len]; omega)
        have a2 : cor (iz I).isEmpty true = true := by cases (iz I).isEmpty <;> rfl
        have a3 : w64 (((m + 1 : Nat) : Int) - 1) = (m : Int) := by rw [w64_id (by omega)]; omega
        simp only [i_choices'l_i_NearLines_1pp_ko_L1]
        rw [br_pos (decide_eq_true (show (i : Int) < (h.length : Int) by omega)), slb_full', iz_full, a1, a2]
        simp only [cand, decide_true, ckb_true, lt_eq]
        rw [a3, iz_snoc, ih, ob_some, w64_succ (by omega)]
      · simp only [i_choices'l_i_NearLines_1pp_ko_L1]
        rw [br_neg (decide_eq_false (by omega))]
    simp only [i_choices'l_i_NearLines_1pp_ko_R]
    rw [br_neg (decide_eq_false (by omega)), iz_len]
    rcases hF with ⟨rfl, rfl⟩ | ⟨I', i, rfl, rfl⟩
    · rw [br_neg (by rfl)]
      exact J2
    · have hlen : (I' ++ [i]).length = I'.length + 1 := by simp
      rw [br_pos (decide_eq_true (by omega)), lt_eq, hlen, w64_id (by omega)]
      have e1 : (((I'.length + 1 : Nat) : Int) - 1) = (I'.length : Int) := by omega
      rw [e1, ckb_pos (inb_ok (by omega)), toNat_cast, iz_gl (by omega)]
      have e2 : gl 0 (I' ++ [i]) I'.length = i := by rw [gl_eq (by omega)]; simp
      rw [e2, lt_eq, w64_succ (by omega)]
      exact J2
theorem s_l10Choose_eq {n : Nat} (hn : BIG ≤ n) {N : Nat} (hN : N ≤ 10) : ∀ (m K s : Nat) (I : List Nat), m < K → m ≤ 6 → s ≤ N → I.length + m ≤ 1000 → fx (s_l10Choose_R n) K ((N : Int), (s : Int), (m : Int), iz I) = some ((ch N m s I).map iz)
  | 0, K + 1, s, I, _, _, hs, hI => by
    rw [fx_succ]
    simp only [s_l10Choose_R]
    unfold s_l1Own
    rw [br_pos (by rfl), ckb_pos (apok_ok (by rw [iz_len]; omega) (by rw [iz_len]; omega))]; rfl
  | m + 1, K + 1, s, I, hK, h6, hs, hI => by
    rw [fx_succ]
    simp only [s_l10Choose_R]
    rw [br_neg (decide_eq_false (by omega))]
    have hcl := ch_len N (m + 1) s I
    have h6' : N ^ (m + 1) ≤ 1000000 := Nat.le_trans (Nat.pow_le_pow_left hN (m + 1)) (Nat.le_trans (Nat.pow_le_pow_right (by omega) h6) (by decide))
    have e : (ch N (m + 1) s I).map iz = (List.range' s (N - s)).flatMap fun i => (ch N m (i + 1) (I ++ [i])).map iz := by rw [ch, List.map_flatMap]
    have hM : ((List.range' s (N - s)).flatMap fun i => (ch N m (i + 1) (I ++ [i])).map iz).length ≤ 1000000 := by rw [← e, List.length_map]; omega
    rw [e]
    have := fx_app2 (B := s_l10Choose_L1 n (fx (s_l10Choose_R n) K)) N (fun i o => ((N : Int), ((m + 1 : Nat) : Int), iz I, (i : Int), o)) (fun i => (ch N m (i + 1) (I ++ [i])).map iz) (fun o => some o) 1000000 s (fun self i o hsi hi ho => by
      have ih := s_l10Choose_eq hn hN m K (i + 1) (I ++ [i]) (by omega) (by omega) (by omega) (by simp; omega)
      have a3 : w64 (((m + 1 : Nat) : Int) - 1) = (m : Int) := by rw [w64_id (by omega)]; omega
      simp only [s_l10Choose_L1, lt_eq]
      unfold s_l1Own
      rw [br_pos (decide_eq_true (show (i : Int) < (N : Int) by omega)), ckb_pos (apok_ok (by rw [iz_len]; omega) (by rw [iz_len]; omega)), ob_some, ckb_pos (apok_ok (by rw [iz_len]; omega) (by rw [iz_len]; omega)), w64_succ (by omega), a3, iz_snoc, ih, ob_some, ckb_pos (apok_ok (by omega) (by omega))]) (fun self o => by
      simp only [s_l10Choose_L1]
      rw [br_neg (decide_eq_false (by omega))]) n s [] (Nat.le_refl _) hs (big_gt hn (by omega)) (by simpa using hM)
    exact this
end Go.Pl
namespace Go.Pl
open Go Go.Tv Go.RowKit
set_option linter.unusedVariables false
theorem flat_J1 {n : Nat} {m : Nat} {c : Cu} (hc : CuOK m c) (hm : m < 4611686018427300000) {h : List Card} (hl : h.length ≤ 27) (b : Bool) (hb : b = true → 0 < h.length) : HandR n (m + 2) (s_Cur_flat'p_J1 n (b, c, h)) := by
  unfold s_Cur_flat'p_J1
  cases b with
  | false => exact ⟨c, h, rfl, by omega, hc.mono (by omega)⟩
  | true =>
    have := hb rfl
    simp only [br_true]
    obtain ⟨i, c1, e1, k1, i0, i1⟩ := pick_ok n hc (by omega) (a := (h.length : Int)) (by omega)
    rw [e1, ob_some, s_l2Drop_ok (by omega) i0 i1, ob_some]
    exact ⟨_, _, rfl, by rw [List.length_append, List.length_take, List.length_drop]; omega, k1⟩
theorem flat_L2 {n : Nat} (hn : BIG ≤ n) {m : Nat} {c : Cu} (hc : CuOK m c) (hm : m + 200 < 4611686018427300000) {h : List Card} (hl : h.length ≤ 81) : HandR n (m + 180) (fx (s_Cur_flat'p_L2 n) n (c, h)) := by
  refine fx_inv (B := s_Cur_flat'p_L2 n) (fun s => s.2.length ≤ 81 ∧ CuOK (m + 2 * (81 - s.2.length)) s.1) (fun s => s.2.length) (HandR n (m + 180)) ?_ n _ ⟨hl, hc.mono (by omega)⟩ (big_gt hn (by simp only []; omega))
  rintro self ⟨c, h⟩ ⟨hl, hc⟩ ih
  simp only [] at hl hc
  simp only [s_Cur_flat'p_L2]
  by_cases h27 : 27 < h.length
  · rw [br_pos (decide_eq_true (by omega))]
    obtain ⟨i, c1, e1, k1, i0, i1⟩ := pick_ok n hc (by omega) (a := (h.length : Int)) (by omega)
    have hlen : (h.take i.toNat ++ h.drop (i.toNat + 1)).length + 1 = h.length := by rw [List.length_append, List.length_take, List.length_drop]; omega
    rw [e1, ob_some, s_l2Drop_ok (by omega) i0 i1, ob_some]
    exact ih _ ⟨by simp only []; omega, k1.mono (by simp only []; omega)⟩ (by simp only []; omega)
  · rw [br_neg (decide_eq_false (by omega)), br_dec]
    split
    · obtain ⟨x, c1, e1, k1⟩ := one_ok n hc (by omega) (a := 3) (by omega)
      rw [e1, ob_some]
      obtain ⟨c', h', e, hl', k⟩ := flat_J1 (n := n) k1 (by omega) (h := h) (by omega) x (fun _ => by omega)
      exact ⟨c', h', e, hl', k.mono (by omega)⟩
    · obtain ⟨c', h', e, hl', k⟩ := flat_J1 (n := n) hc (by omega) (h := h) (by omega) false (fun h => by cases h)
      exact ⟨c', h', e, hl', k.mono (by omega)⟩
theorem flat_ok {n : Nat} (hn : BIG ≤ n) {m : Nat} {c : Cu} (hc : CuOK m c) (hm : m + 300 < 4611686018427300000) : HandR n (m + 200) (s_Cur_flat'p n c) := by
  unfold s_Cur_flat'p
  obtain ⟨q, c1, e1, k1, hq⟩ := among_ok n hc (by omega) (l := [3, 2, 1, 4]) (by decide)
  have hq' := mem_small hq 1 4 (by decide)
  rw [e1, ob_some]
  refine fx_inv (B := s_Cur_flat'p_L3 n) (fun s => ∃ (q : Int) (c : Cu) (h : List Card), s = (q, c, h) ∧ 0 ≤ q ∧ q ≤ 4 ∧ (h.length : Int) ≤ 4 - q ∧ AllC h ∧ CuOK (m + 2 + 2 * (4 - q.toNat)) c) (fun s => s.1.toNat) (HandR n (m + 200)) ?_ n _ ⟨q, c1, [], rfl, by omega, hq'.2, by simp; omega, fun c hc => (by cases hc), k1.mono (by omega)⟩ (big_gt hn (by simp only []; omega))
  clear hq hq' e1 k1 c1 q
  rintro self _ ⟨q, c, h, rfl, q0, q4, hl, ha, hc⟩ ih
  simp only [s_Cur_flat'p_L3]
  by_cases h0 : 0 < q
  · rw [br_pos (decide_eq_true h0)]
    obtain ⟨r, c3, e3, k3, r0, r1⟩ := pick_ok n hc (by omega) (a := 81) (by omega)
    have hx : isC (cardAt r) = true := cardAt_isC (by omega)
    rw [e3, ob_some, s_l2At_eq n (by omega), ob_some, s_l2Put_eq hn ha (by omega) hx, ob_some, lt_eq, w64_id (by omega)]
    have := ins_len (c := cardAt r) (l := h)
    exact ih _ ⟨q - 1, c3, _, rfl, by omega, by omega, by omega, ins_allC hx ha, k3.mono (by omega)⟩ (by simp only []; omega)
  · rw [br_neg (decide_eq_false h0)]
    obtain ⟨r, e, R⟩ := s_l6Span_ok hn ha (by omega)
    rw [e, ob_some]
    obtain ⟨c', h', e', hl', k⟩ := flat_L2 hn hc (by omega) (nodup_len81 R.ss.nodup R.c)
    exact ⟨c', h', e', hl', k.mono (by omega)⟩
theorem someHand_ok {n : Nat} (hn : BIG ≤ n) {m : Nat} {c : Cu} (hc : CuOK m c) (hm : m + 400 < 4611686018427300000) : HandR n (m + 300) (s_Cur_someHand'p n c) := by
  unfold s_Cur_someHand'p
  obtain ⟨x, c1, e1, k1⟩ := one_ok n hc (by omega) (a := 2) (by omega)
  rw [e1, ob_some]
  cases x with
  | true =>
    obtain ⟨c', h', e', hl', k⟩ := flat_ok hn k1 (by omega)
    rw [br_true, e', ob_some]
    exact ⟨c', h', rfl, hl', k.mono (by omega)⟩
  | false =>
    obtain ⟨c', h', e', hl', k⟩ := hand_ok hn k1 (by omega)
    rw [br_false, e', ob_some]
    exact ⟨c', h', rfl, hl', k.mono (by omega)⟩
end Go.Pl
