/- Plain laws: LCp, LSm, LWs, LPy, LSt, LSd. -/
import Derived.Test.YtfoielhhflbbfaaG7
import Derived.Test.YtfoielhhflbbfaaG2
import Derived.Test.YtfoielhhflbbfaaPL
import Derived.Test.YtfoielhhflbbfaaG0
set_option linter.unusedVariables false
set_option linter.unusedSimpArgs false
namespace Go.Pl
open Go Go.Tv Go.RowKit
set_option linter.unusedVariables false
theorem v_vHands_eq {n : Nat} (hn : BIG ≤ n) {a b : List Card} (hl : a.length ≤ 9223372036854775806) : v_vHands n a b = some (decide (a = b)) := by
  unfold v_vHands
  by_cases hlen : a.length = b.length
  · have e0 : decide ((a.length : Int) = (b.length : Int)) = true := decide_eq_true (by omega)
    simp only [e0, Bool.not_true, br_false]
    have := fx_cnt (B := v_vHands_L1 n) a.length (fun i => (a, b, (i : Int))) (fun _ => True) (fun i => some (decide (a.drop i = b.drop i))) (fun self i hi _ ih => by
      simp only [v_vHands_L1]
      by_cases h : i < a.length
      · have e1 : decide ((i : Int) < (a.length : Int)) = true := decide_eq_true (by omega)
        simp only [e1, br_true, inb_ok h, inb_ok (show i < b.length by omega), ckb_true, toNat_cast, gl_eq h, gl_eq (show i < b.length by omega), lt_eq]
        rw [List.drop_eq_getElem_cons h, List.drop_eq_getElem_cons (show i < b.length by omega)]
        by_cases hc : a[i] = b[i]
        · simp only [eqd, hc, decide_true, Bool.not_true, br_false, List.cons.injEq, true_and]
          rw [w64_succ (by omega)]; exact ih h trivial
        · have hne : ¬ (a[i] :: a.drop (i + 1) = b[i] :: b.drop (i + 1)) := fun e => hc (List.cons.inj e).1
          rw [decide_eq_false hne]; unfold eqd; rw [decide_eq_false hc]; rfl
      · have e1 : decide ((i : Int) < (a.length : Int)) = false := decide_eq_false (by omega)
        simp only [e1, br_false]
        rw [List.drop_eq_nil_of_le (by omega), List.drop_eq_nil_of_le (by omega)]; simp) n 0 (Nat.zero_le _) trivial (big_gt hn (by omega))
    simpa using this
  · have e0 : decide ((a.length : Int) = (b.length : Int)) = false := decide_eq_false (by omega)
    simp only [e0, Bool.not_false, br_true]
    have : a ≠ b := fun h => hlen (by rw [h])
    simp [this]
end Go.Pl
namespace Go.Pl
open Go Go.Tv Go.RowKit
set_option linter.unusedVariables false
set_option linter.unusedSimpArgs false
def sm (F : Card → Int) (l : List Card) : Int := (l.map F).sum
theorem sm_nil (F : Card → Int) : sm F [] = 0 := rfl
theorem sm_cons (F : Card → Int) (c : Card) (l : List Card) : sm F (c :: l) = F c + sm F l := by unfold sm; rw [List.map_cons, List.sum_cons]
theorem sm_app (F : Card → Int) (a b : List Card) : sm F (a ++ b) = sm F a + sm F b := by
  induction a with
  | nil => rw [List.nil_append, sm_nil]; omega
  | cons x a ih => rw [List.cons_append, sm_cons, sm_cons, ih]; omega
theorem sm_one (l : List Card) : sm (fun _ => 1) l = (l.length : Int) := by
  induction l with
  | nil => rfl
  | cons x l ih => rw [sm_cons, ih, List.length_cons]; omega
def cx (k : Nat) (c : Card) : Int := V4.get c k
def sumC (h : List Card) : Card := ⟨sm (cx 0) h % 3, sm (cx 1) h % 3, sm (cx 2) h % 3, sm (cx 3) h % 3⟩
theorem sumC_isC (h : List Card) : isC (sumC h) = true := by
  rw [isC_iff]
  unfold sumC
  simp only []
  omega
theorem sumC_snoc (h : List Card) (c : Card) : sumC (h ++ [c]) = ⟨((sumC h).x0 + c.x0) % 3, ((sumC h).x1 + c.x1) % 3, ((sumC h).x2 + c.x2) % 3, ((sumC h).x3 + c.x3) % 3⟩ := by
  unfold sumC
  simp only [sm_app, sm_cons, sm_nil, cx, V4.get]
  congr 1 <;> omega
end Go.Pl
namespace Go.Pl
open Go Go.Tv Go.RowKit
set_option linter.unusedVariables false
set_option linter.unusedSimpArgs false
def W (f : Nat → Int) : Nat → Int
  | 0 => 0
  | n + 1 => W f n + f n
theorem W_range (f : Nat → Int) : ∀ n, ((List.range' 0 (n - 0)).map f).sum = W f n
  | 0 => rfl
  | n + 1 => by
    have ih := W_range f n
    rw [Nat.sub_zero] at ih ⊢
    rw [List.range'_concat, List.map_append, List.sum_append, ih, W]
    simp
theorem W_congr {f g : Nat → Int} : ∀ {n : Nat}, (∀ i, i < n → f i = g i) → W f n = W g n
  | 0, _ => rfl
  | n + 1, h => by rw [W, W, W_congr fun i hi => h i (by omega), h n (by omega)]
theorem W_sub (f g : Nat → Int) : ∀ n, W (fun i => f i - g i) n = W f n - W g n
  | 0 => rfl
  | n + 1 => by rw [W, W, W, W_sub f g n]; omega
theorem W_ind (v : Int) (i : Nat) : ∀ n, W (fun k => if k = i then v else 0) n = if i < n then v else 0
  | 0 => rfl
  | n + 1 => by
    rw [W, W_ind v i n]
    by_cases a : i < n
    · rw [if_pos a, if_neg (by omega), if_pos (by omega)]; omega
    · by_cases b : n = i
      · rw [if_neg a, if_pos b, if_pos (by omega)]; omega
      · rw [if_neg a, if_neg b, if_neg (by omega)]; omega
theorem sm_W (F : Card → Int) (h : List Card) : sm F h = W (fun k => F (gz h k)) h.length := by
  have : h = (List.range' 0 (h.length - 0)).map (gz h) := by
    refine List.ext_getElem (by simp) fun i h1 h2 => ?_
    rw [List.getElem_map, List.getElem_range']
    have : gz h i = h[i] := gl_eq h1
    simp [this]
  conv => lhs; rw [this]
  unfold sm
  rw [List.map_map, ← W_range]; rfl
theorem line_sum {h : List Card} (H : HandL h) {i j k : Nat} (L : LineAt h i j k) (q : Nat) : (cx q (gz h i) + cx q (gz h j) + cx q (gz h k)) % 3 = 0 := by
  have ci : isC (gz h i) = true := gl_C H.c (by have := L.ij; have := L.jk; have := L.kl; omega)
  have cj : isC (gz h j) = true := gl_C H.c (by have := L.jk; have := L.kl; omega)
  rw [← L.e]
  rw [isC_iff] at ci cj
  have key : ∀ x y : Int, 0 ≤ x ∧ x ≤ 2 → 0 ≤ y ∧ y ≤ 2 → (x + y + t3 x y) % 3 = 0 := fun x y hx hy => by
    unfold t3
    rw [Int.tmod_eq_emod_of_nonneg (by omega)]; omega
  unfold cx third
  match q with
  | 0 => exact key _ _ ci.1 cj.1
  | 1 => exact key _ _ ci.2.1 cj.2.1
  | 2 => exact key _ _ ci.2.2.1 cj.2.2.1
  | q + 3 => exact key _ _ ci.2.2.2 cj.2.2.2
end Go.Pl
namespace Go.Pl
open Go Go.Tv Go.RowKit
set_option linter.unusedVariables false
set_option linter.unusedSimpArgs false
theorem rest_W (F : Card → Int) (h : List Card) (t : V3 Int) : sm F (rest h t) = W (fun k => if inT t k = true then 0 else F (gz h k)) h.length := by
  rw [← W_range]
  unfold rest
  generalize List.range' 0 (h.length - 0) = L
  induction L with
  | nil => rfl
  | cons x L ih =>
    rw [List.flatMap_cons, sm_app, ih, List.map_cons, List.sum_cons]
    congr 1
    unfold rest1
    split
    · rfl
    · rw [sm_cons, sm_nil, Int.add_zero]
theorem rest_sum (F : Card → Int) {h : List Card} {i j k : Nat} (hij : i < j) (hjk : j < k) (hk : k < h.length) : sm F (rest h ⟨(i : Int), (j : Int), (k : Int)⟩) = sm F h - F (gz h i) - F (gz h j) - F (gz h k) := by
  rw [rest_W, sm_W]
  have e : ∀ q, q < h.length → (if inT ⟨(i : Int), (j : Int), (k : Int)⟩ (q : Int) = true then 0 else F (gz h q)) = (fun q => (fun q => (fun q => F (gz h q) - (if q = i then F (gz h i) else 0)) q - (if q = j then F (gz h j) else 0)) q - (if q = k then F (gz h k) else 0)) q := fun q _ => by
    have : inT ⟨(i : Int), (j : Int), (k : Int)⟩ (q : Int) = (decide (q = i) || decide (q = j) || decide (q = k)) := by
      unfold inT V3.els
      rw [Bool.eq_iff_iff]
      simp only [List.contains_cons, List.contains_nil, Bool.or_false, Bool.or_eq_true, beq_iff_eq, decide_eq_true_eq]
      omega
    rw [this]
    simp only []
    by_cases a : q = i
    · subst a; simp [show ¬ q = j by omega, show ¬ q = k by omega]
    · by_cases b : q = j
      · subst b; simp [show ¬ q = i by omega, show ¬ q = k by omega]
      · by_cases c : q = k
        · subst c; simp [show ¬ q = i by omega, show ¬ q = j by omega]
        · simp [a, b, c]
  rw [W_congr e, W_sub, W_sub, W_sub, W_ind, W_ind, W_ind, if_pos (by omega), if_pos (by omega), if_pos hk]
structure PlI (p : List Card) (t : Nat) (d : Deal) : Prop where
  ok : DealOK p d
  ge : 12 ≤ d.2.1
  m3 : d.2.1 % 3 = 0
  cnt : 3 * (t : Int) + (d.2.2.length : Int) = d.2.1
  le : d.2.2.length ≤ 21
  sum : ∀ q, (sm (cx q) (p.take d.2.1.toNat) - sm (cx q) d.2.2) % 3 = 0
theorem PlI.handL {p : List Card} (hp : p.Perm deck) {t : Nat} {d : Deal} (I : PlI p t d) : HandL d.2.2 := ⟨I.ok.isC hp, I.ok.nodup, by have := I.le; omega⟩
theorem sub_length {α : Type} {l : List α} {a b : Nat} (hab : a ≤ b) (hb : b ≤ l.length) : (sub l a b).length = b - a := by
  unfold sub; rw [List.length_take, List.length_drop]; omega
theorem lay_facts {p : List Card} (hp : p.Perm deck) {d : Deal} (hd : 0 ≤ d.2.1 ∧ d.2.1 ≤ 81) {k : Int} (hk : 0 ≤ k) {r : Int} (hr : r = if 81 < d.2.1 + k then 81 else d.2.1 + k) :
    (layD p d k).2.1 = r ∧ ((layD p d k).2.2.length : Int) = d.2.2.length + (r - d.2.1) ∧ ∀ q, sm (cx q) (p.take r.toNat) - sm (cx q) (layD p d k).2.2 = sm (cx q) (p.take d.2.1.toNat) - sm (cx q) d.2.2 := by
  obtain ⟨h81, _, _⟩ := pile_facts hp
  have hr2 : d.2.1 ≤ r ∧ r ≤ 81 := by rw [hr]; split <;> omega
  unfold layD
  rw [← hr]
  refine ⟨rfl, ?_, fun q => ?_⟩
  · show ((d.2.2 ++ sub p d.2.1.toNat r.toNat).length : Int) = _
    rw [List.length_append, sub_length (by omega) (by omega)]; omega
  · show _ - sm (cx q) (d.2.2 ++ sub p d.2.1.toNat r.toNat) = _
    rw [← sub_take p (show d.2.1.toNat ≤ r.toNat by omega), sm_app, sm_app]; omega
theorem PlI.take {p : List Card} (hp : p.Perm deck) {t : Nat} {d : Deal} (I : PlI p t d) {x : V3 Int} (hx : x ∈ linesOf d.2.2) : PlI p (t + 1) (takeD p d x) ∧ 2 * (81 - (takeD p d x).2.1) + (takeD p d x).2.2.length < 2 * (81 - d.2.1) + (d.2.2.length : Int) := by
  have H := I.handL hp
  obtain ⟨i, j, k, rfl, L⟩ := (mem_lines H).1 hx
  have hl := I.ok.laid
  have m3 := I.m3; have c := I.cnt; have g := I.ge; have le := I.le
  have hij := L.ij; have hjk := L.jk; have hk := L.kl
  have rl : ((rest d.2.2 ⟨(i : Int), (j : Int), (k : Int)⟩).length : Int) = d.2.2.length - 3 := by
    have := rest_sum (fun _ => 1) hij hjk hk
    rw [sm_one, sm_one] at this; omega
  unfold takeD
  generalize hz : (if (rest d.2.2 ⟨(i : Int), (j : Int), (k : Int)⟩).length < 12 then 12 - ((rest d.2.2 ⟨(i : Int), (j : Int), (k : Int)⟩).length : Int) else 0) = z
  have hz2 : (0 ≤ z ∧ z % 3 = 0) ∧ (z = 0 ∨ (d.2.2.length : Int) - 3 + z = 12) := by split at hz <;> omega
  generalize hr : (if 81 < d.2.1 + z then (81 : Int) else d.2.1 + z) = r
  have hr2 : (d.2.1 ≤ r ∧ r ≤ 81) ∧ r % 3 = 0 ∧ r ≤ d.2.1 + z := by split at hr <;> omega
  have D := restD_ok I.ok ⟨(i : Int), (j : Int), (k : Int)⟩
  obtain ⟨f1, f2, f3⟩ := lay_facts hp (d := restD d ⟨(i : Int), (j : Int), (k : Int)⟩) (k := z) hl (by omega) hr.symm
  have f2 : ((layD p (restD d ⟨(i : Int), (j : Int), (k : Int)⟩) z).2.2.length : Int) = ((rest d.2.2 ⟨(i : Int), (j : Int), (k : Int)⟩).length : Int) + (r - d.2.1) := f2
  refine ⟨⟨layD_ok D hp (by omega), by rw [f1]; omega, by rw [f1]; omega, by rw [f1, f2]; omega, by omega, fun q => ?_⟩, by rw [f1, f2]; omega⟩
  rw [f1, f3]
  have s1 := rest_sum (cx q) hij hjk hk
  have s2 := line_sum H L q
  have s3 := I.sum q
  show (sm (cx q) (p.take d.2.1.toNat) - sm (cx q) (rest d.2.2 ⟨(i : Int), (j : Int), (k : Int)⟩)) % 3 = 0
  rw [s1]; omega
end Go.Pl
namespace Go.Pl
open Go Go.Tv Go.RowKit
set_option linter.unusedVariables false
set_option linter.unusedSimpArgs false
def ovB (d : Deal) : Bool := decide ((linesOf d.2.2).length = 0) && decide (d.2.1 = 81)
theorem s_lines' {n : Nat} (hn : BIG ≤ n) {p : List Card} (hp : p.Perm deck) {d : Deal} (h : DealOK p d) : s_l4Lines n d.2.2 = some (linesOf d.2.2) := by
  obtain ⟨h81, _, _⟩ := pile_facts hp
  rw [s_l4Lines_eq hn (h.len h81) (h.isC hp), lns_eq h.nodup]
theorem s_l4Over_eq {n : Nat} (hn : BIG ≤ n) {p : List Card} (hp : p.Perm deck) {d : Deal} (h : DealOK p d) : s_l4Over n d = some (ovB d) := by
  unfold s_l4Over ovB
  rw [s_lines' hn hp h, ob_some]
  have e : decide (((linesOf d.2.2).length : Int) = 0) = decide ((linesOf d.2.2).length = 0) := by congr 1; apply propext; omega
  rw [e]
  cases decide (d.2.1 = 81) <;> cases decide ((linesOf d.2.2).length = 0) <;> rfl
def fstL (d : Deal) : V3 Int := gl ⟨0, 0, 0⟩ (linesOf d.2.2) 0
theorem step_lay {n : Nat} (hn : BIG ≤ n) {p : List Card} {d : Deal} (P : Piles n d.1 p) (h : DealOK p d) (h0 : (linesOf d.2.2).length = 0) : _impl_Deal__step n d = some (d.1, (layD p d 3).2.1, false, (layD p d 3).2.2) ∧ s_l4Step n d = some (d.1, (layD p d 3).2.1, (layD p d 3).2.2) := by
  obtain ⟨h81, _, _⟩ := pile_facts P.perm
  have hl := h.len h81
  unfold _impl_Deal__step s_l4Step
  rw [s_lines' hn P.perm h, i_linesIn_eq hn hl (h.isC P.perm) h.nodup, ob_some, ob_some, br_neg (decide_eq_false (by omega)), br_pos (decide_eq_true (by omega)), i_lay_eq hn P.ii h81 h.laid hl (by omega), s_l4Lay_eq P.ss h81 h.laid hl (by omega)]
  exact ⟨rfl, rfl⟩
theorem step_take {n : Nat} (hn : BIG ≤ n) {p : List Card} {d : Deal} (P : Piles n d.1 p) (h : DealOK p d) (h0 : ¬ (linesOf d.2.2).length = 0) : _impl_Deal__step n d = some (d.1, (takeD p d (fstL d)).2.1, true, (takeD p d (fstL d)).2.2) ∧ s_l4Step n d = some (d.1, (takeD p d (fstL d)).2.1, (takeD p d (fstL d)).2.2) := by
  obtain ⟨h81, _, _⟩ := pile_facts P.perm
  have hl := h.len h81
  unfold _impl_Deal__step s_l4Step
  have hi : inb 0 (linesOf d.2.2).length = true := inb_ok (i := 0) (by omega)
  rw [s_lines' hn P.perm h, i_linesIn_eq hn hl (h.isC P.perm) h.nodup, ob_some, ob_some, br_pos (decide_eq_true (by omega)), br_neg (decide_eq_false (by omega)), ckb_pos hi, ckb_pos hi]
  have e1 := i_take_eq hn P.ii P.perm h (fstL d)
  have e2 := s_l4Take_eq hn P.ss P.perm h (fstL d)
  unfold fstL at e1 e2
  rw [e1, e2]
  exact ⟨rfl, rfl⟩
end Go.Pl
namespace Go.Pl
open Go Go.Tv Go.RowKit
set_option linter.unusedVariables false
set_option linter.unusedSimpArgs false
theorem seedOf_ok {n : Nat} {m : Nat} {c : Cu} (hc : CuOK m c) (hm : m + 10 < 4611686018427300000) : ∃ r c', s_Cur_seedOf'p n c = some (r, c') ∧ CuOK (m + 10) c' := by
  unfold s_Cur_seedOf'p
  obtain ⟨x, c1, e1, k1⟩ := one_ok n hc (by omega) (a := 40) (by omega)
  rw [e1, ob_some]
  cases x with
  | true =>
    simp only [br_true]
    obtain ⟨y, c2, e2, k2, _⟩ := among_ok n k1 (by omega) (l := [(-1), 65536, 0, 65535, 4611686018427387904]) (by decide)
    rw [e2, ob_some]
    exact ⟨_, _, rfl, k2.mono (by omega)⟩
  | false =>
    simp only [br_false, lt_eq]
    obtain ⟨y, c2, e2, k2, _⟩ := pick_ok n k1 (by omega) (a := 256) (by omega)
    rw [e2, ob_some]
    obtain ⟨z, c3, e3, k3, _⟩ := pick_ok n k2 (by omega) (a := 200) (by omega)
    rw [e3, ob_some]
    exact ⟨_, _, rfl, k3.mono (by omega)⟩
end Go.Pl
