/- Plain laws: LPy. -/
import Derived.Test.YtbkbkaonjhlplaaLLSm
import Derived.Test.YtbkbkaonjhlplaaLLVc
set_option linter.unusedVariables false
set_option linter.unusedSimpArgs false
namespace Go.Pl
open Go Go.Tv Go.RowKit
set_option linter.unusedVariables false
set_option linter.unusedSimpArgs false

/-! sums over places -/
def W (f : Nat → Int) : Nat → Int
  | 0 => 0
  | n + 1 => W f n + f n
theorem W_range (f : Nat → Int) : ∀ n, ((List.range' 0 (n - 0)).map f).sum = W f n
  | 0 => rfl
  | n + 1 => by
    have ih := W_range f n
    rw [Nat.sub_zero] at ih ⊢
    rw [List.range'_concat, List.map_append, List.sum_append, ih, W]
    simp
theorem W_congr {f g : Nat → Int} : ∀ {n : Nat}, (∀ i, i < n → f i = g i) → W f n = W g n
  | 0, _ => rfl
  | n + 1, h => by rw [W, W, W_congr fun i hi => h i (by omega), h n (by omega)]
theorem W_sub (f g : Nat → Int) : ∀ n, W (fun i => f i - g i) n = W f n - W g n
  | 0 => rfl
  | n + 1 => by rw [W, W, W, W_sub f g n]; omega
theorem W_ind (v : Int) (i : Nat) : ∀ n, W (fun k => if k = i then v else 0) n = if i < n then v else 0
  | 0 => rfl
  | n + 1 => by
    rw [W, W_ind v i n]
    by_cases a : i < n
    · rw [if_pos a, if_neg (by omega), if_pos (by omega)]; omega
    · by_cases b : n = i
      · rw [if_neg a, if_pos b, if_pos (by omega)]; omega
      · rw [if_neg a, if_neg b, if_neg (by omega)]; omega
theorem sm_W (F : Card → Int) (h : List Card) : sm F h = W (fun k => F (gz h k)) h.length := by
  have : h = (List.range' 0 (h.length - 0)).map (gz h) := by
    refine List.ext_getElem (by simp) fun i h1 h2 => ?_
    rw [List.getElem_map, List.getElem_range']
    have : gz h i = h[i] := gl_eq h1
    simp [this]
  conv => lhs; rw [this]
  unfold sm
  rw [List.map_map, ← W_range]; rfl
theorem rest_W (F : Card → Int) (h : List Card) (t : V3 Int) : sm F (rest h t) = W (fun k => if inT t k = true then 0 else F (gz h k)) h.length := by
  rw [← W_range]
  unfold rest
  generalize List.range' 0 (h.length - 0) = L
  induction L with
  | nil => rfl
  | cons x L ih =>
    rw [List.flatMap_cons, sm_app, ih, List.map_cons, List.sum_cons]
    congr 1
    unfold rest1
    split
    · rfl
    · rw [sm_cons, sm_nil, Int.add_zero]
theorem rest_sum (F : Card → Int) {h : List Card} {i j k : Nat} (hij : i < j) (hjk : j < k) (hk : k < h.length) : sm F (rest h ⟨(i : Int), (j : Int), (k : Int)⟩) = sm F h - F (gz h i) - F (gz h j) - F (gz h k) := by
  rw [rest_W, sm_W]
  have e : ∀ q, q < h.length → (if inT ⟨(i : Int), (j : Int), (k : Int)⟩ (q : Int) = true then 0 else F (gz h q)) = (fun q => (fun q => (fun q => F (gz h q) - (if q = i then F (gz h i) else 0)) q - (if q = j then F (gz h j) else 0)) q - (if q = k then F (gz h k) else 0)) q := fun q _ => by
    have : inT ⟨(i : Int), (j : Int), (k : Int)⟩ (q : Int) = (decide (q = i) || decide (q = j) || decide (q = k)) := by
      unfold inT V3.els
      rw [Bool.eq_iff_iff]
      simp only [List.contains_cons, List.contains_nil, Bool.or_false, Bool.or_eq_true, beq_iff_eq, decide_eq_true_eq]
      omega
    rw [this]
    simp only []
    by_cases a : q = i
    · subst a; simp [show ¬ q = j by omega, show ¬ q = k by omega]
    · by_cases b : q = j
      · subst b; simp [show ¬ q = i by omega, show ¬ q = k by omega]
      · by_cases c : q = k
        · subst c; simp [show ¬ q = i by omega, show ¬ q = j by omega]
        · simp [a, b, c]
  rw [W_congr e, W_sub, W_sub, W_sub, W_ind, W_ind, W_ind, if_pos (by omega), if_pos (by omega), if_pos hk]
theorem line_sum {h : List Card} (H : HandL h) {i j k : Nat} (L : LineAt h i j k) (q : Nat) : (cx q (gz h i) + cx q (gz h j) + cx q (gz h k)) % 3 = 0 := by
  have ci : isC (gz h i) = true := gl_C H.c (by have := L.ij; have := L.jk; have := L.kl; omega)
  have cj : isC (gz h j) = true := gl_C H.c (by have := L.jk; have := L.kl; omega)
  rw [← L.e]
  rw [isC_iff] at ci cj
  have key : ∀ x y : Int, 0 ≤ x ∧ x ≤ 2 → 0 ≤ y ∧ y ≤ 2 → (x + y + t3 x y) % 3 = 0 := fun x y hx hy => by
    unfold t3
    rw [Int.tmod_eq_emod_of_nonneg (by omega)]; omega
  unfold cx third
  match q with
  | 0 => exact key _ _ ci.1 cj.1
  | 1 => exact key _ _ ci.2.1 cj.2.1
  | 2 => exact key _ _ ci.2.2.1 cj.2.2.1
  | q + 3 => exact key _ _ ci.2.2.2 cj.2.2.2

/-! plays -/
structure PlI (p : List Card) (t : Nat) (d : Deal) : Prop where
  ok : DealOK p d
  ge : 12 ≤ d.2.1
  m3 : d.2.1 % 3 = 0
  cnt : 3 * (t : Int) + (d.2.2.length : Int) = d.2.1
  le : d.2.2.length ≤ 21
  sum : ∀ q, (sm (cx q) (p.take d.2.1.toNat) - sm (cx q) d.2.2) % 3 = 0
theorem PlI.handL {p : List Card} (hp : p.Perm deck) {t : Nat} {d : Deal} (I : PlI p t d) : HandL d.2.2 := ⟨I.ok.isC hp, I.ok.nodup, by have := I.le; omega⟩
theorem sub_length {α : Type} {l : List α} {a b : Nat} (hab : a ≤ b) (hb : b ≤ l.length) : (sub l a b).length = b - a := by
  unfold sub; rw [List.length_take, List.length_drop]; omega
theorem lay_facts {p : List Card} (hp : p.Perm deck) {d : Deal} (hd : 0 ≤ d.2.1 ∧ d.2.1 ≤ 81) {k : Int} (hk : 0 ≤ k) {r : Int} (hr : r = if 81 < d.2.1 + k then 81 else d.2.1 + k) :
    (layD p d k).2.1 = r ∧ ((layD p d k).2.2.length : Int) = d.2.2.length + (r - d.2.1) ∧ ∀ q, sm (cx q) (p.take r.toNat) - sm (cx q) (layD p d k).2.2 = sm (cx q) (p.take d.2.1.toNat) - sm (cx q) d.2.2 := by
  obtain ⟨h81, _, _⟩ := pile_facts hp
  have hr2 : d.2.1 ≤ r ∧ r ≤ 81 := by rw [hr]; split <;> omega
  unfold layD
  rw [← hr]
  refine ⟨rfl, ?_, fun q => ?_⟩
  · show ((d.2.2 ++ sub p d.2.1.toNat r.toNat).length : Int) = _
    rw [List.length_append, sub_length (by omega) (by omega)]; omega
  · show _ - sm (cx q) (d.2.2 ++ sub p d.2.1.toNat r.toNat) = _
    rw [← sub_take p (show d.2.1.toNat ≤ r.toNat by omega), sm_app, sm_app]; omega
theorem PlI.lay {p : List Card} (hp : p.Perm deck) {t : Nat} {d : Deal} (I : PlI p t d) (h0 : (linesOf d.2.2).length = 0) (hne : d.2.1 ≠ 81) : PlI p t (layD p d 3) ∧ d.2.1 + 3 = (layD p d 3).2.1 := by
  have H := I.handL hp
  have hl := I.ok.laid
  have m3 := I.m3; have c := I.cnt; have g := I.ge
  have hcap := cap_len H.c H.nd ((capB_iff H).1 (decide_eq_true h0))
  obtain ⟨f1, f2, f3⟩ := lay_facts hp (k := 3) hl (by omega) rfl
  rw [if_neg (show ¬ 81 < d.2.1 + 3 by omega)] at f1 f2 f3
  refine ⟨⟨layD_ok I.ok hp (by omega), by rw [f1]; omega, by rw [f1]; omega, by rw [f2, f1]; omega, by omega, fun q => ?_⟩, f1.symm⟩
  rw [f1, f3]; exact I.sum q
theorem PlI.take {p : List Card} (hp : p.Perm deck) {t : Nat} {d : Deal} (I : PlI p t d) {x : V3 Int} (hx : x ∈ linesOf d.2.2) : PlI p (t + 1) (takeD p d x) ∧ 2 * (81 - (takeD p d x).2.1) + (takeD p d x).2.2.length < 2 * (81 - d.2.1) + (d.2.2.length : Int) := by
  have H := I.handL hp
  obtain ⟨i, j, k, rfl, L⟩ := (mem_lines H).1 hx
  have hl := I.ok.laid
  have m3 := I.m3; have c := I.cnt; have g := I.ge; have le := I.le
  have hij := L.ij; have hjk := L.jk; have hk := L.kl
  have rl : ((rest d.2.2 ⟨(i : Int), (j : Int), (k : Int)⟩).length : Int) = d.2.2.length - 3 := by
    have := rest_sum (fun _ => 1) hij hjk hk
    rw [sm_one, sm_one] at this; omega
  unfold takeD
  generalize hz : (if (rest d.2.2 ⟨(i : Int), (j : Int), (k : Int)⟩).length < 12 then 12 - ((rest d.2.2 ⟨(i : Int), (j : Int), (k : Int)⟩).length : Int) else 0) = z
  have hz2 : (0 ≤ z ∧ z % 3 = 0) ∧ (z = 0 ∨ (d.2.2.length : Int) - 3 + z = 12) := by split at hz <;> omega
  generalize hr : (if 81 < d.2.1 + z then (81 : Int) else d.2.1 + z) = r
  have hr2 : (d.2.1 ≤ r ∧ r ≤ 81) ∧ r % 3 = 0 ∧ r ≤ d.2.1 + z := by split at hr <;> omega
  have D := restD_ok I.ok ⟨(i : Int), (j : Int), (k : Int)⟩
  obtain ⟨f1, f2, f3⟩ := lay_facts hp (d := restD d ⟨(i : Int), (j : Int), (k : Int)⟩) (k := z) hl (by omega) hr.symm
  have f2 : ((layD p (restD d ⟨(i : Int), (j : Int), (k : Int)⟩) z).2.2.length : Int) = ((rest d.2.2 ⟨(i : Int), (j : Int), (k : Int)⟩).length : Int) + (r - d.2.1) := f2
  refine ⟨⟨layD_ok D hp (by omega), by rw [f1]; omega, by rw [f1]; omega, by rw [f1, f2]; omega, by omega, fun q => ?_⟩, by rw [f1, f2]; omega⟩
  rw [f1, f3]
  have s1 := rest_sum (cx q) hij hjk hk
  have s2 := line_sum H L q
  have s3 := I.sum q
  show (sm (cx q) (p.take d.2.1.toNat) - sm (cx q) (rest d.2.2 ⟨(i : Int), (j : Int), (k : Int)⟩)) % 3 = 0
  rw [s1]; omega
end Go.Pl
