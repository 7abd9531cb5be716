/- Plain laws: LSum, LCap, LCap2, LCap3, LTr, LX2. -/
import Derived.Test.YtfoielhhflbbfaaG0
import Derived.KernelRfl
import Derived.Test.YtfoielhhflbbfaaG3
set_option linter.unusedVariables false
set_option linter.unusedSimpArgs false
namespace Go.Pl
open Go Go.Tv
def S : Nat → (Nat → Nat) → Nat
  | 0, _ => 0
  | n + 1, f => S n f + f n
def T (n : Nat) (g : Nat → Nat → Nat) : Nat := S n fun i => S i (g i)
def b2 (b : Bool) : Nat := if b = true then 1 else 0
theorem S_range' (f : Nat → Nat) : ∀ (n : Nat), ((List.range' 0 (n - 0)).map f).sum = S n f
  | 0 => rfl
  | n + 1 => by
    have ih := S_range' f n
    simp only [Nat.sub_zero] at ih ⊢
    rw [List.range'_concat, List.map_append, List.sum_append, ih]
    simp [S]
theorem S_const (k : Nat) : ∀ n, S n (fun _ => k) = n * k
  | 0 => by simp [S]
  | n + 1 => by rw [S, S_const k n, Nat.succ_mul]
theorem S_le {f g : Nat → Nat} : ∀ {n : Nat}, (∀ i, i < n → f i ≤ g i) → S n f ≤ S n g
  | 0, _ => Nat.le_refl _
  | n + 1, h => by
    have := S_le (n := n) fun i hi => h i (by omega)
    have := h n (by omega)
    rw [S, S]; omega
theorem countP_one {α : Type} {p : α → Bool} : ∀ {l : List α}, l.Nodup → (∀ a ∈ l, ∀ b ∈ l, p a = true → p b = true → a = b) → l.countP p = b2 (l.any p)
  | [], _, _ => rfl
  | x :: l, hn, hu => by
    obtain ⟨h1, h2⟩ := List.nodup_cons.1 hn
    have ih := countP_one h2 fun a ha b hb => hu a (List.mem_cons_of_mem _ ha) b (List.mem_cons_of_mem _ hb)
    rw [List.countP_cons, ih, List.any_cons]
    cases hp : p x with
    | false => simp
    | true =>
      have : l.any p = false := by
        rw [List.any_eq_false]
        intro y hy hpy
        have := hu x List.mem_cons_self y (List.mem_cons_of_mem _ hy) hp hpy
        exact h1 (this ▸ hy)
      rw [this]; rfl
end Go.Pl
namespace Go.Cap
structure Pt where (x0 x1 x2 x3 : Int)
  deriving DecidableEq
def ptN (k : Nat) : Pt := ⟨((k / 27 : Nat) : Int), ((k / 9 % 3 : Nat) : Int), ((k / 3 % 3 : Nat) : Int), ((k % 3 : Nat) : Int)⟩
def all81 : List Pt := (List.range 81).map ptN
def isP (c : Pt) : Prop := (0 ≤ c.x0 ∧ c.x0 ≤ 2) ∧ (0 ≤ c.x1 ∧ c.x1 ≤ 2) ∧ (0 ≤ c.x2 ∧ c.x2 ≤ 2) ∧ 0 ≤ c.x3 ∧ c.x3 ≤ 2
theorem mem_all81 {c : Pt} (h : isP c) : c ∈ all81 := by
  obtain ⟨c0, c1, c2, c3⟩ := c
  unfold isP at h
  simp only at h
  refine List.mem_map.2 ⟨(27 * c0 + 9 * c1 + 3 * c2 + c3).toNat, by rw [List.mem_range]; omega, ?_⟩
  unfold ptN
  congr 1 <;> omega
def pz : Pt := ⟨0, 0, 0, 0⟩
def dot (w c : Pt) : Int := (w.x0 * c.x0 + w.x1 * c.x1 + w.x2 * c.x2 + w.x3 * c.x3) % 3
def df (a b : Pt) : Pt := ⟨(b.x0 - a.x0) % 3, (b.x1 - a.x1) % 3, (b.x2 - a.x2) % 3, (b.x3 - a.x3) % 3⟩
def neg (d : Pt) : Pt := ⟨(0 - d.x0) % 3, (0 - d.x1) % 3, (0 - d.x2) % 3, (0 - d.x3) % 3⟩
def th (a b : Pt) : Pt := ⟨(6 - a.x0 - b.x0) % 3, (6 - a.x1 - b.x1) % 3, (6 - a.x2 - b.x2) % 3, (6 - a.x3 - b.x3) % 3⟩
theorem df_isP (a b : Pt) : isP (df a b) := by unfold isP df; simp only []; omega
theorem mulmod (w x : Int) : ∃ q : Int, w * (x % 3) = w * x - 3 * q := by
  refine ⟨w * (x / 3), ?_⟩
  have h : x % 3 = x - 3 * (x / 3) := by omega
  rw [h, Int.mul_sub, ← Int.mul_assoc, ← Int.mul_assoc, Int.mul_comm w 3]
theorem dot_df (w a b : Pt) : dot w (df a b) = (dot w b - dot w a) % 3 := by
  unfold dot df
  simp only []
  obtain ⟨q0, h0⟩ := mulmod w.x0 (b.x0 - a.x0)
  obtain ⟨q1, h1⟩ := mulmod w.x1 (b.x1 - a.x1)
  obtain ⟨q2, h2⟩ := mulmod w.x2 (b.x2 - a.x2)
  obtain ⟨q3, h3⟩ := mulmod w.x3 (b.x3 - a.x3)
  rw [h0, h1, h2, h3, Int.mul_sub, Int.mul_sub, Int.mul_sub, Int.mul_sub]
  omega
theorem dot_bd (w a : Pt) : dot w a = 0 ∨ dot w a = 1 ∨ dot w a = 2 := by unfold dot; omega
theorem dot_eq_iff (w a b : Pt) : dot w a = dot w b ↔ dot w (df a b) = 0 := by
  rw [dot_df]
  have := dot_bd w a; have := dot_bd w b
  omega
theorem df_ne {a b : Pt} (ha : isP a) (hb : isP b) (h : a ≠ b) : df a b ≠ pz := by
  intro e
  apply h
  cases a; cases b
  unfold isP at ha hb
  unfold df pz at e
  simp only [Pt.mk.injEq] at ha hb e ⊢
  omega
theorem df_inj {a b c : Pt} (hb : isP b) (hc : isP c) (h : df a b = df a c) : b = c := by
  cases a; cases b; cases c
  unfold isP at hb hc
  unfold df at h
  simp only [Pt.mk.injEq] at hb hc h ⊢
  omega
theorem df_neg {a b c : Pt} (ha : isP a) (hb : isP b) (hc : isP c) (h : df a c = neg (df a b)) : th a b = c := by
  cases a; cases b; cases c
  unfold isP at ha hb hc
  unfold df neg at h
  unfold th
  simp only [Pt.mk.injEq] at ha hb hc h ⊢
  omega
def first1 (w : Pt) : Bool := if w.x0 = 0 then (if w.x1 = 0 then (if w.x2 = 0 then decide (w.x3 = 1) else decide (w.x2 = 1)) else decide (w.x1 = 1)) else decide (w.x0 = 1)
def W40 : List Pt := all81.filter first1
def chk2 : Bool := all81.all fun d => decide (d = pz) || Nat.beq (W40.countP fun w => decide (dot w d = 0)) 13
def chk3 : Bool := all81.all fun d => decide (d = pz) || all81.all fun e => decide (e = pz) || decide (e = d) || decide (e = neg d) || Nat.beq ((W40.filter fun w => decide (dot w d = 0)).countP fun w => decide (dot w e = 0)) 4
theorem chk2_ok : chk2 = true := by kernel_rfl
theorem chk3_ok : chk3 = true := by kernel_rfl
theorem W40_len : W40.length = 40 := by kernel_rfl
end Go.Cap
namespace Go.Cap
theorem c2 {d : Pt} (hd : isP d) (h : d ≠ pz) : (W40.countP fun w => decide (dot w d = 0)) = 13 := by
  have := List.all_eq_true.1 chk2_ok d (mem_all81 hd)
  simp only [decide_eq_false h, Bool.false_or] at this
  exact Nat.eq_of_beq_eq_true this
theorem c3 {d e : Pt} (hd : isP d) (he : isP e) (h : d ≠ pz) (h2 : e ≠ pz) (h3 : e ≠ d) (h4 : e ≠ neg d) : (W40.countP fun w => decide (dot w d = 0) && decide (dot w e = 0)) = 4 := by
  have := List.all_eq_true.1 chk3_ok d (mem_all81 hd)
  simp only [decide_eq_false h, Bool.false_or] at this
  have := List.all_eq_true.1 this e (mem_all81 he)
  simp only [decide_eq_false h2, decide_eq_false h3, decide_eq_false h4, Bool.false_or] at this
  have := Nat.eq_of_beq_eq_true this
  rw [List.countP_filter] at this
  rw [← this]
  congr 1; funext w; rw [Bool.and_comm]
def ch2 : Nat → Nat
  | 0 => 0
  | n + 1 => ch2 n + n
def ch3 : Nat → Nat
  | 0 => 0
  | n + 1 => ch3 n + ch2 n
def pairs (f : Pt → Pt → Nat) : List Pt → Nat
  | [] => 0
  | a :: S => (S.map (f a)).sum + pairs f S
def trips (f : Pt → Pt → Pt → Nat) : List Pt → Nat
  | [] => 0
  | a :: S => pairs (f a) S + trips f S
def b2n (b : Bool) : Nat := if b = true then 1 else 0
theorem sum_b2n {α : Type} (p : α → Bool) : ∀ S : List α, (S.map fun a => b2n (p a)).sum = S.countP p
  | [] => rfl
  | a :: S => by
    rw [List.map_cons, List.sum_cons, sum_b2n p S, List.countP_cons, Nat.add_comm]; rfl
theorem sum_add {α : Type} (f g : α → Nat) : ∀ S : List α, (S.map fun a => f a + g a).sum = (S.map f).sum + (S.map g).sum
  | [] => rfl
  | a :: S => by simp only [List.map_cons, List.sum_cons, sum_add f g S]; omega
theorem sum_zero {α : Type} : ∀ S : List α, (S.map fun _ => 0).sum = 0
  | [] => rfl
  | a :: S => by simp only [List.map_cons, List.sum_cons, sum_zero S]
theorem swap2 {α β : Type} (f : α → β → Nat) (W : List α) : ∀ S : List β, (W.map fun w => (S.map (f w)).sum).sum = (S.map fun b => (W.map fun w => f w b).sum).sum
  | [] => by simp only [List.map_nil, List.sum_nil, sum_zero]
  | a :: S => by
    simp only [List.map_cons, List.sum_cons]
    rw [sum_add, swap2 f W S]
theorem swapP (f : Pt → Pt → Pt → Nat) (W : List Pt) : ∀ S : List Pt, (W.map fun w => pairs (f w) S).sum = pairs (fun a b => (W.map fun w => f w a b).sum) S
  | [] => by simp only [pairs, sum_zero]
  | a :: S => by
    simp only [pairs]
    rw [sum_add, swapP f W S, swap2]
theorem swapT (f : Pt → Pt → Pt → Pt → Nat) (W : List Pt) : ∀ S : List Pt, (W.map fun w => trips (f w) S).sum = trips (fun a b c => (W.map fun w => f w a b c).sum) S
  | [] => by simp only [trips, sum_zero]
  | a :: S => by
    simp only [trips]
    rw [sum_add, swapT f W S, swapP]
theorem sum_const {α : Type} {f : α → Nat} {K : Nat} : ∀ {S : List α}, (∀ a ∈ S, f a = K) → (S.map f).sum = K * S.length
  | [], _ => rfl
  | a :: S, h => by
    rw [List.map_cons, List.sum_cons, sum_const fun b hb => h b (List.mem_cons_of_mem _ hb), h a List.mem_cons_self, List.length_cons, Nat.mul_add, Nat.add_comm, Nat.mul_one]
theorem pairs_const {f : Pt → Pt → Nat} {K : Nat} : ∀ {S : List Pt}, S.Pairwise (fun a b => f a b = K) → pairs f S = K * ch2 S.length
  | [], _ => rfl
  | a :: S, h => by
    rw [List.pairwise_cons] at h
    rw [pairs, pairs_const h.2, sum_const h.1, List.length_cons, ch2, Nat.mul_add, Nat.add_comm]
theorem sum_le {α : Type} {f g : α → Nat} : ∀ {S : List α}, (∀ a ∈ S, f a ≤ g a) → (S.map f).sum ≤ (S.map g).sum
  | [], _ => Nat.le_refl _
  | a :: S, h => by
    have := sum_le fun b hb => h b (List.mem_cons_of_mem _ hb)
    have := h a List.mem_cons_self
    simp only [List.map_cons, List.sum_cons]; omega
theorem pairs_le {f : Pt → Pt → Nat} {K : Nat} : ∀ {S : List Pt}, S.Pairwise (fun a b => f a b ≤ K) → pairs f S ≤ K * ch2 S.length
  | [], _ => Nat.le_refl _
  | a :: S, h => by
    rw [List.pairwise_cons] at h
    have h1 := pairs_le h.2
    have h2 := sum_le (f := f a) (g := fun _ => K) h.1
    rw [sum_const fun _ _ => rfl] at h2
    rw [pairs, List.length_cons, ch2, Nat.mul_add]; omega
def Trip (R : Pt → Pt → Pt → Prop) : List Pt → Prop
  | [] => True
  | a :: S => S.Pairwise (R a) ∧ Trip R S
theorem trips_le {f : Pt → Pt → Pt → Nat} {K : Nat} : ∀ {S : List Pt}, Trip (fun a b c => f a b c ≤ K) S → trips f S ≤ K * ch3 S.length
  | [], _ => Nat.le_refl _
  | a :: S, h => by
    have h1 := trips_le h.2
    have h2 := pairs_le h.1
    rw [trips, List.length_cons, ch3, Nat.mul_add]; omega
def cnt (w : Pt) (S : List Pt) (v : Int) : Nat := S.countP fun c => decide (dot w c = v)
def eqw (w a b : Pt) : Bool := decide (dot w a = dot w b)
theorem cnt_sum (w : Pt) : ∀ S : List Pt, cnt w S 0 + cnt w S 1 + cnt w S 2 = S.length
  | [] => rfl
  | a :: S => by
    have := cnt_sum w S
    unfold cnt at this ⊢
    simp only [List.countP_cons, List.length_cons]
    rcases dot_bd w a with h | h | h <;> simp [h] <;> omega
theorem cls2 (w : Pt) : ∀ S : List Pt, ch2 (cnt w S 0) + ch2 (cnt w S 1) + ch2 (cnt w S 2) = pairs (fun a b => b2n (eqw w a b)) S
  | [] => rfl
  | a :: S => by
    rw [pairs, ← cls2 w S, sum_b2n]
    unfold cnt eqw
    simp only [List.countP_cons]
    have e : ∀ v : Int, (S.countP fun b => decide (v = dot w b)) = S.countP fun b => decide (dot w b = v) := fun v => by
      congr 1; funext b; congr 1; apply propext; exact eq_comm
    rw [e]
    rcases dot_bd w a with h | h | h <;> simp [h, ch2] <;> omega
theorem pairs_and (p : Pt → Bool) : ∀ S : List Pt, pairs (fun a b => b2n (p a && p b)) S = ch2 (S.countP p)
  | [] => rfl
  | a :: S => by
    rw [pairs, pairs_and p S, sum_b2n, List.countP_cons]
    have e : (fun b => p b) = p := rfl
    cases p a <;> simp [ch2, e] <;> omega
theorem cls3 (w : Pt) : ∀ S : List Pt, ch3 (cnt w S 0) + ch3 (cnt w S 1) + ch3 (cnt w S 2) = trips (fun a b c => b2n (eqw w a b && eqw w a c)) S
  | [] => rfl
  | a :: S => by
    rw [trips, ← cls3 w S, pairs_and (eqw w a)]
    unfold cnt eqw
    simp only [List.countP_cons]
    have e : ∀ v : Int, (S.countP fun b => decide (v = dot w b)) = S.countP fun b => decide (dot w b = v) := fun v => by
      congr 1; funext b; congr 1; apply propext; exact eq_comm
    rw [e]
    rcases dot_bd w a with h | h | h <;> simp [h, ch3] <;> omega
structure CapL (S : List Pt) : Prop where
  nd : S.Nodup
  pt : ∀ a ∈ S, isP a
  no : ∀ a ∈ S, ∀ b ∈ S, a ≠ b → th a b ∉ S
theorem CapL.sub {S T : List Pt} (h : CapL S) (hs : List.Sublist T S) : CapL T :=
  ⟨h.nd.sublist hs, fun a ha => h.pt a (hs.subset ha), fun a ha b hb hne hc => h.no a (hs.subset ha) b (hs.subset hb) hne (hs.subset hc)⟩
theorem pair13 {S : List Pt} (h : CapL S) : S.Pairwise fun a b => (W40.map fun w => b2n (eqw w a b)).sum = 13 := by
  refine List.Pairwise.imp_of_mem (R := fun a b => a ≠ b) (fun {a b} ha hb hne => ?_) h.nd
  rw [sum_b2n, ← c2 (df_isP a b) (df_ne (h.pt a ha) (h.pt b hb) hne)]
  congr 1; funext w; unfold eqw; congr 1; exact propext (dot_eq_iff w a b)
theorem tri4 {a b c : Pt} (ha : isP a) (hb : isP b) (hc : isP c) (h1 : a ≠ b) (h2 : a ≠ c) (h3 : b ≠ c) (h4 : th a b ≠ c) : (W40.countP fun w => eqw w a b && eqw w a c) = 4 := by
  rw [← c3 (df_isP a b) (df_isP a c) (df_ne ha hb h1) (df_ne ha hc h2) (fun e => h3 (df_inj hc hb e).symm) (fun e => h4 (df_neg ha hb hc e))]
  congr 1; funext w; unfold eqw
  rw [show decide (dot w a = dot w b) = decide (dot w (df a b) = 0) by congr 1; exact propext (dot_eq_iff w a b), show decide (dot w a = dot w c) = decide (dot w (df a c) = 0) by congr 1; exact propext (dot_eq_iff w a c)]
theorem trip4 : ∀ {S : List Pt}, CapL S → Trip (fun a b c => (W40.map fun w => b2n (eqw w a b && eqw w a c)).sum ≤ 4) S
  | [], _ => trivial
  | a :: S, h => by
    have hS := h.sub (List.sublist_cons_self a S)
    refine ⟨?_, trip4 hS⟩
    refine List.Pairwise.imp_of_mem (R := fun a b => a ≠ b) (fun {b c} hb hc hne => ?_) hS.nd
    have hn := List.nodup_cons.1 h.nd
    have e1 : a ≠ b := fun e => hn.1 (e ▸ hb)
    have e2 : a ≠ c := fun e => hn.1 (e ▸ hc)
    show (W40.map fun w => b2n (eqw w a b && eqw w a c)).sum ≤ 4
    rw [sum_b2n, tri4 (h.pt a List.mem_cons_self) (hS.pt b hb) (hS.pt c hc) e1 e2 hne fun e => h.no a List.mem_cons_self b (List.mem_cons_of_mem _ hb) e1 (e ▸ List.mem_cons_of_mem _ hc)]
    exact Nat.le_refl _
end Go.Cap
namespace Go.Cap
def comb (α β : Int) (v w : Pt) : Pt := ⟨(α * v.x0 + β * w.x0) % 3, (α * v.x1 + β * w.x1) % 3, (α * v.x2 + β * w.x2) % 3, (α * v.x3 + β * w.x3) % 3⟩
def combs (v w : Pt) : List Pt := [v, w, comb 1 1 v w, comb 1 2 v w, comb 2 1 v w, comb 2 2 v w]
def spL (v w : Pt) : List Pt := (combs v w).filter first1
def chkS : Bool := W40.all fun v => W40.all fun w => decide (v = w) || (decide (spL v w).Nodup && Nat.beq (spL v w).length 4)
theorem chkS_ok : chkS = true := by kernel_rfl
theorem dot_comb (α β : Int) (v w a : Pt) : dot (comb α β v w) a = (α * dot v a + β * dot w a) % 3 := by
  have key : ∀ x y c : Int, ∃ q : Int, ((α * x + β * y) % 3) * c = α * (x * c) + β * (y * c) - 3 * q := fun x y c => by
    obtain ⟨q, h⟩ := mulmod c (α * x + β * y)
    refine ⟨q, ?_⟩
    rw [Int.mul_comm, h, Int.mul_add, ← Int.mul_assoc, ← Int.mul_assoc, ← Int.mul_assoc, ← Int.mul_assoc, Int.mul_comm c α, Int.mul_comm c β, Int.mul_assoc, Int.mul_assoc, Int.mul_comm c x, Int.mul_comm c y, Int.mul_assoc, Int.mul_assoc]
  have kd : ∀ (γ : Int) (u : Pt), ∃ q : Int, γ * dot u a = γ * (u.x0 * a.x0) + γ * (u.x1 * a.x1) + γ * (u.x2 * a.x2) + γ * (u.x3 * a.x3) - 3 * q := fun γ u => by
    obtain ⟨q, h⟩ := mulmod γ (u.x0 * a.x0 + u.x1 * a.x1 + u.x2 * a.x2 + u.x3 * a.x3)
    refine ⟨q, ?_⟩
    unfold dot
    rw [h, Int.mul_add, Int.mul_add, Int.mul_add]
  obtain ⟨p, hp⟩ := kd α v
  obtain ⟨p', hp'⟩ := kd β w
  rw [hp, hp']
  unfold dot comb
  simp only []
  obtain ⟨q0, h0⟩ := key v.x0 w.x0 a.x0
  obtain ⟨q1, h1⟩ := key v.x1 w.x1 a.x1
  obtain ⟨q2, h2⟩ := key v.x2 w.x2 a.x2
  obtain ⟨q3, h3⟩ := key v.x3 w.x3 a.x3
  rw [h0, h1, h2, h3]
  omega
theorem comb_isP (α β : Int) (v w : Pt) : isP (comb α β v w) := by unfold isP comb; simp only []; omega
theorem W40_mem {u : Pt} (h : isP u) (hf : first1 u = true) : u ∈ W40 := List.mem_filter.2 ⟨mem_all81 h, hf⟩
theorem all81_isP {u : Pt} (h : u ∈ all81) : isP u := by
  obtain ⟨k, hk, rfl⟩ := List.mem_map.1 h
  rw [List.mem_range] at hk
  unfold isP ptN
  simp only []
  omega
theorem W40_isP {u : Pt} (h : u ∈ W40) : isP u := all81_isP (List.mem_filter.1 h).1
theorem spL_sub {v w : Pt} (hv : v ∈ W40) (hw : w ∈ W40) : ∀ u ∈ spL v w, u ∈ W40 := by
  intro u hu
  obtain ⟨h1, h2⟩ := List.mem_filter.1 hu
  refine W40_mem ?_ h2
  simp only [combs, List.mem_cons, List.not_mem_nil, or_false] at h1
  rcases h1 with rfl | rfl | rfl | rfl | rfl | rfl
  · exact W40_isP hv
  · exact W40_isP hw
  all_goals exact comb_isP _ _ _ _
theorem spL_ok {v w : Pt} (hv : v ∈ W40) (hw : w ∈ W40) (hne : v ≠ w) : (spL v w).Nodup ∧ (spL v w).length = 4 := by
  have h := List.all_eq_true.1 (List.all_eq_true.1 chkS_ok v hv) w hw
  simp only [decide_eq_false hne, Bool.false_or, Bool.and_eq_true] at h
  exact ⟨of_decide_eq_true h.1, Nat.eq_of_beq_eq_true h.2⟩
theorem spL_eqw {v w a b u : Pt} (h1 : eqw v a b = true) (h2 : eqw w a b = true) (hu : u ∈ spL v w) : eqw u a b = true := by
  have h := (List.mem_filter.1 hu).1
  have e1 := of_decide_eq_true h1
  have e2 := of_decide_eq_true h2
  simp only [combs, List.mem_cons, List.not_mem_nil, or_false] at h
  rcases h with rfl | rfl | rfl | rfl | rfl | rfl
  · exact h1
  · exact h2
  all_goals exact decide_eq_true (by rw [dot_comb, dot_comb, e1, e2])
theorem len_sub {α : Type} [DecidableEq α] : ∀ {M L : List α}, M.Nodup → (∀ x ∈ M, x ∈ L) → M.length ≤ L.length
  | [], _, _, _ => Nat.zero_le _
  | a :: M, L, h, hs => by
    obtain ⟨h1, h2⟩ := List.nodup_cons.1 h
    have ha := hs a List.mem_cons_self
    have := len_sub (M := M) (L := L.erase a) h2 fun x hx => (List.mem_erase_of_ne (fun e => h1 (by rw [← e]; exact hx))).2 (hs x (List.mem_cons_of_mem _ hx))
    rw [List.length_erase_of_mem ha] at this
    have := List.length_pos_of_mem ha
    rw [List.length_cons]; omega
theorem len_countP {M : List Pt} {p : Pt → Bool} (h : M.Nodup) (hs : ∀ x ∈ M, x ∈ W40) (hp : ∀ x ∈ M, p x = true) : M.length ≤ W40.countP p := by
  rw [List.countP_eq_length_filter]
  exact len_sub h fun x hx => List.mem_filter.2 ⟨hs x hx, hp x hx⟩
def Con (u : Pt) (S : List Pt) : Prop := ∀ a ∈ S, ∀ b ∈ S, eqw u a b = true
instance (u : Pt) (S : List Pt) : Decidable (Con u S) := inferInstanceAs (Decidable (∀ a ∈ S, ∀ b ∈ S, eqw u a b = true))
theorem Con.sub {u : Pt} {S T : List Pt} (h : Con u S) (hs : ∀ x ∈ T, x ∈ S) : Con u T := fun a ha b hb => h a (hs a ha) b (hs b hb)
theorem tri_of {S : List Pt} (h : CapL S) (hl : 3 ≤ S.length) : ∃ a b c, a ∈ S ∧ b ∈ S ∧ c ∈ S ∧ (W40.countP fun w => eqw w a b && eqw w a c) = 4 := by
  match S, h, hl with
  | a :: b :: c :: S, h, _ =>
    have ha : a ∈ a :: b :: c :: S := List.mem_cons_self
    have hb : b ∈ a :: b :: c :: S := List.mem_cons_of_mem _ List.mem_cons_self
    have hc : c ∈ a :: b :: c :: S := List.mem_cons_of_mem _ (List.mem_cons_of_mem _ List.mem_cons_self)
    have n1 := List.nodup_cons.1 h.nd
    have n2 := List.nodup_cons.1 n1.2
    have e1 : a ≠ b := fun e => n1.1 (e ▸ List.mem_cons_self)
    have e2 : a ≠ c := fun e => n1.1 (e ▸ List.mem_cons_of_mem _ List.mem_cons_self)
    have e3 : b ≠ c := fun e => n2.1 (e ▸ List.mem_cons_self)
    exact ⟨a, b, c, ha, hb, hc, tri4 (h.pt a ha) (h.pt b hb) (h.pt c hc) e1 e2 e3 fun e => h.no a ha b hb e1 (e ▸ hc)⟩
theorem line2 {S : List Pt} (h : CapL S) {v w u : Pt} (hv : v ∈ W40) (hw : w ∈ W40) (hu : u ∈ W40) (hne : v ≠ w) (hns : u ∉ spL v w) (c1 : Con v S) (c2 : Con w S) (c3 : Con u S) : S.length ≤ 2 := by
  refine Nat.le_of_not_lt fun hl => ?_
  obtain ⟨a, b, c, ha, hb, hc, h4⟩ := tri_of h hl
  obtain ⟨n1, n2⟩ := spL_ok hv hw hne
  have : (u :: spL v w).length ≤ _ := len_countP (p := fun w => eqw w a b && eqw w a c) (List.nodup_cons.2 ⟨hns, n1⟩) (fun x hx => by
    rcases List.mem_cons.1 hx with rfl | hx
    · exact hu
    · exact spL_sub hv hw x hx) (fun x hx => by
    rcases List.mem_cons.1 hx with rfl | hx
    · simp only [c3 a ha b hb, c3 a ha c hc, Bool.and_self]
    · simp only [spL_eqw (c1 a ha b hb) (c2 a ha b hb) hx, spL_eqw (c1 a ha c hc) (c2 a ha c hc) hx, Bool.and_self])
  rw [h4, List.length_cons, n2] at this
  omega
theorem cp_split {α : Type} (p q : α → Bool) : ∀ S : List α, S.countP p = (S.countP fun x => p x && q x) + S.countP fun x => p x && !q x
  | [] => rfl
  | a :: S => by
    have := cp_split p q S
    simp only [List.countP_cons]
    cases p a <;> cases q a <;> simp <;> omega
theorem fib_con (u : Pt) (S : List Pt) (v : Int) : Con u (S.filter fun c => decide (dot u c = v)) := fun a ha b hb => by
  have h1 := of_decide_eq_true (List.mem_filter.1 ha).2
  have h2 := of_decide_eq_true (List.mem_filter.1 hb).2
  exact decide_eq_true (by rw [h1, h2])
theorem cnt_fib (u : Pt) (S : List Pt) (v : Int) : cnt u S v = (S.filter fun c => decide (dot u c = v)).length := List.countP_eq_length_filter
theorem lim5 : ∀ x, x < 3 → ∀ y, y < 3 → ∀ z, z < 3 → x + y + z = 5 → ch2 x + ch2 y + ch2 z ≤ 2 := by decide
theorem plane4 {S : List Pt} (h : CapL S) {v w : Pt} (hv : v ∈ W40) (hw : w ∈ W40) (hne : v ≠ w) (k1 : Con v S) (k2 : Con w S) : S.length ≤ 4 := by
  refine Nat.le_of_not_lt fun hl => ?_
  obtain ⟨T, hT, hs⟩ : ∃ T, T.length = 5 ∧ List.Sublist T S := ⟨S.take 5, by rw [List.length_take]; omega, List.take_sublist _ _⟩
  have h := h.sub hs
  have k1 := k1.sub hs.subset
  have k2 := k2.sub hs.subset
  obtain ⟨n1, n2⟩ := spL_ok hv hw hne
  have hK : (W40.countP fun u => decide (Con u T)) = 4 := by
    refine Nat.le_antisymm ?_ ?_
    · obtain ⟨a, b, c, ha, hb, hc, h4⟩ := tri_of h (by omega)
      rw [← h4]
      exact List.countP_mono_left fun x _ hx => by have hx := of_decide_eq_true hx; simp only [hx a ha b hb, hx a ha c hc, Bool.and_self]
    · rw [← n2]
      exact len_countP n1 (spL_sub hv hw) fun x hx => decide_eq_true fun a ha b hb => spL_eqw (k1 a ha b hb) (k2 a ha b hb) hx
  have hW : (W40.filter fun u => !decide (Con u T)).length = 36 := by
    have := cp_split (fun _ => true) (fun u => decide (Con u T)) W40
    simp only [Bool.true_and, hK] at this
    rw [List.countP_true, W40_len] at this
    rw [← List.countP_eq_length_filter]
    omega
  have e1 : ((W40.filter fun u => !decide (Con u T)).map fun u => pairs (fun a b => b2n (eqw u a b)) T).sum = 90 := by
    rw [swapP (fun u a b => b2n (eqw u a b)), pairs_const (K := 9), hT]; rfl
    refine List.Pairwise.imp_of_mem (R := fun a b => a ≠ b) (fun {a b} ha hb hne => ?_) h.nd
    rw [sum_b2n, List.countP_filter]
    have h13 := c2 (df_isP a b) (df_ne (h.pt a ha) (h.pt b hb) hne)
    have := cp_split (fun u => eqw u a b) (fun u => decide (Con u T)) W40
    have e : (W40.countP fun u => eqw u a b) = 13 := by rw [← h13]; congr 1; funext w; unfold eqw; congr 1; exact propext (dot_eq_iff w a b)
    have e' : (W40.countP fun u => eqw u a b && decide (Con u T)) = 4 := by
      rw [← hK]; congr 1; funext u
      by_cases hu : Con u T
      · simp only [hu a ha b hb, decide_eq_true hu, Bool.and_self]
      · simp only [decide_eq_false hu, Bool.and_false]
    rw [e, e'] at this
    have : (W40.countP fun u => eqw u a b && !decide (Con u T)) = 9 := by omega
    exact this
  have e2 : ((W40.filter fun u => !decide (Con u T)).map fun u => pairs (fun a b => b2n (eqw u a b)) T).sum ≤ ((W40.filter fun u => !decide (Con u T)).map fun _ => 2).sum := by
    refine sum_le fun u hu => ?_
    obtain ⟨hu, hn⟩ := List.mem_filter.1 hu
    have hn : ¬ Con u T := by simpa using hn
    have hns : u ∉ spL v w := fun hx => hn fun a ha b hb => spL_eqw (k1 a ha b hb) (k2 a ha b hb) hx
    have lim : ∀ x, cnt u T x < 3 := fun x => by
      rw [cnt_fib]
      have hsub : List.Sublist (T.filter fun c => decide (dot u c = x)) T := List.filter_sublist
      exact Nat.lt_succ_of_le (line2 (h.sub hsub) hv hw hu hne hns (k1.sub hsub.subset) (k2.sub hsub.subset) (fib_con u T x))
    rw [← cls2]
    exact lim5 _ (lim 0) _ (lim 1) _ (lim 2) (by rw [cnt_sum, hT])
  rw [e1, sum_const (K := 2) fun _ _ => rfl, hW] at e2
  omega
theorem lim10 : ∀ x, x < 5 → ∀ y, y < 5 → ∀ z, z < 5 → x + y + z = 10 → ch2 x + ch2 y + ch2 z ≤ 13 := by decide
theorem W40_nd : W40.Nodup := by
  have : decide W40.Nodup = true := by kernel_rfl
  exact of_decide_eq_true this
theorem space9 {S : List Pt} (h : CapL S) {v : Pt} (hv : v ∈ W40) (k1 : Con v S) : S.length ≤ 9 := by
  refine Nat.le_of_not_lt fun hl => ?_
  obtain ⟨T, hT, hs⟩ : ∃ T, T.length = 10 ∧ List.Sublist T S := ⟨S.take 10, by rw [List.length_take]; omega, List.take_sublist _ _⟩
  have h := h.sub hs
  have k1 := k1.sub hs.subset
  have hK : (W40.countP fun u => decide (u = v)) = 1 := by
    have h1 : W40.count v = 1 := (W40_nd.count (a := v)).trans (if_pos hv)
    rw [← h1, List.count_eq_countP]; congr 1
  have hW : (W40.filter fun u => !decide (u = v)).length = 39 := by
    have := cp_split (fun _ => true) (fun u => decide (u = v)) W40
    simp only [Bool.true_and, hK] at this
    rw [List.countP_true, W40_len] at this
    rw [← List.countP_eq_length_filter]
    omega
  have e1 : ((W40.filter fun u => !decide (u = v)).map fun u => pairs (fun a b => b2n (eqw u a b)) T).sum = 540 := by
    rw [swapP (fun u a b => b2n (eqw u a b)), pairs_const (K := 12), hT]; rfl
    refine List.Pairwise.imp_of_mem (R := fun a b => a ≠ b) (fun {a b} ha hb hne => ?_) h.nd
    rw [sum_b2n, List.countP_filter]
    have h13 := c2 (df_isP a b) (df_ne (h.pt a ha) (h.pt b hb) hne)
    have := cp_split (fun u => eqw u a b) (fun u => decide (u = v)) W40
    have e : (W40.countP fun u => eqw u a b) = 13 := by rw [← h13]; congr 1; funext w; unfold eqw; congr 1; exact propext (dot_eq_iff w a b)
    have e' : (W40.countP fun u => eqw u a b && decide (u = v)) = 1 := by
      rw [← hK]; congr 1; funext u
      by_cases hu : u = v
      · simp only [hu, k1 a ha b hb, decide_true, Bool.and_self]
      · simp only [decide_eq_false hu, Bool.and_false]
    rw [e, e'] at this
    have : (W40.countP fun u => eqw u a b && !decide (u = v)) = 12 := by omega
    exact this
  have e2 : ((W40.filter fun u => !decide (u = v)).map fun u => pairs (fun a b => b2n (eqw u a b)) T).sum ≤ ((W40.filter fun u => !decide (u = v)).map fun _ => 13).sum := by
    refine sum_le fun u hu => ?_
    obtain ⟨hu, hn⟩ := List.mem_filter.1 hu
    have hn : ¬ u = v := by simpa using hn
    have lim : ∀ x, cnt u T x < 5 := fun x => by
      rw [cnt_fib]
      have hsub : List.Sublist (T.filter fun c => decide (dot u c = x)) T := List.filter_sublist
      exact Nat.lt_succ_of_le (plane4 (h.sub hsub) hv hu (fun e => hn e.symm) (k1.sub hsub.subset) (fib_con u T x))
    rw [← cls2]
    exact lim10 _ (lim 0) _ (lim 1) _ (lim 2) (by rw [cnt_sum, hT])
  rw [e1, sum_const (K := 13) fun _ _ => rfl, hW] at e2
  omega
def okT (x y z : Nat) : Bool := decide (16 * (ch2 x + ch2 y + ch2 z) ≤ 3 * (ch3 x + ch3 y + ch3 z) + 693) && (decide (16 * (ch2 x + ch2 y + ch2 z) ≠ 3 * (ch3 x + ch3 y + ch3 z) + 693) || decide ((ch2 x + ch2 y + ch2 z) % 12 = 3))
theorem lim21 : ∀ x, x < 10 → ∀ y, y < 10 → ∀ z, z < 10 → x + y + z = 21 → okT x y z = true := by decide
theorem sum_eq {α : Type} {f g : α → Nat} : ∀ {S : List α}, (∀ a ∈ S, f a ≤ g a) → (S.map g).sum ≤ (S.map f).sum → ∀ a ∈ S, f a = g a
  | [], _, _, a, ha => by cases ha
  | b :: S, h, h2, a, ha => by
    have h3 := sum_le fun b hb => h b (List.mem_cons_of_mem _ hb)
    have h4 := h b List.mem_cons_self
    simp only [List.map_cons, List.sum_cons] at h2
    rcases List.mem_cons.1 ha with rfl | ha
    · omega
    · exact sum_eq (fun b hb => h b (List.mem_cons_of_mem _ hb)) (by omega) a ha
theorem sum_mod {α : Type} {f : α → Nat} : ∀ {S : List α}, (∀ a ∈ S, f a % 12 = 3) → (S.map f).sum % 12 = (3 * S.length) % 12
  | [], _ => rfl
  | a :: S, h => by
    have h1 := sum_mod fun b hb => h b (List.mem_cons_of_mem _ hb)
    have h2 := h a List.mem_cons_self
    simp only [List.map_cons, List.sum_cons, List.length_cons]; omega
theorem sum_mul {α : Type} (k : Nat) (f : α → Nat) : ∀ S : List α, (S.map fun a => k * f a).sum = k * (S.map f).sum
  | [] => rfl
  | a :: S => by simp only [List.map_cons, List.sum_cons, sum_mul k f S, Nat.mul_add]
theorem cap20 {S : List Pt} (h : CapL S) : S.length ≤ 20 := by
  refine Nat.le_of_not_lt fun hl => ?_
  obtain ⟨T, hT, hs⟩ : ∃ T, T.length = 21 ∧ List.Sublist T S := ⟨S.take 21, by rw [List.length_take]; omega, List.take_sublist _ _⟩
  have h := h.sub hs
  have e1 : (W40.map fun u => pairs (fun a b => b2n (eqw u a b)) T).sum = 2730 := by
    rw [swapP (fun u a b => b2n (eqw u a b)), pairs_const (pair13 h), hT]; rfl
  have e2 : (W40.map fun u => trips (fun a b c => b2n (eqw u a b && eqw u a c)) T).sum ≤ 5320 := by
    rw [swapT (fun u a b c => b2n (eqw u a b && eqw u a c))]
    have := trips_le (trip4 h)
    rw [hT] at this
    exact this
  have e3 : ∀ u ∈ W40, okT (cnt u T 0) (cnt u T 1) (cnt u T 2) = true := fun u hu => by
    have lim : ∀ x, cnt u T x < 10 := fun x => by
      rw [cnt_fib]
      have hsub : List.Sublist (T.filter fun c => decide (dot u c = x)) T := List.filter_sublist
      exact Nat.lt_succ_of_le (space9 (h.sub hsub) hu (fib_con u T x))
    exact lim21 _ (lim 0) _ (lim 1) _ (lim 2) (by rw [cnt_sum, hT])
  have e4 : ∀ u ∈ W40, 16 * pairs (fun a b => b2n (eqw u a b)) T ≤ 3 * trips (fun a b c => b2n (eqw u a b && eqw u a c)) T + 693 := fun u hu => by
    have := e3 u hu
    unfold okT at this
    rw [cls2, cls3, Bool.and_eq_true] at this
    exact of_decide_eq_true this.1
  have e5 := sum_eq e4 (by
    rw [sum_add, sum_mul 3, sum_mul 16, e1, sum_const (K := 693) fun _ _ => rfl, W40_len]; omega)
  have e6 : ∀ u ∈ W40, pairs (fun a b => b2n (eqw u a b)) T % 12 = 3 := fun u hu => by
    have := e3 u hu
    unfold okT at this
    rw [cls2, cls3, Bool.and_eq_true, Bool.or_eq_true] at this
    rcases this.2 with h | h
    · exact absurd (e5 u hu) (of_decide_eq_true h)
    · exact of_decide_eq_true h
  have := sum_mod e6
  rw [e1, W40_len] at this
  omega
end Go.Cap
namespace Go.Pl
open Go Go.Tv Go.RowKit
set_option linter.unusedVariables false
set_option linter.unusedSimpArgs false
def prL {α : Type} : List α → List (α × α)
  | [] => []
  | y :: l => l.map (fun z => (y, z)) ++ prL l
def trips {α : Type} : List α → List (α × α × α)
  | [] => []
  | x :: l => (prL l).map (fun p => (x, p.1, p.2)) ++ trips l
theorem prL_mem {α : Type} : ∀ {l : List α} {p : α × α}, p ∈ prL l → [p.1, p.2].Sublist l
  | [], _, h => by cases h
  | y :: l, p, h => by
    rcases List.mem_append.1 h with h | h
    · obtain ⟨z, hz, rfl⟩ := List.mem_map.1 h
      exact (List.singleton_sublist.2 hz).cons_cons y
    · exact (prL_mem h).cons y
theorem trips_mem {α : Type} : ∀ {l : List α} {t : α × α × α}, t ∈ trips l → [t.1, t.2.1, t.2.2].Sublist l
  | [], _, h => by cases h
  | x :: l, t, h => by
    rcases List.mem_append.1 h with h | h
    · obtain ⟨p, hp, rfl⟩ := List.mem_map.1 h
      exact (prL_mem hp).cons_cons x
    · exact (trips_mem h).cons x
theorem trips_nd {α : Type} {l : List α} (hnd : l.Nodup) {t : α × α × α} (h : t ∈ trips l) : t.1 ≠ t.2.1 ∧ t.1 ≠ t.2.2 ∧ t.2.1 ≠ t.2.2 := by
  have := hnd.sublist (trips_mem h)
  simp only [List.nodup_cons, List.mem_cons, List.not_mem_nil, or_false, not_or] at this
  exact ⟨this.1.1, this.1.2, this.2.1⟩
theorem trips_in {α : Type} {l : List α} {t : α × α × α} (h : t ∈ trips l) : t.1 ∈ l ∧ t.2.1 ∈ l ∧ t.2.2 ∈ l := by
  have := (trips_mem h).subset
  exact ⟨this (by simp), this (by simp), this (by simp)⟩
theorem prL_filter {α : Type} (p : α → Bool) (R : α × α → Bool) : ∀ l : List α, (prL l).countP (fun q => p q.1 && p q.2 && R q) = (prL (l.filter p)).countP R
  | [] => rfl
  | y :: l => by
    have ih := prL_filter p R l
    rw [prL, List.countP_append, List.countP_map, ih]
    cases hy : p y with
    | true =>
      rw [List.filter_cons_of_pos hy, prL, List.countP_append, List.countP_map, List.countP_filter]
      congr 1
      congr 1; funext z
      show (p y && p z && R (y, z)) = (R (y, z) && p z)
      rw [hy, Bool.true_and, Bool.and_comm]
    | false =>
      rw [List.filter_cons_of_neg (by rw [hy]; decide)]
      have : l.countP ((fun q : α × α => p q.1 && p q.2 && R q) ∘ fun z => (y, z)) = 0 := List.countP_eq_zero.2 fun z _ h => by
        have h : (p y && p z && R (y, z)) = true := h
        rw [hy] at h; cases h
      rw [this, Nat.zero_add]
theorem trips_filter {α : Type} (p : α → Bool) (R : α × α × α → Bool) : ∀ l : List α, (trips l).countP (fun t => p t.1 && p t.2.1 && p t.2.2 && R t) = (trips (l.filter p)).countP R
  | [] => rfl
  | x :: l => by
    have ih := trips_filter p R l
    rw [trips, List.countP_append, List.countP_map, ih]
    cases hx : p x with
    | true =>
      rw [List.filter_cons_of_pos hx, trips, List.countP_append, List.countP_map, ← prL_filter p]
      congr 1
      congr 1; funext q
      show (p x && p q.1 && p q.2 && R (x, q.1, q.2)) = (p q.1 && p q.2 && R (x, q.1, q.2))
      rw [hx, Bool.true_and]
    | false =>
      rw [List.filter_cons_of_neg (by rw [hx]; decide)]
      have : (prL l).countP ((fun t : α × α × α => p t.1 && p t.2.1 && p t.2.2 && R t) ∘ fun q => (x, q.1, q.2)) = 0 := List.countP_eq_zero.2 fun z _ h => by
        have h : (p x && p z.1 && p z.2 && R (x, z.1, z.2)) = true := h
        rw [hx] at h; cases h
      rw [this, Nat.zero_add]
theorem prL_perm {α : Type} {R : α × α → Bool} {l l' : List α} (h : l.Perm l') : (∀ x ∈ l, ∀ y ∈ l, R (x, y) = R (y, x)) → (prL l).countP R = (prL l').countP R := by
  induction h with
  | nil => intro _; rfl
  | @cons x l l' h ih =>
    intro hs
    rw [prL, prL, List.countP_append, List.countP_append, List.countP_map, List.countP_map, h.countP_eq, ih fun a ha b hb => hs a (List.mem_cons_of_mem _ ha) b (List.mem_cons_of_mem _ hb)]
  | swap x y l =>
    intro hs
    have e : R (y, x) = R (x, y) := hs y (List.mem_cons_self ..) x (List.mem_cons_of_mem _ (List.mem_cons_self ..))
    simp only [prL, List.countP_append, List.countP_map, List.map_cons, List.countP_cons, e]
    omega
  | trans h1 h2 ih1 ih2 =>
    intro hs
    rw [ih1 hs, ih2 fun a ha b hb => hs a (h1.mem_iff.2 ha) b (h1.mem_iff.2 hb)]
theorem trips_perm {α : Type} {R : α × α × α → Bool} {l l' : List α} (h : l.Perm l') : (∀ x ∈ l, ∀ y ∈ l, ∀ z ∈ l, R (x, y, z) = R (x, z, y)) → (∀ x ∈ l, ∀ y ∈ l, ∀ z ∈ l, R (x, y, z) = R (y, x, z)) → (trips l).countP R = (trips l').countP R := by
  induction h with
  | nil => intro _ _; rfl
  | @cons x l l' h ih =>
    intro h1 h2
    have hx : ∀ a ∈ l, a ∈ x :: l := fun a ha => List.mem_cons_of_mem _ ha
    rw [trips, trips, List.countP_append, List.countP_append, List.countP_map, List.countP_map, ih (fun a ha b hb c hc => h1 a (hx a ha) b (hx b hb) c (hx c hc)) (fun a ha b hb c hc => h2 a (hx a ha) b (hx b hb) c (hx c hc)),
      prL_perm (R := R ∘ fun p => (x, p.1, p.2)) h fun a ha b hb => h1 x (List.mem_cons_self ..) a (hx a ha) b (hx b hb)]
  | swap x y l =>
    intro h1 h2
    have hx : ∀ a ∈ l, a ∈ y :: x :: l := fun a ha => List.mem_cons_of_mem _ (List.mem_cons_of_mem _ ha)
    have e : l.countP ((R ∘ fun p => (y, p.1, p.2)) ∘ fun z => (x, z)) = l.countP ((R ∘ fun p => (x, p.1, p.2)) ∘ fun z => (y, z)) :=
      List.countP_congr fun z hz => by
        show R (y, x, z) = true ↔ R (x, y, z) = true
        rw [h2 y (List.mem_cons_self ..) x (List.mem_cons_of_mem _ (List.mem_cons_self ..)) z (hx z hz)]
    simp only [trips, prL, List.map_append, List.countP_append, List.countP_map, e]
    omega
  | trans h1 h2 ih1 ih2 =>
    intro a1 a2
    rw [ih1 a1 a2, ih2 (fun a ha b hb c hc => a1 a (h1.mem_iff.2 ha) b (h1.mem_iff.2 hb) c (h1.mem_iff.2 hc)) (fun a ha b hb c hc => a2 a (h1.mem_iff.2 ha) b (h1.mem_iff.2 hb) c (h1.mem_iff.2 hc))]
theorem prL_map {α β : Type} (f : α → β) : ∀ l : List α, prL (l.map f) = (prL l).map fun p => (f p.1, f p.2)
  | [] => rfl
  | y :: l => by rw [List.map_cons, prL, prL, prL_map f l, List.map_append, List.map_map, List.map_map]; rfl
theorem trips_map {α β : Type} (f : α → β) : ∀ l : List α, trips (l.map f) = (trips l).map fun t => (f t.1, f t.2.1, f t.2.2)
  | [] => rfl
  | x :: l => by rw [List.map_cons, trips, trips, trips_map f l, prL_map, List.map_append, List.map_map, List.map_map]; rfl
theorem dbl {α β : Type} [DecidableEq β] (L : List α) (G Rs : α → Bool) (pl : α → β) (K : Nat) (h1 : ∀ T ∈ L, G T = true → L.countP (fun F => Rs F && decide (pl F = pl T)) = 1)
    (h2 : ∀ F ∈ L, Rs F = true → L.countP (fun T => G T && decide (pl F = pl T)) = K) : L.countP G = K * L.countP Rs := by
  have e1 : (L.map fun T => (L.map fun F => Go.Cap.b2n (G T && (Rs F && decide (pl F = pl T)))).sum).sum = L.countP G := by
    rw [← Go.Cap.sum_b2n]
    congr 1
    refine List.map_congr_left fun T hT => ?_
    rw [Go.Cap.sum_b2n]
    cases hG : G T with
    | true => simp only [Bool.true_and]; rw [h1 T hT hG]; rfl
    | false => simp [Go.Cap.b2n]
  have e2 : (L.map fun F => (L.map fun T => Go.Cap.b2n (G T && (Rs F && decide (pl F = pl T)))).sum).sum = K * L.countP Rs := by
    rw [← Go.Cap.sum_b2n, ← Go.Cap.sum_mul]
    congr 1
    refine List.map_congr_left fun F hF => ?_
    rw [Go.Cap.sum_b2n]
    cases hR : Rs F with
    | true => simp only [Bool.true_and]; rw [h2 F hF hR]; simp [Go.Cap.b2n]
    | false => simp [Go.Cap.b2n]
  rw [← e1, ← e2, Go.Cap.swap2]
theorem count_first {α : Type} [DecidableEq α] {x y z : α} {l : List α} (hnd : (x :: y :: l).Nodup) (hz : z ∈ l) : (trips (x :: y :: l)).countP (fun t => decide (t = (x, y, z))) = 1 := by
  obtain ⟨hx, hnd1⟩ := List.nodup_cons.1 hnd
  obtain ⟨hy, hnd2⟩ := List.nodup_cons.1 hnd1
  have a3 : (trips (y :: l)).countP (fun t => decide (t = (x, y, z))) = 0 := List.countP_eq_zero.2 fun t ht h => by
    have e := of_decide_eq_true h
    have := (trips_in ht).1
    rw [e] at this
    exact hx this
  have a2 : (prL l).countP ((fun t : α × α × α => decide (t = (x, y, z))) ∘ fun p => (x, p.1, p.2)) = 0 := List.countP_eq_zero.2 fun p hp h => by
    have e : (x, p.1, p.2) = (x, y, z) := of_decide_eq_true h
    rw [Prod.mk.injEq, Prod.mk.injEq] at e
    have := (prL_mem hp).subset (List.mem_cons_self ..)
    rw [e.2.1] at this
    exact hy this
  have a1 : l.countP (((fun t : α × α × α => decide (t = (x, y, z))) ∘ fun p => (x, p.1, p.2)) ∘ fun w => (y, w)) = 1 := by
    rw [countP_one hnd2 fun a _ b _ ha hb => by
      have ha : (x, y, a) = (x, y, z) := of_decide_eq_true ha
      have hb : (x, y, b) = (x, y, z) := of_decide_eq_true hb
      rw [Prod.mk.injEq, Prod.mk.injEq] at ha hb
      rw [ha.2.2, hb.2.2]]
    rw [List.any_eq_true.2 ⟨z, hz, decide_eq_true rfl⟩]; rfl
  rw [trips, prL, List.map_append, List.countP_append, List.countP_append, List.countP_map, List.countP_map, List.countP_map, a3, a2, a1]
theorem S_rev {α : Type} (z : α) (h : List α) (R : α × α × α → Bool) : ∀ n : Nat, n ≤ h.length → (S n fun i => S i fun j => S j fun k => b2 (R (gl z h i, gl z h j, gl z h k))) = (trips (h.take n).reverse).countP R := by
  have c1 : ∀ (Q : α → Bool) (n : Nat), n ≤ h.length → (S n fun k => b2 (Q (gl z h k))) = (h.take n).reverse.countP Q := fun Q n hn => by
    induction n with
    | zero => rfl
    | succ n ih =>
      rw [take_snoc (by omega), List.reverse_append, List.reverse_singleton, List.singleton_append, List.countP_cons, ← ih (by omega), ← gl_eq (d := z)]
      rfl
  have c2 : ∀ (Q : α × α → Bool) (n : Nat), n ≤ h.length → (S n fun j => S j fun k => b2 (Q (gl z h j, gl z h k))) = (prL (h.take n).reverse).countP Q := fun Q n hn => by
    induction n with
    | zero => rfl
    | succ n ih =>
      rw [take_snoc (by omega), List.reverse_append, List.reverse_singleton, List.singleton_append, prL, List.countP_append, ← ih (by omega), List.countP_map, ← gl_eq (d := z)]
      have := c1 (Q ∘ fun w => (gl z h n, w)) n (by omega)
      rw [← this]; exact Nat.add_comm _ _
  intro n hn
  induction n with
  | zero => rfl
  | succ n ih =>
    rw [take_snoc (by omega), List.reverse_append, List.reverse_singleton, List.singleton_append, trips, List.countP_append, ← ih (by omega), List.countP_map, ← gl_eq (d := z)]
    have := c2 (R ∘ fun p => (gl z h n, p.1, p.2)) n (by omega)
    rw [← this]; exact Nat.add_comm _ _
def up1 (N : Nat) (i : Nat) (f : Nat → Nat) : Nat := ((List.range' i (N - i)).map f).sum
theorem up1_cons {N i : Nat} (h : i < N) (f : Nat → Nat) : up1 N i f = f i + up1 N (i + 1) f := by unfold up1; rw [range'_cons h, List.map_cons, List.sum_cons]
theorem up1_nil {N : Nat} (f : Nat → Nat) : up1 N N f = 0 := by unfold up1; rw [range'_nil (Nat.le_refl _)]; rfl
theorem up1_drop {α : Type} (z : α) (h : List α) (Q : α → Bool) : ∀ (m i : Nat), h.length - i = m → i ≤ h.length → up1 h.length i (fun k => b2 (Q (gl z h k))) = (h.drop i).countP Q
  | 0, i, hm, hi => by
    have : i = h.length := by omega
    subst this
    rw [up1_nil, List.drop_length]; rfl
  | m + 1, i, hm, hi => by
    rw [up1_cons (by omega), up1_drop z h Q m (i + 1) (by omega) (by omega), drop_cons (show i < h.length by omega), List.countP_cons, gl_eq (by omega), Nat.add_comm]; rfl
theorem up2_drop {α : Type} (z : α) (h : List α) (Q : α × α → Bool) : ∀ (m i : Nat), h.length - i = m → i ≤ h.length → up1 h.length i (fun j => up1 h.length (j + 1) fun k => b2 (Q (gl z h j, gl z h k))) = (prL (h.drop i)).countP Q
  | 0, i, hm, hi => by
    have : i = h.length := by omega
    subst this
    rw [up1_nil, List.drop_length]; rfl
  | m + 1, i, hm, hi => by
    rw [up1_cons (by omega), up2_drop z h Q m (i + 1) (by omega) (by omega), drop_cons (show i < h.length by omega), prL, List.countP_append, List.countP_map]
    have := up1_drop z h (Q ∘ fun w => (h[i], w)) (h.length - (i + 1)) (i + 1) rfl (by omega)
    rw [← this, gl_eq (show i < h.length by omega)]; rfl
theorem up3_drop {α : Type} (z : α) (h : List α) (R : α × α × α → Bool) : ∀ (m i : Nat), h.length - i = m → i ≤ h.length → up1 h.length i (fun i => up1 h.length (i + 1) fun j => up1 h.length (j + 1) fun k => b2 (R (gl z h i, gl z h j, gl z h k))) = (trips (h.drop i)).countP R
  | 0, i, hm, hi => by
    have : i = h.length := by omega
    subst this
    rw [up1_nil, List.drop_length]; rfl
  | m + 1, i, hm, hi => by
    rw [up1_cons (by omega), up3_drop z h R m (i + 1) (by omega) (by omega), drop_cons (show i < h.length by omega), trips, List.countP_append, List.countP_map]
    have := up2_drop z h (R ∘ fun p => (h[i], p.1, p.2)) (h.length - (i + 1)) (i + 1) rfl (by omega)
    rw [← this, gl_eq (show i < h.length by omega)]; rfl
theorem up1_le {N K : Nat} {f : Nat → Nat} (i : Nat) (h : ∀ k, k < N → f k ≤ K) : up1 N i f ≤ N * K := by
  have : ∀ m i, N - i = m → up1 N i f ≤ m * K := by
    intro m
    induction m with
    | zero => intro i hm; unfold up1; rw [hm]; simp
    | succ m ih =>
      intro i hm
      rw [up1_cons (by omega), Nat.succ_mul]
      have := ih (i + 1) (by omega)
      have := h i (by omega)
      omega
  exact Nat.le_trans (this _ i rfl) (Nat.mul_le_mul_right _ (by omega))
end Go.Pl
namespace Go.Pl
open Go Go.Tv Go.RowKit
set_option linter.unusedVariables false
end Go.Pl
