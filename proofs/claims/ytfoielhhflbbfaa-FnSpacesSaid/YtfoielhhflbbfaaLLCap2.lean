/- Plain laws: LCap2. -/
import Derived.Test.YtfoielhhflbbfaaLLCap
set_option linter.unusedVariables false
set_option linter.unusedSimpArgs false
namespace Go.Cap
theorem c2 {d : Pt} (hd : isP d) (h : d ≠ pz) : (W40.countP fun w => decide (dot w d = 0)) = 13 := by
  have := List.all_eq_true.1 chk2_ok d (mem_all81 hd)
  simp only [decide_eq_false h, Bool.false_or] at this
  exact Nat.eq_of_beq_eq_true this
theorem c3 {d e : Pt} (hd : isP d) (he : isP e) (h : d ≠ pz) (h2 : e ≠ pz) (h3 : e ≠ d) (h4 : e ≠ neg d) : (W40.countP fun w => decide (dot w d = 0) && decide (dot w e = 0)) = 4 := by
  have := List.all_eq_true.1 chk3_ok d (mem_all81 hd)
  simp only [decide_eq_false h, Bool.false_or] at this
  have := List.all_eq_true.1 this e (mem_all81 he)
  simp only [decide_eq_false h2, decide_eq_false h3, decide_eq_false h4, Bool.false_or] at this
  have := Nat.eq_of_beq_eq_true this
  rw [List.countP_filter] at this
  rw [← this]
  congr 1; funext w; rw [Bool.and_comm]
def ch2 : Nat → Nat
  | 0 => 0
  | n + 1 => ch2 n + n
def ch3 : Nat → Nat
  | 0 => 0
  | n + 1 => ch3 n + ch2 n
def pairs (f : Pt → Pt → Nat) : List Pt → Nat
  | [] => 0
  | a :: S => (S.map (f a)).sum + pairs f S
def trips (f : Pt → Pt → Pt → Nat) : List Pt → Nat
  | [] => 0
  | a :: S => pairs (f a) S + trips f S
def b2n (b : Bool) : Nat := if b = true then 1 else 0
theorem sum_b2n {α : Type} (p : α → Bool) : ∀ S : List α, (S.map fun a => b2n (p a)).sum = S.countP p
  | [] => rfl
  | a :: S => by
    rw [List.map_cons, List.sum_cons, sum_b2n p S, List.countP_cons, Nat.add_comm]; rfl
theorem sum_add {α : Type} (f g : α → Nat) : ∀ S : List α, (S.map fun a => f a + g a).sum = (S.map f).sum + (S.map g).sum
  | [] => rfl
  | a :: S => by simp only [List.map_cons, List.sum_cons, sum_add f g S]; omega
theorem sum_zero {α : Type} : ∀ S : List α, (S.map fun _ => 0).sum = 0
  | [] => rfl
  | a :: S => by simp only [List.map_cons, List.sum_cons, sum_zero S]
theorem swap2 {α β : Type} (f : α → β → Nat) (W : List α) : ∀ S : List β, (W.map fun w => (S.map (f w)).sum).sum = (S.map fun b => (W.map fun w => f w b).sum).sum
  | [] => by simp only [List.map_nil, List.sum_nil, sum_zero]
  | a :: S => by
    simp only [List.map_cons, List.sum_cons]
    rw [sum_add, swap2 f W S]
theorem swapP (f : Pt → Pt → Pt → Nat) (W : List Pt) : ∀ S : List Pt, (W.map fun w => pairs (f w) S).sum = pairs (fun a b => (W.map fun w => f w a b).sum) S
  | [] => by simp only [pairs, sum_zero]
  | a :: S => by
    simp only [pairs]
    rw [sum_add, swapP f W S, swap2]
theorem swapT (f : Pt → Pt → Pt → Pt → Nat) (W : List Pt) : ∀ S : List Pt, (W.map fun w => trips (f w) S).sum = trips (fun a b c => (W.map fun w => f w a b c).sum) S
  | [] => by simp only [trips, sum_zero]
  | a :: S => by
    simp only [trips]
    rw [sum_add, swapT f W S, swapP]
theorem sum_const {α : Type} {f : α → Nat} {K : Nat} : ∀ {S : List α}, (∀ a ∈ S, f a = K) → (S.map f).sum = K * S.length
  | [], _ => rfl
  | a :: S, h => by
    rw [List.map_cons, List.sum_cons, sum_const fun b hb => h b (List.mem_cons_of_mem _ hb), h a List.mem_cons_self, List.length_cons, Nat.mul_add, Nat.add_comm, Nat.mul_one]
theorem pairs_const {f : Pt → Pt → Nat} {K : Nat} : ∀ {S : List Pt}, S.Pairwise (fun a b => f a b = K) → pairs f S = K * ch2 S.length
  | [], _ => rfl
  | a :: S, h => by
    rw [List.pairwise_cons] at h
    rw [pairs, pairs_const h.2, sum_const h.1, List.length_cons, ch2, Nat.mul_add, Nat.add_comm]
theorem sum_le {α : Type} {f g : α → Nat} : ∀ {S : List α}, (∀ a ∈ S, f a ≤ g a) → (S.map f).sum ≤ (S.map g).sum
  | [], _ => Nat.le_refl _
  | a :: S, h => by
    have := sum_le fun b hb => h b (List.mem_cons_of_mem _ hb)
    have := h a List.mem_cons_self
    simp only [List.map_cons, List.sum_cons]; omega
theorem pairs_le {f : Pt → Pt → Nat} {K : Nat} : ∀ {S : List Pt}, S.Pairwise (fun a b => f a b ≤ K) → pairs f S ≤ K * ch2 S.length
  | [], _ => Nat.le_refl _
  | a :: S, h => by
    rw [List.pairwise_cons] at h
    have h1 := pairs_le h.2
    have h2 := sum_le (f := f a) (g := fun _ => K) h.1
    rw [sum_const fun _ _ => rfl] at h2
    rw [pairs, List.length_cons, ch2, Nat.mul_add]; omega
def Trip (R : Pt → Pt → Pt → Prop) : List Pt → Prop
  | [] => True
  | a :: S => S.Pairwise (R a) ∧ Trip R S
theorem trips_le {f : Pt → Pt → Pt → Nat} {K : Nat} : ∀ {S : List Pt}, Trip (fun a b c => f a b c ≤ K) S → trips f S ≤ K * ch3 S.length
  | [], _ => Nat.le_refl _
  | a :: S, h => by
    have h1 := trips_le h.2
    have h2 := pairs_le h.1
    rw [trips, List.length_cons, ch3, Nat.mul_add]; omega
def cnt (w : Pt) (S : List Pt) (v : Int) : Nat := S.countP fun c => decide (dot w c = v)
def eqw (w a b : Pt) : Bool := decide (dot w a = dot w b)
theorem cnt_sum (w : Pt) : ∀ S : List Pt, cnt w S 0 + cnt w S 1 + cnt w S 2 = S.length
  | [] => rfl
  | a :: S => by
    have := cnt_sum w S
    unfold cnt at this ⊢
    simp only [List.countP_cons, List.length_cons]
    rcases dot_bd w a with h | h | h <;> simp [h] <;> omega
theorem cls2 (w : Pt) : ∀ S : List Pt, ch2 (cnt w S 0) + ch2 (cnt w S 1) + ch2 (cnt w S 2) = pairs (fun a b => b2n (eqw w a b)) S
  | [] => rfl
  | a :: S => by
    rw [pairs, ← cls2 w S, sum_b2n]
    unfold cnt eqw
    simp only [List.countP_cons]
    have e : ∀ v : Int, (S.countP fun b => decide (v = dot w b)) = S.countP fun b => decide (dot w b = v) := fun v => by
      congr 1; funext b; congr 1; apply propext; exact eq_comm
    rw [e]
    rcases dot_bd w a with h | h | h <;> simp [h, ch2] <;> omega
theorem pairs_and (p : Pt → Bool) : ∀ S : List Pt, pairs (fun a b => b2n (p a && p b)) S = ch2 (S.countP p)
  | [] => rfl
  | a :: S => by
    rw [pairs, pairs_and p S, sum_b2n, List.countP_cons]
    have e : (fun b => p b) = p := rfl
    cases p a <;> simp [ch2, e] <;> omega
theorem cls3 (w : Pt) : ∀ S : List Pt, ch3 (cnt w S 0) + ch3 (cnt w S 1) + ch3 (cnt w S 2) = trips (fun a b c => b2n (eqw w a b && eqw w a c)) S
  | [] => rfl
  | a :: S => by
    rw [trips, ← cls3 w S, pairs_and (eqw w a)]
    unfold cnt eqw
    simp only [List.countP_cons]
    have e : ∀ v : Int, (S.countP fun b => decide (v = dot w b)) = S.countP fun b => decide (dot w b = v) := fun v => by
      congr 1; funext b; congr 1; apply propext; exact eq_comm
    rw [e]
    rcases dot_bd w a with h | h | h <;> simp [h, ch3] <;> omega
structure CapL (S : List Pt) : Prop where
  nd : S.Nodup
  pt : ∀ a ∈ S, isP a
  no : ∀ a ∈ S, ∀ b ∈ S, a ≠ b → th a b ∉ S
theorem CapL.sub {S T : List Pt} (h : CapL S) (hs : List.Sublist T S) : CapL T :=
  ⟨h.nd.sublist hs, fun a ha => h.pt a (hs.subset ha), fun a ha b hb hne hc => h.no a (hs.subset ha) b (hs.subset hb) hne (hs.subset hc)⟩
theorem pair13 {S : List Pt} (h : CapL S) : S.Pairwise fun a b => (W40.map fun w => b2n (eqw w a b)).sum = 13 := by
  refine List.Pairwise.imp_of_mem (R := fun a b => a ≠ b) (fun {a b} ha hb hne => ?_) h.nd
  rw [sum_b2n, ← c2 (df_isP a b) (df_ne (h.pt a ha) (h.pt b hb) hne)]
  congr 1; funext w; unfold eqw; congr 1; exact propext (dot_eq_iff w a b)
theorem tri4 {a b c : Pt} (ha : isP a) (hb : isP b) (hc : isP c) (h1 : a ≠ b) (h2 : a ≠ c) (h3 : b ≠ c) (h4 : th a b ≠ c) : (W40.countP fun w => eqw w a b && eqw w a c) = 4 := by
  rw [← c3 (df_isP a b) (df_isP a c) (df_ne ha hb h1) (df_ne ha hc h2) (fun e => h3 (df_inj hc hb e).symm) (fun e => h4 (df_neg ha hb hc e))]
  congr 1; funext w; unfold eqw
  rw [show decide (dot w a = dot w b) = decide (dot w (df a b) = 0) by congr 1; exact propext (dot_eq_iff w a b), show decide (dot w a = dot w c) = decide (dot w (df a c) = 0) by congr 1; exact propext (dot_eq_iff w a c)]
theorem trip4 : ∀ {S : List Pt}, CapL S → Trip (fun a b c => (W40.map fun w => b2n (eqw w a b && eqw w a c)).sum ≤ 4) S
  | [], _ => trivial
  | a :: S, h => by
    have hS := h.sub (List.sublist_cons_self a S)
    refine ⟨?_, trip4 hS⟩
    refine List.Pairwise.imp_of_mem (R := fun a b => a ≠ b) (fun {b c} hb hc hne => ?_) hS.nd
    have hn := List.nodup_cons.1 h.nd
    have e1 : a ≠ b := fun e => hn.1 (e ▸ hb)
    have e2 : a ≠ c := fun e => hn.1 (e ▸ hc)
    show (W40.map fun w => b2n (eqw w a b && eqw w a c)).sum ≤ 4
    rw [sum_b2n, tri4 (h.pt a List.mem_cons_self) (hS.pt b hb) (hS.pt c hc) e1 e2 hne fun e => h.no a List.mem_cons_self b (List.mem_cons_of_mem _ hb) e1 (e ▸ List.mem_cons_of_mem _ hc)]
    exact Nat.le_refl _
end Go.Cap
