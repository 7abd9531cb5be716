/- Plain laws: LCap2, LCap3, LFl, LTx. -/
import Derived.Test.YtkhfihbaopbblaaGreatDoorG6
import Derived.Test.YtkhfihbaopbblaaGreatDoorG4
import Derived.Test.YtkhfihbaopbblaaGreatDoorPL
import Derived.Test.YtkhfihbaopbblaaGreatDoorG1
import Derived.Test.YtkhfihbaopbblaaGreatDoorG2
set_option linter.unusedVariables false
set_option linter.unusedSimpArgs false
namespace Go.Cap
theorem c2 {d : Pt} (hd : isP d) (h : d ≠ pz) : (W40.countP fun w => decide (dot w d = 0)) = 13 := by
  have := List.all_eq_true.1 chk2_ok d (mem_all81 hd)
  simp only [decide_eq_false h, Bool.false_or] at this
  exact Nat.eq_of_beq_eq_true this
theorem c3 {d e : Pt} (hd : isP d) (he : isP e) (h : d ≠ pz) (h2 : e ≠ pz) (h3 : e ≠ d) (h4 : e ≠ neg d) : (W40.countP fun w => decide (dot w d = 0) && decide (dot w e = 0)) = 4 := by
  have := List.all_eq_true.1 chk3_ok d (mem_all81 hd)
  simp only [decide_eq_false h, Bool.false_or] at this
  have := List.all_eq_true.1 this e (mem_all81 he)
  simp only [decide_eq_false h2, decide_eq_false h3, decide_eq_false h4, Bool.false_or] at this
  have := Nat.eq_of_beq_eq_true this
  rw [List.countP_filter] at this
  rw [← this]
  congr 1; funext w; rw [Bool.and_comm]
def ch2 : Nat → Nat
  | 0 => 0
  | n + 1 => ch2 n + n
def ch3 : Nat → Nat
  | 0 => 0
  | n + 1 => ch3 n + ch2 n
def pairs (f : Pt → Pt → Nat) : List Pt → Nat
  | [] => 0
  | a :: S => (S.map (f a)).sum + pairs f S
def trips (f : Pt → Pt → Pt → Nat) : List Pt → Nat
  | [] => 0
  | a :: S => pairs (f a) S + trips f S
def b2n (b : Bool) : Nat := if b = true then 1 else 0
theorem sum_b2n {α : Type} (p : α → Bool) : ∀ S : List α, (S.map fun a => b2n (p a)).sum = S.countP p
  | [] => rfl
  | a :: S => by
    rw [List.map_cons, List.sum_cons, sum_b2n p S, List.countP_cons, Nat.add_comm]; rfl
theorem sum_add {α : Type} (f g : α → Nat) : ∀ S : List α, (S.map fun a => f a + g a).sum = (S.map f).sum + (S.map g).sum
  | [] => rfl
  | a :: S => by simp only [List.map_cons, List.sum_cons, sum_add f g S]; omega
theorem sum_zero {α : Type} : ∀ S : List α, (S.map fun _ => 0).sum = 0
  | [] => rfl
  | a :: S => by simp only [List.map_cons, List.sum_cons, sum_zero S]
theorem swap2 {α β : Type} (f : α → β → Nat) (W : List α) : ∀ S : List β, (W.map fun w => (S.map (f w)).sum).sum = (S.map fun b => (W.map fun w => f w b).sum).sum
  | [] => by simp only [List.map_nil, List.sum_nil, sum_zero]
  | a :: S => by
    simp only [List.map_cons, List.sum_cons]
    rw [sum_add, swap2 f W S]
theorem swapP (f : Pt → Pt → Pt → Nat) (W : List Pt) : ∀ S : List Pt, (W.map fun w => pairs (f w) S).sum = pairs (fun a b => (W.map fun w => f w a b).sum) S
  | [] => by simp only [pairs, sum_zero]
  | a :: S => by
    simp only [pairs]
    rw [sum_add, swapP f W S, swap2]
theorem swapT (f : Pt → Pt → Pt → Pt → Nat) (W : List Pt) : ∀ S : List Pt, (W.map fun w => trips (f w) S).sum = trips (fun a b c => (W.map fun w => f w a b c).sum) S
  | [] => by simp only [trips, sum_zero]
  | a :: S => by
    simp only [trips]
    rw [sum_add, swapT f W S, swapP]
theorem sum_const {α : Type} {f : α → Nat} {K : Nat} : ∀ {S : List α}, (∀ a ∈ S, f a = K) → (S.map f).sum = K * S.length
  | [], _ => rfl
  | a :: S, h => by
    rw [List.map_cons, List.sum_cons, sum_const fun b hb => h b (List.mem_cons_of_mem _ hb), h a List.mem_cons_self, List.length_cons, Nat.mul_add, Nat.add_comm, Nat.mul_one]
theorem pairs_const {f : Pt → Pt → Nat} {K : Nat} : ∀ {S : List Pt}, S.Pairwise (fun a b => f a b = K) → pairs f S = K * ch2 S.length
  | [], _ => rfl
  | a :: S, h => by
    rw [List.pairwise_cons] at h
    rw [pairs, pairs_const h.2, sum_const h.1, List.length_cons, ch2, Nat.mul_add, Nat.add_comm]
theorem sum_le {α : Type} {f g : α → Nat} : ∀ {S : List α}, (∀ a ∈ S, f a ≤ g a) → (S.map f).sum ≤ (S.map g).sum
  | [], _ => Nat.le_refl _
  | a :: S, h => by
    have := sum_le fun b hb => h b (List.mem_cons_of_mem _ hb)
    have := h a List.mem_cons_self
    simp only [List.map_cons, List.sum_cons]; omega
theorem pairs_le {f : Pt → Pt → Nat} {K : Nat} : ∀ {S : List Pt}, S.Pairwise (fun a b => f a b ≤ K) → pairs f S ≤ K * ch2 S.length
  | [], _ => Nat.le_refl _
  | a :: S, h => by
    rw [List.pairwise_cons] at h
    have h1 := pairs_le h.2
    have h2 := sum_le (f := f a) (g := fun _ => K) h.1
    rw [sum_const fun _ _ => rfl] at h2
    rw [pairs, List.length_cons, ch2, Nat.mul_add]; omega
def Trip (R : Pt → Pt → Pt → Prop) : List Pt → Prop
  | [] => True
  | a :: S => S.Pairwise (R a) ∧ Trip R S
theorem trips_le {f : Pt → Pt → Pt → Nat} {K : Nat} : ∀ {S : List Pt}, Trip (fun a b c => f a b c ≤ K) S → trips f S ≤ K * ch3 S.length
  | [], _ => Nat.le_refl _
  | a :: S, h => by
    have h1 := trips_le h.2
    have h2 := pairs_le h.1
    rw [trips, List.length_cons, ch3, Nat.mul_add]; omega
def cnt (w : Pt) (S : List Pt) (v : Int) : Nat := S.countP fun c => decide (dot w c = v)
def eqw (w a b : Pt) : Bool := decide (dot w a = dot w b)
theorem cnt_sum (w : Pt) : ∀ S : List Pt, cnt w S 0 + cnt w S 1 + cnt w S 2 = S.length
  | [] => rfl
  | a :: S => by
    have := cnt_sum w S
    unfold cnt at this ⊢
    simp only [List.countP_cons, List.length_cons]
    rcases dot_bd w a with h | h | h <;> simp [h] <;> omega
theorem cls2 (w : Pt) : ∀ S : List Pt, ch2 (cnt w S 0) + ch2 (cnt w S 1) + ch2 (cnt w S 2) = pairs (fun a b => b2n (eqw w a b)) S
  | [] => rfl
  | a :: S => by
    rw [pairs, ← cls2 w S, sum_b2n]
    unfold cnt eqw
    simp only [List.countP_cons]
    have e : ∀ v : Int, (S.countP fun b => decide (v = dot w b)) = S.countP fun b => decide (dot w b = v) := fun v => by
      congr 1; funext b; congr 1; apply propext; exact eq_comm
    rw [e]
    rcases dot_bd w a with h | h | h <;> simp [h, ch2] <;> omega
theorem pairs_and (p : Pt → Bool) : ∀ S : List Pt, pairs (fun a b => b2n (p a && p b)) S = ch2 (S.countP p)
  | [] => rfl
  | a :: S => by
    rw [pairs, pairs_and p S, sum_b2n, List.countP_cons]
    have e : (fun b => p b) = p := rfl
    cases p a <;> simp [ch2, e] <;> omega
theorem cls3 (w : Pt) : ∀ S : List Pt, ch3 (cnt w S 0) + ch3 (cnt w S 1) + ch3 (cnt w S 2) = trips (fun a b c => b2n (eqw w a b && eqw w a c)) S
  | [] => rfl
  | a :: S => by
    rw [trips, ← cls3 w S, pairs_and (eqw w a)]
    unfold cnt eqw
    simp only [List.countP_cons]
    have e : ∀ v : Int, (S.countP fun b => decide (v = dot w b)) = S.countP fun b => decide (dot w b = v) := fun v => by
      congr 1; funext b; congr 1; apply propext; exact eq_comm
    rw [e]
    rcases dot_bd w a with h | h | h <;> simp [h, ch3] <;> omega
structure CapL (S : List Pt) : Prop where
  nd : S.Nodup
  pt : ∀ a ∈ S, isP a
  no : ∀ a ∈ S, ∀ b ∈ S, a ≠ b → th a b ∉ S
theorem CapL.sub {S T : List Pt} (h : CapL S) (hs : List.Sublist T S) : CapL T :=
  ⟨h.nd.sublist hs, fun a ha => h.pt a (hs.subset ha), fun a ha b hb hne hc => h.no a (hs.subset ha) b (hs.subset hb) hne (hs.subset hc)⟩
theorem pair13 {S : List Pt} (h : CapL S) : S.Pairwise fun a b => (W40.map fun w => b2n (eqw w a b)).sum = 13 := by
  refine List.Pairwise.imp_of_mem (R := fun a b => a ≠ b) (fun {a b} ha hb hne => ?_) h.nd
  rw [sum_b2n, ← c2 (df_isP a b) (df_ne (h.pt a ha) (h.pt b hb) hne)]
  congr 1; funext w; unfold eqw; congr 1; exact propext (dot_eq_iff w a b)
theorem tri4 {a b c : Pt} (ha : isP a) (hb : isP b) (hc : isP c) (h1 : a ≠ b) (h2 : a ≠ c) (h3 : b ≠ c) (h4 : th a b ≠ c) : (W40.countP fun w => eqw w a b && eqw w a c) = 4 := by
  rw [← c3 (df_isP a b) (df_isP a c) (df_ne ha hb h1) (df_ne ha hc h2) (fun e => h3 (df_inj hc hb e).symm) (fun e => h4 (df_neg ha hb hc e))]
  congr 1; funext w; unfold eqw
  rw [show decide (dot w a = dot w b) = decide (dot w (df a b) = 0) by congr 1; exact propext (dot_eq_iff w a b), show decide (dot w a = dot w c) = decide (dot w (df a c) = 0) by congr 1; exact propext (dot_eq_iff w a c)]
theorem trip4 : ∀ {S : List Pt}, CapL S → Trip (fun a b c => (W40.map fun w => b2n (eqw w a b && eqw w a c)).sum ≤ 4) S
  | [], _ => trivial
  | a :: S, h => by
    have hS := h.sub (List.sublist_cons_self a S)
    refine ⟨?_, trip4 hS⟩
    refine List.Pairwise.imp_of_mem (R := fun a b => a ≠ b) (fun {b c} hb hc hne => ?_) hS.nd
    have hn := List.nodup_cons.1 h.nd
    have e1 : a ≠ b := fun e => hn.1 (e ▸ hb)
    have e2 : a ≠ c := fun e => hn.1 (e ▸ hc)
    show (W40.map fun w => b2n (eqw w a b && eqw w a c)).sum ≤ 4
    rw [sum_b2n, tri4 (h.pt a List.mem_cons_self) (hS.pt b hb) (hS.pt c hc) e1 e2 hne fun e => h.no a List.mem_cons_self b (List.mem_cons_of_mem _ hb) e1 (e ▸ List.mem_cons_of_mem _ hc)]
    exact Nat.le_refl _
end Go.Cap
namespace Go.Cap
def comb (α β : Int) (v w : Pt) : Pt := ⟨(α * v.x0 + β * w.x0) % 3, (α * v.x1 + β * w.x1) % 3, (α * v.x2 + β * w.x2) % 3, (α * v.x3 + β * w.x3) % 3⟩
def combs (v w : Pt) : List Pt := [v, w, comb 1 1 v w, comb 1 2 v w, comb 2 1 v w, comb 2 2 v w]
def spL (v w : Pt) : List Pt := (combs v w).filter first1
def chkS : Bool := W40.all fun v => W40.all fun w => decide (v = w) || (decide (spL v w).Nodup && Nat.beq (spL v w).length 4)
theorem chkS_ok : chkS = true := by kernel_rfl
theorem dot_comb (α β : Int) (v w a : Pt) : dot (comb α β v w) a = (α * dot v a + β * dot w a) % 3 := by
  have key : ∀ x y c : Int, ∃ q : Int, ((α * x + β * y) % 3) * c = α * (x * c) + β * (y * c) - 3 * q := fun x y c => by
    obtain ⟨q, h⟩ := mulmod c (α * x + β * y)
    refine ⟨q, ?_⟩
    rw [Int.mul_comm, h, Int.mul_add, ← Int.mul_assoc, ← Int.mul_assoc, ← Int.mul_assoc, ← Int.mul_assoc, Int.mul_comm c α, Int.mul_comm c β, Int.mul_assoc, Int.mul_assoc, Int.mul_comm c x, Int.mul_comm c y, Int.mul_assoc, Int.mul_assoc]
  have kd : ∀ (γ : Int) (u : Pt), ∃ q : Int, γ * dot u a = γ * (u.x0 * a.x0) + γ * (u.x1 * a.x1) + γ * (u.x2 * a.x2) + γ * (u.x3 * a.x3) - 3 * q := fun γ u => by
    obtain ⟨q, h⟩ := mulmod γ (u.x0 * a.x0 + u.x1 * a.x1 + u.x2 * a.x2 + u.x3 * a.x3)
    refine ⟨q, ?_⟩
    unfold dot
    rw [h, Int.mul_add, Int.mul_add, Int.mul_add]
  obtain ⟨p, hp⟩ := kd α v
  obtain ⟨p', hp'⟩ := kd β w
  rw [hp, hp']
  unfold dot comb
  simp only []
  obtain ⟨q0, h0⟩ := key v.x0 w.x0 a.x0
  obtain ⟨q1, h1⟩ := key v.x1 w.x1 a.x1
  obtain ⟨q2, h2⟩ := key v.x2 w.x2 a.x2
  obtain ⟨q3, h3⟩ := key v.x3 w.x3 a.x3
  rw [h0, h1, h2, h3]
  omega
theorem comb_isP (α β : Int) (v w : Pt) : isP (comb α β v w) := by unfold isP comb; simp only []; omega
theorem W40_mem {u : Pt} (h : isP u) (hf : first1 u = true) : u ∈ W40 := List.mem_filter.2 ⟨mem_all81 h, hf⟩
theorem all81_isP {u : Pt} (h : u ∈ all81) : isP u := by
  obtain ⟨k, hk, rfl⟩ := List.mem_map.1 h
  rw [List.mem_range] at hk
  unfold isP ptN
  simp only []
  omega
theorem W40_isP {u : Pt} (h : u ∈ W40) : isP u := all81_isP (List.mem_filter.1 h).1
theorem spL_sub {v w : Pt} (hv : v ∈ W40) (hw : w ∈ W40) : ∀ u ∈ spL v w, u ∈ W40 := by
  intro u hu
  obtain ⟨h1, h2⟩ := List.mem_filter.1 hu
  refine W40_mem ?_ h2
  simp only [combs, List.mem_cons, List.not_mem_nil, or_false] at h1
  rcases h1 with rfl | rfl | rfl | rfl | rfl | rfl
  · exact W40_isP hv
  · exact W40_isP hw
  all_goals exact comb_isP _ _ _ _
theorem spL_ok {v w : Pt} (hv : v ∈ W40) (hw : w ∈ W40) (hne : v ≠ w) : (spL v w).Nodup ∧ (spL v w).length = 4 := by
  have h := List.all_eq_true.1 (List.all_eq_true.1 chkS_ok v hv) w hw
  simp only [decide_eq_false hne, Bool.false_or, Bool.and_eq_true] at h
  exact ⟨of_decide_eq_true h.1, Nat.eq_of_beq_eq_true h.2⟩
theorem spL_eqw {v w a b u : Pt} (h1 : eqw v a b = true) (h2 : eqw w a b = true) (hu : u ∈ spL v w) : eqw u a b = true := by
  have h := (List.mem_filter.1 hu).1
  have e1 := of_decide_eq_true h1
  have e2 := of_decide_eq_true h2
  simp only [combs, List.mem_cons, List.not_mem_nil, or_false] at h
  rcases h with rfl | rfl | rfl | rfl | rfl | rfl
  · exact h1
  · exact h2
  all_goals exact decide_eq_true (by rw [dot_comb, dot_comb, e1, e2])
theorem len_sub {α : Type} [DecidableEq α] : ∀ {M L : List α}, M.Nodup → (∀ x ∈ M, x ∈ L) → M.length ≤ L.length
  | [], _, _, _ => Nat.zero_le _
  | a :: M, L, h, hs => by
    obtain ⟨h1, h2⟩ := List.nodup_cons.1 h
    have ha := hs a List.mem_cons_self
    have := len_sub (M := M) (L := L.erase a) h2 fun x hx => (List.mem_erase_of_ne (fun e => h1 (by rw [← e]; exact hx))).2 (hs x (List.mem_cons_of_mem _ hx))
    rw [List.length_erase_of_mem ha] at this
    have := List.length_pos_of_mem ha
    rw [List.length_cons]; omega
theorem len_countP {M : List Pt} {p : Pt → Bool} (h : M.Nodup) (hs : ∀ x ∈ M, x ∈ W40) (hp : ∀ x ∈ M, p x = true) : M.length ≤ W40.countP p := by
  rw [List.countP_eq_length_filter]
  exact len_sub h fun x hx => List.mem_filter.2 ⟨hs x hx, hp x hx⟩
def Con (u : Pt) (S : List Pt) : Prop := ∀ a ∈ S, ∀ b ∈ S, eqw u a b = true
instance (u : Pt) (S : List Pt) : Decidable (Con u S) := inferInstanceAs (Decidable (∀ a ∈ S, ∀ b ∈ S, eqw u a b = true))
theorem Con.sub {u : Pt} {S T : List Pt} (h : Con u S) (hs : ∀ x ∈ T, x ∈ S) : Con u T := fun a ha b hb => h a (hs a ha) b (hs b hb)
theorem tri_of {S : List Pt} (h : CapL S) (hl : 3 ≤ S.length) : ∃ a b c, a ∈ S ∧ b ∈ S ∧ c ∈ S ∧ (W40.countP fun w => eqw w a b && eqw w a c) = 4 := by
  match S, h, hl with
  | a :: b :: c :: S, h, _ =>
    have ha : a ∈ a :: b :: c :: S := List.mem_cons_self
    have hb : b ∈ a :: b :: c :: S := List.mem_cons_of_mem _ List.mem_cons_self
    have hc : c ∈ a :: b :: c :: S := List.mem_cons_of_mem _ (List.mem_cons_of_mem _ List.mem_cons_self)
    have n1 := List.nodup_cons.1 h.nd
    have n2 := List.nodup_cons.1 n1.2
    have e1 : a ≠ b := fun e => n1.1 (e ▸ List.mem_cons_self)
    have e2 : a ≠ c := fun e => n1.1 (e ▸ List.mem_cons_of_mem _ List.mem_cons_self)
    have e3 : b ≠ c := fun e => n2.1 (e ▸ List.mem_cons_self)
    exact ⟨a, b, c, ha, hb, hc, tri4 (h.pt a ha) (h.pt b hb) (h.pt c hc) e1 e2 e3 fun e => h.no a ha b hb e1 (e ▸ hc)⟩
theorem line2 {S : List Pt} (h : CapL S) {v w u : Pt} (hv : v ∈ W40) (hw : w ∈ W40) (hu : u ∈ W40) (hne : v ≠ w) (hns : u ∉ spL v w) (c1 : Con v S) (c2 : Con w S) (c3 : Con u S) : S.length ≤ 2 := by
  refine Nat.le_of_not_lt fun hl => ?_
  obtain ⟨a, b, c, ha, hb, hc, h4⟩ := tri_of h hl
  obtain ⟨n1, n2⟩ := spL_ok hv hw hne
  have : (u :: spL v w).length ≤ _ := len_countP (p := fun w => eqw w a b && eqw w a c) (List.nodup_cons.2 ⟨hns, n1⟩) (fun x hx => by
    rcases List.mem_cons.1 hx with rfl | hx
    · exact hu
    · exact spL_sub hv hw x hx) (fun x hx => by
    rcases List.mem_cons.1 hx with rfl | hx
    · simp only [c3 a ha b hb, c3 a ha c hc, Bool.and_self]
    · simp only [spL_eqw (c1 a ha b hb) (c2 a ha b hb) hx, spL_eqw (c1 a ha c hc) (c2 a ha c hc) hx, Bool.and_self])
  rw [h4, List.length_cons, n2] at this
  omega
theorem cp_split {α : Type} (p q : α → Bool) : ∀ S : List α, S.countP p = (S.countP fun x => p x && q x) + S.countP fun x => p x && !q x
  | [] => rfl
  | a :: S => by
    have := cp_split p q S
    simp only [List.countP_cons]
    cases p a <;> cases q a <;> simp <;> omega
theorem fib_con (u : Pt) (S : List Pt) (v : Int) : Con u (S.filter fun c => decide (dot u c = v)) := fun a ha b hb => by
  have h1 := of_decide_eq_true (List.mem_filter.1 ha).2
  have h2 := of_decide_eq_true (List.mem_filter.1 hb).2
  exact decide_eq_true (by rw [h1, h2])
theorem cnt_fib (u : Pt) (S : List Pt) (v : Int) : cnt u S v = (S.filter fun c => decide (dot u c = v)).length := List.countP_eq_length_filter
theorem lim5 : ∀ x, x < 3 → ∀ y, y < 3 → ∀ z, z < 3 → x + y + z = 5 → ch2 x + ch2 y + ch2 z ≤ 2 := by decide
theorem plane4 {S : List Pt} (h : CapL S) {v w : Pt} (hv : v ∈ W40) (hw : w ∈ W40) (hne : v ≠ w) (k1 : Con v S) (k2 : Con w S) : S.length ≤ 4 := by
  refine Nat.le_of_not_lt fun hl => ?_
  obtain ⟨T, hT, hs⟩ : ∃ T, T.length = 5 ∧ List.Sublist T S := ⟨S.take 5, by rw [List.length_take]; omega, List.take_sublist _ _⟩
  have h := h.sub hs
  have k1 := k1.sub hs.subset
  have k2 := k2.sub hs.subset
  obtain ⟨n1, n2⟩ := spL_ok hv hw hne
  have hK : (W40.countP fun u => decide (Con u T)) = 4 := by
    refine Nat.le_antisymm ?_ ?_
    · obtain ⟨a, b, c, ha, hb, hc, h4⟩ := tri_of h (by omega)
      rw [← h4]
      exact List.countP_mono_left fun x _ hx => by have hx := of_decide_eq_true hx; simp only [hx a ha b hb, hx a ha c hc, Bool.and_self]
    · rw [← n2]
      exact len_countP n1 (spL_sub hv hw) fun x hx => decide_eq_true fun a ha b hb => spL_eqw (k1 a ha b hb) (k2 a ha b hb) hx
  have hW : (W40.filter fun u => !decide (Con u T)).length = 36 := by
    have := cp_split (fun _ => true) (fun u => decide (Con u T)) W40
    simp only [Bool.true_and, hK] at this
    rw [List.countP_true, W40_len] at this
    rw [← List.countP_eq_length_filter]
    omega
  have e1 : ((W40.filter fun u => !decide (Con u T)).map fun u => pairs (fun a b => b2n (eqw u a b)) T).sum = 90 := by
    rw [swapP (fun u a b => b2n (eqw u a b)), pairs_const (K := 9), hT]; rfl
    refine List.Pairwise.imp_of_mem (R := fun a b => a ≠ b) (fun {a b} ha hb hne => ?_) h.nd
    rw [sum_b2n, List.countP_filter]
    have h13 := c2 (df_isP a b) (df_ne (h.pt a ha) (h.pt b hb) hne)
    have := cp_split (fun u => eqw u a b) (fun u => decide (Con u T)) W40
    have e : (W40.countP fun u => eqw u a b) = 13 := by rw [← h13]; congr 1; funext w; unfold eqw; congr 1; exact propext (dot_eq_iff w a b)
    have e' : (W40.countP fun u => eqw u a b && decide (Con u T)) = 4 := by
      rw [← hK]; congr 1; funext u
      by_cases hu : Con u T
      · simp only [hu a ha b hb, decide_eq_true hu, Bool.and_self]
      · simp only [decide_eq_false hu, Bool.and_false]
    rw [e, e'] at this
    have : (W40.countP fun u => eqw u a b && !decide (Con u T)) = 9 := by omega
    exact this
  have e2 : ((W40.filter fun u => !decide (Con u T)).map fun u => pairs (fun a b => b2n (eqw u a b)) T).sum ≤ ((W40.filter fun u => !decide (Con u T)).map fun _ => 2).sum := by
    refine sum_le fun u hu => ?_
    obtain ⟨hu, hn⟩ := List.mem_filter.1 hu
    have hn : ¬ Con u T := by simpa using hn
    have hns : u ∉ spL v w := fun hx => hn fun a ha b hb => spL_eqw (k1 a ha b hb) (k2 a ha b hb) hx
    have lim : ∀ x, cnt u T x < 3 := fun x => by
      rw [cnt_fib]
      have hsub : List.Sublist (T.filter fun c => decide (dot u c = x)) T := List.filter_sublist
      exact Nat.lt_succ_of_le (line2 (h.sub hsub) hv hw hu hne hns (k1.sub hsub.subset) (k2.sub hsub.subset) (fib_con u T x))
    rw [← cls2]
    exact lim5 _ (lim 0) _ (lim 1) _ (lim 2) (by rw [cnt_sum, hT])
  rw [e1, sum_const (K := 2) fun _ _ => rfl, hW] at e2
  omega
theorem lim10 : ∀ x, x < 5 → ∀ y, y < 5 → ∀ z, z < 5 → x + y + z = 10 → ch2 x + ch2 y + ch2 z ≤ 13 := by decide
theorem W40_nd : W40.Nodup := by
  have : decide W40.Nodup = true := by kernel_rfl
  exact of_decide_eq_true this
theorem space9 {S : List Pt} (h : CapL S) {v : Pt} (hv : v ∈ W40) (k1 : Con v S) : S.length ≤ 9 := by
  refine Nat.le_of_not_lt fun hl => ?_
  obtain ⟨T, hT, hs⟩ : ∃ T, T.length = 10 ∧ List.Sublist T S := ⟨S.take 10, by rw [List.length_take]; omega, List.take_sublist _ _⟩
  have h := h.sub hs
  have k1 := k1.sub hs.subset
  have hK : (W40.countP fun u => decide (u = v)) = 1 := by
    have h1 : W40.count v = 1 := (W40_nd.count (a := v)).trans (if_pos hv)
    rw [← h1, List.count_eq_countP]; congr 1
  have hW : (W40.filter fun u => !decide (u = v)).length = 39 := by
    have := cp_split (fun _ => true) (fun u => decide (u = v)) W40
    simp only [Bool.true_and, hK] at this
    rw [List.countP_true, W40_len] at this
    rw [← List.countP_eq_length_filter]
    omega
  have e1 : ((W40.filter fun u => !decide (u = v)).map fun u => pairs (fun a b => b2n (eqw u a b)) T).sum = 540 := by
    rw [swapP (fun u a b => b2n (eqw u a b)), pairs_const (K := 12), hT]; rfl
    refine List.Pairwise.imp_of_mem (R := fun a b => a ≠ b) (fun {a b} ha hb hne => ?_) h.nd
    rw [sum_b2n, List.countP_filter]
    have h13 := c2 (df_isP a b) (df_ne (h.pt a ha) (h.pt b hb) hne)
    have := cp_split (fun u => eqw u a b) (fun u => decide (u = v)) W40
    have e : (W40.countP fun u => eqw u a b) = 13 := by rw [← h13]; congr 1; funext w; unfold eqw; congr 1; exact propext (dot_eq_iff w a b)
    have e' : (W40.countP fun u => eqw u a b && decide (u = v)) = 1 := by
      rw [← hK]; congr 1; funext u
      by_cases hu : u = v
      · simp only [hu, k1 a ha b hb, decide_true, Bool.and_self]
      · simp only [decide_eq_false hu, Bool.and_false]
    rw [e, e'] at this
    have : (W40.countP fun u => eqw u a b && !decide (u = v)) = 12 := by omega
    exact this
  have e2 : ((W40.filter fun u => !decide (u = v)).map fun u => pairs (fun a b => b2n (eqw u a b)) T).sum ≤ ((W40.filter fun u => !decide (u = v)).map fun _ => 13).sum := by
    refine sum_le fun u hu => ?_
    obtain ⟨hu, hn⟩ := List.mem_filter.1 hu
    have hn : ¬ u = v := by simpa using hn
    have lim : ∀ x, cnt u T x < 5 := fun x => by
      rw [cnt_fib]
      have hsub : List.Sublist (T.filter fun c => decide (dot u c = x)) T := List.filter_sublist
      exact Nat.lt_succ_of_le (plane4 (h.sub hsub) hv hu (fun e => hn e.symm) (k1.sub hsub.subset) (fib_con u T x))
    rw [← cls2]
    exact lim10 _ (lim 0) _ (lim 1) _ (lim 2) (by rw [cnt_sum, hT])
  rw [e1, sum_const (K := 13) fun _ _ => rfl, hW] at e2
  omega
def okT (x y z : Nat) : Bool := decide (16 * (ch2 x + ch2 y + ch2 z) ≤ 3 * (ch3 x + ch3 y + ch3 z) + 693) && (decide (16 * (ch2 x + ch2 y + ch2 z) ≠ 3 * (ch3 x + ch3 y + ch3 z) + 693) || decide ((ch2 x + ch2 y + ch2 z) % 12 = 3))
theorem lim21 : ∀ x, x < 10 → ∀ y, y < 10 → ∀ z, z < 10 → x + y + z = 21 → okT x y z = true := by decide
theorem sum_eq {α : Type} {f g : α → Nat} : ∀ {S : List α}, (∀ a ∈ S, f a ≤ g a) → (S.map g).sum ≤ (S.map f).sum → ∀ a ∈ S, f a = g a
  | [], _, _, a, ha => by cases ha
  | b :: S, h, h2, a, ha => by
    have h3 := sum_le fun b hb => h b (List.mem_cons_of_mem _ hb)
    have h4 := h b List.mem_cons_self
    simp only [List.map_cons, List.sum_cons] at h2
    rcases List.mem_cons.1 ha with rfl | ha
    · omega
    · exact sum_eq (fun b hb => h b (List.mem_cons_of_mem _ hb)) (by omega) a ha
theorem sum_mod {α : Type} {f : α → Nat} : ∀ {S : List α}, (∀ a ∈ S, f a % 12 = 3) → (S.map f).sum % 12 = (3 * S.length) % 12
  | [], _ => rfl
  | a :: S, h => by
    have h1 := sum_mod fun b hb => h b (List.mem_cons_of_mem _ hb)
    have h2 := h a List.mem_cons_self
    simp only [List.map_cons, List.sum_cons, List.length_cons]; omega
theorem sum_mul {α : Type} (k : Nat) (f : α → Nat) : ∀ S : List α, (S.map fun a => k * f a).sum = k * (S.map f).sum
  | [] => rfl
  | a :: S => by simp only [List.map_cons, List.sum_cons, sum_mul k f S, Nat.mul_add]
theorem cap20 {S : List Pt} (h : CapL S) : S.length ≤ 20 := by
  refine Nat.le_of_not_lt fun hl => ?_
  obtain ⟨T, hT, hs⟩ : ∃ T, T.length = 21 ∧ List.Sublist T S := ⟨S.take 21, by rw [List.length_take]; omega, List.take_sublist _ _⟩
  have h := h.sub hs
  have e1 : (W40.map fun u => pairs (fun a b => b2n (eqw u a b)) T).sum = 2730 := by
    rw [swapP (fun u a b => b2n (eqw u a b)), pairs_const (pair13 h), hT]; rfl
  have e2 : (W40.map fun u => trips (fun a b c => b2n (eqw u a b && eqw u a c)) T).sum ≤ 5320 := by
    rw [swapT (fun u a b c => b2n (eqw u a b && eqw u a c))]
    have := trips_le (trip4 h)
    rw [hT] at this
    exact this
  have e3 : ∀ u ∈ W40, okT (cnt u T 0) (cnt u T 1) (cnt u T 2) = true := fun u hu => by
    have lim : ∀ x, cnt u T x < 10 := fun x => by
      rw [cnt_fib]
      have hsub : List.Sublist (T.filter fun c => decide (dot u c = x)) T := List.filter_sublist
      exact Nat.lt_succ_of_le (space9 (h.sub hsub) hu (fib_con u T x))
    exact lim21 _ (lim 0) _ (lim 1) _ (lim 2) (by rw [cnt_sum, hT])
  have e4 : ∀ u ∈ W40, 16 * pairs (fun a b => b2n (eqw u a b)) T ≤ 3 * trips (fun a b c => b2n (eqw u a b && eqw u a c)) T + 693 := fun u hu => by
    have := e3 u hu
    unfold okT at this
    rw [cls2, cls3, Bool.and_eq_true] at this
    exact of_decide_eq_true this.1
  have e5 := sum_eq e4 (by
    rw [sum_add, sum_mul 3, sum_mul 16, e1, sum_const (K := 693) fun _ _ => rfl, W40_len]; omega)
  have e6 : ∀ u ∈ W40, pairs (fun a b => b2n (eqw u a b)) T % 12 = 3 := fun u hu => by
    have := e3 u hu
    unfold okT at this
    rw [cls2, cls3, Bool.and_eq_true, Bool.or_eq_true] at this
    rcases this.2 with h | h
    · exact absurd (e5 u hu) (of_decide_eq_true h)
    · exact of_decide_eq_true h
  have := sum_mod e6
  rw [e1, W40_len] at this
  omega
end Go.Cap
namespace Go.Pl
open Go Go.Tv Go.RowKit
set_option linter.unusedVariables false
theorem handP_iff : ∀ {p : Option Card} {l : List Card}, handP p l = true ↔ AllC l ∧ SS l ∧ (∀ q, p = some q → ∀ c ∈ l, num q < num c)
  | p, [] => by
    constructor
    · intro _; exact ⟨fun c h => (by cases h), List.Pairwise.nil, fun q _ c h => by cases h⟩
    · intro _; rfl
  | p, c :: l => by
    rw [handP_cons, Bool.and_eq_true, Bool.and_eq_true, handP_iff]
    constructor
    · rintro ⟨⟨h1, h2⟩, h3, h4, h5⟩
      refine ⟨fun x hx => ?_, List.pairwise_cons.2 ⟨fun x hx => h5 c rfl x hx, h4⟩, fun q hq x hx => ?_⟩
      · rcases List.mem_cons.1 hx with rfl | hx
        · exact h1
        · exact h3 x hx
      · subst hq
        have h2 : num q < num c := of_decide_eq_true h2
        rcases List.mem_cons.1 hx with rfl | hx
        · exact h2
        · exact Int.lt_trans h2 (h5 c rfl x hx)
    · rintro ⟨h1, h2, h3⟩
      obtain ⟨h4, h5⟩ := List.pairwise_cons.1 h2
      refine ⟨⟨h1 c List.mem_cons_self, ?_⟩, fun x hx => h1 x (List.mem_cons_of_mem _ hx), h5, fun q hq x hx => ?_⟩
      · cases p with
        | none => rfl
        | some q => exact decide_eq_true (h3 q rfl c List.mem_cons_self)
      · cases hq; exact h4 x hx
theorem hand_iff {h : List Card} : hand h = true ↔ AllC h ∧ SS h ∧ h.length ≤ 27 := by
  unfold hand
  rw [Bool.and_eq_true, handP_iff]
  constructor
  · rintro ⟨⟨h1, h2, _⟩, h3⟩; exact ⟨h1, h2, of_decide_eq_true h3⟩
  · rintro ⟨h1, h2, h3⟩; exact ⟨⟨h1, h2, fun q hq => by cases hq⟩, decide_eq_true h3⟩
def CapP (h : List Card) : Prop := ∀ a ∈ h, ∀ b ∈ h, a ≠ b → third a b ∉ h
structure FD (h d : List Card) : Prop where
  ss : SS d
  c : AllC d
  cap : CapP d
  sub : ∀ x ∈ h, x ∈ d
  full : ∀ j, j < 81 → outOK d false j = false
def toPt (c : Card) : Go.Cap.Pt := ⟨c.x0, c.x1, c.x2, c.x3⟩
theorem toPt_inj {a b : Card} (h : toPt a = toPt b) : a = b := by
  cases a; cases b; unfold toPt at h; cases h; rfl
theorem toPt_th {a b : Card} (ha : isC a = true) (hb : isC b = true) : Go.Cap.th (toPt a) (toPt b) = toPt (third a b) := by
  rw [isC_iff] at ha hb
  unfold Go.Cap.th toPt third t3
  simp only []
  rw [Int.tmod_eq_emod_of_nonneg (by omega), Int.tmod_eq_emod_of_nonneg (by omega), Int.tmod_eq_emod_of_nonneg (by omega), Int.tmod_eq_emod_of_nonneg (by omega)]
theorem cap_len {d : List Card} (hc : AllC d) (hnd : d.Nodup) (hcap : CapP d) : d.length ≤ 20 := by
  have := Go.Cap.cap20 (S := d.map toPt) ⟨List.Pairwise.map _ (fun a b hne e => hne (toPt_inj e)) hnd, fun p hp => ?_, fun a ha b hb hne hm => ?_⟩
  · rwa [List.length_map] at this
  · obtain ⟨c, hc', rfl⟩ := List.mem_map.1 hp
    exact isC_iff.1 (hc c hc')
  · obtain ⟨x, hx, rfl⟩ := List.mem_map.1 ha
    obtain ⟨y, hy, rfl⟩ := List.mem_map.1 hb
    rw [toPt_th (hc x hx) (hc y hy)] at hm
    obtain ⟨z, hz, e⟩ := List.mem_map.1 hm
    exact hcap x hx y hy (fun e => hne (by rw [e])) (by rw [← toPt_inj e]; exact hz)
theorem FD.hand {h d : List Card} (D : FD h d) : hand d = true :=
  hand_iff.2 ⟨D.c, D.ss, by have := cap_len D.c D.ss.nodup D.cap; omega⟩
end Go.Pl
namespace Go.Pl
open Go Go.Tv Go.RowKit
def ct (c : Card) : List UInt8 := [UInt8.ofNat (48 + c.x0.toNat), UInt8.ofNat (48 + c.x1.toNat), UInt8.ofNat (48 + c.x2.toNat), UInt8.ofNat (48 + c.x3.toNat)]
theorem ct_run (m : Nat) : (cards81.all fun c => bsq (i_cardText (m + 64) c) (some (mk (ct c))) && bsq (s_l2Text (m + 64) c) (some (mk (ct c)))) = true := by kernel_rfl
theorem ct_ok {n : Nat} (hn : BIG ≤ n) {c : Card} (hc : isC c = true) : i_cardText n c = some (mk (ct c)) ∧ s_l2Text n c = some (mk (ct c)) := by
  obtain ⟨m, rfl⟩ : ∃ m, n = m + 64 := ⟨n - 64, by unfold BIG at hn; omega⟩
  have := List.all_eq_true.1 (ct_run m) c (mem_cards81 hc)
  rw [Bool.and_eq_true] at this
  obtain ⟨x, e1, e2, _⟩ := bsq_eq this.1
  obtain ⟨y, e3, e4, _⟩ := bsq_eq this.2
  exact ⟨by rw [e1, ← e2], by rw [e3, ← e4]⟩
def txs (h : List Card) : List ByteArray := h.map fun c => mk (ct c)
def htx (h : List Card) : ByteArray := joinB (txs h) 32
theorem szs_txs : ∀ h : List Card, szs (txs h) = 4 * h.length
  | [] => rfl
  | c :: h => by
    have := szs_txs h
    unfold txs at this ⊢
    rw [List.map_cons, szs_cons, this, mk_size, List.length_cons]
    show 4 + _ = _
    omega
theorem txs_len (h : List Card) : (txs h).length = h.length := by unfold txs; simp
theorem htx_size (h : List Card) : (htx h).size = 5 * h.length - 1 := by
  unfold htx
  rcases h with _ | ⟨c, h⟩
  · rfl
  · have := joinB_size (mk (ct c)) (txs h) 32
    have e : txs (c :: h) = mk (ct c) :: txs h := rfl
    rw [e, this, ← e, szs_txs, txs_len]
    simp only [List.length_cons]; omega
theorem i_cardsText_eq {n : Nat} (hn : BIG ≤ n) {h : List Card} (hc : AllC h) (hl : h.length ≤ 1000) : i_cardsText n h = some (htx h) := by
  unfold i_cardsText
  have := fx_cnt (B := i_cardsText_L1 n) h.length (fun i => (h, (h.length : Int), (i : Int), txs (h.take i))) (fun _ => True) (fun _ => some (htx h)) (fun self i hi _ hself => by
    unfold i_cardsText_L1
    dsimp only
    by_cases hlt : i < h.length
    · have hg : gl (⟨0, 0, 0, 0⟩ : Card) h i = h[i] := gl_eq hlt
      have htl : (txs (h.take i)).length = i := by rw [txs_len, List.length_take]; omega
      have hs := hself hlt trivial
      rw [take_snoc hlt] at hs
      have e : txs (h.take i ++ [h[i]]) = txs (h.take i) ++ [mk (ct h[i])] := by unfold txs; rw [List.map_append]; rfl
      rw [e] at hs
      rw [decide_eq_true (by omega), br_true, ckb_pos (inb_ok hlt), toNat_cast, hg, (ct_ok hn (hc _ (List.getElem_mem hlt))).1, ob_some, ckb_pos (apok_ok (by omega) (by omega)), w64_succ (by omega), lt_eq]
      exact hs
    · have : i = h.length := by omega
      subst this
      rw [decide_eq_false (by omega), br_false, List.take_length]
      have hz := htx_size h
      have hj : strings_Join n (txs h) (⟨#[32]⟩ : ByteArray) = some (htx h) := by
        unfold strings_Join
        unfold htx joinB at hz ⊢
        rw [mk_size] at hz
        have : (Lib.join ((txs h).map fun x => x.data.toList) (⟨#[32]⟩ : ByteArray).data.toList).length ≤ 140737488355328 := by
          change (Lib.join ((txs h).map bl) [32]).length ≤ _
          omega
        rw [decide_eq_true (by rw [txs_len]; omega : (txs h).length ≤ 140737488355328), decide_eq_true this]; rfl
      rw [hj, ob_some]) n 0 (Nat.zero_le _) trivial (big_gt hn (by omega))
  exact this
theorem s_l2Write_eq {n : Nat} (hn : BIG ≤ n) {h : List Card} (hc : AllC h) (hl : h.length ≤ 1000) : s_l2Write n h = some (htx h) := by
  unfold s_l2Write
  have := fx_cnt (B := s_l2Write_L2 n) h.length (fun i => (h, htx (h.take i), (i : Int))) (fun _ => True) (fun _ => some (htx h)) (fun self i hi _ hself => by
    unfold s_l2Write_L2
    dsimp only
    by_cases hlt : i < h.length
    · have hg : gl (⟨0, 0, 0, 0⟩ : Card) h i = h[i] := gl_eq hlt
      have hz := htx_size (h.take i)
      rw [List.length_take] at hz
      have hs := hself hlt trivial
      rw [take_snoc hlt] at hs
      have fin : ∀ out : ByteArray, out.size ≤ 10000 → out ++ mk (ct h[i]) = htx (h.take i ++ [h[i]]) → s_l2Write_J1 n self (h, out, (i : Int)) = some (htx h) := by
        intro out ho he
        unfold s_l2Write_J1
        dsimp only
        rw [ckb_pos (inb_ok hlt), toNat_cast, hg, (ct_ok hn (hc _ (List.getElem_mem hlt))).2, ob_some, ckb_pos (stok_ok (by rw [mk_size]; show out.size + 4 ≤ _; omega)), lt_eq, he, w64_succ (by omega), lt_eq]
        exact hs
      rw [decide_eq_true (by omega), br_true]
      by_cases h0 : i = 0
      · subst h0
        have e0 : decide ((0 : Int) < ((0 : Nat) : Int)) = false := rfl
        rw [e0, br_false]
        refine fin _ (by omega) (bl_inj ?_)
        unfold htx joinB txs
        simp [Lib.join_nil, Lib.join_one]
      · have e0 : decide ((0 : Int) < (i : Int)) = true := decide_eq_true (by omega)
        have e32 : (⟨#[32]⟩ : ByteArray).size = 1 := rfl
        rw [e0, br_true, ckb_pos (stok_ok (by omega)), lt_eq]
        refine fin _ (by rw [app_size]; omega) ?_
        have hne : h.take i ≠ [] := by
          intro hh
          have hz' : (h.take i).length = i := by rw [List.length_take]; omega
          rw [hh] at hz'
          exact h0 hz'.symm
        obtain ⟨c, t, ht⟩ := List.exists_cons_of_ne_nil hne
        rw [ht]
        unfold htx
        have := joinB_snoc (mk (ct c)) (txs t) (mk (ct h[i])) 32
        have e1 : txs (c :: t ++ [h[i]]) = mk (ct c) :: txs t ++ [mk (ct h[i])] := by unfold txs; simp
        have e2 : txs (c :: t) = mk (ct c) :: txs t := rfl
        rw [e1, e2]
        exact this.symm
    · have : i = h.length := by omega
      subst this
      rw [decide_eq_false (by omega), br_false, List.take_length]) n 0 (Nat.zero_le _) trivial (big_gt hn (by omega))
  exact this
def hText (h : List Card) : ByteArray × Bool := if hand h = true then (htx h, true) else (⟨#[]⟩, false)
theorem i_HandText_eq {n : Nat} (hn : BIG ≤ n) {h : List Card} (hl : h.length ≤ 1048576) : i_HandText n h = some (hText h) := by
  unfold i_HandText hText
  rw [i_IsHand_eq hn (by omega), ob_some]
  cases hh : hand h with
  | false => rw [if_neg (by simp)]; rfl
  | true =>
    obtain ⟨h1, _, h3⟩ := hand_iff.1 hh
    rw [Bool.not_true, br_false, i_cardsText_eq hn h1 (by omega), if_pos rfl]; rfl
theorem s_HandText_eq {n : Nat} (hn : BIG ≤ n) {h : List Card} (hl : h.length ≤ 1048576) : s_HandText n h = some (hText h) := by
  unfold s_HandText hText
  rw [s_l2Hand_eq hn (by omega), ob_some]
  cases hh : hand h with
  | false => rw [if_neg (by simp)]; rfl
  | true =>
    obtain ⟨h1, _, h3⟩ := hand_iff.1 hh
    rw [Bool.not_true, br_false, s_l2Write_eq hn h1 (by omega), if_pos rfl]; rfl
end Go.Pl
