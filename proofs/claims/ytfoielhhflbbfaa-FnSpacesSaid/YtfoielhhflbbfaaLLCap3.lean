/- Plain laws: LCap3. -/
import Derived.Test.YtfoielhhflbbfaaLLCap2
set_option linter.unusedVariables false
set_option linter.unusedSimpArgs false
namespace Go.Cap
def comb (α β : Int) (v w : Pt) : Pt := ⟨(α * v.x0 + β * w.x0) % 3, (α * v.x1 + β * w.x1) % 3, (α * v.x2 + β * w.x2) % 3, (α * v.x3 + β * w.x3) % 3⟩
def combs (v w : Pt) : List Pt := [v, w, comb 1 1 v w, comb 1 2 v w, comb 2 1 v w, comb 2 2 v w]
def spL (v w : Pt) : List Pt := (combs v w).filter first1
def chkS : Bool := W40.all fun v => W40.all fun w => decide (v = w) || (decide (spL v w).Nodup && Nat.beq (spL v w).length 4)
theorem chkS_ok : chkS = true := by kernel_rfl
theorem dot_comb (α β : Int) (v w a : Pt) : dot (comb α β v w) a = (α * dot v a + β * dot w a) % 3 := by
  have key : ∀ x y c : Int, ∃ q : Int, ((α * x + β * y) % 3) * c = α * (x * c) + β * (y * c) - 3 * q := fun x y c => by
    obtain ⟨q, h⟩ := mulmod c (α * x + β * y)
    refine ⟨q, ?_⟩
    rw [Int.mul_comm, h, Int.mul_add, ← Int.mul_assoc, ← Int.mul_assoc, ← Int.mul_assoc, ← Int.mul_assoc, Int.mul_comm c α, Int.mul_comm c β, Int.mul_assoc, Int.mul_assoc, Int.mul_comm c x, Int.mul_comm c y, Int.mul_assoc, Int.mul_assoc]
  have kd : ∀ (γ : Int) (u : Pt), ∃ q : Int, γ * dot u a = γ * (u.x0 * a.x0) + γ * (u.x1 * a.x1) + γ * (u.x2 * a.x2) + γ * (u.x3 * a.x3) - 3 * q := fun γ u => by
    obtain ⟨q, h⟩ := mulmod γ (u.x0 * a.x0 + u.x1 * a.x1 + u.x2 * a.x2 + u.x3 * a.x3)
    refine ⟨q, ?_⟩
    unfold dot
    rw [h, Int.mul_add, Int.mul_add, Int.mul_add]
  obtain ⟨p, hp⟩ := kd α v
  obtain ⟨p', hp'⟩ := kd β w
  rw [hp, hp']
  unfold dot comb
  simp only []
  obtain ⟨q0, h0⟩ := key v.x0 w.x0 a.x0
  obtain ⟨q1, h1⟩ := key v.x1 w.x1 a.x1
  obtain ⟨q2, h2⟩ := key v.x2 w.x2 a.x2
  obtain ⟨q3, h3⟩ := key v.x3 w.x3 a.x3
  rw [h0, h1, h2, h3]
  omega
theorem comb_isP (α β : Int) (v w : Pt) : isP (comb α β v w) := by unfold isP comb; simp only []; omega
theorem W40_mem {u : Pt} (h : isP u) (hf : first1 u = true) : u ∈ W40 := List.mem_filter.2 ⟨mem_all81 h, hf⟩
theorem all81_isP {u : Pt} (h : u ∈ all81) : isP u := by
  obtain ⟨k, hk, rfl⟩ := List.mem_map.1 h
  rw [List.mem_range] at hk
  unfold isP ptN
  simp only []
  omega
theorem W40_isP {u : Pt} (h : u ∈ W40) : isP u := all81_isP (List.mem_filter.1 h).1
theorem spL_sub {v w : Pt} (hv : v ∈ W40) (hw : w ∈ W40) : ∀ u ∈ spL v w, u ∈ W40 := by
  intro u hu
  obtain ⟨h1, h2⟩ := List.mem_filter.1 hu
  refine W40_mem ?_ h2
  simp only [combs, List.mem_cons, List.not_mem_nil, or_false] at h1
  rcases h1 with rfl | rfl | rfl | rfl | rfl | rfl
  · exact W40_isP hv
  · exact W40_isP hw
  all_goals exact comb_isP _ _ _ _
theorem spL_ok {v w : Pt} (hv : v ∈ W40) (hw : w ∈ W40) (hne : v ≠ w) : (spL v w).Nodup ∧ (spL v w).length = 4 := by
  have h := List.all_eq_true.1 (List.all_eq_true.1 chkS_ok v hv) w hw
  simp only [decide_eq_false hne, Bool.false_or, Bool.and_eq_true] at h
  exact ⟨of_decide_eq_true h.1, Nat.eq_of_beq_eq_true h.2⟩
theorem spL_eqw {v w a b u : Pt} (h1 : eqw v a b = true) (h2 : eqw w a b = true) (hu : u ∈ spL v w) : eqw u a b = true := by
  have h := (List.mem_filter.1 hu).1
  have e1 := of_decide_eq_true h1
  have e2 := of_decide_eq_true h2
  simp only [combs, List.mem_cons, List.not_mem_nil, or_false] at h
  rcases h with rfl | rfl | rfl | rfl | rfl | rfl
  · exact h1
  · exact h2
  all_goals exact decide_eq_true (by rw [dot_comb, dot_comb, e1, e2])
theorem len_sub {α : Type} [DecidableEq α] : ∀ {M L : List α}, M.Nodup → (∀ x ∈ M, x ∈ L) → M.length ≤ L.length
  | [], _, _, _ => Nat.zero_le _
  | a :: M, L, h, hs => by
    obtain ⟨h1, h2⟩ := List.nodup_cons.1 h
    have ha := hs a List.mem_cons_self
    have := len_sub (M := M) (L := L.erase a) h2 fun x hx => (List.mem_erase_of_ne (fun e => h1 (by rw [← e]; exact hx))).2 (hs x (List.mem_cons_of_mem _ hx))
    rw [List.length_erase_of_mem ha] at this
    have := List.length_pos_of_mem ha
    rw [List.length_cons]; omega
theorem len_countP {M : List Pt} {p : Pt → Bool} (h : M.Nodup) (hs : ∀ x ∈ M, x ∈ W40) (hp : ∀ x ∈ M, p x = true) : M.length ≤ W40.countP p := by
  rw [List.countP_eq_length_filter]
  exact len_sub h fun x hx => List.mem_filter.2 ⟨hs x hx, hp x hx⟩
def Con (u : Pt) (S : List Pt) : Prop := ∀ a ∈ S, ∀ b ∈ S, eqw u a b = true
instance (u : Pt) (S : List Pt) : Decidable (Con u S) := inferInstanceAs (Decidable (∀ a ∈ S, ∀ b ∈ S, eqw u a b = true))
theorem Con.sub {u : Pt} {S T : List Pt} (h : Con u S) (hs : ∀ x ∈ T, x ∈ S) : Con u T := fun a ha b hb => h a (hs a ha) b (hs b hb)
theorem tri_of {S : List Pt} (h : CapL S) (hl : 3 ≤ S.length) : ∃ a b c, a ∈ S ∧ b ∈ S ∧ c ∈ S ∧ (W40.countP fun w => eqw w a b && eqw w a c) = 4 := by
  match S, h, hl with
  | a :: b :: c :: S, h, _ =>
    have ha : a ∈ a :: b :: c :: S := List.mem_cons_self
    have hb : b ∈ a :: b :: c :: S := List.mem_cons_of_mem _ List.mem_cons_self
    have hc : c ∈ a :: b :: c :: S := List.mem_cons_of_mem _ (List.mem_cons_of_mem _ List.mem_cons_self)
    have n1 := List.nodup_cons.1 h.nd
    have n2 := List.nodup_cons.1 n1.2
    have e1 : a ≠ b := fun e => n1.1 (e ▸ List.mem_cons_self)
    have e2 : a ≠ c := fun e => n1.1 (e ▸ List.mem_cons_of_mem _ List.mem_cons_self)
    have e3 : b ≠ c := fun e => n2.1 (e ▸ List.mem_cons_self)
    exact ⟨a, b, c, ha, hb, hc, tri4 (h.pt a ha) (h.pt b hb) (h.pt c hc) e1 e2 e3 fun e => h.no a ha b hb e1 (e ▸ hc)⟩
theorem line2 {S : List Pt} (h : CapL S) {v w u : Pt} (hv : v ∈ W40) (hw : w ∈ W40) (hu : u ∈ W40) (hne : v ≠ w) (hns : u ∉ spL v w) (c1 : Con v S) (c2 : Con w S) (c3 : Con u S) : S.length ≤ 2 := by
  refine Nat.le_of_not_lt fun hl => ?_
  obtain ⟨a, b, c, ha, hb, hc, h4⟩ := tri_of h hl
  obtain ⟨n1, n2⟩ := spL_ok hv hw hne
  have : (u :: spL v w).length ≤ _ := len_countP (p := fun w => eqw w a b && eqw w a c) (List.nodup_cons.2 ⟨hns, n1⟩) (fun x hx => by
    rcases List.mem_cons.1 hx with rfl | hx
    · exact hu
    · exact spL_sub hv hw x hx) (fun x hx => by
    rcases List.mem_cons.1 hx with rfl | hx
    · simp only [c3 a ha b hb, c3 a ha c hc, Bool.and_self]
    · simp only [spL_eqw (c1 a ha b hb) (c2 a ha b hb) hx, spL_eqw (c1 a ha c hc) (c2 a ha c hc) hx, Bool.and_self])
  rw [h4, List.length_cons, n2] at this
  omega
theorem cp_split {α : Type} (p q : α → Bool) : ∀ S : List α, S.countP p = (S.countP fun x => p x && q x) + S.countP fun x => p x && !q x
  | [] => rfl
  | a :: S => by
    have := cp_split p q S
    simp only [List.countP_cons]
    cases p a <;> cases q a <;> simp <;> omega
theorem fib_con (u : Pt) (S : List Pt) (v : Int) : Con u (S.filter fun c => decide (dot u c = v)) := fun a ha b hb => by
  have h1 := of_decide_eq_true (List.mem_filter.1 ha).2
  have h2 := of_decide_eq_true (List.mem_filter.1 hb).2
  exact decide_eq_true (by rw [h1, h2])
theorem cnt_fib (u : Pt) (S : List Pt) (v : Int) : cnt u S v = (S.filter fun c => decide (dot u c = v)).length := List.countP_eq_length_filter
theorem lim5 : ∀ x, x < 3 → ∀ y, y < 3 → ∀ z, z < 3 → x + y + z = 5 → ch2 x + ch2 y + ch2 z ≤ 2 := by decide
theorem plane4 {S : List Pt} (h : CapL S) {v w : Pt} (hv : v ∈ W40) (hw : w ∈ W40) (hne : v ≠ w) (k1 : Con v S) (k2 : Con w S) : S.length ≤ 4 := by
  refine Nat.le_of_not_lt fun hl => ?_
  obtain ⟨T, hT, hs⟩ : ∃ T, T.length = 5 ∧ List.Sublist T S := ⟨S.take 5, by rw [List.length_take]; omega, List.take_sublist _ _⟩
  have h := h.sub hs
  have k1 := k1.sub hs.subset
  have k2 := k2.sub hs.subset
  obtain ⟨n1, n2⟩ := spL_ok hv hw hne
  have hK : (W40.countP fun u => decide (Con u T)) = 4 := by
    refine Nat.le_antisymm ?_ ?_
    · obtain ⟨a, b, c, ha, hb, hc, h4⟩ := tri_of h (by omega)
      rw [← h4]
      exact List.countP_mono_left fun x _ hx => by have hx := of_decide_eq_true hx; simp only [hx a ha b hb, hx a ha c hc, Bool.and_self]
    · rw [← n2]
      exact len_countP n1 (spL_sub hv hw) fun x hx => decide_eq_true fun a ha b hb => spL_eqw (k1 a ha b hb) (k2 a ha b hb) hx
  have hW : (W40.filter fun u => !decide (Con u T)).length = 36 := by
    have := cp_split (fun _ => true) (fun u => decide (Con u T)) W40
    simp only [Bool.true_and, hK] at this
    rw [List.countP_true, W40_len] at this
    rw [← List.countP_eq_length_filter]
    omega
  have e1 : ((W40.filter fun u => !decide (Con u T)).map fun u => pairs (fun a b => b2n (eqw u a b)) T).sum = 90 := by
    rw [swapP (fun u a b => b2n (eqw u a b)), pairs_const (K := 9), hT]; rfl
    refine List.Pairwise.imp_of_mem (R := fun a b => a ≠ b) (fun {a b} ha hb hne => ?_) h.nd
    rw [sum_b2n, List.countP_filter]
    have h13 := c2 (df_isP a b) (df_ne (h.pt a ha) (h.pt b hb) hne)
    have := cp_split (fun u => eqw u a b) (fun u => decide (Con u T)) W40
    have e : (W40.countP fun u => eqw u a b) = 13 := by rw [← h13]; congr 1; funext w; unfold eqw; congr 1; exact propext (dot_eq_iff w a b)
    have e' : (W40.countP fun u => eqw u a b && decide (Con u T)) = 4 := by
      rw [← hK]; congr 1; funext u
      by_cases hu : Con u T
      · simp only [hu a ha b hb, decide_eq_true hu, Bool.and_self]
      · simp only [decide_eq_false hu, Bool.and_false]
    rw [e, e'] at this
    have : (W40.countP fun u => eqw u a b && !decide (Con u T)) = 9 := by omega
    exact this
  have e2 : ((W40.filter fun u => !decide (Con u T)).map fun u => pairs (fun a b => b2n (eqw u a b)) T).sum ≤ ((W40.filter fun u => !decide (Con u T)).map fun _ => 2).sum := by
    refine sum_le fun u hu => ?_
    obtain ⟨hu, hn⟩ := List.mem_filter.1 hu
    have hn : ¬ Con u T := by simpa using hn
    have hns : u ∉ spL v w := fun hx => hn fun a ha b hb => spL_eqw (k1 a ha b hb) (k2 a ha b hb) hx
    have lim : ∀ x, cnt u T x < 3 := fun x => by
      rw [cnt_fib]
      have hsub : List.Sublist (T.filter fun c => decide (dot u c = x)) T := List.filter_sublist
      exact Nat.lt_succ_of_le (line2 (h.sub hsub) hv hw hu hne hns (k1.sub hsub.subset) (k2.sub hsub.subset) (fib_con u T x))
    rw [← cls2]
    exact lim5 _ (lim 0) _ (lim 1) _ (lim 2) (by rw [cnt_sum, hT])
  rw [e1, sum_const (K := 2) fun _ _ => rfl, hW] at e2
  omega
theorem lim10 : ∀ x, x < 5 → ∀ y, y < 5 → ∀ z, z < 5 → x + y + z = 10 → ch2 x + ch2 y + ch2 z ≤ 13 := by decide
theorem W40_nd : W40.Nodup := by
  have : decide W40.Nodup = true := by kernel_rfl
  exact of_decide_eq_true this
theorem space9 {S : List Pt} (h : CapL S) {v : Pt} (hv : v ∈ W40) (k1 : Con v S) : S.length ≤ 9 := by
  refine Nat.le_of_not_lt fun hl => ?_
  obtain ⟨T, hT, hs⟩ : ∃ T, T.length = 10 ∧ List.Sublist T S := ⟨S.take 10, by rw [List.length_take]; omega, List.take_sublist _ _⟩
  have h := h.sub hs
  have k1 := k1.sub hs.subset
  have hK : (W40.countP fun u => decide (u = v)) = 1 := by
    have h1 : W40.count v = 1 := (W40_nd.count (a := v)).trans (if_pos hv)
    rw [← h1, List.count_eq_countP]; congr 1
  have hW : (W40.filter fun u => !decide (u = v)).length = 39 := by
    have := cp_split (fun _ => true) (fun u => decide (u = v)) W40
    simp only [Bool.true_and, hK] at this
    rw [List.countP_true, W40_len] at this
    rw [← List.countP_eq_length_filter]
    omega
  have e1 : ((W40.filter fun u => !decide (u = v)).map fun u => pairs (fun a b => b2n (eqw u a b)) T).sum = 540 := by
    rw [swapP (fun u a b => b2n (eqw u a b)), pairs_const (K := 12), hT]; rfl
    refine List.Pairwise.imp_of_mem (R := fun a b => a ≠ b) (fun {a b} ha hb hne => ?_) h.nd
    rw [sum_b2n, List.countP_filter]
    have h13 := c2 (df_isP a b) (df_ne (h.pt a ha) (h.pt b hb) hne)
    have := cp_split (fun u => eqw u a b) (fun u => decide (u = v)) W40
    have e : (W40.countP fun u => eqw u a b) = 13 := by rw [← h13]; congr 1; funext w; unfold eqw; congr 1; exact propext (dot_eq_iff w a b)
    have e' : (W40.countP fun u => eqw u a b && decide (u = v)) = 1 := by
      rw [← hK]; congr 1; funext u
      by_cases hu : u = v
      · simp only [hu, k1 a ha b hb, decide_true, Bool.and_self]
      · simp only [decide_eq_false hu, Bool.and_false]
    rw [e, e'] at this
    have : (W40.countP fun u => eqw u a b && !decide (u = v)) = 12 := by omega
    exact this
  have e2 : ((W40.filter fun u => !decide (u = v)).map fun u => pairs (fun a b => b2n (eqw u a b)) T).sum ≤ ((W40.filter fun u => !decide (u = v)).map fun _ => 13).sum := by
    refine sum_le fun u hu => ?_
    obtain ⟨hu, hn⟩ := List.mem_filter.1 hu
    have hn : ¬ u = v := by simpa using hn
    have lim : ∀ x, cnt u T x < 5 := fun x => by
      rw [cnt_fib]
      have hsub : List.Sublist (T.filter fun c => decide (dot u c = x)) T := List.filter_sublist
      exact Nat.lt_succ_of_le (plane4 (h.sub hsub) hv hu (fun e => hn e.symm) (k1.sub hsub.subset) (fib_con u T x))
    rw [← cls2]
    exact lim10 _ (lim 0) _ (lim 1) _ (lim 2) (by rw [cnt_sum, hT])
  rw [e1, sum_const (K := 13) fun _ _ => rfl, hW] at e2
  omega
def okT (x y z : Nat) : Bool := decide (16 * (ch2 x + ch2 y + ch2 z) ≤ 3 * (ch3 x + ch3 y + ch3 z) + 693) && (decide (16 * (ch2 x + ch2 y + ch2 z) ≠ 3 * (ch3 x + ch3 y + ch3 z) + 693) || decide ((ch2 x + ch2 y + ch2 z) % 12 = 3))
theorem lim21 : ∀ x, x < 10 → ∀ y, y < 10 → ∀ z, z < 10 → x + y + z = 21 → okT x y z = true := by decide
theorem sum_eq {α : Type} {f g : α → Nat} : ∀ {S : List α}, (∀ a ∈ S, f a ≤ g a) → (S.map g).sum ≤ (S.map f).sum → ∀ a ∈ S, f a = g a
  | [], _, _, a, ha => by cases ha
  | b :: S, h, h2, a, ha => by
    have h3 := sum_le fun b hb => h b (List.mem_cons_of_mem _ hb)
    have h4 := h b List.mem_cons_self
    simp only [List.map_cons, List.sum_cons] at h2
    rcases List.mem_cons.1 ha with rfl | ha
    · omega
    · exact sum_eq (fun b hb => h b (List.mem_cons_of_mem _ hb)) (by omega) a ha
theorem sum_mod {α : Type} {f : α → Nat} : ∀ {S : List α}, (∀ a ∈ S, f a % 12 = 3) → (S.map f).sum % 12 = (3 * S.length) % 12
  | [], _ => rfl
  | a :: S, h => by
    have h1 := sum_mod fun b hb => h b (List.mem_cons_of_mem _ hb)
    have h2 := h a List.mem_cons_self
    simp only [List.map_cons, List.sum_cons, List.length_cons]; omega
theorem sum_mul {α : Type} (k : Nat) (f : α → Nat) : ∀ S : List α, (S.map fun a => k * f a).sum = k * (S.map f).sum
  | [] => rfl
  | a :: S => by simp only [List.map_cons, List.sum_cons, sum_mul k f S, Nat.mul_add]
theorem cap20 {S : List Pt} (h : CapL S) : S.length ≤ 20 := by
  refine Nat.le_of_not_lt fun hl => ?_
  obtain ⟨T, hT, hs⟩ : ∃ T, T.length = 21 ∧ List.Sublist T S := ⟨S.take 21, by rw [List.length_take]; omega, List.take_sublist _ _⟩
  have h := h.sub hs
  have e1 : (W40.map fun u => pairs (fun a b => b2n (eqw u a b)) T).sum = 2730 := by
    rw [swapP (fun u a b => b2n (eqw u a b)), pairs_const (pair13 h), hT]; rfl
  have e2 : (W40.map fun u => trips (fun a b c => b2n (eqw u a b && eqw u a c)) T).sum ≤ 5320 := by
    rw [swapT (fun u a b c => b2n (eqw u a b && eqw u a c))]
    have := trips_le (trip4 h)
    rw [hT] at this
    exact this
  have e3 : ∀ u ∈ W40, okT (cnt u T 0) (cnt u T 1) (cnt u T 2) = true := fun u hu => by
    have lim : ∀ x, cnt u T x < 10 := fun x => by
      rw [cnt_fib]
      have hsub : List.Sublist (T.filter fun c => decide (dot u c = x)) T := List.filter_sublist
      exact Nat.lt_succ_of_le (space9 (h.sub hsub) hu (fib_con u T x))
    exact lim21 _ (lim 0) _ (lim 1) _ (lim 2) (by rw [cnt_sum, hT])
  have e4 : ∀ u ∈ W40, 16 * pairs (fun a b => b2n (eqw u a b)) T ≤ 3 * trips (fun a b c => b2n (eqw u a b && eqw u a c)) T + 693 := fun u hu => by
    have := e3 u hu
    unfold okT at this
    rw [cls2, cls3, Bool.and_eq_true] at this
    exact of_decide_eq_true this.1
  have e5 := sum_eq e4 (by
    rw [sum_add, sum_mul 3, sum_mul 16, e1, sum_const (K := 693) fun _ _ => rfl, W40_len]; omega)
  have e6 : ∀ u ∈ W40, pairs (fun a b => b2n (eqw u a b)) T % 12 = 3 := fun u hu => by
    have := e3 u hu
    unfold okT at this
    rw [cls2, cls3, Bool.and_eq_true, Bool.or_eq_true] at this
    rcases this.2 with h | h
    · exact absurd (e5 u hu) (of_decide_eq_true h)
    · exact of_decide_eq_true h
  have := sum_mod e6
  rw [e1, W40_len] at this
  omega
end Go.Cap
