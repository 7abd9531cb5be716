/- Plain laws: LSpw, LSpm, LVc, LDh. -/
import Derived.Test.YtfoielhhflbbfaaG3
import Derived.Test.YtfoielhhflbbfaaG7
import Derived.Test.YtfoielhhflbbfaaG6
import Derived.Test.YtfoielhhflbbfaaPL
import Derived.Test.YtfoielhhflbbfaaG2
set_option linter.unusedVariables false
set_option linter.unusedSimpArgs false
namespace Go.Pl
open Go Go.Tv Go.RowKit
set_option linter.unusedVariables false
set_option linter.unusedSimpArgs false
def wB (w : Card) : Bool := if w.x0 = 0 then (if w.x1 = 0 then (if w.x2 = 0 then decide (w.x3 = 1) && isC w else decide (w.x2 = 1) && isC w) else decide (w.x1 = 1) && isC w) else decide (w.x0 = 1) && isC w
def val (c w : Card) : Int := (w.x0 * c.x0 + w.x1 * c.x1 + w.x2 * c.x2 + w.x3 * c.x3) % 3
theorem val_bd (c w : Card) : val c w = 0 ∨ val c w = 1 ∨ val c w = 2 := by unfold val; omega
def cv (w : Card) (v : Nat) (h : List Card) : Nat := h.countP fun c => decide (val c w = (v : Int))
theorem cv_sum (w : Card) : ∀ h : List Card, cv w 0 h + cv w 1 h + cv w 2 h = h.length
  | [] => rfl
  | c :: h => by
    have ih := cv_sum w h
    unfold cv at ih ⊢
    have e0 : ((0 : Nat) : Int) = 0 := rfl
    have e1 : ((1 : Nat) : Int) = 1 := rfl
    have e2 : ((2 : Nat) : Int) = 2 := rfl
    simp only [List.countP_cons, List.length_cons, e0, e1, e2] at ih ⊢
    rcases val_bd c w with hv | hv | hv <;> rw [hv] <;> simp <;> omega
def Wk (k : Nat) : List Card := ((List.range k).map fun i : Nat => cardAt (i : Int)).filter wB
end Go.Pl
namespace Go.Pl
open Go Go.Tv Go.RowKit
set_option linter.unusedVariables false
set_option linter.unusedSimpArgs false
theorem val_third {a b : Card} (ha : isC a = true) (hb : isC b = true) (w : Card) : (val a w + val b w + val (third a b) w) % 3 = 0 := by
  have ka := isC_iff.1 ha
  have kb := isC_iff.1 hb
  have t : ∀ x y : Int, 0 ≤ x ∧ x ≤ 2 → 0 ≤ y ∧ y ≤ 2 → t3 x y = (6 - x - y) % 3 := fun x y hx hy => by
    unfold t3
    rw [Int.tmod_eq_emod_of_nonneg (by omega)]
  unfold val third
  simp only []
  rw [t _ _ ka.1 kb.1, t _ _ ka.2.1 kb.2.1, t _ _ ka.2.2.1 kb.2.2.1, t _ _ ka.2.2.2 kb.2.2.2]
  obtain ⟨q0, h0⟩ := Go.Cap.mulmod w.x0 (6 - a.x0 - b.x0)
  obtain ⟨q1, h1⟩ := Go.Cap.mulmod w.x1 (6 - a.x1 - b.x1)
  obtain ⟨q2, h2⟩ := Go.Cap.mulmod w.x2 (6 - a.x2 - b.x2)
  obtain ⟨q3, h3⟩ := Go.Cap.mulmod w.x3 (6 - a.x3 - b.x3)
  rw [h0, h1, h2, h3]
  simp only [Int.mul_sub]
  omega
def kB (F : List Card) (w : Card) : Bool := F.all fun a => F.all fun b => decide (val a w = val b w)
theorem cv_le {F : List Card} (hc : AllC F) (hnd : F.Nodup) (hcl : ∀ a ∈ F, ∀ b ∈ F, third a b ∈ F) {w x y : Card} (hx : x ∈ F) (hy : y ∈ F) {v v' : Nat} (hv : v < 3) (hv' : v' < 3) (hd : (val y w - val x w + (v : Int)) % 3 = (v' : Int)) : cv w v F ≤ cv w v' F := by
  unfold cv
  rw [List.countP_eq_length_filter, List.countP_eq_length_filter, ← List.length_map (as := F.filter _) (f := fun z => third x (third y z))]
  refine len_sub' ?_ fun z hz => ?_
  · refine List.Pairwise.map (R := fun a b => a ∈ F ∧ b ∈ F ∧ a ≠ b) _ (fun a b ⟨ha, hb, hne⟩ e => hne ?_) ?_
    · have h1 : third y a = third y b := by
        have h2 := th_back (hc x hx) (third_isC (hc y hy) (hc a ha))
        have h3 := th_back (hc x hx) (third_isC (hc y hy) (hc b hb))
        rw [← h2, ← h3, e]
      have h2 := th_back (hc y hy) (hc a ha)
      have h3 := th_back (hc y hy) (hc b hb)
      rw [← h2, ← h3, h1]
    · refine List.Pairwise.imp_of_mem (R := fun a b => a ≠ b) (fun {a b} ha hb hne => ⟨(List.mem_filter.1 ha).1, (List.mem_filter.1 hb).1, hne⟩) (hnd.sublist List.filter_sublist)
  · obtain ⟨u, hu, rfl⟩ := List.mem_map.1 hz
    obtain ⟨hu1, hu2⟩ := List.mem_filter.1 hu
    have hu2 := of_decide_eq_true hu2
    refine List.mem_filter.2 ⟨hcl _ hx _ (hcl _ hy _ hu1), decide_eq_true ?_⟩
    have a1 := val_third (hc y hy) (hc u hu1) w
    have a2 := val_third (hc x hx) (third_isC (hc y hy) (hc u hu1)) w
    have b1 := val_bd (third x (third y u)) w
    omega
theorem cv_eq3 {F : List Card} (hc : AllC F) (hnd : F.Nodup) (hcl : ∀ a ∈ F, ∀ b ∈ F, third a b ∈ F) {w : Card} (hk : kB F w = false) : cv w 0 F = cv w 1 F ∧ cv w 1 F = cv w 2 F := by
  obtain ⟨x, hx, y, hy, hne⟩ : ∃ x ∈ F, ∃ y ∈ F, val x w ≠ val y w := by
    refine Classical.byContradiction fun hno => ?_
    have : kB F w = true := List.all_eq_true.2 fun a ha => List.all_eq_true.2 fun b hb => decide_eq_true (Classical.byContradiction fun h => hno ⟨a, ha, b, hb, h⟩)
    rw [hk] at this; cases this
  have bx := val_bd x w
  have bY := val_bd y w
  have L := fun (v v' : Nat) (hv : v < 3) (hv' : v' < 3) (h : (val y w - val x w + (v : Int)) % 3 = (v' : Int)) => cv_le hc hnd hcl (w := w) hx hy hv hv' h
  rcases (show (val y w - val x w) % 3 = 1 ∨ (val y w - val x w) % 3 = 2 by omega) with h | h
  · have l0 := L 0 1 (by omega) (by omega) (by omega)
    have l1 := L 1 2 (by omega) (by omega) (by omega)
    have l2 := L 2 0 (by omega) (by omega) (by omega)
    omega
  · have l0 := L 0 2 (by omega) (by omega) (by omega)
    have l1 := L 1 0 (by omega) (by omega) (by omega)
    have l2 := L 2 1 (by omega) (by omega) (by omega)
    omega
theorem cv_const {F : List Card} {w : Card} (hk : kB F w = true) : (cv w 0 F = F.length ∧ cv w 1 F = 0 ∧ cv w 2 F = 0) ∨ (cv w 0 F = 0 ∧ cv w 1 F = F.length ∧ cv w 2 F = 0) ∨ (cv w 0 F = 0 ∧ cv w 1 F = 0 ∧ cv w 2 F = F.length) := by
  have hs := cv_sum w F
  cases F with
  | nil => exact .inl ⟨rfl, rfl, rfl⟩
  | cons a F =>
    have hall : ∀ b ∈ a :: F, val b w = val a w := fun b hb => of_decide_eq_true (List.all_eq_true.1 (List.all_eq_true.1 hk b hb) a (List.mem_cons_self ..))
    have full : ∀ v : Nat, val a w = (v : Int) → cv w v (a :: F) = (a :: F).length := fun v h => List.countP_eq_length.2 fun b hb => decide_eq_true (by rw [hall b hb, h])
    rcases val_bd a w with h | h | h
    · have := full 0 h; omega
    · have := full 1 h; omega
    · have := full 2 h; omega
open Go.Cap in
theorem pair13' {S : List Pt} (hnd : S.Nodup) (hp : ∀ a ∈ S, isP a) : S.Pairwise fun a b => (W40.map fun w => b2n (eqw w a b)).sum = 13 := by
  refine List.Pairwise.imp_of_mem (R := fun a b => a ≠ b) (fun {a b} ha hb hne => ?_) hnd
  rw [sum_b2n, ← c2 (df_isP a b) (df_ne (hp a ha) (hp b hb) hne)]
  congr 1; funext w; unfold eqw; congr 1; exact propext (dot_eq_iff w a b)
theorem Wk_W40 : (Wk 81).map toPt = Go.Cap.W40 := by decide +kernel
theorem Wk_40 : (Wk 81).length = 40 := by
  have := congrArg List.length Wk_W40
  rw [List.length_map] at this
  rw [this]; exact Go.Cap.W40_len
def gS (F : List Card) (w : Card) : Nat := Go.Cap.ch2 (cv w 0 F) + Go.Cap.ch2 (cv w 1 F) + Go.Cap.ch2 (cv w 2 F)
theorem sum13 {F : List Card} (hc : AllC F) (hnd : F.Nodup) : ((Wk 81).map (gS F)).sum = 13 * Go.Cap.ch2 F.length := by
  have h1 : ∀ w : Card, gS F w = Go.Cap.pairs (fun a b => Go.Cap.b2n (Go.Cap.eqw (toPt w) a b)) (F.map toPt) := fun w => by
    rw [← Go.Cap.cls2]
    have e : ∀ v : Nat, Go.Cap.cnt (toPt w) (F.map toPt) (v : Int) = cv w v F := fun v => by
      unfold Go.Cap.cnt cv
      rw [List.countP_map]; rfl
    have e0 := e 0
    have e1 := e 1
    have e2 := e 2
    unfold gS
    rw [← e0, ← e1, ← e2]; rfl
  have h2 : (Wk 81).map (gS F) = ((Wk 81).map toPt).map fun w => Go.Cap.pairs (fun a b => Go.Cap.b2n (Go.Cap.eqw w a b)) (F.map toPt) := by
    rw [List.map_map]
    exact List.map_congr_left fun w _ => h1 w
  rw [h2, Wk_W40, Go.Cap.swapP, Go.Cap.pairs_const (pair13' (List.Pairwise.map _ (fun a b hne e => hne (toPt_inj e)) hnd) fun p hp => ?_), List.length_map]
  obtain ⟨c, hc', rfl⟩ := List.mem_map.1 hp
  exact isC_iff.1 (hc c hc')
theorem sum_two {α : Type} (g : α → Nat) (p : α → Bool) (A B : Nat) : ∀ L : List α, (∀ w ∈ L, g w = if p w = true then A else B) → (L.map g).sum = L.countP p * A + (L.length - L.countP p) * B
  | [], _ => by simp
  | w :: L, h => by
    have ih := sum_two g p A B L fun w hw => h w (List.mem_cons_of_mem _ hw)
    have hw := h w (List.mem_cons_self ..)
    have hle : L.countP p ≤ L.length := List.countP_le_length
    rw [List.map_cons, List.sum_cons, ih, hw, List.countP_cons, List.length_cons]
    cases p w with
    | true => simp only [if_true]; rw [Nat.add_mul, show L.length + 1 - (L.countP p + 1) = L.length - L.countP p by omega]; omega
    | false => simp only [Bool.false_eq_true, if_false, Nat.add_zero]; rw [show L.length + 1 - L.countP p = (L.length - L.countP p) + 1 by omega, Nat.add_mul]; omega
def dm (f : Nat) : Int := if f = 0 then -1 else if f < 3 then 0 else if f < 9 then 1 else if f < 27 then 2 else if f < 81 then 3 else 4
def wantN (d : Int) : Nat := if d < 1 then 40 else if d = 1 then 13 else if d = 2 then 4 else if d = 3 then 1 else 0
def pw (d : Int) : Nat := if d < 0 then 0 else 3 ^ d.toNat
theorem chk3 : ∀ N : Nat, N < 28 → 1 ≤ N → ∀ a : Nat, a < 41 → a * Go.Cap.ch2 (3 * N) + (40 - a) * (3 * Go.Cap.ch2 N) = 13 * Go.Cap.ch2 (3 * N) → a = wantN (dm (3 * N)) ∧ 3 * N = pw (dm (3 * N)) := by decide +kernel
theorem chk1 : ∀ f : Nat, f < 82 → 1 ≤ f → 40 * Go.Cap.ch2 f = 13 * Go.Cap.ch2 f → 40 = wantN (dm f) ∧ f = pw (dm f) := by decide +kernel
theorem count_con {F : List Card} (hc : AllC F) (hnd : F.Nodup) (hcl : ∀ a ∈ F, ∀ b ∈ F, third a b ∈ F) (h0 : 0 < F.length) : (Wk 81).countP (kB F) = wantN (dm F.length) ∧ F.length = pw (dm F.length) := by
  have h81 := nodup_len81 hnd hc
  have hs := sum13 hc hnd
  have hle : (Wk 81).countP (kB F) ≤ (Wk 81).length := List.countP_le_length
  rw [Wk_40] at hle
  by_cases hall : ∀ w ∈ Wk 81, kB F w = true
  · have hg : ∀ w ∈ Wk 81, gS F w = if kB F w = true then Go.Cap.ch2 F.length else 0 := fun w hw => by
      rw [if_pos (hall w hw)]
      unfold gS
      rcases cv_const (hall w hw) with ⟨a, b, c⟩ | ⟨a, b, c⟩ | ⟨a, b, c⟩ <;> rw [a, b, c] <;> simp [Go.Cap.ch2]
    rw [sum_two (gS F) (kB F) _ 0 _ hg] at hs
    have : (Wk 81).countP (kB F) = 40 := by rw [← Wk_40]; exact List.countP_eq_length.2 hall
    rw [this] at hs ⊢
    exact chk1 F.length (by omega) h0 (by omega)
  · obtain ⟨u, hu, hku⟩ : ∃ u ∈ Wk 81, kB F u = false := by
      refine Classical.byContradiction fun hno => hall fun w hw => ?_
      cases hk : kB F w with
      | true => rfl
      | false => exact absurd ⟨w, hw, hk⟩ hno
    obtain ⟨N, hN⟩ : ∃ N, F.length = 3 * N := by
      have a := cv_eq3 hc hnd hcl hku
      have b := cv_sum u F
      exact ⟨cv u 0 F, by omega⟩
    have hg : ∀ w ∈ Wk 81, gS F w = if kB F w = true then Go.Cap.ch2 (3 * N) else 3 * Go.Cap.ch2 N := fun w hw => by
      unfold gS
      cases hk : kB F w with
      | true =>
        rw [if_pos rfl, ← hN]
        rcases cv_const hk with ⟨a, b, c⟩ | ⟨a, b, c⟩ | ⟨a, b, c⟩ <;> rw [a, b, c] <;> simp [Go.Cap.ch2]
      | false =>
        have a := cv_eq3 hc hnd hcl hk
        have b := cv_sum w F
        rw [if_neg (by decide), show cv w 0 F = N by omega, show cv w 1 F = N by omega, show cv w 2 F = N by omega]; omega
    rw [sum_two (gS F) (kB F) _ _ _ hg, Wk_40, hN] at hs
    rw [hN]
    exact chk3 N (by omega) (by omega) _ (by omega) hs
theorem span_pw {h F : List Card} (S : SpanR h F) : F.length = pw (dm F.length) := by
  by_cases h0 : 0 < F.length
  · exact (count_con S.c S.ss.nodup (fun a ha b hb => S.closed ha hb) h0).2
  · rw [show F.length = 0 by omega]; rfl
noncomputable def ckD (m : Nat) : Bool := (List.range 82).all fun f => match fx (i_DimensionOf_L1 (m + 10)) (m + 10) (-1, (f : Int)) with
  | some r => decide (r.1 = dm f) && r.2
  | none => false
theorem ckD_ok (m : Nat) : ckD m = true := by kernel_rfl
theorem dim_ok {n : Nat} (hn : BIG ≤ n) {f : Nat} (hf : f < 82) : fx (i_DimensionOf_L1 n) n (-1, (f : Int)) = some (dm f, true) := by
  obtain ⟨q, rfl⟩ : ∃ q, n = q + 10 := ⟨n - 10, by unfold BIG at hn; omega⟩
  have := ckD_ok q
  unfold ckD at this
  rw [List.all_eq_true] at this
  have := this f (List.mem_range.2 hf)
  cases hi : fx (i_DimensionOf_L1 (q + 10)) (q + 10) (-1, (f : Int)) with
  | none => rw [hi] at this; cases this
  | some a =>
    rw [hi] at this
    simp only [Bool.and_eq_true, decide_eq_true_eq] at this
    rw [← this.1]
    congr 1
    exact Prod.ext rfl this.2
theorem i_DimensionOf_eq {n : Nat} (hn : BIG ≤ n) {h F : List Card} (hh : hand h = true) (S : SpanR h F) : i_DimensionOf n h = some (dm F.length, true) := by
  have h27 := hand_len hh
  obtain ⟨r, e1, _, S'⟩ := span_eq hn (hand_all hh) (by omega)
  have := S.uniq S'
  subst this
  have h81 := nodup_len81 S.ss.nodup S.c
  unfold i_DimensionOf
  rw [i_IsHand_eq hn (by omega), ob_some, hh, Bool.not_true, br_false, e1, ob_some, dim_ok hn (by omega)]
theorem dm_bd (f : Nat) : -1 ≤ dm f ∧ dm f ≤ 4 := by unfold dm; split <;> (try split) <;> (try split) <;> (try split) <;> (try split) <;> omega
end Go.Pl
namespace Go.Pl
open Go Go.Tv Go.RowKit
set_option linter.unusedVariables false
set_option linter.unusedSimpArgs false
theorem ok_bytes' {a : List Int} (h : (Ty.sl (.int .u8)).ok a) : ∀ x, x ∈ a → 0 ≤ x ∧ x ≤ 255 := fun x hx => bounds_u8 (h.2 x hx)
def ByB (a : List Int) : Prop := ∀ x, x ∈ a → 0 ≤ x ∧ x ≤ 255
end Go.Pl
namespace Go.Pl
open Go Go.Tv Go.RowKit
set_option linter.unusedVariables false
theorem isC_set {c : Card} (h : isC c = true) (k : Nat) {x : Int} (hx : 0 ≤ x ∧ x ≤ 2) : isC (V4.set c k x) = true := by
  rw [isC_iff] at h ⊢
  match k with
  | 0 => exact ⟨hx, h.2⟩
  | 1 => exact ⟨h.1, hx, h.2.2⟩
  | 2 => exact ⟨h.1, h.2.1, hx, h.2.2.2⟩
  | k + 3 => exact ⟨h.1, h.2.1, h.2.2.1, hx⟩
theorem mem_small {l : List Int} {r : Int} (h : r ∈ l) (lo hi : Int) (hl : ∀ x ∈ l, lo ≤ x ∧ x ≤ hi) : lo ≤ r ∧ r ≤ hi := hl r h
def HandR (n m : Nat) (o : Opt (Cu × List Card)) : Prop := ∃ c' h, o = some (c', h) ∧ h.length ≤ 29 ∧ CuOK m c'
theorem hand_J2 (n : Nat) {m : Nat} {c : Cu} (hc : CuOK m c) (hm : m < 4611686018427300000) {h : List Card} (hl : h.length ≤ 28) (b : Bool) (hb : b = true → 0 < h.length) : HandR n (m + 20) (s_Cur_hand'p_J2 n (b, c, h)) := by
  unfold s_Cur_hand'p_J2
  cases b with
  | false => exact ⟨c, h, rfl, by omega, hc.mono (by omega)⟩
  | true =>
    have h0 := hb rfl
    simp only [br_true]
    obtain ⟨i, c1, e1, k1, i0, i1⟩ := pick_ok n hc (by omega) (a := (h.length : Int)) (by omega)
    rw [e1, ob_some]
    obtain ⟨q, c2, e2, k2, q0, q1⟩ := pick_ok n k1 (by omega) (a := 3) (by omega)
    rw [e2, ob_some, br_dec]
    split
    · obtain ⟨t, c3, e3, k3, t0, t1⟩ := pick_ok n k2 (by omega) (a := 4) (by omega)
      rw [e3, ob_some]
      obtain ⟨y, c4, e4, k4, _⟩ := among_ok n k3 (by omega) (l := [(-1), 3]) (by decide)
      rw [e4, ob_some, ckb_pos (inb_pos i0 i1), ckb_pos (inb_pos t0 t1), lt_eq]
      exact ⟨_, _, rfl, by rw [List.length_set]; omega, k4.mono (by omega)⟩
    · rw [br_dec]
      split
      · rw [ckb_pos (inb_pos i0 i1), ckb_pos (apok_ok (by omega) (by omega))]
        exact ⟨_, _, rfl, by simp; omega, k2.mono (by omega)⟩
      · obtain ⟨t, c3, e3, k3, t0, t1⟩ := pick_ok n k2 (by omega) (a := 81) (by omega)
        rw [e3, ob_some, s_l2At_eq n (by omega), ob_some, ckb_pos (inb_pos i0 i1), lt_eq]
        exact ⟨_, _, rfl, by rw [List.length_set]; omega, k3.mono (by omega)⟩
theorem hand_ok {n : Nat} (hn : BIG ≤ n) {m : Nat} {c : Cu} (hc : CuOK m c) (hm : m + 200 < 4611686018427300000) : HandR n (m + 200) (s_Cur_hand'p n c) := by
  unfold s_Cur_hand'p
  obtain ⟨t, c1, e1, k1, ht⟩ := among_ok n hc (by omega) (l := [4, 3, 4, 2]) (by decide)
  rw [e1, ob_some]
  obtain ⟨q, c2, e2, k2, hq⟩ := among_ok n k1 (by omega) (l := [6, 9, 4, 12, 3, 2, 1, 0, 20, 26, 27, 28]) (by decide)
  rw [e2, ob_some]
  have ht' := mem_small ht 2 4 (by decide)
  have hq' := mem_small hq 0 28 (by decide)
  refine fx_inv (B := s_Cur_hand'p_L3 n) (fun s => ∃ (q : Int) (c : Cu) (h : List Card), s = (t, q, c, h) ∧ 0 ≤ q ∧ q ≤ 28 ∧ (h.length : Int) ≤ 28 - q ∧ AllC h ∧ CuOK (m + 4 + 2 * (28 - q.toNat)) c)
    (fun s => s.2.1.toNat) (HandR n (m + 200)) ?_ n _ ⟨q, c2, [], rfl, hq'.1, hq'.2, by simp; omega, fun c hc => (by cases hc), k2.mono (by omega)⟩ (big_gt hn (by simp only []; omega))
  clear e1 e2 k1 k2 hq hq' c1 c2 q
  rintro self _ ⟨q, c, h, rfl, q0, q28, hl, ha, hc⟩ ih
  simp only [s_Cur_hand'p_L3]
  by_cases h0 : 0 < q
  · rw [br_pos (decide_eq_true h0)]
    obtain ⟨r, c3, e3, k3, r0, r1⟩ := pick_ok n hc (by omega) (a := 81) (by omega)
    rw [e3, ob_some, s_l2At_eq n (by omega), ob_some]
    refine fx_inv (B := s_Cur_hand'p_L1 n self) (fun s => ∃ (i : Int) (x : Card), s = (t, q, i, c3, h, x) ∧ 0 ≤ i ∧ i ≤ 4 ∧ isC x = true) (fun s => (4 - s.2.2.1).toNat) (HandR n (m + 200)) ?_ n _ ⟨t, cardAt r, rfl, by omega, by omega, cardAt_isC (by omega)⟩ (big_gt hn (by simp only []; omega))
    rintro self2 _ ⟨i, x, rfl, i0, i4, hx⟩ ih2
    simp only [s_Cur_hand'p_L1]
    by_cases hi : i < 4
    · rw [br_pos (decide_eq_true hi), ckb_pos (inb_pos i0 (by omega)), lt_eq, lt_eq, w64_id (by omega)]
      exact ih2 _ ⟨i + 1, _, rfl, by omega, by omega, isC_set hx _ (by omega)⟩ (by simp only []; omega)
    · rw [br_neg (decide_eq_false hi), s_l2Put_eq hn ha (by omega) hx, ob_some, lt_eq, w64_id (by omega)]
      have := ins_len (c := x) (l := h)
      exact ih _ ⟨q - 1, c3, _, rfl, by omega, by omega, by omega, ins_allC hx ha, k3.mono (by omega)⟩ (by simp only []; omega)
  · rw [br_neg (decide_eq_false h0), br_dec]
    split
    · obtain ⟨b, c4, e4, k4⟩ := one_ok n hc (by omega) (a := 24) (by omega)
      rw [e4, ob_some]
      obtain ⟨c', h', e, h1, h2⟩ := hand_J2 n k4 (by omega) (h := h) (by omega) b (fun _ => by omega)
      exact ⟨c', h', e, h1, h2.mono (by omega)⟩
    · obtain ⟨c', h', e, h1, h2⟩ := hand_J2 n hc (by omega) (h := h) (by omega) false (fun h => by cases h)
      exact ⟨c', h', e, h1, h2.mono (by omega)⟩
end Go.Pl
