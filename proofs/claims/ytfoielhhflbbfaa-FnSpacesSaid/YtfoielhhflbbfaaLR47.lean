/- Plain laws: R47. -/
import Derived.Test.YtfoielhhflbbfaaLLSpw
import Derived.Test.YtfoielhhflbbfaaLLFlt
import Derived.Test.YtfoielhhflbbfaaLLVc
set_option linter.unusedVariables false
set_option linter.unusedSimpArgs false
namespace Go.Pl
open Go Go.Tv Go.RowKit
set_option linter.unusedVariables false
set_option linter.unusedSimpArgs false
theorem val_third {a b : Card} (ha : isC a = true) (hb : isC b = true) (w : Card) : (val a w + val b w + val (third a b) w) % 3 = 0 := by
  have ka := isC_iff.1 ha
  have kb := isC_iff.1 hb
  have t : ∀ x y : Int, 0 ≤ x ∧ x ≤ 2 → 0 ≤ y ∧ y ≤ 2 → t3 x y = (6 - x - y) % 3 := fun x y hx hy => by
    unfold t3
    rw [Int.tmod_eq_emod_of_nonneg (by omega)]
  unfold val third
  simp only []
  rw [t _ _ ka.1 kb.1, t _ _ ka.2.1 kb.2.1, t _ _ ka.2.2.1 kb.2.2.1, t _ _ ka.2.2.2 kb.2.2.2]
  obtain ⟨q0, h0⟩ := Go.Cap.mulmod w.x0 (6 - a.x0 - b.x0)
  obtain ⟨q1, h1⟩ := Go.Cap.mulmod w.x1 (6 - a.x1 - b.x1)
  obtain ⟨q2, h2⟩ := Go.Cap.mulmod w.x2 (6 - a.x2 - b.x2)
  obtain ⟨q3, h3⟩ := Go.Cap.mulmod w.x3 (6 - a.x3 - b.x3)
  rw [h0, h1, h2, h3]
  simp only [Int.mul_sub]
  omega
def kB (F : List Card) (w : Card) : Bool := F.all fun a => F.all fun b => decide (val a w = val b w)
theorem cv_le {F : List Card} (hc : AllC F) (hnd : F.Nodup) (hcl : ∀ a ∈ F, ∀ b ∈ F, third a b ∈ F) {w x y : Card} (hx : x ∈ F) (hy : y ∈ F) {v v' : Nat} (hv : v < 3) (hv' : v' < 3) (hd : (val y w - val x w + (v : Int)) % 3 = (v' : Int)) : cv w v F ≤ cv w v' F := by
  unfold cv
  rw [List.countP_eq_length_filter, List.countP_eq_length_filter, ← List.length_map (as := F.filter _) (f := fun z => third x (third y z))]
  refine len_sub' ?_ fun z hz => ?_
  · refine List.Pairwise.map (R := fun a b => a ∈ F ∧ b ∈ F ∧ a ≠ b) _ (fun a b ⟨ha, hb, hne⟩ e => hne ?_) ?_
    · have h1 : third y a = third y b := by
        have h2 := th_back (hc x hx) (third_isC (hc y hy) (hc a ha))
        have h3 := th_back (hc x hx) (third_isC (hc y hy) (hc b hb))
        rw [← h2, ← h3, e]
      have h2 := th_back (hc y hy) (hc a ha)
      have h3 := th_back (hc y hy) (hc b hb)
      rw [← h2, ← h3, h1]
    · refine List.Pairwise.imp_of_mem (R := fun a b => a ≠ b) (fun {a b} ha hb hne => ⟨(List.mem_filter.1 ha).1, (List.mem_filter.1 hb).1, hne⟩) (hnd.sublist List.filter_sublist)
  · obtain ⟨u, hu, rfl⟩ := List.mem_map.1 hz
    obtain ⟨hu1, hu2⟩ := List.mem_filter.1 hu
    have hu2 := of_decide_eq_true hu2
    refine List.mem_filter.2 ⟨hcl _ hx _ (hcl _ hy _ hu1), decide_eq_true ?_⟩
    have a1 := val_third (hc y hy) (hc u hu1) w
    have a2 := val_third (hc x hx) (third_isC (hc y hy) (hc u hu1)) w
    have b1 := val_bd (third x (third y u)) w
    omega
theorem cv_eq3 {F : List Card} (hc : AllC F) (hnd : F.Nodup) (hcl : ∀ a ∈ F, ∀ b ∈ F, third a b ∈ F) {w : Card} (hk : kB F w = false) : cv w 0 F = cv w 1 F ∧ cv w 1 F = cv w 2 F := by
  obtain ⟨x, hx, y, hy, hne⟩ : ∃ x ∈ F, ∃ y ∈ F, val x w ≠ val y w := by
    refine Classical.byContradiction fun hno => ?_
    have : kB F w = true := List.all_eq_true.2 fun a ha => List.all_eq_true.2 fun b hb => decide_eq_true (Classical.byContradiction fun h => hno ⟨a, ha, b, hb, h⟩)
    rw [hk] at this; cases this
  have bx := val_bd x w
  have bY := val_bd y w
  have L := fun (v v' : Nat) (hv : v < 3) (hv' : v' < 3) (h : (val y w - val x w + (v : Int)) % 3 = (v' : Int)) => cv_le hc hnd hcl (w := w) hx hy hv hv' h
  rcases (show (val y w - val x w) % 3 = 1 ∨ (val y w - val x w) % 3 = 2 by omega) with h | h
  · have l0 := L 0 1 (by omega) (by omega) (by omega)
    have l1 := L 1 2 (by omega) (by omega) (by omega)
    have l2 := L 2 0 (by omega) (by omega) (by omega)
    omega
  · have l0 := L 0 2 (by omega) (by omega) (by omega)
    have l1 := L 1 0 (by omega) (by omega) (by omega)
    have l2 := L 2 1 (by omega) (by omega) (by omega)
    omega
theorem cv_const {F : List Card} {w : Card} (hk : kB F w = true) : (cv w 0 F = F.length ∧ cv w 1 F = 0 ∧ cv w 2 F = 0) ∨ (cv w 0 F = 0 ∧ cv w 1 F = F.length ∧ cv w 2 F = 0) ∨ (cv w 0 F = 0 ∧ cv w 1 F = 0 ∧ cv w 2 F = F.length) := by
  have hs := cv_sum w F
  cases F with
  | nil => exact .inl ⟨rfl, rfl, rfl⟩
  | cons a F =>
    have hall : ∀ b ∈ a :: F, val b w = val a w := fun b hb => of_decide_eq_true (List.all_eq_true.1 (List.all_eq_true.1 hk b hb) a (List.mem_cons_self ..))
    have full : ∀ v : Nat, val a w = (v : Int) → cv w v (a :: F) = (a :: F).length := fun v h => List.countP_eq_length.2 fun b hb => decide_eq_true (by rw [hall b hb, h])
    rcases val_bd a w with h | h | h
    · have := full 0 h; omega
    · have := full 1 h; omega
    · have := full 2 h; omega
open Go.Cap in
theorem pair13' {S : List Pt} (hnd : S.Nodup) (hp : ∀ a ∈ S, isP a) : S.Pairwise fun a b => (W40.map fun w => b2n (eqw w a b)).sum = 13 := by
  refine List.Pairwise.imp_of_mem (R := fun a b => a ≠ b) (fun {a b} ha hb hne => ?_) hnd
  rw [sum_b2n, ← c2 (df_isP a b) (df_ne (hp a ha) (hp b hb) hne)]
  congr 1; funext w; unfold eqw; congr 1; exact propext (dot_eq_iff w a b)
theorem Wk_W40 : (Wk 81).map toPt = Go.Cap.W40 := by decide +kernel
theorem Wk_40 : (Wk 81).length = 40 := by
  have := congrArg List.length Wk_W40
  rw [List.length_map] at this
  rw [this]; exact Go.Cap.W40_len
def gS (F : List Card) (w : Card) : Nat := Go.Cap.ch2 (cv w 0 F) + Go.Cap.ch2 (cv w 1 F) + Go.Cap.ch2 (cv w 2 F)
theorem sum13 {F : List Card} (hc : AllC F) (hnd : F.Nodup) : ((Wk 81).map (gS F)).sum = 13 * Go.Cap.ch2 F.length := by
  have h1 : ∀ w : Card, gS F w = Go.Cap.pairs (fun a b => Go.Cap.b2n (Go.Cap.eqw (toPt w) a b)) (F.map toPt) := fun w => by
    rw [← Go.Cap.cls2]
    have e : ∀ v : Nat, Go.Cap.cnt (toPt w) (F.map toPt) (v : Int) = cv w v F := fun v => by
      unfold Go.Cap.cnt cv
      rw [List.countP_map]; rfl
    have e0 := e 0
    have e1 := e 1
    have e2 := e 2
    unfold gS
    rw [← e0, ← e1, ← e2]; rfl
  have h2 : (Wk 81).map (gS F) = ((Wk 81).map toPt).map fun w => Go.Cap.pairs (fun a b => Go.Cap.b2n (Go.Cap.eqw w a b)) (F.map toPt) := by
    rw [List.map_map]
    exact List.map_congr_left fun w _ => h1 w
  rw [h2, Wk_W40, Go.Cap.swapP, Go.Cap.pairs_const (pair13' (List.Pairwise.map _ (fun a b hne e => hne (toPt_inj e)) hnd) fun p hp => ?_), List.length_map]
  obtain ⟨c, hc', rfl⟩ := List.mem_map.1 hp
  exact isC_iff.1 (hc c hc')
theorem sum_two {α : Type} (g : α → Nat) (p : α → Bool) (A B : Nat) : ∀ L : List α, (∀ w ∈ L, g w = if p w = true then A else B) → (L.map g).sum = L.countP p * A + (L.length - L.countP p) * B
  | [], _ => by simp
  | w :: L, h => by
    have ih := sum_two g p A B L fun w hw => h w (List.mem_cons_of_mem _ hw)
    have hw := h w (List.mem_cons_self ..)
    have hle : L.countP p ≤ L.length := List.countP_le_length
    rw [List.map_cons, List.sum_cons, ih, hw, List.countP_cons, List.length_cons]
    cases p w with
    | true => simp only [if_true]; rw [Nat.add_mul, show L.length + 1 - (L.countP p + 1) = L.length - L.countP p by omega]; omega
    | false => simp only [Bool.false_eq_true, if_false, Nat.add_zero]; rw [show L.length + 1 - L.countP p = (L.length - L.countP p) + 1 by omega, Nat.add_mul]; omega
def dm (f : Nat) : Int := if f = 0 then -1 else if f < 3 then 0 else if f < 9 then 1 else if f < 27 then 2 else if f < 81 then 3 else 4
def wantN (d : Int) : Nat := if d < 1 then 40 else if d = 1 then 13 else if d = 2 then 4 else if d = 3 then 1 else 0
theorem chk3 : ∀ N : Nat, N < 28 → 1 ≤ N → ∀ a : Nat, a < 41 → a * Go.Cap.ch2 (3 * N) + (40 - a) * (3 * Go.Cap.ch2 N) = 13 * Go.Cap.ch2 (3 * N) → a = wantN (dm (3 * N)) := by decide +kernel
theorem chk1 : ∀ f : Nat, f < 82 → 1 ≤ f → 40 * Go.Cap.ch2 f = 13 * Go.Cap.ch2 f → 40 = wantN (dm f) := by decide +kernel
theorem count_con {F : List Card} (hc : AllC F) (hnd : F.Nodup) (hcl : ∀ a ∈ F, ∀ b ∈ F, third a b ∈ F) (h0 : 0 < F.length) : (Wk 81).countP (kB F) = wantN (dm F.length) := by
  have h81 := nodup_len81 hnd hc
  have hs := sum13 hc hnd
  have hle : (Wk 81).countP (kB F) ≤ (Wk 81).length := List.countP_le_length
  rw [Wk_40] at hle
  by_cases hall : ∀ w ∈ Wk 81, kB F w = true
  · have hg : ∀ w ∈ Wk 81, gS F w = if kB F w = true then Go.Cap.ch2 F.length else 0 := fun w hw => by
      rw [if_pos (hall w hw)]
      unfold gS
      rcases cv_const (hall w hw) with ⟨a, b, c⟩ | ⟨a, b, c⟩ | ⟨a, b, c⟩ <;> rw [a, b, c] <;> simp [Go.Cap.ch2]
    rw [sum_two (gS F) (kB F) _ 0 _ hg] at hs
    have : (Wk 81).countP (kB F) = 40 := by rw [← Wk_40]; exact List.countP_eq_length.2 hall
    rw [this] at hs ⊢
    exact chk1 F.length (by omega) h0 (by omega)
  · obtain ⟨u, hu, hku⟩ : ∃ u ∈ Wk 81, kB F u = false := by
      refine Classical.byContradiction fun hno => hall fun w hw => ?_
      cases hk : kB F w with
      | true => rfl
      | false => exact absurd ⟨w, hw, hk⟩ hno
    obtain ⟨N, hN⟩ : ∃ N, F.length = 3 * N := by
      have a := cv_eq3 hc hnd hcl hku
      have b := cv_sum u F
      exact ⟨cv u 0 F, by omega⟩
    have hg : ∀ w ∈ Wk 81, gS F w = if kB F w = true then Go.Cap.ch2 (3 * N) else 3 * Go.Cap.ch2 N := fun w hw => by
      unfold gS
      cases hk : kB F w with
      | true =>
        rw [if_pos rfl, ← hN]
        rcases cv_const hk with ⟨a, b, c⟩ | ⟨a, b, c⟩ | ⟨a, b, c⟩ <;> rw [a, b, c] <;> simp [Go.Cap.ch2]
      | false =>
        have a := cv_eq3 hc hnd hcl hk
        have b := cv_sum w F
        rw [if_neg (by decide), show cv w 0 F = N by omega, show cv w 1 F = N by omega, show cv w 2 F = N by omega]; omega
    rw [sum_two (gS F) (kB F) _ _ _ hg, Wk_40, hN] at hs
    rw [hN]
    exact chk3 N (by omega) (by omega) _ (by omega) hs
theorem con_span {h F : List Card} (hc : AllC h) (S : SpanR h F) (w : Card) (h0 : 0 < h.length) : conB h w = kB F w := by
  rw [Bool.eq_iff_iff]
  constructor
  · intro hcon
    obtain ⟨v, hv⟩ : ∃ v : Nat, cv w v h = h.length := by
      have := of_decide_eq_true hcon
      rcases this with h | h | h
      · exact ⟨0, h⟩
      · exact ⟨1, h⟩
      · exact ⟨2, h⟩
    have hall : ∀ c ∈ h, val c w = (v : Int) := fun c hcm => of_decide_eq_true (List.countP_eq_length.1 hv c hcm)
    have hsp : ∀ c, InSp h c → isC c = true ∧ val c w = (v : Int) := fun c hi => by
      induction hi with
      | base hm => exact ⟨hc _ hm, hall _ hm⟩
      | @th a b _ _ ia ib =>
        refine ⟨third_isC ia.1 ib.1, ?_⟩
        have := val_third ia.1 ib.1 w
        have b1 := val_bd (third a b) w
        have b2 := val_bd a w
        omega
    exact List.all_eq_true.2 fun a ha => List.all_eq_true.2 fun b hb => decide_eq_true (by rw [(hsp a ((S.mem a).1 ha)).2, (hsp b ((S.mem b).1 hb)).2])
  · intro hk
    have hk2 : kB h w = true := List.all_eq_true.2 fun a ha => List.all_eq_true.2 fun b hb => List.all_eq_true.1 (List.all_eq_true.1 hk a ((S.mem a).2 (.base ha))) b ((S.mem b).2 (.base hb))
    refine decide_eq_true ?_
    rcases cv_const hk2 with ⟨a, _, _⟩ | ⟨_, a, _⟩ | ⟨_, _, a⟩
    · exact .inl a
    · exact .inr (.inl a)
    · exact .inr (.inr a)
theorem conB_nil (w : Card) : conB [] w = true := decide_eq_true (.inl rfl)
theorem all_len {h F : List Card} (hc : AllC h) (S : SpanR h F) : ((Wk 81).filter (conB h)).length = wantN (dm F.length) := by
  by_cases h0 : 0 < h.length
  · have e : conB h = kB F := funext fun w => con_span hc S w h0
    have hF : 0 < F.length := by
      obtain ⟨c, hcm⟩ := List.exists_mem_of_length_pos h0
      exact List.length_pos_of_mem ((S.mem c).2 (.base hcm))
    rw [e, ← List.countP_eq_length_filter]
    exact count_con S.c S.ss.nodup (fun a ha b hb => S.closed ha hb) hF
  · have : h = [] := List.length_eq_zero_iff.1 (by omega)
    subst this
    have hF : F = [] := by
      cases F with
      | nil => rfl
      | cons c F =>
        exfalso
        have : ∀ c, ¬ InSp [] c := fun c hi => by
          induction hi with
          | base h => cases h
          | th _ _ ia _ => exact ia
        exact this c ((S.mem c).1 (List.mem_cons_self ..))
    subst hF
    rw [List.filter_eq_self.2 fun w _ => conB_nil w, Wk_40]; rfl
noncomputable def ckD (m : Nat) : Bool := (List.range 82).all fun f => match fx (i_DimensionOf_L1 (m + 10)) (m + 10) (-1, (f : Int)) with
  | some r => decide (r.1 = dm f) && r.2
  | none => false
theorem ckD_ok (m : Nat) : ckD m = true := by kernel_rfl
theorem dim_ok {n : Nat} (hn : BIG ≤ n) {f : Nat} (hf : f < 82) : fx (i_DimensionOf_L1 n) n (-1, (f : Int)) = some (dm f, true) := by
  obtain ⟨q, rfl⟩ : ∃ q, n = q + 10 := ⟨n - 10, by unfold BIG at hn; omega⟩
  have := ckD_ok q
  unfold ckD at this
  rw [List.all_eq_true] at this
  have := this f (List.mem_range.2 hf)
  cases hi : fx (i_DimensionOf_L1 (q + 10)) (q + 10) (-1, (f : Int)) with
  | none => rw [hi] at this; cases this
  | some a =>
    rw [hi] at this
    simp only [Bool.and_eq_true, decide_eq_true_eq] at this
    rw [← this.1]
    congr 1
    exact Prod.ext rfl this.2
theorem i_DimensionOf_eq {n : Nat} (hn : BIG ≤ n) {h F : List Card} (hh : hand h = true) (S : SpanR h F) : i_DimensionOf n h = some (dm F.length, true) := by
  have h27 := hand_len hh
  obtain ⟨r, e1, _, S'⟩ := span_eq hn (hand_all hh) (by omega)
  have := S.uniq S'
  subst this
  have h81 := nodup_len81 S.ss.nodup S.c
  unfold i_DimensionOf
  rw [i_IsHand_eq hn (by omega), ob_some, hh, Bool.not_true, br_false, e1, ob_some, dim_ok hn (by omega)]
theorem dm_bd (f : Nat) : -1 ≤ dm f ∧ dm f ≤ 4 := by unfold dm; split <;> (try split) <;> (try split) <;> (try split) <;> (try split) <;> omega
theorem sp_L1 {n : Nat} (hn : BIG ≤ n) {d : Int} (hd : -1 ≤ d ∧ d ≤ 4) {L : List Card} (hL : L.length = wantN d) : fx (v_FnSpaces_L1 n) n (d, 40, 0, L) = some true := by
  obtain ⟨q, rfl⟩ : ∃ q, n = q + 6 := ⟨n - 6, by unfold BIG at hn; omega⟩
  have e1 : w64 (0 + 1) = 1 := by decide
  have e2 : w64 (1 + 1) = 2 := by decide
  have e3 : w64 (2 + 1) = 3 := by decide
  have e4 : w64 (3 + 1) = 4 := by decide
  rcases (show d = -1 ∨ d = 0 ∨ d = 1 ∨ d = 2 ∨ d = 3 ∨ d = 4 by omega) with rfl | rfl | rfl | rfl | rfl | rfl <;>
    simp [fx_succ, v_FnSpaces_L1, e1, e2, e3, e4, hL, wantN, br] <;> decide
structure MsI (h : List Card) (L : List Card) (a : Int × Card × Int) : Prop where
  le : ∀ w ∈ L, ∀ v : Nat, v < 3 → (cv w v h : Int) ≤ a.1
  at' : a = mstI ∧ L = [] ∨ ∃ w ∈ L, ∃ v : Nat, v < 3 ∧ a = ((cv w v h : Int), w, (v : Int))
theorem up3_at {P : Int × Card × Int → Prop} {w : Card} {v x : Int} {a : Int × Card × Int} (h0 : P a) (h1 : P (x, w, v)) : P (up3 w v x a) := by unfold up3; split <;> assumption
theorem up3_le {w : Card} {v x : Int} {a : Int × Card × Int} : a.1 ≤ (up3 w v x a).1 ∧ x ≤ (up3 w v x a).1 := by
  unfold up3; split
  · exact ⟨by simp only []; omega, Int.le_refl _⟩
  · exact ⟨Int.le_refl _, by omega⟩
theorem mst_ok {h L : List Card} {a : Int × Card × Int} (I : MsI h L a) (w : Card) : MsI h (L ++ [w]) (mst h a w) := by
  have l1 := up3_le (w := w) (v := 0) (x := (cv w 0 h : Int)) (a := a)
  generalize ha1 : up3 w 0 (cv w 0 h : Int) a = a1 at l1
  have l2 := up3_le (w := w) (v := 1) (x := (cv w 1 h : Int)) (a := a1)
  generalize ha2 : up3 w 1 (cv w 1 h : Int) a1 = a2 at l2
  have l3 := up3_le (w := w) (v := 2) (x := (cv w 2 h : Int)) (a := a2)
  have em : mst h a w = up3 w 2 (cv w 2 h : Int) a2 := by unfold mst; rw [ha1, ha2]
  rw [em]
  refine ⟨fun u hu v hv => ?_, .inr ?_⟩
  · rcases List.mem_append.1 hu with hu | hu
    · have := I.le u hu v hv; omega
    · rw [List.mem_singleton.1 hu]
      rcases (show v = 0 ∨ v = 1 ∨ v = 2 by omega) with rfl | rfl | rfl <;> omega
  · -- what is at the top was taken from a weight
    let P : Int × Card × Int → Prop := fun b => ∃ u ∈ L ++ [w], ∃ v : Nat, v < 3 ∧ b = ((cv u v h : Int), u, (v : Int))
    have hw : w ∈ L ++ [w] := List.mem_append.2 (.inr (List.mem_singleton.2 rfl))
    have P0 : P (up3 w 0 (cv w 0 h : Int) a) := by
      rcases I.at' with ⟨rfl, _⟩ | ⟨u, hu, v, hv, e⟩
      · unfold up3
        rw [if_pos (show mstI.1 < (cv w 0 h : Int) by show (-1 : Int) < _; omega)]
        exact ⟨w, hw, 0, by omega, rfl⟩
      · exact up3_at (P := P) ⟨u, List.mem_append.2 (.inl hu), v, hv, e⟩ ⟨w, hw, 0, by omega, rfl⟩
    rw [ha1] at P0
    have P1 : P (up3 w 1 (cv w 1 h : Int) a1) := up3_at (P := P) P0 ⟨w, hw, 1, by omega, rfl⟩
    rw [ha2] at P1
    exact up3_at (P := P) P1 ⟨w, hw, 2, by omega, rfl⟩
theorem mst_fold {h : List Card} : ∀ (M L : List Card) (a : Int × Card × Int), MsI h L a → MsI h (L ++ M) (M.foldl (mst h) a)
  | [], L, a, I => by rw [List.append_nil]; exact I
  | w :: M, L, a, I => by
    have := mst_fold M (L ++ [w]) _ (mst_ok I w)
    rw [List.append_assoc] at this
    exact this
theorem mstR_ok (h : List Card) : MsI h (Wk 81) (mstR h 81) := by
  have := mst_fold (h := h) (Wk 81) [] mstI ⟨fun w hw => (by cases hw), .inl ⟨rfl, rfl⟩⟩
  rw [List.nil_append] at this
  exact this
theorem weight_go {n : Nat} {mm : Nat} (hm : mm + 100 < 4611686018427300000) (z : Card) : ∀ (k i : Nat) (c : Cu) (w : Card) (m : Nat), CuOK m c → m + 2 * (4 - i) ≤ mm → i ≤ 4 → 4 - i < k → ∃ r c', fx (s_Cur_weight'p_L3 n) k ((i : Int), c, z, w) = some (r, c') ∧ CuOK (mm + 10) c'
  | 0, _, _, _, _, _, _, _, h => by omega
  | k + 1, i, c, w, m, hc, hmm, hi, hk => by
    rw [fx_succ]
    simp only [s_Cur_weight'p_L3]
    by_cases h1 : i < 4
    · rw [br_pos (decide_eq_true (show (i : Int) < 4 by omega)), ckb_pos (inb_ok h1)]
      have J1 : ∀ (c' : Cu) (w' : Card), CuOK (m + 2) c' → ∃ r c2, s_Cur_weight'p_J1 n (fx (s_Cur_weight'p_L3 n) k) ((i : Int), c', z, w') = some (r, c2) ∧ CuOK (mm + 10) c2 := fun c' w' hc' => by
        unfold s_Cur_weight'p_J1
        simp only [lt_eq]
        rw [ckb_pos (inb_ok h1), w64_succ (by omega)]
        cases (!decide (V4.get w' (i : Int).toNat = 0)) with
        | true => exact ⟨_, _, rfl, hc'.mono (by omega)⟩
        | false => exact weight_go hm z k (i + 1) c' w' _ hc' (by omega) (by omega) (by omega)
      have J2 : ∀ (b : Bool) (c' : Cu), CuOK (m + 2) c' → ∃ r c2, s_Cur_weight'p_J2 n (fx (s_Cur_weight'p_L3 n) k) ((i : Int), b, c', z, w) = some (r, c2) ∧ CuOK (mm + 10) c2 := fun b c' hc' => by
        unfold s_Cur_weight'p_J2
        simp only [lt_eq]
        cases b with
        | true => rw [br_true, ckb_pos (inb_ok h1)]; exact J1 c' _ hc'
        | false => exact J1 c' _ hc'
      rw [br_dec]
      split
      · obtain ⟨b, c1, e1, k1⟩ := one_ok n hc (by omega) (a := 6) (by omega)
        rw [e1, ob_some]
        exact J2 _ _ k1
      · exact J2 _ _ (hc.mono (by omega))
    · rw [br_neg (decide_eq_false (by omega))]
      exact ⟨_, _, rfl, hc.mono (by omega)⟩
theorem weight_ok {n : Nat} (hn : BIG ≤ n) {m : Nat} {c : Cu} (hc : CuOK m c) (hm : m + 200 < 4611686018427300000) : ∃ r c', s_Cur_weight'p n c = some (r, c') ∧ CuOK (m + 30) c' := by
  unfold s_Cur_weight'p
  obtain ⟨q, c1, e1, k1, q0, q1⟩ := pick_ok n hc (by omega) (a := 81) (by omega)
  rw [e1, ob_some, s_l2At_eq n (by omega), ob_some]
  obtain ⟨r, c', e, h⟩ := weight_go (n := n) (mm := m + 10) (by omega) ⟨0, 0, 0, 0⟩ n 0 c1 (cardAt q) _ k1 (by omega) (by omega) (big_gt hn (by omega))
  exact ⟨r, c', e, h.mono (by omega)⟩
theorem DrawSplitBy_ok {n : Nat} (hn : BIG ≤ n) {a : List Int} (ha : ByB a) : ∃ w h, s_DrawSplitBy n a = some (w, h) ∧ h.length ≤ 29 := by
  unfold s_DrawSplitBy
  obtain ⟨w, c1, e1, k1⟩ := weight_ok hn (cu0 ha) (by omega)
  rw [lt_eq, e1, ob_some]
  obtain ⟨c2, h, e2, hl, _⟩ := someHand_ok hn k1 (by omega)
  rw [e2, ob_some]
  exact ⟨w, h, rfl, hl⟩
theorem DrawValueBy_ok {n : Nat} (hn : BIG ≤ n) {a : List Int} (ha : ByB a) : ∃ c w, s_DrawValueBy n a = some (c, w) := by
  unfold s_DrawValueBy
  obtain ⟨w, c1, e1, k1⟩ := weight_ok hn (cu0 ha) (by omega)
  rw [lt_eq, e1, ob_some]
  obtain ⟨c, c2, e2, _⟩ := card_ok n k1 (by omega)
  rw [e2, ob_some]
  exact ⟨_, _, rfl⟩
theorem DrawIsWeight_ok {n : Nat} (hn : BIG ≤ n) {a : List Int} (ha : ByB a) : ∃ w, s_DrawIsWeight n a = some w := by
  unfold s_DrawIsWeight
  obtain ⟨b, c1, e1, k1⟩ := one_ok n (cu0 ha) (by omega) (a := 12) (by omega)
  rw [lt_eq, e1, ob_some]
  cases b with
  | true =>
    obtain ⟨c, c2, e2, _⟩ := card_ok n k1 (by omega)
    rw [br_true, e2, ob_some]
    exact ⟨_, rfl⟩
  | false =>
    obtain ⟨c, c2, e2, _⟩ := weight_ok hn k1 (by omega)
    rw [br_false, e2, ob_some]
    exact ⟨_, rfl⟩
theorem sp_J2 {n : Nat} (hn : BIG ≤ n) {h : List Card} (hl : h.length ≤ 29) : v_FnSpaces_J2 n ((MS h).1, (MS h).2.2.1, (MS h).2.2.2, h, (MS h).2.1, (SW h).2) = some true := by
  cases hh : hand h with
  | false =>
    have e1 : MS h = (0, ⟨0, 0, 0, 0⟩, 0, false) := by unfold MS; rw [hh]; exact if_neg (by decide)
    rw [e1]; rfl
  | true =>
    have h27 := hand_len hh
    obtain ⟨F, _, _, S⟩ := span_eq hn (hand_all hh) (by omega)
    have hd := i_DimensionOf_eq hn hh S
    have hal := all_len (hand_all hh) S
    have I := mstR_ok h
    have hw0 : ∃ u, u ∈ Wk 81 := List.exists_mem_of_length_pos (by rw [Wk_40]; omega)
    have e1 : MS h = ((mstR h 81).1, (mstR h 81).2.1, (mstR h 81).2.2, true) := by unfold MS; exact if_pos hh
    have e2 : (SW h).2 = (Wk 81).filter (conB h) := by unfold SW; rw [if_pos hh]
    rw [e1, e2]
    unfold v_FnSpaces_J2
    simp only []
    generalize mstR h 81 = R at I ⊢
    rcases I.at' with ⟨_, e⟩ | ⟨w, hw, v, hv, e⟩
    · obtain ⟨u, hu⟩ := hw0
      rw [e] at hu; cases hu
    subst e
    have hle := I.le
    rw [i_SplitBy_eq hn (by omega), hd]
    unfold SB
    rw [hh, Wk_wB hw]
    simp only [Bool.and_self, if_true, ob_some, Bool.not_true, br_false]
    have hin : inb (v : Int) 3 = true := inb_ok hv
    have hg : V3.get (spV h w) (v : Int).toNat = (cv w v h : Int) := by
      rcases (show v = 0 ∨ v = 1 ∨ v = 2 by omega) with rfl | rfl | rfl <;> rfl
    rw [ckb_pos hin, hg, decide_eq_true rfl]
    simp only [Bool.not_true, br_false, ob_some]
    have hiff : decide (0 < (((Wk 81).filter (conB h)).length : Int)) = decide ((cv w v h : Int) = (h.length : Int)) := by
      congr 1; apply propext
      have hcl := cv_len w v h
      constructor
      · intro h0
        obtain ⟨u, hu⟩ := List.exists_mem_of_length_pos (show 0 < ((Wk 81).filter (conB h)).length by omega)
        obtain ⟨hu1, hu2⟩ := List.mem_filter.1 hu
        have hu2 := of_decide_eq_true hu2
        have a0 := hle u hu1 0 (by omega)
        have a1 := hle u hu1 1 (by omega)
        have a2 := hle u hu1 2 (by omega)
        simp only [] at a0 a1 a2
        omega
      · intro h0
        have : w ∈ (Wk 81).filter (conB h) := List.mem_filter.2 ⟨hw, decide_eq_true (by
          rcases (show v = 0 ∨ v = 1 ∨ v = 2 by omega) with rfl | rfl | rfl <;> omega)⟩
        have := List.length_pos_of_mem this
        omega
    rw [hiff]
    simp only [beq_self_eq_true, Bool.not_true, br_false]
    exact sp_L1 hn (dm_bd _) hal
theorem law_FnSpaces {n : Nat} (hn : BIG ≤ n) (a : List Int) (ok : (Ty.sl (.int .u8)).ok a) : v_FnSpaces n a = some true := by
  have hb : ByB a := ok_bytes' ok
  unfold v_FnSpaces v_rBig
  rw [ob_some, br_dec]
  split
  · rfl
  obtain ⟨w, h, e1, hl⟩ := DrawSplitBy_ok hn hb
  obtain ⟨c, u, e2⟩ := DrawValueBy_ok hn hb
  obtain ⟨y, e3⟩ := DrawIsWeight_ok hn hb
  have J2 := sp_J2 hn hl
  have hw81 := Wk_len 81
  have hsw : (SW h).2.length ≤ 100 := by
    unfold SW
    split
    · have := List.length_filter_le (conB h) (Wk 81); simp only []; omega
    · simp
  have c1 : (ob (br (SB h w).2 (Tv.lt (w64 ((SB h w).1.x0 + (SB h w).1.x1)) fun x7 => Tv.lt (w64 (x7 + (SB h w).1.x2)) fun x8 => some (!decide (x8 = (h.length : Int)))) (some false)) fun x9 => some x9) = some false := by
    unfold SB
    cases (hand h && wB w) with
    | false => rfl
    | true =>
      have hs := cv_sum w h
      simp only [if_true, br_true, lt_eq, spV]
      rw [w64_id (x := (cv w 0 h : Int) + (cv w 1 h : Int)) (by omega), w64_id (by omega), decide_eq_true (show (cv w 0 h : Int) + (cv w 1 h : Int) + (cv w 2 h : Int) = (h.length : Int) by omega)]; rfl
  have m1 : (MS h).2.2.2 = hand h := by unfold MS; cases hand h <;> rfl
  have m2 : (SW h).1 = hand h := by unfold SW; cases hand h <;> rfl
  have m3 : (SB h w).2 = (hand h && wB w) := by unfold SB; cases (hand h && wB w) <;> rfl
  have c2 : (ob (br (SB h w).2 (some (!(MS h).2.2.2)) (some false)) fun x16 => some x16) = some false := by
    rw [m1, m3]
    cases hand h <;> cases wB w <;> rfl
  have c3 : (ob (br (isC c) (ob (some (wB u)) fun r28 => some r28) (some false)) fun x29 => some (!((VB c u).2 == x29))) = some false := by
    unfold VB
    cases isC c <;> cases wB u <;> rfl
  rw [e1, ob_some]
  simp only []
  rw [i_SplitBy_eq hn (by omega), ob_some, s_SplitBy_eq hn (by omega), ob_some]
  simp only [eqd, decide_true, Bool.not_true, beq_self_eq_true, br_false, ob_some]
  rw [c1, ob_some, br_false, i_MostInSpace_eq hn (by omega), ob_some, s_MostInSpace_eq hn (by omega), ob_some]
  simp only [eqd, decide_true, Bool.not_true, beq_self_eq_true, br_false, ob_some]
  rw [c2, ob_some, br_false, i_SpacesWith_eq hn (by omega), ob_some, s_SpacesWith_eq hn (by omega), ob_some]
  have hrh : v_rHand n (SW h).2 (SW h).2 = some true := by
    have := v_vHands_eq hn (a := (SW h).2) (b := (SW h).2) (by omega)
    rw [decide_eq_true rfl] at this
    exact this
  rw [hrh, m2, ← m1]
  simp only [eqd, decide_true, Bool.not_true, beq_self_eq_true, br_false, ob_some]
  rw [e2, ob_some]
  simp only []
  rw [i_ValueBy_eq hn, ob_some, s_ValueBy_eq hn, ob_some, i_IsCard_eq hn, ob_some, i_IsWeight_eq hn, c3]
  simp only [decide_true, Bool.not_true, beq_self_eq_true, br_false, ob_some]
  rw [e3, ob_some, i_IsWeight_eq hn, ob_some]
  unfold s_IsWeight
  rw [s_l6Weight_eq hn]
  simp only [Bool.not_true, beq_self_eq_true, br_false, ob_some]
  cases hx : (hand h && wB w) with
  | false =>
    rw [m3, hx, br_false]
    exact J2
  | true =>
    rw [m3, hx, br_true]
    rw [Bool.and_eq_true] at hx
    have hsb : (SB h w).1 = spV h w := by unfold SB; rw [hx.1, hx.2]; rfl
    rw [hsb]
    have hle : ∀ v : Nat, v < 3 → ¬ (MS h).1 < V3.get (spV h w) v := fun v hv => by
      have hwm : w ∈ Wk 81 := by
        have hwc := wB_isC hx.2
        have hnb := num_bd hwc
        refine List.mem_filter.2 ⟨List.mem_map.2 ⟨(num w).toNat, List.mem_range.2 (by omega), ?_⟩, hx.2⟩
        rw [show (((num w).toNat : Nat) : Int) = num w by omega, cardAt_num hwc]
      have := (mstR_ok h).le w hwm v hv
      have e : (MS h).1 = (mstR h 81).1 := by
        unfold MS
        rw [if_pos hx.1]
      have g : V3.get (spV h w) v = (cv w v h : Int) := by
        rcases (show v = 0 ∨ v = 1 ∨ v = 2 by omega) with rfl | rfl | rfl <;> rfl
      rw [e, g]; omega
    have w0 : w64 (0 + 1) = 1 := by decide
    have w1 : w64 (1 + 1) = 2 := by decide
    have w2 : w64 (2 + 1) = 3 := by decide
    obtain ⟨q, rfl⟩ : ∃ q, n = q + 4 := ⟨n - 4, by unfold BIG at hn; omega⟩
    rw [fx_succ]; simp only [v_FnSpaces_L3, lt_eq]
    rw [br_pos (show decide ((0 : Int) < 3) = true by decide), ckb_pos (show inb (0 : Int) 3 = true by decide), show (0 : Int).toNat = 0 from rfl, br_neg (decide_eq_false (hle 0 (by omega))), w0]
    rw [fx_succ]; simp only [v_FnSpaces_L3, lt_eq]
    rw [br_pos (show decide ((1 : Int) < 3) = true by decide), ckb_pos (show inb (1 : Int) 3 = true by decide), show (1 : Int).toNat = 1 from rfl, br_neg (decide_eq_false (hle 1 (by omega))), w1]
    rw [fx_succ]; simp only [v_FnSpaces_L3, lt_eq]
    rw [br_pos (show decide ((2 : Int) < 3) = true by decide), ckb_pos (show inb (2 : Int) 3 = true by decide), show (2 : Int).toNat = 2 from rfl, br_neg (decide_eq_false (hle 2 (by omega))), w2]
    rw [fx_succ]; simp only [v_FnSpaces_L3, lt_eq]
    rw [br_neg (show decide ((3 : Int) < 3) = false by decide)]
    exact J2
end Go.Pl
