/- Plain laws: LFl, LVc, LDh, LCp, LCh. -/
import Derived.Test.YtfoielhhflbbfaaG3
import Derived.Test.YtfoielhhflbbfaaG5
import Derived.Test.YtfoielhhflbbfaaPL
import Derived.Test.YtfoielhhflbbfaaG2
import Derived.Test.YtfoielhhflbbfaaG1
set_option linter.unusedVariables false
set_option linter.unusedSimpArgs false
namespace Go.Pl
open Go Go.Tv Go.RowKit
set_option linter.unusedVariables false
theorem handP_iff : ∀ {p : Option Card} {l : List Card}, handP p l = true ↔ AllC l ∧ SS l ∧ (∀ q, p = some q → ∀ c ∈ l, num q < num c)
  | p, [] => by
    constructor
    · intro _; exact ⟨fun c h => (by cases h), List.Pairwise.nil, fun q _ c h => by cases h⟩
    · intro _; rfl
  | p, c :: l => by
    rw [handP_cons, Bool.and_eq_true, Bool.and_eq_true, handP_iff]
    constructor
    · rintro ⟨⟨h1, h2⟩, h3, h4, h5⟩
      refine ⟨fun x hx => ?_, List.pairwise_cons.2 ⟨fun x hx => h5 c rfl x hx, h4⟩, fun q hq x hx => ?_⟩
      · rcases List.mem_cons.1 hx with rfl | hx
        · exact h1
        · exact h3 x hx
      · subst hq
        have h2 : num q < num c := of_decide_eq_true h2
        rcases List.mem_cons.1 hx with rfl | hx
        · exact h2
        · exact Int.lt_trans h2 (h5 c rfl x hx)
    · rintro ⟨h1, h2, h3⟩
      obtain ⟨h4, h5⟩ := List.pairwise_cons.1 h2
      refine ⟨⟨h1 c List.mem_cons_self, ?_⟩, fun x hx => h1 x (List.mem_cons_of_mem _ hx), h5, fun q hq x hx => ?_⟩
      · cases p with
        | none => rfl
        | some q => exact decide_eq_true (h3 q rfl c List.mem_cons_self)
      · cases hq; exact h4 x hx
theorem hand_iff {h : List Card} : hand h = true ↔ AllC h ∧ SS h ∧ h.length ≤ 27 := by
  unfold hand
  rw [Bool.and_eq_true, handP_iff]
  constructor
  · rintro ⟨⟨h1, h2, _⟩, h3⟩; exact ⟨h1, h2, of_decide_eq_true h3⟩
  · rintro ⟨h1, h2, h3⟩; exact ⟨⟨h1, h2, fun q hq => by cases hq⟩, decide_eq_true h3⟩
def CapP (h : List Card) : Prop := ∀ a ∈ h, ∀ b ∈ h, a ≠ b → third a b ∉ h
theorem thr_pos {h : List Card} (H : HandL h) {c : Card} : 0 < thr h c ↔ ∃ a ∈ h, ∃ b ∈ h, a ≠ b ∧ third a b = c := by
  unfold thr prs pr2
  rw [List.length_pos_iff_exists_mem]
  simp only [List.mem_flatMap, List.mem_range'_1]
  constructor
  · rintro ⟨x, i, ⟨_, hi⟩, j, ⟨hj1, hj2⟩, hx⟩
    unfold pr1 at hx
    split at hx
    · rename_i hl
      unfold lineB at hl
      rw [Bool.and_eq_true, Bool.not_eq_true'] at hl
      exact ⟨gz h i, mem_gz.2 ⟨i, by omega, rfl⟩, gz h j, mem_gz.2 ⟨j, by omega, rfl⟩, of_decide_eq_false hl.1, of_decide_eq_true hl.2⟩
    · cases hx
  · rintro ⟨a, ha, b, hb, hne, e⟩
    obtain ⟨p, hp, rfl⟩ := mem_gz.1 ha
    obtain ⟨q, hq, rfl⟩ := mem_gz.1 hb
    have hpq : p ≠ q := fun e => hne (by rw [e])
    have mk : ∀ i j : Nat, i < j → j < h.length → gz h i ≠ gz h j → third (gz h i) (gz h j) = c → (⟨(i : Int), (j : Int)⟩ : V2 Int) ∈ pr1 h c i j := fun i j h1 h2 h3 h4 => by
      unfold pr1
      have : lineB (gl ⟨0, 0, 0, 0⟩ h i) (gl ⟨0, 0, 0, 0⟩ h j) c = true := by
        unfold lineB
        rw [decide_eq_false h3, decide_eq_true h4]; rfl
      rw [if_pos this]; exact List.mem_singleton.2 rfl
    rcases Nat.lt_or_gt_of_ne hpq with h | h
    · exact ⟨_, p, by omega, q, by omega, mk p q h hq hne e⟩
    · exact ⟨_, q, by omega, p, by omega, mk q p h hp (Ne.symm hne) (by rw [th_comm]; exact e)⟩
structure FD (h d : List Card) : Prop where
  ss : SS d
  c : AllC d
  cap : CapP d
  sub : ∀ x ∈ h, x ∈ d
  full : ∀ j, j < 81 → outOK d false j = false
def toPt (c : Card) : Go.Cap.Pt := ⟨c.x0, c.x1, c.x2, c.x3⟩
theorem toPt_inj {a b : Card} (h : toPt a = toPt b) : a = b := by
  cases a; cases b; unfold toPt at h; cases h; rfl
theorem toPt_th {a b : Card} (ha : isC a = true) (hb : isC b = true) : Go.Cap.th (toPt a) (toPt b) = toPt (third a b) := by
  rw [isC_iff] at ha hb
  unfold Go.Cap.th toPt third t3
  simp only []
  rw [Int.tmod_eq_emod_of_nonneg (by omega), Int.tmod_eq_emod_of_nonneg (by omega), Int.tmod_eq_emod_of_nonneg (by omega), Int.tmod_eq_emod_of_nonneg (by omega)]
theorem cap_len {d : List Card} (hc : AllC d) (hnd : d.Nodup) (hcap : CapP d) : d.length ≤ 20 := by
  have := Go.Cap.cap20 (S := d.map toPt) ⟨List.Pairwise.map _ (fun a b hne e => hne (toPt_inj e)) hnd, fun p hp => ?_, fun a ha b hb hne hm => ?_⟩
  · rwa [List.length_map] at this
  · obtain ⟨c, hc', rfl⟩ := List.mem_map.1 hp
    exact isC_iff.1 (hc c hc')
  · obtain ⟨x, hx, rfl⟩ := List.mem_map.1 ha
    obtain ⟨y, hy, rfl⟩ := List.mem_map.1 hb
    rw [toPt_th (hc x hx) (hc y hy)] at hm
    obtain ⟨z, hz, e⟩ := List.mem_map.1 hm
    exact hcap x hx y hy (fun e => hne (by rw [e])) (by rw [← toPt_inj e]; exact hz)
theorem FD.hand {h d : List Card} (D : FD h d) : hand d = true :=
  hand_iff.2 ⟨D.c, D.ss, by have := cap_len D.c D.ss.nodup D.cap; omega⟩
end Go.Pl
namespace Go.Pl
open Go Go.Tv Go.RowKit
set_option linter.unusedVariables false
set_option linter.unusedSimpArgs false
theorem ok_bytes' {a : List Int} (h : (Ty.sl (.int .u8)).ok a) : ∀ x, x ∈ a → 0 ≤ x ∧ x ≤ 255 := fun x hx => bounds_u8 (h.2 x hx)
theorem i_LinesIn_eq {n : Nat} (hn : BIG ≤ n) {h : List Card} (hl : h.length ≤ 1048576) : i_LinesIn n h = some (if hand h then (true, linesOf h) else (false, [])) := by
  unfold i_LinesIn
  rw [i_IsHand_eq hn (by omega), ob_some]
  cases hh : hand h with
  | false => rfl
  | true =>
    have := hand_len hh
    rw [Bool.not_true, br_false, i_linesIn_eq hn (by omega) (hand_all hh) (hand_nodup hh), ob_some]; rfl
def ByB (a : List Int) : Prop := ∀ x, x ∈ a → 0 ≤ x ∧ x ≤ 255
theorem vCut_J1_ok {n : Nat} {a : List Int} (h : ByB a) (hl : a.length ≤ 65536) {k : Nat} (hk : k ≤ a.length) (hk2 : k ≤ 255) : ∃ b, v_vCut_J1 n (a, (k : Int)) = some b ∧ ByB b ∧ b.length ≤ 65537 := by
  unfold v_vCut_J1
  simp only [toNat_cast]
  have hsl : (sub a k a.length).length = a.length - k := by simp [sub]
  rw [ckb_pos (slb_ok (by omega) (by omega) (by omega)), ckb_pos (apok_ok (by rw [hsl]; omega) (by rw [hsl]; omega)), lt_eq, ckb_pos (apok_ok (by rw [hsl]; omega) (by rw [hsl]; omega))]
  refine ⟨_, rfl, fun x hx => ?_, by rw [List.length_append, hsl, List.length_singleton]; omega⟩
  rcases List.mem_append.1 hx with hx | hx
  · exact h x (List.mem_of_mem_drop (List.mem_of_mem_take hx))
  · rw [List.mem_singleton] at hx
    rw [hx]
    simp only [IntKind.wrap, IntKind.bits, IntKind.signed]
    simp
    omega
theorem vCut_ok {n : Nat} {a : List Int} (h : ByB a) (hl : a.length ≤ 65536) {k : Nat} (hk2 : k ≤ 255) : ∃ b, v_vCut n a (k : Int) = some b ∧ ByB b ∧ b.length ≤ 65537 := by
  unfold v_vCut
  rw [br_dec]
  split
  · exact vCut_J1_ok h hl (Nat.le_refl _) (by omega)
  · exact vCut_J1_ok h hl (by omega) hk2
theorem sub_among {l : List Int} {k : Nat} (hk : k ≤ l.length) (hk1 : 1 ≤ k) (lo hi : Int) (hl : ∀ x ∈ l, lo ≤ x ∧ x ≤ hi) : 1 ≤ (sub l 0 (0 + k)).length ∧ ∀ x ∈ sub l 0 (0 + k), lo ≤ x ∧ x ≤ hi := by
  unfold sub
  refine ⟨by simp; omega, fun x hx => hl x (List.mem_of_mem_drop (List.mem_of_mem_take hx))⟩
end Go.Pl
namespace Go.Pl
open Go Go.Tv Go.RowKit
set_option linter.unusedVariables false
theorem isC_set {c : Card} (h : isC c = true) (k : Nat) {x : Int} (hx : 0 ≤ x ∧ x ≤ 2) : isC (V4.set c k x) = true := by
  rw [isC_iff] at h ⊢
  match k with
  | 0 => exact ⟨hx, h.2⟩
  | 1 => exact ⟨h.1, hx, h.2.2⟩
  | 2 => exact ⟨h.1, h.2.1, hx, h.2.2.2⟩
  | k + 3 => exact ⟨h.1, h.2.1, h.2.2.1, hx⟩
theorem mem_small {l : List Int} {r : Int} (h : r ∈ l) (lo hi : Int) (hl : ∀ x ∈ l, lo ≤ x ∧ x ≤ hi) : lo ≤ r ∧ r ≤ hi := hl r h
def HandR (n m : Nat) (o : Opt (Cu × List Card)) : Prop := ∃ c' h, o = some (c', h) ∧ h.length ≤ 29 ∧ CuOK m c'
theorem hand_J2 (n : Nat) {m : Nat} {c : Cu} (hc : CuOK m c) (hm : m < 4611686018427300000) {h : List Card} (hl : h.length ≤ 28) (b : Bool) (hb : b = true → 0 < h.length) : HandR n (m + 20) (s_Cur_hand'p_J2 n (b, c, h)) := by
  unfold s_Cur_hand'p_J2
  cases b with
  | false => exact ⟨c, h, rfl, by omega, hc.mono (by omega)⟩
  | true =>
    have h0 := hb rfl
    simp only [br_true]
    obtain ⟨i, c1, e1, k1, i0, i1⟩ := pick_ok n hc (by omega) (a := (h.length : Int)) (by omega)
    rw [e1, ob_some]
    obtain ⟨q, c2, e2, k2, q0, q1⟩ := pick_ok n k1 (by omega) (a := 3) (by omega)
    rw [e2, ob_some, br_dec]
    split
    · obtain ⟨t, c3, e3, k3, t0, t1⟩ := pick_ok n k2 (by omega) (a := 4) (by omega)
      rw [e3, ob_some]
      obtain ⟨y, c4, e4, k4, _⟩ := among_ok n k3 (by omega) (l := [(-1), 3]) (by decide)
      rw [e4, ob_some, ckb_pos (inb_pos i0 i1), ckb_pos (inb_pos t0 t1), lt_eq]
      exact ⟨_, _, rfl, by rw [List.length_set]; omega, k4.mono (by omega)⟩
    · rw [br_dec]
      split
      · rw [ckb_pos (inb_pos i0 i1), ckb_pos (apok_ok (by omega) (by omega))]
        exact ⟨_, _, rfl, by simp; omega, k2.mono (by omega)⟩
      · obtain ⟨t, c3, e3, k3, t0, t1⟩ := pick_ok n k2 (by omega) (a := 81) (by omega)
        rw [e3, ob_some, s_l2At_eq n (by omega), ob_some, ckb_pos (inb_pos i0 i1), lt_eq]
        exact ⟨_, _, rfl, by rw [List.length_set]; omega, k3.mono (by omega)⟩
theorem hand_ok {n : Nat} (hn : BIG ≤ n) {m : Nat} {c : Cu} (hc : CuOK m c) (hm : m + 200 < 4611686018427300000) : HandR n (m + 200) (s_Cur_hand'p n c) := by
  unfold s_Cur_hand'p
  obtain ⟨t, c1, e1, k1, ht⟩ := among_ok n hc (by omega) (l := [4, 3, 4, 2]) (by decide)
  rw [e1, ob_some]
  obtain ⟨q, c2, e2, k2, hq⟩ := among_ok n k1 (by omega) (l := [6, 9, 4, 12, 3, 2, 1, 0, 20, 26, 27, 28]) (by decide)
  rw [e2, ob_some]
  have ht' := mem_small ht 2 4 (by decide)
  have hq' := mem_small hq 0 28 (by decide)
  refine fx_inv (B := s_Cur_hand'p_L3 n) (fun s => ∃ (q : Int) (c : Cu) (h : List Card), s = (t, q, c, h) ∧ 0 ≤ q ∧ q ≤ 28 ∧ (h.length : Int) ≤ 28 - q ∧ AllC h ∧ CuOK (m + 4 + 2 * (28 - q.toNat)) c)
    (fun s => s.2.1.toNat) (HandR n (m + 200)) ?_ n _ ⟨q, c2, [], rfl, hq'.1, hq'.2, by simp; omega, fun c hc => (by cases hc), k2.mono (by omega)⟩ (big_gt hn (by simp only []; omega))
  clear e1 e2 k1 k2 hq hq' c1 c2 q
  rintro self _ ⟨q, c, h, rfl, q0, q28, hl, ha, hc⟩ ih
  simp only [s_Cur_hand'p_L3]
  by_cases h0 : 0 < q
  · rw [br_pos (decide_eq_true h0)]
    obtain ⟨r, c3, e3, k3, r0, r1⟩ := pick_ok n hc (by omega) (a := 81) (by omega)
    rw [e3, ob_some, s_l2At_eq n (by omega), ob_some]
    refine fx_inv (B := s_Cur_hand'p_L1 n self) (fun s => ∃ (i : Int) (x : Card), s = (t, q, i, c3, h, x) ∧ 0 ≤ i ∧ i ≤ 4 ∧ isC x = true) (fun s => (4 - s.2.2.1).toNat) (HandR n (m + 200)) ?_ n _ ⟨t, cardAt r, rfl, by omega, by omega, cardAt_isC (by omega)⟩ (big_gt hn (by simp only []; omega))
    rintro self2 _ ⟨i, x, rfl, i0, i4, hx⟩ ih2
    simp only [s_Cur_hand'p_L1]
    by_cases hi : i < 4
    · rw [br_pos (decide_eq_true hi), ckb_pos (inb_pos i0 (by omega)), lt_eq, lt_eq, w64_id (by omega)]
      exact ih2 _ ⟨i + 1, _, rfl, by omega, by omega, isC_set hx _ (by omega)⟩ (by simp only []; omega)
    · rw [br_neg (decide_eq_false hi), s_l2Put_eq hn ha (by omega) hx, ob_some, lt_eq, w64_id (by omega)]
      have := ins_len (c := x) (l := h)
      exact ih _ ⟨q - 1, c3, _, rfl, by omega, by omega, by omega, ins_allC hx ha, k3.mono (by omega)⟩ (by simp only []; omega)
  · rw [br_neg (decide_eq_false h0), br_dec]
    split
    · obtain ⟨b, c4, e4, k4⟩ := one_ok n hc (by omega) (a := 24) (by omega)
      rw [e4, ob_some]
      obtain ⟨c', h', e, h1, h2⟩ := hand_J2 n k4 (by omega) (h := h) (by omega) b (fun _ => by omega)
      exact ⟨c', h', e, h1, h2.mono (by omega)⟩
    · obtain ⟨c', h', e, h1, h2⟩ := hand_J2 n hc (by omega) (h := h) (by omega) false (fun h => by cases h)
      exact ⟨c', h', e, h1, h2.mono (by omega)⟩
theorem dense_J1 {n : Nat} (hn : BIG ≤ n) {h : List Card} (hl : h.length ≤ 20) (ha : AllC h) {a b : Card} (hca : isC a = true) (hcb : isC b = true) (q : Int) (hq : 0 < q ∧ q ≤ 9) (c : Cu) (self : Int × Cu × List Card → Opt (Cu × List Card)) (Q : Opt (Cu × List Card) → Prop)
    (ih : ∀ h', AllC h' → h'.length ≤ 16 ∨ h' = h → Q (self (q - 1, c, h'))) : Q (s_Cur_dense7'p_J1 n self (q, c, h, a, b)) := by
  unfold s_Cur_dense7'p_J1
  simp only [lt_eq]
  rw [w64_id (x := q - 1) (by omega)]
  have k1 := ins_len (c := a) (l := h)
  have k2 := ins_len (c := b) (l := ins a h)
  have k3 := ins_len (c := third a b) (l := ins b (ins a h))
  have a1 := ins_allC hca ha
  have a2 := ins_allC hcb a1
  rw [s_l2Put_eq hn ha (by omega) hca, s_l2Third_eq hn hca hcb]
  simp only [br_some, ob_some]
  by_cases hlen : h.length < 13
  · cases hx : (!eqd a b) with
    | true =>
      simp only [if_true, decide_eq_true (show (h.length : Int) < 13 by omega), br_true]
      rw [s_l2Put_eq hn a1 (by omega) hcb, ob_some, s_l2Put_eq hn a2 (by omega) (third_isC hca hcb), ob_some]
      exact ih _ (ins_allC (third_isC hca hcb) a2) (.inl (by omega))
    | false =>
      simp only [Bool.false_eq_true, if_false, br_false]
      exact ih h ha (.inr rfl)
  · rw [decide_eq_false (show ¬ (h.length : Int) < 13 by omega)]
    have : (if (!eqd a b) = true then false else false) = false := by split <;> rfl
    rw [this, br_false]
    exact ih h ha (.inr rfl)
theorem dense_ok {n : Nat} (hn : BIG ≤ n) {m : Nat} {c : Cu} (hc : CuOK m c) (hm : m + 300 < 4611686018427300000) : HandR n (m + 300) (s_Cur_dense7'p n c) := by
  unfold s_Cur_dense7'p
  obtain ⟨c1, h, e1, hl, k1⟩ := hand_ok hn hc (by omega)
  rw [e1, ob_some]
  simp only []
  rw [s_l2Hand_eq hn (by omega), ob_some]
  have J4 : ∀ (b : Bool) (c : Cu) (m' : Nat), CuOK m' c → m' ≤ m + 210 → HandR n (m + 300) (s_Cur_dense7'p_J4 n (b, c, h)) := by
    intro b c m' hc hm'
    unfold s_Cur_dense7'p_J4
    cases b with
    | true => exact ⟨c, h, rfl, hl, hc.mono (by omega)⟩
    | false =>
      simp only [br_false]
      obtain ⟨q, c2, e2, k2, hq⟩ := among_ok n hc (by omega) (l := [2, 3, 4, 5, 1]) (by decide)
      have hq' := mem_small hq 1 5 (by decide)
      rw [e2, ob_some]
      refine fx_inv (B := s_Cur_dense7'p_L3 n) (fun s => ∃ (q : Int) (c : Cu) (h : List Card), s = (q, c, h) ∧ 0 ≤ q ∧ q ≤ 5 ∧ h.length ≤ 16 ∧ AllC h ∧ CuOK (m' + 2 + 8 * (5 - q.toNat)) c)
        (fun s => s.1.toNat) (HandR n (m + 300)) ?_ n _ ⟨q, c2, [], rfl, by omega, hq'.2, by simp, fun c hc => (by cases hc), k2.mono (by omega)⟩ (big_gt hn (by simp only []; omega))
      clear hc e2 k2 hq hq' c2 q c
      rintro self _ ⟨q, c, h, rfl, q0, q5, hl, ha, hc⟩ ih
      simp only [s_Cur_dense7'p_L3]
      by_cases h0 : 0 < q
      · rw [br_pos (decide_eq_true h0)]
        obtain ⟨r, c3, e3, k3, r0, r1⟩ := pick_ok n hc (by omega) (a := 81) (by omega)
        rw [e3, ob_some, s_l2At_eq n (by omega), ob_some]
        obtain ⟨r', c4, e4, k4, r0', r1'⟩ := pick_ok n k3 (by omega) (a := 81) (by omega)
        rw [e4, ob_some, s_l2At_eq n (by omega), ob_some]
        have fin : ∀ (c5 : Cu) (a : Card), isC a = true → CuOK (m' + 2 + 8 * (5 - q.toNat) + 8) c5 → HandR n (m + 300) (s_Cur_dense7'p_J1 n self (q, c5, h, a, cardAt r')) := fun c5 a ha' hc5 =>
          dense_J1 hn (by omega) ha ha' (cardAt_isC (by omega)) q ⟨h0, by omega⟩ c5 self _ fun h' h1 h2 => ih _ ⟨q - 1, c5, h', rfl, by omega, by omega, by rcases h2 with h2 | rfl <;> omega, h1, hc5.mono (by omega)⟩ (by simp only []; omega)
        have J2 : ∀ (b : Bool) (c5 : Cu), CuOK (m' + 2 + 8 * (5 - q.toNat) + 6) c5 → (b = true → 1 < h.length) → HandR n (m + 300) (s_Cur_dense7'p_J2 n self (q, b, c5, h, cardAt r, cardAt r')) := by
          intro b c5 hc5 hb
          unfold s_Cur_dense7'p_J2
          cases b with
          | false => simp only [br_false]; exact fin c5 _ (cardAt_isC (by omega)) (hc5.mono (by omega))
          | true =>
            have := hb rfl
            simp only [br_true]
            obtain ⟨i, c6, e6, k6, i0, i1⟩ := pick_ok n hc5 (by omega) (a := (h.length : Int)) (by omega)
            rw [e6, ob_some, ckb_pos (inb_pos i0 i1)]
            exact fin c6 _ (gl_C ha (by omega)) (k6.mono (by omega))
        rw [br_dec]
        split
        · obtain ⟨b, c5, e5, k5⟩ := one_ok n k4 (by omega) (a := 2) (by omega)
          rw [e5, ob_some]
          exact J2 b c5 k5 fun _ => by omega
        · exact J2 false c4 (k4.mono (by omega)) fun h => by cases h
      · rw [br_neg (decide_eq_false h0)]
        exact ⟨c, h, rfl, by omega, hc.mono (by omega)⟩
  cases hand h with
  | false => exact J4 true c1 _ k1 (by omega)
  | true =>
    rw [Bool.not_true, br_false]
    obtain ⟨b, c2, e2, k2⟩ := one_ok n k1 (by omega) (a := 4) (by omega)
    rw [e2, ob_some]
    exact J4 b c2 _ k2 (by omega)
end Go.Pl
namespace Go.Pl
open Go Go.Tv Go.RowKit
set_option linter.unusedVariables false
def BK (b : Bool) (h : List Card) : Bool × List Int := if hand h then (true, outs h b) else (false, [])
theorem i_BlockedCards_eq {n : Nat} (hn : BIG ≤ n) {h : List Card} (hl : h.length ≤ 1048576) : i_BlockedCards n h = some (BK true h) := by
  unfold i_BlockedCards BK
  rw [i_IsHand_eq hn (by omega), ob_some]
  cases hh : hand h with
  | false => rfl
  | true => rw [i_outside_eq hn (HandL.of hh)]; rfl
theorem ix_hand {h : List Card} (H : HandL h) {I : List Nat} (hp : I.Pairwise (· < ·)) (hb : ∀ i ∈ I, i < h.length) : HandL (I.map (gz h)) := by
  have hc : AllC (I.map (gz h)) := fun c hc => by
    obtain ⟨i, hi, rfl⟩ := List.mem_map.1 hc
    exact gl_C H.c (hb i hi)
  have hnd : (I.map (gz h)).Nodup := by
    unfold List.Nodup
    rw [List.pairwise_map]
    exact List.Pairwise.imp_of_mem (fun {a b} ha hb' hlt e => by have := gz_inj H (hb a ha) (hb b hb') e; omega) hp
  exact ⟨hc, hnd, by have := nodup_len81 hnd hc; omega⟩
theorem s_l3Picked_eq {n : Nat} (hn : BIG ≤ n) (h : List Card) {I : List Nat} (hb : ∀ i ∈ I, i < h.length) (hl : I.length ≤ 1000000) : s_l3Picked n h (I.map fun (i : Nat) => (i : Int)) = some (I.map (gz h)) := by
  unfold s_l3Picked
  have := fx_app (B := s_l3Picked_L1 n) I.length (fun i a => (h, I.map (fun (i : Nat) => (i : Int)), (i : Int), a)) (fun k => [gz h (gl 0 I k)]) some 1000000 (fun self i a hi hM => by
    simp only [s_l3Picked_L1, lt_eq, List.length_map]
    have e : gl (0 : Int) (I.map fun (i : Nat) => (i : Int)) i = (I[i] : Int) := by rw [gl_eq (by rw [List.length_map]; exact hi), List.getElem_map]
    have e2 : gl 0 I i = I[i] := gl_eq hi
    simp only [List.length_singleton] at hM
    rw [br_pos (decide_eq_true (show (i : Int) < (I.length : Int) by omega)), ckb_pos (inb_ok hi), toNat_cast, e, ckb_pos (inb_ok (hb _ (List.getElem_mem hi))), ckb_pos (apok_ok (by omega) (by omega)), w64_succ (by omega), toNat_cast, e2]) (fun self a => by
    simp only [s_l3Picked_L1, List.length_map]
    rw [br_neg (decide_eq_false (by omega))]) n 0 [] (Nat.zero_le _) (big_gt hn (by omega)) (by
      have := flen (l := List.range' 0 (I.length - 0)) (f := fun k => [gz h (gl 0 I k)]) (M := 1) fun _ _ => Nat.le_refl _
      rw [List.length_range'] at this
      simp only [List.length_nil]; omega)
  rw [List.nil_append] at this
  refine this.trans ?_
  congr 1
  rw [← List.map_eq_flatMap]
  refine List.ext_getElem (by simp) fun i h1 h2 => ?_
  rw [List.length_map, List.length_range'] at h1
  rw [List.getElem_map, List.getElem_map, List.getElem_range']
  rw [gl_eq (by omega)]
  simp
end Go.Pl
namespace Go.Pl
open Go Go.Tv Go.RowKit
set_option linter.unusedVariables false
set_option linter.unusedSimpArgs false
theorem chof3_pos : ∀ q : Nat, q < 28 → 3 ≤ q → 0 < chof q 3 := by decide +kernel
theorem chof3_six : ∀ q : Nat, q < 28 → 6 * chof q 3 = q * (q - 1) * (q - 2) := by decide +kernel
def CHL (h : List Card) : V2 Int × Bool := if hand h && decide (3 ≤ h.length) then (FR (linesOf h).length (chof h.length 3), true) else (⟨0, 0⟩, false)
theorem chcond (h : List Card) : (br (!hand h) (some true) (some (decide ((h.length : Int) < 3)))) = some (!(hand h && decide (3 ≤ h.length))) := by
  have : decide ((h.length : Int) < 3) = !decide (3 ≤ h.length) := by rw [← decide_not]; congr 1; apply propext; omega
  rw [this]
  cases hand h <;> cases decide (3 ≤ h.length) <;> rfl
theorem i_ChanceLine_eq {n : Nat} (hn : BIG ≤ n) {h : List Card} (hl : h.length ≤ 1048576) : i_ChanceLine n h = some (CHL h) := by
  unfold i_ChanceLine CHL
  rw [i_IsHand_eq hn (by omega), ob_some, chcond, ob_some]
  cases hx : (hand h && decide (3 ≤ h.length)) with
  | false => rfl
  | true =>
    rw [Bool.and_eq_true, decide_eq_true_iff] at hx
    have h27 := hand_len hx.1
    have h729 := lines_len27 hx.1
    obtain ⟨c1, c2, c3⟩ := choose_eq hn (a := h.length) (k := 3) (by omega) (.inl (by omega))
    have c2 : i_choose n (h.length : Int) 3 = some (chof h.length 3 : Int) := c2
    have hp := chof3_pos h.length (by omega) hx.2
    rw [Bool.not_true, br_false, i_linesIn_eq hn (by omega) (hand_all hx.1) (hand_nodup hx.1), ob_some, c2, ob_some, i_fraction_eq hn hp (by omega) (by omega)]; rfl
theorem s_ChanceLine_eq {n : Nat} (hn : BIG ≤ n) {h : List Card} (hl : h.length ≤ 1048576) : s_ChanceLine n h = some (CHL h) := by
  unfold s_ChanceLine CHL
  rw [s_l2Hand_eq hn (by omega), ob_some, chcond, ob_some]
  cases hx : (hand h && decide (3 ≤ h.length)) with
  | false => rfl
  | true =>
    rw [Bool.and_eq_true, decide_eq_true_iff] at hx
    have h27 := hand_len hx.1
    have h729 := lines_len27 hx.1
    obtain ⟨c1, c2, c3⟩ := choose_eq hn (a := h.length) (k := 3) (by omega) (.inl (by omega))
    have c1 : s_l9Choose n (h.length : Int) 3 = some (chof h.length 3 : Int) := c1
    have hp := chof3_pos h.length (by omega) hx.2
    rw [Bool.not_true, br_false, s_l2Lines_eq hn (by omega) (hand_all hx.1), ob_some, c1, ob_some, s_l9Cut_eq hn hp (by omega) (by omega)]; rfl
def CHB (h : List Card) : V2 Int × Bool := if hand h then (FR (outs h true).length (81 - h.length), true) else (⟨0, 0⟩, false)
theorem i_ChanceBlocked_eq {n : Nat} (hn : BIG ≤ n) {h : List Card} (hl : h.length ≤ 1048576) : i_ChanceBlocked n h = some (CHB h) := by
  unfold i_ChanceBlocked CHB
  rw [i_IsHand_eq hn (by omega), ob_some]
  cases hh : hand h with
  | false => rfl
  | true =>
    have h27 := hand_len hh
    have ho := outs_len (h := h) (b := true)
    have e : w64 (81 - (h.length : Int)) = ((81 - h.length : Nat) : Int) := by rw [w64_id (by omega)]; omega
    rw [Bool.not_true, br_false, i_outside_eq hn (HandL.of hh), ob_some, lt_eq, e, i_fraction_eq hn (by omega) (by omega) (by omega)]; rfl
theorem s_ChanceBlocked_eq {n : Nat} (hn : BIG ≤ n) {h : List Card} (hl : h.length ≤ 1048576) : s_ChanceBlocked n h = some (CHB h) := by
  unfold s_ChanceBlocked CHB
  rw [s_l2Hand_eq hn (by omega), ob_some]
  cases hh : hand h with
  | false => rfl
  | true =>
    have h27 := hand_len hh
    have ho := outs_len (h := h) (b := true)
    have e : w64 (81 - (h.length : Int)) = ((81 - h.length : Nat) : Int) := by rw [w64_id (by omega)]; omega
    rw [Bool.not_true, br_false, s_l3Cards_eq hn (HandL.of hh), ob_some, lt_eq, e, s_l9Cut_eq hn (by omega) (by omega) (by omega)]; rfl
end Go.Pl
