/- Plain laws: LV. -/
import Derived.Test.YtbkbkaonjhlplaaLLU
set_option linter.unusedVariables false
set_option linter.unusedSimpArgs false
namespace Go.Pl
open Go Go.Tv Go.RowKit
set_option linter.unusedVariables false

/-! what a claim makes -/
structure GameOK (p : List Card) (g : Game) : Prop where
  deal : DealOK p g.1
  n1 : 1 ≤ g.2.1.length
  n4 : g.2.1.length ≤ 4
  eq : g.2.2.length = g.2.1.length
  sc : ∀ x, x ∈ g.2.1 → 0 ≤ x ∧ x ≤ 60
  mi : ∀ x, x ∈ g.2.2 → 0 ≤ x ∧ x ≤ 60
def layN (p : List Card) : Nat → Deal → Deal
  | 0, d => d
  | k + 1, d => if (linesOf d.2.2).length = 0 ∧ d.2.1 < 81 then layN p k (layD p d 3) else d
theorem layN_ok {p : List Card} (hp : p.Perm deck) : ∀ (k : Nat) {d : Deal}, DealOK p d → DealOK p (layN p k d)
  | 0, d, h => h
  | k + 1, d, h => by
    unfold layN
    split
    · exact layN_ok hp k (layD_ok h hp (by omega))
    · exact h
def inc (l : List Int) (i : Nat) : List Int := l.set i (if gl 0 l i + 1 < 60 then gl 0 l i + 1 else 60)
theorem inc_len (l : List Int) (i : Nat) : (inc l i).length = l.length := by unfold inc; rw [List.length_set]
theorem inc_bd {l : List Int} {i : Nat} (hi : i < l.length) (h : ∀ x, x ∈ l → 0 ≤ x ∧ x ≤ 60) : ∀ x, x ∈ inc l i → 0 ≤ x ∧ x ≤ 60 := fun x hx => by
  unfold inc at hx
  rcases List.mem_or_eq_of_mem_set hx with hx | hx
  · exact h x hx
  · rw [gl_eq hi] at hx
    have := h _ (List.getElem_mem hi)
    split at hx <;> omega
/-- kind, deal, scores, misses -/
def endG (p : List Card) (g : Game) (c : Claim) : Int × Game :=
  if kindG g c = 1 then (1, (takeD p g.1 c.2, (inc g.2.1 c.1.toNat, g.2.2))) else if kindG g c = 2 then (2, (g.1, (g.2.1, inc g.2.2 c.1.toNat))) else (3, g)
theorem kind_player {g : Game} {c : Claim} (h : kindG g c ≠ 3) : 0 ≤ c.1 ∧ c.1 < (g.2.1.length : Int) := by
  unfold kindG at h
  by_cases hc : 0 ≤ c.1 ∧ c.1 < (g.2.1.length : Int)
  · exact hc
  · rw [if_neg hc] at h; exact absurd rfl h
theorem kind_cases (g : Game) (c : Claim) : kindG g c = 1 ∨ kindG g c = 2 ∨ kindG g c = 3 := by
  unfold kindG; split <;> (try split) <;> (try split) <;> simp
theorem endG_ok {p : List Card} (hp : p.Perm deck) {g : Game} (h : GameOK p g) (c : Claim) : GameOK p (endG p g c).2 := by
  unfold endG
  split
  · rename_i hk
    have := kind_player (g := g) (c := c) (by omega)
    exact ⟨takeD_ok h.deal hp _, by show 1 ≤ (inc g.2.1 c.1.toNat).length; rw [inc_len]; exact h.n1, by show (inc g.2.1 c.1.toNat).length ≤ 4; rw [inc_len]; exact h.n4,
      by show g.2.2.length = (inc g.2.1 c.1.toNat).length; rw [inc_len]; exact h.eq, inc_bd (by omega) h.sc, h.mi⟩
  · split
    · rename_i hk
      have := kind_player (g := g) (c := c) (by omega)
      exact ⟨h.deal, h.n1, h.n4, by show (inc g.2.2 c.1.toNat).length = g.2.1.length; rw [inc_len]; exact h.eq, h.sc, inc_bd (by have := h.eq; omega) h.mi⟩
    · exact h
def withD (g : Game) (d : Deal) : Game := (d, g.2)
theorem withD_ok {p : List Card} {g : Game} (h : GameOK p g) {d : Deal} (hd : DealOK p d) : GameOK p (withD g d) := ⟨hd, h.n1, h.n4, h.eq, h.sc, h.mi⟩
def madeG (p : List Card) (n : Nat) (g : Game) (c : Claim) : Int × Game := endG p (withD g (layN p n g.1)) c
theorem madeG_ok {p : List Card} (hp : p.Perm deck) {n : Nat} {g : Game} (h : GameOK p g) (c : Claim) : GameOK p (madeG p n g c).2 := endG_ok hp (withD_ok h (layN_ok hp n h.deal)) c
/-- the piles of a seed -/
structure Piles (n : Nat) (s : Int) (p : List Card) : Prop where
  ss : s_l4Pile n s = some p
  ii : i_pile n s = some p
  perm : p.Perm deck
theorem layD_seed (p : List Card) (d : Deal) (k : Int) : (layD p d k).1 = d.1 := rfl
theorem layN_seed (p : List Card) : ∀ (k : Nat) (d : Deal), (layN p k d).1 = d.1
  | 0, d => rfl
  | k + 1, d => by unfold layN; split; · rw [layN_seed p k, layD_seed]
                   · rfl
theorem endG_seed (p : List Card) (g : Game) (c : Claim) : (endG p g c).2.1.1 = g.1.1 := by
  unfold endG; split
  · rfl
  · split <;> rfl
theorem madeG_seed (p : List Card) (n : Nat) (g : Game) (c : Claim) : (madeG p n g c).2.1.1 = g.1.1 := by
  unfold madeG; rw [endG_seed]; exact layN_seed p n g.1
theorem layD3_lt {p : List Card} {d : Deal} (h : d.2.1 < 81) (h0 : 0 ≤ d.2.1) : (81 - (layD p d 3).2.1).toNat < (81 - d.2.1).toNat := by
  show (81 - (if 81 < d.2.1 + 3 then (81 : Int) else d.2.1 + 3)).toNat < _
  split <;> omega

def sOut (r : Int × Game) : Int × Int × Int × List Card × List Int × List Int := (r.2.1.1, r.2.1.2.1, r.1, r.2.1.2.2, r.2.2.1, r.2.2.2)
def iOut (r : Int × Game) : Int × Int × Int × List Int × List Int × List Card := (r.1, r.2.1.1, r.2.1.2.1, r.2.2.1, r.2.2.2, r.2.1.2.2)
theorem s_end {n : Nat} (hn : BIG ≤ n) {p : List Card} {g : Game} (hP : Piles n g.1.1 p) (h : GameOK p g) (c : Claim) :
    (ob (s_l8Kind n g c) fun r9 => br (decide (r9 = 1)) (ob (s_l4Take n g.1 c.2) fun r10 => ckb (inb c.1 g.2.1.length) (Tv.lt (w64 ((gl 0 g.2.1 c.1.toNat) + 1)) fun x11 => ob (s_l1Least n x11 60) fun r12 => ckb (inb c.1 g.2.1.length) (Tv.lt (List.set g.2.1 c.1.toNat r12) fun x13 => some (r10.1, r10.2.1, r9, r10.2.2, x13, g.2.2))))
      (br (decide (r9 = 2)) (ckb (inb c.1 g.2.2.length) (Tv.lt (w64 ((gl 0 g.2.2 c.1.toNat) + 1)) fun x14 => ob (s_l1Least n x14 60) fun r15 => ckb (inb c.1 g.2.2.length) (Tv.lt (List.set g.2.2 c.1.toNat r15) fun x16 => some (g.1.1, g.1.2.1, r9, g.1.2.2, g.2.1, x16)))) (some (g.1.1, g.1.2.1, r9, g.1.2.2, g.2.1, g.2.2)))) = some (sOut (endG p g c)) := by
  obtain ⟨h81, _, _⟩ := pile_facts hP.perm
  rw [s_l8Kind_eq hn c (h.deal.len h81) (by have := h.n4; omega) (h.deal.isC hP.perm), ob_some, s_l4Take_eq hn hP.ss hP.perm h.deal]
  unfold endG
  rcases kind_cases g c with hk | hk | hk
  · have hb := kind_player (g := g) (c := c) (by omega)
    have hi : c.1.toNat < g.2.1.length := by omega
    have hv := h.sc _ (List.getElem_mem hi)
    rw [hk]
    show (ob (some (takeD p g.1 c.2)) fun r10 => ckb (inb c.1 g.2.1.length) (Tv.lt (w64 ((gl 0 g.2.1 c.1.toNat) + 1)) fun x11 => ob (s_l1Least n x11 60) fun r12 => ckb (inb c.1 g.2.1.length) (Tv.lt (List.set g.2.1 c.1.toNat r12) fun x13 => some (r10.1, r10.2.1, (1 : Int), r10.2.2, x13, g.2.2)))) = _
    rw [ob_some, ckb_pos (inb_pos hb.1 hb.2), lt_eq, gl_eq hi, w64_id (by omega)]
    unfold s_l1Least
    rw [br_some, ob_some, ckb_pos (inb_pos hb.1 hb.2), lt_eq]
    simp only [decide_eq_true_eq]
    show _ = some (sOut ((1 : Int), (takeD p g.1 c.2, (inc g.2.1 c.1.toNat, g.2.2))))
    unfold sOut inc
    rw [gl_eq hi]
  · have hb := kind_player (g := g) (c := c) (by omega)
    have hi : c.1.toNat < g.2.2.length := by have := h.eq; omega
    have hv := h.mi _ (List.getElem_mem hi)
    rw [hk]
    show (ckb (inb c.1 g.2.2.length) (Tv.lt (w64 ((gl 0 g.2.2 c.1.toNat) + 1)) fun x14 => ob (s_l1Least n x14 60) fun r15 => ckb (inb c.1 g.2.2.length) (Tv.lt (List.set g.2.2 c.1.toNat r15) fun x16 => some (g.1.1, g.1.2.1, (2 : Int), g.1.2.2, g.2.1, x16)))) = _
    rw [ckb_pos (inb_pos hb.1 (by have := h.eq; omega)), lt_eq, gl_eq hi, w64_id (by omega)]
    unfold s_l1Least
    rw [br_some, ob_some, ckb_pos (inb_pos hb.1 (by have := h.eq; omega)), lt_eq]
    simp only [decide_eq_true_eq]
    show _ = some (sOut ((2 : Int), (g.1, (g.2.1, inc g.2.2 c.1.toNat))))
    unfold sOut inc
    rw [gl_eq hi]
  · rw [hk]; rfl
theorem s_made_loop {n : Nat} (hn : BIG ≤ n) {p : List Card} (c : Claim) : ∀ (k : Nat) (g : Game), Piles n g.1.1 p → GameOK p g → (81 - g.1.2.1).toNat < k →
    fx (s_l8Made_L1 n) k (c, 0, 0, g.1.1, g.1.2.1, g.1.2.2, g.2.1, g.2.2) = some (sOut (madeG p k g c))
  | 0, g, _, _, hk => by omega
  | k + 1, g, hP, h, hk => by
    obtain ⟨h81, _, _⟩ := pile_facts hP.perm
    have hl := h.deal.len h81
    rw [fx_succ]
    have e : s_l4Lines n g.1.2.2 = some (linesOf g.1.2.2) := by rw [s_l4Lines_eq hn hl (h.deal.isC hP.perm), lns_eq h.deal.nodup]
    generalize hgo : fx (s_l8Made_L1 n) k = go
    unfold s_l8Made_L1
    simp only [e, ob_some, br_some]
    by_cases hc : (linesOf g.1.2.2).length = 0 ∧ g.1.2.1 < 81
    · rw [show (if decide (((linesOf g.1.2.2).length : Int) = 0) = true then decide (g.1.2.1 < 81) else false) = true by rw [decide_eq_true (by omega : ((linesOf g.1.2.2).length : Int) = 0), if_pos rfl, decide_eq_true hc.2], br_true]
      rw [s_l4Lay_eq (d := (g.1.1, (g.1.2.1, g.1.2.2))) hP.ss h81 h.deal.laid hl (by omega), ob_some]
      have := s_made_loop hn c k (withD g (layD p g.1 3)) hP (withD_ok h (layD_ok h.deal hP.perm (by omega))) (by have := layD3_lt (p := p) hc.2 h.deal.laid.1; show (81 - (layD p g.1 3).2.1).toNat < k; omega)
      rw [← hgo]
      refine Eq.trans this ?_
      unfold madeG
      conv => rhs; unfold layN
      rw [if_pos hc]
      rfl
    · rw [show (if decide (((linesOf g.1.2.2).length : Int) = 0) = true then decide (g.1.2.1 < 81) else false) = false by
        by_cases h0 : (linesOf g.1.2.2).length = 0
        · rw [decide_eq_true (by omega : ((linesOf g.1.2.2).length : Int) = 0), if_pos rfl, decide_eq_false (fun q => hc ⟨h0, q⟩)]
        · rw [decide_eq_false (by omega : ¬ ((linesOf g.1.2.2).length : Int) = 0), if_neg (by simp)], br_false]
      unfold madeG
      conv => rhs; unfold layN
      rw [if_neg hc]
      exact s_end hn hP h c

theorem s_l8Own_eq {n : Nat} {g : Game} (h1 : g.1.2.2.length ≤ 1048576) (h2 : g.2.1.length ≤ 1048576) (h3 : g.2.2.length ≤ 1048576) : s_l8Own n g = some (g.1.1, g.1.2.1, g.1.2.2, g.2.1, g.2.2) := by
  unfold s_l8Own s_l1Own
  rw [s_l2Own_eq h1, ob_some, ckb_pos (apok_ok (by omega) (by omega)), ob_some, ckb_pos (apok_ok (by omega) (by omega)), ob_some]
theorem clone_int {n : Nat} {l : List Int} (h : l.length ≤ 1048576) : slices_Clone_Sint_int_ n l = some l := by
  unfold slices_Clone_Sint_int_
  refine amb_eq ?_ fun he => ?_
  · rw [br_false, ckb_pos (apok_ok (by omega) (by omega))]
  · rw [List.isEmpty_iff] at he; rw [he]; rfl
theorem i_own_eq {n : Nat} {g : Game} (h1 : g.1.2.2.length ≤ 1048576) (h2 : g.2.1.length ≤ 1048576) (h3 : g.2.2.length ≤ 1048576) : _impl_Game__own n g = some (g.1.1, g.1.2.1, g.1.2.2, g.2.1, g.2.2) := by
  unfold _impl_Game__own
  rw [slices_Clone_SA4_A4__eq h1, ob_some, clone_int h2, ob_some, clone_int h3, ob_some]
theorem GameOK.lens {p : List Card} {g : Game} (h : GameOK p g) (hp : p.length = 81) : g.1.2.2.length ≤ 1048576 ∧ g.2.1.length ≤ 1048576 ∧ g.2.2.length ≤ 1048576 := by
  have := h.deal.len hp; have := h.n4; have := h.eq; omega
theorem s_l8Made_eq {n : Nat} (hn : BIG ≤ n) {p : List Card} {g : Game} (hP : Piles n g.1.1 p) (h : GameOK p g) (c : Claim) : s_l8Made n g c = some (sOut (madeG p n g c)) := by
  obtain ⟨h81, _, _⟩ := pile_facts hP.perm
  obtain ⟨l1, l2, l3⟩ := h.lens h81
  unfold s_l8Made
  rw [s_l8Own_eq l1 l2 l3, ob_some]
  exact s_made_loop hn c n g hP h (big_gt hn (by have := h.deal.laid; omega))
theorem i_end {n : Nat} (hn : BIG ≤ n) {p : List Card} {g : Game} (hP : Piles n g.1.1 p) (h : GameOK p g) (c : Claim) :
    (ob (_impl_Game__kind n g c) fun r13 => br (decide (r13 = 1)) (ob (_impl_Deal__take n g.1 c.2) fun r14 => ckb (inb c.1 g.2.1.length) (Tv.lt (w64 ((gl 0 g.2.1 c.1.toNat) + 1)) fun x15 => ckb (inb c.1 g.2.1.length) (Tv.lt (List.set g.2.1 c.1.toNat (mnI 60 x15)) fun x16 => some (r13, r14.1, r14.2.1, x16, g.2.2, r14.2.2))))
      (br (decide (r13 = 2)) (ckb (inb c.1 g.2.2.length) (Tv.lt (w64 ((gl 0 g.2.2 c.1.toNat) + 1)) fun x17 => ckb (inb c.1 g.2.2.length) (Tv.lt (List.set g.2.2 c.1.toNat (mnI 60 x17)) fun x18 => some (r13, g.1.1, g.1.2.1, g.2.1, x18, g.1.2.2)))) (some (r13, g.1.1, g.1.2.1, g.2.1, g.2.2, g.1.2.2)))) = some (iOut (endG p g c)) := by
  obtain ⟨h81, _, _⟩ := pile_facts hP.perm
  rw [i_kind_eq hn c (h.deal.len h81) (by have := h.n4; omega) (h.deal.isC hP.perm), ob_some, i_take_eq hn hP.ii hP.perm h.deal]
  unfold endG
  rcases kind_cases g c with hk | hk | hk
  · have hb := kind_player (g := g) (c := c) (by omega)
    have hi : c.1.toNat < g.2.1.length := by omega
    have hv := h.sc _ (List.getElem_mem hi)
    rw [hk]
    show (ob (some (takeD p g.1 c.2)) fun r14 => ckb (inb c.1 g.2.1.length) (Tv.lt (w64 ((gl 0 g.2.1 c.1.toNat) + 1)) fun x15 => ckb (inb c.1 g.2.1.length) (Tv.lt (List.set g.2.1 c.1.toNat (mnI 60 x15)) fun x16 => some ((1 : Int), r14.1, r14.2.1, x16, g.2.2, r14.2.2)))) = _
    rw [ob_some, ckb_pos (inb_pos hb.1 hb.2), lt_eq, gl_eq hi, w64_id (by omega), ckb_pos (inb_pos hb.1 hb.2), lt_eq]
    show _ = some (iOut ((1 : Int), (takeD p g.1 c.2, (inc g.2.1 c.1.toNat, g.2.2))))
    unfold iOut inc mnI
    rw [gl_eq hi]
  · have hb := kind_player (g := g) (c := c) (by omega)
    have hi : c.1.toNat < g.2.2.length := by have := h.eq; omega
    have hv := h.mi _ (List.getElem_mem hi)
    rw [hk]
    show (ckb (inb c.1 g.2.2.length) (Tv.lt (w64 ((gl 0 g.2.2 c.1.toNat) + 1)) fun x17 => ckb (inb c.1 g.2.2.length) (Tv.lt (List.set g.2.2 c.1.toNat (mnI 60 x17)) fun x18 => some ((2 : Int), g.1.1, g.1.2.1, g.2.1, x18, g.1.2.2)))) = _
    rw [ckb_pos (inb_pos hb.1 (by have := h.eq; omega)), lt_eq, gl_eq hi, w64_id (by omega), ckb_pos (inb_pos hb.1 (by have := h.eq; omega)), lt_eq]
    show _ = some (iOut ((2 : Int), (g.1, (g.2.1, inc g.2.2 c.1.toNat))))
    unfold iOut inc mnI
    rw [gl_eq hi]
  · rw [hk]; rfl
theorem isStuck_eq {n : Nat} (hn : BIG ≤ n) {p : List Card} {d : Deal} (hp : p.Perm deck) (h : DealOK p d) : _impl_Deal__isStuck n d = some (decide ((linesOf d.2.2).length = 0)) := by
  obtain ⟨h81, _, _⟩ := pile_facts hp
  unfold _impl_Deal__isStuck
  rw [i_linesIn_eq hn (h.len h81) (h.isC hp) h.nodup, ob_some]
  congr 1; congr 1; apply propext; omega
theorem i_made_loop {n : Nat} (hn : BIG ≤ n) {p : List Card} (c : Claim) : ∀ (k : Nat) (g : Game), Piles n g.1.1 p → GameOK p g → (81 - g.1.2.1).toNat < k →
    fx (__impl_Game__make'p_ooo_L1 n) k (g.1.1, g.1.2.1, g.2.1, g.2.2, c, g.1.2.2) = some (iOut (madeG p k g c))
  | 0, g, _, _, hk => by omega
  | k + 1, g, hP, h, hk => by
    obtain ⟨h81, _, _⟩ := pile_facts hP.perm
    have hl := h.deal.len h81
    have hd := h.deal.laid
    rw [fx_succ]
    have e : _impl_Deal__isStuck n (g.1.1, g.1.2.1, g.1.2.2) = some (decide ((linesOf g.1.2.2).length = 0)) := isStuck_eq hn hP.perm h.deal
    have e2 : _impl_Deal__isOver n (g.1.1, g.1.2.1, g.1.2.2) = some (if decide ((linesOf g.1.2.2).length = 0) = true then decide (g.1.2.1 = 81) else false) := by
      unfold _impl_Deal__isOver; rw [e, ob_some, br_some, ob_some]
    generalize hgo : fx (__impl_Game__make'p_ooo_L1 n) k = go
    unfold __impl_Game__make'p_ooo_L1
    simp only [e, e2, ob_some, br_some]
    by_cases hc : (linesOf g.1.2.2).length = 0 ∧ g.1.2.1 < 81
    · rw [show (if decide ((linesOf g.1.2.2).length = 0) = true then !(if decide ((linesOf g.1.2.2).length = 0) = true then decide (g.1.2.1 = 81) else false) else false) = true by
        rw [decide_eq_true hc.1, if_pos rfl, if_pos rfl, decide_eq_false (by omega)]; rfl, br_true]
      rw [i_lay_eq hn (d := (g.1.1, (g.1.2.1, g.1.2.2))) hP.ii h81 h.deal.laid hl (by omega), ob_some]
      have := i_made_loop hn c k (withD g (layD p g.1 3)) hP (withD_ok h (layD_ok h.deal hP.perm (by omega))) (by have := layD3_lt (p := p) hc.2 h.deal.laid.1; show (81 - (layD p g.1 3).2.1).toNat < k; omega)
      rw [← hgo]
      refine Eq.trans this ?_
      unfold madeG
      conv => rhs; unfold layN
      rw [if_pos hc]
      rfl
    · rw [show (if decide ((linesOf g.1.2.2).length = 0) = true then !(if decide ((linesOf g.1.2.2).length = 0) = true then decide (g.1.2.1 = 81) else false) else false) = false by
        by_cases h0 : (linesOf g.1.2.2).length = 0
        · rw [decide_eq_true h0, if_pos rfl, if_pos rfl, decide_eq_true (by omega)]; rfl
        · rw [decide_eq_false h0, if_neg (by simp)], br_false]
      unfold madeG
      conv => rhs; unfold layN
      rw [if_neg hc]
      exact i_end hn hP h c
theorem i_make_eq {n : Nat} (hn : BIG ≤ n) {p : List Card} {g : Game} (hP : Piles n g.1.1 p) (h : GameOK p g) (c : Claim) : __impl_Game__make'p_ooo n c g.1.1 g.1.2.1 g.1.2.2 g.2.1 g.2.2 = some (iOut (madeG p n g c)) := by
  unfold __impl_Game__make'p_ooo
  exact i_made_loop hn c n g hP h (big_gt hn (by have := h.deal.laid; omega))
end Go.Pl
