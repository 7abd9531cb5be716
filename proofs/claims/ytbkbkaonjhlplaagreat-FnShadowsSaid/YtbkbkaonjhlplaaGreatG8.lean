/- Plain laws: LV, LSm, L11, LShL, R29, R36. -/
import Derived.Test.YtbkbkaonjhlplaaGreatG7
import Derived.Test.YtbkbkaonjhlplaaGreatG0
import Derived.Test.YtbkbkaonjhlplaaGreatG5
import Derived.KernelRfl
set_option linter.unusedVariables false
set_option linter.unusedSimpArgs false
namespace Go.Pl
open Go Go.Tv Go.RowKit
set_option linter.unusedVariables false

/-! what a claim makes -/
structure GameOK (p : List Card) (g : Game) : Prop where
  deal : DealOK p g.1
  n1 : 1 ≤ g.2.1.length
  n4 : g.2.1.length ≤ 4
  eq : g.2.2.length = g.2.1.length
  sc : ∀ x, x ∈ g.2.1 → 0 ≤ x ∧ x ≤ 60
  mi : ∀ x, x ∈ g.2.2 → 0 ≤ x ∧ x ≤ 60
def layN (p : List Card) : Nat → Deal → Deal
  | 0, d => d
  | k + 1, d => if (linesOf d.2.2).length = 0 ∧ d.2.1 < 81 then layN p k (layD p d 3) else d
theorem layN_ok {p : List Card} (hp : p.Perm deck) : ∀ (k : Nat) {d : Deal}, DealOK p d → DealOK p (layN p k d)
  | 0, d, h => h
  | k + 1, d, h => by
    unfold layN
    split
    · exact layN_ok hp k (layD_ok h hp (by omega))
    · exact h
def inc (l : List Int) (i : Nat) : List Int := l.set i (if gl 0 l i + 1 < 60 then gl 0 l i + 1 else 60)
theorem inc_len (l : List Int) (i : Nat) : (inc l i).length = l.length := by unfold inc; rw [List.length_set]
theorem inc_bd {l : List Int} {i : Nat} (hi : i < l.length) (h : ∀ x, x ∈ l → 0 ≤ x ∧ x ≤ 60) : ∀ x, x ∈ inc l i → 0 ≤ x ∧ x ≤ 60 := fun x hx => by
  unfold inc at hx
  rcases List.mem_or_eq_of_mem_set hx with hx | hx
  · exact h x hx
  · rw [gl_eq hi] at hx
    have := h _ (List.getElem_mem hi)
    split at hx <;> omega
/-- kind, deal, scores, misses -/
def endG (p : List Card) (g : Game) (c : Claim) : Int × Game :=
  if kindG g c = 1 then (1, (takeD p g.1 c.2, (inc g.2.1 c.1.toNat, g.2.2))) else if kindG g c = 2 then (2, (g.1, (g.2.1, inc g.2.2 c.1.toNat))) else (3, g)
theorem kind_player {g : Game} {c : Claim} (h : kindG g c ≠ 3) : 0 ≤ c.1 ∧ c.1 < (g.2.1.length : Int) := by
  unfold kindG at h
  by_cases hc : 0 ≤ c.1 ∧ c.1 < (g.2.1.length : Int)
  · exact hc
  · rw [if_neg hc] at h; exact absurd rfl h
theorem kind_cases (g : Game) (c : Claim) : kindG g c = 1 ∨ kindG g c = 2 ∨ kindG g c = 3 := by
  unfold kindG; split <;> (try split) <;> (try split) <;> simp
theorem endG_ok {p : List Card} (hp : p.Perm deck) {g : Game} (h : GameOK p g) (c : Claim) : GameOK p (endG p g c).2 := by
  unfold endG
  split
  · rename_i hk
    have := kind_player (g := g) (c := c) (by omega)
    exact ⟨takeD_ok h.deal hp _, by show 1 ≤ (inc g.2.1 c.1.toNat).length; rw [inc_len]; exact h.n1, by show (inc g.2.1 c.1.toNat).length ≤ 4; rw [inc_len]; exact h.n4,
      by show g.2.2.length = (inc g.2.1 c.1.toNat).length; rw [inc_len]; exact h.eq, inc_bd (by omega) h.sc, h.mi⟩
  · split
    · rename_i hk
      have := kind_player (g := g) (c := c) (by omega)
      exact ⟨h.deal, h.n1, h.n4, by show (inc g.2.2 c.1.toNat).length = g.2.1.length; rw [inc_len]; exact h.eq, h.sc, inc_bd (by have := h.eq; omega) h.mi⟩
    · exact h
def withD (g : Game) (d : Deal) : Game := (d, g.2)
theorem withD_ok {p : List Card} {g : Game} (h : GameOK p g) {d : Deal} (hd : DealOK p d) : GameOK p (withD g d) := ⟨hd, h.n1, h.n4, h.eq, h.sc, h.mi⟩
def madeG (p : List Card) (n : Nat) (g : Game) (c : Claim) : Int × Game := endG p (withD g (layN p n g.1)) c
theorem madeG_ok {p : List Card} (hp : p.Perm deck) {n : Nat} {g : Game} (h : GameOK p g) (c : Claim) : GameOK p (madeG p n g c).2 := endG_ok hp (withD_ok h (layN_ok hp n h.deal)) c
/-- the piles of a seed -/
structure Piles (n : Nat) (s : Int) (p : List Card) : Prop where
  ss : s_l4Pile n s = some p
  ii : i_pile n s = some p
  perm : p.Perm deck
theorem layD_seed (p : List Card) (d : Deal) (k : Int) : (layD p d k).1 = d.1 := rfl
theorem layN_seed (p : List Card) : ∀ (k : Nat) (d : Deal), (layN p k d).1 = d.1
  | 0, d => rfl
  | k + 1, d => by unfold layN; split; · rw [layN_seed p k, layD_seed]
                   · rfl
theorem endG_seed (p : List Card) (g : Game) (c : Claim) : (endG p g c).2.1.1 = g.1.1 := by
  unfold endG; split
  · rfl
  · split <;> rfl
theorem madeG_seed (p : List Card) (n : Nat) (g : Game) (c : Claim) : (madeG p n g c).2.1.1 = g.1.1 := by
  unfold madeG; rw [endG_seed]; exact layN_seed p n g.1
theorem layD3_lt {p : List Card} {d : Deal} (h : d.2.1 < 81) (h0 : 0 ≤ d.2.1) : (81 - (layD p d 3).2.1).toNat < (81 - d.2.1).toNat := by
  show (81 - (if 81 < d.2.1 + 3 then (81 : Int) else d.2.1 + 3)).toNat < _
  split <;> omega

def sOut (r : Int × Game) : Int × Int × Int × List Card × List Int × List Int := (r.2.1.1, r.2.1.2.1, r.1, r.2.1.2.2, r.2.2.1, r.2.2.2)
def iOut (r : Int × Game) : Int × Int × Int × List Int × List Int × List Card := (r.1, r.2.1.1, r.2.1.2.1, r.2.2.1, r.2.2.2, r.2.1.2.2)
theorem s_end {n : Nat} (hn : BIG ≤ n) {p : List Card} {g : Game} (hP : Piles n g.1.1 p) (h : GameOK p g) (c : Claim) :
    (ob (s_l8Kind n g c) fun r9 => br (decide (r9 = 1)) (ob (s_l4Take n g.1 c.2) fun r10 => ckb (inb c.1 g.2.1.length) (Tv.lt (w64 ((gl 0 g.2.1 c.1.toNat) + 1)) fun x11 => ob (s_l1Least n x11 60) fun r12 => ckb (inb c.1 g.2.1.length) (Tv.lt (List.set g.2.1 c.1.toNat r12) fun x13 => some (r10.1, r10.2.1, r9, r10.2.2, x13, g.2.2))))
      (br (decide (r9 = 2)) (ckb (inb c.1 g.2.2.length) (Tv.lt (w64 ((gl 0 g.2.2 c.1.toNat) + 1)) fun x14 => ob (s_l1Least n x14 60) fun r15 => ckb (inb c.1 g.2.2.length) (Tv.lt (List.set g.2.2 c.1.toNat r15) fun x16 => some (g.1.1, g.1.2.1, r9, g.1.2.2, g.2.1, x16)))) (some (g.1.1, g.1.2.1, r9, g.1.2.2, g.2.1, g.2.2)))) = some (sOut (endG p g c)) := by
  obtain ⟨h81, _, _⟩ := pile_facts hP.perm
  rw [s_l8Kind_eq hn c (h.deal.len h81) (by have := h.n4; omega) (h.deal.isC hP.perm), ob_some, s_l4Take_eq hn hP.ss hP.perm h.deal]
  unfold endG
  rcases kind_cases g c with hk | hk | hk
  · have hb := kind_player (g := g) (c := c) (by omega)
    have hi : c.1.toNat < g.2.1.length := by omega
    have hv := h.sc _ (List.getElem_mem hi)
    rw [hk]
    show (ob (some (takeD p g.1 c.2)) fun r10 => ckb (inb c.1 g.2.1.length) (Tv.lt (w64 ((gl 0 g.2.1 c.1.toNat) + 1)) fun x11 => ob (s_l1Least n x11 60) fun r12 => ckb (inb c.1 g.2.1.length) (Tv.lt (List.set g.2.1 c.1.toNat r12) fun x13 => some (r10.1, r10.2.1, (1 : Int), r10.2.2, x13, g.2.2)))) = _
    rw [ob_some, ckb_pos (inb_pos hb.1 hb.2), lt_eq, gl_eq hi, w64_id (by omega)]
    unfold s_l1Least
    rw [br_some, ob_some, ckb_pos (inb_pos hb.1 hb.2), lt_eq]
    simp only [decide_eq_true_eq]
    show _ = some (sOut ((1 : Int), (takeD p g.1 c.2, (inc g.2.1 c.1.toNat, g.2.2))))
    unfold sOut inc
    rw [gl_eq hi]
  · have hb := kind_player (g := g) (c := c) (by omega)
    have hi : c.1.toNat < g.2.2.length := by have := h.eq; omega
    have hv := h.mi _ (List.getElem_mem hi)
    rw [hk]
    show (ckb (inb c.1 g.2.2.length) (Tv.lt (w64 ((gl 0 g.2.2 c.1.toNat) + 1)) fun x14 => ob (s_l1Least n x14 60) fun r15 => ckb (inb c.1 g.2.2.length) (Tv.lt (List.set g.2.2 c.1.toNat r15) fun x16 => some (g.1.1, g.1.2.1, (2 : Int), g.1.2.2, g.2.1, x16)))) = _
    rw [ckb_pos (inb_pos hb.1 (by have := h.eq; omega)), lt_eq, gl_eq hi, w64_id (by omega)]
    unfold s_l1Least
    rw [br_some, ob_some, ckb_pos (inb_pos hb.1 (by have := h.eq; omega)), lt_eq]
    simp only [decide_eq_true_eq]
    show _ = some (sOut ((2 : Int), (g.1, (g.2.1, inc g.2.2 c.1.toNat))))
    unfold sOut inc
    rw [gl_eq hi]
  · rw [hk]; rfl
theorem s_made_loop {n : Nat} (hn : BIG ≤ n) {p : List Card} (c : Claim) : ∀ (k : Nat) (g : Game), Piles n g.1.1 p → GameOK p g → (81 - g.1.2.1).toNat < k →
    fx (s_l8Made_L1 n) k (c, 0, 0, g.1.1, g.1.2.1, g.1.2.2, g.2.1, g.2.2) = some (sOut (madeG p k g c))
  | 0, g, _, _, hk => by omega
  | k + 1, g, hP, h, hk => by
    obtain ⟨h81, _, _⟩ := pile_facts hP.perm
    have hl := h.deal.len h81
    rw [fx_succ]
    have e : s_l4Lines n g.1.2.2 = some (linesOf g.1.2.2) := by rw [s_l4Lines_eq hn hl (h.deal.isC hP.perm), lns_eq h.deal.nodup]
    generalize hgo : fx (s_l8Made_L1 n) k = go
    unfold s_l8Made_L1
    simp only [e, ob_some, br_some]
    by_cases hc : (linesOf g.1.2.2).length = 0 ∧ g.1.2.1 < 81
    · rw [show (if decide (((linesOf g.1.2.2).length : Int) = 0) = true then decide (g.1.2.1 < 81) else false) = true by rw [decide_eq_true (by omega : ((linesOf g.1.2.2).length : Int) = 0), if_pos rfl, decide_eq_true hc.2], br_true]
      rw [s_l4Lay_eq (d := (g.1.1, (g.1.2.1, g.1.2.2))) hP.ss h81 h.deal.laid hl (by omega), ob_some]
      have := s_made_loop hn c k (withD g (layD p g.1 3)) hP (withD_ok h (layD_ok h.deal hP.perm (by omega))) (by have := layD3_lt (p := p) hc.2 h.deal.laid.1; show (81 - (layD p g.1 3).2.1).toNat < k; omega)
      rw [← hgo]
      refine Eq.trans this ?_
      unfold madeG
      conv => rhs; unfold layN
      rw [if_pos hc]
      rfl
    · rw [show (if decide (((linesOf g.1.2.2).length : Int) = 0) = true then decide (g.1.2.1 < 81) else false) = false by
        by_cases h0 : (linesOf g.1.2.2).length = 0
        · rw [decide_eq_true (by omega : ((linesOf g.1.2.2).length : Int) = 0), if_pos rfl, decide_eq_false (fun q => hc ⟨h0, q⟩)]
        · rw [decide_eq_false (by omega : ¬ ((linesOf g.1.2.2).length : Int) = 0), if_neg (by simp)], br_false]
      unfold madeG
      conv => rhs; unfold layN
      rw [if_neg hc]
      exact s_end hn hP h c

theorem s_l8Own_eq {n : Nat} {g : Game} (h1 : g.1.2.2.length ≤ 1048576) (h2 : g.2.1.length ≤ 1048576) (h3 : g.2.2.length ≤ 1048576) : s_l8Own n g = some (g.1.1, g.1.2.1, g.1.2.2, g.2.1, g.2.2) := by
  unfold s_l8Own s_l1Own
  rw [s_l2Own_eq h1, ob_some, ckb_pos (apok_ok (by omega) (by omega)), ob_some, ckb_pos (apok_ok (by omega) (by omega)), ob_some]
theorem clone_int {n : Nat} {l : List Int} (h : l.length ≤ 1048576) : slices_Clone_Sint_int_ n l = some l := by
  unfold slices_Clone_Sint_int_
  refine amb_eq ?_ fun he => ?_
  · rw [br_false, ckb_pos (apok_ok (by omega) (by omega))]
  · rw [List.isEmpty_iff] at he; rw [he]; rfl
theorem i_own_eq {n : Nat} {g : Game} (h1 : g.1.2.2.length ≤ 1048576) (h2 : g.2.1.length ≤ 1048576) (h3 : g.2.2.length ≤ 1048576) : _impl_Game__own n g = some (g.1.1, g.1.2.1, g.1.2.2, g.2.1, g.2.2) := by
  unfold _impl_Game__own
  rw [slices_Clone_SA4_A4__eq h1, ob_some, clone_int h2, ob_some, clone_int h3, ob_some]
theorem GameOK.lens {p : List Card} {g : Game} (h : GameOK p g) (hp : p.length = 81) : g.1.2.2.length ≤ 1048576 ∧ g.2.1.length ≤ 1048576 ∧ g.2.2.length ≤ 1048576 := by
  have := h.deal.len hp; have := h.n4; have := h.eq; omega
theorem s_l8Made_eq {n : Nat} (hn : BIG ≤ n) {p : List Card} {g : Game} (hP : Piles n g.1.1 p) (h : GameOK p g) (c : Claim) : s_l8Made n g c = some (sOut (madeG p n g c)) := by
  obtain ⟨h81, _, _⟩ := pile_facts hP.perm
  obtain ⟨l1, l2, l3⟩ := h.lens h81
  unfold s_l8Made
  rw [s_l8Own_eq l1 l2 l3, ob_some]
  exact s_made_loop hn c n g hP h (big_gt hn (by have := h.deal.laid; omega))
theorem i_end {n : Nat} (hn : BIG ≤ n) {p : List Card} {g : Game} (hP : Piles n g.1.1 p) (h : GameOK p g) (c : Claim) :
    (ob (_impl_Game__kind n g c) fun r13 => br (decide (r13 = 1)) (ob (_impl_Deal__take n g.1 c.2) fun r14 => ckb (inb c.1 g.2.1.length) (Tv.lt (w64 ((gl 0 g.2.1 c.1.toNat) + 1)) fun x15 => ckb (inb c.1 g.2.1.length) (Tv.lt (List.set g.2.1 c.1.toNat (mnI 60 x15)) fun x16 => some (r13, r14.1, r14.2.1, x16, g.2.2, r14.2.2))))
      (br (decide (r13 = 2)) (ckb (inb c.1 g.2.2.length) (Tv.lt (w64 ((gl 0 g.2.2 c.1.toNat) + 1)) fun x17 => ckb (inb c.1 g.2.2.length) (Tv.lt (List.set g.2.2 c.1.toNat (mnI 60 x17)) fun x18 => some (r13, g.1.1, g.1.2.1, g.2.1, x18, g.1.2.2)))) (some (r13, g.1.1, g.1.2.1, g.2.1, g.2.2, g.1.2.2)))) = some (iOut (endG p g c)) := by
  obtain ⟨h81, _, _⟩ := pile_facts hP.perm
  rw [i_kind_eq hn c (h.deal.len h81) (by have := h.n4; omega) (h.deal.isC hP.perm), ob_some, i_take_eq hn hP.ii hP.perm h.deal]
  unfold endG
  rcases kind_cases g c with hk | hk | hk
  · have hb := kind_player (g := g) (c := c) (by omega)
    have hi : c.1.toNat < g.2.1.length := by omega
    have hv := h.sc _ (List.getElem_mem hi)
    rw [hk]
    show (ob (some (takeD p g.1 c.2)) fun r14 => ckb (inb c.1 g.2.1.length) (Tv.lt (w64 ((gl 0 g.2.1 c.1.toNat) + 1)) fun x15 => ckb (inb c.1 g.2.1.length) (Tv.lt (List.set g.2.1 c.1.toNat (mnI 60 x15)) fun x16 => some ((1 : Int), r14.1, r14.2.1, x16, g.2.2, r14.2.2)))) = _
    rw [ob_some, ckb_pos (inb_pos hb.1 hb.2), lt_eq, gl_eq hi, w64_id (by omega), ckb_pos (inb_pos hb.1 hb.2), lt_eq]
    show _ = some (iOut ((1 : Int), (takeD p g.1 c.2, (inc g.2.1 c.1.toNat, g.2.2))))
    unfold iOut inc mnI
    rw [gl_eq hi]
  · have hb := kind_player (g := g) (c := c) (by omega)
    have hi : c.1.toNat < g.2.2.length := by have := h.eq; omega
    have hv := h.mi _ (List.getElem_mem hi)
    rw [hk]
    show (ckb (inb c.1 g.2.2.length) (Tv.lt (w64 ((gl 0 g.2.2 c.1.toNat) + 1)) fun x17 => ckb (inb c.1 g.2.2.length) (Tv.lt (List.set g.2.2 c.1.toNat (mnI 60 x17)) fun x18 => some ((2 : Int), g.1.1, g.1.2.1, g.2.1, x18, g.1.2.2)))) = _
    rw [ckb_pos (inb_pos hb.1 (by have := h.eq; omega)), lt_eq, gl_eq hi, w64_id (by omega), ckb_pos (inb_pos hb.1 (by have := h.eq; omega)), lt_eq]
    show _ = some (iOut ((2 : Int), (g.1, (g.2.1, inc g.2.2 c.1.toNat))))
    unfold iOut inc mnI
    rw [gl_eq hi]
  · rw [hk]; rfl
theorem isStuck_eq {n : Nat} (hn : BIG ≤ n) {p : List Card} {d : Deal} (hp : p.Perm deck) (h : DealOK p d) : _impl_Deal__isStuck n d = some (decide ((linesOf d.2.2).length = 0)) := by
  obtain ⟨h81, _, _⟩ := pile_facts hp
  unfold _impl_Deal__isStuck
  rw [i_linesIn_eq hn (h.len h81) (h.isC hp) h.nodup, ob_some]
  congr 1; congr 1; apply propext; omega
theorem i_made_loop {n : Nat} (hn : BIG ≤ n) {p : List Card} (c : Claim) : ∀ (k : Nat) (g : Game), Piles n g.1.1 p → GameOK p g → (81 - g.1.2.1).toNat < k →
    fx (__impl_Game__make'p_ooo_L1 n) k (g.1.1, g.1.2.1, g.2.1, g.2.2, c, g.1.2.2) = some (iOut (madeG p k g c))
  | 0, g, _, _, hk => by omega
  | k + 1, g, hP, h, hk => by
    obtain ⟨h81, _, _⟩ := pile_facts hP.perm
    have hl := h.deal.len h81
    have hd := h.deal.laid
    rw [fx_succ]
    have e : _impl_Deal__isStuck n (g.1.1, g.1.2.1, g.1.2.2) = some (decide ((linesOf g.1.2.2).length = 0)) := isStuck_eq hn hP.perm h.deal
    have e2 : _impl_Deal__isOver n (g.1.1, g.1.2.1, g.1.2.2) = some (if decide ((linesOf g.1.2.2).length = 0) = true then decide (g.1.2.1 = 81) else false) := by
      unfold _impl_Deal__isOver; rw [e, ob_some, br_some, ob_some]
    generalize hgo : fx (__impl_Game__make'p_ooo_L1 n) k = go
    unfold __impl_Game__make'p_ooo_L1
    simp only [e, e2, ob_some, br_some]
    by_cases hc : (linesOf g.1.2.2).length = 0 ∧ g.1.2.1 < 81
    · rw [show (if decide ((linesOf g.1.2.2).length = 0) = true then !(if decide ((linesOf g.1.2.2).length = 0) = true then decide (g.1.2.1 = 81) else false) else false) = true by
        rw [decide_eq_true hc.1, if_pos rfl, if_pos rfl, decide_eq_false (by omega)]; rfl, br_true]
      rw [i_lay_eq hn (d := (g.1.1, (g.1.2.1, g.1.2.2))) hP.ii h81 h.deal.laid hl (by omega), ob_some]
      have := i_made_loop hn c k (withD g (layD p g.1 3)) hP (withD_ok h (layD_ok h.deal hP.perm (by omega))) (by have := layD3_lt (p := p) hc.2 h.deal.laid.1; show (81 - (layD p g.1 3).2.1).toNat < k; omega)
      rw [← hgo]
      refine Eq.trans this ?_
      unfold madeG
      conv => rhs; unfold layN
      rw [if_pos hc]
      rfl
    · rw [show (if decide ((linesOf g.1.2.2).length = 0) = true then !(if decide ((linesOf g.1.2.2).length = 0) = true then decide (g.1.2.1 = 81) else false) else false) = false by
        by_cases h0 : (linesOf g.1.2.2).length = 0
        · rw [decide_eq_true h0, if_pos rfl, if_pos rfl, decide_eq_true (by omega)]; rfl
        · rw [decide_eq_false h0, if_neg (by simp)], br_false]
      unfold madeG
      conv => rhs; unfold layN
      rw [if_neg hc]
      exact i_end hn hP h c
theorem i_make_eq {n : Nat} (hn : BIG ≤ n) {p : List Card} {g : Game} (hP : Piles n g.1.1 p) (h : GameOK p g) (c : Claim) : __impl_Game__make'p_ooo n c g.1.1 g.1.2.1 g.1.2.2 g.2.1 g.2.2 = some (iOut (madeG p n g c)) := by
  unfold __impl_Game__make'p_ooo
  exact i_made_loop hn c n g hP h (big_gt hn (by have := h.deal.laid; omega))
end Go.Pl
namespace Go.Pl
open Go Go.Tv Go.RowKit
set_option linter.unusedVariables false
set_option linter.unusedSimpArgs false

/-! sums of cards -/
def sm (F : Card → Int) (l : List Card) : Int := (l.map F).sum
theorem sm_nil (F : Card → Int) : sm F [] = 0 := rfl
theorem sm_cons (F : Card → Int) (c : Card) (l : List Card) : sm F (c :: l) = F c + sm F l := by unfold sm; rw [List.map_cons, List.sum_cons]
theorem sm_app (F : Card → Int) (a b : List Card) : sm F (a ++ b) = sm F a + sm F b := by
  induction a with
  | nil => rw [List.nil_append, sm_nil]; omega
  | cons x a ih => rw [List.cons_append, sm_cons, sm_cons, ih]; omega
theorem sm_perm {F : Card → Int} {a b : List Card} (h : a.Perm b) : sm F a = sm F b := by
  induction h with
  | nil => rfl
  | cons x _ ih => rw [sm_cons, sm_cons, ih]
  | swap x y l => rw [sm_cons, sm_cons, sm_cons, sm_cons]; omega
  | trans _ _ h1 h2 => exact h1.trans h2
theorem sm_one (l : List Card) : sm (fun _ => 1) l = (l.length : Int) := by
  induction l with
  | nil => rfl
  | cons x l ih => rw [sm_cons, ih, List.length_cons]; omega
theorem ins_sum {F : Card → Int} {c : Card} : ∀ {l : List Card}, c ∉ l → sm F (ins c l) = F c + sm F l
  | [], _ => by unfold ins; rw [sm_cons]
  | x :: l, h => by
    have h1 : ¬ x = c := fun e => h (e ▸ List.mem_cons_self)
    have h2 : c ∉ l := fun e => h (List.mem_cons_of_mem _ e)
    unfold ins
    split
    · rw [sm_cons, ins_sum h2, sm_cons]; omega
    · rw [sm_cons]
theorem sortd_sum_go {F : Card → Int} : ∀ {l a : List Card}, l.Nodup → (∀ c ∈ l, c ∉ a) → sm F (l.foldl (fun a c => ins c a) a) = sm F l + sm F a
  | [], a, _, _ => by rw [List.foldl_nil, sm_nil]; omega
  | c :: l, a, h, hd => by
    obtain ⟨h1, h2⟩ := List.nodup_cons.1 h
    rw [List.foldl_cons, sortd_sum_go h2 fun x hx hm => ?_, ins_sum (hd c List.mem_cons_self), sm_cons]
    · omega
    · rcases ins_mem.1 hm with e | hm
      · exact h1 (e ▸ hx)
      · exact hd x (List.mem_cons_of_mem _ hx) hm
theorem sortd_sum {F : Card → Int} {l : List Card} (h : l.Nodup) : sm F (sortd l) = sm F l := by
  have := sortd_sum_go (F := F) (a := []) h fun c _ => by simp
  rw [sm_nil, Int.add_zero] at this
  exact this
theorem sortd_length {l : List Card} (h : l.Nodup) : (sortd l).length = l.length := by
  have := sortd_sum (F := fun _ => 1) h
  rw [sm_one, sm_one] at this; omega
def cx (k : Nat) (c : Card) : Int := V4.get c k
def sumC (h : List Card) : Card := ⟨sm (cx 0) h % 3, sm (cx 1) h % 3, sm (cx 2) h % 3, sm (cx 3) h % 3⟩
theorem i_sum_step {n : Nat} (hn : BIG ≤ n) (go : List Card × Int × Int × Card × Card → Opt Card) (h : List Card) (l i : Int) (z : Card) {c a : Card} (hc : isC c = true) (ha : isC a = true) (hi : 0 ≤ i ∧ i ≤ 1000000) :
    fx (i_sum_L1 n go) n (h, l, i, c, 0, z, a) = go (h, l, i + 1, z, ⟨(a.x0 + c.x0) % 3, (a.x1 + c.x1) % 3, (a.x2 + c.x2) % 3, (a.x3 + c.x3) % 3⟩) := by
  obtain ⟨m, rfl⟩ : ∃ m, n = m + 5 := ⟨n - 5, by unfold BIG at hn; omega⟩
  rw [isC_iff] at hc ha
  simp only [lt_eq, fx_succ, i_sum_L1]
  simp [V4.get, V4.set, show inb 0 4 = true from rfl, show inb 1 4 = true from rfl, show inb 2 4 = true from rfl, show inb 3 4 = true from rfl, show w64 1 = 1 from by decide, show w64 (1 + 1) = 2 from by decide, show w64 (2 + 1) = 3 from by decide, show w64 (3 + 1) = 4 from by decide]
  rw [w64_id (x := a.x0 + c.x0) (by omega), w64_id (x := a.x1 + c.x1) (by omega), w64_id (x := a.x2 + c.x2) (by omega), w64_id (x := a.x3 + c.x3) (by omega), w64_id (x := i + 1) (by omega), Int.tmod_eq_emod_of_nonneg (by omega), Int.tmod_eq_emod_of_nonneg (by omega), Int.tmod_eq_emod_of_nonneg (by omega), Int.tmod_eq_emod_of_nonneg (by omega)]
theorem sumC_isC (h : List Card) : isC (sumC h) = true := by
  rw [isC_iff]
  unfold sumC
  simp only []
  omega
theorem sumC_snoc (h : List Card) (c : Card) : sumC (h ++ [c]) = ⟨((sumC h).x0 + c.x0) % 3, ((sumC h).x1 + c.x1) % 3, ((sumC h).x2 + c.x2) % 3, ((sumC h).x3 + c.x3) % 3⟩ := by
  unfold sumC
  simp only [sm_app, sm_cons, sm_nil, cx, V4.get]
  congr 1 <;> omega
theorem i_sum_eq {n : Nat} (hn : BIG ≤ n) {h : List Card} (hc : AllC h) (hl : h.length ≤ 1000) : i_sum n h = some (sumC h) := by
  unfold i_sum
  rw [lt_eq]
  have := fx_cnt (B := i_sum_L2 n) h.length (fun i => (h, (h.length : Int), (i : Int), (⟨0, 0, 0, 0⟩ : Card), sumC (h.take i))) (fun _ => True) (fun _ => some (sumC h)) (fun self i hi _ ih => by
    simp only [i_sum_L2]
    by_cases h1 : i < h.length
    · have g : gl (⟨0, 0, 0, 0⟩ : Card) h i = h[i] := gl_eq h1
      rw [br_pos (decide_eq_true (show (i : Int) < (h.length : Int) by omega)), ckb_pos (inb_ok h1), toNat_cast, g, i_sum_step hn self _ _ _ _ (hc _ (List.getElem_mem h1)) (sumC_isC _) (by omega), ← ih h1 trivial, List.take_succ_eq_append_getElem h1, sumC_snoc]
      rfl
    · have : i = h.length := by omega
      subst this
      rw [br_neg (decide_eq_false (by omega)), List.take_length]) n 0 (Nat.zero_le _) trivial (big_gt hn (by omega))
  exact this
theorem i_SumCards_eq {n : Nat} (hn : BIG ≤ n) {h : List Card} (hl : h.length ≤ 1048576) : i_SumCards n h = some (if hand h then (sumC h, true) else (⟨0, 0, 0, 0⟩, false)) := by
  unfold i_SumCards
  rw [i_IsHand_eq hn (by omega), ob_some]
  cases hh : hand h with
  | false => rfl
  | true =>
    have := hand_len hh
    rw [Bool.not_true, br_false, i_sum_eq hn (hand_all hh) (by omega)]; rfl
end Go.Pl
namespace Go.Pl
open Go Go.Tv Go.RowKit

/-! shadows -/
def keepB (m : Int) (i : Int) : Bool := decide (bits .and .i64 (shrI .i64 m i) 1 = 0)
def sh (m i x : Int) : Int := if keepB m i = true then 0 else x
def shadow (m : Int) (c : Card) : Card := ⟨sh m 0 c.x0, sh m 1 c.x1, sh m 2 c.x2, sh m 3 c.x3⟩
theorem sh_in {m i x : Int} (h : 0 ≤ x ∧ x ≤ 2) : 0 ≤ sh m i x ∧ sh m i x ≤ 2 := by
  unfold sh; split <;> omega
theorem shadow_isC {m : Int} {c : Card} (h : isC c = true) : isC (shadow m c) = true := by
  rw [isC_iff] at h ⊢
  exact ⟨sh_in h.1, sh_in h.2.1, sh_in h.2.2.1, sh_in h.2.2.2⟩
theorem s_l11Shadow_eq {n : Nat} (hn : BIG ≤ n) (c : Card) (m : Int) : s_l11Shadow n c m = some (shadow m c) := by
  obtain ⟨k, rfl⟩ : ∃ k, n = k + 5 := ⟨n - 5, by unfold BIG at hn; omega⟩
  obtain ⟨c0, c1, c2, c3⟩ := c
  unfold s_l11Shadow shadow sh
  have e : ∀ i, decide (bits .and .i64 (shrI .i64 m i) 1 = 0) = keepB m i := fun _ => rfl
  simp only [lt_eq, fx_succ, s_l11Shadow_L1, e]
  cases h0 : keepB m 0 <;> cases h1 : keepB m 1 <;> cases h2 : keepB m 2 <;> cases h3 : keepB m 3 <;> simp [inb, nneg, V4.set, h0, h1, h2, h3]
theorem i_shadow_eq {n : Nat} (hn : BIG ≤ n) (c : Card) (m : Int) : i_shadow n c m = some (shadow m c) := by
  rw [← s_l11Shadow_eq hn c m]; rfl
def maskB (m : Int) : Bool := decide (1 ≤ m ∧ m ≤ 15)
theorem s_l11Mask_eq (n : Nat) (m : Int) : s_l11Mask n m = some (maskB m) := by unfold s_l11Mask; rw [s_l1In_eq]; rfl
theorem i_IsMask_eq (n : Nat) (m : Int) : i_IsMask n m = some (maskB m) := by unfold i_IsMask; rw [i_within_eq]; rfl

theorem flatMap_range {α β : Type} (f : α → β) : ∀ (l : List α) (s : Nat), (List.range' s l.length).flatMap (fun i => match l[i - s]? with | some x => [f x] | none => []) = l.map f
  | [], s => rfl
  | x :: l, s => by
    rw [List.length_cons, List.range'_succ, List.flatMap_cons]
    have ih := flatMap_range f l (s + 1)
    have : (List.range' (s + 1) l.length).flatMap (fun i => match (x :: l)[i - s]? with | some x => [f x] | none => []) = (List.range' (s + 1) l.length).flatMap (fun i => match l[i - (s + 1)]? with | some x => [f x] | none => []) := by
      refine flatMap_congr' fun i hi => ?_
      rw [List.mem_range'_1] at hi
      rw [show i - s = (i - (s + 1)) + 1 by omega, List.getElem?_cons_succ]
    rw [this, ih]; simp

/-- a loop that maps a list: out := out ++ [f x] for each x -/
theorem fx_map {σ ρ α β : Type} {B : (σ → Opt ρ) → σ → Opt ρ} (l : List α) (st : Nat → List β → σ) (f : α → β) (fin : List β → Opt ρ)
    (step : ∀ self i a (h : i < l.length), a.length + 1 ≤ l.length → B self (st i a) = self (st (i + 1) (a ++ [f l[i]]))) (stop : ∀ self a, B self (st l.length a) = fin a) (k : Nat) (hk : l.length < k) :
    fx B k (st 0 []) = fin (l.map f) := by
  have e := flatMap_range f l 0
  have := fx_app (B := B) l.length st (fun i => match l[i - 0]? with | some x => [f x] | none => []) fin l.length (fun self i a h hM => by
    simp only [Nat.sub_zero, List.getElem?_eq_getElem h] at hM ⊢
    exact step self i a h (by simpa using hM)) stop k 0 [] (Nat.zero_le _) (by omega) (by rw [Nat.sub_zero, e]; simp)
  rw [this, Nat.sub_zero, e]; simp

theorem s_l11All_eq {n : Nat} (hn : BIG ≤ n) {h : List Card} (hl : h.length ≤ 1048576) (m : Int) : s_l11All n h m = some (h.map (shadow m)) := by
  unfold s_l11All
  refine fx_map (B := s_l11All_L1 n) h (fun i a => (h, m, (i : Int), a)) (shadow m) some (fun self i a hi ha => ?_) (fun self a => ?_) n (big_gt hn (by omega))
  · have e1 : decide ((i : Int) < (h.length : Int)) = true := decide_eq_true (by omega)
    simp only [s_l11All_L1, e1, br_true, inb_ok hi, ckb_true, toNat_cast, gl_eq hi, s_l11Shadow_eq hn, ob_some, lt_eq]
    rw [apok_ok (by omega) (by omega), w64_succ (by omega)]; rfl
  · have e1 : decide ((h.length : Int) < (h.length : Int)) = false := decide_eq_false (by omega)
    simp only [s_l11All_L1, e1, br_false]
theorem i_shadows_eq {n : Nat} (hn : BIG ≤ n) {h : List Card} (hl : h.length ≤ 1048576) (m : Int) : i_shadows n h m = some (h.map (shadow m)) := by
  unfold i_shadows
  refine fx_map (B := i_shadows_L1 n) h (fun i a => (m, h, (h.length : Int), (i : Int), a)) (shadow m) some (fun self i a hi ha => ?_) (fun self a => ?_) n (big_gt hn (by omega))
  · have e1 : decide ((i : Int) < (h.length : Int)) = true := decide_eq_true (by omega)
    simp only [i_shadows_L1, e1, br_true, inb_ok hi, ckb_true, toNat_cast, gl_eq hi, i_shadow_eq hn, ob_some, lt_eq]
    rw [apok_ok (by omega) (by omega), w64_succ (by omega)]; rfl
  · have e1 : decide ((h.length : Int) < (h.length : Int)) = false := decide_eq_false (by omega)
    simp only [i_shadows_L1, e1, br_false]
end Go.Pl
namespace Go.Pl
open Go Go.Tv Go.RowKit
set_option linter.unusedVariables false

/-! the same, by choices -/
theorem visit_eq {n : Nat} (hn : BIG ≤ n) {s : List Card} (hs : ∀ c, c ∈ s → isC c = true) {i j k : Nat} (hi : i < s.length) (hj : j < s.length) (hk : k < s.length) {a : Int} (h0 : 0 ≤ a) (ha : a ≤ 1000000000) :
    i_ShadowLines_1'lpp_o n [(i : Int), (j : Int), (k : Int)] a s = some (a + ((l1 s i j k).length : Nat), s) := by
  unfold i_ShadowLines_1'lpp_o
  have e0 : gl (0 : Int) [(i : Int), (j : Int), (k : Int)] 0 = i := rfl
  have e1 : gl (0 : Int) [(i : Int), (j : Int), (k : Int)] 1 = j := rfl
  have e2 : gl (0 : Int) [(i : Int), (j : Int), (k : Int)] 2 = k := rfl
  have hln := i_isLine_eq hn (gl z4 s k) (gl_isC hs hi) (gl_isC hs hj)
  have e5 : lineB (gl z4 s i) (gl z4 s j) (gl z4 s k) = lnAt s i j k := rfl
  unfold z4 at hln e5
  have f0 : inb 0 [(i : Int), (j : Int), (k : Int)].length = true := rfl
  have f1 : inb 1 [(i : Int), (j : Int), (k : Int)].length = true := rfl
  have f2 : inb 2 [(i : Int), (j : Int), (k : Int)].length = true := rfl
  simp only [e0, e1, e2, f0, f1, f2, inb_ok hi, inb_ok hj, inb_ok hk, ckb_true, toNat_cast, hln, e5, ob_some, lt_eq]
  unfold l1
  cases hb : lnAt s i j k with
  | false => simp
  | true => simp [w64_id (x := a + 1) (by omega)]

theorem sum_len {α : Type} (f : Nat → List α) (l : List Nat) : (l.map fun i => (f i).length).sum = (l.flatMap f).length := by
  rw [List.length_flatMap]

theorem slb_full {n : Nat} : slb 0 (n : Int) n = true := slb_ok (by omega) (by omega) (by omega)
theorem sub_full {α : Type} (l : List α) : sub l 0 l.length = l := by simp [sub]

section
variable {n : Nat} (hn : BIG ≤ n) {s : List Card} (hl : s.length ≤ 81) (hs : ∀ c, c ∈ s → isC c = true)
include hn hs in
theorem ch0 {i j k : Nat} (hi : i < s.length) (hj : j < s.length) (hk : k < s.length) {a : Int} (h0 : 0 ≤ a) (ha : a ≤ 1000000000) (q : Nat) :
    fx (i_choices'l_i_ShadowLines_1pp_o_R n) (q + 1) ([(i : Int), (j : Int), (k : Int)], 0, (s.length : Int), a, s) = some (a + ((l1 s i j k).length : Nat), s) := by
  rw [fx_succ]
  simp only [i_choices'l_i_ShadowLines_1pp_o_R, decide_true, br_true, visit_eq hn hs hi hj hk h0 ha, ob_some]

/-- one level: a loop over the next place -/
theorem ch_loop {n : Nat} (hn : BIG ≤ n) {s : List Card} (hl : s.length ≤ 81) (l : List Int) (hll : l.length ≤ 3) (many : Int) (hm : 1 ≤ many ∧ many ≤ 3) (go : (List Int) × Int × Int × Int × (List (V4 Int)) → Option (Int × (List (V4 Int)))) (g : Nat → Nat) (M : Int)
    (hgo : ∀ i a, i < s.length → 0 ≤ a → a + g i ≤ M → go (l ++ [(i : Int)], many - 1, (s.length : Int), a, s) = some (a + g i, s)) (from_ : Nat) (hf : from_ ≤ s.length) {a : Int} (h0 : 0 ≤ a) (hM : a + (((List.range' from_ (s.length - from_)).map g).sum : Nat) ≤ M) :
    i_choices'l_i_ShadowLines_1pp_o_J2 n go (l, many, (s.length : Int), (from_ : Int), a, s) = some (a + (((List.range' from_ (s.length - from_)).map g).sum : Nat), s) := by
  unfold i_choices'l_i_ShadowLines_1pp_o_J2
  refine fx_sum (B := i_choices'l_i_ShadowLines_1pp_o_L1 n go) s.length (fun i a => (l, many, (s.length : Int), (i : Int), a, s)) g (fun a => some (a, s)) M (fun self i a hi h0 hM => ?_) (fun self a _ _ => ?_) n from_ a hf (big_gt hn (by omega)) h0 hM
  · have e1 : decide ((i : Int) < (s.length : Int)) = true := decide_eq_true (by omega)
    have e2 : decide ((l.length : Int) = (l.length : Int)) = true := decide_eq_true rfl
    have e3 : apok 8 (l.length + 1) = true := apok_ok (by omega) (by omega)
    have e4 : cor l.isEmpty true = true := by cases l.isEmpty <;> rfl
    have e5 : w64 (many - 1) = many - 1 := w64_id (by omega)
    simp only [i_choices'l_i_ShadowLines_1pp_o_L1, e1, br_true, slb_full, e2, sub_full, e3, e4, cand, decide_true, ckb_true, lt_eq, e5, hgo i a hi h0 hM, ob_some]
    rw [w64_succ (by omega)]
  · have e1 : decide ((s.length : Int) < (s.length : Int)) = false := decide_eq_false (by omega)
    simp only [i_choices'l_i_ShadowLines_1pp_o_L1, e1, br_false]

include hn hl hs in
theorem ch1 {i j : Nat} (hi : i < s.length) (hj : j < s.length) {a : Int} (h0 : 0 ≤ a) (ha : a ≤ 100000000) (q : Nat) :
    fx (i_choices'l_i_ShadowLines_1pp_o_R n) (q + 2) ([(i : Int), (j : Int)], 1, (s.length : Int), a, s) = some (a + ((l2 s i j).length : Nat), s) := by
  rw [fx_succ]
  have e1 : decide ((1 : Int) = 0) = false := by decide
  have e2 : decide ((0 : Int) < ([(i : Int), (j : Int)].length : Int)) = true := by simp
  have e3 : w64 (([(i : Int), (j : Int)].length : Int) - 1) = 1 := by simp
  have e4 : inb 1 [(i : Int), (j : Int)].length = true := rfl
  have e5 : gl (0 : Int) [(i : Int), (j : Int)] (1 : Int).toNat = j := rfl
  simp only [i_choices'l_i_ShadowLines_1pp_o_R, e1, br_false, e2, br_true, lt_eq, e3, e4, ckb_true, e5]
  rw [w64_succ (by omega)]
  have h2 := l2_len (s := s) (i := i) (j := j)
  have := ch_loop hn hl [(i : Int), (j : Int)] (by simp) 1 (by omega) (fx (i_choices'l_i_ShadowLines_1pp_o_R n) (q + 1)) (fun k => (l1 s i j k).length) 1000000000 (fun k a hk h0 hM => ch0 hn hs hi hj hk h0 (by have := l1_len (s := s) (i := i) (j := j) (k := k); omega) q) (j + 1) (by omega) h0 (by
    rw [sum_len]; unfold l2 at h2; omega)
  rw [this, sum_len]; rfl
include hn hl hs in
theorem ch2 {i : Nat} (hi : i < s.length) {a : Int} (h0 : 0 ≤ a) (ha : a ≤ 10000000) (q : Nat) :
    fx (i_choices'l_i_ShadowLines_1pp_o_R n) (q + 3) ([(i : Int)], 2, (s.length : Int), a, s) = some (a + ((l3 s i).length : Nat), s) := by
  rw [fx_succ]
  have e1 : decide ((2 : Int) = 0) = false := by decide
  have e2 : decide ((0 : Int) < ([(i : Int)].length : Int)) = true := by simp
  have e3 : w64 (([(i : Int)].length : Int) - 1) = 0 := by simp
  have e4 : inb 0 [(i : Int)].length = true := rfl
  have e5 : gl (0 : Int) [(i : Int)] (0 : Int).toNat = i := rfl
  simp only [i_choices'l_i_ShadowLines_1pp_o_R, e1, br_false, e2, br_true, lt_eq, e3, e4, ckb_true, e5]
  rw [w64_succ (by omega)]
  have h2 := l3_len (s := s) (i := i)
  have b3 : s.length * s.length ≤ 81 * 81 := Nat.mul_le_mul hl hl
  have := ch_loop hn hl [(i : Int)] (by simp) 2 (by omega) (fx (i_choices'l_i_ShadowLines_1pp_o_R n) (q + 2)) (fun j => (l2 s i j).length) 100000000 (fun j a hj h0 hM => ch1 hn hl hs hi hj h0 (by have := l2_len (s := s) (i := i) (j := j); omega) q) (i + 1) (by omega) h0 (by
    rw [sum_len]; unfold l3 at h2; omega)
  rw [this, sum_len]; rfl
include hn hl hs in
theorem ch3 (q : Nat) : fx (i_choices'l_i_ShadowLines_1pp_o_R n) (q + 4) ([], 3, (s.length : Int), 0, s) = some ((((lns s).length : Nat) : Int), s) := by
  rw [fx_succ]
  have e1 : decide ((3 : Int) = 0) = false := by decide
  have e2 : decide ((0 : Int) < (([] : List Int).length : Int)) = false := by simp
  simp only [i_choices'l_i_ShadowLines_1pp_o_R, e1, br_false, e2]
  have h2 := lns_len (s := s)
  have b3 : s.length * (s.length * s.length) ≤ 81 * (81 * 81) := Nat.mul_le_mul hl (Nat.mul_le_mul hl hl)
  have := ch_loop hn hl [] (by simp) 3 (by omega) (fx (i_choices'l_i_ShadowLines_1pp_o_R n) (q + 3)) (fun i => (l3 s i).length) 10000000 (fun i a hi h0 hM => ch2 hn hl hs hi h0 (by omega) q) 0 (by omega) (a := 0) (by omega) (by
    rw [sum_len]; unfold lns at h2; omega)
  have e : ((0 : Nat) : Int) = 0 := rfl
  rw [e] at this
  rw [this, sum_len]; unfold lns; simp
end

def shLines (h : List Card) (m : Int) : Int × Bool := if hand h && maskB m = true then ((((lns (h.map (shadow m))).length : Nat) : Int), true) else (0, false)
theorem map_isC {h : List Card} (hh : hand h = true) (m : Int) : ∀ c, c ∈ h.map (shadow m) → isC c = true := fun c hc => by
  obtain ⟨d, hd, rfl⟩ := List.mem_map.1 hc
  exact shadow_isC (hand_all hh d hd)
theorem s_ShadowLines_eq {n : Nat} (hn : BIG ≤ n) {h : List Card} (hl : h.length ≤ 1048576) (m : Int) : s_ShadowLines n h m = some (shLines h m) := by
  unfold s_ShadowLines shLines
  rw [s_l2Hand_eq hn (by omega), s_l11Mask_eq]
  cases hh : hand h with
  | false => simp
  | true =>
    cases hm : maskB m with
    | false => simp
    | true =>
      have := hand_len hh
      simp [s_l11All_eq hn hl, s_l4Lines_eq hn (s := h.map (shadow m)) (by simp; omega) (map_isC hh m)]
theorem i_ShadowLines_eq {n : Nat} (hn : BIG ≤ n) {h : List Card} (hl : h.length ≤ 1048576) (m : Int) : i_ShadowLines n h m = some (shLines h m) := by
  unfold i_ShadowLines shLines
  rw [i_IsHand_eq hn (by omega), i_IsMask_eq]
  cases hh : hand h with
  | false => simp
  | true =>
    cases hm : maskB m with
    | false => simp
    | true =>
      have hlen := hand_len hh
      have h3 := ch3 hn (s := h.map (shadow m)) (by simp; omega) (map_isC hh m) (n - 4)
      rw [show n - 4 + 4 = n by unfold BIG at hn; omega, List.length_map] at h3
      simp [i_shadows_eq hn hl, i_choices'l_i_ShadowLines_1pp_o, h3]

end Go.Pl
namespace Go.Pl
open Go Go.Tv Go.RowKit
set_option linter.unusedVariables false

def shHand (h : List Card) (m : Int) : Bool × List Card := if hand h && maskB m then (true, sortd (h.map (shadow m))) else (false, [])
theorem map_allC {h : List Card} (hh : hand h = true) (m : Int) : AllC (h.map (shadow m)) := fun c hc => by
  obtain ⟨x, hx, rfl⟩ := List.mem_map.1 hc
  exact shadow_isC (hand_all hh x hx)
theorem s_ShadowHand_eq {n : Nat} (hn : BIG ≤ n) {h : List Card} (hl : h.length ≤ 1048576) (m : Int) : s_ShadowHand n h m = some (shHand h m) := by
  unfold s_ShadowHand shHand
  rw [s_l2Hand_eq hn (by omega), s_l11Mask_eq]
  cases hh : hand h with
  | false => simp
  | true =>
    cases hm : maskB m with
    | false => simp
    | true =>
      have := hand_len hh
      simp [s_l11All_eq hn hl, s_l2Sorted_eq hn (map_allC hh m) (by simp; omega)]
theorem i_ShadowHand_eq {n : Nat} (hn : BIG ≤ n) {h : List Card} (hl : h.length ≤ 1048576) (m : Int) : i_ShadowHand n h m = some (shHand h m) := by
  unfold i_ShadowHand shHand
  rw [i_IsHand_eq hn (by omega), i_IsMask_eq]
  cases hh : hand h with
  | false => simp
  | true =>
    cases hm : maskB m with
    | false => simp
    | true =>
      have := hand_len hh
      simp [i_shadows_eq hn hl, i_sorted_eq hn (map_allC hh m) (by simp; omega)]
theorem shHand_len {h : List Card} (hl : h.length ≤ 1048576) (m : Int) : (shHand h m).2.length ≤ 1048576 := by
  unfold shHand
  split
  · rename_i hc
    rw [Bool.and_eq_true] at hc
    have := (sortd_ok (map_allC hc.1 m)).2.2.2
    simp at this ⊢; omega
  · simp

theorem law_FnExactShadowHand {n : Nat} (hn : BIG ≤ n) (h : List Card) (ok : (Ty.sl (.arr 4 (.int .i64))).ok h) (m : Int) (_ : (Ty.int .i64).ok m) : v_FnExactShadowHand n h m = some true := by
  have hl : h.length ≤ 9223372036854775807 := ok_list ok
  unfold v_FnExactShadowHand
  rw [v_szIntA4S_eq (by omega) (by omega), ob_some]
  by_cases h1 : (1048576 : Int) - (h.length : Int) < 0
  · rw [if_pos h1]; rfl
  have hl2 : h.length ≤ 1048576 := by omega
  have hl3 := shHand_len hl2 m
  have p1 : decide ((1 : Int) + 4 * (h.length : Int) < 0) = false := decide_eq_false (by omega)
  have p2 : decide ((1 : Int) + 4 * ((shHand h m).2.length : Int) < 0) = false := decide_eq_false (by omega)
  rw [if_neg h1, decide_eq_false h1, br_false]
  simp only [v_toIntA4S_eq hn (show h.length ≤ 1099511627776 by omega), ob_some, s_ShadowHand_eq hn hl2, i_ShadowHand_eq hn hl2, v_eqIntA4S_eq hn (show (shHand h m).2.length ≤ 9223372036854775807 by omega),
    v_eqIntA4S_eq hn hl, v_markIntA4S'o_eq hn (l := h) (k := 1) (by omega) (by omega), v_markIntA4S'o_eq hn (l := (shHand h m).2) (k := 1) (by omega) (by omega), v_heldIntA4S_eq hn (l := (shHand h m).2) (k := 1) (by omega) (by omega),
    p1, p2, decide_true, Bool.not_true, br_false, br_some, beq_self_eq_true, Bool.false_eq_true, if_false]
end Go.Pl
namespace Go.Pl
open Go Go.Tv Go.RowKit
set_option linter.unusedVariables false

def ones (m : Nat) : Nat := m % 2 + m / 2 % 2 + m / 4 % 2 + m / 8 % 2
noncomputable def chkOnes (n : Nat) : Bool := (List.range 16).all fun m => decide (math_bits_OnesCount n (IntKind.wrap .u64 (m : Int)) = some (ones m : Int)) && decide (s_l11Kept (n + 8) (m : Int) = some (ones m : Int))
theorem chkOnes_ok (n : Nat) : chkOnes n = true := by kernel_rfl
theorem ones_i (n : Nat) {m : Nat} (h : m ≤ 15) : math_bits_OnesCount n (IntKind.wrap .u64 (m : Int)) = some (ones m : Int) := by
  have := List.all_eq_true.1 (chkOnes_ok n) m (List.mem_range.2 (by omega))
  rw [Bool.and_eq_true] at this
  exact of_decide_eq_true this.1
theorem ones_s {n : Nat} (hn : BIG ≤ n) {m : Nat} (h : m ≤ 15) : s_l11Kept n (m : Int) = some (ones m : Int) := by
  obtain ⟨k, rfl⟩ : ∃ k, n = k + 8 := ⟨n - 8, by unfold BIG at hn; omega⟩
  have := List.all_eq_true.1 (chkOnes_ok k) m (List.mem_range.2 (by omega))
  rw [Bool.and_eq_true] at this
  exact of_decide_eq_true this.2
def key (m : Nat) : Nat := 16 * ones m + m
/-- the best mask of all with p -/
structure BestM (p : Nat → Prop) (lo hi b : Nat) : Prop where
  is : b = 15 ∨ (p b ∧ lo ≤ b ∧ b < hi)
  le : b ≤ 15
  mn : ∀ m, lo ≤ m → m < hi → p m → key b ≤ key m
theorem key_inj {a b : Nat} (ha : a ≤ 15) (hb : b ≤ 15) (h : key a = key b) : a = b := by unfold key at h; omega
theorem best_uniq {p : Nat → Prop} {a b : Nat} (ha : BestM p 1 15 a) (hb : BestM p 1 15 b) : a = b := by
  have e : ∀ {a b : Nat}, BestM p 1 15 a → BestM p 1 15 b → key a ≤ key b := fun {a b} ha hb => by
    rcases hb.is with h | ⟨h1, h2, h3⟩
    · subst h
      have := ha.le
      have : ones a ≤ 4 := by unfold ones; omega
      have h15 : ones 15 = 4 := by decide
      unfold key; omega
    · exact ha.mn b h2 h3 h1
  exact key_inj ha.le hb.le (Nat.le_antisymm (e ha hb) (e hb ha))
def dis (h : List Card) (m : Nat) : Prop := (sortd (h.map (shadow (m : Int)))).length = h.length
def LQ2 (h : List Card) (o : Opt (Int × Bool)) : Prop := ∃ b : Nat, o = some ((b : Int), true) ∧ BestM (dis h) 1 15 b
theorem i_LeastMask_ok {n : Nat} (hn : BIG ≤ n) {h : List Card} (hh : hand h = true) : LQ2 h (i_LeastMask n h) := by
  have hlen := hand_len hh
  unfold i_LeastMask
  rw [i_IsHand_eq hn (by omega), hh, ob_some, Bool.not_true, br_false]
  refine fx_inv (B := i_LeastMask_L1 n) (fun s => ∃ (b m : Nat), s = (h, (b : Int), (m : Int)) ∧ 1 ≤ m ∧ m ≤ 15 ∧ BestM (dis h) 1 m b) (fun s => 100 - s.2.2.toNat) (LQ2 h) ?_ n _ ⟨15, 1, rfl, by omega, by omega, .inl rfl, by omega, fun m _ _ => by omega⟩ (big_gt hn (by simp only []; omega))
  rintro self _ ⟨b, m, rfl, h1, h15, B⟩ ih
  simp only [i_LeastMask_L1, lt_eq]
  by_cases hm : m < 15
  · rw [br_pos (decide_eq_true (show (m : Int) < 15 by omega)), i_shadows_eq hn (by omega), ob_some, i_sorted_eq hn (map_allC hh _) (by simp; omega), ob_some, w64_succ (by omega), ones_i n (by omega), ob_some, ones_i n B.le, ob_some]
    by_cases hd : (sortd (h.map (shadow (m : Int)))).length = h.length
    · rw [br_neg (show (!decide (((sortd (h.map (shadow (m : Int)))).length : Int) = (h.length : Int))) = false by rw [hd]; simp)]
      have hdd : dis h m := hd
      simp only [br_some, ob_some]
      by_cases hk : key m < key b
      · have : (if decide ((ones m : Int) < (ones b : Int)) = true then true else if decide ((ones m : Int) = (ones b : Int)) = true then decide ((m : Int) < (b : Int)) else false) = true := by
          have := B.le
          unfold key at hk
          by_cases c1 : (ones m : Int) < (ones b : Int)
          · simp [c1]
          · have c2 : (ones m : Int) = (ones b : Int) := by omega
            have c3 : (m : Int) < (b : Int) := by omega
            simp [c2, c3]
        rw [br_pos this]
        refine ih _ ⟨m, m + 1, rfl, by omega, by omega, .inr ⟨hdd, h1, by omega⟩, by omega, fun k k1 k2 k3 => ?_⟩ (by simp only []; omega)
        by_cases hkm : k = m
        · subst hkm; exact Nat.le_refl _
        · have := B.mn k k1 (by omega) k3; omega
      · have : (if decide ((ones m : Int) < (ones b : Int)) = true then true else if decide ((ones m : Int) = (ones b : Int)) = true then decide ((m : Int) < (b : Int)) else false) = false := by
          have := B.le
          unfold key at hk
          by_cases c1 : (ones m : Int) < (ones b : Int)
          · omega
          · by_cases c2 : (ones m : Int) = (ones b : Int)
            · have c3 : ¬ (m : Int) < (b : Int) := by omega
              simp [c2, c3]
            · simp [c1, c2]
        rw [br_neg this]
        refine ih _ ⟨b, m + 1, rfl, by omega, by omega, ?_, B.le, fun k k1 k2 k3 => ?_⟩ (by simp only []; omega)
        · rcases B.is with e | ⟨e1, e2, e3⟩
          · exact .inl e
          · exact .inr ⟨e1, e2, by omega⟩
        · by_cases hkm : k = m
          · subst hkm; omega
          · exact B.mn k k1 (by omega) k3
    · rw [br_pos (show (!decide (((sortd (h.map (shadow (m : Int)))).length : Int) = (h.length : Int))) = true by rw [decide_eq_false (by omega)]; rfl)]
      refine ih _ ⟨b, m + 1, rfl, by omega, by omega, ?_, B.le, fun k k1 k2 k3 => ?_⟩ (by simp only []; omega)
      · rcases B.is with e | ⟨e1, e2, e3⟩
        · exact .inl e
        · exact .inr ⟨e1, e2, by omega⟩
      · by_cases hkm : k = m
        · subst hkm; exact absurd k3 hd
        · exact B.mn k k1 (by omega) k3
  · have : m = 15 := by omega
    subst this
    rw [br_neg (decide_eq_false (by omega))]
    exact ⟨b, rfl, B⟩
theorem s_LeastMask_ok {n : Nat} (hn : BIG ≤ n) {h : List Card} (hh : hand h = true) : LQ2 h (s_LeastMask n h) := by
  have hlen := hand_len hh
  unfold s_LeastMask
  rw [s_l2Hand_eq hn (by omega), hh, ob_some, Bool.not_true, br_false]
  refine fx_inv (B := s_LeastMask_L1 n) (fun s => ∃ (b m : Nat), s = (h, (b : Int), (m : Int)) ∧ m ≤ 14 ∧ BestM (dis h) (m + 1) 15 b) (fun s => s.2.2.toNat) (LQ2 h) ?_ n _ ⟨15, 14, rfl, by omega, .inl rfl, by omega, fun m _ _ => by omega⟩ (big_gt hn (by simp only []; omega))
  rintro self _ ⟨b, m, rfl, h15, B⟩ ih
  simp only [s_LeastMask_L1, lt_eq]
  by_cases hm : 1 ≤ m
  · rw [br_pos (decide_eq_true (show (1 : Int) ≤ (m : Int) by omega)), s_l11All_eq hn (by omega), ob_some, s_l2Sorted_eq hn (map_allC hh _) (by simp; omega), ob_some, w64_pred hm (by omega), ones_s hn (by omega), ob_some, ones_s hn B.le, ob_some]
    by_cases hd : (sortd (h.map (shadow (m : Int)))).length = h.length
    · rw [br_pos (decide_eq_true (show ((sortd (h.map (shadow (m : Int)))).length : Int) = (h.length : Int) by rw [hd])), ob_some, br_dec]
      have hdd : dis h m := hd
      have hbm : m < b := by
        rcases B.is with e | ⟨e1, e2, e3⟩ <;> omega
      split
      · refine ih _ ⟨m, m - 1, rfl, by omega, .inr ⟨hdd, by omega, by omega⟩, by omega, fun k k1 k2 k3 => ?_⟩ (by simp only []; omega)
        by_cases hkm : k = m
        · subst hkm; exact Nat.le_refl _
        · have := B.mn k (by omega) k2 k3
          unfold key at this ⊢; omega
      · refine ih _ ⟨b, m - 1, rfl, by omega, ?_, B.le, fun k k1 k2 k3 => ?_⟩ (by simp only []; omega)
        · rcases B.is with e | ⟨e1, e2, e3⟩
          · exact .inl e
          · exact .inr ⟨e1, by omega, e3⟩
        · by_cases hkm : k = m
          · subst hkm; have := B.le; unfold key; omega
          · exact B.mn k (by omega) k2 k3
    · rw [br_neg (decide_eq_false (show ¬ ((sortd (h.map (shadow (m : Int)))).length : Int) = (h.length : Int) by omega)), ob_some, br_false]
      refine ih _ ⟨b, m - 1, rfl, by omega, ?_, B.le, fun k k1 k2 k3 => ?_⟩ (by simp only []; omega)
      · rcases B.is with e | ⟨e1, e2, e3⟩
        · exact .inl e
        · exact .inr ⟨e1, by omega, e3⟩
      · by_cases hkm : k = m
        · subst hkm; exact absurd k3 hd
        · exact B.mn k (by omega) k2 k3
  · have : m = 0 := by omega
    subst this
    rw [br_neg (decide_eq_false (by omega))]
    exact ⟨b, rfl, B⟩
theorem LeastMask_eq {n : Nat} (hn : BIG ≤ n) {h : List Card} (hl : h.length ≤ 1048576) : ∃ r, s_LeastMask n h = some r ∧ i_LeastMask n h = some r ∧ (hand h = true → ∃ b : Nat, r = ((b : Int), true) ∧ 1 ≤ b ∧ b ≤ 15 ∧ (b = 15 ∨ dis h b)) := by
  cases hh : hand h with
  | false =>
    refine ⟨(0, false), ?_, ?_, fun h => by cases h⟩
    · unfold s_LeastMask; rw [s_l2Hand_eq hn (by omega), hh]; rfl
    · unfold i_LeastMask; rw [i_IsHand_eq hn (by omega), hh]; rfl
  | true =>
    obtain ⟨a, e1, A⟩ := i_LeastMask_ok hn hh
    obtain ⟨b, e2, B⟩ := s_LeastMask_ok hn hh
    have := best_uniq A B
    subst this
    refine ⟨_, e2, e1, fun _ => ⟨a, rfl, ?_, A.le, ?_⟩⟩
    · rcases A.is with e | ⟨h1, h2, h3⟩ <;> omega
    · rcases A.is with e | ⟨h1, h2, h3⟩
      · exact .inl e
      · exact .inr h1
theorem law_FnExactLeastMask {n : Nat} (hn : BIG ≤ n) (h : List Card) (ok : (Ty.sl (.arr 4 (.int .i64))).ok h) : v_FnExactLeastMask n h = some true := by
  have hl : h.length ≤ 9223372036854775807 := ok_list ok
  unfold v_FnExactLeastMask
  rw [v_szIntA4S_eq (by omega) (by omega), ob_some]
  by_cases h1 : (1048576 : Int) - (h.length : Int) < 0
  · rw [if_pos h1]; rfl
  have hl2 : h.length ≤ 1048576 := by omega
  obtain ⟨r, e1, e2, _⟩ := LeastMask_eq hn hl2
  rw [if_neg h1, decide_eq_false h1, br_false]
  simp only [v_toIntA4S_eq hn (show h.length ≤ 1099511627776 by omega), ob_some, e1, e2, v_eqIntA4S_eq hn hl, decide_true, Bool.not_true, br_false, br_some, beq_self_eq_true, Bool.false_eq_true, if_false]
end Go.Pl
