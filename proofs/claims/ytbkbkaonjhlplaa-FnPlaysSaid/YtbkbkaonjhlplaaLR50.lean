/- Plain laws: R50. -/
import Derived.Test.YtbkbkaonjhlplaaLLPy
import Derived.Test.YtbkbkaonjhlplaaPL
set_option linter.unusedVariables false
set_option linter.unusedSimpArgs false
namespace Go.Pl
open Go Go.Tv Go.RowKit
set_option linter.unusedVariables false
set_option linter.unusedSimpArgs false

def ovB (d : Deal) : Bool := decide ((linesOf d.2.2).length = 0) && decide (d.2.1 = 81)
theorem s_lines' {n : Nat} (hn : BIG ≤ n) {p : List Card} (hp : p.Perm deck) {d : Deal} (h : DealOK p d) : s_l4Lines n d.2.2 = some (linesOf d.2.2) := by
  obtain ⟨h81, _, _⟩ := pile_facts hp
  rw [s_l4Lines_eq hn (h.len h81) (h.isC hp), lns_eq h.nodup]
theorem isOver_eq {n : Nat} (hn : BIG ≤ n) {p : List Card} (hp : p.Perm deck) {d : Deal} (h : DealOK p d) : _impl_Deal__isOver n d = some (ovB d) := by
  unfold _impl_Deal__isOver ovB
  rw [isStuck_eq hn hp h]
  cases decide ((linesOf d.2.2).length = 0) <;> rfl
theorem s_l4Over_eq {n : Nat} (hn : BIG ≤ n) {p : List Card} (hp : p.Perm deck) {d : Deal} (h : DealOK p d) : s_l4Over n d = some (ovB d) := by
  unfold s_l4Over ovB
  rw [s_lines' hn hp h, ob_some]
  have e : decide (((linesOf d.2.2).length : Int) = 0) = decide ((linesOf d.2.2).length = 0) := by congr 1; apply propext; omega
  rw [e]
  cases decide (d.2.1 = 81) <;> cases decide ((linesOf d.2.2).length = 0) <;> rfl
def fstL (d : Deal) : V3 Int := gl ⟨0, 0, 0⟩ (linesOf d.2.2) 0
theorem step_lay {n : Nat} (hn : BIG ≤ n) {p : List Card} {d : Deal} (P : Piles n d.1 p) (h : DealOK p d) (h0 : (linesOf d.2.2).length = 0) : _impl_Deal__step n d = some (d.1, (layD p d 3).2.1, false, (layD p d 3).2.2) ∧ s_l4Step n d = some (d.1, (layD p d 3).2.1, (layD p d 3).2.2) := by
  obtain ⟨h81, _, _⟩ := pile_facts P.perm
  have hl := h.len h81
  unfold _impl_Deal__step s_l4Step
  rw [s_lines' hn P.perm h, i_linesIn_eq hn hl (h.isC P.perm) h.nodup, ob_some, ob_some, br_neg (decide_eq_false (by omega)), br_pos (decide_eq_true (by omega)), i_lay_eq hn P.ii h81 h.laid hl (by omega), s_l4Lay_eq P.ss h81 h.laid hl (by omega)]
  exact ⟨rfl, rfl⟩
theorem step_take {n : Nat} (hn : BIG ≤ n) {p : List Card} {d : Deal} (P : Piles n d.1 p) (h : DealOK p d) (h0 : ¬ (linesOf d.2.2).length = 0) : _impl_Deal__step n d = some (d.1, (takeD p d (fstL d)).2.1, true, (takeD p d (fstL d)).2.2) ∧ s_l4Step n d = some (d.1, (takeD p d (fstL d)).2.1, (takeD p d (fstL d)).2.2) := by
  obtain ⟨h81, _, _⟩ := pile_facts P.perm
  have hl := h.len h81
  unfold _impl_Deal__step s_l4Step
  have hi : inb 0 (linesOf d.2.2).length = true := inb_ok (i := 0) (by omega)
  rw [s_lines' hn P.perm h, i_linesIn_eq hn hl (h.isC P.perm) h.nodup, ob_some, ob_some, br_pos (decide_eq_true (by omega)), br_neg (decide_eq_false (by omega)), ckb_pos hi, ckb_pos hi]
  have e1 := i_take_eq hn P.ii P.perm h (fstL d)
  have e2 := s_l4Take_eq hn P.ss P.perm h (fstL d)
  unfold fstL at e1 e2
  rw [e1, e2]
  exact ⟨rfl, rfl⟩
def mu (d : Deal) : Nat := (2 * (81 - d.2.1) + (d.2.2.length : Int)).toNat
structure PlR (n : Nat) (p : List Card) (k t m : Nat) (d : Deal) (t' m' : Nat) (d' : Deal) (sz : List Int) : Prop where
  ip : fx (i_PlayDeal_L1 n) k ((t : Int), (m : Int), d.1, d.2.1, d.2.2) = some ((t' : Int), (m' : Int), true, sortd d'.2.2)
  sp : fx (s_PlayDeal_L1 n) k ((t : Int), (m : Int), d.1, d.2.1, d.2.2) = some ((t' : Int), (m' : Int), true, sortd d'.2.2)
  iz : ∀ a : List Int, a.length + mu d ≤ 1000 → fx (i_DealSizes_L1 n) k (d.1, d.2.1, a ++ [(d.2.2.length : Int)], d.2.2) = some (true, a ++ sz)
  sz' : ∀ a : List Int, a.length + mu d ≤ 1000 → fx (s_DealSizes_L1 n) k (a, d.1, d.2.1, d.2.2) = some (true, a ++ sz)
  I : PlI p t' d'
  ov : ovB d' = true
  cnt : sz.length + t + m = t' + m' + 1
  last : ∃ b, sz = b ++ [(d'.2.2.length : Int)]
  le : ∀ x ∈ sz, x ≤ 21
  bd : sz.length ≤ mu d + 1
theorem play_go {n : Nat} (hn : BIG ≤ n) {p : List Card} : ∀ (k t m : Nat) (d : Deal), Piles n d.1 p → PlI p t d → mu d < k → t + m + mu d ≤ 1000 → ∃ t' m' d' sz, PlR n p k t m d t' m' d' sz
  | 0, _, _, _, _, _, h, _ => by omega
  | k + 1, t, m, d, P, I, hk, hb => by
    have hI := I.le
    have hO := I.ok
    have e1 := isOver_eq hn P.perm hO
    have e2 := s_l4Over_eq hn P.perm hO
    have l1 := hO.laid
    cases ho : ovB d with
    | true =>
      rw [ho] at e1 e2
      refine ⟨t, m, d, [(d.2.2.length : Int)], ?_, ?_, fun a ha => ?_, fun a ha => ?_, I, ho, by simp; omega, ⟨[], rfl⟩, fun x hx => by rw [List.mem_singleton.1 hx]; omega, by simp⟩
      · rw [fx_succ]
        simp only [i_PlayDeal_L1]
        rw [show _impl_Deal__isOver n (d.1, (d.2.1, d.2.2)) = some true from e1, ob_some, Bool.not_true, br_false, i_sorted_eq hn (hO.isC P.perm) (by omega)]; rfl
      · rw [fx_succ]
        simp only [s_PlayDeal_L1]
        rw [show s_l4Over n (d.1, (d.2.1, d.2.2)) = some true from e2, ob_some, Bool.not_true, br_false, s_l2Sorted_eq hn (hO.isC P.perm) (by omega)]; rfl
      · rw [fx_succ]
        simp only [i_DealSizes_L1]
        rw [show _impl_Deal__isOver n (d.1, (d.2.1, d.2.2)) = some true from e1, ob_some, Bool.not_true, br_false]
      · rw [fx_succ]
        simp only [s_DealSizes_L1]
        rw [show s_l4Over n (d.1, (d.2.1, d.2.2)) = some true from e2, ob_some, Bool.not_true, br_false, ckb_pos (apok_ok (by omega) (by omega))]
    | false =>
      rw [ho] at e1 e2
      by_cases h0 : (linesOf d.2.2).length = 0
      · have hne : d.2.1 ≠ 81 := fun e => by unfold ovB at ho; rw [decide_eq_true h0, decide_eq_true e] at ho; cases ho
        obtain ⟨I', d3⟩ := I.lay P.perm h0 hne
        obtain ⟨s1, s2⟩ := step_lay hn P hO h0
        have hlen : ((layD p d 3).2.2.length : Int) ≤ d.2.2.length + 3 := by have := I.cnt; have := I'.cnt; omega
        have hmu : mu (layD p d 3) + 1 ≤ mu d := by unfold mu; have := I'.ok.laid; omega
        obtain ⟨t', m', d', sz, R⟩ := play_go hn k t (m + 1) (layD p d 3) P I' (by omega) (by omega)
        have hcnt := R.cnt
        refine ⟨t', m', d', (d.2.2.length : Int) :: sz, ?_, ?_, fun a ha => ?_, fun a ha => ?_, R.I, R.ov, by rw [List.length_cons]; omega, by obtain ⟨b, hb⟩ := R.last; exact ⟨_ :: b, by rw [hb]; rfl⟩, fun x hx => by
          rcases List.mem_cons.1 hx with rfl | hx
          · omega
          · exact R.le x hx, by have := R.bd; rw [List.length_cons]; omega⟩
        · rw [fx_succ]
          simp only [i_PlayDeal_L1]
          rw [show _impl_Deal__isOver n (d.1, (d.2.1, d.2.2)) = some false from e1, ob_some, Bool.not_false, br_true, show _impl_Deal__step n (d.1, (d.2.1, d.2.2)) = _ from s1, ob_some]
          simp only [br_false, lt_eq]
          rw [w64_succ (by omega)]; exact R.ip
        · rw [fx_succ]
          simp only [s_PlayDeal_L1]
          rw [show s_l4Over n (d.1, (d.2.1, d.2.2)) = some false from e2, ob_some, Bool.not_false, br_true, s_lines' hn P.perm hO, ob_some, br_neg (decide_eq_false (by omega)), lt_eq, show s_l4Step n (d.1, (d.2.1, d.2.2)) = _ from s2, ob_some, w64_succ (by omega)]; exact R.sp
        · rw [fx_succ]
          simp only [i_DealSizes_L1]
          rw [show _impl_Deal__isOver n (d.1, (d.2.1, d.2.2)) = some false from e1, ob_some, Bool.not_false, br_true, show _impl_Deal__step n (d.1, (d.2.1, d.2.2)) = _ from s1, ob_some, ckb_pos (apok_ok (by rw [List.length_append]; simp; omega) (by rw [List.length_append]; simp; omega))]
          have := R.iz (a ++ [(d.2.2.length : Int)]) (by rw [List.length_append, List.length_singleton]; omega)
          rw [List.append_assoc] at this
          rw [show (layD p d 3).1 = d.1 from rfl] at this
          exact (by simpa using this)
        · rw [fx_succ]
          simp only [s_DealSizes_L1]
          rw [show s_l4Over n (d.1, (d.2.1, d.2.2)) = some false from e2, ob_some, Bool.not_false, br_true, ckb_pos (apok_ok (by omega) (by omega)), show s_l4Step n (d.1, (d.2.1, d.2.2)) = _ from s2, ob_some]
          have := R.sz' (a ++ [(d.2.2.length : Int)]) (by rw [List.length_append, List.length_singleton]; omega)
          rw [show (layD p d 3).1 = d.1 from rfl] at this
          exact (by simpa using this)
      · have hx : fstL d ∈ linesOf d.2.2 := by unfold fstL; rw [gl_eq (by omega)]; exact List.getElem_mem _
        obtain ⟨I', d3⟩ := I.take P.perm hx
        obtain ⟨s1, s2⟩ := step_take hn P hO h0
        have hmu : mu (takeD p d (fstL d)) + 1 ≤ mu d := by unfold mu; have := I'.ok.laid; omega
        obtain ⟨t', m', d', sz, R⟩ := play_go hn k (t + 1) m (takeD p d (fstL d)) P I' (by omega) (by omega)
        have hcnt := R.cnt
        refine ⟨t', m', d', (d.2.2.length : Int) :: sz, ?_, ?_, fun a ha => ?_, fun a ha => ?_, R.I, R.ov, by rw [List.length_cons]; omega, by obtain ⟨b, hb⟩ := R.last; exact ⟨_ :: b, by rw [hb]; rfl⟩, fun x hx => by
          rcases List.mem_cons.1 hx with rfl | hx
          · omega
          · exact R.le x hx, by have := R.bd; rw [List.length_cons]; omega⟩
        · rw [fx_succ]
          simp only [i_PlayDeal_L1]
          rw [show _impl_Deal__isOver n (d.1, (d.2.1, d.2.2)) = some false from e1, ob_some, Bool.not_false, br_true, show _impl_Deal__step n (d.1, (d.2.1, d.2.2)) = _ from s1, ob_some]
          simp only [br_true, lt_eq]
          rw [w64_succ (by omega)]; exact R.ip
        · rw [fx_succ]
          simp only [s_PlayDeal_L1]
          rw [show s_l4Over n (d.1, (d.2.1, d.2.2)) = some false from e2, ob_some, Bool.not_false, br_true, s_lines' hn P.perm hO, ob_some, br_pos (decide_eq_true (by omega)), lt_eq, show s_l4Step n (d.1, (d.2.1, d.2.2)) = _ from s2, ob_some, w64_succ (by omega)]; exact R.sp
        · rw [fx_succ]
          simp only [i_DealSizes_L1]
          rw [show _impl_Deal__isOver n (d.1, (d.2.1, d.2.2)) = some false from e1, ob_some, Bool.not_false, br_true, show _impl_Deal__step n (d.1, (d.2.1, d.2.2)) = _ from s1, ob_some, ckb_pos (apok_ok (by rw [List.length_append]; simp; omega) (by rw [List.length_append]; simp; omega))]
          have := R.iz (a ++ [(d.2.2.length : Int)]) (by rw [List.length_append, List.length_singleton]; omega)
          rw [List.append_assoc] at this
          rw [show (takeD p d (fstL d)).1 = d.1 from rfl] at this
          exact (by simpa using this)
        · rw [fx_succ]
          simp only [s_DealSizes_L1]
          rw [show s_l4Over n (d.1, (d.2.1, d.2.2)) = some false from e2, ob_some, Bool.not_false, br_true, ckb_pos (apok_ok (by omega) (by omega)), show s_l4Step n (d.1, (d.2.1, d.2.2)) = _ from s2, ob_some]
          have := R.sz' (a ++ [(d.2.2.length : Int)]) (by rw [List.length_append, List.length_singleton]; omega)
          rw [show (takeD p d (fstL d)).1 = d.1 from rfl] at this
          exact (by simpa using this)

/-! the end of a play -/
theorem deck_sum : ∀ q, q < 4 → sm (cx q) deck = 81 := by decide +kernel
structure EndR (t : Nat) (h : List Card) : Prop where
  hand : hand h = true
  lines : linesOf h = []
  sum : sumC h = ⟨0, 0, 0, 0⟩
  n3 : h.length ≠ 3
  cnt : 3 * t + h.length = 81
theorem capP_mem {d e : List Card} (h : ∀ c, c ∈ d ↔ c ∈ e) (hc : CapP d) : CapP e := fun a ha b hb hne hm => hc a ((h a).2 ha) b ((h b).2 hb) hne ((h _).2 hm)
theorem play_end {p : List Card} (hp : p.Perm deck) {t : Nat} {d : Deal} (I : PlI p t d) (ho : ovB d = true) : EndR t (sortd d.2.2) ∧ (sortd d.2.2).length = d.2.2.length := by
  have H := I.handL hp
  unfold ovB at ho
  rw [Bool.and_eq_true, decide_eq_true_iff, decide_eq_true_iff] at ho
  obtain ⟨h0, h81⟩ := ho
  have hcap := (capB_iff H).1 (decide_eq_true h0)
  obtain ⟨b1, b2, b3, b4⟩ := sortd_ok H.c
  have hl := sortd_length H.nd
  have ht := cap_len H.c H.nd hcap
  have hh : hand (sortd d.2.2) = true := hand_iff.2 ⟨b1, b2, by omega⟩
  have H' := HandL.of hh
  have hcap' := capP_mem (fun c => (b3 c).symm) hcap
  have hl0 : linesOf (sortd d.2.2) = [] := List.length_eq_zero_iff.1 (of_decide_eq_true ((capB_iff H').2 hcap'))
  have hsum : ∀ q, q < 4 → sm (cx q) (sortd d.2.2) % 3 = 0 := fun q hq => by
    rw [sortd_sum H.nd]
    have h1 := I.sum q
    obtain ⟨hp81, _, _⟩ := pile_facts hp
    rw [h81, show (81 : Int).toNat = p.length by rw [hp81]; rfl, List.take_length, sm_perm hp, deck_sum q hq] at h1
    omega
  have hcnt := I.cnt
  refine ⟨⟨hh, hl0, ?_, fun h3 => ?_, by omega⟩, hl⟩
  · unfold sumC
    rw [hsum 0 (by omega), hsum 1 (by omega), hsum 2 (by omega), hsum 3 (by omega)]
  · match he : sortd d.2.2, h3 with
    | [a, b, c], _ =>
      rw [he] at hsum H' hcap'
      have ca := H'.c a (by simp); have cb := H'.c b (by simp); have cc := H'.c c (by simp)
      have hne : a ≠ b := fun e => by have := H'.nd; rw [e] at this; simp at this
      refine hcap' a (by simp) b (by simp) hne ?_
      have : third a b = c := by
        have k0 := hsum 0 (by omega); have k1 := hsum 1 (by omega); have k2 := hsum 2 (by omega); have k3 := hsum 3 (by omega)
        simp only [sm_cons, sm_nil, cx, V4.get] at k0 k1 k2 k3
        rw [isC_iff] at ca cb cc
        have key : ∀ x y z : Int, 0 ≤ x ∧ x ≤ 2 → 0 ≤ y ∧ y ≤ 2 → 0 ≤ z ∧ z ≤ 2 → (x + (y + (z + 0))) % 3 = 0 → t3 x y = z := fun x y z hx hy hz h => by
          unfold t3
          rw [Int.tmod_eq_emod_of_nonneg (by omega)]; omega
        unfold third
        rw [key _ _ _ ca.1 cb.1 cc.1 k0, key _ _ _ ca.2.1 cb.2.1 cc.2.1 k1, key _ _ _ ca.2.2.1 cb.2.2.1 cc.2.2.1 k2, key _ _ _ ca.2.2.2 cb.2.2.2 cc.2.2.2 k3]
      rw [this]; simp
theorem v_rInts_eq {n : Nat} (hn : BIG ≤ n) {a b : List Int} (hl : a.length ≤ 9223372036854775806) : v_rInts n a b = some (decide (a = b)) := v_vInts_eq hn hl
end Go.Pl
