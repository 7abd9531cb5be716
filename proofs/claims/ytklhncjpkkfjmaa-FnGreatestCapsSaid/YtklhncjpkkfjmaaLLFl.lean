/- Plain laws: LFl. -/
import Derived.Test.YtklhncjpkkfjmaaLLRs
import Derived.Test.YtklhncjpkkfjmaaLLSpn
import Derived.Test.YtklhncjpkkfjmaaLLCap3
import Derived.Test.YtklhncjpkkfjmaaPL
set_option linter.unusedVariables false
set_option linter.unusedSimpArgs false
namespace Go.Pl
open Go Go.Tv Go.RowKit
set_option linter.unusedVariables false

/-! hands are sorted -/
theorem handP_iff : ∀ {p : Option Card} {l : List Card}, handP p l = true ↔ AllC l ∧ SS l ∧ (∀ q, p = some q → ∀ c ∈ l, num q < num c)
  | p, [] => by
    constructor
    · intro _; exact ⟨fun c h => (by cases h), List.Pairwise.nil, fun q _ c h => by cases h⟩
    · intro _; rfl
  | p, c :: l => by
    rw [handP_cons, Bool.and_eq_true, Bool.and_eq_true, handP_iff]
    constructor
    · rintro ⟨⟨h1, h2⟩, h3, h4, h5⟩
      refine ⟨fun x hx => ?_, List.pairwise_cons.2 ⟨fun x hx => h5 c rfl x hx, h4⟩, fun q hq x hx => ?_⟩
      · rcases List.mem_cons.1 hx with rfl | hx
        · exact h1
        · exact h3 x hx
      · subst hq
        have h2 : num q < num c := of_decide_eq_true h2
        rcases List.mem_cons.1 hx with rfl | hx
        · exact h2
        · exact Int.lt_trans h2 (h5 c rfl x hx)
    · rintro ⟨h1, h2, h3⟩
      obtain ⟨h4, h5⟩ := List.pairwise_cons.1 h2
      refine ⟨⟨h1 c List.mem_cons_self, ?_⟩, fun x hx => h1 x (List.mem_cons_of_mem _ hx), h5, fun q hq x hx => ?_⟩
      · cases p with
        | none => rfl
        | some q => exact decide_eq_true (h3 q rfl c List.mem_cons_self)
      · cases hq; exact h4 x hx
theorem hand_iff {h : List Card} : hand h = true ↔ AllC h ∧ SS h ∧ h.length ≤ 27 := by
  unfold hand
  rw [Bool.and_eq_true, handP_iff]
  constructor
  · rintro ⟨⟨h1, h2, _⟩, h3⟩; exact ⟨h1, h2, of_decide_eq_true h3⟩
  · rintro ⟨h1, h2, h3⟩; exact ⟨⟨h1, h2, fun q hq => by cases hq⟩, decide_eq_true h3⟩
theorem sortd_id {h : List Card} (hc : AllC h) (hs : SS h) : sortd h = h :=
  ss_uniq (sortd_ok hc).2.1 hs fun c => (sortd_ok hc).2.2.1 c

/-! caps -/
def CapP (h : List Card) : Prop := ∀ a ∈ h, ∀ b ∈ h, a ≠ b → third a b ∉ h
def capB (h : List Card) : Bool := decide ((linesOf h).length = 0)
theorem capB_iff {h : List Card} (H : HandL h) : capB h = true ↔ CapP h := by
  unfold capB
  rw [decide_eq_true_iff]
  constructor
  · intro h0 a ha b hb hne hm
    obtain ⟨p, hp, rfl⟩ := mem_gz.1 ha
    obtain ⟨q, hq, rfl⟩ := mem_gz.1 hb
    have hnil := List.length_eq_zero_iff.1 h0
    have hpq : p ≠ q := fun e => hne (by rw [e])
    have : ∃ x, x ∈ linesOf h := by
      rcases Nat.lt_or_gt_of_ne hpq with h | h
      · obtain ⟨x, hx, _⟩ := line_ex H h hq (by rw [th_comm]; exact List.contains_iff_mem.2 hm); exact ⟨x, hx⟩
      · obtain ⟨x, hx, _⟩ := line_ex H h hp (List.contains_iff_mem.2 hm); exact ⟨x, hx⟩
    obtain ⟨x, hx⟩ := this
    rw [hnil] at hx; cases hx
  · intro hcap
    refine Nat.eq_zero_of_not_pos fun hp => ?_
    obtain ⟨x, hx⟩ := List.exists_mem_of_length_pos hp
    obtain ⟨i, j, k, rfl, L⟩ := (mem_lines H).1 hx
    have h1 := L.ij; have h2 := L.jk; have h3 := L.kl
    refine hcap (gz h i) (mem_gz.2 ⟨i, by omega, rfl⟩) (gz h j) (mem_gz.2 ⟨j, by omega, rfl⟩) (H.ne (by omega) (by omega) (by omega)) ?_
    rw [L.e]; exact mem_gz.2 ⟨k, h3, rfl⟩
theorem i_isCap_eq {n : Nat} (hn : BIG ≤ n) {h : List Card} (hh : hand h = true) : i_isCap n h = some (capB h) := by
  have := hand_len hh
  unfold i_isCap capB
  rw [i_linesIn_eq hn (by omega) (hand_all hh) (hand_nodup hh), ob_some]
  congr 1; congr 1; apply propext; omega
theorem s_l3Cap_eq {n : Nat} (hn : BIG ≤ n) {h : List Card} (hh : hand h = true) : s_l3Cap n h = some (capB h) := by
  have := hand_len hh
  unfold s_l3Cap capB
  rw [s_l2Lines_eq hn (by omega) (hand_all hh), ob_some]
  congr 1; congr 1; apply propext; omega
theorem thr_pos {h : List Card} (H : HandL h) {c : Card} : 0 < thr h c ↔ ∃ a ∈ h, ∃ b ∈ h, a ≠ b ∧ third a b = c := by
  unfold thr prs pr2
  rw [List.length_pos_iff_exists_mem]
  simp only [List.mem_flatMap, List.mem_range'_1]
  constructor
  · rintro ⟨x, i, ⟨_, hi⟩, j, ⟨hj1, hj2⟩, hx⟩
    unfold pr1 at hx
    split at hx
    · rename_i hl
      unfold lineB at hl
      rw [Bool.and_eq_true, Bool.not_eq_true'] at hl
      exact ⟨gz h i, mem_gz.2 ⟨i, by omega, rfl⟩, gz h j, mem_gz.2 ⟨j, by omega, rfl⟩, of_decide_eq_false hl.1, of_decide_eq_true hl.2⟩
    · cases hx
  · rintro ⟨a, ha, b, hb, hne, e⟩
    obtain ⟨p, hp, rfl⟩ := mem_gz.1 ha
    obtain ⟨q, hq, rfl⟩ := mem_gz.1 hb
    have hpq : p ≠ q := fun e => hne (by rw [e])
    have mk : ∀ i j : Nat, i < j → j < h.length → gz h i ≠ gz h j → third (gz h i) (gz h j) = c → (⟨(i : Int), (j : Int)⟩ : V2 Int) ∈ pr1 h c i j := fun i j h1 h2 h3 h4 => by
      unfold pr1
      have : lineB (gl ⟨0, 0, 0, 0⟩ h i) (gl ⟨0, 0, 0, 0⟩ h j) c = true := by
        unfold lineB
        rw [decide_eq_false h3, decide_eq_true h4]; rfl
      rw [if_pos this]; exact List.mem_singleton.2 rfl
    rcases Nat.lt_or_gt_of_ne hpq with h | h
    · exact ⟨_, p, by omega, q, by omega, mk p q h hq hne e⟩
    · exact ⟨_, q, by omega, p, by omega, mk q p h hp (Ne.symm hne) (by rw [th_comm]; exact e)⟩

/-! filling -/
theorem outOK_f {h : List Card} (H : HandL h) {k : Nat} : outOK h false k = true ↔ cardAt (k : Int) ∉ h ∧ ∀ a ∈ h, ∀ b ∈ h, a ≠ b → third a b ≠ cardAt (k : Int) := by
  unfold outOK
  rw [Bool.and_eq_true, Bool.not_eq_true', beq_iff_eq, decide_eq_false_iff_not, thr_pos H, ← Bool.not_eq_true, List.contains_iff_mem]
  constructor
  · rintro ⟨h1, h2⟩; exact ⟨h1, fun a ha b hb hne e => h2 ⟨a, ha, b, hb, hne, e⟩⟩
  · rintro ⟨h1, h2⟩; exact ⟨h1, fun ⟨a, ha, b, hb, hne, e⟩ => h2 a ha b hb hne e⟩
theorem outOK_anti {d e : List Card} (D : HandL d) (E : HandL e) (hs : ∀ c ∈ d, c ∈ e) {k : Nat} (h : outOK e false k = true) : outOK d false k = true := by
  rw [outOK_f E] at h; rw [outOK_f D]
  exact ⟨fun hm => h.1 (hs _ hm), fun a ha b hb => h.2 a (hs a ha) b (hs b hb)⟩
def fillA (h : List Card) : Nat → List Card
  | 0 => h
  | k + 1 => if outOK (fillA h k) false k = true then fillA h k ++ [cardAt (k : Int)] else fillA h k
structure FI (h : List Card) (d : List Card) : Prop where
  H : HandL d
  cap : CapP d
  sub : ∀ c ∈ h, c ∈ d
theorem fi_snoc {h d : List Card} (I : FI h d) {k : Nat} (hk : k < 81) (ho : outOK d false k = true) : FI h (d ++ [cardAt (k : Int)]) := by
  obtain ⟨h1, h2⟩ := (outOK_f I.H).1 ho
  have hc : AllC (d ++ [cardAt (k : Int)]) := fun c hc => by
    rcases List.mem_append.1 hc with hc | hc
    · exact I.H.c c hc
    · rw [List.mem_singleton.1 hc]; exact cardAt_isC (by omega)
  have hnd : (d ++ [cardAt (k : Int)]).Nodup := List.nodup_append.2 ⟨I.H.nd, by simp, fun a ha b hb e => h1 (by rw [← List.mem_singleton.1 hb, ← e]; exact ha)⟩
  refine ⟨⟨hc, hnd, by have := nodup_len81 hnd hc; omega⟩, ?_, fun c hc => List.mem_append_left _ (I.sub c hc)⟩
  have kc : isC (cardAt (k : Int)) = true := cardAt_isC (by omega)
  have key : ∀ a ∈ d, third a (cardAt (k : Int)) ∉ d := fun a ha hm => by
    have ca := I.H.c a ha
    have hne : a ≠ cardAt (k : Int) := fun e => h1 (e ▸ ha)
    refine h2 a ha _ hm ?_ (th_back ca kc)
    exact fun e => th_ne ca kc hne e.symm
  intro a ha b hb hne hm
  rcases List.mem_append.1 ha with ha | ha <;> rcases List.mem_append.1 hb with hb | hb
  · rcases List.mem_append.1 hm with hm | hm
    · exact I.cap a ha b hb hne hm
    · exact h2 a ha b hb hne (List.mem_singleton.1 hm)
  · rw [List.mem_singleton.1 hb] at hm hne
    rcases List.mem_append.1 hm with hm | hm
    · exact key a ha hm
    · exact th_ne2 (I.H.c a ha) kc hne (List.mem_singleton.1 hm)
  · rw [List.mem_singleton.1 ha] at hm hne
    rw [th_comm] at hm
    rcases List.mem_append.1 hm with hm | hm
    · exact key b hb hm
    · exact th_ne2 (I.H.c b hb) kc (Ne.symm hne) (List.mem_singleton.1 hm)
  · exact hne ((List.mem_singleton.1 ha).trans (List.mem_singleton.1 hb).symm)
theorem fillA_fi {h : List Card} (H : HandL h) (hcap : CapP h) : ∀ k, k ≤ 81 → FI h (fillA h k)
  | 0, _ => ⟨H, hcap, fun c hc => hc⟩
  | k + 1, hk => by
    have ih := fillA_fi H hcap k (by omega)
    unfold fillA
    split
    · rename_i ho; exact fi_snoc ih (by omega) ho
    · exact ih
theorem fillA_mono {h : List Card} {k m : Nat} (hk : k ≤ m) : ∀ c ∈ fillA h k, c ∈ fillA h m := by
  induction m with
  | zero => intro c hc; have : k = 0 := by omega
            subst this; exact hc
  | succ m ih =>
    by_cases h1 : k = m + 1
    · subst h1; exact fun c hc => hc
    · intro c hc
      have := ih (by omega) c hc
      rw [fillA]; split
      · exact List.mem_append_left _ this
      · exact this
theorem fillA_past {h : List Card} (H : HandL h) (hcap : CapP h) {k j : Nat} (hk : k ≤ 81) (hj : j < k) : outOK (fillA h k) false j = false := by
  rw [← Bool.not_eq_true]
  intro ho
  have h1 := (fillA_fi H hcap (j + 1) (by omega)).H
  have hk' := (fillA_fi H hcap k hk).H
  have h2 := outOK_anti h1 hk' (fillA_mono (show j + 1 ≤ k by omega)) ho
  have h0 := (fillA_fi H hcap j (by omega)).H
  have h3 := outOK_anti h0 h1 (fillA_mono (show j ≤ j + 1 by omega)) h2
  have e : fillA h (j + 1) = fillA h j ++ [cardAt (j : Int)] := by rw [fillA, if_pos h3]
  exact ((outOK_f h1).1 h2).1 (by rw [e]; exact List.mem_append_right _ (List.mem_singleton.2 rfl))
theorem fillA_skip {h : List Card} {k m : Nat} (hk : k ≤ m) (hs : ∀ j, k ≤ j → j < m → outOK (fillA h k) false j = false) : fillA h m = fillA h k := by
  induction m with
  | zero => have : k = 0 := by omega
            subst this; rfl
  | succ m ih =>
    by_cases h1 : k = m + 1
    · subst h1; rfl
    · have ih := ih (by omega) fun j h1 h2 => hs j h1 (by omega)
      rw [fillA, ih, if_neg (by rw [hs m (by omega) (by omega)]; simp)]
def fillD (h : List Card) : List Card := sortd (fillA h 81)
structure FD (h d : List Card) : Prop where
  ss : SS d
  c : AllC d
  cap : CapP d
  sub : ∀ x ∈ h, x ∈ d
  full : ∀ j, j < 81 → outOK d false j = false
theorem outOK_mem {d e : List Card} (D : HandL d) (E : HandL e) (h : ∀ c, c ∈ d ↔ c ∈ e) (k : Nat) : outOK d false k = outOK e false k := by
  rw [Bool.eq_iff_iff]
  exact ⟨outOK_anti E D fun c hc => (h c).2 hc, outOK_anti D E fun c hc => (h c).1 hc⟩
theorem fillD_ok {h : List Card} (H : HandL h) (hcap : CapP h) : FD h (fillD h) := by
  have I := fillA_fi H hcap 81 (Nat.le_refl _)
  obtain ⟨a1, a2, a3, a4⟩ := sortd_ok I.H.c
  refine ⟨a2, a1, fun a ha b hb hne hm => I.cap a ((a3 a).1 ha) b ((a3 b).1 hb) hne ((a3 _).1 hm), fun x hx => (a3 x).2 (I.sub x hx), fun j hj => ?_⟩
  exact (outOK_mem (a2.handL a1) I.H (fun c => a3 c) j).trans (fillA_past H hcap (Nat.le_refl 81) hj)
theorem out_cons {p : Nat → Bool} : ∀ {m s : Nat} {x : Int} {r : List Int}, ((List.range' s m).flatMap fun k => if p k = true then [(k : Int)] else []) = x :: r → ∃ k : Nat, x = (k : Int) ∧ s ≤ k ∧ k < s + m ∧ p k = true ∧ ∀ j, s ≤ j → j < k → p j = false
  | 0, s, x, r, h => by cases h
  | m + 1, s, x, r, h => by
    rw [List.range'_succ, List.flatMap_cons] at h
    by_cases hp : p s = true
    · rw [if_pos hp] at h
      cases h
      exact ⟨s, rfl, Nat.le_refl _, by omega, hp, fun j h1 h2 => by omega⟩
    · rw [if_neg hp, List.nil_append] at h
      obtain ⟨k, e, h1, h2, h3, h4⟩ := out_cons h
      refine ⟨k, e, by omega, by omega, h3, fun j a b => ?_⟩
      by_cases hj : j = s
      · subst hj; simpa using hp
      · exact h4 j (by omega) b
theorem out_mem {p : Nat → Bool} {s m : Nat} {x : Int} : (x ∈ (List.range' s m).flatMap fun k => if p k = true then [(k : Int)] else []) ↔ ∃ k : Nat, x = (k : Int) ∧ s ≤ k ∧ k < s + m ∧ p k = true := by
  rw [List.mem_flatMap]
  simp only [List.mem_range'_1]
  constructor
  · rintro ⟨k, ⟨h1, h2⟩, hx⟩
    split at hx
    · rename_i hp; exact ⟨k, List.mem_singleton.1 hx, h1, h2, hp⟩
    · cases hx
  · rintro ⟨k, rfl, h1, h2, hp⟩
    exact ⟨k, ⟨h1, h2⟩, by rw [if_pos hp]; exact List.mem_singleton.2 rfl⟩
theorem mem_outs {h : List Card} {b : Bool} {x : Int} : x ∈ outs h b ↔ ∃ k : Nat, x = (k : Int) ∧ k < 81 ∧ outOK h b k = true := by
  unfold outs
  rw [out_mem]
  constructor
  · rintro ⟨k, e, _, h2, h3⟩; exact ⟨k, e, by omega, h3⟩
  · rintro ⟨k, e, h2, h3⟩; exact ⟨k, e, by omega, by omega, h3⟩
theorem outs_nil {h : List Card} {b : Bool} : outs h b = [] ↔ ∀ j, j < 81 → outOK h b j = false := by
  rw [List.eq_nil_iff_forall_not_mem]
  constructor
  · intro h1 j hj
    rw [← Bool.not_eq_true]
    exact fun ho => h1 _ (mem_outs.2 ⟨j, rfl, hj, ho⟩)
  · intro h1 x hx
    obtain ⟨k, _, hk, ho⟩ := mem_outs.1 hx
    rw [h1 k hk] at ho; cases ho
theorem s_fill_eq {n : Nat} (hn : BIG ≤ n) {h : List Card} (H : HandL h) (hcap : CapP h) (hs : SS h) : fx (s_FillCap_L1 n) n (h, outs h false) = some (true, fillD h) := by
  refine fx_inv (B := s_FillCap_L1 n) (fun s => ∃ (k : Nat) (d : List Card), s = (d, outs d false) ∧ k ≤ 81 ∧ SS d ∧ AllC d ∧ ∀ c, c ∈ d ↔ c ∈ fillA h k) (fun s => 81 - s.1.length) (fun o => o = some (true, fillD h)) ?_ n _ ⟨0, h, rfl, by omega, hs, H.c, fun c => Iff.rfl⟩ (big_gt hn (by simp only []; omega))
  rintro self _ ⟨k, d, rfl, hk, dss, dc, hm⟩ ih
  have D := dss.handL dc
  have hA := (fillA_fi H hcap k hk).H
  have hlen := nodup_len81 D.nd dc
  simp only [s_FillCap_L1]
  cases ho : outs d false with
  | nil =>
    rw [List.length_nil, show decide ((0 : Int) < ((0 : Nat) : Int)) = false from rfl]
    have h0 := outs_nil.1 ho
    have e : fillA h 81 = fillA h k := fillA_skip hk fun j _ hj => (outOK_mem D hA hm j).symm.trans (h0 j hj)
    suffices e3 : d = fillD h by rw [e3, br_false]
    refine ss_uniq dss (sortd_ok (fillA_fi H hcap 81 (Nat.le_refl _)).H.c).2.1 fun c => ?_
    unfold fillD
    rw [hm, (sortd_ok (fillA_fi H hcap 81 (Nat.le_refl _)).H.c).2.2.1, e]
  | cons x r =>
    have hl : 0 < (x :: r).length := by simp
    rw [br_pos (decide_eq_true (show (0 : Int) < ((x :: r).length : Int) by omega)), ckb_pos (show inb 0 (x :: r).length = true from inb_ok (i := 0) hl)]
    have ho' := ho
    unfold outs at ho
    obtain ⟨k1, rfl, _, h2, h3, h4⟩ := out_cons ho
    have kc : isC (cardAt (k1 : Int)) = true := cardAt_isC (by omega)
    have hnm := ((outOK_f D).1 h3).1
    have hil := ins_new hnm
    have e0 : gl (0 : Int) ((k1 : Int) :: r) 0 = (k1 : Int) := rfl
    rw [e0, s_l2At_eq n (by omega), ob_some, s_l2Put_eq hn dc (by omega) kc, ob_some, s_l3Cards_eq hn ((ins_ss kc dc dss).handL (ins_allC kc dc)), ob_some]
    have hk1 : k ≤ k1 := by
      refine Nat.le_of_not_lt fun hlt => ?_
      have := fillA_past H hcap hk hlt
      rw [← outOK_mem D hA hm k1, h3] at this; cases this
    have e : fillA h k1 = fillA h k := fillA_skip hk1 fun j _ hj => (outOK_mem D hA hm j).symm.trans (h4 j (by omega) hj)
    have e2 : fillA h (k1 + 1) = fillA h k ++ [cardAt (k1 : Int)] := by rw [fillA, e, if_pos (by rw [← outOK_mem D hA hm k1]; exact h3)]
    have hnew := nodup_len81 (ins_ss kc dc dss).nodup (ins_allC kc dc)
    refine ih _ ⟨k1 + 1, ins (cardAt (k1 : Int)) d, rfl, by omega, ins_ss kc dc dss, ins_allC kc dc, fun c => ?_⟩ (by simp only []; omega)
    rw [ins_mem, e2, List.mem_append, List.mem_singleton, hm]; exact or_comm
theorem i_fill_eq {n : Nat} (hn : BIG ≤ n) {h : List Card} (H : HandL h) (hcap : CapP h) : fx (i_FillCap_L1 n) n (0, h) = some (true, fillD h) := by
  have := fx_cnt (B := i_FillCap_L1 n) 81 (fun k => ((k : Int), fillA h k)) (fun _ => True) (fun _ => some (true, fillD h)) (fun self k hk _ ih => by
    have D := (fillA_fi H hcap k hk).H
    have hl := D.len
    simp only [i_FillCap_L1, lt_eq]
    by_cases h81 : k < 81
    · rw [br_pos (decide_eq_true (show (k : Int) < 81 by omega)), i_card_eq n (by omega), ob_some, i_has_eq hn (by omega), ob_some, i_isBlocked_eq hn D, ob_some, w64_succ (by omega)]
      simp only [br_some, ob_some]
      have e : (if (!(fillA h k).contains (cardAt (k : Int))) = true then !decide (0 < thr (fillA h k) (cardAt (k : Int))) else false) = outOK (fillA h k) false k := by
        unfold outOK; cases (fillA h k).contains (cardAt (k : Int)) <;> simp
      rw [e, ← ih h81 trivial]
      rw [fillA]
      cases ho : outOK (fillA h k) false k with
      | true => rw [br_true, ckb_pos (apok_ok (by omega) (by omega)), if_pos rfl]
      | false => rw [br_false]; simp
    · have : k = 81 := by omega
      subst this
      rw [br_neg (decide_eq_false (by omega)), i_sorted_eq hn D.c (by omega), ob_some]; rfl) n 0 (Nat.zero_le _) trivial (big_gt hn (by omega))
  exact this
def FC (h : List Card) : Bool × List Card := if hand h && capB h then (true, fillD h) else (false, [])
theorem s_FillCap_eq {n : Nat} (hn : BIG ≤ n) {h : List Card} (hl : h.length ≤ 1048576) : s_FillCap n h = some (FC h) := by
  unfold s_FillCap FC
  rw [s_l2Hand_eq hn (by omega), ob_some]
  cases hh : hand h with
  | false => rfl
  | true =>
    rw [s_l3Cap_eq hn hh]
    cases hc : capB h with
    | false => rfl
    | true =>
      obtain ⟨h1, h2, h3⟩ := hand_iff.1 hh
      have H := HandL.of hh
      show ob (s_l2Own n h) _ = _
      rw [s_l2Own_eq hl, ob_some, s_l3Cards_eq hn H, ob_some]
      exact s_fill_eq hn H ((capB_iff H).1 hc) h2
theorem i_FillCap_eq {n : Nat} (hn : BIG ≤ n) {h : List Card} (hl : h.length ≤ 1048576) : i_FillCap n h = some (FC h) := by
  unfold i_FillCap FC
  rw [i_IsHand_eq hn (by omega), ob_some]
  cases hh : hand h with
  | false => rfl
  | true =>
    rw [i_isCap_eq hn hh]
    cases hc : capB h with
    | false => rfl
    | true =>
      obtain ⟨h1, h2, h3⟩ := hand_iff.1 hh
      have H := HandL.of hh
      show ckb (apok 32 (0 + h.length)) _ = _
      rw [ckb_pos (apok_ok (by omega) (by omega))]
      exact i_fill_eq hn H ((capB_iff H).1 hc)

/-! a cap has at most twenty cards -/
def toPt (c : Card) : Go.Cap.Pt := ⟨c.x0, c.x1, c.x2, c.x3⟩
theorem toPt_inj {a b : Card} (h : toPt a = toPt b) : a = b := by
  cases a; cases b; unfold toPt at h; cases h; rfl
theorem toPt_th {a b : Card} (ha : isC a = true) (hb : isC b = true) : Go.Cap.th (toPt a) (toPt b) = toPt (third a b) := by
  rw [isC_iff] at ha hb
  unfold Go.Cap.th toPt third t3
  simp only []
  rw [Int.tmod_eq_emod_of_nonneg (by omega), Int.tmod_eq_emod_of_nonneg (by omega), Int.tmod_eq_emod_of_nonneg (by omega), Int.tmod_eq_emod_of_nonneg (by omega)]
theorem cap_len {d : List Card} (hc : AllC d) (hnd : d.Nodup) (hcap : CapP d) : d.length ≤ 20 := by
  have := Go.Cap.cap20 (S := d.map toPt) ⟨List.Pairwise.map _ (fun a b hne e => hne (toPt_inj e)) hnd, fun p hp => ?_, fun a ha b hb hne hm => ?_⟩
  · rwa [List.length_map] at this
  · obtain ⟨c, hc', rfl⟩ := List.mem_map.1 hp
    exact isC_iff.1 (hc c hc')
  · obtain ⟨x, hx, rfl⟩ := List.mem_map.1 ha
    obtain ⟨y, hy, rfl⟩ := List.mem_map.1 hb
    rw [toPt_th (hc x hx) (hc y hy)] at hm
    obtain ⟨z, hz, e⟩ := List.mem_map.1 hm
    exact hcap x hx y hy (fun e => hne (by rw [e])) (by rw [← toPt_inj e]; exact hz)
theorem FD.hand {h d : List Card} (D : FD h d) : hand d = true :=
  hand_iff.2 ⟨D.c, D.ss, by have := cap_len D.c D.ss.nodup D.cap; omega⟩
end Go.Pl
