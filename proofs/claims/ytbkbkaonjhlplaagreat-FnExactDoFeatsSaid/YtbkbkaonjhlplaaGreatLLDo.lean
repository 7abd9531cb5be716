/- Plain laws: LDo. -/
import Derived.Test.YtbkbkaonjhlplaaGreatLLCp
import Derived.Test.YtbkbkaonjhlplaaGreatLL12
set_option linter.unusedVariables false
set_option linter.unusedSimpArgs false
namespace Go.Pl
open Go Go.Tv Go.RowKit
set_option linter.unusedVariables false
set_option linter.unusedSimpArgs false

/-! maps of cards, by their values -/
abbrev Mp := V4 Int × V4 (V3 Int)
def okV (y : V3 Int) : Bool := decide ((0 ≤ y.x0 ∧ y.x0 ≤ 2) ∧ (0 ≤ y.x1 ∧ y.x1 ≤ 2) ∧ (0 ≤ y.x2 ∧ y.x2 ≤ 2) ∧ y.x0 ≠ y.x1 ∧ y.x0 ≠ y.x2 ∧ y.x1 ≠ y.x2)
def shB (m : Mp) : Bool := eqd m.1 ⟨0, 1, 2, 3⟩ && okV m.2.x0 && okV m.2.x1 && okV m.2.x2 && okV m.2.x3
def img (m : Mp) (c : Card) : Card := ⟨V3.get m.2.x0 c.x0.toNat, V3.get m.2.x1 c.x1.toNat, V3.get m.2.x2 c.x2.toNat, V3.get m.2.x3 c.x3.toNat⟩
theorem okV_in {y : V3 Int} (h : okV y = true) {x : Int} (hx : 0 ≤ x ∧ x ≤ 2) : 0 ≤ V3.get y x.toNat ∧ V3.get y x.toNat ≤ 2 := by
  have h := of_decide_eq_true h
  rcases t3_in012 hx with rfl | rfl | rfl
  · exact h.1
  · exact h.2.1
  · exact h.2.2.1
theorem okV_inj {y : V3 Int} (h : okV y = true) {x z : Int} (hx : 0 ≤ x ∧ x ≤ 2) (hz : 0 ≤ z ∧ z ≤ 2) (e : V3.get y x.toNat = V3.get y z.toNat) : x = z := by
  have h := of_decide_eq_true h
  have a1 := h.2.2.2.1; have a2 := h.2.2.2.2.1; have a3 := h.2.2.2.2.2
  rcases t3_in012 hx with rfl | rfl | rfl <;> rcases t3_in012 hz with rfl | rfl | rfl
  · rfl
  · exact absurd e a1
  · exact absurd e a2
  · exact absurd e.symm a1
  · rfl
  · exact absurd e a3
  · exact absurd e.symm a2
  · exact absurd e.symm a3
  · rfl
structure ShB (m : Mp) : Prop where
  p : m.1 = ⟨0, 1, 2, 3⟩
  a : okV m.2.x0 = true
  b : okV m.2.x1 = true
  c : okV m.2.x2 = true
  d : okV m.2.x3 = true
theorem shB_of {m : Mp} (h : shB m = true) : ShB m := by
  unfold shB at h
  simp only [Bool.and_eq_true] at h
  obtain ⟨⟨⟨⟨h0, h1⟩, h2⟩, h3⟩, h4⟩ := h
  exact ⟨of_decide_eq_true h0, h1, h2, h3, h4⟩
theorem img_isC {m : Mp} (M : ShB m) {c : Card} (hc : isC c = true) : isC (img m c) = true := by
  rw [isC_iff] at hc ⊢
  exact ⟨okV_in M.a hc.1, okV_in M.b hc.2.1, okV_in M.c hc.2.2.1, okV_in M.d hc.2.2.2⟩
theorem img_inj {m : Mp} (M : ShB m) {c d : Card} (hc : isC c = true) (hd : isC d = true) (e : img m c = img m d) : c = d := by
  rw [isC_iff] at hc hd
  unfold img at e
  injection e with e0 e1 e2 e3
  have a := okV_inj M.a hc.1 hd.1 e0
  have b := okV_inj M.b hc.2.1 hd.2.1 e1
  have c' := okV_inj M.c hc.2.2.1 hd.2.2.1 e2
  have d' := okV_inj M.d hc.2.2.2 hd.2.2.2 e3
  cases c; cases d; simp_all
theorem s_l5Card_eq {n : Nat} (hn : BIG ≤ n) {m : Mp} (M : ShB m) {c : Card} (hc : isC c = true) : s_l5Card n m c = some (img m c) := by
  obtain ⟨k, rfl⟩ : ∃ k, n = k + 5 := ⟨n - 5, by unfold BIG at hn; omega⟩
  rw [isC_iff] at hc
  obtain ⟨m1, m2⟩ := m
  have hp : m1 = ⟨0, 1, 2, 3⟩ := M.p
  subst hp
  unfold s_l5Card img
  simp only [lt_eq, fx_succ, s_l5Card_L1]
  have h1 : ∀ x : Int, 0 ≤ x ∧ x ≤ 2 → inb x 3 = true := fun x h => inb_pos h.1 (by omega)
  simp [V4.get, V4.set, h1 _ hc.1, h1 _ hc.2.1, h1 _ hc.2.2.1, h1 _ hc.2.2.2, show inb 0 4 = true from rfl, show inb 1 4 = true from rfl, show inb 2 4 = true from rfl, show inb 3 4 = true from rfl, show w64 (0 + 1) = 1 from by decide, show w64 (1 + 1) = 2 from by decide, show w64 (2 + 1) = 3 from by decide, show w64 (3 + 1) = 4 from by decide, show w64 1 = 1 from by decide, show w64 2 = 2 from by decide, show w64 3 = 3 from by decide, show w64 4 = 4 from by decide]
theorem i_image_eq {n : Nat} (hn : BIG ≤ n) {m : Mp} (M : ShB m) {c : Card} (hc : isC c = true) : _impl_Map__image n m c = some (img m c) := (show _impl_Map__image n m c = s_l5Card n m c from rfl).trans (s_l5Card_eq hn M hc)
theorem imgs_allC {m : Mp} (M : ShB m) {h : List Card} (hc : AllC h) : AllC (h.map (img m)) := fun c hx => by
  obtain ⟨d, hd, rfl⟩ := List.mem_map.1 hx
  exact img_isC M (hc d hd)
theorem imgs_nd {m : Mp} (M : ShB m) {h : List Card} (hc : AllC h) (hnd : h.Nodup) : (h.map (img m)).Nodup := by
  unfold List.Nodup
  rw [List.pairwise_map]
  exact List.Pairwise.imp_of_mem (fun {a b} ha hb hne e => hne (img_inj M (hc a ha) (hc b hb) e)) hnd
theorem sort_nd {n : Nat} (hn : BIG ≤ n) {l : List Card} (hl : AllC l) (hnd : l.Nodup) (hlen : l.length ≤ 200) : slices_SortFunc_SA4_A4_'o_i_compareCards n l = some (sortd l) := by
  obtain ⟨d, e, hsw, hs⟩ := sortFunc_ok hn hl hlen
  have dc : AllC d := hsw.allC hl
  have hm : ∀ c, c ∈ d ↔ c ∈ l := fun c => by
    have := hsw.count c
    constructor
    · intro h; exact List.count_pos_iff.1 (by rw [← this]; exact List.count_pos_iff.2 h)
    · intro h; exact List.count_pos_iff.1 (by rw [this]; exact List.count_pos_iff.2 h)
  have dnd : d.Nodup := by
    rw [List.nodup_iff_count]
    intro c
    rw [hsw.count c]
    exact List.nodup_iff_count.1 hnd c
  have hss : SS d := ss_of fun p q h1 h2 => by
    have h3 := hs p q (by omega) h1 (by rw [← hsw.len]; exact h2)
    have hne : nm d p ≠ nm d q := fun e => by
      unfold nm at e
      have e2 := congrArg cardAt e
      rw [cardAt_num (gl_C dc (by omega)), cardAt_num (gl_C dc h2), gl_eq (show p < d.length by omega), gl_eq h2] at e2
      have := (List.getElem_inj dnd).1 e2
      omega
    omega
  obtain ⟨g1, g2, g3, g4⟩ := sortd_ok hl
  rw [e]
  congr 1
  exact ss_uniq hss g2 fun c => by rw [hm, g3]
theorem i_images_eq {n : Nat} (hn : BIG ≤ n) {m : Mp} (M : ShB m) {h : List Card} (H : HandL h) : _impl_Map__images n m h = some (sortd (h.map (img m))) := by
  have hl := H.len
  unfold _impl_Map__images
  rw [ckb_pos (by unfold mkok; simp; omega)]
  have := fx_foldl (B := _impl_Map__images_L1 n) h (fun i a => (h, (h.length : Int), (i : Int), m, a)) (fun a c => a ++ [img m c]) (fun a => ob (slices_SortFunc_SA4_A4_'o_i_compareCards n a) fun r7 => some r7) (fun i a => a.length = i) (fun i a hi h1 => by rw [List.length_append, List.length_singleton]; omega) (fun self i a hi h1 => by
    simp only [_impl_Map__images_L1, lt_eq]
    have g : gl (⟨0, 0, 0, 0⟩ : Card) h i = h[i] := gl_eq hi
    rw [br_pos (decide_eq_true (show (i : Int) < (h.length : Int) by omega)), ckb_pos (inb_ok hi), toNat_cast, g, i_image_eq hn M (H.c _ (List.getElem_mem hi)), ob_some, ckb_pos (apok_ok (by omega) (by omega)), w64_succ (by omega)]) (fun self a h1 => by
    simp only [_impl_Map__images_L1]
    rw [br_neg (decide_eq_false (by omega))]) n (big_gt hn (by omega)) [] rfl
  have e : ∀ (l a : List Card), l.foldl (fun a c => a ++ [img m c]) a = a ++ l.map (img m) := by
    intro l
    induction l with
    | nil => intro a; simp
    | cons x l ih => intro a; rw [List.foldl_cons, ih]; simp
  rw [e, List.nil_append, sort_nd hn (imgs_allC M H.c) (imgs_nd M H.c H.nd) (by rw [List.length_map]; omega)] at this
  exact this
theorem s_l5Hand_eq {n : Nat} (hn : BIG ≤ n) {m : Mp} (M : ShB m) {h : List Card} (H : HandL h) : s_l5Hand n m h = some (sortd (h.map (img m))) := by
  have hl := H.len
  unfold s_l5Hand
  have := fx_foldl (B := s_l5Hand_L1 n) h (fun i a => (h, (i : Int), m, a)) (fun a c => ins (img m c) a) some (fun i a => AllC a ∧ a.length ≤ i) (fun i a hi h1 => ⟨ins_allC (img_isC M (H.c _ (List.getElem_mem hi))) h1.1, by have := ins_len (c := img m h[i]) (l := a); omega⟩) (fun self i a hi h1 => by
    simp only [s_l5Hand_L1, lt_eq]
    have g : gl (⟨0, 0, 0, 0⟩ : Card) h i = h[i] := gl_eq hi
    rw [br_pos (decide_eq_true (show (i : Int) < (h.length : Int) by omega)), ckb_pos (inb_ok hi), toNat_cast, g, s_l5Card_eq hn M (H.c _ (List.getElem_mem hi)), ob_some, s_l2Put_eq hn h1.1 (by omega) (img_isC M (H.c _ (List.getElem_mem hi))), ob_some, w64_succ (by omega)]) (fun self a h1 => by
    simp only [s_l5Hand_L1]
    rw [br_neg (decide_eq_false (by omega))]) n (big_gt hn (by omega)) [] ⟨fun c hc => (by cases hc), Nat.le_refl _⟩
  have e : ∀ (l a : List Card), l.foldl (fun a c => ins (img m c) a) a = (l.map (img m)).foldl (fun a c => ins c a) a := by
    intro l
    induction l with
    | nil => intro a; rfl
    | cons x l ih => intro a; rw [List.foldl_cons, ih]; rfl
  rw [e] at this
  exact this

/-! shifts: few inputs -/
noncomputable def ckSh (m : Nat) : Bool := (List.range 81).all fun r => match i_ShiftTo (m + 200) ⟨0, 0, 0, 0⟩ (cardAt (r : Int)), s_ShiftTo (m + 200) ⟨0, 0, 0, 0⟩ (cardAt (r : Int)) with
  | some a, some b => eqd a b && a.2 && shB a.1 && (match s_l5Map (m + 200) a.1 with | some true => true | _ => false)
  | _, _ => false
set_option maxRecDepth 100000 in
theorem ckSh_ok (m : Nat) : ckSh m = true := by kernel_rfl
theorem shift_ok {n : Nat} (hn : BIG ≤ n) {r : Int} (h : 0 ≤ r ∧ r ≤ 80) : ∃ m : Mp, i_ShiftTo n ⟨0, 0, 0, 0⟩ (cardAt r) = some (m, true) ∧ s_ShiftTo n ⟨0, 0, 0, 0⟩ (cardAt r) = some (m, true) ∧ ShB m ∧ s_l5Map n m = some true := by
  obtain ⟨k, rfl⟩ : ∃ k, n = k + 200 := ⟨n - 200, by unfold BIG at hn; omega⟩
  obtain ⟨j, rfl⟩ : ∃ j : Nat, r = j := ⟨r.toNat, by omega⟩
  have := ckSh_ok k
  unfold ckSh at this
  rw [List.all_eq_true] at this
  have := this j (List.mem_range.2 (by omega))
  cases hi : i_ShiftTo (k + 200) ⟨0, 0, 0, 0⟩ (cardAt (j : Int)) with
  | none => rw [hi] at this; simp at this
  | some a =>
    cases hs : s_ShiftTo (k + 200) ⟨0, 0, 0, 0⟩ (cardAt (j : Int)) with
    | none => rw [hi, hs] at this; simp at this
    | some b =>
      rw [hi, hs] at this
      simp only [Bool.and_eq_true] at this
      obtain ⟨⟨⟨e1, e2⟩, e3⟩, e4⟩ := this
      have e1 : a = b := of_decide_eq_true e1
      subst e1
      obtain ⟨a1, a2⟩ := a
      have e2 : a2 = true := e2
      subst e2
      refine ⟨a1, rfl, rfl, shB_of e3, ?_⟩
      simp only [] at e4
      split at e4
      · assumption
      · cases e4
end Go.Pl
