/- A part of the proof that a law of the seat holds: ZAv12. -/
import Derived.Test.YtleaogcnndhdgaaAv11
namespace Go.Av
open Go Go.RowKit

/-! ### the same thing, told by other names, or as what is only read -/
mutual
def vw (ob : Nat → Option AObj) (lend : Bool) (σ : Nat → Option Nat) : AV → AV → Prop
  | _, .any => True
  | a, .v y => a = .v y
  | a, .ptr p s j => ∃ nm, σ p = some nm ∧ a = .ptr nm s j
  | a, .sl p off len => (∃ nm, σ p = some nm ∧ a = .sl nm off len) ∨ (len = 0 ∧ a = .ro [] true)
  | a, .sv p s off len => ∃ nm, σ p = some nm ∧ a = .sv nm s off len
  | a, .ro els f => (els = [] ∧ ∃ f', a = .ro [] f' ∧ (f = true → f' = true)) ∨ (lend = true ∧
      ((∃ els0 f', a = .ro els0 f' ∧ (f = true → f' = true) ∧ vwSegs ob lend σ els0 els) ∨
       (f = false ∧ ∃ nm off len o, a = .sl nm off len ∧ (∀ p, σ p ≠ some nm) ∧ ob nm = some o ∧ o.k ≠ none ∧ off + len ≤ o.segs.length ∧ vwSegs ob lend σ ((o.segs.drop off).take len) els) ∨
       (f = false ∧ ∃ nm s off len o e, a = .sv nm s off len ∧ (∀ p, σ p ≠ some nm) ∧ ob nm = some o ∧ o.segs[s]? = some e ∧ off + len ≤ e.length ∧ vwSegs ob lend σ (((e.drop off).take len).map fun c => [c]) els)))
  | a, .rp segs s j => lend = true ∧ ((∃ segs0, a = .rp segs0 s j ∧ vwSegs ob lend σ segs0 segs) ∨
      (∃ nm o, a = .ptr nm s j ∧ (∀ p, σ p ≠ some nm) ∧ ob nm = some o ∧ s ≤ o.segs.length ∧ vwSegs ob lend σ o.segs segs))
  | a, .agg segs => ∃ segs0, a = .agg segs0 ∧ vwSegs ob lend σ segs0 segs
  | a, .tup l => ∃ l0, a = .tup l0 ∧ vwList ob lend σ l0 l
  | a, .clo f caps => ∃ c0, a = .clo f c0 ∧ vwList ob lend σ c0 caps
def vwList (ob : Nat → Option AObj) (lend : Bool) (σ : Nat → Option Nat) : List AV → List AV → Prop
  | l0, [] => l0 = []
  | l0, a' :: l => ∃ a r, l0 = a :: r ∧ vw ob lend σ a a' ∧ vwList ob lend σ r l
def vwSegs (ob : Nat → Option AObj) (lend : Bool) (σ : Nat → Option Nat) : List (List AV) → List (List AV) → Prop
  | l0, [] => l0 = []
  | l0, e' :: l => ∃ e r, l0 = e :: r ∧ vwList ob lend σ e e' ∧ vwSegs ob lend σ r l
end

structure View (c c' : Ctx) (ob : Nat → Option AObj) (lend : Bool) (σ : Nat → Option Nat) : Prop where
  w : c'.w = c.w
  hob : lend = true → ∀ nm o, ob nm = some o → objOK c nm o
  m : ∀ p nm b, σ p = some nm → c.m nm = some b → c'.m p = some b ∧ c'.L p = c.L nm
  X : lend = true → ∀ b, b < c.w.heap.size → c'.X b → c.X b
  out : lend = true → ∀ nm o b, ob nm = some o → (∀ p, σ p ≠ some nm) → c.m nm = some b → ¬ c'.X b ∧ b < c.w.heap.size

theorem vwList_len {ob : Nat → Option AObj} {lend : Bool} {σ : Nat → Option Nat} : ∀ {l l0 : List AV}, vwList ob lend σ l0 l → l0.length = l.length
  | [], l0, h => by simp only [vwList] at h; subst h; rfl
  | a' :: l, l0, h => by
    simp only [vwList] at h
    obtain ⟨a, r, rfl, _, h⟩ := h
    simp [vwList_len h]

theorem vwSegs_lens {ob : Nat → Option AObj} {lend : Bool} {σ : Nat → Option Nat} : ∀ {l l0 : List (List AV)}, vwSegs ob lend σ l0 l → l0.map List.length = l.map List.length
  | [], l0, h => by simp only [vwSegs] at h; subst h; rfl
  | e' :: l, l0, h => by
    simp only [vwSegs] at h
    obtain ⟨e, r, rfl, h1, h⟩ := h
    simp only [List.map_cons, vwSegs_lens h, vwList_len h1]

theorem vwSegs_len {ob : Nat → Option AObj} {lend : Bool} {σ : Nat → Option Nat} {l l0 : List (List AV)} (h : vwSegs ob lend σ l0 l) : l0.length = l.length := by
  have := congrArg List.length (vwSegs_lens h); simpa using this

theorem vwSegs_pre {ob : Nat → Option AObj} {lend : Bool} {σ : Nat → Option Nat} {l l0 : List (List AV)} (h : vwSegs ob lend σ l0 l) (s : Nat) : presegs l0 s = presegs l s := by
  unfold presegs
  rw [List.map_take, List.map_take, vwSegs_lens h]

theorem vwSegs_uni {ob : Nat → Option AObj} {lend : Bool} {σ : Nat → Option Nat} {l l0 : List (List AV)} (h : vwSegs ob lend σ l0 l) {k : Nat} (hk : ∀ e ∈ l0, e.length = k) : ∀ e ∈ l, e.length = k := by
  intro e he
  have : e.length ∈ l.map List.length := List.mem_map.2 ⟨e, he, rfl⟩
  rw [← vwSegs_lens h] at this
  obtain ⟨e', he', hee⟩ := List.mem_map.1 this
  rw [← hee]; exact hk e' he'

mutual
theorem vw_sound {c c' : Ctx} {ob : Nat → Option AObj} {lend : Bool} {σ : Nat → Option Nat} (H : View c c' ob lend σ) : ∀ (a' a : AV) (y : Value), vw ob lend σ a a' → sat c a y → sat c' a' y
  | .any, _, _, _, _ => by simp only [sat]
  | .v x, a, y, h, hs => by simp only [vw] at h; subst h; simp only [sat] at hs ⊢; exact hs
  | .ptr p s j, a, y, h, hs => by
    simp only [vw] at h
    obtain ⟨nm, h1, rfl⟩ := h
    simp only [sat] at hs ⊢
    obtain ⟨b, hb, rfl⟩ := hs
    obtain ⟨g1, g2⟩ := H.m p nm b h1 hb
    exact ⟨b, g1, by rw [g2]⟩
  | .sl p off len, a, y, h, hs => by
    simp only [vw] at h
    rcases h with ⟨nm, h1, rfl⟩ | ⟨rfl, rfl⟩
    case inr =>
      simp only [sat] at hs ⊢
      obtain ⟨ad, cap, rfl, _, _, h3, _⟩ := hs
      exact .inl ⟨trivial, ad, by rw [h3 trivial]; rfl⟩
    simp only [sat] at hs ⊢
    rcases hs with hs | ⟨b, k, cap, cur, ty, fr, hb, hL, rest⟩
    · exact .inl hs
    · obtain ⟨g1, g2⟩ := H.m p nm b h1 hb
      exact .inr ⟨b, k, cap, cur, ty, fr, g1, by rw [g2]; exact hL, by rw [H.w]; exact rest⟩
  | .sv p s off len, a, y, h, hs => by
    simp only [vw] at h
    obtain ⟨nm, h1, rfl⟩ := h
    simp only [sat] at hs ⊢
    obtain ⟨b, cap, hb, rfl, hlc⟩ := hs
    obtain ⟨g1, g2⟩ := H.m p nm b h1 hb
    exact ⟨b, cap, g1, by rw [g2], hlc⟩
  | .ro els f, a, y, h, hs => by
    simp only [vw] at h
    rcases h with ⟨rfl, f', rfl, hf⟩ | ⟨hl, ⟨els0, f', rfl, hf, hv⟩ | ⟨rfl, nm, off, len, o, rfl, hn, ho, hk, hle, hv⟩ | ⟨rfl, nm, s, off, len, o, e, rfl, hn, ho, he, hle, hv⟩⟩
    · simp only [sat] at hs ⊢
      obtain ⟨ad, cap, rfl, h1, h2, h3, _⟩ := hs
      exact ⟨ad, cap, rfl, h1, h2, fun hff => h3 (hf hff), .inl trivial⟩
    · simp only [sat] at hs ⊢
      have hlen := vwSegs_len hv
      obtain ⟨ad, cap, rfl, h1, h2, h3, h4⟩ := hs
      refine ⟨ad, cap, by rw [hlen], by omega, by omega, fun hff => by rw [← hlen]; exact h3 (hf hff), ?_⟩
      rcases h4 with h4 | ⟨b, o, k, rfl, h5, h6, h7, h8⟩
      · left; subst h4; exact List.eq_nil_of_length_eq_zero (by simpa using hlen.symm)
      · right
        exact ⟨b, o, k, rfl, by rw [H.w]; exact h5, fun hx => h6 (H.X hl b h5 hx), vwSegs_uni hv h7, vwSegs_sound H els els0 b o hv h8⟩
    · simp only [sat] at hs ⊢
      have hlen := vwSegs_len hv
      have hl2 : els.length = len := by rw [← hlen]; simp; omega
      rcases hs with ⟨h0, ad, rfl⟩ | ⟨b, k, cap, cur, ty, fr, hb, hL, rfl, hlc, hcell, hsz, hmx⟩
      · exact ⟨ad, 0, by rw [hl2, h0], by omega, by simp only [maxLen]; omega, fun h => (by cases h), .inl (List.eq_nil_of_length_eq_zero (by omega))⟩
      · obtain ⟨g1, g2⟩ := H.out hl nm o b ho hn hb
        refine ⟨_, cap, by rw [hl2], by omega, by omega, fun h => (by cases h), ?_⟩
        rcases H.hob hl nm o ho with ⟨hnn, _⟩ | ⟨b2, cur2, fr2, e1, e2, _, e4, ⟨k2, cap2, e5, e6, e7, _⟩ | ⟨e5, _⟩⟩
        · rw [hb] at hnn; cases hnn
        · rw [hb] at e1; injection e1 with e1; subst e1
          rw [hL] at e6; injection e6 with e6; subst e6
          have hsub := satSegs_sub (l := off) (n := len) e4 e7 (by omega)
          rw [Nat.zero_add] at hsub
          right
          exact ⟨b, off * k, k, rfl, by rw [H.w]; exact g2, g1, vwSegs_uni hv (fun q hq => e7 q (List.drop_subset _ _ (List.take_subset _ _ hq))), vwSegs_sound H els _ b _ hv hsub⟩
        · exact absurd e5 hk
    · simp only [sat] at hs ⊢
      have hlen := vwSegs_len hv
      have hl2 : els.length = len := by rw [← hlen]; simp; omega
      obtain ⟨b, cap, hb, rfl, hlc⟩ := hs
      obtain ⟨g1, g2⟩ := H.out hl nm o b ho hn hb
      have hsl : s < o.segs.length := (List.getElem?_eq_some_iff.1 he).1
      have hpre := (H.hob hl nm o ho).pre (Nat.le_of_lt hsl)
      rcases H.hob hl nm o ho with ⟨hnn, _⟩ | ⟨b2, cur2, fr2, e1, e2, e3, e4, e5⟩
      · rw [hb] at hnn; cases hnn
      · rw [hb] at e1; injection e1 with e1; subst e1
        rw [satSegs_flat] at e4
        have hsub : satSegs c b ((c.L nm).pre s + off) (((e.drop off).take len).map fun c => [c]) := by
          rw [satSegs_flat, flatten_single (fun c => c), List.map_id']
          refine satCells_of fun q av hq => ?_
          rw [List.getElem?_take] at hq
          split at hq
          · rw [List.getElem?_drop] at hq
            have := satCells_get e4 (flat_get he hq)
            rw [hpre]
            simpa only [Nat.zero_add, Nat.add_assoc] using this
          · cases hq
        refine ⟨_, cap, by rw [hl2], by omega, by omega, fun h => (by cases h), .inr ⟨b, _, 1, rfl, by rw [H.w]; exact g2, g1, vwSegs_uni hv (fun q hq => by obtain ⟨x, _, rfl⟩ := List.mem_map.1 hq; rfl), vwSegs_sound H els _ b _ hv hsub⟩⟩
  | .rp segs s j, a, y, h, hs => by
    simp only [vw] at h
    obtain ⟨hl, ⟨segs0, rfl, hv⟩ | ⟨nm, o, rfl, hn, ho, hsl, hv⟩⟩ := h
    · simp only [sat] at hs ⊢
      obtain ⟨b, off, rfl, h1, h2, h3⟩ := hs
      exact ⟨b, off, by rw [vwSegs_pre hv], by rw [H.w]; exact h1, fun hx => h2 (H.X hl b h1 hx), vwSegs_sound H segs segs0 b off hv h3⟩
    · simp only [sat] at hs ⊢
      obtain ⟨b, hb, rfl⟩ := hs
      obtain ⟨g1, g2⟩ := H.out hl nm o b ho hn hb
      have hpre := (H.hob hl nm o ho).pre hsl
      rcases H.hob hl nm o ho with ⟨hnn, _⟩ | ⟨b2, cur2, fr2, e1, e2, e3, e4, e5⟩
      · rw [hb] at hnn; cases hnn
      · rw [hb] at e1; injection e1 with e1; subst e1
        exact ⟨b, 0, by rw [hpre, vwSegs_pre hv, Nat.zero_add], by rw [H.w]; exact g2, g1, vwSegs_sound H segs o.segs b 0 hv e4⟩
  | .agg segs, a, y, h, hs => by
    simp only [vw] at h
    obtain ⟨segs0, rfl, hv⟩ := h
    simp only [sat] at hs ⊢
    obtain ⟨vs, rfl, hs⟩ := hs
    exact ⟨vs, rfl, vwAgg_sound H segs segs0 vs hv hs⟩
  | .tup l, a, y, h, hs => by
    simp only [vw] at h
    obtain ⟨l0, rfl, hv⟩ := h
    simp only [sat] at hs ⊢
    obtain ⟨vs, rfl, hs⟩ := hs
    exact ⟨vs, rfl, vwTup_sound H l l0 vs hv hs⟩
  | .clo f caps, a, y, h, hs => by
    simp only [vw] at h
    obtain ⟨c0, rfl, hv⟩ := h
    simp only [sat] at hs ⊢
    obtain ⟨vs, rfl, hs⟩ := hs
    exact ⟨vs, rfl, vwList_sound H caps c0 vs hv hs⟩
theorem vwList_sound {c c' : Ctx} {ob : Nat → Option AObj} {lend : Bool} {σ : Nat → Option Nat} (H : View c c' ob lend σ) : ∀ (l l0 : List AV) (vs : List Value), vwList ob lend σ l0 l → satList c l0 vs → satList c' l vs
  | [], l0, vs, h, hs => by simp only [vwList] at h; subst h; simp only [satList] at hs ⊢; exact hs
  | a' :: l, l0, vs, h, hs => by
    simp only [vwList] at h
    obtain ⟨a, r, rfl, h1, h2⟩ := h
    simp only [satList] at hs ⊢
    obtain ⟨v, q, rfl, h3, h4, h5⟩ := hs
    exact ⟨v, q, rfl, h3, vw_sound H a' a v h1 h4, vwList_sound H l r q h2 h5⟩
theorem vwTup_sound {c c' : Ctx} {ob : Nat → Option AObj} {lend : Bool} {σ : Nat → Option Nat} (H : View c c' ob lend σ) : ∀ (l l0 : List AV) (vs : List Value), vwList ob lend σ l0 l → satTup c l0 vs → satTup c' l vs
  | [], l0, vs, h, hs => by simp only [vwList] at h; subst h; simp only [satTup] at hs ⊢; exact hs
  | a' :: l, l0, vs, h, hs => by
    simp only [vwList] at h
    obtain ⟨a, r, rfl, h1, h2⟩ := h
    simp only [satTup] at hs ⊢
    obtain ⟨v, q, rfl, h4, h5⟩ := hs
    exact ⟨v, q, rfl, vw_sound H a' a v h1 h4, vwTup_sound H l r q h2 h5⟩
theorem vwCells_sound {c c' : Ctx} {ob : Nat → Option AObj} {lend : Bool} {σ : Nat → Option Nat} (H : View c c' ob lend σ) : ∀ (l l0 : List AV) (b o : Nat), vwList ob lend σ l0 l → satCells c b o l0 → satCells c' b o l
  | [], l0, b, o, h, hs => by simp only [satCells]
  | a' :: l, l0, b, o, h, hs => by
    simp only [vwList] at h
    obtain ⟨a, r, rfl, h1, h2⟩ := h
    simp only [satCells] at hs ⊢
    obtain ⟨⟨y, h3, h4, h5⟩, h6⟩ := hs
    exact ⟨⟨y, by rw [H.w]; exact h3, h4, vw_sound H a' a y h1 h5⟩, vwCells_sound H l r b (o + 1) h2 h6⟩
theorem vwSegs_sound {c c' : Ctx} {ob : Nat → Option AObj} {lend : Bool} {σ : Nat → Option Nat} (H : View c c' ob lend σ) : ∀ (l l0 : List (List AV)) (b o : Nat), vwSegs ob lend σ l0 l → satSegs c b o l0 → satSegs c' b o l
  | [], l0, b, o, h, hs => by simp only [satSegs]
  | e' :: l, l0, b, o, h, hs => by
    simp only [vwSegs] at h
    obtain ⟨e, r, rfl, h1, h2⟩ := h
    simp only [satSegs] at hs ⊢
    exact ⟨vwCells_sound H e' e b o h1 hs.1, by have := vwSegs_sound H l r b (o + e.length) h2 hs.2; rwa [vwList_len h1] at this⟩
theorem vwAgg_sound {c c' : Ctx} {ob : Nat → Option AObj} {lend : Bool} {σ : Nat → Option Nat} (H : View c c' ob lend σ) : ∀ (l l0 : List (List AV)) (vs : List Value), vwSegs ob lend σ l0 l → satAgg c l0 vs → satAgg c' l vs
  | [], l0, vs, h, hs => by simp only [vwSegs] at h; subst h; simp only [satAgg] at hs ⊢; exact hs
  | e' :: l, l0, vs, h, hs => by
    simp only [vwSegs] at h
    obtain ⟨e, r, rfl, h1, h2⟩ := h
    simp only [satAgg] at hs ⊢
    obtain ⟨v, q, rfl, h3, h4⟩ := hs
    exact ⟨v, q, rfl, vwList_sound H e' e v h1 h3, vwAgg_sound H l r q h2 h4⟩
end
end Go.Av
