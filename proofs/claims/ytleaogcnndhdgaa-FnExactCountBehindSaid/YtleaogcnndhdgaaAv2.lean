/- A part of the proof that a law of the seat holds: ZAv2. -/
import Derived.Test.YtleaogcnndhdgaaAv1
namespace Go.Av
open Go Go.RowKit

/-! ### cells in a row -/
theorem satCells_app (c : Ctx) (b : Nat) : ∀ (l r : List AV) (o : Nat), satCells c b o (l ++ r) ↔ satCells c b o l ∧ satCells c b (o + l.length) r
  | [], r, o => by simp [satCells]
  | a :: l, r, o => by
    simp only [List.cons_append, satCells, satCells_app c b l r (o + 1), List.length_cons, and_assoc, show o + (l.length + 1) = o + 1 + l.length by omega]

theorem satSegs_flat (c : Ctx) (b : Nat) : ∀ (l : List (List AV)) (o : Nat), satSegs c b o l ↔ satCells c b o l.flatten
  | [], o => by simp [satSegs, satCells]
  | e :: l, o => by simp only [satSegs, List.flatten_cons, satCells_app, satSegs_flat c b l]

theorem satCells_get {c : Ctx} {b : Nat} : ∀ {l : List AV} {o q : Nat} {a : AV}, satCells c b o l → l[q]? = some a → ∃ y, c.w.cell? ⟨b, o + q, none⟩ = some y ∧ y.oneCell' = true ∧ sat c a y
  | [], _, _, _, _, h => by simp at h
  | x :: l, o, 0, a, h, hq => by
    simp only [satCells] at h
    simp only [List.getElem?_cons_zero, Option.some.injEq] at hq
    subst hq
    exact h.1
  | x :: l, o, q + 1, a, h, hq => by
    simp only [satCells] at h
    simp only [List.getElem?_cons_succ] at hq
    have := satCells_get h.2 hq
    simpa only [show o + 1 + q = o + (q + 1) by omega] using this

theorem satCells_of {c : Ctx} {b : Nat} : ∀ {l : List AV} {o : Nat}, (∀ (q : Nat) (a : AV), l[q]? = some a → ∃ y, c.w.cell? ⟨b, o + q, none⟩ = some y ∧ y.oneCell' = true ∧ sat c a y) → satCells c b o l
  | [], _, _ => by simp only [satCells]
  | x :: l, o, h => by
    simp only [satCells]
    refine ⟨by simpa using h 0 x (by simp), satCells_of fun q a hq => ?_⟩
    simpa only [show o + 1 + q = o + (q + 1) by omega] using h (q + 1) a (by simpa using hq)

theorem satCells_sub {c : Ctx} {b o : Nat} {l : List AV} (h : satCells c b o l) (p n : Nat) : satCells c b (o + p) ((l.drop p).take n) := by
  refine satCells_of fun q a hq => ?_
  rw [List.getElem?_take] at hq
  split at hq
  · rw [List.getElem?_drop] at hq
    simpa only [show o + p + q = o + (p + q) by omega] using satCells_get h hq
  · cases hq

theorem satAgg_flat (c : Ctx) : ∀ (l : List (List AV)) (vs : List Value), satAgg c l vs ↔ satList c l.flatten vs
  | [], vs => by simp [satAgg, satList]
  | e :: l, vs => by
    simp only [satAgg, List.flatten_cons]
    have key : ∀ (e r : List AV) (vs : List Value), satList c (e ++ r) vs ↔ ∃ v u, vs = v ++ u ∧ satList c e v ∧ satList c r u := by
      intro e
      induction e with
      | nil =>
        intro r vs
        constructor
        · intro h; exact ⟨[], vs, rfl, by simp [satList], h⟩
        · rintro ⟨v, u, rfl, h1, h2⟩; simp only [satList] at h1; subst h1; exact h2
      | cons a e ih =>
        intro r vs
        simp only [List.cons_append, satList, ih]
        constructor
        · rintro ⟨v, _, rfl, h1, h2, v', u, rfl, h3, h4⟩
          exact ⟨v :: v', u, rfl, ⟨v, v', rfl, h1, h2, h3⟩, h4⟩
        · rintro ⟨_, u, rfl, ⟨v, v', rfl, h1, h2, h3⟩, h4⟩
          exact ⟨v, v' ++ u, rfl, h1, h2, v', u, rfl, h3, h4⟩
    rw [key]
    simp only [satAgg_flat c l]

theorem satList_len {c : Ctx} : ∀ {l : List AV} {vs : List Value}, satList c l vs → vs.length = l.length
  | [], vs, h => by simp only [satList] at h; subst h; rfl
  | a :: l, vs, h => by
    simp only [satList] at h
    obtain ⟨v, r, rfl, _, _, h⟩ := h
    simp [satList_len h]

theorem satList_get {c : Ctx} : ∀ {l : List AV} {vs : List Value} {q : Nat} {a : AV}, satList c l vs → l[q]? = some a → ∃ y, vs[q]? = some y ∧ y.oneCell' = true ∧ sat c a y
  | [], _, _, _, _, h => by simp at h
  | x :: l, vs, 0, a, h, hq => by
    simp only [satList] at h
    obtain ⟨v, r, rfl, h1, h2, _⟩ := h
    simp only [List.getElem?_cons_zero, Option.some.injEq] at hq
    subst hq
    exact ⟨v, rfl, h1, h2⟩
  | x :: l, vs, q + 1, a, h, hq => by
    simp only [satList] at h
    obtain ⟨v, r, rfl, _, _, h⟩ := h
    simp only [List.getElem?_cons_succ] at hq ⊢
    exact satList_get h hq

theorem satList_of {c : Ctx} : ∀ {l : List AV} {vs : List Value}, vs.length = l.length → (∀ (q : Nat) (a : AV), l[q]? = some a → ∃ y, vs[q]? = some y ∧ y.oneCell' = true ∧ sat c a y) → satList c l vs
  | [], vs, hl, _ => by simp only [satList]; exact List.eq_nil_of_length_eq_zero hl
  | x :: l, [], hl, _ => by simp at hl
  | x :: l, v :: vs, hl, h => by
    simp only [satList]
    obtain ⟨y, hy, h1, h2⟩ := h 0 x (by simp)
    simp only [List.getElem?_cons_zero, Option.some.injEq] at hy
    subst hy
    exact ⟨v, vs, rfl, h1, h2, satList_of (by simpa using hl) fun q a hq => by simpa using h (q + 1) a (by simpa using hq)⟩

theorem satList_one {c : Ctx} : ∀ {l : List AV} {vs : List Value}, satList c l vs → ∀ v ∈ vs, v.oneCell' = true
  | [], vs, h => by simp only [satList] at h; subst h; simp
  | a :: l, vs, h => by
    simp only [satList] at h
    obtain ⟨v, r, rfl, h1, _, h⟩ := h
    intro u hu
    rcases List.mem_cons.1 hu with rfl | hu
    · exact h1
    · exact satList_one h u hu

/-- what a row of cells holds, as values -/
theorem satCells_vals {c : Ctx} {b o : Nat} {l : List AV} (h : satCells c b o l) : ∃ vs : List Value, satList c l vs ∧ ∀ q y, vs[q]? = some y → c.w.cell? ⟨b, o + q, none⟩ = some y := by
  refine ⟨(List.range l.length).map fun q => (c.w.cell? ⟨b, o + q, none⟩).getD undef, satList_of (by simp) fun q a hq => ?_, fun q y hq => ?_⟩
  · obtain ⟨y, h1, h2, h3⟩ := satCells_get h hq
    have hlt : q < l.length := (List.getElem?_eq_some_iff.1 hq).1
    exact ⟨y, by simp [hlt, h1], h2, h3⟩
  · rw [List.getElem?_map] at hq
    by_cases hlt : q < l.length
    · rw [List.getElem?_range hlt] at hq
      simp only [Option.map_some, Option.some.injEq] at hq
      obtain ⟨y', h1, _⟩ := satCells_get h (List.getElem?_eq_getElem hlt)
      rw [h1] at hq ⊢
      simp only [Option.getD_some] at hq
      rw [hq]
    · rw [List.getElem?_eq_none (by simpa using hlt)] at hq
      cases hq

theorem presegs_eq (l : List (List AV)) (s : Nat) : presegs l s = (l.take s).flatten.length := by
  simp [presegs, List.length_flatten]

theorem flatten_drop (l : List (List AV)) (s : Nat) : (l.drop s).flatten = l.flatten.drop (presegs l s) := by
  conv => rhs; rw [← List.take_append_drop s l, List.flatten_append, List.take_append_drop s l]
  rw [presegs_eq, List.drop_left]

theorem flat_get {l : List (List AV)} {s j : Nat} {e : List AV} {a : AV} (he : l[s]? = some e) (ha : e[j]? = some a) : l.flatten[presegs l s + j]? = some a := by
  have h := flatten_drop l s
  have hd : l.drop s = e :: l.drop (s + 1) := by
    obtain ⟨h1, h2⟩ := List.getElem?_eq_some_iff.1 he
    rw [List.drop_eq_getElem_cons h1, h2]
  rw [hd, List.flatten_cons] at h
  have : (l.flatten.drop (presegs l s))[j]? = some a := by
    rw [← h, List.getElem?_append_left (List.getElem?_eq_some_iff.1 ha).1]; exact ha
  rwa [List.getElem?_drop] at this

theorem presegs_uni {k : Nat} : ∀ {l : List (List AV)} {s : Nat}, (∀ e ∈ l, e.length = k) → s ≤ l.length → presegs l s = s * k
  | [], s, _, h => by simp at h; subst h; simp [presegs]
  | e :: l, 0, _, _ => by simp [presegs]
  | e :: l, s + 1, hk, h => by
    have := presegs_uni (l := l) (s := s) (fun x hx => hk x (by simp [hx])) (by simpa using h)
    simp only [presegs, List.take_succ_cons, List.map_cons, List.sum_cons] at this ⊢
    rw [this, hk e (by simp), Nat.succ_mul]; omega

theorem presegs_add (l : List (List AV)) (s n : Nat) : presegs l (s + n) = presegs l s + presegs (l.drop s) n := by
  simp only [presegs, List.take_add, List.map_append, List.sum_append]

/-! ### the abstract state -/
structure AObj where
  ty : TypeId
  k : Option Nat
  segs : List (List AV)

structure St where
  env : Nat → AV
  objs : Nat → Option AObj
  nx : Nat

def noFr (fr : Nat × Nat) (n : Nat) : Prop := ∀ q, q < n → (decide (fr.1 ≤ q) && decide (q < fr.2)) = false
theorem noFr_zero (n : Nat) : noFr (0, 0) n := fun q _ => by simp

def objOK (c : Ctx) (nm : Nat) (o : AObj) : Prop :=
  (c.m nm = none ∧ o.segs = [] ∧ ∃ k, o.k = some k ∧ c.L nm = .uni k) ∨
  ∃ b cur fr, c.m nm = some b ∧ c.w.heap[b]? = some (.cells cur o.ty fr) ∧ noFr fr cur.size ∧ satSegs c b 0 o.segs ∧
    ((∃ k cap, o.k = some k ∧ c.L nm = .uni k ∧ (∀ e ∈ o.segs, e.length = k) ∧ cur.size = cap * k ∧ o.segs.length ≤ cap ∧ cap ≤ maxLen) ∨
     (o.k = none ∧ c.L nm = .segs (o.segs.map List.length) ∧ cur.size = o.segs.flatten.length))

theorem objOK.pre {c : Ctx} {nm : Nat} {o : AObj} (h : objOK c nm o) {s : Nat} (hs : s ≤ o.segs.length) : (c.L nm).pre s = presegs o.segs s := by
  rcases h with ⟨_, h2, k, _, hL⟩ | ⟨b, cur, fr, _, _, _, _, ⟨k, cap, _, hL, hu, _⟩ | ⟨_, hL, _⟩⟩
  · rw [h2] at hs ⊢; simp at hs; subst hs; rw [hL]; simp [Lay.pre, presegs]
  · rw [hL, Lay.pre, presegs_uni hu hs]
  · rw [hL]; simp [Lay.pre, presegs]

def St.X (st : St) (m : Nat → Option Nat) : Nat → Prop := fun b => ∃ nm o, st.objs nm = some o ∧ m nm = some b
def St.ctx (st : St) (m : Nat → Option Nat) (L : Nat → Lay) (w : World) : Ctx := ⟨w, st.X m, m, L⟩

structure Base where
  w0 : World
  X0 : Nat → Prop
  m0 : Nat → Option Nat
  L0 : Nat → Lay
  n0 : Nat
  nt : Nat

/-- the state, told of a frame and a world; F: names that are still free -/
structure Rep (B : Base) (F : Nat → Prop) (st : St) (m : Nat → Option Nat) (L : Nat → Lay) (a : Act) (w : World) : Prop where
  sz : a.tmps.size = B.nt
  df : a.defers = []
  slots : ∀ t, sat (st.ctx m L w) (st.env t) (a.tmps.getD t undef)
  obj : ∀ nm o, st.objs nm = some o → objOK (st.ctx m L w) nm o
  inj : ∀ nm nm' o o' b, st.objs nm = some o → st.objs nm' = some o' → m nm = some b → m nm' = some b → nm = nm'
  mf : ∀ nm, F nm → m nm = none ∧ st.objs nm = none
  mb : ∀ nm b, m nm = some b → b < w.heap.size
  ev : Ev B.X0 B.w0 w
  fr : ∀ nm o b, st.objs nm = some o → m nm = some b → B.X0 b ∨ B.w0.heap.size ≤ b
  base : ∀ p, p < B.n0 → m p = B.m0 p ∧ L p = B.L0 p
  n0 : ∀ p, p < B.n0 → ¬ F p

end Go.Av
