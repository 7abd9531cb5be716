/- A part of the proof that a law of the seat holds: ZAv1. -/
import Derived.WalkKit
import Derived.Deep.Quiet
namespace Go.Av
open Go Go.RowKit

/-- how a block is laid out: rows of 'k' cells, or segments -/
inductive Lay where
  | uni (k : Nat)
  | segs (l : List Nat)

def Lay.pre : Lay → Nat → Nat
  | .uni k, s => s * k
  | .segs l, s => (l.take s).sum

inductive AV where
  | any
  | v (x : Value)
  | ptr (nm s j : Nat)
  | sl (nm off len : Nat)
  | sv (nm s off len : Nat)
  | ro (els : List (List AV)) (full : Bool)
  | rp (segs : List (List AV)) (s j : Nat)
  | agg (segs : List (List AV))
  | tup (vs : List AV)
  | clo (f : FuncId) (caps : List AV)
  deriving Inhabited

structure Ctx where
  w : World
  X : Nat → Prop
  m : Nat → Option Nat
  L : Nat → Lay

def presegs (l : List (List AV)) (s : Nat) : Nat := ((l.take s).map List.length).sum

mutual
def sat (c : Ctx) : AV → Value → Prop
  | .any, _ => True
  | .v x, y => y = x ∧ x.oneCell' = true
  | .ptr nm s j, y => ∃ b, c.m nm = some b ∧ y = .pointer (some ⟨b, (c.L nm).pre s + j, none⟩)
  | .sl nm off len, y => (len = 0 ∧ ∃ a, y = .slice a 0 0) ∨
      (∃ b k cap cur ty fr, c.m nm = some b ∧ c.L nm = .uni k ∧ y = .slice (some ⟨b, off * k, none⟩) len cap ∧ len ≤ cap ∧
        c.w.heap[b]? = some (.cells cur ty fr) ∧ cur.size = (off + cap) * k ∧ off + cap ≤ maxLen)
  | .sv nm s off len, y => ∃ b cap, c.m nm = some b ∧ y = .slice (some ⟨b, (c.L nm).pre s + off, none⟩) len cap ∧ len ≤ cap ∧ len ≤ maxLen
  | .ro els full, y => ∃ a cap, y = .slice a els.length cap ∧ els.length ≤ cap ∧ els.length ≤ maxLen ∧ (full = true → cap = els.length) ∧
      (els = [] ∨ ∃ b off k, a = some ⟨b, off, none⟩ ∧ b < c.w.heap.size ∧ ¬ c.X b ∧ (∀ e ∈ els, e.length = k) ∧ satSegs c b off els)
  | .rp segs s j, y => ∃ b off, y = .pointer (some ⟨b, off + presegs segs s + j, none⟩) ∧ b < c.w.heap.size ∧ ¬ c.X b ∧ satSegs c b off segs
  | .agg segs, y => ∃ vs, y = .agg vs.toArray ∧ satAgg c segs vs
  | .tup l, y => ∃ vs, y = .tuple vs.toArray ∧ satTup c l vs
  | .clo f caps, y => ∃ vs, y = .func (.func f) #[] vs.toArray ∧ satList c caps vs
/-- the cells from (b, o) on -/
def satCells (c : Ctx) (b : Nat) : Nat → List AV → Prop
  | _, [] => True
  | o, a :: l => (∃ y, c.w.cell? ⟨b, o, none⟩ = some y ∧ y.oneCell' = true ∧ sat c a y) ∧ satCells c b (o + 1) l
def satSegs (c : Ctx) (b : Nat) : Nat → List (List AV) → Prop
  | _, [] => True
  | o, e :: l => satCells c b o e ∧ satSegs c b (o + e.length) l
/-- values of one cell each -/
def satList (c : Ctx) : List AV → List Value → Prop
  | [], vs => vs = []
  | a :: l, vs => ∃ v r, vs = v :: r ∧ v.oneCell' = true ∧ sat c a v ∧ satList c l r
/-- values of whatever size -/
def satTup (c : Ctx) : List AV → List Value → Prop
  | [], vs => vs = []
  | a :: l, vs => ∃ v r, vs = v :: r ∧ sat c a v ∧ satTup c l r
def satAgg (c : Ctx) : List (List AV) → List Value → Prop
  | [], vs => vs = []
  | e :: l, vs => ∃ v r, vs = v ++ r ∧ satList c e v ∧ satAgg c l r
end

/-- how the world goes on: blocks outside X stay, blocks in X keep their shape -/
structure Ev (X : Nat → Prop) (w w' : World) : Prop where
  os : w'.os = w.os
  tape : w'.tape = w.tape
  output : w'.output = w.output
  size : w.heap.size ≤ w'.heap.size
  block : ∀ b : Nat, b < w.heap.size → ¬ X b → w'.heap[b]? = w.heap[b]?
  shape : ∀ (b : Nat) (cur : Array Value) (ty : TypeId) (fr : Nat × Nat), w.heap[b]? = some (.cells cur ty fr) → ∃ cur', w'.heap[b]? = some (.cells cur' ty fr) ∧ cur'.size = cur.size

theorem Ev.refl (X : Nat → Prop) (w : World) : Ev X w w := ⟨rfl, rfl, rfl, Nat.le_refl _, fun _ _ _ => rfl, fun _ cur _ _ h => ⟨cur, h, rfl⟩⟩

theorem Ev.trans {X Y : Nat → Prop} {a b c : World} (h : Ev X a b) (k : Ev Y b c) (hY : ∀ q, Y q → X q ∨ a.heap.size ≤ q) : Ev X a c := by
  refine ⟨k.os.trans h.os, k.tape.trans h.tape, k.output.trans h.output, Nat.le_trans h.size k.size, fun q hq hX => ?_, fun q cur ty fr hc => ?_⟩
  · rw [k.block q (Nat.lt_of_lt_of_le hq h.size) (fun hy => (hY q hy).elim hX (fun h2 => by omega)), h.block q hq hX]
  · obtain ⟨cur1, h1, e1⟩ := h.shape q cur ty fr hc
    obtain ⟨cur2, h2, e2⟩ := k.shape q cur1 ty fr h1
    exact ⟨cur2, h2, e2.trans e1⟩

theorem Ev.mono {X Y : Nat → Prop} {a b : World} (h : Ev X a b) (hX : ∀ q, X q → Y q) : Ev Y a b :=
  ⟨h.os, h.tape, h.output, h.size, fun q hq hn => h.block q hq (fun hx => hn (hX q hx)), h.shape⟩

theorem Ev.of_below {X : Nat → Prop} {a b : World} (h : Below a.heap.size a b) : Ev X a b :=
  ⟨h.os, h.tape, h.output, h.size, fun q hq _ => h.block q hq, fun q cur ty fr hc => ⟨cur, by rw [h.block q (Array.getElem?_eq_some_iff.1 hc).1]; exact hc, rfl⟩⟩

theorem Ev.cell {X : Nat → Prop} {w w' : World} (h : Ev X w w') {b o : Nat} {y : Value} (hb : ¬ X b) (hc : w.cell? ⟨b, o, none⟩ = some y) : w'.cell? ⟨b, o, none⟩ = some y := by
  have hlt := World.block_lt_of_cell? w ⟨b, o, none⟩ hc
  rw [World.cell?_of_block (w := w) (h.block b hlt hb)]; exact hc

structure Step (c c' : Ctx) : Prop where
  ev : Ev c.X c.w c'.w
  X : ∀ b, b < c.w.heap.size → c'.X b → c.X b
  m : ∀ nm b, c.m nm = some b → c'.m nm = some b ∧ c'.L nm = c.L nm

mutual
theorem sat_step {c c' : Ctx} (H : Step c c') : ∀ (a : AV) (y : Value), sat c a y → sat c' a y
  | .any, _, _ => by simp only [sat]
  | .v x, y, h => by simp only [sat] at h ⊢; exact h
  | .ptr nm s j, y, h => by
    simp only [sat] at h ⊢
    obtain ⟨b, hb, rfl⟩ := h
    have hl := H.m nm b hb
    exact ⟨b, hl.1, by rw [hl.2]⟩
  | .sl nm off len, y, h => by
    simp only [sat] at h ⊢
    rcases h with h2 | ⟨b, k, cap, cur, ty, fr, hb, hL, rfl, hlc, hc, hs, hm⟩
    · exact .inl h2
    · have hl := H.m nm b hb
      obtain ⟨cur', h1, e1⟩ := H.ev.shape b cur ty fr hc
      exact .inr ⟨b, k, cap, cur', ty, fr, hl.1, by rw [hl.2]; exact hL, rfl, hlc, h1, by rw [e1]; exact hs, hm⟩
  | .sv nm s off len, y, h => by
    simp only [sat] at h ⊢
    obtain ⟨b, cap, hb, rfl, hlc⟩ := h
    have hl := H.m nm b hb
    exact ⟨b, cap, hl.1, by rw [hl.2], hlc⟩
  | .ro els full, y, h => by
    simp only [sat] at h ⊢
    obtain ⟨a, cap, rfl, h1, h2, h3, h4⟩ := h
    refine ⟨a, cap, rfl, h1, h2, h3, ?_⟩
    rcases h4 with h4 | ⟨b, off, k, ha, hb, hX, hk, hs⟩
    · exact .inl h4
    · exact .inr ⟨b, off, k, ha, Nat.lt_of_lt_of_le hb H.ev.size, fun hx => hX (H.X b hb hx), hk, satSegs_step H b hX els off hs⟩
  | .rp segs s j, y, h => by
    simp only [sat] at h ⊢
    obtain ⟨b, off, rfl, hb, hX, hs⟩ := h
    exact ⟨b, off, rfl, Nat.lt_of_lt_of_le hb H.ev.size, fun hx => hX (H.X b hb hx), satSegs_step H b hX segs off hs⟩
  | .agg segs, y, h => by
    simp only [sat] at h ⊢
    obtain ⟨vs, rfl, hs⟩ := h
    exact ⟨vs, rfl, satAgg_step H segs vs hs⟩
  | .tup l, y, h => by
    simp only [sat] at h ⊢
    obtain ⟨vs, rfl, hs⟩ := h
    exact ⟨vs, rfl, satTup_step H l vs hs⟩
  | .clo f caps, y, h => by
    simp only [sat] at h ⊢
    obtain ⟨vs, rfl, hs⟩ := h
    exact ⟨vs, rfl, satList_step H caps vs hs⟩
theorem satCells_step {c c' : Ctx} (H : Step c c') (b : Nat) (hX : ¬ c.X b) : ∀ (l : List AV) (o : Nat), satCells c b o l → satCells c' b o l
  | [], _, _ => by simp only [satCells]
  | a :: l, o, h => by
    simp only [satCells] at h ⊢
    obtain ⟨⟨y, h1, h2, h3⟩, h4⟩ := h
    exact ⟨⟨y, H.ev.cell hX h1, h2, sat_step H a y h3⟩, satCells_step H b hX l (o + 1) h4⟩
theorem satSegs_step {c c' : Ctx} (H : Step c c') (b : Nat) (hX : ¬ c.X b) : ∀ (l : List (List AV)) (o : Nat), satSegs c b o l → satSegs c' b o l
  | [], _, _ => by simp only [satSegs]
  | e :: l, o, h => by
    simp only [satSegs] at h ⊢
    exact ⟨satCells_step H b hX e o h.1, satSegs_step H b hX l (o + e.length) h.2⟩
theorem satList_step {c c' : Ctx} (H : Step c c') : ∀ (l : List AV) (vs : List Value), satList c l vs → satList c' l vs
  | [], vs, h => by simp only [satList] at h ⊢; exact h
  | a :: l, vs, h => by
    simp only [satList] at h ⊢
    obtain ⟨v, r, rfl, h1, h2, h3⟩ := h
    exact ⟨v, r, rfl, h1, sat_step H a v h2, satList_step H l r h3⟩
theorem satTup_step {c c' : Ctx} (H : Step c c') : ∀ (l : List AV) (vs : List Value), satTup c l vs → satTup c' l vs
  | [], vs, h => by simp only [satTup] at h ⊢; exact h
  | a :: l, vs, h => by
    simp only [satTup] at h ⊢
    obtain ⟨v, r, rfl, h2, h3⟩ := h
    exact ⟨v, r, rfl, sat_step H a v h2, satTup_step H l r h3⟩
theorem satAgg_step {c c' : Ctx} (H : Step c c') : ∀ (l : List (List AV)) (vs : List Value), satAgg c l vs → satAgg c' l vs
  | [], vs, h => by simp only [satAgg] at h ⊢; exact h
  | e :: l, vs, h => by
    simp only [satAgg] at h ⊢
    obtain ⟨v, r, rfl, h2, h3⟩ := h
    exact ⟨v, r, rfl, satList_step H e v h2, satAgg_step H l r h3⟩
end
end Go.Av
