/- A part of the proof that a law of the seat holds: ZAv6. -/
import Derived.Test.YtleaogcnndhdgaaAv5
namespace Go.Av
open Go Go.RowKit

/-! ### a part of a row anew -/
def AV.isCell : AV → Bool
  | .any | .agg _ | .tup _ => false
  | _ => true

def cellsA : AV → List AV
  | .agg s => s.flatten
  | a => [a]

theorem isCell_one {c : Ctx} {a : AV} {y : Value} (h : a.isCell = true) (hs : sat c a y) : y.oneCell' = true := by
  cases a <;> simp only [AV.isCell, Bool.false_eq_true] at h <;> simp only [sat] at hs
  · rw [hs.1]; exact hs.2
  · obtain ⟨b, _, rfl⟩ := hs; rfl
  · rcases hs with ⟨_, a, rfl⟩ | ⟨b, k, cap, cur, ty, fr, _, _, rfl, _⟩ <;> rfl
  · obtain ⟨b, cap, _, rfl, _⟩ := hs; rfl
  · obtain ⟨b, cap, rfl, _⟩ := hs; rfl
  · obtain ⟨b, cap, rfl, _⟩ := hs; rfl
  · obtain ⟨vs, rfl, _⟩ := hs; rfl

def AV.isVal : AV → Bool
  | .any | .tup _ => false
  | _ => true

theorem oneCell_cells {y : Value} (h : y.oneCell' = true) : y.cells = #[y] := by
  cases y <;> simp_all [Value.oneCell', Value.cells]

theorem cells_sat {c : Ctx} {a : AV} {y : Value} (h : a.isVal = true) (hs : sat c a y) : satList c (cellsA a) y.cells.toList := by
  cases a with
  | any => cases h
  | tup _ => cases h
  | agg s =>
    simp only [sat] at hs
    obtain ⟨vs, rfl, hv⟩ := hs
    exact (satAgg_flat c s vs).1 hv
  | _ =>
    have h1 := isCell_one (by rfl) hs
    rw [oneCell_cells h1]
    simp only [cellsA, satList]
    exact ⟨y, [], rfl, h1, hs, rfl⟩

def stS (segs : List (List AV)) (s j : Nat) (a : AV) : Option (List (List AV)) :=
  match a with
  | .agg [x] => if j = 0 ∧ (segs[s]?).map List.length = some x.length then some (segs.set s x) else none
  | .agg sv =>
    if j = 0 ∧ ((segs.drop s).take sv.length).map List.length = sv.map List.length then some (segs.take s ++ sv ++ segs.drop (s + sv.length))
    else if j = 0 ∧ (segs[s]?).map List.length = some sv.flatten.length then some (segs.set s sv.flatten)
    else none
  | a => if a.isCell = true then (segs[s]?).bind fun e => if j < e.length then some (segs.set s (e.set j a)) else none else none

theorem segs_split {segs : List (List AV)} {s : Nat} {e : List AV} (he : segs[s]? = some e) :
    ∃ A C, segs.flatten = A ++ e ++ C ∧ A.length = presegs segs s ∧ ∀ x, (segs.set s x).flatten = A ++ x ++ C := by
  obtain ⟨h1, h2⟩ := List.getElem?_eq_some_iff.1 he
  refine ⟨(segs.take s).flatten, (segs.drop (s + 1)).flatten, ?_, (presegs_eq segs s).symm, fun x => ?_⟩
  · conv => lhs; rw [← List.take_append_drop s segs, List.flatten_append, List.drop_eq_getElem_cons h1, h2, List.flatten_cons]
    rw [List.append_assoc]
  · rw [List.set_eq_take_append_cons_drop, if_pos h1, List.flatten_append, List.flatten_cons, List.append_assoc]

theorem splice_mid (A e C y : List AV) {j n : Nat} (h : j + n ≤ e.length) :
    (A ++ e ++ C).take (A.length + j) ++ y ++ (A ++ e ++ C).drop (A.length + j + n) = A ++ (e.take j ++ y ++ e.drop (j + n)) ++ C := by
  have t1 : (A ++ e ++ C).take (A.length + j) = A ++ e.take j := by
    rw [List.append_assoc, List.take_append, List.take_of_length_le (by omega), List.take_append_of_le_length (by omega)]
    congr 2; omega
  have t2 : (A ++ e ++ C).drop (A.length + j + n) = e.drop (j + n) ++ C := by
    rw [List.append_assoc, List.drop_append, List.drop_of_length_le (by omega), List.drop_append_of_le_length (by omega), List.nil_append]
    congr 2; omega
  rw [t1, t2]
  simp only [List.append_assoc]

theorem set_lens {segs : List (List AV)} {s : Nat} {e x : List AV} (he : segs[s]? = some e) (hx : x.length = e.length) : (segs.set s x).map List.length = segs.map List.length := by
  rw [List.map_set, hx]
  apply List.ext_getElem?
  intro i
  rw [List.getElem?_set]
  split
  · rename_i hi; subst hi
    split
    · simp [he]
    · rename_i h; simp at h
      have := (List.getElem?_eq_some_iff.1 he).1
      omega
  · rfl

theorem splice_set {l : List AV} {p : Nat} {a : AV} (h : p < l.length) : l.set p a = l.take p ++ [a] ++ l.drop (p + 1) := by
  rw [List.set_eq_take_append_cons_drop, if_pos h]; simp

theorem stS_spec {segs segs' : List (List AV)} {s j : Nat} {a : AV} (h : stS segs s j a = some segs') :
    a.isVal = true ∧ segs'.flatten = segs.flatten.take (presegs segs s + j) ++ cellsA a ++ segs.flatten.drop (presegs segs s + j + (cellsA a).length) ∧
    segs'.map List.length = segs.map List.length ∧ presegs segs s + j + (cellsA a).length ≤ segs.flatten.length := by
  have one : ∀ x : List AV, j = 0 ∧ (segs[s]?).map List.length = some x.length → segs' = segs.set s x →
      segs'.flatten = segs.flatten.take (presegs segs s + j) ++ x ++ segs.flatten.drop (presegs segs s + j + x.length) ∧ segs'.map List.length = segs.map List.length ∧ presegs segs s + j + x.length ≤ segs.flatten.length := by
    rintro x ⟨rfl, hx⟩ rfl
    cases he : segs[s]? with
    | none => rw [he] at hx; cases hx
    | some e =>
      rw [he] at hx
      simp only [Option.map_some, Option.some.injEq] at hx
      obtain ⟨A, C, h1, h2, h3⟩ := segs_split he
      refine ⟨?_, set_lens he hx.symm, by rw [h1, ← h2]; simp; omega⟩
      rw [h3, h1, ← h2, splice_mid A e C x (j := 0) (n := x.length) (by omega), ← hx]
      simp
  have cell : ((segs[s]?).bind fun e => if j < e.length then some (segs.set s (e.set j a)) else none) = some segs' →
      segs'.flatten = segs.flatten.take (presegs segs s + j) ++ [a] ++ segs.flatten.drop (presegs segs s + j + 1) ∧ segs'.map List.length = segs.map List.length ∧ presegs segs s + j + 1 ≤ segs.flatten.length := by
    intro hb
    cases he : segs[s]? with
    | none => rw [he] at hb; cases hb
    | some e =>
      rw [he] at hb
      simp only [Option.bind_some] at hb
      split at hb
      · rename_i hj
        simp only [Option.some.injEq] at hb
        subst hb
        obtain ⟨A, C, h1, h2, h3⟩ := segs_split he
        refine ⟨?_, set_lens he (by simp), by rw [h1, ← h2]; simp; omega⟩
        rw [h3, h1, ← h2, splice_mid A e C [a] (j := j) (n := 1) (by omega), splice_set hj]
      · cases hb
  unfold stS at h
  split at h
  case h_1 x =>
    split at h
    case isFalse => cases h
    case isTrue hc =>
      simp only [Option.some.injEq] at h
      have := one x hc h.symm
      refine ⟨rfl, ?_⟩
      simpa [cellsA] using this
  case h_2 sv _ =>
    split at h
    case isTrue hc =>
      obtain ⟨rfl, hm⟩ := hc
      simp only [Option.some.injEq] at h
      subst h
      have hs : s ≤ segs.length ∨ sv = [] := by
        rcases Nat.lt_or_ge segs.length s with h' | h'
        · right
          rw [List.drop_eq_nil_of_le (by omega)] at hm
          simp at hm
          exact hm
        · exact .inl h'
      refine ⟨rfl, ?_⟩
      simp only [cellsA, Nat.add_zero]
      have e0 : segs.flatten = (segs.take s).flatten ++ (((segs.drop s).take sv.length).flatten ++ (segs.drop (s + sv.length)).flatten) := by
        conv => lhs; rw [← List.take_append_drop s segs, List.flatten_append, ← List.take_append_drop sv.length (segs.drop s), List.flatten_append, List.drop_drop]
      have hl : ((segs.drop s).take sv.length).flatten.length = sv.flatten.length := by rw [List.length_flatten, hm, List.length_flatten]
      have e1 := e0
      rw [← List.append_assoc] at e1
      refine ⟨?_, ?_, ?_⟩
      · have := splice_mid (segs.take s).flatten ((segs.drop s).take sv.length).flatten (segs.drop (s + sv.length)).flatten sv.flatten (j := 0) (n := sv.flatten.length) (by omega)
        have hd : List.drop sv.flatten.length ((segs.drop s).take sv.length).flatten = [] := List.drop_of_length_le (by omega)
        rw [← e1, Nat.add_zero, ← presegs_eq, Nat.zero_add, List.take_zero, List.nil_append, hd, List.append_nil] at this
        rw [this]
        simp only [List.flatten_append]
      · simp only [List.map_append, ← hm]
        conv => rhs; rw [← List.take_append_drop s segs, List.map_append, ← List.take_append_drop sv.length (segs.drop s), List.map_append, List.drop_drop]
        rw [List.append_assoc]
      · rw [e0, presegs_eq]; simp only [List.length_append]; omega
    case isFalse =>
      split at h
      case isFalse => cases h
      case isTrue hc =>
        simp only [Option.some.injEq] at h
        exact ⟨rfl, one sv.flatten hc h.symm⟩
  case h_3 _ _ =>
    split at h
    case isFalse => cases h
    case isTrue hcell =>
      have := cell h
      cases a <;> simp only [AV.isCell, Bool.false_eq_true] at hcell <;> exact ⟨rfl, this⟩
end Go.Av
