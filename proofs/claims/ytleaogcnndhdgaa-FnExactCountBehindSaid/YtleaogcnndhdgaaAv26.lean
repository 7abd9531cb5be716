/- A part of the proof that a law of the seat holds: ZAv26. -/
import Derived.Test.YtleaogcnndhdgaaAv25
namespace Go.Av
open Go Go.RowKit Go.ChangeShapes Go.WideShapes

section
variable {P : Program} {W : World}

abbrev ctx0 (W : World) (m : Nat → Option Nat) (L : Nat → Lay) : Ctx := ⟨W, fun _ => False, m, L⟩

/-- what is read at type t in world W: the cells of some y -/
structure Cl (P : Program) (W : World) (t : TypeId) (Y : Type) (row : Y → List AV) (k : Nat) : Prop where
  cells : P.cellsOf t = k
  len : ∀ y, (row y).length = k
  opn : ∀ {H : Type} {enc : TypeId × Value → H} {base : Nat} {spare : Nat → Bool} {held : Bool} {fuel : Nat} {cs : List Value} {x : DataW H × List MemPlace},
    DataW.trod enc P W base spare held fuel t cs = some x → ∃ y : Y, ∀ (m : Nat → Option Nat) (L : Nat → Lay), satList (ctx0 W m L) (row y) cs

theorem Cl.of {t : TypeId} {α : Type} {row : α → List AV} {k : Nat} (h : Fl P t α row k) : Cl P W t α row k :=
  ⟨h.cells, h.len, fun ht => by obtain ⟨y, hy⟩ := h.opn ht; exact ⟨y, fun m L => hy _⟩⟩

/-- strings are not too long -/
abbrev Str := { s : ByteArray // s.size ≤ maxLen }
abbrev RowsOf (α : Type) := { l : List α // l.length ≤ maxLen }

theorem Cl.str {t : TypeId} (ht : P.underlying t = some .string) (hc : P.cellsOf t = 1) : Cl P W t Str (fun s => [aS s.1]) 1 :=
  ⟨hc, fun _ => rfl, fun h => by obtain ⟨s, rfl, _, hs⟩ := DataW.trod_string ht h; exact ⟨⟨s, hs⟩, fun m L => one_sat rfl⟩⟩

/-- integers fit their kind -/
abbrev Num64 := { n : Int // -9223372036854775808 ≤ n ∧ n ≤ 9223372036854775807 }
theorem Cl.num {t : TypeId} (ht : P.underlying t = some (.int .i64)) (hc : P.cellsOf t = 1) : Cl P W t Num64 (fun n => [aI n.1]) 1 :=
  ⟨hc, fun _ => rfl, fun h => by obtain ⟨n, rfl, _, hw⟩ := DataW.trod_int ht h; exact ⟨⟨n, bounds_i64 hw⟩, fun m L => one_sat rfl⟩⟩

theorem Cl.sl {t e : TypeId} {α : Type} {row : α → List AV} {k : Nat} (ht : P.underlying t = some (.slice e)) (hc : P.cellsOf t = 1) (hF : Fl P e α row k) (hk : 0 < k) : Cl P W t (RowsOf α) (fun l => [.ro (l.1.map row) false]) 1 :=
  ⟨hc, fun _ => rfl, fun {H enc base spare held fuel cs x} h => by
    have key : ∃ ad len cap, cs = [.slice ad len cap] := by
      rcases DataW.trod_slice ht h with ⟨hcs, _⟩ | ⟨a, len', cap', _, _, _, _, hcs, _⟩
      · exact ⟨_, _, _, hcs⟩
      · exact ⟨_, _, _, hcs⟩
    obtain ⟨ad, len, cap, rfl⟩ := key
    obtain ⟨l, hl, hs⟩ := open_slv (v := .slice ad len cap) (d := x.1) (ps := x.2) (row := row) ht hF hk (w := W) ⟨ad, len, cap, rfl⟩ ⟨fuel, h⟩
    exact ⟨⟨l, hl⟩, fun m L => by simp only [satList]; exact ⟨_, [], rfl, rfl, hs m L, rfl⟩⟩⟩

inductive Fs (P : Program) (W : World) : List Field → Nat → (Y : Type) → (Y → List AV) → Nat → Prop
  | nil (off : Nat) : Fs P W [] off Unit (fun _ => []) 0
  | cons {f : Field} {fs : List Field} {off k n : Nat} {Y Z : Type} {row : Y → List AV} {rz : Z → List AV} (hf : f.offset = off) (h : Cl P W f.type Y row k) (hs : Fs P W fs (off + k) Z rz n) : Fs P W (f :: fs) off (Y × Z) (fun y => row y.1 ++ rz y.2) (k + n)

theorem Fs.len {fs : List Field} {off n : Nat} {Y : Type} {row : Y → List AV} (h : Fs P W fs off Y row n) : ∀ y, (row y).length = n := by
  induction h with
  | nil => intro y; rfl
  | cons hf h hs ih => intro y; simp [h.len, ih]

theorem Fs.opn {H : Type} {enc : TypeId × Value → H} {base : Nat} {spare : Nat → Bool} {held : Bool} {fuel : Nat} {cs : List Value} {fs : List Field} {off n : Nat} {Y : Type} {row : Y → List AV} (h : Fs P W fs off Y row n)
    (hl : cs.length = off + n) (ht : ∀ f ∈ fs, ∃ x, DataW.trod enc P W base spare held fuel f.type ((cs.drop f.offset).take (P.cellsOf f.type)) = some x) : ∃ y : Y, ∀ (m : Nat → Option Nat) (L : Nat → Lay), satList (ctx0 W m L) (row y) (cs.drop off) := by
  induction h with
  | nil off => exact ⟨(), fun m L => by rw [List.drop_eq_nil_of_le (by omega)]; simp only [satList]⟩
  | @cons f fs off k n Y Z row rz hf h hs ih =>
    obtain ⟨x, hx⟩ := ht f (by simp)
    rw [hf, h.cells] at hx
    obtain ⟨y, hy⟩ := h.opn hx
    obtain ⟨z, hz⟩ := ih (by omega) fun g hg => ht g (by simp [hg])
    refine ⟨(y, z), fun m L => ?_⟩
    have := satList_app (hy m L) (hz m L)
    rwa [← List.drop_drop, List.take_append_drop] at this

theorem Cl.struct {t : TypeId} {fs : Array Field} {n : Nat} {Y : Type} {row : Y → List AV} (ht : P.underlying t = some (.struct fs)) (hc : P.cellsOf t = n) (h : Fs P W fs.toList 0 Y row n) : Cl P W t Y row n :=
  ⟨hc, h.len, fun {H enc base spare held fuel cs x} htr => by
    obtain ⟨xs, m, _, _, hl, hx, hall⟩ := DataW.trod_struct ht htr
    obtain ⟨y, hy⟩ := h.opn (enc := enc) (base := base) (spare := spare) (held := held) (fuel := m) (cs := cs) (by rw [hl, hc]; omega) (fun f hf => by
      obtain ⟨i, hi⟩ := List.getElem?_of_mem hf
      have hlt := (List.getElem?_eq_some_iff.1 hi).1
      have := hall i f (by simpa using hi)
      rw [List.getElem?_eq_getElem (by rw [hx]; simpa using hlt)] at this
      exact ⟨_, this⟩)
    exact ⟨y, fun m L => by simpa using hy m L⟩⟩

/-- an argument of one cell -/
theorem Cl.arg1 {H : Type} {enc : TypeId × Value → H} {base : Nat} {spare : Nat → Bool} {held : Bool} {t : TypeId} {v : Value} {d : DataW H} {ps : List MemPlace} {Y : Type} {a : Y → AV} (h : Cl P W t Y (fun y => [a y]) 1)
    (hv : v.oneCell' = true) (hd : DataW.Trod enc P W base spare held t v d ps) : ∃ y : Y, ∀ (m : Nat → Option Nat) (L : Nat → Lay), sat (ctx0 W m L) (a y) v := by
  obtain ⟨fuel, hf⟩ := hd
  rw [oneCell_cells hv] at hf
  obtain ⟨y, hy⟩ := h.opn hf
  refine ⟨y, fun m L => ?_⟩
  have := hy m L
  simp only [satList] at this
  obtain ⟨u, r, he, _, hs, _⟩ := this
  simp at he
  rw [he.1]; exact hs

/-- an argument that is a struct or an array -/
theorem Cl.argN {H : Type} {enc : TypeId × Value → H} {base : Nat} {spare : Nat → Bool} {held : Bool} {t : TypeId} {cs : Array Value} {d : DataW H} {ps : List MemPlace} {Y : Type} {row : Y → List AV} {k : Nat} (h : Cl P W t Y row k)
    (hd : DataW.Trod enc P W base spare held t (.agg cs) d ps) : ∃ y : Y, ∀ (m : Nat → Option Nat) (L : Nat → Lay) (segs : List (List AV)), segs.flatten = row y → sat (ctx0 W m L) (.agg segs) (.agg cs) := by
  obtain ⟨fuel, hf⟩ := hd
  obtain ⟨y, hy⟩ := h.opn hf
  refine ⟨y, fun m L segs hs => ?_⟩
  simp only [sat]
  refine ⟨cs.toList, by simp, (satAgg_flat _ _ _).2 ?_⟩
  rw [hs]; exact hy m L

theorem okWide_agg {t : TypeId} {w : World} {r : Reach} {base : Nat} {v : Value} (h : Value.okWide P w r base t v) (ht : (∃ fs, P.underlying t = some (.struct fs)) ∨ ∃ n e, P.underlying t = some (.array n e)) : ∃ cs, v = .agg cs := by
  rcases ht with ⟨fs, ht⟩ | ⟨n, e, ht⟩
  · simp only [Value.okWide, ht] at h; obtain ⟨cs, h, _⟩ := h; exact ⟨cs, h⟩
  · simp only [Value.okWide, ht] at h; obtain ⟨cs, h, _⟩ := h; exact ⟨cs, h⟩
end
end Go.Av
