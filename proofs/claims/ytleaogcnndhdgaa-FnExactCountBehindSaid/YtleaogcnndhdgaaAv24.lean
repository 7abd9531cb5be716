/- A part of the proof that a law of the seat holds: ZAv24. -/
import Derived.Test.YtleaogcnndhdgaaAv23
import Derived.OpenShut
import Derived.WalkKit
import Derived.ProofKit
namespace Go.Av
open Go Go.RowKit Go.ChangeShapes Go.WideShapes

/-! ### the law's arguments, opened -/
section
variable {P : Program}

/-- a type whose cells are scalars: what is read there is a row of some y -/
structure Fl (P : Program) (t : TypeId) (α : Type) (row : α → List AV) (k : Nat) : Prop where
  cells : P.cellsOf t = k
  len : ∀ y, (row y).length = k
  opn : ∀ {H : Type} {enc : TypeId × Value → H} {w : World} {base : Nat} {spare : Nat → Bool} {held : Bool} {fuel : Nat} {cs : List Value} {x : DataW H × List MemPlace},
    DataW.trod enc P w base spare held fuel t cs = some x → ∃ y : α, ∀ c : Ctx, satList c (row y) cs

theorem one_sat {c : Ctx} {v : Value} (h : v.oneCell' = true) : satList c [.v v] [v] := by
  simp only [satList]; exact ⟨v, [], rfl, h, sat_v h, rfl⟩

theorem Fl.int {t : TypeId} {k : IntKind} (ht : P.underlying t = some (.int k)) (hc : P.cellsOf t = 1) : Fl P t Int (rK k) 1 :=
  ⟨hc, fun _ => rfl, fun h => by obtain ⟨n, rfl, _⟩ := DataW.trod_int ht h; exact ⟨n, fun c => one_sat rfl⟩⟩
theorem Fl.i64 {t : TypeId} (ht : P.underlying t = some (.int .i64)) (hc : P.cellsOf t = 1) : Fl P t Int rI 1 :=
  ⟨hc, fun _ => rfl, fun h => by obtain ⟨n, rfl, _⟩ := DataW.trod_int ht h; exact ⟨n, fun c => one_sat rfl⟩⟩
theorem Fl.bool {t : TypeId} (ht : P.underlying t = some .bool) (hc : P.cellsOf t = 1) : Fl P t Bool rB 1 :=
  ⟨hc, fun _ => rfl, fun h => by obtain ⟨n, rfl, _⟩ := DataW.trod_bool ht h; exact ⟨n, fun c => one_sat rfl⟩⟩
theorem Fl.str {t : TypeId} (ht : P.underlying t = some .string) (hc : P.cellsOf t = 1) : Fl P t ByteArray rS 1 :=
  ⟨hc, fun _ => rfl, fun h => by obtain ⟨n, rfl, _⟩ := DataW.trod_string ht h; exact ⟨n, fun c => one_sat rfl⟩⟩

theorem drop_one {α : Type} {l : List α} {i : Nat} (h : i < l.length) : (l.drop i).take 1 = [l[i]] := by
  rw [List.drop_eq_getElem_cons h]; rfl

/-- an array of four scalars -/
theorem Fl.v4 {t e : TypeId} {α : Type} {f : α → AV} (ht : P.underlying t = some (.array 4 e)) (hc : P.cellsOf t = 4) (he : Fl P e α (fun y => [f y]) 1) : Fl P t (V4 α) (V4.row f) 4 :=
  ⟨hc, fun _ => rfl, fun {H enc w base spare held fuel cs x} h => by
    obtain ⟨xs, m, _, _, hl, hx, hall⟩ := DataW.trod_array ht h
    rw [hc] at hl
    have get : ∀ i (hi : i < 4), ∃ y : α, ∀ c : Ctx, satList c [f y] [cs[i]'(by omega)] := fun i hi => by
      have h1 := hall i hi
      rw [he.cells, Nat.mul_one, drop_one (by omega), List.getElem?_eq_getElem (by omega)] at h1
      exact he.opn h1
    obtain ⟨y0, g0⟩ := get 0 (by omega)
    obtain ⟨y1, g1⟩ := get 1 (by omega)
    obtain ⟨y2, g2⟩ := get 2 (by omega)
    obtain ⟨y3, g3⟩ := get 3 (by omega)
    refine ⟨⟨y0, y1, y2, y3⟩, fun c => ?_⟩
    match cs, hl, g0, g1, g2, g3 with
    | [v0, v1, v2, v3], _, g0, g1, g2, g3 => exact satList_app (g0 c) (satList_app (g1 c) (satList_app (g2 c) (g3 c)))⟩

theorem satSegs_of {c : Ctx} {b k : Nat} : ∀ {els : List (List AV)} {o : Nat}, (∀ e ∈ els, e.length = k) → (∀ (i : Nat) (e : List AV), els[i]? = some e → satCells c b (o + i * k) e) → satSegs c b o els
  | [], o, _, _ => by simp only [satSegs]
  | e :: els, o, hk, h => by
    simp only [satSegs]
    have h0 := h 0 e (by simp)
    rw [Nat.zero_mul, Nat.add_zero] at h0
    refine ⟨h0, satSegs_of (k := k) (fun q hq => hk q (by simp [hq])) fun i q hq => ?_⟩
    have := h (i + 1) q (by simpa using hq)
    rw [hk e (by simp)]
    rwa [Nat.succ_mul, Nat.add_comm (i * k) k, ← Nat.add_assoc] at this

theorem choose_list {α : Type} {p : Nat → α → Prop} : ∀ n, (∀ i, i < n → ∃ y, p i y) → ∃ l : List α, l.length = n ∧ ∀ (i : Nat) (y : α), l[i]? = some y → p i y
  | 0, _ => ⟨[], rfl, fun i y h => by simp at h⟩
  | n + 1, h => by
    obtain ⟨l, h1, h2⟩ := choose_list n fun i hi => h i (by omega)
    obtain ⟨y, hy⟩ := h n (by omega)
    refine ⟨l ++ [y], by simp [h1], fun i z hz => ?_⟩
    by_cases hi : i < l.length
    · rw [List.getElem?_append_left hi] at hz; exact h2 i z hz
    · rw [List.getElem?_append_right (by omega)] at hz
      have : i - l.length = 0 := by
        have := (List.getElem?_eq_some_iff.1 hz).1
        simp at this; omega
      rw [this] at hz
      simp only [List.getElem?_cons_zero, Option.some.injEq] at hz
      subst hz
      have : i = n := by omega
      rw [this]; exact hy

/-- a slice of such -/
theorem open_slv {H : Type} {enc : TypeId × Value → H} {w : World} {base : Nat} {spare : Nat → Bool} {held : Bool} {t e : TypeId} {v : Value} {d : DataW H} {ps : List MemPlace} {α : Type} {row : α → List AV} {k : Nat}
    (ht : P.underlying t = some (.slice e)) (hF : Fl P e α row k) (hk : 0 < k) (hval : ∃ ad len cap, v = .slice ad len cap) (hd : DataW.Trod enc P w base spare held t v d ps) :
    ∃ l : List α, l.length ≤ maxLen ∧ ∀ (m : Nat → Option Nat) (L : Nat → Lay), sat ⟨w, fun _ => False, m, L⟩ (.ro (l.map row) false) v := by
  obtain ⟨ad, len, cap, rfl⟩ := hval
  obtain ⟨fuel, hf⟩ := hd
  rcases DataW.trod_slice ht hf with ⟨hcs, _⟩ | ⟨a, len', cap', elems, rest, n, _, hcs, _, hb, hlc, hcm, hel, hall, _, _⟩
  · simp [Value.cells] at hcs
    obtain ⟨rfl, rfl, rfl⟩ := hcs
    refine ⟨[], by simp, fun m L => ?_⟩
    simp only [sat]
    exact ⟨none, 0, rfl, by simp, by simp, fun h => (by cases h), .inl rfl⟩
  · simp [Value.cells] at hcs
    obtain ⟨rfl, rfl, rfl⟩ := hcs
    have each : ∀ i, i < len → ∃ y : α, ∀ (c : Ctx), c.w = w → ∀ (q : Nat) (av : AV), (row y)[q]? = some av → ∃ z, w.cell? (a.add (i * k + q)) = some z ∧ z.oneCell' = true ∧ sat c av z := fun i hi => by
      have h1 := hall i hi
      rw [List.getElem?_eq_getElem (by omega), hF.cells] at h1
      obtain ⟨cs, hcs, htr⟩ := Option.bind_eq_some_iff.1 h1
      obtain ⟨y, hy⟩ := hF.opn htr
      refine ⟨y, fun c hc q av hq => ?_⟩
      obtain ⟨z, hz, h2, h3⟩ := satList_get (hy c) hq
      unfold World.cells? at hcs
      split at hcs
      case isFalse => cases hcs
      case isTrue =>
        have hqk : q < k := by have := (List.getElem?_eq_some_iff.1 hq).1; rw [hF.len] at this; exact this
        have := mapM_some_get hcs q q (by simp [hqk])
        refine ⟨z, ?_, h2, h3⟩
        rw [← hz, ← this]
        congr 1
        by_cases g1 : i * k = 0 <;> by_cases g2 : q = 0 <;> simp [Addr.add, g1, g2, Nat.add_assoc]
    obtain ⟨l, hl, hp⟩ := choose_list len each
    refine ⟨l, by omega, fun m L => ?_⟩
    simp only [sat]
    refine ⟨some a, cap, by rw [List.length_map, hl], by rw [List.length_map]; omega, by rw [List.length_map]; omega, fun h => (by cases h), ?_⟩
    by_cases h0 : l = []
    · left; rw [h0]; rfl
    · right
      obtain ⟨y0, hy0⟩ : ∃ y0, l[0]? = some y0 := by
        cases l with
        | nil => exact absurd rfl h0
        | cons y l => exact ⟨y, rfl⟩
      obtain ⟨a0, ha0⟩ : ∃ a0, (row y0)[0]? = some a0 := ⟨(row y0)[0]'(by rw [hF.len]; exact hk), List.getElem?_eq_getElem _⟩
      obtain ⟨z, hz, _⟩ := hp 0 y0 hy0 ⟨w, fun _ => False, m, L⟩ rfl 0 a0 ha0
      have hspot : a.spot = none := by simpa [Addr.add] using World.cell?_spot hz
      obtain ⟨b, off, spot⟩ := a
      simp only at hspot; subst hspot
      refine ⟨b, off, k, rfl, by simpa [Addr.add] using World.block_lt_of_cell? w _ hz, fun h => h, fun q hq => ?_, satSegs_of (k := k) (fun q hq => ?_) fun i q hq => ?_⟩
      · obtain ⟨y, _, rfl⟩ := List.mem_map.1 hq; exact hF.len y
      · obtain ⟨y, _, rfl⟩ := List.mem_map.1 hq; exact hF.len y
      · rw [List.getElem?_map] at hq
        cases hy : l[i]? with
        | none => rw [hy] at hq; cases hq
        | some y =>
          rw [hy] at hq
          simp only [Option.map_some, Option.some.injEq] at hq
          subst hq
          refine satCells_of fun j av hj => ?_
          obtain ⟨z, hz, h2, h3⟩ := hp i y hy ⟨w, fun _ => False, m, L⟩ rfl j av hj
          refine ⟨z, ?_, h2, h3⟩
          rw [← hz, add_plain, Nat.add_assoc]
theorem open_sl {H : Type} {enc : TypeId × Value → H} {w : World} {base : Nat} {spare : Nat → Bool} {held : Bool} {r : Reach} {b0 : Nat} {t e : TypeId} {v : Value} {d : DataW H} {ps : List MemPlace} {α : Type} {row : α → List AV} {k : Nat}
    (ht : P.underlying t = some (.slice e)) (hF : Fl P e α row k) (hk : 0 < k) (hval : Value.okWide P w r b0 t v) (hd : DataW.Trod enc P w base spare held t v d ps) :
    ∃ l : List α, l.length ≤ maxLen ∧ ∀ (m : Nat → Option Nat) (L : Nat → Lay), sat ⟨w, fun _ => False, m, L⟩ (.ro (l.map row) false) v := open_slv ht hF hk (okWide_slice ht hval) hd
end
end Go.Av
