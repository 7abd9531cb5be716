/- A part of the proof that a law of the seat holds: ZAv18. -/
import Derived.Test.YtleaogcnndhdgaaAv17
import Derived.KernelRfl
namespace Go.Av
open Go Go.RowKit

/-! ### the words of the plain functions -/
def lt {α β : Type} (a : α) (k : α → Option β) : Option β := k a
def ck {β : Type} (c : Prop) [Decidable c] (k : Option β) : Option β := if c then k else none
def br {β : Type} (c : Bool) (x y : Option β) : Option β := match c with | true => x | false => y
def ob {α β : Type} (o : Option α) (k : α → Option β) : Option β := match o with | some a => k a | none => none
def fx {σ ρ : Type} (f : (σ → Option ρ) → σ → Option ρ) : Nat → σ → Option ρ
  | 0, _ => none
  | k + 1, s => f (fx f k) s

theorem lt_inv {α β : Type} {a : α} {k : α → Option β} {r : β} (h : lt a k = some r) : ∃ x, a = x ∧ k x = some r := ⟨a, rfl, h⟩
theorem ck_inv {β : Type} {c : Prop} [Decidable c] {k : Option β} {r : β} (h : ck c k = some r) : c ∧ k = some r := by
  unfold ck at h; split at h
  · rename_i hc; exact ⟨hc, h⟩
  · cases h
theorem br_t {β : Type} {c : Bool} {x y : Option β} {r : β} (hc : c = true) (h : br c x y = some r) : x = some r := by subst hc; exact h
theorem br_f {β : Type} {c : Bool} {x y : Option β} {r : β} (hc : c = false) (h : br c x y = some r) : y = some r := by subst hc; exact h
theorem ob_inv {α β : Type} {o : Option α} {k : α → Option β} {r : β} (h : ob o k = some r) : ∃ x, o = some x ∧ k x = some r := by
  cases o with
  | none => cases h
  | some a => exact ⟨a, rfl, h⟩
theorem fx_inv {σ ρ : Type} {f : (σ → Option ρ) → σ → Option ρ} {n : Nat} {s : σ} {r : ρ} (h : fx f n s = some r) : ∃ k self, n = k + 1 ∧ self = fx f k ∧ f self s = some r := by
  cases n with
  | zero => cases h
  | succ k => exact ⟨k, _, rfl, rfl, h⟩

structure V2 (α : Type) where (x0 x1 : α)
  deriving DecidableEq, Inhabited
structure V3 (α : Type) where (x0 x1 x2 : α)
  deriving DecidableEq, Inhabited
structure V4 (α : Type) where (x0 x1 x2 x3 : α)
  deriving DecidableEq, Inhabited
structure V5 (α : Type) where (x0 x1 x2 x3 x4 : α)
  deriving DecidableEq, Inhabited
structure V6 (α : Type) where (x0 x1 x2 x3 x4 x5 : α)
  deriving DecidableEq, Inhabited

def V2.get {α : Type} (c : V2 α) : Nat → α | 0 => c.x0 | _ => c.x1
def V3.get {α : Type} (c : V3 α) : Nat → α | 0 => c.x0 | 1 => c.x1 | _ => c.x2
def V4.get {α : Type} (c : V4 α) : Nat → α | 0 => c.x0 | 1 => c.x1 | 2 => c.x2 | _ => c.x3
def V5.get {α : Type} (c : V5 α) : Nat → α | 0 => c.x0 | 1 => c.x1 | 2 => c.x2 | 3 => c.x3 | _ => c.x4
def V6.get {α : Type} (c : V6 α) : Nat → α | 0 => c.x0 | 1 => c.x1 | 2 => c.x2 | 3 => c.x3 | 4 => c.x4 | _ => c.x5
def V2.set {α : Type} (c : V2 α) (k : Nat) (y : α) : V2 α := match k with | 0 => { c with x0 := y } | _ => { c with x1 := y }
def V3.set {α : Type} (c : V3 α) (k : Nat) (y : α) : V3 α := match k with | 0 => { c with x0 := y } | 1 => { c with x1 := y } | _ => { c with x2 := y }
def V4.set {α : Type} (c : V4 α) (k : Nat) (y : α) : V4 α := match k with | 0 => { c with x0 := y } | 1 => { c with x1 := y } | 2 => { c with x2 := y } | _ => { c with x3 := y }
def V5.set {α : Type} (c : V5 α) (k : Nat) (y : α) : V5 α := match k with | 0 => { c with x0 := y } | 1 => { c with x1 := y } | 2 => { c with x2 := y } | 3 => { c with x3 := y } | _ => { c with x4 := y }
def V6.set {α : Type} (c : V6 α) (k : Nat) (y : α) : V6 α := match k with | 0 => { c with x0 := y } | 1 => { c with x1 := y } | 2 => { c with x2 := y } | 3 => { c with x3 := y } | 4 => { c with x4 := y } | _ => { c with x5 := y }
def V2.row {α β : Type} (f : α → β) (c : V2 α) : List β := [f c.x0, f c.x1]
def V3.row {α β : Type} (f : α → β) (c : V3 α) : List β := [f c.x0, f c.x1, f c.x2]
def V4.row {α β : Type} (f : α → β) (c : V4 α) : List β := [f c.x0, f c.x1, f c.x2, f c.x3]
def V5.row {α β : Type} (f : α → β) (c : V5 α) : List β := [f c.x0, f c.x1, f c.x2, f c.x3, f c.x4]
def V6.row {α β : Type} (f : α → β) (c : V6 α) : List β := [f c.x0, f c.x1, f c.x2, f c.x3, f c.x4, f c.x5]

theorem V2.row_get {α β : Type} (f : α → β) (c : V2 α) : ∀ {k : Nat}, k < 2 → (V2.row f c)[k]? = some (f (c.get k)) | 0, _ => rfl | 1, _ => rfl
theorem V3.row_get {α β : Type} (f : α → β) (c : V3 α) : ∀ {k : Nat}, k < 3 → (V3.row f c)[k]? = some (f (c.get k)) | 0, _ => rfl | 1, _ => rfl | 2, _ => rfl
theorem V4.row_get {α β : Type} (f : α → β) (c : V4 α) : ∀ {k : Nat}, k < 4 → (V4.row f c)[k]? = some (f (c.get k)) | 0, _ => rfl | 1, _ => rfl | 2, _ => rfl | 3, _ => rfl
theorem V5.row_get {α β : Type} (f : α → β) (c : V5 α) : ∀ {k : Nat}, k < 5 → (V5.row f c)[k]? = some (f (c.get k)) | 0, _ => rfl | 1, _ => rfl | 2, _ => rfl | 3, _ => rfl | 4, _ => rfl
theorem V6.row_get {α β : Type} (f : α → β) (c : V6 α) : ∀ {k : Nat}, k < 6 → (V6.row f c)[k]? = some (f (c.get k)) | 0, _ => rfl | 1, _ => rfl | 2, _ => rfl | 3, _ => rfl | 4, _ => rfl | 5, _ => rfl
theorem V2.row_set {α β : Type} (f : α → β) (c : V2 α) (y : α) : ∀ {k : Nat}, k < 2 → (V2.row f c).set k (f y) = V2.row f (c.set k y) | 0, _ => rfl | 1, _ => rfl
theorem V3.row_set {α β : Type} (f : α → β) (c : V3 α) (y : α) : ∀ {k : Nat}, k < 3 → (V3.row f c).set k (f y) = V3.row f (c.set k y) | 0, _ => rfl | 1, _ => rfl | 2, _ => rfl
theorem V4.row_set {α β : Type} (f : α → β) (c : V4 α) (y : α) : ∀ {k : Nat}, k < 4 → (V4.row f c).set k (f y) = V4.row f (c.set k y) | 0, _ => rfl | 1, _ => rfl | 2, _ => rfl | 3, _ => rfl
theorem V5.row_set {α β : Type} (f : α → β) (c : V5 α) (y : α) : ∀ {k : Nat}, k < 5 → (V5.row f c).set k (f y) = V5.row f (c.set k y) | 0, _ => rfl | 1, _ => rfl | 2, _ => rfl | 3, _ => rfl | 4, _ => rfl
theorem V6.row_set {α β : Type} (f : α → β) (c : V6 α) (y : α) : ∀ {k : Nat}, k < 6 → (V6.row f c).set k (f y) = V6.row f (c.set k y) | 0, _ => rfl | 1, _ => rfl | 2, _ => rfl | 3, _ => rfl | 4, _ => rfl | 5, _ => rfl

def gl {α : Type} [Inhabited α] (l : List α) (k : Nat) : α := l.getD k default

theorem map_gl {α β : Type} [Inhabited α] (f : α → β) {l : List α} {k : Nat} (h : k < l.length) : (l.map f)[k]? = some (f (gl l k)) := by
  rw [List.getElem?_map, List.getElem?_eq_getElem h, gl, List.getD_eq_getElem?_getD, List.getElem?_eq_getElem h]; rfl
theorem map_set {α β : Type} (f : α → β) (l : List α) (k : Nat) (y : α) : (l.map f).set k (f y) = (l.set k y).map f := by rw [List.map_set]

/-- the cells of scalars -/
def aI (x : Int) : AV := .v (.int .i64 x)
def aK (k : IntKind) (x : Int) : AV := .v (.int k x)
def aB (x : Bool) : AV := .v (.bool x)
def aS (x : ByteArray) : AV := .v (.string x)
def rI (x : Int) : List AV := [aI x]
def rK (k : IntKind) (x : Int) : List AV := [aK k x]
def rB (x : Bool) : List AV := [aB x]
def rS (x : ByteArray) : List AV := [aS x]
def w64 (x : Int) : Int := IntKind.i64.wrap x

/-! ### small keys -/
theorem dt {B : Base} {N : Nat} {o : Oper} {d : Tmp} (hB : B.nt = N) (h : o.dst = some d) (hd : Nat.blt d N = true) : ∀ t, o.dst = some t → t < B.nt := fun t ht => by
  rw [h] at ht; injection ht with ht; subst ht; rw [hB]; exact Nat.le_of_ble_eq_true hd
theorem dn {B : Base} {o : Oper} (h : o.dst = none) : ∀ t, o.dst = some t → t < B.nt := fun t ht => by rw [h] at ht; cases ht

section
variable {P : Program} {B : Base} {Q : Exit → St → Prop} {next : St → Prop} {st : St}
theorem thenN (h : next st) : thenQ next Q .normal st := h
theorem thenX {id : Nat} (h : Q (.exit id) st) : thenQ next Q (.exit id) st := h
theorem thenR (h : Q .ret st) : thenQ next Q .ret st := h
theorem blockN {id : Nat} (h : Q .normal st) : blockQ id Q .normal st := h
theorem blockR {id : Nat} (h : Q .ret st) : blockQ id Q .ret st := h
theorem blockH {id : Nat} (h : Q .normal st) : blockQ id Q (.exit id) st := by simp only [blockQ, if_true]; exact h
theorem blockX {id id' : Nat} (hne : Nat.beq id' id = false) (h : Q (.exit id') st) : blockQ id Q (.exit id') st := by
  have : id' ≠ id := Nat.ne_of_beq_eq_false hne
  simp only [blockQ, this, if_false]; exact h

theorem AWp.cut {x y : Code} (J : St → Prop) (h1 : AWp P B x st (thenQ J Q)) (h2 : ∀ st', J st' → AWp P B y st' Q) : AWp P B (.seq x y) st Q :=
  AWp.seq (h1.mono fun e st' h => by cases e <;> first | exact h2 st' h | exact h)
end

/-! ### states told by lists -/
def tabE : List (Nat × AV) → Nat → AV
  | [], _ => .any
  | (n, a) :: l, t => if t = n then a else tabE l t
def tabO : List (Nat × AObj) → Nat → Option AObj
  | [], _ => none
  | (n, a) :: l, t => if t = n then some a else tabO l t
def tabN : List (Nat × Nat) → Nat → Option Nat
  | [], _ => none
  | (n, a) :: l, t => if t = n then some a else tabN l t

def vwE (st : St) (σ : Nat → Option Nat) : List (Nat × AV) → Prop
  | [] => True
  | (n, a) :: l => vw st.objs true σ (st.env n) a ∧ vwE st σ l

def vwO (lend : Bool) (st : St) (σ : Nat → Option Nat) (nx : Nat) : List (Nat × AObj) → Prop
  | [] => True
  | (p, o') :: l => ((∃ nm o, σ p = some nm ∧ st.objs nm = some o ∧ o'.ty = o.ty ∧ o'.k = o.k ∧ vwSegs st.objs lend σ o.segs o'.segs) ∨ (σ p = none ∧ o'.segs = [] ∧ o'.k ≠ none ∧ p < nx)) ∧ vwO lend st σ nx l

theorem vwE_all {st : St} {σ : Nat → Option Nat} : ∀ {l : List (Nat × AV)}, vwE st σ l → ∀ t, vw st.objs true σ (st.env t) (tabE l t)
  | [], _, t => by simp only [tabE, vw]
  | (n, a) :: l, h, t => by
    simp only [vwE] at h
    simp only [tabE]
    split
    · rename_i ht; subst ht; exact h.1
    · exact vwE_all h.2 t

theorem vwO_all {lend : Bool} {st : St} {σ : Nat → Option Nat} {nx : Nat} : ∀ {l : List (Nat × AObj)}, vwO lend st σ nx l → ∀ p o', tabO l p = some o' →
    (∃ nm o, σ p = some nm ∧ st.objs nm = some o ∧ o'.ty = o.ty ∧ o'.k = o.k ∧ vwSegs st.objs lend σ o.segs o'.segs) ∨ (σ p = none ∧ o'.segs = [] ∧ o'.k ≠ none ∧ p < nx)
  | [], _, p, o', h => by simp [tabO] at h
  | (n, a) :: l, hv, p, o', h => by
    simp only [vwO] at hv
    simp only [tabO] at h
    split at h
    · rename_i ht; subst ht; simp only [Option.some.injEq] at h; subst h; exact hv.1
    · exact vwO_all hv.2 p o' h

theorem tabN_mem : ∀ {l : List (Nat × Nat)} {p nm : Nat}, tabN l p = some nm → (p, nm) ∈ l
  | [], _, _, h => by simp [tabN] at h
  | (n, a) :: l, p, nm, h => by
    simp only [tabN] at h
    split at h
    · rename_i ht; subst ht; simp only [Option.some.injEq] at h; subst h; simp
    · exact List.mem_cons_of_mem _ (tabN_mem h)

/-- the names' table is sound: no two to one, all below nx, the first n0 stay -/
def tabOK (l : List (Nat × Nat)) (n0 nx : Nat) : Bool :=
  l.all (fun p => l.all (fun q => !(Nat.beq p.2 q.2) || Nat.beq p.1 q.1)) && l.all (fun p => Nat.blt p.1 nx) && (List.range n0).all fun p => match tabN l p with | some q => Nat.beq q p | none => false

theorem StV.tab {n0 : Nat} {st : St} {names : List (Nat × Nat)} {E : List (Nat × AV)} {O : List (Nat × AObj)} {nx : Nat} (hok : tabOK names n0 nx = true) (hE : vwE st (tabN names) E) (hO : vwO true st (tabN names) nx O)
    (hl : (names.all fun p => decide (p.1 < n0) || (tabO O p.1).isSome) = true) : StV n0 st (tabN names) ⟨tabE E, tabO O, nx⟩ := by
  unfold tabOK at hok
  simp only [Bool.and_eq_true, List.all_eq_true, Bool.or_eq_true, Bool.not_eq_true', List.mem_range] at hok
  obtain ⟨⟨h1, h2⟩, h3⟩ := hok
  refine ⟨vwE_all hE, vwO_all hO, fun p q nm hp hq => ?_, fun p nm hp => Nat.le_of_ble_eq_true (h2 _ (tabN_mem hp)), fun p hp => ?_, fun p nm hp hn => ?_⟩
  · rcases h1 _ (tabN_mem hp) _ (tabN_mem hq) with h | h
    · rw [show Nat.beq nm nm = true from Nat.beq_refl nm] at h; cases h
    · exact Nat.eq_of_beq_eq_true h
  · have := h3 p hp
    cases hs : tabN names p with
    | none => rw [hs] at this; cases this
    | some q => rw [hs] at this; rw [Nat.eq_of_beq_eq_true this]
  · have := List.all_eq_true.1 hl _ (tabN_mem hp)
    simp only [Bool.or_eq_true, decide_eq_true_eq] at this
    rcases this with h | h
    · omega
    · cases ho : tabO O p with
      | none => rw [ho] at h; cases h
      | some o => exact ⟨o, ho⟩

theorem RetV.tab {n0 : Nat} {st : St} {names : List (Nat × Nat)} {av av' : AV} {fo' : List (Option AObj)} (hok : tabOK names n0 fo'.length = true) (hav : vw st.objs false (tabN names) av av')
    (hO : ∀ p o', lo' fo' p = some o' → (∃ nm o, tabN names p = some nm ∧ st.objs nm = some o ∧ o'.ty = o.ty ∧ o'.k = o.k ∧ vwSegs st.objs false (tabN names) o.segs o'.segs) ∨ (tabN names p = none ∧ o'.segs = [] ∧ o'.k ≠ none))
    (hn : Nat.ble n0 fo'.length = true) : RetV n0 st av (fun a o => a = av' ∧ o = fo') av' fo' (tabN names) := by
  unfold tabOK at hok
  simp only [Bool.and_eq_true, List.all_eq_true, Bool.or_eq_true, Bool.not_eq_true', List.mem_range] at hok
  obtain ⟨⟨h1, h2⟩, h3⟩ := hok
  refine ⟨⟨rfl, rfl⟩, hav, hO, fun p q nm hp hq => ?_, fun p nm hp => Nat.le_of_ble_eq_true (h2 _ (tabN_mem hp)), fun p hp => ?_, Nat.le_of_ble_eq_true hn⟩
  · rcases h1 _ (tabN_mem hp) _ (tabN_mem hq) with h | h
    · rw [show Nat.beq nm nm = true from Nat.beq_refl nm] at h; cases h
    · exact Nat.eq_of_beq_eq_true h
  · have := h3 p hp
    cases hs : tabN names p with
    | none => rw [hs] at this; cases this
    | some q => rw [hs] at this; rw [Nat.eq_of_beq_eq_true this]

/-- rows of scalars look the same by all names -/
def flatL : List AV → Bool
  | [] => true
  | .v _ :: l => flatL l
  | _ => false
theorem vwList_flat {ob : Nat → Option AObj} {lend : Bool} {σ : Nat → Option Nat} : ∀ {l : List AV}, flatL l = true → vwList ob lend σ l l
  | [], _ => by simp only [vwList]
  | .v x :: l, h => by
    simp only [flatL] at h
    simp only [vwList]
    exact ⟨_, _, rfl, by simp only [vw], vwList_flat h⟩
theorem vwSegs_flat {ob : Nat → Option AObj} {lend : Bool} {σ : Nat → Option Nat} : ∀ {l : List (List AV)}, (l.all flatL) = true → vwSegs ob lend σ l l
  | [], _ => by simp only [vwSegs]
  | e :: l, h => by
    simp only [List.all_cons, Bool.and_eq_true] at h
    simp only [vwSegs]
    exact ⟨_, _, rfl, vwList_flat h.1, vwSegs_flat h.2⟩
theorem vwSegs_map {α : Type} {ob : Nat → Option AObj} {lend : Bool} {σ : Nat → Option Nat} {f : α → List AV} (hf : ∀ x, flatL (f x) = true) (l : List α) : vwSegs ob lend σ (l.map f) (l.map f) :=
  vwSegs_flat (by rw [List.all_map, List.all_eq_true]; exact fun x _ => hf x)
end Go.Av
