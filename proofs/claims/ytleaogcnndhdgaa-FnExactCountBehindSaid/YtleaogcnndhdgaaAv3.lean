/- A part of the proof that a law of the seat holds: ZAv3. -/
import Derived.Test.YtleaogcnndhdgaaAv2
namespace Go.Av
open Go Go.RowKit

/-! ### what is known of the program's types -/
inductive SK where
  | int (k : IntKind) | bool | string
  deriving DecidableEq

inductive TK where
  | int (k : IntKind) | bool | string | slice (e : TypeId) | array (n : Nat) (e : TypeId) | struct (fs : List (Nat × TypeId)) | other
  deriving DecidableEq

def TK.isAgg : TK → Bool
  | .array .. | .struct .. => true
  | _ => false

def TK.fits : TK → TypeDesc → Prop
  | .int k, d => d = .int k
  | .bool, d => d = .bool
  | .string, d => d = .string
  | .slice e, d => d = .slice e
  | .array n e, d => d = .array n e
  | .struct fs, d => ∃ F : Array Field, d = .struct F ∧ F.toList.map (fun f => (f.offset, f.type)) = fs
  | .other, d => (match d with | .struct _ | .array _ _ => true | _ => false) = false

structure TFact where
  kind : TK
  size : Nat
  bytes : Nat
  zero : Value
  lens : List Nat
  zsegs : List (List AV)

def cav : Value → AV
  | .slice none 0 0 => .ro [] true
  | .agg _ | .tuple _ => .any
  | x => .v x

structure TFact.ok (P : Program) (t : TypeId) (f : TFact) : Prop where
  und : ∃ d, P.underlying t = some d ∧ f.kind.fits d
  info : ∃ i : TypeInfo, P.info? t = some i ∧ i.size = f.size ∧ i.bytes = f.bytes ∧ i.zero = some f.zero
  zs : f.zsegs.flatten = f.zero.cells.toList.map cav
  zl : f.zsegs.map List.length = f.lens
  zo : ∀ v ∈ f.zero.cells.toList, v.oneCell' = true
  ls : f.lens.sum = f.size
  pos : 0 < f.size
  sc : f.kind.isAgg = false → f.size = 1

def fitsSK : SK → Value → Bool
  | .int k, .int k' _ => k == k'
  | .bool, .bool _ => true
  | .string, .string _ => true
  | _, _ => false

def fitsAll : List SK → List Value → Bool
  | [], [] => true
  | s :: l, v :: r => fitsSK s v && fitsAll l r
  | _, _ => false

def veq : Value → Value → Bool
  | .int _ a, .int _ b => a == b
  | .bool a, .bool b => a == b
  | .string a, .string b => a.toList == b.toList
  | _, _ => false

def veqL : List Value → List Value → Bool
  | [], [] => true
  | a :: l, b :: r => veq a b && veqL l r
  | _, _ => false

structure Sg (P : Program) where
  TF : TypeId → Option TFact
  ok : ∀ t f, TF t = some f → f.ok P t
  EQ : TypeId → Option (List SK)
  eqok : ∀ t sh, EQ t = some sh → ∀ (op : BinOp) (x y : Operand) (vs us : List Value) (w : World), fitsAll sh vs = true → fitsAll sh us = true →
    (eqGuard op t x y (.agg vs.toArray) (.agg us.toArray)).run P w = .ok () w ∧
    (Op.equalIn 10000 t (.agg vs.toArray) (.agg us.toArray)).run P w = .ok (veqL vs us) w
  mixed : P.follows .mixedOrders = true

section
variable {P : Program} (G : Sg P)
def kindOf (t : TypeId) : Option TK := (G.TF t).map (·.kind)

theorem kindOf_und {t : TypeId} {k : TK} (h : kindOf G t = some k) : ∃ d, P.underlying t = some d ∧ k.fits d := by
  unfold kindOf at h
  cases hf : G.TF t with
  | none => rw [hf] at h; cases h
  | some f => rw [hf] at h; simp only [Option.map_some, Option.some.injEq] at h; subst h; exact (G.ok t f hf).und

end

/-! ### operands -/

theorem cav_sat (c : Ctx) (x : Value) : sat c (cav x) x := by
  unfold cav
  split
  · simp only [sat]; exact ⟨none, 0, rfl, Nat.le_refl _, Nat.zero_le _, fun _ => rfl, .inl trivial⟩
  · simp only [sat]
  · simp only [sat]
  · simp only [sat, true_and]
    cases x <;> simp_all [Value.oneCell']

def evA (e : Nat → AV) : Operand → AV
  | .tmp t => e t
  | .const x => cav x
  | .func f => .clo f []
  | .global _ => .any

theorem evA_sat {B : Base} {F : Nat → Prop} {st : St} {m : Nat → Option Nat} {L : Nat → Lay} {a : Act} {w : World} (h : Rep B F st m L a w) (x : Operand) :
    sat (st.ctx m L w) (evA st.env x) (a.eval x) := by
  cases x with
  | tmp t => exact h.slots t
  | const v => exact cav_sat _ v
  | func f => simp only [evA, sat, Act.eval]; exact ⟨[], rfl, by simp only [satList]⟩
  | global g => simp only [evA, sat]

/-! ### loads -/
def splitL : List Nat → List AV → List (List AV)
  | [], _ => []
  | n :: ns, l => l.take n :: splitL ns (l.drop n)

theorem splitL_flat : ∀ (ns : List Nat) (l : List AV), l.length = ns.sum → (splitL ns l).flatten = l
  | [], l, h => by simp at h; subst h; simp [splitL]
  | n :: ns, l, h => by
    simp only [List.sum_cons] at h
    simp only [splitL, List.flatten_cons, splitL_flat ns (l.drop n) (by simp; omega), List.take_append_drop]

def ldA {P : Program} (G : Sg P) (t : TypeId) (segs : List (List AV)) (s j : Nat) : Option AV :=
  match G.TF t with
  | none => none
  | some f =>
    if f.kind.isAgg = true then
      if j = 0 ∧ ((segs.drop s).take f.lens.length).map List.length = f.lens then some (.agg ((segs.drop s).take f.lens.length))
      else if (((segs.drop s).flatten.drop j).take f.size).length = f.size then some (.agg (splitL f.lens (((segs.drop s).flatten.drop j).take f.size)))
      else none
    else (segs[s]?).bind (·[j]?)

def Same (w w' : World) : Prop := ∀ b : Nat, b < w.heap.size → w'.heap[b]? = w.heap[b]?
theorem Same.refl (w : World) : Same w w := fun _ _ => rfl
theorem Same.cell {w w' : World} (h : Same w w') {b o : Nat} {y : Value} (hc : w.cell? ⟨b, o, none⟩ = some y) : w'.cell? ⟨b, o, none⟩ = some y := by
  rw [World.cell?_of_block (w := w) (h b (World.block_lt_of_cell? w ⟨b, o, none⟩ hc))]; exact hc

theorem run_isAgg {P : Program} {t : TypeId} {f : TFact} (h : f.ok P t) (w : World) : (isAgg t).run P w = .ok f.kind.isAgg w := by
  obtain ⟨d, hd, hf⟩ := h.und
  unfold isAgg
  rw [Sem.run_bind, run_underlying hd w]
  cases hk : f.kind <;> rw [hk] at hf <;> simp only [TK.fits] at hf
  case struct fs => obtain ⟨F, rfl, _⟩ := hf; rfl
  case other => cases d <;> simp_all [TK.isAgg]
  all_goals (subst hf; rfl)

theorem run_sizeOf {P : Program} {t : TypeId} {f : TFact} (h : f.ok P t) (w : World) : (sizeOf t).run P w = .ok f.size w := by
  obtain ⟨i, hi, hs, _⟩ := h.info
  simp [sizeOf, typeInfo, hi, hs]

theorem add_plain (b o n : Nat) : Addr.add ⟨b, o, none⟩ n = ⟨b, o + n, none⟩ := Addr.add_lit b o n

/-- what ldA has taken: a part of the flat row -/
theorem ldA_spec {P : Program} (G : Sg P) {segs : List (List AV)} {t : TypeId} {s j : Nat} {av : AV} (hl : ldA G t segs s j = some av) :
    ∃ f, G.TF t = some f ∧
      ((f.kind.isAgg = true ∧ ∃ segs', av = .agg segs' ∧ segs'.flatten = (segs.flatten.drop (presegs segs s + j)).take f.size ∧ segs'.flatten.length = f.size) ∨
       (f.kind.isAgg = false ∧ segs.flatten[presegs segs s + j]? = some av)) := by
  unfold ldA at hl
  cases hf : G.TF t with
  | none => rw [hf] at hl; cases hl
  | some f =>
    have hok := G.ok t f hf
    rw [hf] at hl
    simp only at hl
    refine ⟨f, rfl, ?_⟩
    by_cases ha : f.kind.isAgg = true
    · rw [if_pos ha] at hl
      refine .inl ⟨ha, ?_⟩
      split at hl
      · rename_i hj
        obtain ⟨rfl, hm⟩ := hj
        simp only [Option.some.injEq] at hl
        have hlen : ((segs.drop s).take f.lens.length).flatten.length = f.size := by rw [List.length_flatten, hm, hok.ls]
        refine ⟨_, hl.symm, ?_, hlen⟩
        rw [Nat.add_zero, ← flatten_drop, ← hlen]
        conv => rhs; rw [← List.take_append_drop f.lens.length (segs.drop s), List.flatten_append, List.take_append_drop]
        rw [List.take_left]
      · split at hl
        · rename_i hn
          simp only [Option.some.injEq] at hl
          have hfl := splitL_flat f.lens (((segs.drop s).flatten.drop j).take f.size) (by rw [hn, hok.ls])
          refine ⟨_, hl.symm, ?_, by rw [hfl]; exact hn⟩
          rw [hfl, flatten_drop, List.drop_drop]
        · cases hl
    · rw [if_neg ha] at hl
      refine .inr ⟨by simpa using ha, ?_⟩
      cases he : segs[s]? with
      | none => rw [he] at hl; cases hl
      | some e =>
        rw [he] at hl
        exact flat_get he hl

theorem ld_sound {P : Program} (G : Sg P) {c : Ctx} {b off : Nat} {segs : List (List AV)} (h : satSegs c b off segs) {t : TypeId} {s j : Nat} {av : AV} (hl : ldA G t segs s j = some av) :
    ∃ y, sat c av y ∧ ∀ w', Same c.w w' → (loadVar t ⟨b, off + presegs segs s + j, none⟩).run P w' = .ok y w' := by
  obtain ⟨f, hf, hcase⟩ := ldA_spec G hl
  have hok := G.ok t f hf
  rw [satSegs_flat] at h
  rcases hcase with ⟨ha, segs', rfl, h1, h2⟩ | ⟨ha, h1⟩
  · have hc := satCells_sub h (presegs segs s + j) f.size
    rw [← h1] at hc
    obtain ⟨vs, hv, hcell⟩ := satCells_vals hc
    refine ⟨.agg vs.toArray, by simp only [sat]; exact ⟨vs, rfl, (satAgg_flat c segs' vs).2 hv⟩, fun w' hw => ?_⟩
    have hlen : vs.length = f.size := (satList_len hv).trans h2
    have := run_loadCells_list (P := P) w' ⟨b, off + presegs segs s + j, none⟩ vs (fun q v hq => by
      rw [add_plain, show off + presegs segs s + j + q = off + (presegs segs s + j) + q by omega]; exact hw.cell (hcell q v hq))
    rw [hlen] at this
    simp [loadVar, Sem.run_bind, run_isAgg hok, ha, run_sizeOf hok, this]
  · obtain ⟨y, h1, _, h3⟩ := satCells_get h h1
    refine ⟨y, h3, fun w' hw => ?_⟩
    have hc := hw.cell h1
    rw [show off + (presegs segs s + j) = off + presegs segs s + j by omega] at hc
    simp [loadVar, Sem.run_bind, run_isAgg hok, ha, hc]

theorem satList_sub {c : Ctx} {l : List AV} {vs : List Value} (h : satList c l vs) (p n : Nat) : satList c ((l.drop p).take n) ((vs.drop p).take n) := by
  have hl := satList_len h
  refine satList_of (by simp [hl]) fun q a hq => ?_
  rw [List.getElem?_take] at hq ⊢
  split at hq
  · rename_i hlt
    rw [if_pos hlt, List.getElem?_drop]
    rw [List.getElem?_drop] at hq
    exact satList_get h hq
  · cases hq

/-- the same, out of a value -/
theorem part_sound {P : Program} (G : Sg P) {c : Ctx} {segs : List (List AV)} {vs : List Value} (h : satAgg c segs vs) {t : TypeId} {s j : Nat} {av : AV} (hl : ldA G t segs s j = some av) :
    ∃ y, sat c av y ∧ ∀ w', (part t vs.toArray (presegs segs s + j)).run P w' = .ok y w' := by
  obtain ⟨f, hf, hcase⟩ := ldA_spec G hl
  have hok := G.ok t f hf
  rw [satAgg_flat] at h
  rcases hcase with ⟨ha, segs', rfl, h1, h2⟩ | ⟨ha, h1⟩
  · have hc := satList_sub h (presegs segs s + j) f.size
    rw [← h1] at hc
    refine ⟨.agg ((vs.drop (presegs segs s + j)).take f.size).toArray, by simp only [sat]; exact ⟨_, rfl, (satAgg_flat c segs' _).2 hc⟩, fun w' => ?_⟩
    simp [part, Sem.run_bind, run_isAgg hok, ha, run_sizeOf hok, List.extract_toArray, List.extract_eq_take_drop]
  · obtain ⟨y, h1, _, h3⟩ := satList_get h h1
    refine ⟨y, h3, fun w' => ?_⟩
    simp [part, Sem.run_bind, run_isAgg hok, ha, h1]

/-! ### integers, bools, strings -/
def intA (op : BinOp) (k : IntKind) (a b : Int) : Option AV :=
  match op with
  | .add => some (.v (.int k (k.wrap (a + b))))
  | .sub => some (.v (.int k (k.wrap (a - b))))
  | .mul => some (.v (.int k (k.wrap (a * b))))
  | .quo => if b = 0 then none else some (.v (.int k (k.wrap (a.tdiv b))))
  | .rem => if b = 0 then none else some (.v (.int k (a.tmod b)))
  | .and => some (.v (.int k (bits .and k a b)))
  | .or => some (.v (.int k (bits .or k a b)))
  | .xor => some (.v (.int k (bits .xor k a b)))
  | .eql => some (.v (.bool (decide (a = b))))
  | .neq => some (.v (.bool (!decide (a = b))))
  | .lss => some (.v (.bool (decide (a < b))))
  | .leq => some (.v (.bool (decide (a ≤ b))))
  | .gtr => some (.v (.bool (decide (b < a))))
  | .geq => some (.v (.bool (decide (b ≤ a))))
  | _ => none

def shA (op : BinOp) (k : IntKind) (a b : Int) : Option AV :=
  match op with
  | .shl => if b < 0 then none else some (.v (.int k (k.wrap (a * 2 ^ (min b.toNat k.bits)))))
  | .shr => if b < 0 then none else some (.v (.int k (a.fdiv (2 ^ (min b.toNat k.bits)))))
  | _ => none

def strA (op : BinOp) (a b : ByteArray) : Option AV :=
  match op with
  | .add => if a.size + b.size ≤ maxLen then some (.v (.string (a ++ b))) else none
  | .eql => some (.v (.bool (a.toList == b.toList)))
  | .neq => some (.v (.bool (!(a.toList == b.toList))))
  | .lss => some (.v (.bool (Op.bytesLess a.toList b.toList)))
  | _ => none

def boolA (op : BinOp) (a b : Bool) : Option AV :=
  match op with
  | .eql => some (.v (.bool (a == b)))
  | .neq => some (.v (.bool (!(a == b))))
  | _ => none

def fitsAV : List SK → List AV → Bool
  | [], [] => true
  | s :: l, .v x :: r => fitsSK s x && fitsAV l r
  | _, _ => false

def eqAV : List AV → List AV → Bool
  | [], [] => true
  | .v a :: l, .v b :: r => veq a b && eqAV l r
  | _, _ => false

theorem fitsAV_vals {c : Ctx} : ∀ {sh : List SK} {l : List AV} {vs : List Value}, fitsAV sh l = true → satList c l vs → fitsAll sh vs = true
  | [], [], vs, _, h => by simp only [satList] at h; subst h; rfl
  | s :: sh, .v x :: l, vs, hf, h => by
    simp only [satList, sat] at h
    obtain ⟨v, r, rfl, _, ⟨rfl, _⟩, h⟩ := h
    simp only [fitsAV, Bool.and_eq_true] at hf
    simp only [fitsAll, Bool.and_eq_true]
    exact ⟨hf.1, fitsAV_vals hf.2 h⟩
  | [], _ :: _, _, hf, _ => by simp [fitsAV] at hf
  | _ :: _, [], _, hf, _ => by simp [fitsAV] at hf
  | _ :: _, .any :: _, _, hf, _ => by simp [fitsAV] at hf
  | _ :: _, .ptr .. :: _, _, hf, _ => by simp [fitsAV] at hf
  | _ :: _, .sl .. :: _, _, hf, _ => by simp [fitsAV] at hf
  | _ :: _, .sv .. :: _, _, hf, _ => by simp [fitsAV] at hf
  | _ :: _, .ro .. :: _, _, hf, _ => by simp [fitsAV] at hf
  | _ :: _, .rp .. :: _, _, hf, _ => by simp [fitsAV] at hf
  | _ :: _, .agg .. :: _, _, hf, _ => by simp [fitsAV] at hf
  | _ :: _, .tup .. :: _, _, hf, _ => by simp [fitsAV] at hf
  | _ :: _, .clo .. :: _, _, hf, _ => by simp [fitsAV] at hf

theorem eqAV_vals {c : Ctx} : ∀ {sh : List SK} {l r : List AV} {vs us : List Value}, fitsAV sh l = true → fitsAV sh r = true → satList c l vs → satList c r us → eqAV l r = veqL vs us
  | [], [], [], vs, us, _, _, h1, h2 => by simp only [satList] at h1 h2; subst h1; subst h2; rfl
  | s :: sh, .v x :: l, .v z :: r, vs, us, hf, hg, h1, h2 => by
    simp only [satList, sat] at h1 h2
    obtain ⟨v, r1, rfl, _, ⟨rfl, _⟩, h1⟩ := h1
    obtain ⟨u, r2, rfl, _, ⟨rfl, _⟩, h2⟩ := h2
    simp only [fitsAV, Bool.and_eq_true] at hf hg
    simp only [eqAV, veqL, eqAV_vals hf.2 hg.2 h1 h2]
  | [], _ :: _, _, _, _, hf, _, _, _ => by simp [fitsAV] at hf
  | [], [], _ :: _, _, _, _, hf, _, _ => by simp [fitsAV] at hf
  | _ :: _, [], _, _, _, hf, _, _, _ => by simp [fitsAV] at hf
  | _ :: _, .v _ :: _, [], _, _, _, hf, _, _ => by simp [fitsAV] at hf
  | _ :: _, .v _ :: _, .any :: _, _, _, _, hf, _, _ => by simp [fitsAV] at hf
  | _ :: _, .v _ :: _, .ptr .. :: _, _, _, _, hf, _, _ => by simp [fitsAV] at hf
  | _ :: _, .v _ :: _, .sl .. :: _, _, _, _, hf, _, _ => by simp [fitsAV] at hf
  | _ :: _, .v _ :: _, .sv .. :: _, _, _, _, hf, _, _ => by simp [fitsAV] at hf
  | _ :: _, .v _ :: _, .ro .. :: _, _, _, _, hf, _, _ => by simp [fitsAV] at hf
  | _ :: _, .v _ :: _, .rp .. :: _, _, _, _, hf, _, _ => by simp [fitsAV] at hf
  | _ :: _, .v _ :: _, .agg .. :: _, _, _, _, hf, _, _ => by simp [fitsAV] at hf
  | _ :: _, .v _ :: _, .tup .. :: _, _, _, _, hf, _, _ => by simp [fitsAV] at hf
  | _ :: _, .v _ :: _, .clo .. :: _, _, _, _, hf, _, _ => by simp [fitsAV] at hf
  | _ :: _, .any :: _, _, _, _, hf, _, _, _ => by simp [fitsAV] at hf
  | _ :: _, .ptr .. :: _, _, _, _, hf, _, _, _ => by simp [fitsAV] at hf
  | _ :: _, .sl .. :: _, _, _, _, hf, _, _, _ => by simp [fitsAV] at hf
  | _ :: _, .sv .. :: _, _, _, _, hf, _, _, _ => by simp [fitsAV] at hf
  | _ :: _, .ro .. :: _, _, _, _, hf, _, _, _ => by simp [fitsAV] at hf
  | _ :: _, .rp .. :: _, _, _, _, hf, _, _, _ => by simp [fitsAV] at hf
  | _ :: _, .agg .. :: _, _, _, _, hf, _, _, _ => by simp [fitsAV] at hf
  | _ :: _, .tup .. :: _, _, _, _, hf, _, _, _ => by simp [fitsAV] at hf
  | _ :: _, .clo .. :: _, _, _, _, hf, _, _, _ => by simp [fitsAV] at hf

def binA {P : Program} (G : Sg P) (op : BinOp) (t : TypeId) : AV → AV → Option AV
  | .v (.int k a), .v (.int k' b) =>
    match op with
    | .shl | .shr => shA op k a b
    | _ => if k = k' then intA op k a b else none
  | .v (.string a), .v (.string b) => strA op a b
  | .v (.bool a), .v (.bool b) => if kindOf G t = some .bool then boolA op a b else none
  | .agg s1, .agg s2 =>
    match G.EQ t with
    | none => none
    | some sh => if fitsAV sh s1.flatten = true ∧ fitsAV sh s2.flatten = true then
        (match op with
         | .eql => some (.v (.bool (eqAV s1.flatten s2.flatten)))
         | .neq => some (.v (.bool (!eqAV s1.flatten s2.flatten)))
         | _ => none)
      else none
  | _, _ => none

theorem intA_sound {op : BinOp} {k : IntKind} {a b : Int} {av : AV} (h : intA op k a b = some av) (hop : op ≠ .shl ∧ op ≠ .shr) (c : Ctx) (P : Program) (t : TypeId) (x y : Operand) :
    ∃ u, sat c av u ∧ ∀ w, (do eqGuard op t x y (.int k a) (.int k b); binOp op t (.int k a) (.int k b) : Sem Value).run P w = .ok u w := by
  have he : ∀ w, (eqGuard op t x y (.int k a) (.int k b)).run P w = .ok () w := fun w => by rw [eqGuard_at_int]; rfl
  cases op <;> simp only [intA] at h <;> first
    | (exact absurd rfl hop.1)
    | (exact absurd rfl hop.2)
    | (cases h; done)
    | (split at h
       · cases h
       · rename_i hb
         simp only [Option.some.injEq] at h; subst h
         refine ⟨_, by simp only [sat]; exact ⟨rfl, rfl⟩, fun w => ?_⟩
         simp [Sem.run_bind, he, binOp, Op.intDiv, hb]; done)
    | (simp only [Option.some.injEq] at h; subst h
       refine ⟨_, by simp only [sat]; exact ⟨rfl, rfl⟩, fun w => ?_⟩
       simp [Sem.run_bind, he, binOp, Op.intArith, Op.intCmp, Op.intBits, bits]; done)
    | (simp only [Option.some.injEq] at h; subst h
       refine ⟨_, by simp only [sat]; exact ⟨rfl, rfl⟩, fun w => ?_⟩
       simp only [Sem.run_bind, he, binOp, Op.intArith, Op.intCmp, Op.intBits, bits, Result.andThen_ok, ne_eq, not_true_eq_false, if_false, Sem.run_pure]
       first | done | (congr 2; first | done | rfl | (rw [Bool.eq_iff_iff]; simp)))

theorem shA_sound {op : BinOp} {k k' : IntKind} {a b : Int} {av : AV} (h : shA op k a b = some av) (c : Ctx) (P : Program) (t : TypeId) (x y : Operand) :
    ∃ u, sat c av u ∧ ∀ w, (do eqGuard op t x y (.int k a) (.int k' b); binOp op t (.int k a) (.int k' b) : Sem Value).run P w = .ok u w := by
  have he : ∀ w, (eqGuard op t x y (.int k a) (.int k' b)).run P w = .ok () w := fun w => by rw [eqGuard_at_int]; rfl
  cases op <;> simp only [shA] at h <;> first
    | (cases h; done)
    | (split at h
       · cases h
       · rename_i hb
         simp only [Option.some.injEq] at h; subst h
         refine ⟨_, by simp only [sat]; exact ⟨rfl, rfl⟩, fun w => ?_⟩
         simp [Sem.run_bind, he, binOp, Op.shift, hb])

theorem strA_sound {op : BinOp} {a b : ByteArray} {av : AV} (h : strA op a b = some av) (c : Ctx) (P : Program) (t : TypeId) (x y : Operand) :
    ∃ u, sat c av u ∧ ∀ w, (do eqGuard op t x y (.string a) (.string b); binOp op t (.string a) (.string b) : Sem Value).run P w = .ok u w := by
  have he : ∀ w, (eqGuard op t x y (.string a) (.string b)).run P w = .ok () w := fun w => by rw [eqGuard_at_string]; rfl
  cases op <;> simp only [strA] at h <;> first
    | (cases h; done)
    | (split at h
       · rename_i hb
         simp only [Option.some.injEq] at h; subst h
         refine ⟨_, by simp only [sat]; exact ⟨rfl, rfl⟩, fun w => ?_⟩
         have hb' : ¬ ((a.size : Int) + (b.size : Int) > 9223372036854775807) := by simp only [maxLen] at hb; omega
         simp only [Sem.run_bind, he, binOp, Op.stringOp, IntKind.max_i64, Result.andThen_ok]
         rw [if_neg (by simpa using hb')]; rfl
       · cases h)
    | (simp only [Option.some.injEq] at h; subst h
       refine ⟨_, by simp only [sat]; exact ⟨rfl, rfl⟩, fun w => ?_⟩
       simp [Sem.run_bind, he, binOp, Op.stringOp])

end Go.Av
