/- A part of the proof that a law of the seat holds: ZAv19. -/
import Derived.Test.YtleaogcnndhdgaaAv18
namespace Go.Av
open Go Go.RowKit

section
variable {P : Program} {G : Sg P} {e : Nat → AV} {ob : Nat → Option AObj}

/-! ### addresses of elements -/
theorem P_ia_sl {t : TypeId} {x i : Operand} {nm off len : Nat} {kk : IntKind} {n : Int} {el : TypeId} (hx : evA e x = .sl nm off len) (hi : evA e i = .v (.int kk n)) (ht : kindOf G t = some (.slice el))
    (ho : (ob nm).map (·.k) = some (some (G.sz el))) (hp : Nat.blt 0 (G.sz el) = true) (hb : 0 ≤ n ∧ n < (len : Int)) : pval G (.indexAddr t x i) e ob = some (.ptr nm (off + n.toNat) 0) := by
  have hp' : 0 < G.sz el := Nat.le_of_ble_eq_true hp
  simp only [pval, hx, hi, ixA]
  unfold kindOf at ht
  cases hf : G.TF t with
  | none => rw [hf] at ht; cases ht
  | some f => rw [hf] at ht; simp only [Option.map_some, Option.some.injEq] at ht; simp only [ht]; rw [if_pos ⟨hb.1, hb.2, ho, hp'⟩]

theorem P_ia_sl0 {t : TypeId} {x i : Operand} {nm len : Nat} {kk : IntKind} {n : Int} {el : TypeId} (hx : evA e x = .sl nm 0 len) (hi : evA e i = .v (.int kk n)) (ht : kindOf G t = some (.slice el))
    (ho : (ob nm).map (·.k) = some (some (G.sz el))) (hp : Nat.blt 0 (G.sz el) = true) (hb : 0 ≤ n ∧ n < (len : Int)) : pval G (.indexAddr t x i) e ob = some (.ptr nm n.toNat 0) := by
  have := P_ia_sl hx hi ht ho hp hb
  rwa [Nat.zero_add] at this

theorem P_ia_ro {α : Type} [Inhabited α] {t : TypeId} {x i : Operand} {r : α → List AV} {l : List α} {full : Bool} {kk : IntKind} {n : Int} {el : TypeId} (hx : evA e x = .ro (l.map r) full) (hi : evA e i = .v (.int kk n)) (ht : kindOf G t = some (.slice el))
    (hr : ∀ y, (r y).length = G.sz el) (hp : Nat.blt 0 (G.sz el) = true) (hb : 0 ≤ n ∧ n < (l.length : Int)) : pval G (.indexAddr t x i) e ob = some (.rp (l.map r) n.toNat 0) := by
  have hp' : 0 < G.sz el := Nat.le_of_ble_eq_true hp
  have hlt : n.toNat < l.length := by omega
  simp only [pval, hx, hi, ixA]
  unfold kindOf at ht
  cases hf : G.TF t with
  | none => rw [hf] at ht; cases ht
  | some f =>
    rw [hf] at ht; simp only [Option.map_some, Option.some.injEq] at ht; simp only [ht]
    rw [if_pos ⟨hb.1, by simpa using hb.2, by rw [map_gl r hlt]; simp [hr], hp'⟩]

theorem P_ia_arr {t : TypeId} {x i : Operand} {nm s len : Nat} {kk : IntKind} {n : Int} {el : TypeId} (hx : evA e x = .ptr nm s 0) (hi : evA e i = .v (.int kk n)) (ht : kindOf G t = some (.array len el))
    (hp : Nat.beq (G.sz el) 1 = true) (hb : 0 ≤ n ∧ n < (len : Int)) : pval G (.indexAddr t x i) e ob = some (.ptr nm s n.toNat) := by
  have hp' : G.sz el = 1 := Nat.eq_of_beq_eq_true hp
  simp only [pval, hx, hi, ixA]
  unfold kindOf at ht
  cases hf : G.TF t with
  | none => rw [hf] at ht; cases ht
  | some f => rw [hf] at ht; simp only [Option.map_some, Option.some.injEq] at ht; simp only [ht, hp']; rw [if_pos trivial, if_pos hb, Nat.zero_add]

theorem P_ia_arr_rp {t : TypeId} {x i : Operand} {segs : List (List AV)} {s len : Nat} {kk : IntKind} {n : Int} {el : TypeId} (hx : evA e x = .rp segs s 0) (hi : evA e i = .v (.int kk n)) (ht : kindOf G t = some (.array len el))
    (hp : Nat.beq (G.sz el) 1 = true) (hb : 0 ≤ n ∧ n < (len : Int)) : pval G (.indexAddr t x i) e ob = some (.rp segs s n.toNat) := by
  have hp' : G.sz el = 1 := Nat.eq_of_beq_eq_true hp
  simp only [pval, hx, hi, ixA]
  unfold kindOf at ht
  cases hf : G.TF t with
  | none => rw [hf] at ht; cases ht
  | some f => rw [hf] at ht; simp only [Option.map_some, Option.some.injEq] at ht; simp only [ht, hp']; rw [if_pos trivial, if_pos hb, Nat.zero_add]

/-- an array of arrays, its rows one segment each -/
theorem P_ia_arr2 {t : TypeId} {x i : Operand} {nm len : Nat} {o : AObj} {kk : IntKind} {n : Int} {el : TypeId} (hx : evA e x = .ptr nm 0 0) (hi : evA e i = .v (.int kk n)) (ht : kindOf G t = some (.array len el))
    (ho : ob nm = some o) (hl : ((o.segs.drop 0).take len).map List.length = List.replicate len (G.sz el)) (hp : Nat.blt 1 (G.sz el) = true) (hb : 0 ≤ n ∧ n < (len : Int)) : pval G (.indexAddr t x i) e ob = some (.ptr nm n.toNat 0) := by
  have hp' : 1 < G.sz el := Nat.le_of_ble_eq_true hp
  simp only [pval, hx, hi, ixA]
  unfold kindOf at ht
  cases hf : G.TF t with
  | none => rw [hf] at ht; cases ht
  | some f =>
    rw [hf] at ht; simp only [Option.map_some, Option.some.injEq] at ht; simp only [ht]
    rw [if_neg (by omega), ho]
    simp only
    rw [if_pos ⟨hb.1, hb.2, trivial, hl, by omega⟩, Nat.zero_add]

/-! ### loads -/
theorem P_ld {t : TypeId} {x : Operand} {nm s j : Nat} {o : AObj} {av : AV} (hx : evA e x = .ptr nm s j) (ho : ob nm = some o) (hl : ldA G t o.segs s j = some av) : pval G (.load t x) e ob = some av := by
  simp only [pval, hx, ho, Option.bind_some]; exact hl
theorem P_ld_rp {t : TypeId} {x : Operand} {segs : List (List AV)} {s j : Nat} {av : AV} (hx : evA e x = .rp segs s j) (hl : ldA G t segs s j = some av) : pval G (.load t x) e ob = some av := by
  simp only [pval, hx]; exact hl

/-- what is known of a scalar's, a row's, a struct's type -/
def isSc (G : Sg P) (t : TypeId) : Bool := match G.TF t with | some f => !f.kind.isAgg | none => false
def lensOf (G : Sg P) (t : TypeId) : Option (List Nat) := match G.TF t with | some f => if f.kind.isAgg = true then some f.lens else none | none => none

theorem L_cell {t : TypeId} {segs : List (List AV)} {s j : Nat} {row : List AV} {a : AV} (hk : isSc G t = true) (hs : segs[s]? = some row) (hj : row[j]? = some a) : ldA G t segs s j = some a := by
  unfold isSc at hk
  unfold ldA
  cases hf : G.TF t with
  | none => rw [hf] at hk; cases hk
  | some f =>
    rw [hf] at hk
    simp only [Bool.not_eq_true'] at hk
    simp only [hk, Bool.false_eq_true, if_false, hs, Option.bind_some, hj]

/-- an element of a slice of scalars; a part of an element of structs -/
theorem L_el {α : Type} [Inhabited α] {t : TypeId} {r : α → List AV} {l : List α} {k j : Nat} {a : AV} (hk : isSc G t = true) (h : k < l.length) (hj : (r (gl l k))[j]? = some a) : ldA G t (l.map r) k j = some a :=
  L_cell hk (map_gl r h) hj

/-- an element that is an array of scalars -/
theorem L_row {α : Type} [Inhabited α] {t : TypeId} {r : α → List AV} {l : List α} {k : Nat} (hk : lensOf G t = some [(r (gl l k)).length]) (h : k < l.length) : ldA G t (l.map r) k 0 = some (.agg [r (gl l k)]) := by
  unfold lensOf at hk
  unfold ldA
  cases hf : G.TF t with
  | none => rw [hf] at hk; cases hk
  | some f =>
    rw [hf] at hk
    simp only at hk ⊢
    split at hk
    case isFalse => cases hk
    case isTrue ha =>
      simp only [Option.some.injEq] at hk
      have h1 : (((l.map r).drop k).take f.lens.length) = [r (gl l k)] := by
        rw [hk]
        have hlt : k < (l.map r).length := by simpa using h
        have hg := map_gl r h
        rw [List.getElem?_eq_getElem hlt] at hg
        injection hg with hg
        rw [List.drop_eq_getElem_cons hlt, hg]; rfl
      rw [if_pos ha, h1, if_pos ⟨trivial, by rw [hk]; rfl⟩]

/-- an element that is a struct -/
theorem L_struct {α : Type} [Inhabited α] {t : TypeId} {r : α → List AV} {l : List α} {k m : Nat} {ls : List Nat} (hk : lensOf G t = some (m :: ls)) (hs : (m :: ls).sum = G.sz t) (hr : ∀ y, (r y).length = (m :: ls).sum) (hm : Nat.beq m (m :: ls).sum = false) (h : k < l.length) :
    ldA G t (l.map r) k 0 = some (.agg (splitL (m :: ls) (r (gl l k)))) := by
  unfold lensOf at hk
  unfold Sg.sz at hs
  unfold ldA
  cases hf : G.TF t with
  | none => rw [hf] at hk; cases hk
  | some f =>
    rw [hf] at hk hs
    simp only at hk hs ⊢
    split at hk
    case isFalse => cases hk
    case isTrue ha =>
      simp only [Option.some.injEq] at hk
      have hlt : k < (l.map r).length := by simpa using h
      have hg := map_gl r h
      rw [List.getElem?_eq_getElem hlt] at hg
      injection hg with hg
      have hd : (l.map r).drop k = r (gl l k) :: (l.map r).drop (k + 1) := by rw [List.drop_eq_getElem_cons hlt, hg]
      rw [if_pos ha, hd, if_neg (by
        rintro ⟨_, h2⟩
        rw [hk] at h2
        simp only [List.length_cons, List.take_succ_cons, List.map_cons, List.cons.injEq] at h2
        rw [hr] at h2
        exact Nat.ne_of_beq_eq_false hm h2.1.symm)]
      have h3 : ((r (gl l k) :: (l.map r).drop (k + 1)).flatten.drop 0).take f.size = r (gl l k) := by
        rw [List.drop_zero, List.flatten_cons, ← hs, ← hr (gl l k), List.take_left']
        rfl
      rw [h3, if_pos (by rw [hr, hs]), hk]

/-! ### stores -/
theorem S_st {t : TypeId} {x v : Operand} {nm s j : Nat} {o : AObj} {a : AV} {segs' : List (List AV)} (hx : evA e x = .ptr nm s j) (hv : evA e v = a) (ho : ob nm = some o) (hsz : (cellsA a).length = G.sz t) (hp : Nat.blt 0 (G.sz t) = true)
    (hs : s ≤ o.segs.length) (hst : stS o.segs s j a = some segs') : stA G t ⟨e, ob, 0⟩ (evA e x) (evA e v) = some (nm, ⟨o.ty, o.k, segs'⟩) := by
  have hp' : 0 < G.sz t := Nat.le_of_ble_eq_true hp
  simp only [stA, hx, ho, Option.bind_some, hv, hst]
  rw [if_pos ⟨hsz, hp', hs⟩]; rfl

/-- an element of a slice of scalars -/
theorem T_el {α : Type} {r : α → List AV} {l : List α} {k : Nat} {a : AV} {y : α} (hc : a.isCell = true) (hr : ∀ z, (r z).length = 1) (hy : r y = [a]) (h : k < l.length) : stS (l.map r) k 0 a = some ((l.set k y).map r) := by
  have h1 : (l.map r)[k]? = some (r l[k]) := by rw [List.getElem?_map, List.getElem?_eq_getElem h]; rfl
  have h2 : ∀ z, (r z).set 0 a = [a] := fun z => by
    have := hr z
    match hz : r z, this with
    | [b], _ => rfl
  have h3 : (l.map r).set k [a] = (l.set k y).map r := by rw [← hy, map_set]
  cases a <;> simp only [AV.isCell, Bool.false_eq_true] at hc <;> (simp only [stS, AV.isCell, if_true, h1, Option.bind_some]; rw [if_pos (by rw [hr]; omega), h2, h3])

/-- an element that is an array of scalars -/
theorem T_row {α : Type} {r : α → List AV} {l : List α} {k n : Nat} {y : α} (hr : ∀ z, (r z).length = n) (h : k < l.length) : stS (l.map r) k 0 (.agg [r y]) = some ((l.set k y).map r) := by
  have h1 : (l.map r)[k]? = some (r l[k]) := by rw [List.getElem?_map, List.getElem?_eq_getElem h]; rfl
  simp only [stS, h1, Option.map_some, hr]
  rw [if_pos ⟨trivial, trivial⟩, map_set]

/-- an element that is a struct -/
theorem T_struct {α : Type} {r : α → List AV} {l : List α} {k n : Nat} {y : α} {s1 s2 : List AV} {ss : List (List AV)} (hr : ∀ z, (r z).length = n) (hy : (s1 :: s2 :: ss).flatten = r y) (hn : Nat.beq s1.length n = false) (h : k < l.length) :
    stS (l.map r) k 0 (.agg (s1 :: s2 :: ss)) = some ((l.set k y).map r) := by
  have h1 : (l.map r)[k]? = some (r l[k]) := by rw [List.getElem?_map, List.getElem?_eq_getElem h]; rfl
  have hlt : k < (l.map r).length := by simpa using h
  simp only [stS]
  rw [if_neg, if_pos, hy, map_set]
  · refine ⟨trivial, ?_⟩; rw [h1, hy]; simp [hr]
  · rintro ⟨_, h2⟩
    rw [List.drop_eq_getElem_cons hlt] at h2
    simp only [List.length_cons, List.take_succ_cons, List.map_cons, List.cons.injEq, List.getElem_map, hr] at h2
    exact Nat.ne_of_beq_eq_false hn h2.1.symm

/-- a cell in a row -/
theorem T_cell {segs : List (List AV)} {s j : Nat} {a : AV} {row row' : List AV} {segs' : List (List AV)} (hc : a.isCell = true) (hs : segs[s]? = some row) (hj : j < row.length) (hr : row.set j a = row') (h' : segs.set s row' = segs') : stS segs s j a = some segs' := by
  subst hr; subst h'
  cases a <;> simp only [AV.isCell, Bool.false_eq_true] at hc <;> (simp only [stS, AV.isCell, if_true, hs, Option.bind_some]; rw [if_pos hj])

/-! ### lengths -/
theorem P_len_ro {α : Type} {t : TypeId} {x : Operand} {r : α → List AV} {l : List α} {full : Bool} {el : TypeId} (hx : evA e x = .ro (l.map r) full) (ht : kindOf G t = some (.slice el)) :
    pval G (.call ⟨.builtin .len, #[x], #[t]⟩) e ob = some (aI l.length) := by
  simp only [pval, hx, lenA, ht, List.length_map]; rfl

/-! ### appends -/
theorem A_app {α : Type} {t el : TypeId} {x y : AV} {nm len : Nat} {r : α → List AV} {l m : List α} {k b : Nat} (ht : kindOf G t = some (.slice el)) (hf : (G.TF el).map (fun f => (f.size, f.bytes)) = some (k, b)) (hx : x = .sl nm 0 len) (hlen : len = l.length) (ho : ob nm = some ⟨el, some k, l.map r⟩)
    (hy : srcA k ob y = some (m.map r)) (hr : ∀ z, (r z).length = k) (hb : Nat.ble b 32768 = true) (hs : l.length + m.length ≤ 4294967296) :
    appA G t ob x y = some (some nm, (l ++ m).length, ⟨el, some k, (l ++ m).map r⟩) := by
  subst hx; subst hlen
  have hb' : b ≤ 32768 := Nat.le_of_ble_eq_true hb
  unfold appA
  simp only [ht]
  cases hf' : G.TF el with
  | none => rw [hf'] at hf; cases hf
  | some f =>
    rw [hf'] at hf
    simp only [Option.map_some, Option.some.injEq, Prod.mk.injEq] at hf
    obtain ⟨h1, h2⟩ := hf
    simp only [h1, h2, hy, ho]
    rw [if_pos]
    · simp
    · refine ⟨trivial, trivial, by simp, fun q hq => ?_, ?_, ?_⟩
      · obtain ⟨z, _, rfl⟩ := List.mem_map.1 hq; exact hr z
      · simp only [List.length_map]
        calc (l.length + m.length) * b ≤ 4294967296 * 32768 := Nat.mul_le_mul hs hb'
          _ = 140737488355328 := rfl
      · simp only [List.length_map, maxLen]; omega

theorem A_nil {α : Type} {t el : TypeId} {x y : AV} {r : α → List AV} {m : List α} {k b : Nat} (ht : kindOf G t = some (.slice el)) (hf : (G.TF el).map (fun f => (f.size, f.bytes)) = some (k, b)) (hx : x = .ro [] true)
    (hy : srcA k ob y = some (m.map r)) (hr : ∀ z, (r z).length = k) (hb : Nat.ble b 32768 = true) (hs : m.length ≤ 4294967296) :
    appA G t ob x y = some (none, m.length, ⟨el, some k, m.map r⟩) := by
  subst hx
  have hb' : b ≤ 32768 := Nat.le_of_ble_eq_true hb
  unfold appA
  simp only [ht]
  cases hf' : G.TF el with
  | none => rw [hf'] at hf; cases hf
  | some f =>
    rw [hf'] at hf
    simp only [Option.map_some, Option.some.injEq, Prod.mk.injEq] at hf
    obtain ⟨h1, h2⟩ := hf
    simp only [h1, h2, hy]
    rw [if_pos]
    · simp
    · refine ⟨.inl trivial, by simp, fun q hq => ?_, ?_, ?_⟩
      · obtain ⟨z, _, rfl⟩ := List.mem_map.1 hq; exact hr z
      · simp only [List.length_map, List.length_nil, Nat.zero_add]
        calc m.length * b ≤ 4294967296 * 32768 := Nat.mul_le_mul hs hb'
          _ = 140737488355328 := rfl
      · simp only [List.length_map, List.length_nil, maxLen]; omega

theorem src_ro {α : Type} {k : Nat} {r : α → List AV} {m : List α} {f : Bool} {y : AV} (hy : y = .ro (m.map r) f) : srcA k ob y = some (m.map r) := by subst hy; rfl
theorem src_sl {α : Type} {k nm len : Nat} {ty : TypeId} {r : α → List AV} {m : List α} {y : AV} (hy : y = .sl nm 0 len) (hlen : len = m.length) (ho : ob nm = some ⟨ty, some k, m.map r⟩) : srcA k ob y = some (m.map r) := by
  subst hy; subst hlen
  simp only [srcA, ho, Option.bind_some]
  rw [if_pos ⟨trivial, by simp⟩, List.drop_zero, List.take_of_length_le (by simp)]

/-! ### new rows -/
theorem N_make {α : Type} {t el : TypeId} {lx cx : Operand} {nm : Nat} {kk kk' : IntKind} {n : Int} {r : α → List AV} {z : α} {k b : Nat} (ht : kindOf G t = some (.slice el)) (hf : (G.TF el).map (fun f => (f.size, f.bytes, f.zsegs.flatten)) = some (k, b, r z))
    (hl : evA e lx = .v (.int kk n)) (hc : evA e cx = .v (.int kk' n)) (hb : Nat.ble b 32768 = true) (hn : 0 ≤ n ∧ n ≤ 4294967296) :
    newA G (.makeSlice t lx cx) e nm = some (.sl nm 0 n.toNat, ⟨el, some k, (List.replicate n.toNat z).map r⟩) := by
  have hb' : b ≤ 32768 := Nat.le_of_ble_eq_true hb
  simp only [newA, ht, hl, hc]
  cases hf' : G.TF el with
  | none => rw [hf'] at hf; cases hf
  | some f =>
    rw [hf'] at hf
    simp only [Option.map_some, Option.some.injEq, Prod.mk.injEq] at hf
    obtain ⟨h1, h2, h3⟩ := hf
    simp only [h1, h2, h3]
    rw [if_pos]
    · simp [List.map_replicate]
    · refine ⟨hn.1, Int.le_refl _, ?_, by omega⟩
      have : (b : Int) * n ≤ 32768 * 4294967296 := Int.mul_le_mul (by omega) hn.2 hn.1 (by omega)
      omega
end
end Go.Av
