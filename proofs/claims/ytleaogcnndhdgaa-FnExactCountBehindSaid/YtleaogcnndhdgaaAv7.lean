/- A part of the proof that a law of the seat holds: ZAv7. -/
import Derived.Test.YtleaogcnndhdgaaAv6
namespace Go.Av
open Go Go.RowKit

section
variable {P : Program} (G : Sg P)

/-! ### unary, conversions, len, min, max -/
theorem sat_v {c : Ctx} {x : Value} (h : x.oneCell' = true) : sat c (.v x) x := by simp only [sat]; exact ⟨trivial, h⟩

def unA (op : UnOp) (x : AV) : Option AV :=
  match op, x with
  | .neg, .v (.int k n) => some (.v (.int k (k.wrap (0 - n))))
  | .not, .v (.bool b) => some (.v (.bool (!b)))
  | _, _ => none

theorem un_sound {c : Ctx} {op : UnOp} {x av : AV} {vx : Value} (hx : sat c x vx) (h : unA op x = some av) :
    ∃ y, sat c av y ∧ ∀ w', (Op.unary op vx).run P w' = .ok y w' := by
  unfold unA at h
  split at h
  case h_1 k n =>
    simp only [Option.some.injEq] at h; subst h
    simp only [sat] at hx; obtain ⟨rfl, _⟩ := hx
    exact ⟨_, sat_v rfl, fun w' => by simp [Op.unary, Op.intArith]⟩
  case h_2 b =>
    simp only [Option.some.injEq] at h; subst h
    simp only [sat] at hx; obtain ⟨rfl, _⟩ := hx
    exact ⟨_, sat_v rfl, fun w' => by simp [Op.unary]⟩
  case h_3 => cases h

def bytesA : List (List AV) → Option (List Int)
  | [] => some []
  | [.v (.int .u8 n)] :: r => (bytesA r).map (n :: ·)
  | _ => none

theorem bytesA_spec : ∀ {els : List (List AV)} {xs : List Int}, bytesA els = some xs → els = xs.map fun n => [.v (.int .u8 n)]
  | [], xs, h => by simp only [bytesA, Option.some.injEq] at h; subst h; rfl
  | e :: r, xs, h => by
    unfold bytesA at h
    split at h
    · rename_i h1; cases h1
    · rename_i n r' h1
      cases hr : bytesA r' with
      | none => rw [hr] at h; cases h
      | some ys =>
        rw [hr] at h
        simp only [Option.map_some, Option.some.injEq] at h
        subst h
        injection h1 with h1 h2
        subst h2
        rw [h1, bytesA_spec hr]; rfl
    · cases h

def isBytes (t : TypeId) : Bool :=
  match G.TF t with
  | some f => (match f.kind with
    | .slice e => (match G.TF e with | some g => (match g.kind with | .int .u8 => true | _ => false) | none => false)
    | _ => false)
  | none => false

def cvA (src dst : TypeId) (ob : Nat → Option AObj) (x : AV) : Option AV :=
  match kindOf G src, kindOf G dst, x with
  | some _, some (.int k), .v (.int _ n) => some (.v (.int k (k.wrap n)))
  | some .string, some .string, .v (.string s) => some (.v (.string s))
  | some (.slice e), some .string, .ro els _ => if kindOf G e = some (.int .u8) then (bytesA els).map fun xs => .v (.string (strOfNums xs)) else none
  | some (.slice e), some .string, .sl nm off len =>
    if kindOf G e = some (.int .u8) then
      (match ob nm with
       | some o => if o.k = some 1 ∧ off + len ≤ o.segs.length then (bytesA ((o.segs.drop off).take len)).map fun xs => .v (.string (strOfNums xs)) else none
       | none => none)
    else none
  | _, _, _ => none

theorem flatten_single {α : Type} (f : α → AV) : ∀ xs : List α, (xs.map fun n => [f n]).flatten = xs.map f
  | [] => rfl
  | x :: xs => by simp only [List.map_cons, List.flatten_cons, flatten_single f xs, List.singleton_append]

theorem bytes_cells {c : Ctx} {b o : Nat} {xs : List Int} (h : satSegs c b o (xs.map fun n => [.v (.int .u8 n)])) : ∀ i, i < xs.length → c.w.cell? ⟨b, o + i, none⟩ = some (.int .u8 (xs.getD i 0)) := by
  intro i hi
  rw [satSegs_flat] at h
  have hg : ((xs.map fun n => [AV.v (.int .u8 n)]).flatten)[i]? = some (.v (.int .u8 xs[i])) := by
    rw [flatten_single (fun n => AV.v (.int .u8 n)) xs]; simp [hi]
  obtain ⟨y, h1, _, h3⟩ := satCells_get h hg
  simp only [sat] at h3
  rw [h1, h3.1]
  simp [hi]

theorem cv_sound {c : Ctx} {ob : Nat → Option AObj} (hob : ∀ nm o, ob nm = some o → objOK c nm o) {src dst : TypeId} {x av : AV} {vx : Value} (hx : sat c x vx) (h : cvA G src dst ob x = some av) :
    ∃ y, sat c av y ∧ ∀ w', Same c.w w' → (convert src dst vx).run P w' = .ok y w' := by
  have str : ∀ {e : TypeId} {xs : List Int} {a : Option Addr} {cap : Nat}, kindOf G src = some (.slice e) → kindOf G dst = some .string → kindOf G e = some (.int .u8) →
      (xs = [] ∨ ∃ b off, a = some ⟨b, off, none⟩ ∧ ∀ i, i < xs.length → c.w.cell? ⟨b, off + i, none⟩ = some (.int .u8 (xs.getD i 0))) →
      ∃ y, sat c (.v (.string (strOfNums xs))) y ∧ ∀ w', Same c.w w' → (convert src dst (.slice a xs.length cap)).run P w' = .ok y w' := by
    intro e xs a cap h1 h2 h3 h4
    obtain ⟨d1, u1, f1⟩ := kindOf_und G h1
    obtain ⟨d2, u2, f2⟩ := kindOf_und G h2
    obtain ⟨d3, u3, f3⟩ := kindOf_und G h3
    simp only [TK.fits] at f1 f2 f3
    subst f1; subst f2; subst f3
    refine ⟨.string (strOfNums xs), sat_v rfl, fun w' hw => ?_⟩
    rcases h4 with rfl | ⟨b, off, rfl, hc⟩
    · have e0 : strOfNums [] = ByteArray.empty := rfl
      rw [e0]
      cases a with
      | none => exact run_convert_bytes_nil w' src e u1 u3 0 cap dst u2
      | some ad =>
        rw [run_convert_bytes_string w' src dst e _ _ cap u1 u3 u2]
        simp [Conv.bytesToString, loadCells, loadCellsFrom]
    · exact run_convert_bytes_arg w' src e u1 u3 b off xs.length cap xs rfl (fun i hi => hw.cell (hc i hi)) dst u2
  unfold cvA at h
  split at h
  case h_1 k1 k k2 n hs hd =>
    simp only [Option.some.injEq] at h; subst h
    simp only [sat] at hx; obtain ⟨rfl, _⟩ := hx
    obtain ⟨d1, u1, f1⟩ := kindOf_und G hs
    obtain ⟨d2, u2, f2⟩ := kindOf_und G hd
    simp only [TK.fits] at f2
    subst f2
    exact ⟨_, sat_v rfl, fun w' _ => by simp [convert, run_underlying u1, run_underlying u2, Conv.intToInt]⟩
  case h_2 s hs hd =>
    simp only [Option.some.injEq] at h; subst h
    simp only [sat] at hx; obtain ⟨rfl, _⟩ := hx
    obtain ⟨d1, u1, f1⟩ := kindOf_und G hs
    obtain ⟨d2, u2, f2⟩ := kindOf_und G hd
    simp only [TK.fits] at f1 f2
    subst f1; subst f2
    exact ⟨_, sat_v rfl, fun w' _ => by simp [convert, run_underlying u1, run_underlying u2]⟩
  case h_3 e els fl hs hd =>
    split at h
    case isFalse => cases h
    case isTrue he =>
      cases hb : bytesA els with
      | none => rw [hb] at h; cases h
      | some xs =>
        rw [hb] at h
        simp only [Option.map_some, Option.some.injEq] at h
        subst h
        have hes := bytesA_spec hb
        subst hes
        simp only [sat] at hx
        obtain ⟨a, cap, rfl, _, _, _, h4⟩ := hx
        have := str (xs := xs) (a := a) (cap := cap) hs hd he (by
          rcases h4 with h4 | ⟨b, off, k, rfl, _, _, _, hsg⟩
          · left; simpa using h4
          · right; exact ⟨b, off, rfl, bytes_cells hsg⟩)
        simpa using this
  case h_4 e nm off len hs hd =>
    split at h
    case isFalse => cases h
    case isTrue he =>
      split at h
      case h_2 => cases h
      case h_1 o ho =>
        split at h
        case isFalse => cases h
        case isTrue hk =>
          obtain ⟨hk, hle⟩ := hk
          cases hb : bytesA ((o.segs.drop off).take len) with
          | none => rw [hb] at h; cases h
          | some xs =>
            rw [hb] at h
            simp only [Option.map_some, Option.some.injEq] at h
            subst h
            have hes := bytesA_spec hb
            have hl : xs.length = len := by have := congrArg List.length hes; simp at this; omega
            simp only [sat] at hx
            rcases hx with ⟨h0, a, rfl⟩ | ⟨b, k', cap, cur, ty, fr, hm, hL, rfl, _⟩
            · have := str (xs := xs) (a := a) (cap := 0) hs hd he (.inl (List.eq_nil_of_length_eq_zero (by omega)))
              rw [hl, h0] at this; exact this
            · have := str (xs := xs) (a := some ⟨b, off * k', none⟩) (cap := cap) hs hd he (by
                right
                refine ⟨b, off * k', rfl, ?_⟩
                rcases hob nm o ho with ⟨hn, _⟩ | ⟨b2, cur2, fr2, e1, e2, _, e4, ⟨k2, cap2, e5, e6, e7, _⟩ | ⟨e5, _⟩⟩
                · rw [hm] at hn; cases hn
                · rw [hm] at e1; injection e1 with e1; subst e1
                  rw [hk] at e5; injection e5 with e5; subst e5
                  rw [hL] at e6; injection e6 with e6; subst e6
                  have hsub := satSegs_sub (l := off) (n := len) e4 e7 (by omega)
                  rw [hes, Nat.zero_add] at hsub
                  exact bytes_cells hsub
                · rw [hk] at e5; cases e5)
              rw [hl] at this; exact this
  case h_5 => cases h

def lenA (t : TypeId) (x : AV) : Option AV :=
  match kindOf G t, x with
  | some .string, .v (.string s) => some (.v (.int .i64 s.size))
  | some (.slice _), .ro els _ => some (.v (.int .i64 els.length))
  | some (.slice _), .sl _ _ len => some (.v (.int .i64 len))
  | some (.slice _), .sv _ _ _ len => some (.v (.int .i64 len))
  | some (.array n _), _ => some (.v (.int .i64 n))
  | _, _ => none

theorem len_sound {c : Ctx} {t ty : TypeId} {x av : AV} {vx : Value} (hx : sat c x vx) (h : lenA G t x = some av) :
    ∃ y, sat c av y ∧ ∀ w', (Builtin.len_ #[t] ty #[vx]).run P w' = .ok y w' := by
  unfold lenA at h
  split at h
  case h_1 s hk =>
    obtain ⟨d, hd, hf⟩ := kindOf_und G hk
    simp only [TK.fits] at hf; subst hf
    simp only [Option.some.injEq] at h; subst h
    simp only [sat] at hx; obtain ⟨rfl, _⟩ := hx
    exact ⟨_, sat_v rfl, fun w' => by simp [Builtin.len_, run_underlying hd, goInt]⟩
  case h_2 e els fl hk =>
    obtain ⟨d, hd, hf⟩ := kindOf_und G hk
    simp only [TK.fits] at hf; subst hf
    simp only [Option.some.injEq] at h; subst h
    simp only [sat] at hx
    obtain ⟨a, cap, rfl, _⟩ := hx
    exact ⟨_, sat_v rfl, fun w' => by simp [Builtin.len_, run_underlying hd, goInt]⟩
  case h_3 e nm off len hk =>
    obtain ⟨d, hd, hf⟩ := kindOf_und G hk
    simp only [TK.fits] at hf; subst hf
    simp only [Option.some.injEq] at h; subst h
    simp only [sat] at hx
    rcases hx with ⟨rfl, a, rfl⟩ | ⟨b, k', cap, cur, ty, fr, hm, hL, rfl, _⟩
    · exact ⟨_, sat_v rfl, fun w' => by simp [Builtin.len_, run_underlying hd, goInt]⟩
    · exact ⟨_, sat_v rfl, fun w' => by simp [Builtin.len_, run_underlying hd, goInt]⟩
  case h_4 e nm s off len hk =>
    obtain ⟨d, hd, hf⟩ := kindOf_und G hk
    simp only [TK.fits] at hf; subst hf
    simp only [Option.some.injEq] at h; subst h
    simp only [sat] at hx
    obtain ⟨b, cap, _, rfl, _⟩ := hx
    exact ⟨_, sat_v rfl, fun w' => by simp [Builtin.len_, run_underlying hd, goInt]⟩
  case h_5 n e hk =>
    obtain ⟨d, hd, hf⟩ := kindOf_und G hk
    simp only [TK.fits] at hf; subst hf
    simp only [Option.some.injEq] at h; subst h
    exact ⟨_, sat_v rfl, fun w' => by simp [Builtin.len_, run_underlying hd, goInt]⟩
  case h_6 => cases h

def mmA (b : Builtin) (l : List AV) : Option AV :=
  match b, l with
  | .min, [.v (.int k x), .v (.int _ y)] => some (.v (.int k (if y < x then y else x)))
  | .max, [.v (.int k x), .v (.int _ y)] => some (.v (.int k (if x < y then y else x)))
  | .min, [.v (.int k x), .v (.int _ y), .v (.int _ z)] => some (.v (.int k (if z < (if y < x then y else x) then z else (if y < x then y else x))))
  | .max, [.v (.int k x), .v (.int _ y), .v (.int _ z)] => some (.v (.int k (if (if x < y then y else x) < z then z else (if x < y then y else x))))
  | _, _ => none

/-! ### built values -/
def placeA (t : TypeId) : Option (Nat → Option (Nat × Nat)) :=
  match kindOf G t with
  | some (.struct fs) => if fs.all (fun p => decide (0 < G.sz p.2)) = true then some fun i => (fs[i]?).map fun p => (p.1, G.sz p.2) else none
  | some (.array _ e) => if 0 < G.sz e then some fun i => some (i * G.sz e, G.sz e) else none
  | _ => none

def fillA (place : Nat → Option (Nat × Nat)) : List (List AV) → List (Nat × AV) → Option (List (List AV))
  | segs, [] => some segs
  | segs, (i, x) :: r =>
    match place i with
    | none => none
    | some (off, size) =>
      if (cellsA x).length = size ∧ x.isVal = true then
        (match advA segs off with
         | some (d, j) => (stS segs d j x).bind fun segs' => fillA place segs' r
         | none => none)
      else none

def bdA (t : TypeId) (parts : List (Nat × AV)) : Option AV :=
  match G.TF t, placeA G t with
  | some f, some pl => (fillA pl f.zsegs parts).map .agg
  | _, _ => none

theorem foldl_set (off : Nat) : ∀ (vs : List Value) (k : Nat) (cells : Array Value), off + k + vs.length ≤ cells.size →
    ((vs.zipIdx k).foldl (fun cs (p : Value × Nat) => cs.setIfInBounds (off + p.2) p.1) cells).toList = cells.toList.take (off + k) ++ vs ++ cells.toList.drop (off + k + vs.length)
  | [], k, cells, _ => by simp
  | v :: vs, k, cells, h => by
    simp only [List.zipIdx_cons, List.foldl_cons]
    rw [foldl_set off vs (k + 1) (cells.setIfInBounds (off + k) v) (by simp at h ⊢; omega)]
    have := list_seg_step cells.toList (off + k) v vs (by simp at h ⊢; omega)
    simpa [Nat.add_assoc] using this

theorem satList_app {c : Ctx} : ∀ {l r : List AV} {vs us : List Value}, satList c l vs → satList c r us → satList c (l ++ r) (vs ++ us)
  | [], r, vs, us, h, h2 => by simp only [satList] at h; subst h; exact h2
  | a :: l, r, vs, us, h, h2 => by
    simp only [satList] at h
    obtain ⟨v, q, rfl, h1, h3, h4⟩ := h
    simp only [List.cons_append, satList]
    exact ⟨v, q ++ us, rfl, h1, h3, satList_app h4 h2⟩

theorem satList_take {c : Ctx} {l : List AV} {vs : List Value} (h : satList c l vs) (n : Nat) : satList c (l.take n) (vs.take n) := by
  have := satList_sub h 0 n; simpa using this
theorem satList_drop {c : Ctx} {l : List AV} {vs : List Value} (h : satList c l vs) (n : Nat) : satList c (l.drop n) (vs.drop n) := by
  have hl := satList_len h
  have := satList_sub h n (l.length - n)
  rwa [List.take_of_length_le (by simp), List.take_of_length_le (by simp; omega)] at this

def satParts (c : Ctx) : List (Nat × AV) → List (Nat × Value) → Prop
  | [], vs => vs = []
  | p :: l, vs => ∃ v r, vs = (p.1, v) :: r ∧ sat c p.2 v ∧ satParts c l r

theorem fill_sound {c : Ctx} {place : Nat → Option (Nat × Nat)} : ∀ {parts : List (Nat × AV)} {vparts : List (Nat × Value)} {segs segs' : List (List AV)} {cells : Array Value},
    fillA place segs parts = some segs' → satList c segs.flatten cells.toList → satParts c parts vparts →
    ∃ cells', Instr.fill place cells vparts = some cells' ∧ satList c segs'.flatten cells'.toList
  | [], _, segs, segs', cells, h, hc, hp => by
    simp only [satParts] at hp
    subst hp
    simp only [fillA, Option.some.injEq] at h
    subst h
    exact ⟨cells, rfl, hc⟩
  | (i, x) :: r, _, segs, segs', cells, h, hc, hp => by
    simp only [satParts] at hp
    obtain ⟨v, vr, rfl, hx, h2⟩ := hp
    simp only [fillA] at h
    cases hpl : place i with
    | none => rw [hpl] at h; cases h
    | some p =>
      obtain ⟨off, size⟩ := p
      rw [hpl] at h
      simp only at h
      split at h
      case isFalse => cases h
      case isTrue hsz =>
        obtain ⟨hsz, hval⟩ := hsz
        split at h
        case h_2 => cases h
        case h_1 d j hadv =>
          obtain ⟨ha, _⟩ := advA_spec hadv
          cases hst : stS segs d j x with
          | none => rw [hst] at h; cases h
          | some segs1 =>
            rw [hst] at h
            simp only [Option.bind_some] at h
            obtain ⟨_, g2, _, g4⟩ := stS_spec hst
            rw [ha] at g2 g4
            have hv := cells_sat hval hx
            have hvl := satList_len hv
            have hcl := satList_len hc
            simp only [Array.length_toList] at hvl hcl
            have hs1 : v.cells.size = size := by rw [hvl, hsz]
            have hs2 : ¬ (off + v.cells.size > cells.size) := by omega
            have hnew : satList c segs1.flatten (v.cells.zipIdx.foldl (fun cs (p : Value × Nat) => cs.setIfInBounds (off + p.2) p.1) cells).toList := by
              have hf := foldl_set off v.cells.toList 0 cells (by simp; omega)
              simp only [Nat.add_zero, Array.length_toList] at hf
              have e1 : v.cells.zipIdx.foldl (fun cs (p : Value × Nat) => cs.setIfInBounds (off + p.2) p.1) cells = (v.cells.toList.zipIdx 0).foldl (fun cs (p : Value × Nat) => cs.setIfInBounds (off + p.2) p.1) cells := by
                rw [← Array.foldl_toList]; simp
              rw [e1, hf, g2]
              have hle : (cellsA x).length = v.cells.size := hvl.symm
              rw [hle]
              exact satList_app (satList_app (satList_take hc _) hv) (satList_drop hc _)
            obtain ⟨cells', k1, k2⟩ := fill_sound h hnew h2
            refine ⟨cells', ?_, k2⟩
            simp only [Instr.fill, hpl]
            rw [if_neg (by simp; omega)]
            exact k1

theorem fill_lens {place : Nat → Option (Nat × Nat)} : ∀ {parts : List (Nat × AV)} {segs segs' : List (List AV)}, fillA place segs parts = some segs' → segs'.map List.length = segs.map List.length
  | [], segs, segs', h => by simp only [fillA, Option.some.injEq] at h; rw [h]
  | (i, x) :: r, segs, segs', h => by
    simp only [fillA] at h
    cases hpl : place i with
    | none => rw [hpl] at h; cases h
    | some p =>
      rw [hpl] at h
      simp only at h
      split at h
      case isFalse => cases h
      case isTrue =>
        split at h
        case h_2 => cases h
        case h_1 d j hadv =>
          cases hst : stS segs d j x with
          | none => rw [hst] at h; cases h
          | some segs1 =>
            rw [hst] at h
            simp only [Option.bind_some] at h
            rw [fill_lens h, (stS_spec hst).2.2.1]

theorem zero_sat {t : TypeId} {f : TFact} (h : f.ok P t) (c : Ctx) : satList c f.zsegs.flatten f.zero.cells.toList := by
  rw [h.zs]
  have := h.zo
  generalize f.zero.cells.toList = l at this
  induction l with
  | nil => simp [satList]
  | cons v l ih =>
    simp only [List.map_cons, satList]
    exact ⟨v, l.map id, by simp, this v (by simp), cav_sat c v, by simpa using ih (fun u hu => this u (by simp [hu]))⟩

theorem Sg.sz_info {t : TypeId} (h : 0 < G.sz t) : ∃ i, P.info? t = some i ∧ i.size = G.sz t := by
  unfold Sg.sz at h ⊢
  cases hg : G.TF t with
  | none => rw [hg] at h; cases h
  | some g => obtain ⟨i, h1, h2, _⟩ := (G.ok _ g hg).info; exact ⟨i, h1, h2⟩

theorem fields_mapM : ∀ (FL : List Field), ((FL.map fun f => (f.offset, f.type)).all fun p => decide (0 < G.sz p.2)) = true →
    FL.mapM (fun f => (P.info? f.type).map fun i => (f.offset, i.size)) = some ((FL.map fun f => (f.offset, f.type)).map fun p => (p.1, G.sz p.2))
  | [], _ => rfl
  | x :: l, hall => by
    simp only [List.map_cons, List.all_cons, Bool.and_eq_true, decide_eq_true_eq] at hall
    obtain ⟨i, h1, h2⟩ := G.sz_info hall.1
    rw [List.mapM_cons, fields_mapM l hall.2]
    simp [h1, h2]

theorem bd_sound {c : Ctx} {t : TypeId} {parts : List (Nat × AV)} {vparts : List (Nat × Value)} {av : AV} (hp : satParts c parts vparts) (h : bdA G t parts = some av) :
    ∃ y, sat c av y ∧ ∀ w', (Instr.build t vparts.toArray).run P w' = .ok y w' := by
  unfold bdA at h
  split at h
  case h_2 => cases h
  case h_1 f pl hf hpl =>
    have hok := G.ok t f hf
    cases hfi : fillA pl f.zsegs parts with
    | none => rw [hfi] at h; cases h
    | some segs' =>
      rw [hfi] at h
      simp only [Option.map_some, Option.some.injEq] at h
      subst h
      obtain ⟨cells', k1, k2⟩ := fill_sound hfi (zero_sat hok c) hp
      refine ⟨.agg cells', by simp only [sat]; exact ⟨cells'.toList, by simp, (satAgg_flat c _ _).2 k2⟩, fun w' => ?_⟩
      refine run_build w' t vparts.toArray cells' ?_
      obtain ⟨i, hi, _, _, hz⟩ := hok.info
      obtain ⟨d, hd, hfit⟩ := hok.und
      have hkind : kindOf G t = some f.kind := by simp [kindOf, hf]
      unfold placeA at hpl
      rw [hkind] at hpl
      unfold Program.built
      split at hpl
      case h_1 fs hk =>
        split at hpl
        case isFalse => cases hpl
        case isTrue hall =>
          simp only [Option.some.injEq] at hk hpl
          subst hpl
          rw [hk] at hfit
          simp only [TK.fits] at hfit
          obtain ⟨F, rfl, hF⟩ := hfit
          have hm : F.toList.mapM (fun f => (P.info? f.type).map fun i => (f.offset, i.size)) = some (fs.map fun p => (p.1, G.sz p.2)) := by
            rw [← hF] at hall ⊢
            exact fields_mapM G F.toList hall
          simp only [hi, hd, hz, hm]
          have e1 : (fun i : Nat => ((fs.map fun p => (p.1, G.sz p.2)).toArray)[i]?) = fun i : Nat => (fs[i]?).map fun p => (p.1, G.sz p.2) := by
            funext i; simp
          rw [e1]; exact k1
      case h_2 n e hk =>
        split at hpl
        case isFalse => cases hpl
        case isTrue hpos =>
          simp only [Option.some.injEq] at hk hpl
          subst hpl
          rw [hk] at hfit
          simp only [TK.fits] at hfit
          subst hfit
          obtain ⟨j, h1, h2⟩ := G.sz_info hpos
          simp only [hi, hd, hz, h1, h2]
          exact k1
      case h_3 => cases hpl
end
end Go.Av
