/- A part of the proof that a law of the seat holds: ZAv4. -/
import Derived.Test.YtleaogcnndhdgaaAv3
namespace Go.Av
open Go Go.RowKit

/-! ### addresses -/
def advA : List (List AV) → Nat → Option (Nat × Nat)
  | [], _ => none
  | e :: r, j => if j < e.length then some (0, j) else (advA r (j - e.length)).map fun p => (p.1 + 1, p.2)

theorem advA_spec : ∀ {l : List (List AV)} {j d j' : Nat}, advA l j = some (d, j') → presegs l d + j' = j ∧ d ≤ l.length
  | [], _, _, _, h => by simp [advA] at h
  | e :: r, j, d, j', h => by
    unfold advA at h
    split at h
    · simp only [Option.some.injEq, Prod.mk.injEq] at h
      obtain ⟨rfl, rfl⟩ := h
      simp [presegs]
    · rename_i hj
      cases hr : advA r (j - e.length) with
      | none => rw [hr] at h; cases h
      | some p =>
        rw [hr] at h
        simp only [Option.map_some, Option.some.injEq, Prod.mk.injEq] at h
        obtain ⟨rfl, rfl⟩ := h
        obtain ⟨h1, h2⟩ := advA_spec (l := r) (d := p.1) (j' := p.2) hr
        simp only [presegs, List.take_succ_cons, List.map_cons, List.sum_cons, List.length_cons] at h1 ⊢
        omega

theorem presegs_rep {l : List (List AV)} {n k : Nat} (h : (l.take n).map List.length = List.replicate n k) {i : Nat} (hi : i ≤ n) : presegs l i = i * k := by
  have h2 : (l.take i).map List.length = List.replicate i k := by
    have := congrArg (List.take i) h
    rw [← List.map_take, List.take_take, Nat.min_eq_left hi, List.take_replicate, Nat.min_eq_left hi] at this
    exact this
  simp [presegs, h2]

section
variable {P : Program} (G : Sg P)
def Sg.sz (t : TypeId) : Nat := match G.TF t with | some f => f.size | none => 0

theorem Sg.sz_run {t : TypeId} (h : 0 < G.sz t) (w : World) : (sizeOf t).run P w = .ok (G.sz t) w := by
  unfold Sg.sz at h ⊢
  cases hf : G.TF t with
  | none => rw [hf] at h; cases h
  | some f => simp only; exact run_sizeOf (G.ok t f hf) w

/-- x[i]'s address -/
def ixA (t : TypeId) (ob : Nat → Option AObj) (x : AV) (i : AV) : Option AV :=
  match i with
  | .v (.int _ n) =>
    match G.TF t with
    | none => none
    | some f =>
      match f.kind with
      | .slice e =>
        match x with
        | .ro els _ => if 0 ≤ n ∧ n < els.length ∧ (els[n.toNat]?).map List.length = some (G.sz e) ∧ 0 < G.sz e then some (.rp els n.toNat 0) else none
        | .sl nm off len => if 0 ≤ n ∧ n < len ∧ (ob nm).map (·.k) = some (some (G.sz e)) ∧ 0 < G.sz e then some (.ptr nm (off + n.toNat) 0) else none
        | .sv nm s off len => if 0 ≤ n ∧ n < len ∧ G.sz e = 1 then some (.ptr nm s (off + n.toNat)) else none
        | _ => none
      | .array len e =>
        match x with
        | .ptr nm s j =>
          if G.sz e = 1 then (if 0 ≤ n ∧ n < len then some (.ptr nm s (j + n.toNat)) else none)
          else match ob nm with
            | none => none
            | some o => if 0 ≤ n ∧ n < len ∧ j = 0 ∧ ((o.segs.drop s).take len).map List.length = List.replicate len (G.sz e) ∧ 0 < G.sz e then some (.ptr nm (s + n.toNat) 0) else none
        | .rp segs s j =>
          if G.sz e = 1 then (if 0 ≤ n ∧ n < len then some (.rp segs s (j + n.toNat)) else none)
          else if 0 ≤ n ∧ n < len ∧ j = 0 ∧ ((segs.drop s).take len).map List.length = List.replicate len (G.sz e) ∧ 0 < G.sz e then some (.rp segs (s + n.toNat) 0) else none
        | _ => none
      | _ => none
  | _ => none

def fieldOf (t : TypeId) (f : Nat) : Option (Nat × TypeId) :=
  match G.TF t with
  | none => none
  | some x => match x.kind with | .struct fs => fs[f]? | _ => none

/-- x.f's address -/
def faA (t : TypeId) (ob : Nat → Option AObj) (x : AV) (f : Nat) : Option AV :=
  match fieldOf G t f with
  | none => none
  | some (off, ty) =>
    if 0 < G.sz ty then
      match x with
      | .ptr nm s j => (ob nm).bind fun o => (advA (o.segs.drop s) (j + off)).map fun p => .ptr nm (s + p.1) p.2
      | .rp segs s j => (advA (segs.drop s) (j + off)).map fun p => .rp segs (s + p.1) p.2
      | _ => none
    else none

/-- a value's field -/
def fdA (t : TypeId) (x : AV) (f : Nat) : Option AV :=
  match fieldOf G t f with
  | none => none
  | some (off, ty) =>
    match x with
    | .agg segs => (advA segs off).bind fun p => ldA G ty segs p.1 p.2
    | _ => none

/-- a value's element -/
def inA (t : TypeId) (x i : AV) : Option AV :=
  match x, i with
  | .v (.string s), .v (.int _ n) =>
    match G.TF t with
    | some f => (match f.kind with
      | .string => if 0 ≤ n then (s[n.toNat]?).map fun b => .v (.int .u8 b.toNat) else none
      | _ => none)
    | none => none
  | .agg segs, .v (.int _ n) =>
    match G.TF t with
    | none => none
    | some f => match f.kind with
      | .array len e =>
        if G.sz e = 1 then (if 0 ≤ n ∧ n < len ∧ segs.length = 1 then ldA G e segs 0 n.toNat else none)
        else if 0 ≤ n ∧ n < len ∧ segs.map List.length = List.replicate len (G.sz e) ∧ 0 < G.sz e then ldA G e segs n.toNat 0 else none
      | _ => none
  | _, _ => none

theorem ix_sound {c : Ctx} {ob : Nat → Option AObj} (hob : ∀ nm o, ob nm = some o → objOK c nm o) {t : TypeId} {x i av : AV} {vx vi : Value} (hx : sat c x vx) (hi : sat c i vi) (h : ixA G t ob x i = some av) :
    ∃ y, sat c av y ∧ ∀ w', (Instr.indexAt t vx vi).run P w' = .ok y w' := by
  unfold ixA at h
  split at h
  case h_2 => cases h
  case h_1 k n =>
    simp only [sat] at hi
    obtain ⟨rfl, _⟩ := hi
    cases hf : G.TF t with
    | none => rw [hf] at h; cases h
    | some f =>
      have hok := G.ok t f hf
      rw [hf] at h
      simp only at h
      obtain ⟨d, hd, hfit⟩ := hok.und
      split at h
      case h_1 e he =>
        rw [he] at hfit
        simp only [TK.fits] at hfit
        subst hfit
        split at h
        case h_1 els full =>
          split at h
          case isFalse => cases h
          case isTrue hc =>
            obtain ⟨h0, h1, h2, h3⟩ := hc
            simp only [Option.some.injEq] at h
            subst h
            simp only [sat] at hx
            obtain ⟨a, cap, rfl, g1, g2, g3, g4⟩ := hx
            rcases g4 with g4 | ⟨b, off, k', rfl, g5, g6, g7, g8⟩
            · rw [g4] at h1; simp at h1; omega
            · have hlt : n.toNat < els.length := by omega
              have hk : k' = G.sz e := by
                rw [List.getElem?_eq_getElem hlt] at h2
                simp only [Option.map_some, Option.some.injEq] at h2
                rw [← h2]; exact (g7 _ (List.getElem_mem hlt)).symm
              refine ⟨.pointer (some ⟨b, off + presegs els n.toNat + 0, none⟩), by simp only [sat]; exact ⟨b, off, rfl, g5, g6, g8⟩, fun w' => ?_⟩
              rw [presegs_uni g7 (Nat.le_of_lt hlt), hk]
              simp [Instr.indexAt, run_underlying hd, asIntOf, h0, h1, G.sz_run h3, add_plain]
        case h_2 nm off len =>
          split at h
          case isFalse => cases h
          case isTrue hc =>
            obtain ⟨h0, h1, h2, h3⟩ := hc
            simp only [Option.some.injEq] at h
            subst h
            simp only [sat] at hx
            rcases hx with ⟨h4, _⟩ | ⟨b, k', cap, cur, ty, fr, hb, hL, rfl, hlc, hcell, hsz, hm⟩
            · omega
            · cases ho : ob nm with
              | none => rw [ho] at h2; cases h2
              | some o =>
                rw [ho] at h2
                simp only [Option.map_some, Option.some.injEq] at h2
                have hk : k' = G.sz e := by
                  rcases hob nm o ho with ⟨hn, _⟩ | ⟨_, _, _, _, _, _, _, ⟨k2, _, e1, e2, _⟩ | ⟨e1, _⟩⟩
                  · rw [hb] at hn; cases hn
                  · rw [h2] at e1; rw [hL] at e2; simp only [Option.some.injEq, Lay.uni.injEq] at e1 e2; omega
                  · rw [h2] at e1; cases e1
                refine ⟨.pointer (some ⟨b, (off + n.toNat) * k' + 0, none⟩), by simp only [sat]; exact ⟨b, hb, by rw [hL]; rfl⟩, fun w' => ?_⟩
                subst hk
                simp [Instr.indexAt, run_underlying hd, asIntOf, h0, h1, G.sz_run h3, add_plain, Nat.add_mul]
        case h_3 nm s off len =>
          split at h
          case isFalse => cases h
          case isTrue hc =>
            obtain ⟨h0, h1, h3⟩ := hc
            simp only [Option.some.injEq] at h
            subst h
            simp only [sat] at hx
            obtain ⟨b, cap, hb, rfl, hlc⟩ := hx
            refine ⟨.pointer (some ⟨b, (c.L nm).pre s + (off + n.toNat), none⟩), by simp only [sat]; exact ⟨b, hb, rfl⟩, fun w' => ?_⟩
            simp [Instr.indexAt, run_underlying hd, asIntOf, h0, h1, G.sz_run (show 0 < G.sz e by omega), h3, add_plain]
        case h_4 => cases h
      case h_2 len e he =>
        rw [he] at hfit
        simp only [TK.fits] at hfit
        subst hfit
        split at h
        case h_1 nm s j =>
          simp only [sat] at hx
          obtain ⟨b, hb, rfl⟩ := hx
          split at h
          case isTrue h1 =>
            split at h
            case isFalse => cases h
            case isTrue hc =>
              obtain ⟨h0, h2⟩ := hc
              simp only [Option.some.injEq] at h
              subst h
              refine ⟨.pointer (some ⟨b, (c.L nm).pre s + (j + n.toNat), none⟩), by simp only [sat]; exact ⟨b, hb, rfl⟩, fun w' => ?_⟩
              simp [Instr.indexAt, run_underlying hd, asIntOf, Instr.sureAddr, h0, h2, G.sz_run (show 0 < G.sz e by omega), h1, add_plain]
          case isFalse h1 =>
            split at h
            case h_1 => cases h
            case h_2 o ho =>
              split at h
              case isFalse => cases h
              case isTrue hc =>
                obtain ⟨h0, h2, rfl, h4, h5⟩ := hc
                simp only [Option.some.injEq] at h
                subst h
                have hp := presegs_rep h4 (i := n.toNat) (by omega)
                have hl : s + n.toNat ≤ o.segs.length := by
                  have := congrArg List.length h4
                  simp at this
                  omega
                have e1 := (hob nm o ho).pre (s := s) (by omega)
                have e2 := (hob nm o ho).pre (s := s + n.toNat) hl
                rw [presegs_add, hp, ← e1] at e2
                refine ⟨.pointer (some ⟨b, (c.L nm).pre (s + n.toNat) + 0, none⟩), by simp only [sat]; exact ⟨b, hb, rfl⟩, fun w' => ?_⟩
                simp [Instr.indexAt, run_underlying hd, asIntOf, Instr.sureAddr, h0, h2, G.sz_run h5, add_plain, e2]
        case h_2 segs s j =>
          simp only [sat] at hx
          obtain ⟨b, off, rfl, g1, g2, g3⟩ := hx
          split at h
          case isTrue h1 =>
            split at h
            case isFalse => cases h
            case isTrue hc =>
              obtain ⟨h0, h2⟩ := hc
              simp only [Option.some.injEq] at h
              subst h
              refine ⟨.pointer (some ⟨b, off + presegs segs s + (j + n.toNat), none⟩), by simp only [sat]; exact ⟨b, off, rfl, g1, g2, g3⟩, fun w' => ?_⟩
              simp [Instr.indexAt, run_underlying hd, asIntOf, Instr.sureAddr, h0, h2, G.sz_run (show 0 < G.sz e by omega), h1, add_plain]
          case isFalse h1 =>
            split at h
            case isFalse => cases h
            case isTrue hc =>
              obtain ⟨h0, h2, rfl, h4, h5⟩ := hc
              simp only [Option.some.injEq] at h
              subst h
              have hp := presegs_rep h4 (i := n.toNat) (by omega)
              refine ⟨.pointer (some ⟨b, off + presegs segs (s + n.toNat) + 0, none⟩), by simp only [sat]; exact ⟨b, off, rfl, g1, g2, g3⟩, fun w' => ?_⟩
              simp [Instr.indexAt, run_underlying hd, asIntOf, Instr.sureAddr, h0, h2, G.sz_run h5, add_plain, presegs_add, hp, Nat.add_assoc]
        case h_3 => cases h
      case h_3 => cases h

theorem fieldOf_spec {t : TypeId} {f off : Nat} {ty : TypeId} (h : fieldOf G t f = some (off, ty)) :
    ∃ (F : Array Field) (x : Field), P.underlying t = some (.struct F) ∧ F[f]? = some x ∧ x.offset = off ∧ x.type = ty := by
  unfold fieldOf at h
  cases hf : G.TF t with
  | none => rw [hf] at h; cases h
  | some g =>
    rw [hf] at h
    simp only at h
    obtain ⟨d, hd, hfit⟩ := (G.ok t g hf).und
    split at h
    case h_1 fs hk =>
      rw [hk] at hfit
      simp only [TK.fits] at hfit
      obtain ⟨F, rfl, hF⟩ := hfit
      rw [← hF, List.getElem?_map] at h
      cases hx : F.toList[f]? with
      | none => rw [hx] at h; cases h
      | some x =>
        rw [hx] at h
        simp only [Option.map_some, Option.some.injEq, Prod.mk.injEq] at h
        exact ⟨F, x, hd, by simpa using hx, h.1, h.2⟩
    case h_2 => cases h

theorem fa_sound {c : Ctx} {ob : Nat → Option AObj} (hob : ∀ nm o, ob nm = some o → objOK c nm o) {t : TypeId} {x av : AV} {f : Nat} {vx : Value} (hx : sat c x vx) (h : faA G t ob x f = some av) :
    ∃ y, sat c av y ∧ ∀ w', (Instr.fieldAt t vx f).run P w' = .ok y w' := by
  unfold faA at h
  split at h
  case h_1 => cases h
  case h_2 off ty hfo =>
    obtain ⟨F, fl, hu, hF, rfl, rfl⟩ := fieldOf_spec G hfo
    split at h
    case isFalse => cases h
    case isTrue hs =>
      have hne : G.sz fl.type ≠ 0 := by omega
      split at h
      case h_1 nm s j =>
        simp only [sat] at hx
        obtain ⟨b, hb, rfl⟩ := hx
        cases ho : ob nm with
        | none => rw [ho] at h; cases h
        | some o =>
          rw [ho] at h
          simp only [Option.bind_some] at h
          cases ha : advA (o.segs.drop s) (j + fl.offset) with
          | none => rw [ha] at h; cases h
          | some p =>
            rw [ha] at h
            simp only [Option.map_some, Option.some.injEq] at h
            subst h
            obtain ⟨h1, h2⟩ := advA_spec (d := p.1) (j' := p.2) ha
            have hle : s + p.1 ≤ o.segs.length ∨ o.segs.length < s := by simp at h2; omega
            rcases hle with hle | hle
            · have e1 := (hob nm o ho).pre (s := s) (by omega)
              have e2 := (hob nm o ho).pre (s := s + p.1) hle
              rw [presegs_add, ← e1] at e2
              refine ⟨.pointer (some ⟨b, (c.L nm).pre (s + p.1) + p.2, none⟩), by simp only [sat]; exact ⟨b, hb, rfl⟩, fun w' => ?_⟩
              simp [Instr.fieldAt, run_underlying hu, hF, Instr.sureAddr, fieldPlace, G.sz_run hs, hne, add_plain, e2]
            · rw [List.drop_eq_nil_of_le (by omega)] at ha
              simp [advA] at ha
      case h_2 segs s j =>
        simp only [sat] at hx
        obtain ⟨b, off, rfl, g1, g2, g3⟩ := hx
        cases ha : advA (segs.drop s) (j + fl.offset) with
        | none => rw [ha] at h; cases h
        | some p =>
          rw [ha] at h
          simp only [Option.map_some, Option.some.injEq] at h
          subst h
          obtain ⟨h1, h2⟩ := advA_spec (d := p.1) (j' := p.2) ha
          refine ⟨.pointer (some ⟨b, off + presegs segs (s + p.1) + p.2, none⟩), by simp only [sat]; exact ⟨b, off, rfl, g1, g2, g3⟩, fun w' => ?_⟩
          simp [Instr.fieldAt, run_underlying hu, hF, Instr.sureAddr, fieldPlace, G.sz_run hs, hne, add_plain, presegs_add]
      case h_3 => cases h

theorem fd_sound {c : Ctx} {t : TypeId} {x av : AV} {f : Nat} {vx : Value} (hx : sat c x vx) (h : fdA G t x f = some av) :
    ∃ y, sat c av y ∧ ∀ w', (Instr.field t vx f).run P w' = .ok y w' := by
  unfold fdA at h
  split at h
  case h_1 => cases h
  case h_2 off ty hfo =>
    obtain ⟨F, fl, hu, hF, rfl, rfl⟩ := fieldOf_spec G hfo
    split at h
    case h_2 => cases h
    case h_1 segs =>
      simp only [sat] at hx
      obtain ⟨vs, rfl, hv⟩ := hx
      cases ha : advA segs fl.offset with
      | none => rw [ha] at h; cases h
      | some p =>
        rw [ha] at h
        simp only [Option.bind_some] at h
        obtain ⟨h1, h2⟩ := advA_spec (d := p.1) (j' := p.2) ha
        obtain ⟨y, hy, hr⟩ := part_sound G hv h
        rw [h1] at hr
        refine ⟨y, hy, fun w' => ?_⟩
        simp [Instr.field, run_underlying hu, hF, asAgg, hr w']

theorem in_sound {c : Ctx} {t : TypeId} {x i av : AV} {vx vi : Value} (hx : sat c x vx) (hi : sat c i vi) (h : inA G t x i = some av) :
    ∃ y, sat c av y ∧ ∀ w', (Instr.index t vx vi).run P w' = .ok y w' := by
  unfold inA at h
  split at h
  case h_1 s k n =>
    simp only [sat] at hx hi
    obtain ⟨rfl, _⟩ := hx
    obtain ⟨rfl, _⟩ := hi
    split at h
    case h_2 => cases h
    case h_1 f hf =>
      obtain ⟨d, hd, hfit⟩ := (G.ok t f hf).und
      split at h
      case h_2 => cases h
      case h_1 hk =>
        rw [hk] at hfit
        simp only [TK.fits] at hfit
        subst hfit
        split at h
        case isFalse => cases h
        case isTrue h0 =>
          cases hb : s[n.toNat]? with
          | none => rw [hb] at h; cases h
          | some b =>
            rw [hb] at h
            simp only [Option.map_some, Option.some.injEq] at h
            subst h
            refine ⟨.int .u8 b.toNat, by simp only [sat, true_and]; rfl, fun w' => ?_⟩
            simp [Instr.index, run_underlying hd, asIntOf, h0, hb]
  case h_2 segs k n =>
    simp only [sat] at hx hi
    obtain ⟨vs, rfl, hv⟩ := hx
    obtain ⟨rfl, _⟩ := hi
    split at h
    case h_1 => cases h
    case h_2 f hf =>
      obtain ⟨d, hd, hfit⟩ := (G.ok t f hf).und
      split at h
      case h_2 => cases h
      case h_1 len e hk =>
        rw [hk] at hfit
        simp only [TK.fits] at hfit
        subst hfit
        split at h
        case isTrue h1 =>
          split at h
          case isFalse => cases h
          case isTrue hc =>
            obtain ⟨h0, h2, h3⟩ := hc
            obtain ⟨y, hy, hr⟩ := part_sound G hv h
            refine ⟨y, hy, fun w' => ?_⟩
            have := hr w'
            simp only [presegs, List.take_zero, List.map_nil, List.sum_nil, Nat.zero_add] at this
            simp [Instr.index, run_underlying hd, asIntOf, h0, h2, G.sz_run (show 0 < G.sz e by omega), h1, this]
        case isFalse h1 =>
          split at h
          case isFalse => cases h
          case isTrue hc =>
            obtain ⟨h0, h2, h3, h4⟩ := hc
            obtain ⟨y, hy, hr⟩ := part_sound G hv h
            refine ⟨y, hy, fun w' => ?_⟩
            have := hr w'
            have hl : segs.length = len := by have := congrArg List.length h3; simpa using this
            rw [presegs_rep (n := len) (k := G.sz e) (by rw [List.take_of_length_le (by omega)]; exact h3) (by omega), Nat.add_zero] at this
            simp [Instr.index, run_underlying hd, asIntOf, h0, h2, G.sz_run h4, this]
  case h_3 => cases h
end
end Go.Av
