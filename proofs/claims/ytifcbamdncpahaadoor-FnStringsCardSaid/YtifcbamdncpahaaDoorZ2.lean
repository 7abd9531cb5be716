/- How a typed evaluator tells the code of a function: definitions and soundness, part 2. -/
import Derived.Test.YtifcbamdncpahaaDoorZ1
set_option linter.unusedVariables false
set_option linter.unusedSimpArgs false
namespace Go.Tv
open Go Go.RowKit
theorem agg_len {c : Ctx} {v : TV} {vs : List Value} (ha : aggT v = true) (h : satC c v vs) : vs.length = sizeT v := by
  cases v with
  | val s t x => simp only [satC] at h; exact VS_len h
  | pr a b =>
    simp only [satC] at h
    obtain ⟨u, r, rfl, h1, h2, _⟩ := h
    rw [List.length_append, h1, h2]; rfl
  | _ => cases ha
theorem agg_tup {v : TV} (ha : aggT v = true) : isTup v = false := by cases v <;> first | rfl | cases ha
theorem getP_flag : ∀ {p : List Step} {s s2 : Bool} {t t2 : Ty} {x : t.den} {x2 : t2.den}, getP p (.val s t x) = some (.val s2 t2 x2) → (s = true → s2 = true)
  | [], s, s2, t, t2, x, x2, h, hs => by
    simp only [getP, Option.some.injEq] at h
    injection h with h1; rw [← h1]; exact hs
  | .fst :: p, s, s2, t, t2, x, x2, h, hs => by
    simp only [getP] at h
    split at h
    case h_2 => cases h
    case h_1 a ha =>
      cases t with
      | pair ta tb =>
        simp only [fstT, Option.some.injEq, mkv] at ha
        subst ha
        exact getP_flag h (by rw [hs]; rfl)
      | _ => simp [fstT] at ha
  | .snd k :: p, s, s2, t, t2, x, x2, h, hs => by
    simp only [getP] at h
    split at h
    case h_2 => cases h
    case h_1 a b ha hb =>
      split at h
      case h_2 => cases h
      case h_1 =>
        cases t with
        | pair ta tb =>
          simp only [sndT, Option.some.injEq, mkv] at hb
          subst hb
          exact getP_flag h (by rw [hs]; rfl)
        | _ => simp [fstT] at ha
  | .idx i k b :: p, s, s2, t, t2, x, x2, h, hs => by
    simp only [getP] at h
    split at h
    case h_2 => cases h
    case h_1 s' n e x' n' heq =>
      split at h
      case h_2 => cases h
      case h_1 =>
        cases heq
        exact getP_flag h (by rw [hs]; rfl)
section
variable {P : Program} {G : Tab} (hG : TabOK P G) {c : Ctx} {ob : Nat → Option TObj} (hob : ∀ nm o, ob nm = some o → objOK c nm o)
theorem fldT_spec {t : TypeId} {y : TyE} {f : Nat} {p : List Step} {u : Ty} (ht : tyB P t y = true) (h : fldT y f = some (p, u)) :
    ∃ (F : Array Field) (g : Field), P.underlying t = some (.struct F) ∧ F[f]? = some g ∧ g.offset = offS p ∧ Inf P g.type u ∧ ∀ len, PathOK len p := by
  unfold fldT at h
  split at h
  case h_2 => cases h
  case h_1 hp =>
    cases hy : y.t with
    | pair a b => obtain ⟨F, hF, _⟩ := tyB_pair ht hy; exact tyB_fld ht h ⟨F, hF⟩
    | _ => rw [hy] at hp; cases hp
include hG in
theorem fa_sound {t : TypeId} {x v : TV} {f : Nat} {vx : Value} (hx : sat c x vx) (h : faT G t x f = some (true, v)) : ∃ u, sat c v u ∧ ∀ w', (Instr.fieldAt t vx f).run P w' = .ok u w' := by
  unfold faT at h
  split at h
  case h_2 => cases h
  case h_1 y hy =>
    split at h
    case h_2 => cases h
    case h_1 p u hf =>
      obtain ⟨F, g, hu, hF, ho, hi, hp⟩ := fldT_spec (hG.ty hy) hf
      have hne : u.size ≠ 0 := Nat.ne_of_gt hi.pos
      split at h
      case h_1 hx nm q =>
        simp only [Option.some.injEq, Prod.mk.injEq] at h
        obtain ⟨_, rfl⟩ := h
        obtain ⟨b, k, ln, h1, rfl, h2, h3⟩ := sat_ptr.1 hx
        refine ⟨.pointer (some ⟨b, offS q + offS p, none⟩), sat_ptr.2 ⟨b, k, ln, h1, by rw [offS_app], h2, PathOK_app.2 ⟨h3, hp _⟩⟩, fun w' => ?_⟩
        simp [Instr.fieldAt, run_underlying hu, hF, Instr.sureAddr, fieldPlace, hi.size, hne, add_plain, ho]
      case h_2 hx s t' x' =>
        split at h
        case h_2 => cases h
        case h_1 s2 t2 x2 hg =>
          simp only [Option.some.injEq, Prod.mk.injEq] at h
          obtain ⟨_, rfl⟩ := h
          obtain ⟨b, off, us, rfl, h1, h2, h3⟩ := sat_rptr.1 hx
          obtain ⟨k1, k2⟩ := getP_sound (len := 0) hg (by simp only [satC]; exact h2) (VS_len h2) (hp _)
          simp only [satC] at k1
          refine ⟨.pointer (some ⟨b, off + offS p, none⟩), sat_rptr.2 ⟨b, off + offS p, _, rfl, h1, VS_weak (getP_flag hg) k1, h3.sub _ _⟩, fun w' => ?_⟩
          simp [Instr.fieldAt, run_underlying hu, hF, Instr.sureAddr, fieldPlace, hi.size, hne, add_plain, ho]
      case h_3 => cases h
def partV (ag : Bool) (vs : List Value) (off n : Nat) : Value := match ag with
  | true => .agg ((vs.drop off).take n).toArray
  | false => vs.getD off undef
theorem part_run {t : TypeId} {ty : Ty} (hi : Inf P t ty) {v : TV} {vs : List Value} {off : Nat} (hf : fitB ty v = true) (hs : satC c v ((vs.drop off).take (sizeT v))) (hle : off + sizeT v ≤ vs.length) :
    sat c v (partV ty.agg vs off ty.size) ∧ ∀ w, (part t vs.toArray off).run P w = .ok (partV ty.agg vs off ty.size) w := by
  obtain ⟨f1, f2⟩ := fitB_spec hf
  have hpos : 0 < sizeT v := by rw [f1]; exact hi.pos
  have hof := sat_ofC hpos hs
  rw [f2] at hof
  rw [f1] at hs hle hof
  cases ha : ty.agg with
  | true =>
    rw [ha] at hof
    exact ⟨hof, fun w => by simp [part, Sem.run_bind, hi.agg, ha, hi.size, List.extract_toArray, List.extract_eq_take_drop, partV]⟩
  | false =>
    rw [ha] at hof
    have hlt : off < vs.length := by have := hi.pos; omega
    have e1 : ((vs.drop off).take ty.size).getD 0 undef = vs.getD off undef := by
      rw [List.getD_eq_getElem?_getD, List.getD_eq_getElem?_getD, List.getElem?_take, if_pos hi.pos, List.getElem?_drop, Nat.add_zero]
    rw [e1] at hof
    refine ⟨hof, fun w => ?_⟩
    have h0 : vs[off]? = some (vs.getD off undef) := by
      rw [List.getD_eq_getElem?_getD, List.getElem?_eq_getElem hlt]; rfl
    simp only [part, Sem.run_bind, hi.agg, ha, Result.andThen_ok, Bool.false_eq_true, if_false, List.getElem?_toArray, h0, Sem.run_pure, partV]
include hG in
theorem fd_sound {t : TypeId} {x v : TV} {f : Nat} {vx : Value} (hx : sat c x vx) (h : fdT G t x f = some (true, v)) : ∃ u, sat c v u ∧ ∀ w', (Instr.field t vx f).run P w' = .ok u w' := by
  unfold fdT at h
  split at h
  case h_2 => cases h
  case h_1 y hy =>
    split at h
    case h_2 => cases h
    case h_1 p u hf =>
      split at h
      case h_2 => cases h
      case h_1 ha =>
        split at h
        case h_2 => cases h
        case h_1 v' hg =>
          split at h
          case h_2 => cases h
          case h_1 hfit =>
            simp only [Option.some.injEq, Prod.mk.injEq] at h
            obtain ⟨_, rfl⟩ := h
            obtain ⟨F, g, hu, hF, ho, hi, hp⟩ := fldT_spec (hG.ty hy) hf
            obtain ⟨vs, rfl, hs⟩ := (sat_agg (agg_tup ha) ha).1 hx
            obtain ⟨k1, k2⟩ := getP_sound (len := 0) hg hs (agg_len ha hs) (hp _)
            obtain ⟨r1, r2⟩ := part_run hi hfit k1 k2
            refine ⟨_, r1, fun w' => ?_⟩
            have := r2 w'
            rw [← ho] at this ⊢
            simp [Instr.field, run_underlying hu, hF, asAgg, this]
theorem inb_spec {n : Int} {l : Nat} (h : inb n l = true) : 0 ≤ n ∧ n < l ∧ n.toNat < l := by
  simp only [inb, decide_eq_true_eq] at h
  exact ⟨h.1, h.2, by omega⟩
theorem ints_spec {i : TV} {k : IntKind} {n : (Ty.int k).den} {vi : Value} (hi : sat c i vi) (hn : ints i = some ⟨k, n⟩) : vi = .int k n := by
  unfold ints at hn
  split at hn
  case h_2 => cases hn
  case h_1 =>
    simp only [Option.some.injEq] at hn
    cases hn
    rename_i hi
    exact sat_int.1 hi
theorem bnd_len {n : Int} {e : Ty} {l : (Ty.sl e).den} (h : inb n (List.length l) = true) : ¬ (l : List e.den) = [] := by
  intro hl
  have := (inb_spec h).2.2
  rw [hl] at this; simp at this
include hG hob in
theorem ix_sound {t : TypeId} {x i v : TV} {vx vi : Value} (hx : sat c x vx) (hi : sat c i vi) (h : ixT G t ob x i = some (true, v)) :
    ∃ y, sat c v y ∧ ∀ w', (Instr.indexAt t vx vi).run P w' = .ok y w' := by
  unfold ixT at h
  split at h
  case h_3 => cases h
  case h_1 k z e hn ht =>
    have := ints_spec hi hn
    subst this
    change Int at z
    obtain ⟨y, hy, hyt⟩ := tyOf_look ht
    obtain ⟨hu, hie, _⟩ := tyB_sl (hG.ty hy) hyt
    split at h
    case h_1 hx nm =>
      split at h
      case h_2 => cases h
      case h_1 ty' s' e' l ho =>
        split at h
        case h_2 => cases h
        case h_1 hsz =>
          have hsz := Nat.eq_of_beq_eq_true hsz
          simp only [Option.some.injEq, Prod.mk.injEq] at h
          obtain ⟨hin, rfl⟩ := h
          obtain ⟨h0, h1, h2⟩ := inb_spec hin
          obtain ⟨k', ln, hL, hown⟩ := sat_own.1 hx
          obtain ⟨hL', hobj⟩ := hob nm _ ho
          rw [hL] at hL'
          simp only [Option.some.injEq, Prod.mk.injEq] at hL'
          obtain ⟨rfl, rfl⟩ := hL'
          rcases hown with ⟨h3, _⟩ | ⟨b, k2, ln2, cap, cur, ty2, fr, hb, hL2, rfl, _⟩
          · exfalso; change Int.toNat z < List.length l at h2; omega
          · rw [hL] at hL2
            simp only [Option.some.injEq, Prod.mk.injEq] at hL2
            obtain ⟨rfl, rfl⟩ := hL2
            refine ⟨.pointer (some ⟨b, offS [.idx (toN (k := k) z) e.size none], none⟩), sat_ptr.2 ⟨b, _, _, hb, rfl, hL, ⟨h2, trivial⟩⟩, fun w' => ?_⟩
            have h1' : z < (List.length l : Int) := h1
            simp [Instr.indexAt, run_underlying hu, asIntOf, h0, h1', hie.size, add_plain, offS, hsz, toN]
    case h_2 hx nm off len =>
      split at h
      case h_2 => cases h
      case h_1 ty' s' e' l ho =>
        split at h
        case h_2 => cases h
        case h_1 hsz =>
          have hsz := Nat.eq_of_beq_eq_true hsz
          simp only [Option.some.injEq, Prod.mk.injEq] at h
          obtain ⟨hin, rfl⟩ := h
          have hin : cand (inb z len) (nlt (off + z.toNat) (List.length l)) = true := hin
          have hin1 : inb z len = true := by cases hb : inb z len <;> simp_all [cand]
          have hin2 : off + z.toNat < List.length l := by simpa [hin1, cand, nlt] using hin
          obtain ⟨h0, h1, h2⟩ := inb_spec hin1
          obtain ⟨hL', hobj⟩ := hob nm _ ho
          rcases sat_ownp.1 hx with ⟨h3, _⟩ | ⟨b, k2, ln2, cap, cur, ty2, fr, hb, hL2, rfl, _⟩
          · exfalso; omega
          · rw [hL'] at hL2
            simp only [Option.some.injEq, Prod.mk.injEq] at hL2
            obtain ⟨rfl, rfl⟩ := hL2
            refine ⟨.pointer (some ⟨b, offS [.idx (off + z.toNat) e.size none], none⟩), sat_ptr.2 ⟨b, _, _, hb, rfl, hL', ⟨hin2, trivial⟩⟩, fun w' => ?_⟩
            simp [Instr.indexAt, run_underlying hu, asIntOf, h0, h1, hie.size, add_plain, offS, hsz, Nat.add_mul]
    case h_3 hx s e' l =>
      split at h
      case h_2 => cases h
      case h_1 hsz =>
        have hsz := Nat.eq_of_beq_eq_true hsz
        simp only [Option.some.injEq, Prod.mk.injEq] at h
        obtain ⟨hin, rfl⟩ := h
        have hin : inb z (List.length l) = true := hin
        obtain ⟨h0, h1, h2⟩ := inb_spec hin
        obtain ⟨a, cap, rfl, _, _, hm⟩ := sat_sl.1 hx
        rcases hm with hm | ⟨b, off, us, rfl, g1, g2, g3⟩
        · exact absurd hm (bnd_len hin)
        · have hr := rowsS_get (k := e'.size) (fun _ _ => VS_len) g2 (gl_get e'.zero (α := e'.den) l z.toNat h2)
          refine ⟨.pointer (some ⟨b, off + z.toNat * e'.size, none⟩), sat_rptr.2 ⟨b, _, _, rfl, g1, hr.1, g3.sub _ _⟩, fun w' => ?_⟩
          simp [Instr.indexAt, run_underlying hu, asIntOf, h0, h1, hie.size, add_plain, hsz]
    case h_4 hx s e' l =>
      split at h
      case h_2 => cases h
      case h_1 hsz =>
        have hsz := Nat.eq_of_beq_eq_true hsz
        simp only [Option.some.injEq, Prod.mk.injEq] at h
        obtain ⟨hin, rfl⟩ := h
        have hin : inb z (List.length l) = true := hin
        obtain ⟨h0, h1, h2⟩ := inb_spec hin
        obtain ⟨a, rfl, _, hm⟩ := sat_fl.1 hx
        rcases hm with hm | ⟨b, off, us, rfl, g1, g2, g3⟩
        · exact absurd hm (bnd_len hin)
        · have hr := rowsS_get (k := e'.size) (fun _ _ => VS_len) g2 (gl_get e'.zero (α := e'.den) l z.toNat h2)
          refine ⟨.pointer (some ⟨b, off + z.toNat * e'.size, none⟩), sat_rptr.2 ⟨b, _, _, rfl, g1, hr.1, g3.sub _ _⟩, fun w' => ?_⟩
          simp [Instr.indexAt, run_underlying hu, asIntOf, h0, h1, hie.size, add_plain, hsz]
    case h_5 hx nm p e' len =>
      simp only [Option.some.injEq, Prod.mk.injEq] at h
      obtain ⟨hin, rfl⟩ := h
      have hin : inb z len = true := hin
      obtain ⟨h0, h1, h2⟩ := inb_spec hin
      obtain ⟨b, k', ln, cap, g1, rfl, g2, _, g3, g4⟩ := sat_sv.1 hx
      refine ⟨.pointer (some ⟨b, offS (p ++ [.idx (toN (k := k) z) e.size (some len)]), none⟩), sat_ptr.2 ⟨b, _, _, g1, rfl, g3, PathOK_app.2 ⟨g4, h2, trivial⟩⟩, fun w' => ?_⟩
      simp [Instr.indexAt, run_underlying hu, asIntOf, h0, h1, hie.size, add_plain, offS_app, offS, toN]
    case h_6 => cases h
  case h_2 k z len e hn ht =>
    have := ints_spec hi hn
    subst this
    change Int at z
    obtain ⟨y, hy, hyt⟩ := tyOf_look ht
    obtain ⟨el, hu, hie⟩ := tyB_arr (hG.ty hy) hyt
    split at h
    case h_1 hx nm p =>
      simp only [Option.some.injEq, Prod.mk.injEq] at h
      obtain ⟨hin, rfl⟩ := h
      have hin : inb z len = true := hin
      obtain ⟨h0, h1, h2⟩ := inb_spec hin
      obtain ⟨b, k', ln, g1, rfl, g3, g4⟩ := sat_ptr.1 hx
      refine ⟨.pointer (some ⟨b, offS (p ++ [.idx (toN (k := k) z) e.size (some len)]), none⟩), sat_ptr.2 ⟨b, _, _, g1, rfl, g3, PathOK_app.2 ⟨g4, h2, trivial⟩⟩, fun w' => ?_⟩
      simp [Instr.indexAt, run_underlying hu, asIntOf, Instr.sureAddr, h0, h1, hie.size, add_plain, offS_app, offS, toN]
    case h_2 hx s n' e' a =>
      split at h
      case h_2 => cases h
      case h_1 hsz hnn =>
        have hsz := Nat.eq_of_beq_eq_true hsz
        have hnn := Nat.eq_of_beq_eq_true hnn
        subst hnn
        simp only [Option.some.injEq, Prod.mk.injEq] at h
        obtain ⟨hin, rfl⟩ := h
        have hin : inb z n' = true := hin
        obtain ⟨h0, h1, h2⟩ := inb_spec hin
        obtain ⟨b, off, us, rfl, g1, g2, g3⟩ := sat_rptr.1 hx
        simp only [VS] at g2
        have hr := rowsS_get (k := e'.size) (fun _ _ => VS_len) g2 (Arr.get_els e'.zero (α := e'.den) a h2)
        refine ⟨.pointer (some ⟨b, off + z.toNat * e'.size, none⟩), sat_rptr.2 ⟨b, _, _, rfl, g1, hr.1, g3.sub _ _⟩, fun w' => ?_⟩
        simp [Instr.indexAt, run_underlying hu, asIntOf, Instr.sureAddr, h0, h1, hie.size, add_plain, hsz]
    case h_3 => cases h
include hG in
theorem in_sound {t : TypeId} {x i v : TV} {vx vi : Value} (hx : sat c x vx) (hi : sat c i vi) (h : inT G t x i = some (true, v)) :
    ∃ y, sat c v y ∧ ∀ w', (Instr.index t vx vi).run P w' = .ok y w' := by
  unfold inT at h
  split at h
  case h_3 => cases h
  case h_1 hx k z s' S hn ht =>
    have := ints_spec hi hn
    subst this
    change Int at z
    obtain ⟨y, hy, hyt⟩ := tyOf_look ht
    have hu := tyB_str (hG.ty hy) hyt
    have := sat_str.1 hx
    subst this
    simp only [Option.some.injEq, Prod.mk.injEq] at h
    obtain ⟨hin, rfl⟩ := h
    have hin : inb z (ByteArray.size S) = true := hin
    obtain ⟨h0, h1, h2⟩ := inb_spec hin
    change ByteArray at S
    have h3 : S[z.toNat]? = some S[z.toNat] := getElem?_pos S z.toNat h2
    refine ⟨.int .u8 (sb S z.toNat), sat_int.2 rfl, fun w' => ?_⟩
    simp [Instr.index, run_underlying hu, asIntOf, h0, h3, sb]
  case h_2 hx k z len e s n' e' a hn ht =>
    have := ints_spec hi hn
    subst this
    change Int at z
    obtain ⟨y, hy, hyt⟩ := tyOf_look ht
    obtain ⟨el, hu, hie⟩ := tyB_arr (hG.ty hy) hyt
    split at h
    case h_2 => cases h
    case h_1 hsz hnn =>
      simp only [Bool.and_eq_true] at hsz
      have hag := beqB_eq hsz.2
      have hsz := Nat.eq_of_beq_eq_true hsz.1
      have hnn := Nat.eq_of_beq_eq_true hnn
      subst hnn
      simp only [Option.some.injEq, Prod.mk.injEq] at h
      obtain ⟨hin, rfl⟩ := h
      have hin : inb z n' = true := hin
      obtain ⟨h0, h1, h2⟩ := inb_spec hin
      obtain ⟨vs, rfl, hs⟩ := (sat_agg rfl rfl).1 hx
      simp only [satC, VS] at hs
      have hr := rowsS_get (k := e'.size) (fun _ _ => VS_len) hs (Arr.get_els e'.zero (α := e'.den) a h2)
      have hfit : fitB e (mkv s e' (agetD n' e' a z.toNat)) = true := by
        have q1 : Nat.beq (sizeT (mkv s e' (agetD n' e' a z.toNat))) e.size = true := by rw [sizeT_mkv, hsz]; exact Nat.beq_refl _
        have q2 : beqB (aggT (mkv s e' (agetD n' e' a z.toNat))) e.agg = true := by
          show beqB e'.agg e.agg = true
          rw [hag]; cases e.agg <;> rfl
        unfold fitB; rw [q1, q2]; rfl
      obtain ⟨r1, r2⟩ := part_run (off := z.toNat * e'.size) hie hfit (satC_mkv hr.1) hr.2
      refine ⟨_, r1, fun w' => ?_⟩
      have := r2 w'
      rw [hsz] at this ⊢
      simp [Instr.index, run_underlying hu, asIntOf, h0, h1, hie.size, this]
end
end Go.Tv
namespace Go.Tv
open Go Go.RowKit
theorem cast_dv {d : DV} {t : Ty} {x : t.den} (h : cast? d.t t d.x = some x) : d = ⟨t, x⟩ := castT_eq h
section
variable {c : Ctx} {ob : Nat → Option TObj} (hob : ∀ nm o, ob nm = some o → objOK c nm o)
def elsM (c : Ctx) (s : Bool) (e : Ty) (l : List e.den) (y : Value) : Prop :=
  ∃ a cap, y = .slice a l.length cap ∧ l.length ≤ cap ∧ l.length ≤ maxLen ∧ (l = [] ∨ ∃ b off us, a = some ⟨b, off, none⟩ ∧ b < c.w.heap.size ∧ rowsS (VS c s e) l us ∧ Mem c.w b off us)
theorem sub_len {α : Type} {l : List α} {off len : Nat} (h : off + len ≤ l.length) : (sub l off (off + len)).length = len := by
  simp only [sub, List.length_take, List.length_drop]; omega
theorem sub_all {α : Type} (l : List α) : sub l 0 (0 + l.length) = l := by simp [sub]
theorem mem_us {w : World} {b : Nat} {cur : Array Value} {ty : TypeId} {fr : Nat × Nat} (h : w.heap[b]? = some (.cells cur ty fr)) {us rest : List Value} (hc : cur.toList = us ++ rest) : Mem w b 0 us := by
  intro q v hq
  rw [cell_of_row w b (0 + q) cur ty fr h, Nat.zero_add]
  have : cur.toList[q]? = some v := by rw [hc, List.getElem?_append_left (List.getElem?_eq_some_iff.1 hq).1]; exact hq
  simpa using this
theorem row_part {nm off len : Nat} {ty : TypeId} {s : Bool} {e : Ty} {l : List e.den} {y : Value} (ho : objOK c nm (.rows ty s e l)) (h : ownV c nm off len y) :
    elsM c s e (sub l off (off + len)) y ∧ ∀ b o' len' cap', y = .slice (some ⟨b, o', none⟩) len' cap' → 0 < len → c.m nm = some b := by
  rcases h with ⟨rfl, a, rfl⟩ | ⟨b, k, ln, cap, cur, ty2, fr, hb, hL, rfl, h1, h2, h3, h4, h5⟩
  · refine ⟨⟨a, 0, ?_, ?_, ?_, .inl ?_⟩, fun b o' len' cap' _ h => absurd h (Nat.lt_irrefl _)⟩ <;> simp [sub]
  · obtain ⟨h0, hobj⟩ := ho
    rw [hL] at h0
    simp only [Option.some.injEq, Prod.mk.injEq] at h0
    obtain ⟨rfl, rfl⟩ := h0
    have hl := sub_len (l := l) h5
    refine ⟨⟨_, cap, by rw [hl], by omega, by omega, .inr ?_⟩, fun b' o' len' cap' he _ => ?_⟩
    · rcases hobj with ⟨hn, _⟩ | ⟨b', cur', fr', cap', us, rest, g1, g2, g3, g4, g5, g6, g7, g8⟩
      · rw [hb] at hn; cases hn
      · rw [hb] at g1; injection g1 with g1; subst g1
        have hr := rowsS_sub (k := e.size) (fun _ _ => VS_len) g8 off (off + len - off) (by have : off + len ≤ List.length l := h5; omega)
        refine ⟨b, _, _, rfl, (Array.getElem?_eq_some_iff.1 g2).1, hr, ?_⟩
        have := (mem_us g2 g7).sub (off * e.size) (((l.drop off).take (off + len - off)).length * e.size)
        rwa [Nat.zero_add] at this
    · injection he with he; injection he with he; injection he with he; subst he; exact hb
include hob in
theorem asL_sound {t e : Ty} {v : TV} {s : Bool} {n : List Nat} {l : (Ty.sl e).den} {vs : List Value} (h : asD ob t v = some (s, n, ⟨.sl e, l⟩)) (hs : satC c v vs) :
    ∃ y, vs = [y] ∧ elsM c s e l y ∧ ∀ b o' len' cap', y = .slice (some ⟨b, o', none⟩) len' cap' → ¬ (l : List e.den) = [] → okB c s b ∨ ∃ nm ∈ n, c.m nm = some b := by
  have nilcase : ∀ a : Option Addr, elsM c s e ([] : List e.den) (.slice a 0 0) := fun a => ⟨a, 0, rfl, Nat.le_refl _, Nat.zero_le _, .inl rfl⟩
  have slc : ∀ {a : Option Addr} {cap : Nat}, List.length l ≤ cap → List.length l ≤ maxLen → slM c s (VS c s e) l a →
      elsM c s e l (.slice a (List.length l) cap) ∧ ∀ b o' len' cap', Value.slice a (List.length l) cap = .slice (some ⟨b, o', none⟩) len' cap' → ¬ (l : List e.den) = [] → okB c s b ∨ ∃ nm ∈ n, c.m nm = some b := by
    intro a cap h1 h2 h3
    rcases h3 with h3 | ⟨b, off, us, rfl, g1, g2, g3⟩
    · exact ⟨⟨a, cap, rfl, h1, h2, .inl h3⟩, fun b o' len' cap' _ hne => absurd h3 hne⟩
    · refine ⟨⟨_, cap, rfl, h1, h2, .inr ⟨b, off, us, rfl, g1.1, g2, g3⟩⟩, fun b' o' len' cap' he _ => ?_⟩
      injection he with he; injection he with he; injection he with he; subst he; exact .inl g1
  unfold asD at h
  split at h
  case h_1 s' t' x =>
    simp only [Option.some.injEq, Prod.mk.injEq] at h
    obtain ⟨rfl, rfl, h⟩ := h
    cases h
    simp only [satC, VS] at hs
    obtain ⟨a, cap, rfl, h1, h2, h3⟩ := hs
    exact ⟨_, rfl, slc h1 h2 h3⟩
  case h_2 s' e' x =>
    simp only [Option.some.injEq, Prod.mk.injEq] at h
    obtain ⟨rfl, rfl, h⟩ := h
    cases h
    simp only [satC] at hs
    obtain ⟨a, rfl, h2, h3⟩ := hs
    exact ⟨_, rfl, slc (Nat.le_refl _) h2 h3⟩
  case h_3 e' =>
    simp only [Option.some.injEq, Prod.mk.injEq] at h
    obtain ⟨rfl, rfl, h⟩ := h
    cases h
    simp only [satC] at hs
    exact ⟨_, hs, nilcase none, fun b o' len' cap' he => by cases he⟩
  case h_4 nm =>
    split at h
    case h_2 => cases h
    case h_1 ty s' e' l' ho =>
      simp only [Option.some.injEq, Prod.mk.injEq] at h
      obtain ⟨rfl, rfl, h⟩ := h
      cases h
      simp only [satC] at hs
      obtain ⟨y, k, ln, rfl, hL, hown⟩ := hs
      have hok := hob nm _ ho
      have hL' := hok.1
      rw [hL] at hL'
      simp only [Option.some.injEq, Prod.mk.injEq] at hL'
      obtain ⟨rfl, rfl⟩ := hL'
      obtain ⟨h1, h2⟩ := row_part hok hown
      have e1 := sub_all (α := e.den) l
      rw [e1] at h1
      exact ⟨y, rfl, h1, fun b o' len' cap' he hne => .inr ⟨nm, by simp, h2 b o' len' cap' he (List.length_pos_iff.2 hne)⟩⟩
  case h_5 nm off len =>
    split at h
    case h_2 => cases h
    case h_1 ty s' e' l' ho =>
      simp only [Option.some.injEq, Prod.mk.injEq] at h
      obtain ⟨rfl, rfl, h⟩ := h
      cases h
      simp only [satC] at hs
      obtain ⟨y, rfl, hown⟩ := hs
      have hok := hob nm _ ho
      obtain ⟨h1, h2⟩ := row_part hok hown
      refine ⟨y, rfl, h1, fun b o' len' cap' he hne => .inr ⟨nm, by simp, h2 b o' len' cap' he ?_⟩⟩
      rcases Nat.eq_zero_or_pos len with h0 | h0
      · exfalso; apply hne; subst h0
        show sub (α := e.den) l' off (off + 0) = []
        simp [sub]
      · exact h0
  case h_6 nm p e' len =>
    split at h
    case h_2 => cases h
    case h_1 o ho =>
      split at h
      case h_2 => cases h
      case h_1 s' n' e2 x hg =>
        split at h
        case h_2 => cases h
        case h_1 hn =>
          have hn := Nat.eq_of_beq_eq_true hn
          subst hn
          simp only [Option.some.injEq, Prod.mk.injEq] at h
          obtain ⟨rfl, rfl, h⟩ := h
          cases h
          simp only [satC] at hs
          obtain ⟨b, k, ln, cap, hb, rfl, h1, h2, hL, hp⟩ := hs
          obtain ⟨cur, ty, fr, g1, g2, g3⟩ := getO_sound (hob nm o ho) hb hL hp hg
          simp only [satC, VS] at g2
          have hl : List.length (aelsD n' e x : List e.den) = n' := Arr.els_length (α := e.den) x
          refine ⟨_, rfl, ⟨_, cap, by rw [hl], by rw [hl]; exact h1, by rw [hl]; exact h2, .inr ⟨b, _, _, rfl, (Array.getElem?_eq_some_iff.1 g1).1, g2, mem_of_row g1 _ _⟩⟩, fun b' o' len' cap' he _ => ?_⟩
          injection he with he; injection he with he; injection he with he; subst he
          exact .inr ⟨nm, by simp, hb⟩
  case h_7 =>
    split at h
    case h_2 => cases h
    case h_1 => simp only [Option.some.injEq, Prod.mk.injEq] at h; obtain ⟨_, _, h⟩ := h; cases h
  case h_8 => cases h
structure Lend (c c' : Ctx) (n : List Nat) : Prop where
  w : c'.w = c.w
  ok : ∀ s b, okB c s b → okB c' s b
  nm : ∀ nm b, nm ∈ n → c.m nm = some b → b < c.w.heap.size → okB c' true b
theorem okB_weak {c : Ctx} {s : Bool} {b : Nat} (h : okB c true b) : okB c s b := ⟨h.1, h.2.1, fun _ => h.2.2 rfl⟩
theorem Lend.le {c c' : Ctx} {n : List Nat} (H : Lend c c' n) (s : Bool) : Le c s c' s := ⟨fun b hb => H.ok s b hb, fun b o us _ hm => by rw [H.w]; exact hm⟩
theorem elsM_VS {c c' : Ctx} {n : List Nat} (H : Lend c c' n) {s : Bool} {e : Ty} {l : List e.den} {y : Value} (h : elsM c s e l y)
    (hb : ∀ b o' len' cap', y = .slice (some ⟨b, o', none⟩) len' cap' → ¬ l = [] → okB c s b ∨ ∃ nm ∈ n, c.m nm = some b) : VS c' s (.sl e) l [y] := by
  obtain ⟨a, cap, rfl, h1, h2, h3⟩ := h
  simp only [VS]
  refine ⟨a, cap, rfl, h1, h2, ?_⟩
  rcases h3 with h3 | ⟨b, off, us, rfl, g1, g2, g3⟩
  · exact .inl h3
  · by_cases hne : l = []
    · exact .inl hne
    · right
      refine ⟨b, off, us, rfl, ?_, rowsS_mono (fun _ _ _ h => VS_le (H.le s) h) g2, by rw [H.w]; exact g3⟩
      rcases hb b _ _ _ rfl hne with hb | ⟨nm, hn, hb⟩
      · exact H.ok s b hb
      · exact okB_weak (H.nm nm b hn hb g1)
include hob in
theorem asD_sound {c' : Ctx} : ∀ {v : TV} {t : Ty} {s : Bool} {n : List Nat} {d : DV} {vs : List Value}, asD ob t v = some (s, n, d) → Lend c c' n → satC c v vs → vs.length = sizeT v → VS c' s d.t d.x vs := by
  have sl : ∀ {v : TV} {t : Ty} {s : Bool} {n : List Nat} {e : Ty} {l : (Ty.sl e).den} {vs : List Value}, asD ob t v = some (s, n, ⟨.sl e, l⟩) → Lend c c' n → satC c v vs → VS c' s (.sl e) l vs := by
    intro v t s n e l vs h H hs
    obtain ⟨y, rfl, h1, h2⟩ := asL_sound hob h hs
    exact elsM_VS H h1 h2
  intro v
  induction v with
  | val s0 t0 x =>
    intro t s n d vs h H hs hl
    simp only [asD, Option.some.injEq, Prod.mk.injEq] at h
    obtain ⟨rfl, rfl, rfl⟩ := h
    simp only [satC] at hs
    exact VS_le (H.le s0) hs
  | pr a b iha ihb =>
    intro t s n d vs h H hs hl
    cases t with
    | pair ta tb =>
      simp only [asD] at h
      split at h
      case h_2 => cases h
      case h_1 s1 n1 x1 s2 n2 x2 h1 h2 =>
        simp only [Option.some.injEq, Prod.mk.injEq] at h
        obtain ⟨rfl, rfl, rfl⟩ := h
        simp only [satC] at hs
        obtain ⟨u, r, rfl, g1, g2, g3, g4⟩ := hs
        simp only [VS]
        have k1 := iha h1 ⟨H.w, H.ok, fun nm b hn => H.nm nm b (by simp [hn])⟩ g3 g1
        have k2 := ihb h2 ⟨H.w, H.ok, fun nm b hn => H.nm nm b (by simp [hn])⟩ g4 g2
        exact ⟨u, r, rfl, VS_weak (fun h => (Bool.and_eq_true _ _ ▸ h).1) k1, VS_weak (fun h => (Bool.and_eq_true _ _ ▸ h).2) k2⟩
    | _ => simp [asD] at h
  | nil =>
    intro t s n d vs h H hs hl
    cases t <;> first
      | (simp [asD] at h; done)
      | (have h' := h
         simp only [asD, Option.some.injEq, Prod.mk.injEq] at h'
         obtain ⟨_, _, rfl⟩ := h'
         exact sl h H hs)
  | fl s0 e l =>
    intro t s n d vs h H hs hl
    have h' := h
    simp only [asD, Option.some.injEq, Prod.mk.injEq] at h'
    obtain ⟨_, _, rfl⟩ := h'
    exact sl h H hs
  | own nm =>
    intro t s n d vs h H hs hl
    have h' := h
    simp only [asD] at h'
    split at h'
    case h_2 => cases h'
    case h_1 =>
      simp only [Option.some.injEq, Prod.mk.injEq] at h'
      obtain ⟨_, _, rfl⟩ := h'
      exact sl h H hs
  | ownp nm off len =>
    intro t s n d vs h H hs hl
    have h' := h
    simp only [asD] at h'
    split at h'
    case h_2 => cases h'
    case h_1 =>
      simp only [Option.some.injEq, Prod.mk.injEq] at h'
      obtain ⟨_, _, rfl⟩ := h'
      exact sl h H hs
  | sv nm p e len =>
    intro t s n d vs h H hs hl
    have h' := h
    simp only [asD] at h'
    split at h'
    case h_2 => cases h'
    case h_1 =>
      split at h'
      case h_2 => cases h'
      case h_1 =>
        split at h'
        case h_2 => cases h'
        case h_1 =>
          simp only [Option.some.injEq, Prod.mk.injEq] at h'
          obtain ⟨_, _, rfl⟩ := h'
          exact sl h H hs
  | _ => intro t s n d vs h; cases t <;> simp [asD] at h
include hob in
theorem asT_sound {c' : Ctx} {v : TV} {t : Ty} {s : Bool} {n : List Nat} {x : t.den} {vs : List Value} (h : asT ob t v = some (s, n, x)) (H : Lend c c' n) (hs : satC c v vs) (hl : vs.length = sizeT v) : VS c' s t x vs := by
  unfold asT at h
  split at h
  case h_2 => cases h
  case h_1 s' n' d hd =>
    split at h
    case h_2 => cases h
    case h_1 x' hx =>
      simp only [Option.some.injEq, Prod.mk.injEq] at h
      obtain ⟨rfl, rfl, rfl⟩ := h
      have := cast_dv hx
      subst this
      exact VS_or (asD_sound hob hd H hs hl)
include hob in
theorem asTL_sound {v : TV} {e : Ty} {s : Bool} {n : List Nat} {l : (Ty.sl e).den} {y : Value} (h : asT ob (.sl e) v = some (s, n, l)) (hs : satC c v [y]) : elsM c s e l y := by
  unfold asT at h
  split at h
  case h_2 => cases h
  case h_1 s' n' d hd =>
    split at h
    case h_2 => cases h
    case h_1 x' hx =>
      simp only [Option.some.injEq, Prod.mk.injEq] at h
      obtain ⟨rfl, rfl, rfl⟩ := h
      have := cast_dv hx
      subst this
      obtain ⟨y', h1, h2, _⟩ := asL_sound hob hd hs
      injection h1 with h1
      subst h1
      rw [show (s' || (Ty.sl e).flat) = s' by simp [Ty.flat]]
      exact h2
theorem asT_cell {v : TV} {e : Ty} {s : Bool} {n : List Nat} {l : (Ty.sl e).den} {y : Value} (h : asT ob (.sl e) v = some (s, n, l)) (hs : sat c v y) : satC c v [y] := by
  have : isTup v = false ∧ aggT v = false := by
    cases v with
    | val s0 t0 x =>
      refine ⟨rfl, ?_⟩
      simp only [asT, asD] at h
      split at h
      case h_2 => cases h
      case h_1 x' hx =>
        have := castT_eq hx
        injection this with h1 h2
        subst h1; rfl
    | pr a b => simp [asT, asD] at h
    | tnil => simp [asT, asD] at h
    | tcons a b => simp [asT, asD] at h
    | _ => exact ⟨rfl, rfl⟩
  exact (sat_one this.1 this.2).1 hs
end
end Go.Tv
namespace Go.Tv
open Go Go.RowKit
theorem w64_id {x : Int} (h0 : 0 ≤ x) (h1 : x ≤ 9223372036854775807) : w64 x = x := by
  have e : x % 18446744073709551616 = x := Int.emod_eq_of_lt h0 (by omega)
  have hn : ¬ (9223372036854775808 ≤ x) := by omega
  simp [w64, IntKind.wrap, IntKind.bits, IntKind.signed, e, hn]
def OptSat (c : Ctx) : Option TV → Option Value → Prop
  | none, none => True
  | some a, some v => sat c a v
  | _, _ => False
section
variable {P : Program} {c : Ctx}
theorem bnd_run {d : Int} {x : Option TV} {vx : Option Value} {l : (Ty.int .i64).den} (hx : OptSat c x vx) (h : bndT d x = some l) : (vx = none ∧ l = d ∧ x = none) ∨ ∃ k, vx = some (.int k l) := by
  unfold bndT at h
  split at h
  case h_1 hx =>
    injection h with h
    cases vx with
    | none => exact .inl ⟨rfl, h.symm, rfl⟩
    | some _ => exact hx.elim
  case h_2 hx s k n =>
    injection h with h
    subst h
    cases vx with
    | none => exact hx.elim
    | some v => exact .inr ⟨k, by rw [sat_int.1 hx]; rfl⟩
  case h_3 => cases h
theorem run_bounds (w : World) (isS : Bool) (len cap : Nat) (lo hi : Option Value) (l h : Int) (hlo : (lo = none ∧ l = 0) ∨ ∃ k, lo = some (.int k l)) (hhi : (hi = none ∧ h = len) ∨ ∃ k, hi = some (.int k h))
    (h0 : 0 ≤ l) (h1 : l ≤ h) (h2 : h ≤ cap) (hlc : len ≤ cap) : (Instr.sliceBounds isS len cap lo hi none).run P w = .ok (l.toNat, h.toNat, cap) w := by
  have hh : 0 ≤ h := by omega
  have hn : ((h.toNat : Nat) : Int) = h := Int.toNat_of_nonneg hh
  rcases hlo with ⟨rfl, rfl⟩ | ⟨k, rfl⟩ <;> rcases hhi with ⟨rfl, rfl⟩ | ⟨k', rfl⟩ <;>
    simp [Instr.sliceBounds, Instr.sliceBound, asIntOf, h0, h1, h2, hh, hn]
theorem run_bounds3 (w : World) (isS : Bool) (len cap : Nat) (lo : Option Value) (l h m : Int) (k k' : IntKind) (hlo : (lo = none ∧ l = 0) ∨ ∃ k, lo = some (.int k l))
    (h0 : 0 ≤ l) (h1 : l ≤ h) (h2 : h ≤ m) (h3 : m ≤ cap) : (Instr.sliceBounds isS len cap lo (some (.int k h)) (some (.int k' m))).run P w = .ok (l.toNat, h.toNat, m.toNat) w := by
  have hh : 0 ≤ h := by omega
  have hm : 0 ≤ m := by omega
  have hn : ((h.toNat : Nat) : Int) = h := Int.toNat_of_nonneg hh
  have hn2 : ((m.toNat : Nat) : Int) = m := Int.toNat_of_nonneg hm
  rcases hlo with ⟨rfl, rfl⟩ | ⟨k2, rfl⟩ <;>
    simp [Instr.sliceBounds, Instr.sliceBound, asIntOf, h0, h1, h2, h3, hh, hm, hn, hn2]
theorem slb_spec {l h : Int} {n : Nat} (H : slb l h n = true) : 0 ≤ l ∧ l ≤ h ∧ h ≤ (n : Int) := by
  simp only [slb, decide_eq_true_eq] at H; exact H
theorem sub_length {α : Type} {l : List α} {i j : Nat} (h : i ≤ j) (hj : j ≤ l.length) : (sub l i j).length = j - i := by
  simp only [sub, List.length_take, List.length_drop]; omega
theorem slM_sub {s : Bool} {e : Ty} {L : List e.den} {a a' : Option Addr} {i j : Nat} (h : slM c s (VS c s e) L a) (hi : i ≤ j) (hj : j ≤ L.length)
    (ha : j - i = 0 ∨ ∀ b off, a = some ⟨b, off, none⟩ → a' = some ⟨b, off + i * e.size, none⟩) : slM c s (VS c s e) (sub L i j) a' := by
  have hl : (sub L i j).length = j - i := by simp only [sub, List.length_take, List.length_drop]; omega
  rcases ha with ha | ha
  · exact .inl (List.eq_nil_of_length_eq_zero (by rw [hl]; exact ha))
  · rcases h with h | ⟨b, off, us, rfl, g1, g2, g3⟩
    · left; rw [h]; simp [sub]
    · right
      exact ⟨b, _, _, ha b off rfl, g1, rowsS_sub (k := e.size) (fun _ _ => VS_len) g2 i (j - i) (by omega), g3.sub _ _⟩
theorem ownV_sub {nm off len : Nat} {k ln : Nat} {y : Value} (h : ownV c nm off len y) (hL : c.L nm = some (k, ln)) {l j : Nat} (h1 : l ≤ j) (h2 : j ≤ len) :
    ∃ a cap, y = .slice a len cap ∧ len ≤ cap ∧ (0 < cap → cap ≤ maxLen) ∧ ownV c nm (off + l) (j - l) (.slice (if cap = l then a else a.map (·.add (l * k))) (j - l) (cap - l)) := by
  rcases h with ⟨rfl, a, rfl⟩ | ⟨b, k', ln', cap, cur, ty, fr, hb, hL', rfl, g1, g2, g3, g4, g5⟩
  · have e1 : l = 0 := by omega
    have e2 : j = 0 := by omega
    subst e1; subst e2
    exact ⟨a, 0, rfl, Nat.le_refl _, fun h => absurd h (Nat.lt_irrefl _), .inl ⟨rfl, a, by rw [if_pos rfl]⟩⟩
  · rw [hL] at hL'
    simp only [Option.some.injEq, Prod.mk.injEq] at hL'
    obtain ⟨rfl, rfl⟩ := hL'
    refine ⟨_, cap, rfl, g1, fun _ => by omega, ?_⟩
    by_cases hc : cap = l
    · left
      refine ⟨by omega, some ⟨b, off * k, none⟩, ?_⟩
      rw [if_pos hc, show j - l = 0 by omega, show cap - l = 0 by omega]
    · right
      refine ⟨b, k, ln, cap - l, cur, ty, fr, hb, hL, ?_, by omega, g2, ?_, by omega, by omega⟩
      · rw [if_neg hc]; simp [add_plain, Nat.add_mul]
      · rw [g3]; congr 1; omega
theorem run_slice {t el : TypeId} {e0 : Ty} (hu : P.underlying t = some (.slice el)) (hi : Inf P el e0) (a : Option Addr) (len cap : Nat) (lo hi' : Option Value) (l h : Int)
    (hlo : (lo = none ∧ l = 0) ∨ ∃ k, lo = some (.int k l)) (hhi : (hi' = none ∧ h = len) ∨ ∃ k, hi' = some (.int k h)) (hb : 0 ≤ l ∧ l ≤ h ∧ h ≤ (len : Int)) (hlc : len ≤ cap) (w : World) :
    (Instr.sliceAt t (.slice a len cap) lo hi' none).run P w = .ok (.slice (if cap = l.toNat then a else a.map (·.add (l.toNat * e0.size))) (h.toNat - l.toNat) (cap - l.toNat)) w := by
  have := run_bounds (P := P) w true len cap lo hi' l h hlo hhi hb.1 hb.2.1 (by omega) hlc
  simp [Instr.sliceAt, Instr.slice, run_underlying hu, this, hi.size]
variable {G : Tab} (hG : TabOK P G) {ob : Nat → Option TObj} (hob : ∀ nm o, ob nm = some o → objOK c nm o)
theorem sub_toN {l h : Int} {n : Nat} (H : 0 ≤ l ∧ l ≤ h ∧ h ≤ (n : Int)) (hn : n ≤ maxLen) : toN (k := .i64) (slT.subI h l) = h.toNat - l.toNat := by
  have : slT.subI h l = w64 (h - l) := rfl
  rw [this]
  show Int.toNat (w64 (h - l)) = _
  rw [w64_id (by omega) (by simp only [maxLen] at hn; omega)]
  omega
theorem rowSz_spec {nm k : Nat} (h : rowSz ob nm k = true) : ∃ ty s e l, ob nm = some (.rows ty s e l) ∧ e.size = k := by
  unfold rowSz at h
  split at h
  case h_1 ty s e l ho => exact ⟨ty, s, e, l, ho, Nat.eq_of_beq_eq_true h⟩
  case h_2 => cases h
include hG hob in
theorem sl_sound {t : TypeId} {x v : TV} {lo hi mx : Option TV} {vx : Value} {vlo vhi vmx : Option Value} (hx : sat c x vx) (hlo : OptSat c lo vlo) (hhi : OptSat c hi vhi) (hmx : OptSat c mx vmx)
    (h : slT G t ob x lo hi mx = some (true, v)) : ∃ y, sat c v y ∧ ∀ w', (Instr.sliceAt t vx vlo vhi vmx).run P w' = .ok y w' := by
  unfold slT at h
  split at h
  case h_1 hx hlo hhi hmx n e nm p ht =>
    split at h
    case h_2 => cases h
    case h_1 hn =>
      have hn := Nat.le_of_ble_eq_true hn
      simp only [Option.some.injEq, Prod.mk.injEq] at h
      obtain ⟨_, rfl⟩ := h
      obtain ⟨y, hy, hyt⟩ := tyOf_look ht
      obtain ⟨el, hu, hie⟩ := tyB_arr (hG.ty hy) hyt
      cases vlo with
      | some _ => exact hlo.elim
      | none => cases vhi with
        | some _ => exact hhi.elim
        | none => cases vmx with
          | some _ => exact hmx.elim
          | none =>
            obtain ⟨b, k, ln, hb, rfl, hL, hp⟩ := sat_ptr.1 hx
            refine ⟨.slice (some ⟨b, offS p, none⟩) n n, sat_sv.2 ⟨b, k, ln, n, hb, rfl, Nat.le_refl _, hn, hL, hp⟩, fun w' => ?_⟩
            have := run_bounds (P := P) w' false n n none none 0 n (.inl ⟨rfl, rfl⟩) (.inl ⟨rfl, rfl⟩) (Int.le_refl _) (by omega) (Int.le_refl _) (Nat.le_refl _)
            simp [Instr.sliceAt, run_underlying hu, Instr.sureAddr, this, hie.size, add_plain]
  case h_2 hx hlo hhi hmx n e0 s n' e a ht =>
    split at h
    case h_2 => cases h
    case h_1 hnn hsz hn =>
      have hn := Nat.le_of_ble_eq_true hn
      have hnn := Nat.eq_of_beq_eq_true hnn
      subst hnn
      simp only [Option.some.injEq, Prod.mk.injEq] at h
      obtain ⟨_, rfl⟩ := h
      obtain ⟨y, hy, hyt⟩ := tyOf_look ht
      obtain ⟨el, hu, hie⟩ := tyB_arr (hG.ty hy) hyt
      cases vlo with
      | some _ => exact hlo.elim
      | none => cases vhi with
        | some _ => exact hhi.elim
        | none => cases vmx with
          | some _ => exact hmx.elim
          | none =>
            obtain ⟨b, off, us, rfl, g1, g2, g3⟩ := sat_rptr.1 hx
            simp only [VS] at g2
            have hl : List.length (aelsD n e a : List e.den) = n := Arr.els_length (α := e.den) a
            refine ⟨.slice (some ⟨b, off, none⟩) n n, sat_sl.2 ⟨_, n, by rw [hl], by rw [hl]; exact Nat.le_refl _, by rw [hl]; exact hn, .inr ⟨b, off, us, rfl, g1, g2, g3⟩⟩, fun w' => ?_⟩
            have := run_bounds (P := P) w' false n n none none 0 n (.inl ⟨rfl, rfl⟩) (.inl ⟨rfl, rfl⟩) (Int.le_refl _) (by omega) (Int.le_refl _) (Nat.le_refl _)
            simp [Instr.sliceAt, run_underlying hu, Instr.sureAddr, this, hie.size, add_plain]
  case h_3 hx hlo hhi hmx e0 nm ht =>
    simp only [Option.some.injEq, Prod.mk.injEq] at h
    obtain ⟨_, rfl⟩ := h
    obtain ⟨y, hy, hyt⟩ := tyOf_look ht
    obtain ⟨hu, hie, _⟩ := tyB_sl (hG.ty hy) hyt
    cases vlo with
    | some _ => exact hlo.elim
    | none => cases vhi with
      | some _ => exact hhi.elim
      | none => cases vmx with
        | some _ => exact hmx.elim
        | none =>
          refine ⟨vx, hx, fun w' => ?_⟩
          obtain ⟨k, ln, hL, hown⟩ := sat_own.1 hx
          obtain ⟨a, cap, rfl, hc, _⟩ := ownV_sub hown hL (l := 0) (j := 0) (Nat.le_refl _) (Nat.zero_le _)
          have := run_slice (P := P) hu hie a ln cap none none 0 ln (.inl ⟨rfl, rfl⟩) (.inl ⟨rfl, rfl⟩) ⟨Int.le_refl _, by omega, Int.le_refl _⟩ hc w'
          rw [this]
          have e1 : (if cap = Int.toNat 0 then a else a.map (·.add (Int.toNat 0 * e0.size))) = a := by
            cases a <;> simp [Addr.add]
          rw [e1]; simp
  case h_4 =>
    split at h
    case h_1 => cases h
    case h_2 n hlen =>
      split at h
      case h_2 => cases h
      case h_1 l h' hl hh =>
        change Int at l
        change Int at h'
        have rlo := bnd_run hlo hl
        have rhi := bnd_run hhi hh
        have rlo' : (vlo = none ∧ l = 0) ∨ ∃ k, vlo = some (.int k l) := rlo.elim (fun q => .inl ⟨q.1, q.2.1⟩) .inr
        have rhi' : (vhi = none ∧ h' = n) ∨ ∃ k, vhi = some (.int k h') := rhi.elim (fun q => .inl ⟨q.1, q.2.1⟩) .inr
        split at h
        case h_1 s' S ht _ _ _ =>
          obtain ⟨y, hy, hyt⟩ := tyOf_look ht
          have hu := tyB_str (hG.ty hy) hyt
          have := sat_str.1 hx
          subst this
          simp only [Option.some.injEq, Prod.mk.injEq] at h
          obtain ⟨hb, rfl⟩ := h
          have hb := slb_spec hb
          simp only [lenT, Option.some.injEq] at hlen
          subst hlen
          change ByteArray at S
          cases vmx with
          | some _ => exact hmx.elim
          | none =>
            refine ⟨.string (S.extract l.toNat h'.toNat), sat_str.2 rfl, fun w' => ?_⟩
            have := run_bounds (P := P) w' false S.size S.size vlo vhi l h' rlo' rhi' hb.1 hb.2.1 hb.2.2 (Nat.le_refl _)
            simp [Instr.sliceAt, Instr.slice, run_underlying hu, this]
        case h_2 e0 s e a ht _ _ _ =>
          split at h
          case h_2 => cases h
          case h_1 hsz =>
            have hsz := Nat.eq_of_beq_eq_true hsz
            obtain ⟨y, hy, hyt⟩ := tyOf_look ht
            obtain ⟨hu, hie, _⟩ := tyB_sl (hG.ty hy) hyt
            simp only [Option.some.injEq, Prod.mk.injEq] at h
            obtain ⟨hb, rfl⟩ := h
            have hb := slb_spec hb
            simp only [lenT, Option.some.injEq] at hlen
            subst hlen
            obtain ⟨ad, cap, rfl, g1, g2, g3⟩ := sat_sl.1 hx
            cases vmx with
            | some _ => exact hmx.elim
            | none =>
              have hb2 : h'.toNat ≤ List.length a := by have : h' ≤ (List.length a : Nat) := hb.2.2; omega
              have hl : (sub (α := e.den) a l.toNat h'.toNat).length = h'.toNat - l.toNat := sub_length (by omega) hb2
              refine ⟨.slice (if cap = l.toNat then ad else ad.map (·.add (l.toNat * e0.size))) (sub (α := e.den) a l.toNat h'.toNat).length (cap - l.toNat), sat_sl.2 ⟨_, _, rfl, ?_, ?_, slM_sub (i := l.toNat) (j := h'.toNat) g3 (by omega) hb2 ?_⟩, fun w' => ?_⟩
              · show (sub (α := e.den) a l.toNat h'.toNat).length ≤ _; omega
              · show (sub (α := e.den) a l.toNat h'.toNat).length ≤ _; omega
              · by_cases hc : cap = l.toNat
                · left; omega
                · right; intro b off ha; rw [if_neg hc, ha, hsz]; simp [add_plain]
              · exact (run_slice hu hie ad _ cap vlo vhi l h' rlo' rhi' hb g1 w').trans (congrArg (fun n => Result.ok (Value.slice (if cap = l.toNat then ad else ad.map (·.add (l.toNat * e0.size))) n (cap - l.toNat)) w') hl.symm)
        case h_3 e0 s e a ht _ _ _ =>
          split at h
          case h_2 => cases h
          case h_1 hsz =>
            have hsz := Nat.eq_of_beq_eq_true hsz
            obtain ⟨y, hy, hyt⟩ := tyOf_look ht
            obtain ⟨hu, hie, _⟩ := tyB_sl (hG.ty hy) hyt
            simp only [Option.some.injEq, Prod.mk.injEq] at h
            obtain ⟨hb, rfl⟩ := h
            have hb := slb_spec hb
            simp only [lenT, Option.some.injEq] at hlen
            subst hlen
            obtain ⟨ad, rfl, g2, g3⟩ := sat_fl.1 hx
            cases vmx with
            | some _ => exact hmx.elim
            | none =>
              have hb2 : h'.toNat ≤ List.length a := by have : h' ≤ (List.length a : Nat) := hb.2.2; omega
              have hl : (sub (α := e.den) a l.toNat h'.toNat).length = h'.toNat - l.toNat := sub_length (by omega) hb2
              refine ⟨.slice (if List.length a = l.toNat then ad else ad.map (·.add (l.toNat * e0.size))) (sub (α := e.den) a l.toNat h'.toNat).length (List.length a - l.toNat), sat_sl.2 ⟨_, _, rfl, ?_, ?_, slM_sub (i := l.toNat) (j := h'.toNat) g3 (by omega) hb2 ?_⟩, fun w' => ?_⟩
              · show (sub (α := e.den) a l.toNat h'.toNat).length ≤ _; omega
              · show (sub (α := e.den) a l.toNat h'.toNat).length ≤ _; omega
              · by_cases hc : List.length a = l.toNat
                · left; omega
                · right; intro b off ha; rw [if_neg hc, ha, hsz]; simp [add_plain]
              · exact (run_slice hu hie ad _ _ vlo vhi l h' rlo' rhi' hb (Nat.le_refl _) w').trans (congrArg (fun n => Result.ok (Value.slice (if List.length a = l.toNat then ad else ad.map (·.add (l.toNat * e0.size))) n (List.length a - l.toNat)) w') hl.symm)
        case h_4 e0 s e a s2 k m ht _ _ _ =>
          split at h
          case h_2 => cases h
          case h_1 hi0 cc hc hsz _ _ _ =>
            have hsz := Nat.eq_of_beq_eq_true hsz
            obtain ⟨y, hy, hyt⟩ := tyOf_look ht
            obtain ⟨hu, hie, _⟩ := tyB_sl (hG.ty hy) hyt
            simp only [Option.some.injEq, Prod.mk.injEq] at h
            obtain ⟨hcc, rfl⟩ := h
            change Int at m
            have hceq : cc = decide (h' = m) := by
              simp only [cmpD, Option.some.injEq] at hc; rw [← hc]; rfl
            have hb1 : slb l h' n = true := by
              have hcc : cand (slb l h' n) cc = true := hcc
              cases hq : slb l h' n <;> simp_all [cand]
            have hm : h' = m := by
              have hcc : cand (slb l h' n) cc = true := hcc
              rw [hb1, hceq] at hcc
              simpa [cand] using hcc
            subst hm
            have hb := slb_spec hb1
            simp only [lenT, Option.some.injEq] at hlen
            subst hlen
            obtain ⟨ad, cap, rfl, g1, g2, g3⟩ := sat_sl.1 hx
            cases vmx with
            | none => exact hmx.elim
            | some vm =>
              have := sat_int.1 hmx
              subst this
              rcases rhi with ⟨_, _, hq⟩ | ⟨k2, rfl⟩
              · cases hq
              · have hb2 : h'.toNat ≤ List.length a := by have : h' ≤ (List.length a : Nat) := hb.2.2; omega
                have hl : (sub (α := e.den) a l.toNat h'.toNat).length = h'.toNat - l.toNat := sub_length (by omega) hb2
                refine ⟨.slice (if h'.toNat = l.toNat then ad else ad.map (·.add (l.toNat * e0.size))) (sub (α := e.den) a l.toNat h'.toNat).length (sub (α := e.den) a l.toNat h'.toNat).length, sat_fl.2 ⟨_, rfl, ?_, slM_sub (i := l.toNat) (j := h'.toNat) g3 (by omega) hb2 ?_⟩, fun w' => ?_⟩
                · show (sub (α := e.den) a l.toNat h'.toNat).length ≤ _; omega
                · by_cases hc : h'.toNat = l.toNat
                  · left; omega
                  · right; intro b off ha; rw [if_neg hc, ha, hsz]; simp [add_plain]
                · have := run_bounds3 (P := P) w' true (List.length a) cap vlo l h' h' k2 k rlo' hb.1 hb.2.1 (Int.le_refl _) (by omega)
                  rw [hl]
                  simp [Instr.sliceAt, Instr.slice, run_underlying hu, this, hie.size]
        case h_5 e0 ht _ _ _ =>
          obtain ⟨y, hy, hyt⟩ := tyOf_look ht
          obtain ⟨hu, hie, _⟩ := tyB_sl (hG.ty hy) hyt
          simp only [Option.some.injEq, Prod.mk.injEq] at h
          obtain ⟨hb, rfl⟩ := h
          have hb := slb_spec hb
          simp only [lenT, Option.some.injEq] at hlen
          subst hlen
          have := sat_nil.1 hx
          subst this
          cases vmx with
          | some _ => exact hmx.elim
          | none =>
            refine ⟨.slice none 0 0, sat_nil.2 rfl, fun w' => ?_⟩
            have hz : nlit 0 = (0 : Nat) := rfl
            rw [hz] at hb rhi'
            rw [run_slice hu hie none 0 0 vlo vhi l h' rlo' rhi' hb (Nat.le_refl _) w']
            have e1 : h'.toNat = 0 := by omega
            rw [e1]; simp
        case h_6 e0 nm ht _ _ _ =>
          split at h
          case h_2 => cases h
          case h_1 hrow =>
            obtain ⟨ty', s', e', l', ho, hsz⟩ := rowSz_spec hrow
            obtain ⟨y, hy, hyt⟩ := tyOf_look ht
            obtain ⟨hu, hie, _⟩ := tyB_sl (hG.ty hy) hyt
            simp only [Option.some.injEq, Prod.mk.injEq] at h
            obtain ⟨hb, rfl⟩ := h
            have hb := slb_spec hb
            simp only [lenT, ho, Option.some.injEq] at hlen
            subst hlen
            obtain ⟨k, ln, hL, hown⟩ := sat_own.1 hx
            have hL' := (hob nm _ ho).1
            rw [hL] at hL'
            simp only [Option.some.injEq, Prod.mk.injEq] at hL'
            obtain ⟨rfl, rfl⟩ := hL'
            have hb2 : h'.toNat ≤ List.length l' := by have : h' ≤ (List.length l' : Nat) := hb.2.2; omega
            obtain ⟨ad, cap, rfl, hc, hmx', hsub⟩ := ownV_sub hown hL (l := l.toNat) (j := h'.toNat) (by omega) hb2
            have hmax : List.length l' ≤ maxLen := by
              rcases Nat.eq_zero_or_pos cap with h0 | h0
              · have : maxLen = 9223372036854775807 := rfl
                omega
              · exact Nat.le_trans hc (hmx' h0)
            cases vmx with
            | some _ => exact hmx.elim
            | none =>
              refine ⟨_, sat_ownp.2 ?_, fun w' => run_slice hu hie ad _ cap vlo vhi l h' rlo' rhi' hb hc w'⟩
              rw [sub_toN hb hmax, ← hsz]
              have e1 : 0 + l.toNat = l.toNat := Nat.zero_add _
              rw [e1] at hsub
              exact hsub
        case h_7 e0 nm off len ht _ _ _ =>
          split at h
          case h_2 => cases h
          case h_1 hrow =>
            obtain ⟨ty', s', e', l', ho, hsz⟩ := rowSz_spec hrow
            obtain ⟨y, hy, hyt⟩ := tyOf_look ht
            obtain ⟨hu, hie, _⟩ := tyB_sl (hG.ty hy) hyt
            simp only [Option.some.injEq, Prod.mk.injEq] at h
            obtain ⟨hb, rfl⟩ := h
            have hb := slb_spec hb
            simp only [lenT, Option.some.injEq] at hlen
            subst hlen
            have hown := sat_ownp.1 hx
            have hL := (hob nm _ ho).1
            have hb2 : h'.toNat ≤ len := by have : h' ≤ (len : Nat) := hb.2.2; omega
            obtain ⟨ad, cap, rfl, hc, hmx', hsub⟩ := ownV_sub hown hL (l := l.toNat) (j := h'.toNat) (by omega) hb2
            have hmax : len ≤ maxLen := by
              rcases Nat.eq_zero_or_pos cap with h0 | h0
              · subst h0; exact Nat.le_trans hc (Nat.zero_le _)
              · exact Nat.le_trans hc (hmx' h0)
            cases vmx with
            | some _ => exact hmx.elim
            | none =>
              refine ⟨_, sat_ownp.2 ?_, fun w' => run_slice hu hie ad _ cap vlo vhi l h' rlo' rhi' hb hc w'⟩
              rw [sub_toN hb hmax, ← hsz]
              exact hsub
        case h_8 => cases h
end
end Go.Tv
namespace Go.Tv
open Go Go.RowKit
def valC (ag : Bool) (A : List Value) : Value := match ag with
  | true => .agg A.toArray
  | false => A.getD 0 undef
section
variable {P : Program} {c : Ctx}
theorem part_val {t : TypeId} {ty : Ty} (hi : Inf P t ty) {s : Bool} {x : ty.den} {vs A : List Value} {off : Nat} (hA : (vs.drop off).take ty.size = A) (h : VS c s ty x A) (w : World) :
    (part t vs.toArray off).run P w = .ok (valC ty.agg A) w := by
  have hl := VS_len h
  have hpos := hi.pos
  have hfit : fitB ty (.val s ty x) = true := by
    have q1 : Nat.beq (sizeT (.val s ty x)) ty.size = true := Nat.beq_refl _
    have q2 : beqB (aggT (.val s ty x)) ty.agg = true := by show beqB ty.agg ty.agg = true; cases ty.agg <;> rfl
    unfold fitB; rw [q1, q2]; rfl
  have hle : off + ty.size ≤ vs.length := by
    rw [← hA] at hl; simp at hl; omega
  obtain ⟨_, h2⟩ := part_run (c := c) hi hfit (vs := vs) (off := off) (by rw [show sizeT (.val s ty x) = ty.size from rfl, hA]; simp only [satC]; exact h) hle
  rw [h2 w]
  congr 1
  unfold partV valC
  cases ty.agg with
  | true => simp only [hA]
  | false =>
    simp only
    rw [← hA, List.getD_eq_getElem?_getD, List.getD_eq_getElem?_getD, List.getElem?_take, if_pos hpos, List.getElem?_drop, Nat.add_zero]
theorem els_inj {α : Type} : ∀ {n : Nat} {a b : Arr n α}, Arr.els n a = Arr.els n b → a = b
  | 2, ⟨_, _⟩, ⟨_, _⟩, h => by simp only [Arr.els, V2.els, List.cons.injEq, and_true] at h; obtain ⟨rfl, rfl⟩ := h; rfl
  | 3, ⟨_, _, _⟩, ⟨_, _, _⟩, h => by simp only [Arr.els, V3.els, List.cons.injEq, and_true] at h; obtain ⟨rfl, rfl, rfl⟩ := h; rfl
  | 4, ⟨_, _, _, _⟩, ⟨_, _, _, _⟩, h => by simp only [Arr.els, V4.els, List.cons.injEq, and_true] at h; obtain ⟨rfl, rfl, rfl, rfl⟩ := h; rfl
  | 5, ⟨_, _, _, _, _⟩, ⟨_, _, _, _, _⟩, h => by simp only [Arr.els, V5.els, List.cons.injEq, and_true] at h; obtain ⟨rfl, rfl, rfl, rfl, rfl⟩ := h; rfl
  | 6, ⟨_, _, _, _, _, _⟩, ⟨_, _, _, _, _, _⟩, h => by simp only [Arr.els, V6.els, List.cons.injEq, and_true] at h; obtain ⟨rfl, rfl, rfl, rfl, rfl, rfl⟩ := h; rfl
  | 0, ⟨l, hl⟩, ⟨r, hr⟩, h => by have : l = r := h; subst this; rfl
  | 1, ⟨l, hl⟩, ⟨r, hr⟩, h => by have : l = r := h; subst this; rfl
  | _ + 7, ⟨l, hl⟩, ⟨r, hr⟩, h => by have : l = r := h; subst this; rfl
theorem beqL_iff {a b : ByteArray} : (a.toList == b.toList) = true ↔ a = b := by
  rw [beq_iff_eq, ByteArray.toList_eq, ByteArray.toList_eq]
  obtain ⟨⟨x⟩⟩ := a
  obtain ⟨⟨y⟩⟩ := b
  simp
def isEq {α : Type} (b : Bool) (x y : α) : Prop := b = true ↔ x = y
theorem run_eqItems {e : Ty} {el : TypeId} (hi : Inf P el e) {D : Nat} (w : World) {s s' : Bool} (ih : ∀ (x y : e.den) (A B : List Value), VS c s e x A → VS c s' e y B → ∃ b, (Op.equalIn D el (valC e.agg A) (valC e.agg B)).run P w = .ok b w ∧ isEq b x y) (xs ys : List Value) :
    ∀ (l r : List e.den) (j : Nat), l.length = r.length → rowsS (VS c s e) l (xs.drop (j * e.size)) → rowsS (VS c s' e) r (ys.drop (j * e.size)) →
      ∃ b, (Op.eqItems D el e.size xs.toArray ys.toArray (List.range' j l.length)).run P w = .ok b w ∧ isEq b l r
  | [], [], j, _, _, _ => ⟨true, by simp [Op.eqItems], by simp [isEq]⟩
  | [], _ :: _, j, h, _, _ => by simp at h
  | _ :: _, [], j, h, _, _ => by simp at h
  | x :: l, y :: r, j, h, h1, h2 => by
    simp only [rowsS] at h1 h2
    obtain ⟨v, u, e1, g1, g2⟩ := h1
    obtain ⟨v', u', e2, g1', g2'⟩ := h2
    have hv := VS_len g1
    have hv' := VS_len g1'
    have d1 : (xs.drop (j * e.size)).take e.size = v := by rw [e1, ← hv, List.take_left]
    have d2 : (ys.drop (j * e.size)).take e.size = v' := by rw [e2, ← hv', List.take_left]
    have n1 : xs.drop ((j + 1) * e.size) = u := by rw [Nat.succ_mul, ← List.drop_drop, e1, ← hv, List.drop_left]
    have n2 : ys.drop ((j + 1) * e.size) = u' := by rw [Nat.succ_mul, ← List.drop_drop, e2, ← hv', List.drop_left]
    obtain ⟨b, hb, hbe⟩ := ih x y v v' g1 g1'
    obtain ⟨b2, hb2, hbe2⟩ := run_eqItems hi w ih xs ys l r (j + 1) (by simpa using h) (by rw [n1]; exact g2) (by rw [n2]; exact g2')
    have p1 := part_val hi d1 g1 w
    have p2 := part_val hi d2 g1' w
    simp only [List.length_cons, List.range'_succ, Op.eqItems, Sem.run_bind, p1, p2, Result.andThen_ok, hb]
    cases b with
    | false =>
      refine ⟨false, by simp, ?_⟩
      unfold isEq at hbe ⊢
      simp only [Bool.false_eq_true, false_iff] at hbe ⊢
      intro h; injection h with h _; exact hbe h
    | true =>
      refine ⟨b2, by simpa using hb2, ?_⟩
      unfold isEq at hbe hbe2 ⊢
      rw [hbe2, List.cons.injEq]
      simp only [true_iff] at hbe
      simp [hbe]
theorem run_eqFields {D : Nat} {f : TypeId → Ty → Bool} (w : World) {s s' : Bool} (ih : ∀ (t : TypeId) (ty : Ty), f t ty = true → ∀ (x y : ty.den) (A B : List Value), VS c s ty x A → VS c s' ty y B → ∃ b, (Op.equalIn D t (valC ty.agg A) (valC ty.agg B)).run P w = .ok b w ∧ isEq b x y) (xs ys : List Value) :
    ∀ (F : List Field) (ty : Ty) (off : Nat) (x y : ty.den), eqF P f F ty off = true → VS c s ty x ((xs.drop off).take ty.size) → VS c s' ty y ((ys.drop off).take ty.size) →
      ∃ b, (Op.eqFields D xs.toArray ys.toArray F).run P w = .ok b w ∧ isEq b x y
  | [], ty, off, x, y, h, _, _ => by simp [eqF] at h
  | [g], ty, off, x, y, h, h1, h2 => by
    simp only [eqF, Bool.and_eq_true, bne_iff_ne] at h
    obtain ⟨⟨⟨hn, ho⟩, hi⟩, hf⟩ := h
    have ho := Nat.eq_of_beq_eq_true ho
    have hi := infB_spec hi
    obtain ⟨b, hb, hbe⟩ := ih g.type ty hf x y _ _ h1 h2
    have p1 := part_val hi rfl h1 w
    have p2 := part_val hi rfl h2 w
    rw [← ho] at p1 p2 hb
    simp only [Op.eqFields]
    rw [if_pos hn]
    simp only [Sem.run_bind, p1, p2, Result.andThen_ok, hb]
    cases b with
    | false => exact ⟨false, by simp, hbe⟩
    | true => exact ⟨true, by simp, hbe⟩
  | g :: h' :: l, .pair a b, off, x, y, h, h1, h2 => by
    simp only [eqF, Bool.and_eq_true, bne_iff_ne] at h
    obtain ⟨⟨⟨⟨hn, ho⟩, hi⟩, hf⟩, hrest⟩ := h
    have ho := Nat.eq_of_beq_eq_true ho
    have hi := infB_spec hi
    have split : ∀ {zs : List Value} {s : Bool} {z : (Ty.pair a b).den}, VS c s (.pair a b) z ((zs.drop off).take (Ty.pair a b).size) → VS c s a (fstD z) ((zs.drop off).take a.size) ∧ VS c s b (sndD z) ((zs.drop (off + a.size)).take b.size) := by
      intro zs s z hz
      simp only [VS] at hz
      obtain ⟨v, r, e, g1, g2⟩ := hz
      have l1 := VS_len g1
      have l2 := VS_len g2
      have e' : (zs.drop off).take (a.size + b.size) = v ++ r := e
      have t1 : (zs.drop off).take a.size = v := by
        have := congrArg (List.take a.size) e'
        rw [List.take_take, Nat.min_eq_left (by omega), ← l1, List.take_left] at this
        rw [← l1]; exact this
      have t2 : (zs.drop (off + a.size)).take b.size = r := by
        have := congrArg (List.drop a.size) e'
        rw [List.drop_take, List.drop_drop, ← l1, List.drop_left] at this
        rw [← l1]
        rwa [show v.length + b.size - v.length = b.size by omega] at this
      rw [t1, t2]; exact ⟨g1, g2⟩
    obtain ⟨x1, x2⟩ := split h1
    obtain ⟨y1, y2⟩ := split h2
    obtain ⟨b1, hb, hbe⟩ := ih g.type a hf _ _ _ _ x1 y1
    obtain ⟨b2, hb2, hbe2⟩ := run_eqFields w ih xs ys (h' :: l) b (off + a.size) _ _ hrest x2 y2
    have p1 := part_val hi rfl x1 w
    have p2 := part_val hi rfl y1 w
    rw [← ho] at p1 p2 hb
    rw [Op.eqFields, if_pos hn]
    simp only [Sem.run_bind, p1, p2, Result.andThen_ok, hb]
    cases b1 with
    | false =>
      refine ⟨false, by simp, ?_⟩
      unfold isEq at hbe ⊢
      simp only [Bool.false_eq_true, false_iff] at hbe ⊢
      intro h; exact hbe (congrArg fstD h)
    | true =>
      refine ⟨b2, by simpa using hb2, ?_⟩
      unfold isEq at hbe hbe2 ⊢
      rw [hbe2]
      simp only [true_iff] at hbe
      constructor
      · intro h; exact Prod.ext hbe h
      · intro h; exact congrArg sndD h
  | g :: h' :: l, .int _, off, x, y, h, _, _ => by simp [eqF] at h
  | g :: h' :: l, .bool, off, x, y, h, _, _ => by simp [eqF] at h
  | g :: h' :: l, .str, off, x, y, h, _, _ => by simp [eqF] at h
  | g :: h' :: l, .arr _ _, off, x, y, h, _, _ => by simp [eqF] at h
  | g :: h' :: l, .sl _, off, x, y, h, _, _ => by simp [eqF] at h
theorem eqB_sound (w : World) {s s' : Bool} : ∀ (d D : Nat), d ≤ D → ∀ (t : TypeId) (ty : Ty), eqB P d t ty = true → ∀ (x y : ty.den) (A B : List Value), VS c s ty x A → VS c s' ty y B →
    ∃ b, (Op.equalIn D t (valC ty.agg A) (valC ty.agg B)).run P w = .ok b w ∧ isEq b x y
  | 0, D, _, t, ty, h, _, _, _, _, _, _ => by simp [eqB] at h
  | d + 1, 0, hD, _, _, _, _, _, _, _, _, _ => by omega
  | d + 1, D + 1, hD, t, ty, h, x, y, A, B, hA, hB => by
    have ih := eqB_sound w (s := s) (s' := s') d D (by omega)
    cases hu : P.underlying t with
    | none => exfalso; cases ty <;> simp [eqB, hu] at h
    | some dsc =>
    cases ty with
    | int k =>
      cases dsc with
      | int k2 =>
        simp only [eqB, hu] at h
        simp only [VS] at hA hB
        subst hA; subst hB
        refine ⟨_, run_equalIn_int w D t k k2 x y hu, ?_⟩
        exact beq_iff_eq (α := Int) (a := x) (b := y)
      | _ => simp [eqB, hu] at h
    | bool =>
      cases dsc with
      | bool =>
        simp only [VS] at hA hB
        subst hA; subst hB
        refine ⟨_, run_equalIn_bool' w D t x y hu, ?_⟩
        exact beq_iff_eq (α := Bool) (a := x) (b := y)
      | _ => simp [eqB, hu] at h
    | str =>
      cases dsc with
      | string =>
        simp only [VS] at hA hB
        subst hA; subst hB
        refine ⟨_, run_equalIn_string w D t x y hu, ?_⟩
        exact beqL_iff
      | _ => simp [eqB, hu] at h
    | arr n e =>
      cases dsc with
      | array n' el =>
        simp only [eqB, hu, Bool.and_eq_true] at h
        obtain ⟨⟨h1, h2⟩, h3⟩ := h
        have h1 := Nat.eq_of_beq_eq_true h1
        subst h1
        have hi := infB_spec h2
        obtain ⟨i, z, hi1, hi2, _⟩ := hi.info
        have hc : P.cellsOf el = e.size := by simp [Program.cellsOf, hi1, hi2]
        simp only [VS] at hA hB
        have lx : (Arr.els n' x).length = n' := Arr.els_length (α := e.den) x
        have ly : (Arr.els n' y).length = n' := Arr.els_length (α := e.den) y
        obtain ⟨b, hb, hbe⟩ := run_eqItems hi w (D := D) (ih el e h3) A B (Arr.els n' x) (Arr.els n' y) 0 (lx.trans ly.symm) (by simpa using hA) (by simpa using hB)
        refine ⟨b, ?_, ?_⟩
        · simp only [valC, Ty.agg]
          rw [run_equalIn_array w D _ _ hu hi1, hc, List.range_eq_range']
          rw [lx] at hb
          exact hb
        · unfold isEq at hbe ⊢
          rw [hbe]
          exact ⟨els_inj, fun h => by rw [h]⟩
      | _ => simp [eqB, hu] at h
    | pair a b =>
      cases dsc with
      | struct F =>
        simp only [eqB, hu, Bool.and_eq_true, Bool.not_eq_true'] at h
        have hF : P.fieldsOf t = F := by simp [Program.fieldsOf, hu]
        have lA := VS_len hA
        have lB := VS_len hB
        obtain ⟨b, hb, hbe⟩ := run_eqFields w (D := D) ih A B F.toList _ 0 x y h.2 (by rw [List.drop_zero, ← lA, List.take_length]; exact hA) (by rw [List.drop_zero, ← lB, List.take_length]; exact hB)
        refine ⟨b, ?_, hbe⟩
        simp only [valC, Ty.agg]
        rw [run_equalIn_struct w D t _ _ (by rw [hF]; exact hu) h.1, hF]
        exact hb
      | _ => simp [eqB, hu] at h
    | sl e => simp [eqB, hu] at h
end
end Go.Tv
namespace Go.Tv
open Go Go.RowKit
theorem wK_eq (k : IntKind) (x : Int) : wK k x = k.wrap x := by cases k <;> rfl
section
variable {P : Program} {c : Ctx}
theorem ari_run {op : BinOp} {k : IntKind} {a b z : Int} (h : ariD op k a b = some (true, z)) (t : TypeId) (x y : Operand) (w : World) :
    (do eqGuard op t x y (.int k a) (.int k b); binOp op t (.int k a) (.int k b) : Sem Value).run P w = .ok (.int k z) w := by
  have he : ∀ w, (eqGuard op t x y (.int k a) (.int k b)).run P w = .ok () w := fun w => by rw [eqGuard_at_int]; rfl
  cases op <;> simp only [ariD] at h <;> first
    | (cases h; done)
    | (have hp := Option.some.inj h
       have h1 : _ = true := congrArg Prod.fst hp
       have h2 : _ = z := congrArg Prod.snd hp
       simp only at h1 h2
       subst h2
       first
         | (simp [Sem.run_bind, he, binOp, Op.intArith, Op.intBits, bits, wK_eq]; done)
         | (have hb : ¬ b = 0 := by simpa using h1
            simp [Sem.run_bind, he, binOp, Op.intDiv, hb, wK_eq]; done))
theorem cmp_run {op : BinOp} {k : IntKind} {a b : Int} {z : Bool} (h : cmpD op k a b = some z) (t : TypeId) (x y : Operand) (w : World) :
    (do eqGuard op t x y (.int k a) (.int k b); binOp op t (.int k a) (.int k b) : Sem Value).run P w = .ok (.bool z) w := by
  have he : ∀ w, (eqGuard op t x y (.int k a) (.int k b)).run P w = .ok () w := fun w => by rw [eqGuard_at_int]; rfl
  cases op <;> simp only [cmpD] at h <;> first
    | (cases h; done)
    | (simp only [Option.some.injEq] at h; subst h
       simp only [Sem.run_bind, he, binOp, Op.intCmp, Result.andThen_ok, ne_eq, not_true_eq_false, if_false, Sem.run_pure]
       first | done | rfl | (congr 2; first | done | rfl | (rw [Bool.eq_iff_iff]; simp)))
theorem sh_run {op : BinOp} {k k' : IntKind} {a b z : Int} (h : shD op k k' a b = some (true, z)) (t : TypeId) (x y : Operand) (w : World) :
    (do eqGuard op t x y (.int k a) (.int k' b); binOp op t (.int k a) (.int k' b) : Sem Value).run P w = .ok (.int k z) w := by
  have he : ∀ w, (eqGuard op t x y (.int k a) (.int k' b)).run P w = .ok () w := fun w => by rw [eqGuard_at_int]; rfl
  cases op <;> simp only [shD] at h <;> first
    | (cases h; done)
    | (have hp := Option.some.inj h
       have h1 : nneg b = true := congrArg Prod.fst hp
       have h2 : _ = z := congrArg Prod.snd hp
       simp only at h2
       subst h2
       have hb' : ¬ b < 0 := by simp only [nneg, decide_eq_true_eq] at h1; omega
       simp [Sem.run_bind, he, binOp, Op.shift, hb', shlI, shrI, wK_eq])
theorem str_run {op : BinOp} {a b : ByteArray} {z : Bool} (h : strD op a b = some z) (t : TypeId) (x y : Operand) (w : World) :
    (do eqGuard op t x y (.string a) (.string b); binOp op t (.string a) (.string b) : Sem Value).run P w = .ok (.bool z) w := by
  have he : ∀ w, (eqGuard op t x y (.string a) (.string b)).run P w = .ok () w := fun w => by rw [eqGuard_at_string]; rfl
  have e1 : eqd a b = (a.toList == b.toList) := by
    rw [Bool.eq_iff_iff, beqL_iff]; simp [eqd]
  cases op <;> simp only [strD] at h <;> first
    | (cases h; done)
    | (simp only [Option.some.injEq, e1] at h; subst h
       simp [Sem.run_bind, he, binOp, Op.stringOp])
theorem cat_run {a b : ByteArray} (h : stok (a.size + b.size) = true) (t : TypeId) (x y : Operand) (w : World) :
    (do eqGuard .add t x y (.string a) (.string b); binOp .add t (.string a) (.string b) : Sem Value).run P w = .ok (.string (a ++ b)) w := by
  have he : ∀ w, (eqGuard .add t x y (.string a) (.string b)).run P w = .ok () w := fun w => by rw [eqGuard_at_string]; rfl
  simp only [stok, decide_eq_true_eq] at h
  have hb' : ¬ ((a.size : Int) + (b.size : Int) > 9223372036854775807) := by simp only [maxLen] at h; omega
  simp only [Sem.run_bind, he, binOp, Op.stringOp, IntKind.max_i64, Result.andThen_ok]
  rw [if_neg (by simpa using hb')]; rfl
variable {G : Tab} (hG : TabOK P G) {ob : Nat → Option TObj} (hob : ∀ nm o, ob nm = some o → objOK c nm o)
include hG in
theorem bin_sound {op : BinOp} {t : TypeId} {x y v : TV} {vx vy : Value} (ox oy : Operand) (hx : sat c x vx) (hy : sat c y vy) (h : binT G op t x y = some (true, v)) :
    ∃ u, sat c v u ∧ ∀ w, (do eqGuard op t ox oy vx vy; binOp op t vx vy : Sem Value).run P w = .ok u w := by
  unfold binT at h
  split at h
  case h_1 hx hy s k a s' k' b =>
    have := sat_int.1 hx
    subst this
    have := sat_int.1 hy
    subst this
    split at h
    case h_1 =>
      split at h
      case h_2 => cases h
      case h_1 cc z hz =>
        simp only [Option.some.injEq, Prod.mk.injEq] at h
        obtain ⟨rfl, rfl⟩ := h
        exact ⟨_, sat_int.2 rfl, fun w => sh_run hz t ox oy w⟩
    case h_2 =>
      split at h
      case h_2 => cases h
      case h_1 cc z hz =>
        simp only [Option.some.injEq, Prod.mk.injEq] at h
        obtain ⟨rfl, rfl⟩ := h
        exact ⟨_, sat_int.2 rfl, fun w => sh_run hz t ox oy w⟩
    case h_3 =>
      split at h
      case isFalse => cases h
      case isTrue hk =>
        subst hk
        split at h
        case h_1 z hz =>
          simp only [Option.some.injEq, Prod.mk.injEq] at h
          obtain ⟨_, rfl⟩ := h
          exact ⟨_, sat_bool.2 rfl, fun w => cmp_run hz t ox oy w⟩
        case h_2 =>
          split at h
          case h_2 => cases h
          case h_1 cc z hz =>
            simp only [Option.some.injEq, Prod.mk.injEq] at h
            obtain ⟨rfl, rfl⟩ := h
            exact ⟨_, sat_int.2 rfl, fun w => ari_run hz t ox oy w⟩
  case h_2 hx hy s a s' b =>
    have := sat_str.1 hx
    subst this
    have := sat_str.1 hy
    subst this
    split at h
    case h_1 =>
      simp only [Option.some.injEq, Prod.mk.injEq] at h
      obtain ⟨hc, rfl⟩ := h
      exact ⟨_, sat_str.2 rfl, fun w => cat_run hc t ox oy w⟩
    case h_2 =>
      split at h
      case h_2 => cases h
      case h_1 z hz =>
        simp only [Option.some.injEq, Prod.mk.injEq] at h
        obtain ⟨_, rfl⟩ := h
        exact ⟨_, sat_bool.2 rfl, fun w => str_run hz t ox oy w⟩
  case h_3 hx hy s a s' b =>
    have := sat_bool.1 hx
    subst this
    have := sat_bool.1 hy
    subst this
    split at h
    case h_2 => cases h
    case h_1 z ht hz =>
      simp only [Option.some.injEq, Prod.mk.injEq] at h
      obtain ⟨_, rfl⟩ := h
      obtain ⟨q, hq, hqt⟩ := tyOf_look ht
      have hu := tyB_bool (hG.ty hq) hqt
      refine ⟨_, sat_bool.2 rfl, fun w => ?_⟩
      change Bool at a
      change Bool at b
      have he : ∀ w, (eqGuard op t ox oy (.bool a) (.bool b)).run P w = .ok () w := fun w => by rw [eqGuard_at_bool]; rfl
      cases op <;> simp only [boolD] at hz <;> first
        | (cases hz; done)
        | (simp only [Option.some.injEq] at hz; subst hz
           rw [Sem.run_bind, he, Result.andThen_ok]
           first | exact run_eql_bool w t a b hu | exact run_neq_bool w t a b hu)
  case h_4 hx hy s t1 a s' t2 b _ _ _ =>
    split at h
    case h_2 => cases h
    case h_1 t3 b' heq ht hb =>
      split at h
      case isFalse => cases h
      case isTrue hc =>
        obtain ⟨rfl, hag⟩ := hc
        split at h
        case h_2 => cases h
        case h_1 z hz =>
          simp only [Option.some.injEq, Prod.mk.injEq] at h
          obtain ⟨_, rfl⟩ := h
          have := castT_eq hb
          injection this with h1 h2
          subst h1
          cases h2
          obtain ⟨vs, rfl, hvs⟩ := (sat_agg (v := .val s t2 a) rfl hag).1 hx
          obtain ⟨us, rfl, hus⟩ := (sat_agg (v := .val s' t2 b) rfl hag).1 hy
          simp only [satC] at hvs hus
          have hq := hG.eq heq
          unfold eqT at hq
          rw [ht] at hq
          simp only [Bool.and_eq_true, Bool.not_eq_true'] at hq
          have hrun := fun w => eqB_sound (c := c) w 20 10000 (by omega) t _ hq.1 a b vs us hvs hus
          rw [hag] at hrun
          have hgd := fun w => run_eqGuard_agg (P := P) w op t ox oy vs.toArray us.toArray hq.2
          have hz2 : ∀ bb : Bool, isEq bb a b → bb = @eqd _ t2.deq a b := fun bb hbb => by
            unfold isEq at hbb
            rw [Bool.eq_iff_iff, hbb]; simp [eqd]
          cases op <;> simp only [eqD] at hz <;> first
            | (cases hz; done)
            | (simp only [Option.some.injEq] at hz; subst hz
               refine ⟨_, sat_bool.2 rfl, fun w => ?_⟩
               obtain ⟨bb, h1, h2⟩ := hrun w
               simp only [valC] at h1
               rw [Sem.run_bind, hgd w, Result.andThen_ok]
               first | rw [run_eql_struct, h1, hz2 bb h2] | rw [run_neq_struct, h1, hz2 bb h2]
               rfl)
  case h_5 => cases h
theorem bytes_us : ∀ {l : List Int} {s : Bool} {us : List Value}, rowsS (VS c s (.int .u8)) l us → us = l.map fun n => .int .u8 n
  | [], s, us, h => by simp only [rowsS] at h; subst h; rfl
  | x :: l, s, us, h => by
    simp only [rowsS] at h
    obtain ⟨v, r, rfl, h1, h2⟩ := h
    simp only [VS] at h1
    subst h1
    rw [bytes_us h2]; rfl
theorem isByte_spec (hG : TabOK P G) {t : TypeId} (h : isByte G t = true) (hs : ∃ e, tyOf G t = some (.sl e)) : ∃ x, look G.ty t = some x ∧ P.underlying t = some (.slice x.nf) ∧ P.underlying x.nf = some (.int .u8) := by
  unfold isByte at h
  split at h
  case h_2 => cases h
  case h_1 x hx =>
    split at h
    case h_2 => cases h
    case h_1 ht =>
      obtain ⟨e, he⟩ := hs
      obtain ⟨x', hx', hxt⟩ := tyOf_look he
      rw [hx] at hx'; injection hx' with hx'; subst hx'
      obtain ⟨q, hq, hqt⟩ := tyOf_look ht
      exact ⟨x, hx, (tyB_sl (hG.ty hx) hxt).1, tyB_int (hG.ty hq) hqt⟩
include hG hob in
theorem cv_sound {src dst : TypeId} {x v : TV} {vx : Value} (hx : sat c x vx) (h : cvT G src dst ob x = some v) :
    ∃ y, sat c v y ∧ (convert src dst vx).run P c.w = .ok y c.w := by
  unfold cvT at h
  split at h
  case h_1 hx k1 k s k2 n hs hd =>
    simp only [Option.some.injEq] at h; subst h
    have := sat_int.1 hx
    subst this
    obtain ⟨q1, g1, e1⟩ := tyOf_look hs
    obtain ⟨q2, g2, e2⟩ := tyOf_look hd
    have u1 := tyB_int (hG.ty g1) e1
    have u2 := tyB_int (hG.ty g2) e2
    refine ⟨_, sat_int.2 rfl, ?_⟩
    simp [convert, run_underlying u1, run_underlying u2, Conv.intToInt, wrapD]
    exact (wK_eq k n).symm
  case h_2 hx s a hs hd =>
    simp only [Option.some.injEq] at h; subst h
    have := sat_str.1 hx
    subst this
    obtain ⟨q1, g1, e1⟩ := tyOf_look hs
    obtain ⟨q2, g2, e2⟩ := tyOf_look hd
    have u1 := tyB_str (hG.ty g1) e1
    have u2 := tyB_str (hG.ty g2) e2
    refine ⟨_, sat_str.2 rfl, ?_⟩
    simp [convert, run_underlying u1, run_underlying u2]
  case h_3 hx hs hd =>
    split at h
    case h_2 => cases h
    case h_1 s n l hl hb =>
      simp only [Option.some.injEq] at h; subst h
      change List Int at l
      obtain ⟨q, hq, u1, u3⟩ := isByte_spec hG hb ⟨_, hs⟩
      obtain ⟨q2, g2, e2⟩ := tyOf_look hd
      have u2 := tyB_str (hG.ty g2) e2
      obtain ⟨a, cap, rfl, h1, h2, h3⟩ := asTL_sound hob hl (asT_cell hl hx)
      refine ⟨.string (strOfNums l), sat_str.2 rfl, ?_⟩
      rcases h3 with h3 | ⟨b, off, us, rfl, g1, g3, g4⟩
      · have h3 : l = [] := h3
        subst h3
        have key : (convert src dst (.slice a 0 cap)).run P c.w = .ok (.string ByteArray.empty) c.w := by
          cases a with
          | none => exact run_convert_bytes_nil c.w src q.nf u1 u3 0 cap dst u2
          | some ad =>
            rw [run_convert_bytes_string c.w src dst q.nf _ _ cap u1 u3 u2]
            simp [Conv.bytesToString, loadCells, loadCellsFrom]
        exact key
      · have hus := bytes_us g3
        subst hus
        refine run_convert_bytes_arg c.w src q.nf u1 u3 b off l.length cap l rfl (fun i hi => ?_) dst u2
        refine g4 i _ ?_
        rw [List.getElem?_map, List.getElem?_eq_getElem hi, List.getD_eq_getElem?_getD, List.getElem?_eq_getElem hi]; rfl
  case h_4 => cases h
theorem strs_spec {x : TV} {s : Ty.str.den} {vx : Value} (hx : sat c x vx) (h : strs x = some s) : vx = .string s := by
  unfold strs at h
  split at h
  case h_2 => cases h
  case h_1 hx s' S =>
    injection h with h; subst h
    exact sat_str.1 hx
include hob in
theorem len_spec {x : TV} {n : NatD} {vx : Value} (hx : sat c x vx) (h : lenT ob x = some n) (hs : strs x = none) : ∃ a cap, vx = .slice a n cap := by
  unfold lenT at h
  split at h
  case h_1 hx s e l => injection h with h; subst h; obtain ⟨a, cap, rfl, _⟩ := sat_sl.1 hx; exact ⟨a, cap, rfl⟩
  case h_2 => cases hs
  case h_3 hx s e l => injection h with h; subst h; obtain ⟨a, rfl, _⟩ := sat_fl.1 hx; exact ⟨a, _, rfl⟩
  case h_4 hx => injection h with h; subst h; exact ⟨none, 0, sat_nil.1 hx⟩
  case h_5 hx nm =>
    split at h
    case h_2 => cases h
    case h_1 ty s e l ho =>
      injection h with h; subst h
      obtain ⟨k, ln, hL, hown⟩ := sat_own.1 hx
      have hL' := (hob nm _ ho).1
      rw [hL] at hL'
      simp only [Option.some.injEq, Prod.mk.injEq] at hL'
      obtain ⟨rfl, rfl⟩ := hL'
      rcases hown with ⟨h0, a, rfl⟩ | ⟨b, k', ln', cap, cur, ty', fr, _, _, rfl, _⟩
      · exact ⟨a, 0, by show Value.slice a 0 0 = .slice a (List.length l) 0; rw [h0]⟩
      · exact ⟨_, cap, rfl⟩
  case h_6 hx nm off len =>
    injection h with h; subst h
    rcases sat_ownp.1 hx with ⟨h0, a, rfl⟩ | ⟨b, k', ln', cap, cur, ty', fr, _, _, rfl, _⟩
    · exact ⟨a, 0, by rw [h0]⟩
    · exact ⟨_, cap, rfl⟩
  case h_7 hx nm p e len => injection h with h; subst h; obtain ⟨b, k, ln, cap, _, rfl, _⟩ := sat_sv.1 hx; exact ⟨_, cap, rfl⟩
  case h_8 => cases h
end
end Go.Tv
namespace Go.Tv
open Go Go.RowKit
theorem foldl_set (off : Nat) : ∀ (vs : List Value) (k : Nat) (cells : Array Value), off + k + vs.length ≤ cells.size →
    ((vs.zipIdx k).foldl (fun cs (p : Value × Nat) => cs.setIfInBounds (off + p.2) p.1) cells).toList = cells.toList.take (off + k) ++ vs ++ cells.toList.drop (off + k + vs.length)
  | [], k, cells, _ => by simp
  | v :: vs, k, cells, h => by
    simp only [List.zipIdx_cons, List.foldl_cons]
    rw [foldl_set off vs (k + 1) (cells.setIfInBounds (off + k) v) (by simp at h ⊢; omega)]
    have := list_seg_step cells.toList (off + k) v vs (by simp at h ⊢; omega)
    simpa [Nat.add_assoc] using this
section
variable {P : Program} {c : Ctx} {G : Tab} (hG : TabOK P G)
theorem fill_sound {t : TypeId} {e : Nat → TV} {a : Act} (he : EvOK c e a) {pl : Nat → Option (Nat × Nat)} (hpl : ∀ i p n, place G t i = some (p, n) → pl i = some (offS p, n) ∧ PathOK 0 p ∧ 0 < n) :
    ∀ {parts : List (Nat × Operand)} {c0 c1 : TV} {cells : Array Value}, fillT G t e parts c0 = some c1 → satC c c0 cells.toList → cells.size = sizeT c0 →
    ∃ cells', Instr.fill pl cells (parts.map fun p => (p.1, a.eval p.2)) = some cells' ∧ satC c c1 cells'.toList ∧ cells'.size = sizeT c1
  | [], c0, c1, cells, h, hs, hl => by
    simp only [fillT, Option.some.injEq] at h
    subst h
    exact ⟨cells, rfl, hs, hl⟩
  | (i, x) :: r, c0, c1, cells, h, hs, hl => by
    simp only [fillT] at h
    split at h
    case h_2 => cases h
    case h_1 p n hp =>
      split at h
      case h_2 => cases h
      case h_1 c' hn hset =>
        have hn := Nat.eq_of_beq_eq_true hn
        obtain ⟨g1, g2, g3⟩ := hpl i p n hp
        obtain ⟨k1, k2⟩ := sat_cells (he x) (by omega)
        obtain ⟨m1, m2, m3⟩ := setP_sound hset hs (by simpa using hl) g2 k1 (by simpa using k2)
        simp only [Array.length_toList] at m3
        have hf := foldl_set (offS p) (a.eval x).cells.toList 0 cells (by simp; omega)
        simp only [Nat.add_zero, Array.length_toList] at hf m1
        have e1 : (a.eval x).cells.zipIdx.foldl (fun cs (q : Value × Nat) => cs.setIfInBounds (offS p + q.2) q.1) cells = ((a.eval x).cells.toList.zipIdx 0).foldl (fun cs (q : Value × Nat) => cs.setIfInBounds (offS p + q.2) q.1) cells := by
          rw [← Array.foldl_toList]; simp
        rw [← e1] at hf
        have hsz : ((a.eval x).cells.zipIdx.foldl (fun cs (q : Value × Nat) => cs.setIfInBounds (offS p + q.2) q.1) cells).size = sizeT c' := by
          have := congrArg List.length hf
          simp only [Array.length_toList, List.length_append, List.length_take, List.length_drop] at this
          omega
        obtain ⟨cells', q1, q2, q3⟩ := fill_sound he hpl h (by rw [hf]; exact m1) hsz
        refine ⟨cells', ?_, q2, q3⟩
        simp only [List.map_cons, Instr.fill, g1]
        rw [if_neg (by simp; omega)]
        exact q1
theorem zeroT_sat (c : Ctx) : ∀ t : Ty, satC c (zeroT t) t.zcells ∧ sizeT (zeroT t) = t.size
  | .int k => ⟨by simp only [zeroT, satC]; exact VS_zero c true (.int k), rfl⟩
  | .bool => ⟨by simp only [zeroT, satC]; exact VS_zero c true .bool, rfl⟩
  | .str => ⟨by simp only [zeroT, satC]; exact VS_zero c true .str, rfl⟩
  | .arr n e => ⟨by simp only [zeroT, satC]; exact VS_zero c true (.arr n e), rfl⟩
  | .sl e => ⟨by simp only [zeroT, satC]; rfl, rfl⟩
  | .pair a b => by
    simp only [zeroT]
    split
    · exact ⟨by simp only [satC]; exact VS_zero c true (.pair a b), rfl⟩
    · obtain ⟨h1, h2⟩ := zeroT_sat c a
      obtain ⟨h3, h4⟩ := zeroT_sat c b
      refine ⟨?_, by simp only [sizeT, h2, h4]; rfl⟩
      simp only [satC, Ty.zcells]
      exact ⟨_, _, rfl, by rw [zcells_len, h2], by rw [zcells_len, h4], h1, h3⟩
theorem fldB_all {P : Program} : ∀ {F : List Field} {t : Ty} {off : Nat}, fldB P F t off = true → ∀ f ∈ F, ∃ u, Inf P f.type u
  | [], t, off, h, _, hf => by simp at hf
  | [f], t, off, h, g, hg => by
    simp only [fldB, Bool.and_eq_true] at h
    simp only [List.mem_singleton] at hg
    subst hg; exact ⟨_, infB_spec h.2⟩
  | f :: g :: l, .pair a b, off, h, x, hx => by
    simp only [fldB, Bool.and_eq_true] at h
    rcases List.mem_cons.1 hx with rfl | hx
    · exact ⟨_, infB_spec h.1.2⟩
    · exact fldB_all (F := g :: l) h.2 x hx
  | f :: g :: l, .int _, off, h, _, _ => by simp [fldB] at h
  | f :: g :: l, .bool, off, h, _, _ => by simp [fldB] at h
  | f :: g :: l, .str, off, h, _, _ => by simp [fldB] at h
  | f :: g :: l, .arr _ _, off, h, _, _ => by simp [fldB] at h
  | f :: g :: l, .sl _, off, h, _, _ => by simp [fldB] at h
def szOf (P : Program) (t : TypeId) : Nat := match P.info? t with | some i => i.size | none => 0
theorem szOf_inf {t : TypeId} {u : Ty} (h : Inf P t u) : szOf P t = u.size := by
  obtain ⟨i, z, h1, h2, _⟩ := h.info
  simp [szOf, h1, h2]
theorem fields_mapM : ∀ (FL : List Field), (∀ f ∈ FL, ∃ u, Inf P f.type u) →
    FL.mapM (fun f => (P.info? f.type).map fun i => (f.offset, i.size)) = some (FL.map fun f => (f.offset, szOf P f.type))
  | [], _ => rfl
  | x :: l, hall => by
    obtain ⟨u, hu⟩ := hall x (by simp)
    obtain ⟨i, z, h1, h2, _⟩ := hu.info
    rw [List.mapM_cons, fields_mapM l (fun f hf => hall f (by simp [hf]))]
    simp [h1, szOf]
include hG in
theorem bd_sound {t : TypeId} {ty : Ty} {e : Nat → TV} {a : Act} (he : EvOK c e a) {parts : List (Nat × Operand)} {v : TV} (hty : tyOf G t = some ty) (hag : ty.agg = true) (h : fillT G t e parts (zeroT ty) = some v) (hv : aggT v = true) :
    ∃ y, sat c v y ∧ ∀ w', (Instr.build t (parts.map fun p => (p.1, a.eval p.2)).toArray).run P w' = .ok y w' := by
  obtain ⟨x, hx, rfl⟩ := tyOf_look hty
  have hok := hG.ty hx
  obtain ⟨i, z, hi, hi1, hi2, hi3⟩ := (tyB_inf hok).info
  obtain ⟨z1, z2⟩ := zeroT_sat c x.t
  rw [← hi3] at z1
  have hzs : z.cells.size = sizeT (zeroT x.t) := by
    rw [z2, ← zcells_len, ← hi3]; simp
  have main : ∀ {pl : Nat → Option (Nat × Nat)}, (∀ i p n, place G t i = some (p, n) → pl i = some (offS p, n) ∧ PathOK 0 p ∧ 0 < n) →
      (∀ cells', Instr.fill pl z.cells (parts.map fun p => (p.1, a.eval p.2)) = some cells' → P.built t (parts.map fun p => (p.1, a.eval p.2)) = some cells') →
      ∃ y, sat c v y ∧ ∀ w', (Instr.build t (parts.map fun p => (p.1, a.eval p.2)).toArray).run P w' = .ok y w' := by
    intro pl hpl hb
    obtain ⟨cells', k1, k2, k3⟩ := fill_sound he hpl h z1 hzs
    exact ⟨.agg cells', (sat_agg (agg_tup hv) hv).2 ⟨cells'.toList, by simp, k2⟩, fun w' => run_build w' t _ cells' (hb cells' k1)⟩
  cases ht : x.t with
  | arr n e' =>
    obtain ⟨el, hu, hie⟩ := tyB_arr hok ht
    obtain ⟨j, zj, hj1, hj2, _⟩ := hie.info
    refine main (pl := fun i => some (i * e'.size, e'.size)) ?_ ?_
    · intro i p n hp
      unfold place at hp
      rw [hx] at hp
      simp only [ht] at hp
      split at hp
      case h_2 => cases hp
      case h_1 hlt =>
        simp only [Option.some.injEq, Prod.mk.injEq] at hp
        obtain ⟨rfl, rfl⟩ := hp
        exact ⟨by simp [offS, nlit], ⟨Nat.le_of_ble_eq_true hlt, trivial⟩, hie.pos⟩
    · intro cells' hf
      unfold Program.built
      simp only [hi, hu, hi2, hj1, hj2]
      exact hf
  | pair a' b' =>
    obtain ⟨F, hu, hlen, hfld⟩ := tyB_pair hok ht
    have hall := fldB_all hfld
    refine main (pl := fun i => (F.toList[i]?).map fun f => (f.offset, szOf P f.type)) ?_ ?_
    · intro i p n hp
      unfold place at hp
      rw [hx] at hp
      simp only [ht] at hp
      split at hp
      case h_2 => cases hp
      case h_1 p' u hf =>
        simp only [Option.some.injEq, Prod.mk.injEq] at hp
        obtain ⟨rfl, rfl⟩ := hp
        obtain ⟨F', g, hu', hF, ho, hi', hp'⟩ := fldT_spec hok hf
        rw [hu] at hu'; injection hu' with hu'; injection hu' with hu'; subst hu'
        refine ⟨?_, hp' _, hi'.pos⟩
        rw [Array.getElem?_toList, hF]
        simp [ho, szOf_inf hi']
    · intro cells' hf
      unfold Program.built
      simp only [hi, hu, hi2, fields_mapM F.toList hall]
      have e1 : (fun i : Nat => ((F.toList.map fun f => (f.offset, szOf P f.type)).toArray)[i]?) = fun i : Nat => (F.toList[i]?).map fun f => (f.offset, szOf P f.type) := by
        funext i; simp
      rw [e1]; exact hf
  | _ => rw [ht] at hag; cases hag
theorem nthT_sound : ∀ {v u : TV} {n : Nat} {vs : List Value}, nthT v n = some u → satT c v vs → ∃ z, vs[n]? = some z ∧ satV c u z
  | .tcons a b, u, 0, vs, h, hs => by
    simp only [nthT, Option.some.injEq] at h
    subst h
    simp only [satT] at hs
    obtain ⟨v, r, rfl, h1, _⟩ := hs
    exact ⟨v, rfl, h1⟩
  | .tcons a b, u, n + 1, vs, h, hs => by
    simp only [nthT] at h
    simp only [satT] at hs
    obtain ⟨v, r, rfl, _, h2⟩ := hs
    obtain ⟨z, k1, k2⟩ := nthT_sound h h2
    exact ⟨z, by simpa using k1, k2⟩
  | .any, _, _, _, h, _ | .und, _, _, _, h, _ | .nil, _, _, _, h, _ | .val .., _, _, _, h, _ | .fl .., _, _, _, h, _ | .pr .., _, _, _, h, _ | .ptr .., _, _, _, h, _ | .rptr .., _, _, _, h, _ | .own _, _, _, _, h, _ | .ownp .., _, _, _, h, _ | .sv .., _, _, _, h, _ | .clo .., _, _, _, h, _ | .tnil, _, _, _, h, _ => by simp [nthT] at h
theorem caps_sound {e : Nat → TV} {a : Act} (he : EvOK c e a) : ∀ {l : List Operand}, capsOK e l = true → satC c (capsT e l) (l.map a.eval)
  | [], _ => by simp only [capsT, List.map_nil, satC]
  | x :: l, h => by
    simp only [capsOK, Bool.and_eq_true] at h
    have h1 := Nat.eq_of_beq_eq_true h.1.1
    have h2 := beqB_eq h.1.2
    have ht : isTup (evA e x) = false := by
      cases hq : evA e x <;> first | rfl | (rw [hq] at h1; simp [sizeT] at h1)
    have hs := (sat_one ht h2).1 (he x)
    simp only [capsT, List.map_cons, satC]
    exact ⟨_, _, rfl, satC_one hs (by rw [h1]; rfl) _ (by simp), hs, caps_sound he h.2⟩
theorem foldT_sound {f : {k : IntKind} → (Ty.int k).den → (Ty.int k).den → (Ty.int k).den} {F : Value → Value → Sem Value} (hF : ∀ (k : IntKind) (p q : Int) (w : World), (F (.int k p) (.int k q)).run P w = .ok (.int k (f (k := k) p q)) w) (w : World) {e : Nat → TV} {a : Act} (he : EvOK c e a) :
    ∀ {l : List Operand} {x v : TV} {vx : Value}, foldT f x (l.map (evA e)) = some v → sat c x vx → ∃ u, sat c v u ∧ ((l.map a.eval).foldlM F vx).run P w = .ok u w
  | [], x, v, vx, h, hx => by
    simp only [List.map_nil, foldT, Option.some.injEq] at h
    subst h
    exact ⟨vx, hx, by simp⟩
  | y :: l, x, v, vx, h, hx => by
    have hy := he y
    simp only [List.map_cons] at h
    unfold foldT at h
    split at h
    case h_1 heq => cases heq
    case h_3 => cases h
    case h_2 hx s k p s' k' q r heq =>
      injection heq with h1 h2
      subst h2
      rw [h1] at hy
      split at h
      case isFalse => cases h
      case isTrue hk =>
        subst hk
        have e1 := sat_int.1 hx
        have e2 := sat_int.1 hy
        obtain ⟨u, k1, k2⟩ := foldT_sound hF w he h (vx := .int k (f (k := k) p q)) (sat_int.2 rfl)
        refine ⟨u, k1, ?_⟩
        rw [List.map_cons, List.foldlM_cons, Sem.run_bind, e1, e2, hF k p q w]
        exact k2
end
end Go.Tv
