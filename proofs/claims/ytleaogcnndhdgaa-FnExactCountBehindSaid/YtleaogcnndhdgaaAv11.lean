/- A part of the proof that a law of the seat holds: ZAv11. -/
import Derived.Test.YtleaogcnndhdgaaAv10
namespace Go.Av
open Go Go.RowKit

section
variable {P : Program} (G : Sg P)

/-! ### append -/
def srcA (k : Nat) (ob : Nat → Option AObj) : AV → Option (List (List AV))
  | .ro els _ => some els
  | .sl nm off len => (ob nm).bind fun o => if o.k = some k ∧ off + len ≤ o.segs.length then some ((o.segs.drop off).take len) else none
  | .sv nm s off len => (ob nm).bind fun o => (o.segs[s]?).bind fun e => if off + len ≤ e.length then some (((e.drop off).take len).map fun c => [c]) else none
  | _ => none

/-- what append gives: the name that is given up, the length, the new row -/
def appA (t : TypeId) (ob : Nat → Option AObj) (x y : AV) : Option (Option Nat × Nat × AObj) :=
  match kindOf G t with
  | some (.slice el) =>
    (match G.TF el with
     | some f =>
       (match srcA f.size ob y with
        | some src =>
          (match x with
           | .ro els true => if (els = [] ∨ src ≠ []) ∧ (∀ e ∈ els, e.length = f.size) ∧ (∀ e ∈ src, e.length = f.size) ∧ (els.length + src.length) * f.bytes ≤ 140737488355328 ∧ els.length + src.length ≤ maxLen then
               some (none, els.length + src.length, ⟨el, some f.size, els ++ src⟩) else none
           | .sl nm 0 len =>
             (match ob nm with
              | some o => if o.k = some f.size ∧ o.ty = el ∧ len = o.segs.length ∧ (∀ e ∈ src, e.length = f.size) ∧ (len + src.length) * f.bytes ≤ 140737488355328 ∧ len + src.length ≤ maxLen then
                  some (some nm, len + src.length, ⟨el, some f.size, o.segs ++ src⟩) else none
              | none => none)
           | _ => none)
        | none => none)
     | none => none)
  | _ => none

/-- a slice's elements, as values in memory -/
theorem src_vals {c : Ctx} {ob : Nat → Option AObj} (hob : ∀ nm o, ob nm = some o → objOK c nm o) {k : Nat} {y : AV} {vy : Value} {src : List (List AV)} (hs : srcA k ob y = some src) (hk : ∀ e ∈ src, e.length = k) (hv : sat c y vy) :
    ∃ (ad : Option Addr) (cap : Nat) (vs : List Value), vy = .slice ad src.length cap ∧ satList c src.flatten vs ∧ vs.length = src.length * k ∧
      (src.length = 0 ∨ ∃ b o, ad = some ⟨b, o, none⟩ ∧ ∀ q v, vs[q]? = some v → c.w.cell? ⟨b, o + q, none⟩ = some v) := by
  have hfl : src.flatten.length = src.length * k := by
    have := presegs_uni hk (Nat.le_refl src.length)
    rw [presegs_eq, List.take_length] at this; exact this
  have mem : ∀ {b o : Nat}, satSegs c b o src → ∃ vs : List Value, satList c src.flatten vs ∧ vs.length = src.length * k ∧ ∀ q v, vs[q]? = some v → c.w.cell? ⟨b, o + q, none⟩ = some v := by
    intro b o h
    rw [satSegs_flat] at h
    obtain ⟨vs, h1, h2⟩ := satCells_vals h
    exact ⟨vs, h1, (satList_len h1).trans hfl, h2⟩
  cases y <;> simp only [srcA] at hs
  case ro els fl =>
    simp only [Option.some.injEq] at hs; subst hs
    simp only [sat] at hv
    obtain ⟨a, cap, rfl, g1, g2, g3, g4⟩ := hv
    rcases g4 with g4 | ⟨b, off, k', rfl, g5, g6, g7, g8⟩
    · rw [g4]; exact ⟨a, cap, [], rfl, by simp [satList], by simp, .inl rfl⟩
    · obtain ⟨vs, h1, h2, h3⟩ := mem g8
      exact ⟨_, cap, vs, rfl, h1, h2, .inr ⟨b, off, rfl, h3⟩⟩
  case sl nm off len =>
    cases ho : ob nm with
    | none => rw [ho] at hs; cases hs
    | some o =>
      rw [ho] at hs
      simp only [Option.bind_some] at hs
      split at hs
      case isFalse => cases hs
      case isTrue hc =>
        obtain ⟨hk1, hle⟩ := hc
        simp only [Option.some.injEq] at hs
        have hl : src.length = len := by rw [← hs]; simp; omega
        simp only [sat] at hv
        rcases hv with ⟨h0, a, rfl⟩ | ⟨b, k', cap, cur, ty, fr, hm, hL, rfl, _⟩
        · have : src = [] := List.eq_nil_of_length_eq_zero (by omega)
          subst this
          exact ⟨a, 0, [], rfl, by simp [satList], by simp, .inl rfl⟩
        · rcases hob nm o ho with ⟨hn, _⟩ | ⟨b2, cur2, fr2, e1, e2, _, e4, ⟨k2, cap2, e5, e6, e7, _⟩ | ⟨e5, _⟩⟩
          · rw [hm] at hn; cases hn
          · rw [hm] at e1; injection e1 with e1; subst e1
            rw [hk1] at e5; injection e5 with e5; subst e5
            rw [hL] at e6; injection e6 with e6; subst e6
            have hsub := satSegs_sub (l := off) (n := len) e4 e7 (by omega)
            rw [hs, Nat.zero_add] at hsub
            obtain ⟨vs, h1, h2, h3⟩ := mem hsub
            exact ⟨_, cap, vs, by rw [hl], h1, h2, .inr ⟨b, off * k', rfl, h3⟩⟩
          · rw [hk1] at e5; cases e5
  case sv nm s off len =>
    cases ho : ob nm with
    | none => rw [ho] at hs; cases hs
    | some o =>
      rw [ho] at hs
      simp only [Option.bind_some] at hs
      cases he : o.segs[s]? with
      | none => rw [he] at hs; cases hs
      | some e =>
        rw [he] at hs
        simp only [Option.bind_some] at hs
        split at hs
        case isFalse => cases hs
        case isTrue hle =>
          simp only [Option.some.injEq] at hs
          have hl : src.length = len := by rw [← hs]; simp; omega
          simp only [sat] at hv
          obtain ⟨b, cap, hm, rfl, hlc⟩ := hv
          rcases hob nm o ho with ⟨hn, _⟩ | ⟨b2, cur2, fr2, e1, e2, _, e4, e5⟩
          · rw [hm] at hn; cases hn
          · rw [hm] at e1; injection e1 with e1; subst e1
            have hsl : s < o.segs.length := (List.getElem?_eq_some_iff.1 he).1
            have hpre := (hob nm o ho).pre (Nat.le_of_lt hsl)
            rw [satSegs_flat] at e4
            have hsub : satCells c b ((c.L nm).pre s + off) ((e.drop off).take len) := by
              refine satCells_of fun q av hq => ?_
              rw [List.getElem?_take] at hq
              split at hq
              · rw [List.getElem?_drop] at hq
                have := satCells_get e4 (flat_get he hq)
                rw [hpre]
                simpa only [Nat.zero_add, Nat.add_assoc] using this
              · cases hq
            have hfs : src.flatten = (e.drop off).take len := by
              rw [← hs]; exact flatten_single (fun c => c) _ |>.trans (by simp)
            obtain ⟨vs, h1, h2⟩ := satCells_vals hsub
            rw [← hfs] at h1
            exact ⟨_, cap, vs, by rw [hl], h1, (satList_len h1).trans hfl, .inr ⟨b, _, rfl, h2⟩⟩
  all_goals cases hs

theorem run_firstCells {P : Program} (w : World) (size n : Nat) (ad : Option Addr) (cap : Nat) (cs : List Value) (hl : cs.length = n * size) (h : n = 0 ∨ ∃ b o, ad = some ⟨b, o, none⟩ ∧ ∀ q v, cs[q]? = some v → w.cell? ⟨b, o + q, none⟩ = some v) :
    (Builtin.firstCells size n (.slice ad n cap)).run P w = .ok cs.toArray w := by
  rcases h with rfl | ⟨b, o, rfl, h⟩
  · have : cs = [] := List.eq_nil_of_length_eq_zero (by simpa using hl)
    subst this
    cases ad with
    | none => simp [Builtin.firstCells]
    | some a => simp [Builtin.firstCells, loadCells, loadCellsFrom]
  · exact run_firstCells_some w size n ⟨b, o, none⟩ n cap cs hl (fun j v hj => by rw [add_plain]; exact h j v hj)

variable {B : Base} {F : Nat → Prop} {st : St} {m : Nat → Option Nat} {L : Nat → Lay} {a : Act} {w : World}

/-- the row moves to new memory -/
theorem run_append_move {t ty el : TypeId} {f : TFact} (hd : P.underlying t = some (.slice el)) (hok : f.ok P el) (w : World) (ad1 ad2 : Option Addr) (n1 c1 n2 c2 : Nat) (olds news : List Value)
    (hlo : olds.length = n1 * f.size) (ho : n1 = 0 ∨ ∃ b o, ad1 = some ⟨b, o, none⟩ ∧ ∀ q v, olds[q]? = some v → w.cell? ⟨b, o + q, none⟩ = some v)
    (hln : news.length = n2 * f.size) (hn : n2 = 0 ∨ ∃ b o, ad2 = some ⟨b, o, none⟩ ∧ ∀ q v, news[q]? = some v → w.cell? ⟨b, o + q, none⟩ = some v)
    (hg : c1 < n1 + n2) (h63 : n1 + n2 ≤ maxLen) (hb : (n1 + n2) * f.bytes ≤ 140737488355328) :
    (Builtin.append_ #[t, t] ty #[.slice ad1 n1 c1, .slice ad2 n2 c2]).run P w =
      .ok (.slice (some ⟨w.heap.size, 0, none⟩) (n1 + n2) (grownCap w (n1 + n2) c1 el))
        (w.drew.alloc (.cells (olds.toArray ++ news.toArray ++ Builtin.zeroCells f.zero.cells (grownCap w (n1 + n2) c1 el - (n1 + n2))) el)) := by
  obtain ⟨i, hi, hi1, hi2, hi3⟩ := hok.info
  have hfit := growslice_fits hg hb
  have e0 : ¬ (n1 + n2 ≤ c1) := by omega
  have e1 : ¬ (9223372036854775807 < ((n1 : Int) + (n2 : Int))) := by simp only [maxLen] at h63; omega
  have e2 : ¬ (281474976710656 < Builtin.nextslicecap (n1 + n2) c1 * f.bytes) := by omega
  have hf1 := run_firstCells (P := P) w.drew f.size n1 ad1 c1 olds hlo ho
  have hf2 := run_firstCells (P := P) w.drew f.size n2 ad2 c2 news hln hn
  simp [Builtin.append_, run_underlying hd, sizeOf, typeInfo, zeroValue, hi, hi1, hi2, hi3, Builtin.lenOf, e0, e1, e2, Question.forced, hf1, hf2, newRow, grownCap]
  congr 2
  apply Array.ext'
  simp

theorem app_sound (h : Rep B F st m L a w) {t ty : TypeId} {x y : AV} {vx vy : Value} (hx : sat (st.ctx m L w) x vx) (hy : sat (st.ctx m L w) y vy) {nm : Nat} (hF : F nm) {ko : Option Nat} {len : Nat} {ob : AObj} (ha : appA G t st.objs x y = some (ko, len, ob)) :
    ∃ v w' m' L', (Builtin.append_ #[t, t] ty #[vx, vy]).run P w = .ok v w' ∧
      Rep B (fun x => F x ∧ x ≠ nm) ((match ko with | some k => st.set k none | none => st).set nm (some ob)) m' L' a w' ∧
      sat (((match ko with | some k => st.set k none | none => st).set nm (some ob)).ctx m' L' w') (.sl nm 0 len) v := by
  unfold appA at ha
  split at ha
  case h_2 => cases ha
  case h_1 el hkd =>
    obtain ⟨d, hd, hfit⟩ := kindOf_und G hkd
    simp only [TK.fits] at hfit; subst hfit
    split at ha
    case h_2 => cases ha
    case h_1 f hf =>
      have hok := G.ok el f hf
      obtain ⟨i, hi, hi1, hi2, hi3⟩ := hok.info
      have hzl := satList_len (zero_sat hok (st.ctx m L w))
      have hzs : f.zero.cells.size = f.size := by
        have : f.zsegs.flatten.length = f.size := by rw [List.length_flatten, hok.zl, hok.ls]
        simp only [Array.length_toList] at hzl; omega
      split at ha
      case h_2 => cases ha
      case h_1 src hsrc =>
        -- new memory for 'olds ++ src'
        have moved : ∀ (st' : St) (els : List (List AV)) (ad1 : Option Addr) (c1 : Nat) (olds news : List Value) (ad2 : Option Addr) (c2 : Nat),
            Rep B F st' m L a w → (∀ e ∈ els, e.length = f.size) → (∀ e ∈ src, e.length = f.size) → satList (st'.ctx m L w) els.flatten olds → satList (st'.ctx m L w) src.flatten news →
            olds.length = els.length * f.size → (els.length = 0 ∨ ∃ b o, ad1 = some ⟨b, o, none⟩ ∧ ∀ q v, olds[q]? = some v → w.cell? ⟨b, o + q, none⟩ = some v) →
            news.length = src.length * f.size → (src.length = 0 ∨ ∃ b o, ad2 = some ⟨b, o, none⟩ ∧ ∀ q v, news[q]? = some v → w.cell? ⟨b, o + q, none⟩ = some v) →
            c1 < els.length + src.length → els.length + src.length ≤ maxLen → (els.length + src.length) * f.bytes ≤ 140737488355328 →
            ∃ v w' m' L', (Builtin.append_ #[t, t] ty #[.slice ad1 els.length c1, .slice ad2 src.length c2]).run P w = .ok v w' ∧
              Rep B (fun x => F x ∧ x ≠ nm) (st'.set nm (some ⟨el, some f.size, els ++ src⟩)) m' L' a w' ∧
              sat ((st'.set nm (some ⟨el, some f.size, els ++ src⟩)).ctx m' L' w') (.sl nm 0 (els.length + src.length)) v := by
          intro st' els ad1 c1 olds news ad2 c2 hr hk1 hk2 hs1 hs2 hlo ho hln hn hg h63 hb
          have hdr : Step (st'.ctx m L w) (st'.ctx m L w.drew) := ⟨(Ev.drew w).mono (fun _ h => h.elim), fun _ _ h => h, fun _ _ h => ⟨h, rfl⟩⟩
          have hrun := run_append_move (ty := ty) hd hok w ad1 ad2 els.length c1 src.length c2 olds news hlo ho hln hn hg h63 hb
          have hge := grownCap_ge w (els.length + src.length) c1 el
          have hcm := grownCap_le_maxLen w (els.length + src.length) c1 el h63
          generalize grownCap w (els.length + src.length) c1 el = gc at *
          have hsz : (olds.toArray ++ news.toArray ++ Builtin.zeroCells f.zero.cells (gc - (els.length + src.length))).size = gc * f.size := by
            simp only [Array.size_append, List.size_toArray, size_zeroCells, hzs, hlo, hln, ← Nat.add_mul]
            congr 1; omega
          refine ⟨_, _, _, _, hrun, (hr.grow (Ev.drew w)).newObj hF ⟨el, some f.size, els ++ src⟩ _ (.uni f.size) (Builtin.zeroCells f.zero.cells (gc - (els.length + src.length))).toList (olds ++ news) (by simp)
            (by rw [List.flatten_append]; exact satList_app (satList_step hdr _ _ hs1) (satList_step hdr _ _ hs2))
            (.inl ⟨f.size, gc, rfl, rfl, fun e he => by
              simp only at he
              rcases List.mem_append.1 he with he | he
              · exact hk1 e he
              · exact hk2 e he, hsz, by simpa using hge, hcm⟩) (0, 0) (noFr_any _), ?_⟩
          simp only [sat, St.ctx]
          exact .inr ⟨w.heap.size, f.size, gc, _, el, (0, 0), by rw [upd_same]; rfl, by rw [upd_same], by simp, hge, al_new w.drew _, by rw [hsz, Nat.zero_add], by omega⟩
        split at ha
        case h_1 els =>
          split at ha
          case isFalse => cases ha
          case isTrue hc =>
            obtain ⟨hcase, hk1, hk2, hb, h63⟩ := hc
            simp only [Option.some.injEq, Prod.mk.injEq] at ha
            obtain ⟨rfl, rfl, rfl⟩ := ha
            simp only
            obtain ⟨ad2, c2, news, rfl, hn1, hn2, hn3⟩ := src_vals h.obj hsrc hk2 hy
            have hro : srcA f.size st.objs (.ro els true) = some els := rfl
            obtain ⟨ad1, c1, olds, e1, ho1, ho2, ho3⟩ := src_vals h.obj hro hk1 hx
            simp only [sat] at hx
            obtain ⟨a', cap, hvx, g1, g2, g3, g4⟩ := hx
            have hc1 : c1 = els.length := by
              rw [hvx] at e1; injection e1 with _ _ e1; rw [← e1]; exact g3 trivial
            by_cases hz : src = []
            · -- nothing is appended to nothing
              have hels : els = [] := by
                rcases hcase with hcase | hcase
                · exact hcase
                · exact absurd hz hcase
              subst hz; subst hels
              refine ⟨.slice ad1 0 0, w, m, _, ?_, h.newVirt hF el f.size, ?_⟩
              · rw [e1, hc1]
                have hf2 := run_firstCells (P := P) w f.size 0 ad2 c2 [] (by simp) (.inl rfl)
                cases ad1 with
                | none => simp [Builtin.append_, run_underlying hd, sizeOf, typeInfo, hi, hi1, Builtin.lenOf, hf2]
                | some ad => simp [Builtin.append_, run_underlying hd, sizeOf, typeInfo, hi, hi1, Builtin.lenOf, hf2, storeCells]
              · simp only [sat]; exact .inl ⟨by simp, ad1, rfl⟩
            · have hpos : 0 < src.length := List.length_pos_iff.2 hz
              rw [e1]
              exact moved st els ad1 c1 olds news ad2 c2 h hk1 hk2 ho1 hn1 ho2 ho3 hn2 hn3 (by omega) h63 hb
        case h_2 nm1 len' =>
          split at ha
          case h_2 => cases ha
          case h_1 o ho =>
            split at ha
            case isFalse => cases ha
            case isTrue hc =>
              obtain ⟨hok1, hty, hlen, hk2, hb, h63⟩ := hc
              simp only [Option.some.injEq, Prod.mk.injEq] at ha
              obtain ⟨rfl, rfl, rfl⟩ := ha
              simp only
              subst hlen
              obtain ⟨ad2, c2, news, rfl, hn1, hn2, hn3⟩ := src_vals h.obj hsrc hk2 hy
              have hkill := h.kill nm1
              have hstep : Step (st.ctx m L w) ((st.set nm1 none).ctx m L w) := ⟨Ev.refl _ _, fun b _ ⟨n, o', h1, h2⟩ => ⟨n, o', by
                simp only [St.set] at h1
                by_cases hn : n = nm1
                · subst hn; rw [upd_same] at h1; cases h1
                · rwa [upd_ne _ _ hn] at h1, h2⟩, fun _ _ h => ⟨h, rfl⟩⟩
              simp only [sat] at hx
              rcases hx with ⟨h0, a', rfl⟩ | ⟨b, k', cap, cur, ty', fr, hm, hL, rfl, hlc, hcell, hsz, hmx⟩
              · -- the base is empty, without room
                have hnil : o.segs = [] := List.eq_nil_of_length_eq_zero h0
                by_cases hz : src = []
                · subst hz
                  rw [hnil]
                  refine ⟨.slice a' 0 0, w, m, _, ?_, hkill.newVirt hF el f.size, ?_⟩
                  · have hf2 := run_firstCells (P := P) w f.size 0 ad2 c2 [] (by simp) (.inl rfl)
                    cases a' with
                    | none => simp [Builtin.append_, run_underlying hd, sizeOf, typeInfo, hi, hi1, Builtin.lenOf, hf2]
                    | some ad => simp [Builtin.append_, run_underlying hd, sizeOf, typeInfo, hi, hi1, Builtin.lenOf, hf2, storeCells]
                  · simp only [sat]; exact .inl ⟨by simp, a', rfl⟩
                · have hpos : 0 < src.length := List.length_pos_iff.2 hz
                  rw [hnil]
                  have := moved (st.set nm1 none) [] a' 0 [] news ad2 c2 hkill (by simp) hk2 (by simp [satList]) (satList_step hstep _ _ hn1) (by simp) (.inl rfl) hn2 hn3 (by simp; omega) (by simpa [hnil] using h63) (by simpa [hnil] using hb)
                  simpa using this
              · -- the base has a block
                rcases h.obj nm1 o ho with ⟨hnn, _⟩ | ⟨b2, cur2, fr2, e1, e2, e3, e4, ⟨k2, cap2, e5, e6, e7, e8, e9, e10⟩ | ⟨e5, _⟩⟩
                · rw [hm] at hnn; cases hnn
                · have hbb : b2 = b := by rw [hm] at e1; injection e1 with e1; exact e1.symm
                  subst hbb
                  rw [hok1] at e5; injection e5 with e5; subst e5
                  rw [hL] at e6; injection e6 with e6; subst e6
                  have hcur : cur2 = cur := by rw [hcell] at e2; injection e2 with e2; injection e2 with c1 _ _; exact c1.symm
                  subst hcur
                  have hfs := hok.pos
                  have hcc : cap2 = cap := by
                    rw [hsz, Nat.zero_add] at e8
                    exact (Nat.eq_of_mul_eq_mul_right hfs e8).symm
                  subst hcc
                  rw [satSegs_flat] at e4
                  obtain ⟨olds, hol1, hol2⟩ := satCells_vals e4
                  have hfl : o.segs.flatten.length = o.segs.length * f.size := by
                    have := presegs_uni e7 (Nat.le_refl o.segs.length)
                    rw [presegs_eq, List.take_length] at this; exact this
                  have holen := (satList_len hol1).trans hfl
                  by_cases hroom : o.segs.length + src.length ≤ cap2
                  · -- there is room: in place
                    have hfit2 : 0 + o.segs.length * f.size + news.length ≤ cur2.size := by
                      rw [hn2, e8, Nat.zero_add, ← Nat.add_mul]; exact Nat.mul_le_mul_right _ hroom
                    have hrun := run_storeCells_fr P b2 (o.segs.length * f.size) o.ty fr2 news 0 cur2 w e2 e3 (by omega) (satList_one hn1)
                    simp only [Nat.add_zero] at hrun
                    have hf2 := run_firstCells (P := P) w f.size src.length ad2 c2 news hn2 hn3
                    have hflat : (o.segs ++ src).flatten = o.segs.flatten.take (o.segs.length * f.size) ++ src.flatten := by
                      rw [List.flatten_append, List.take_of_length_le (by omega)]
                    subst hty
                    refine ⟨.slice (some ⟨b2, 0, none⟩) (o.segs.length + src.length) cap2, _, _, _, ?_,
                      h.replace (k := f.size) (cap := cap2) ho hm hF (segs' := o.segs ++ src) (cur' := (cur2.toList.take (o.segs.length * f.size) ++ news ++ cur2.toList.drop (o.segs.length * f.size + news.length)).toArray) e2 (by simp; omega) ?_ e8 (by simpa using hroom) e10 e3 ?_, ?_⟩
                    · simp [Builtin.append_, run_underlying hd, sizeOf, typeInfo, hi, hi1, Builtin.lenOf, hroom, hf2, add_plain, hrun]
                    · intro e he
                      rcases List.mem_append.1 he with he | he
                      · exact e7 e he
                      · exact hk2 e he
                    · intro q av hq
                      simp only [List.getElem?_toArray]
                      rw [List.flatten_append] at hq
                      have htl : (cur2.toList.take (o.segs.length * f.size)).length = o.segs.length * f.size := by simp; omega
                      by_cases hq1 : q < o.segs.flatten.length
                      · rw [List.getElem?_append_left hq1] at hq
                        obtain ⟨y, g1, g2, g3⟩ := satCells_get e4 hq
                        refine ⟨y, ?_, g2, g3⟩
                        rw [List.append_assoc, List.getElem?_append_left (by omega), List.getElem?_take, if_pos (by omega)]
                        rw [Nat.zero_add] at g1
                        have := (cell_of_row w b2 q cur2 o.ty fr2 e2).symm.trans g1
                        rw [Array.getElem?_toList]; exact this
                      · rw [List.getElem?_append_right (by omega)] at hq
                        obtain ⟨y, g1, g2, g3⟩ := satList_get hn1 hq
                        refine ⟨y, ?_, g2, g3⟩
                        rw [List.append_assoc, List.getElem?_append_right (by omega), htl, ← hfl, List.getElem?_append_left (List.getElem?_eq_some_iff.1 g1).1]
                        exact g1
                    · simp only [sat, St.ctx]
                      refine .inr ⟨b2, f.size, cap2, _, o.ty, fr2, by rw [upd_same], by rw [upd_same], by simp, hroom, setRow_heap w b2 cur2 _ o.ty fr2 e2, ?_, by omega⟩
                      simp; omega
                  · have := moved (st.set nm1 none) o.segs (some ⟨b2, 0, none⟩) cap2 olds news ad2 c2 hkill e7 hk2 (satList_step hstep _ _ hol1) (satList_step hstep _ _ hn1) holen (.inr ⟨b2, 0, rfl, hol2⟩) hn2 hn3 (by omega) h63 hb
                    simpa using this
                · rw [hok1] at e5; cases e5
        case h_3 => cases ha
end
end Go.Av
