/- A part of the proof that a law of the seat holds: ZAv10. -/
import Derived.Test.YtleaogcnndhdgaaAv9
namespace Go.Av
open Go Go.RowKit

section
variable {B : Base} {F : Nat → Prop} {st : St} {m : Nat → Option Nat} {L : Nat → Lay} {a : Act} {w : World}

theorem Rep.updL (h : Rep B F st m L a w) {nm : Nat} (hF : F nm) (lay : Lay) : Rep B F st m (upd L nm lay) a w := by
  obtain ⟨hm0, ho0⟩ := h.mf nm hF
  have H : Step (st.ctx m L w) (st.ctx m (upd L nm lay) w) := ⟨Ev.refl _ _, fun _ _ h => h, fun n b hb => ⟨hb, by
    have hn : n ≠ nm := by rintro rfl; simp only [St.ctx] at hb; rw [hm0] at hb; cases hb
    simp only [St.ctx]; rw [upd_ne _ _ hn]⟩⟩
  refine ⟨h.sz, h.df, fun t => sat_step H _ _ (h.slots t), fun n o ho => ?_, h.inj, h.mf, h.mb, h.ev, h.fr, fun p hp => ?_, h.n0⟩
  · have hn : n ≠ nm := by rintro rfl; rw [ho0] at ho; cases ho
    exact objOK_step H rfl (by simp only [St.ctx]; rw [upd_ne _ _ hn]) (fun _ _ => rfl) (h.obj n o ho)
  · have hn : p ≠ nm := by rintro rfl; exact h.n0 p hp hF
    rw [upd_ne _ _ hn]; exact h.base p hp

/-- an object gets a new name and new cells; the old name is given up -/
theorem Rep.replace (h : Rep B F st m L a w) {nm1 nm b k cap : Nat} {o : AObj} (ho : st.objs nm1 = some o) (hm : m nm1 = some b) (hF : F nm) {segs' : List (List AV)} {cur cur' : Array Value} {fr : Nat × Nat}
    (hcur : w.heap[b]? = some (.cells cur o.ty fr)) (hsz : cur'.size = cur.size) (hk : ∀ e ∈ segs', e.length = k) (hcap : cur.size = cap * k) (hle : segs'.length ≤ cap) (hmax : cap ≤ maxLen) (hfr : noFr fr cur.size)
    (hs : ∀ (q : Nat) (av : AV), segs'.flatten[q]? = some av → ∃ y, cur'[q]? = some y ∧ y.oneCell' = true ∧ sat (st.ctx m L w) av y) :
    Rep B (fun x => F x ∧ x ≠ nm) ((st.set nm1 none).set nm (some ⟨o.ty, some k, segs'⟩)) (upd m nm (some b)) (upd L nm (.uni k)) a (w.setRow b cur') := by
  obtain ⟨hm0, ho0⟩ := h.mf nm hF
  have hne : nm1 ≠ nm := by rintro rfl; rw [ho0] at ho; cases ho
  have hXb : st.X m b := ⟨nm1, o, ho, hm⟩
  have hE : Ev (st.X m) w (w.setRow b cur') := Ev.setRow hcur hXb cur' hsz
  have hx : ∀ n o', ((st.set nm1 none).set nm (some ⟨o.ty, some k, segs'⟩)).objs n = some o' → (n = nm ∧ o' = ⟨o.ty, some k, segs'⟩) ∨ (n ≠ nm ∧ n ≠ nm1 ∧ st.objs n = some o') := by
    intro n o' ho'
    simp only [St.set] at ho'
    by_cases hn : n = nm
    · subst hn; rw [upd_same] at ho'; injection ho' with ho'; exact .inl ⟨rfl, ho'.symm⟩
    · rw [upd_ne _ _ hn] at ho'
      by_cases hn1 : n = nm1
      · subst hn1; rw [upd_same] at ho'; cases ho'
      · rw [upd_ne _ _ hn1] at ho'; exact .inr ⟨hn, hn1, ho'⟩
  have hX : ∀ b', ((st.set nm1 none).set nm (some ⟨o.ty, some k, segs'⟩)).X (upd m nm (some b)) b' → st.X m b' := by
    rintro b' ⟨n, o', h1, h2⟩
    rcases hx n o' h1 with ⟨rfl, _⟩ | ⟨g1, g2, g3⟩
    · rw [upd_same] at h2; injection h2 with h2; subst h2; exact hXb
    · rw [upd_ne _ _ g1] at h2; exact ⟨n, o', g3, h2⟩
  have H : Step (st.ctx m L w) (((st.set nm1 none).set nm (some ⟨o.ty, some k, segs'⟩)).ctx (upd m nm (some b)) (upd L nm (.uni k)) (w.setRow b cur')) :=
    ⟨hE, fun b' _ hb' => hX b' hb', fun n b' hb' => by
      have hn : n ≠ nm := by rintro rfl; simp only [St.ctx] at hb'; rw [hm0] at hb'; cases hb'
      simp only [St.ctx] at hb' ⊢; rw [upd_ne _ _ hn, upd_ne _ _ hn]; exact ⟨hb', rfl⟩⟩
  refine ⟨h.sz, h.df, fun t => sat_step H _ _ (h.slots t), fun n o' ho' => ?_, fun n n' o1 o2 b' h1 h2 h3 h4 => ?_, fun x hF' => ?_, fun n b' hb => ?_, ?_, fun n o' b' h1 h2 => ?_, fun p hp => ?_, fun p hp hx => h.n0 p hp hx.1⟩
  · rcases hx n o' ho' with ⟨rfl, rfl⟩ | ⟨g1, g2, g3⟩
    · refine .inr ⟨b, cur', fr, by simp only [St.ctx]; rw [upd_same], setRow_heap w b cur cur' o.ty fr hcur, by rw [hsz]; exact hfr, ?_, .inl ⟨k, cap, rfl, by simp only [St.ctx]; rw [upd_same], hk, by rw [hsz]; exact hcap, hle, hmax⟩⟩
      rw [satSegs_flat]
      refine satCells_of fun q av hq => ?_
      obtain ⟨y, k1, k2, k3⟩ := hs q av hq
      refine ⟨y, ?_, k2, sat_step H _ _ k3⟩
      rw [Nat.zero_add]
      exact (cell_of_row _ b q cur' o.ty fr (setRow_heap w b cur cur' o.ty fr hcur)).trans k1
    · refine objOK_step H (by simp only [St.ctx]; rw [upd_ne _ _ g1]) (by simp only [St.ctx]; rw [upd_ne _ _ g1]) (fun b' hb' => setRow_other w b b' cur' ?_) (h.obj n o' g3)
      rintro rfl
      exact g2 (h.inj n nm1 o' o b' g3 ho hb' hm)
  · rcases hx n o1 h1 with ⟨rfl, _⟩ | ⟨g1, g2, g3⟩ <;> rcases hx n' o2 h2 with ⟨rfl, _⟩ | ⟨g1', g2', g3'⟩
    · rfl
    · rw [upd_same] at h3; rw [upd_ne _ _ g1'] at h4; injection h3 with h3; subst h3; exact absurd (h.inj n' nm1 o2 o b g3' ho h4 hm) g2'
    · rw [upd_same] at h4; rw [upd_ne _ _ g1] at h3; injection h4 with h4; subst h4; exact absurd (h.inj n nm1 o1 o b g3 ho h3 hm) g2
    · rw [upd_ne _ _ g1] at h3; rw [upd_ne _ _ g1'] at h4; exact h.inj n n' o1 o2 b' g3 g3' h3 h4
  · have := h.mf x hF'.1
    simp only [St.set]
    rw [upd_ne _ _ hF'.2, upd_ne _ _ hF'.2]
    refine ⟨this.1, ?_⟩
    by_cases hn : x = nm1
    · subst hn; rw [upd_same]
    · rw [upd_ne _ _ hn]; exact this.2
  · by_cases hn : n = nm
    · subst hn; rw [upd_same] at hb; injection hb with hb; subst hb; simpa using h.mb nm1 _ hm
    · rw [upd_ne _ _ hn] at hb; simpa using h.mb n b' hb
  · refine h.ev.trans hE ?_
    rintro q ⟨n, o', h1, h2⟩
    exact h.fr n o' q h1 h2
  · rcases hx n o' h1 with ⟨rfl, _⟩ | ⟨g1, g2, g3⟩
    · rw [upd_same] at h2; injection h2 with h2; subst h2; exact h.fr nm1 o _ ho hm
    · rw [upd_ne _ _ g1] at h2; exact h.fr n o' b' g3 h2
  · have hn : p ≠ nm := by rintro rfl; exact h.n0 p hp hF
    rw [upd_ne _ _ hn, upd_ne _ _ hn]; exact h.base p hp
end

/-! ### new objects -/
section
variable {P : Program} (G : Sg P)

def boxSegs : AV → List (List AV)
  | .agg s => s
  | x => [[x]]

def newA (op : Op) (e : Nat → AV) (nm : Nat) : Option (AV × AObj) :=
  match op with
  | .alloc t => match G.TF t with | some f => some (.ptr nm 0 0, ⟨t, none, f.zsegs⟩) | none => none
  | .box t x => if (evA e x).isVal = true then some (.ptr nm 0 0, ⟨t, none, boxSegs (evA e x)⟩) else none
  | .buildSlice t len parts =>
    match kindOf G t with
    | some (.slice el) =>
      (match G.TF el with
       | some f => if len * f.size ≤ 16777216 then
          (fillA (fun i => some (i * f.size, f.size)) (List.replicate len f.zsegs.flatten) (parts.toList.map fun p => (p.1, evA e p.2))).map fun segs => (.sl nm 0 len, ⟨el, some f.size, segs⟩)
          else none
       | none => none)
    | _ => none
  | .makeSlice t l c =>
    match kindOf G t, evA e l, evA e c with
    | some (.slice el), .v (.int _ n), .v (.int _ n2) =>
      (match G.TF el with
       | some f => if 0 ≤ n ∧ n ≤ n2 ∧ (f.bytes : Int) * n2 ≤ 281474976710656 ∧ n2 ≤ 9223372036854775807 then some (.sl nm 0 n.toNat, ⟨el, some f.size, List.replicate n.toNat f.zsegs.flatten⟩) else none
       | none => none)
    | _, _, _ => none
  | .convert src dst x =>
    match kindOf G src, kindOf G dst, evA e x with
    | some .string, some (.slice el), .v (.string s) =>
      if kindOf G el = some (.int .u8) ∧ s.size ≤ maxLen then some (.sl nm 0 s.size, ⟨el, some 1, s.data.toList.map fun b => [.v (.int .u8 b.toNat)]⟩) else none
    | _, _, _ => none
  | _ => none

variable {B : Base} {F : Nat → Prop} {st : St} {m : Nat → Option Nat} {L : Nat → Lay} {a : Act} {w : World}

theorem box_flat (x : AV) (h : x.isVal = true) : (boxSegs x).flatten = cellsA x := by cases x <;> simp [boxSegs, cellsA, AV.isVal] at h ⊢

theorem noFr_any (n : Nat) : noFr (0, 0) n := noFr_zero n

theorem rep_mod {z : Array Value} (n : Nat) (hz : 0 < z.size) : (Array.range (n * z.size)).map (z[· % z.size]!) = (List.replicate n z.toList).flatten.toArray := by
  apply Array.ext'
  simp only [Array.toList_map, Array.toList_range]
  induction n with
  | zero => simp
  | succ n ih =>
    rw [Nat.succ_mul, List.range_add, List.map_append, ih, List.replicate_succ', List.flatten_append]
    congr 1
    simp only [List.flatten_cons, List.flatten_nil, List.append_nil, List.map_map]
    apply List.ext_getElem?
    intro i
    rw [List.getElem?_map]
    by_cases hi : i < z.size
    · simp [List.getElem?_range, hi, Nat.add_mod, Nat.mod_eq_of_lt hi]
    · rw [List.getElem?_eq_none (by simp; omega), List.getElem?_eq_none (by simp; omega)]; rfl

theorem satList_rep {c : Ctx} {l : List AV} {vs : List Value} (h : satList c l vs) : ∀ n, satList c (List.replicate n l).flatten (List.replicate n vs).flatten
  | 0 => by simp [satList]
  | n + 1 => by simp only [List.replicate_succ, List.flatten_cons]; exact satList_app h (satList_rep h n)

theorem freeze_new (w : World) (cs : Array Value) (t : TypeId) {n : Nat} (hn : cs.size = n) : (w.alloc (.cells cs t)).freeze ⟨w.heap.size, n, none⟩ 1 = w.alloc (.cells cs t (n, n + 1)) := by
  unfold World.freeze World.alloc
  simp only [Nat.one_ne_zero, if_false]
  congr 1
  apply Array.ext
  · simp
  · intro i h1 h2
    simp only [Array.getElem_modify, Array.getElem_push]
    simp at h2
    by_cases hi : i < w.heap.size
    · simp [hi, Nat.ne_of_gt hi]
    · have : i = w.heap.size := by omega
      subst this; simp

theorem new_sound (h : Rep B F st m L a w) (o : Oper) {nm : Nat} (hF : F nm) {av : AV} {ob : AObj} (hn : newA G o.op st.env nm = some (av, ob)) :
    ∃ y w' m' L', (execOp a.eval o).run P w = .ok (.value y) w' ∧ Rep B (fun x => F x ∧ x ≠ nm) (st.set nm (some ob)) m' L' a w' ∧ sat ((st.set nm (some ob)).ctx m' L' w') av y := by
  obtain ⟨dst, op, type, pos, after, guard⟩ := o
  unfold newA at hn
  simp only at hn
  split at hn
  case h_1 t =>
    split at hn
    case h_2 => cases hn
    case h_1 f hf =>
      simp only [Option.some.injEq, Prod.mk.injEq] at hn
      obtain ⟨rfl, rfl⟩ := hn
      have hok := G.ok t f hf
      obtain ⟨i, hi, hi1, hi2, hi3⟩ := hok.info
      have hz := zero_sat hok (st.ctx m L w)
      have hzl := satList_len hz
      refine ⟨.pointer (some ⟨w.heap.size, 0, none⟩), _, _, _, ?_, h.newObj hF ⟨t, none, f.zsegs⟩ f.zero.cells (.segs (f.zsegs.map List.length)) [] f.zero.cells.toList (by simp) hz (.inr ⟨rfl, rfl, by simpa using hzl⟩) (0, 0) (noFr_any _), ?_⟩
      · simp [execOp, Instr.alloc, zeroValue, typeInfo, hi, hi3, newVar, newRow]
      · simp only [sat, St.ctx]
        exact ⟨w.heap.size, by rw [upd_same], by rw [upd_same]; rfl⟩
  case h_2 t x =>
    split at hn
    case isFalse => cases hn
    case isTrue hv =>
      simp only [Option.some.injEq, Prod.mk.injEq] at hn
      obtain ⟨rfl, rfl⟩ := hn
      have hx := cells_sat hv (evA_sat h x)
      rw [← box_flat _ hv] at hx
      have hxl := satList_len hx
      refine ⟨.pointer (some ⟨w.heap.size, 0, none⟩), _, _, _, ?_, h.newObj hF ⟨t, none, boxSegs (evA st.env x)⟩ (a.eval x).cells (.segs ((boxSegs (evA st.env x)).map List.length)) [] (a.eval x).cells.toList (by simp) hx (.inr ⟨rfl, rfl, by simpa using hxl⟩) (0, 0) (noFr_any _), ?_⟩
      · simp [execOp, Instr.box, newVar, newRow]
      · simp only [sat, St.ctx]
        exact ⟨w.heap.size, by rw [upd_same], by rw [upd_same]; rfl⟩
  case h_3 t len parts =>
    split at hn
    case h_2 => cases hn
    case h_1 el hk =>
      split at hn
      case h_2 => cases hn
      case h_1 f hf =>
        split at hn
        case isFalse => cases hn
        case isTrue hlim =>
          have hok := G.ok el f hf
          obtain ⟨i, hi, hi1, hi2, hi3⟩ := hok.info
          obtain ⟨d, hd, hfit⟩ := kindOf_und G hk
          simp only [TK.fits] at hfit; subst hfit
          have hz := zero_sat hok (st.ctx m L w)
          have hzl := satList_len hz
          have hzs : f.zero.cells.size = f.size := by
            have : f.zsegs.flatten.length = f.size := by rw [List.length_flatten, hok.zl, hok.ls]
            simp only [Array.length_toList] at hzl; omega
          have hzf : f.zsegs.flatten.length = f.size := by simp only [Array.length_toList] at hzl; omega
          cases hfi : fillA (fun i => some (i * f.size, f.size)) (List.replicate len f.zsegs.flatten) (parts.toList.map fun p => (p.1, evA st.env p.2)) with
          | none => rw [hfi] at hn; cases hn
          | some segs =>
            rw [hfi] at hn
            simp only [Option.map_some, Option.some.injEq, Prod.mk.injEq] at hn
            obtain ⟨rfl, rfl⟩ := hn
            have hrep := satList_rep hz len
            obtain ⟨cells', k1, k2⟩ := fill_sound (cells := (List.replicate len f.zero.cells.toList).flatten.toArray) hfi (by simpa using hrep) (parts_sat h parts.toList)
            have hcl := satList_len k2
            have hlens : segs.map List.length = List.replicate len f.size := by
              have := fill_lens hfi
              rw [this, List.map_replicate, hzf]
            have hsl : segs.length = len := by have := congrArg List.length hlens; simpa using this
            have hsu : ∀ e ∈ segs, e.length = f.size := fun e he => by
              have : e.length ∈ segs.map List.length := List.mem_map.2 ⟨e, he, rfl⟩
              rw [hlens] at this; exact List.eq_of_mem_replicate this
            have hfl : segs.flatten.length = len * f.size := by rw [List.length_flatten, hlens]; simp
            refine ⟨.slice (some ⟨w.heap.size, 0, none⟩) len len, _, _, _, ?_, h.newObj hF ⟨el, some f.size, segs⟩ cells' (.uni f.size) [] cells'.toList (by simp) k2 (.inl ⟨f.size, len, rfl, rfl, hsu, by simp only [Array.length_toList] at hcl; omega, Nat.le_of_eq hsl, ?_⟩) (0, 0) (noFr_any _), ?_⟩
            · have hfill : Instr.fill (fun i => some (i * f.size, f.size)) ((Array.range (len * f.size)).map fun i => (if len * f.size = 0 then (#[] : Array Value) else f.zero.cells)[i % (if len * f.size = 0 then (#[] : Array Value) else f.zero.cells).size]!) (parts.toList.map fun p => (p.1, a.eval p.2)) = some cells' := by
                rw [← k1]
                congr 1
                by_cases h0 : len * f.size = 0
                · rw [if_pos h0, h0]
                  have : len = 0 := by
                    rcases Nat.mul_eq_zero.1 h0 with h' | h'
                    · exact h'
                    · have := hok.pos; omega
                  subst this; simp [Array.range_zero']
                · rw [if_neg h0]
                  have := rep_mod (z := f.zero.cells) len (by rw [hzs]; exact hok.pos)
                  rw [hzs] at this
                  rw [hzs]; exact this
              have hnl : ¬ (len * f.size > 2 ^ 24) := by omega
              simp only [execOp, Instr.buildSlice, Sem.run_bind, run_underlying hd, Result.andThen_ok, run_sizeOf hok]
              rw [if_neg hnl]
              by_cases h0 : len * f.size = 0
              · simp only [h0, if_true] at hfill ⊢
                simp only [Sem.run_bind, Sem.run_pure, Result.andThen_ok, Array.toList_map]
                rw [hfill]
                simp [newRow]
              · rw [if_neg h0] at hfill ⊢
                simp only [Sem.run_bind, Sem.run_pure, Result.andThen_ok, zeroValue, typeInfo, run_program, hi, hi3, Array.toList_map]
                rw [hfill]
                simp [newRow]
            · have := hok.pos
              have : len ≤ len * f.size := Nat.le_mul_of_pos_right _ hok.pos
              simp only [maxLen]; omega
            · simp only [sat, St.ctx]
              refine .inr ⟨w.heap.size, f.size, len, cells', el, (0, 0), by rw [upd_same], by rw [upd_same], by simp, Nat.le_refl _, al_new w _, by simp only [Array.length_toList] at hcl; rw [Nat.zero_add]; omega, ?_⟩
              have : len ≤ len * f.size := Nat.le_mul_of_pos_right _ hok.pos
              simp only [maxLen]; omega
  case h_4 t l c =>
    split at hn
    case h_2 => cases hn
    case h_1 el kl n kc n2 hk hl hc =>
      split at hn
      case h_2 => cases hn
      case h_1 f hf =>
        split at hn
        case isFalse => cases hn
        case isTrue hb =>
          simp only [Option.some.injEq, Prod.mk.injEq] at hn
          obtain ⟨rfl, rfl⟩ := hn
          obtain ⟨h0, h1, h2, h3⟩ := hb
          have hok := G.ok el f hf
          obtain ⟨i, hi, hi1, hi2, hi3⟩ := hok.info
          obtain ⟨d, hd, hfit⟩ := kindOf_und G hk
          simp only [TK.fits] at hfit; subst hfit
          have hz := zero_sat hok (st.ctx m L w)
          have hzl := satList_len hz
          have hzf : f.zsegs.flatten.length = f.size := by rw [List.length_flatten, hok.zl, hok.ls]
          have hzs : f.zero.cells.size = f.size := by simp only [Array.length_toList] at hzl; omega
          have hel := evA_sat h l
          have hec := evA_sat h c
          rw [hl] at hel; rw [hc] at hec
          simp only [sat] at hel hec
          have hrun := run_make (P := P) w t el i f.zero hd hi hi3 kl kc n n2 h0 h1 (by rw [hi2]; exact h2) h3
          have hmc : madeCells f.zero.cells (n2.toNat * f.size) = (List.replicate n2.toNat f.zero.cells.toList).flatten.toArray := by
            have := rep_mod (z := f.zero.cells) n2.toNat (by rw [hzs]; exact hok.pos)
            rw [hzs] at this
            unfold madeCells; rw [hzs]; exact this
          rw [hi1, hmc] at hrun
          have hsplit : (List.replicate n2.toNat f.zero.cells.toList).flatten = (List.replicate n.toNat f.zero.cells.toList).flatten ++ (List.replicate (n2.toNat - n.toNat) f.zero.cells.toList).flatten := by
            rw [← List.flatten_append, List.replicate_append_replicate]; congr 2; omega
          have hmax : n2.toNat ≤ maxLen := by simp only [maxLen]; omega
          have hsz : ((List.replicate n2.toNat f.zero.cells.toList).flatten.toArray).size = n2.toNat * f.size := by simp [hzs]
          refine ⟨.slice (some ⟨w.heap.size, 0, none⟩) n.toNat n2.toNat, _, _, _, ?_, h.newObj hF ⟨el, some f.size, List.replicate n.toNat f.zsegs.flatten⟩ (List.replicate n2.toNat f.zero.cells.toList).flatten.toArray (.uni f.size)
            (List.replicate (n2.toNat - n.toNat) f.zero.cells.toList).flatten (List.replicate n.toNat f.zero.cells.toList).flatten hsplit (satList_rep hz n.toNat)
            (.inl ⟨f.size, n2.toNat, rfl, rfl, fun e he => by rw [List.eq_of_mem_replicate he]; exact hzf, hsz, by simp; omega, hmax⟩) (0, 0) (noFr_any _), ?_⟩
          · simp only [execOp, hel.1, hec.1, Sem.run_bind, hrun]; rfl
          · simp only [sat, St.ctx]
            exact .inr ⟨w.heap.size, f.size, n2.toNat, _, el, (0, 0), by rw [upd_same], by rw [upd_same], by simp, by omega, al_new w _, by rw [hsz, Nat.zero_add], by omega⟩
  case h_5 src dst' x =>
    split at hn
    case h_2 => cases hn
    case h_1 el s hks hkd hx =>
      split at hn
      case isFalse => cases hn
      case isTrue hke =>
        obtain ⟨hke, hmaxs⟩ := hke
        simp only [Option.some.injEq, Prod.mk.injEq] at hn
        obtain ⟨rfl, rfl⟩ := hn
        obtain ⟨d1, u1, f1⟩ := kindOf_und G hks
        obtain ⟨d2, u2, f2⟩ := kindOf_und G hkd
        obtain ⟨d3, u3, f3⟩ := kindOf_und G hke
        simp only [TK.fits] at f1 f2 f3
        subst f1; subst f2; subst f3
        have hel := evA_sat h x
        rw [hx] at hel
        simp only [sat] at hel
        generalize hcap : (Question.appendCap s.size 0 el).cut (w.tape w.drawn (.appendCap s.size 0 el)) = cap
        have hge : s.size ≤ cap := by rw [← hcap]; simp [Question.cut]
        have hle : cap ≤ maxLen := by
          rw [← hcap]
          simp only [Question.cut, maxLen] at hmaxs ⊢
          have := Nat.mod_lt (w.tape w.drawn (.appendCap s.size 0 el)) (show 0 < 2 ^ 63 - s.size by omega)
          omega
        have hcs : ((s.data.map fun b : UInt8 => Value.int .u8 b.toNat) ++ Array.replicate (cap - s.size) (Value.int .u8 0)).size = cap := by
          simp; have : s.data.size = s.size := rfl; omega
        have hlist : satList (st.ctx m L w.drew) ((s.data.toList.map fun b => [AV.v (.int .u8 b.toNat)]).flatten) (s.data.toList.map fun b => Value.int .u8 b.toNat) := by
          rw [flatten_single (fun b : UInt8 => AV.v (.int .u8 b.toNat)) s.data.toList]
          generalize s.data.toList = l
          induction l with
          | nil => simp [satList]
          | cons b l ih => simp only [List.map_cons, satList]; exact ⟨_, _, rfl, rfl, sat_v rfl, ih⟩
        have hd := h.grow (Ev.drew w)
        refine ⟨.slice (some ⟨w.heap.size, 0, none⟩) s.size cap, _, _, _, ?_, hd.newObj hF ⟨el, some 1, s.data.toList.map fun b => [.v (.int .u8 b.toNat)]⟩
          ((s.data.map fun b => Value.int .u8 b.toNat) ++ Array.replicate (cap - s.size) (.int .u8 0)) (.uni 1)
          (List.replicate (cap - s.size) (.int .u8 0)) (s.data.toList.map fun b => Value.int .u8 b.toNat) (by simp) hlist
          (.inl ⟨1, cap, rfl, rfl, fun e he => by simp only [List.mem_map] at he; obtain ⟨b, _, rfl⟩ := he; rfl, by rw [hcs, Nat.mul_one], by simp; exact hge, hle⟩) (cap, cap + 1) ?_, ?_⟩
        · simp only [execOp, hel.1, convert, Sem.run_bind, run_underlying u1, run_underlying u2, run_underlying u3, Result.andThen_ok, Conv.stringToBytes, run_choose, Question.forced, Bool.false_eq_true, if_false, hcap, newRow, run_newObj, Sem.run_pure, markStringish, run_shape, run_freeze]
          have hsh : (w.drew.alloc (.cells ((s.data.map fun b => Value.int .u8 b.toNat) ++ Array.replicate (cap - s.size) (.int .u8 0)) el)).shape? w.heap.size = some (el, cap) := by
            unfold World.shape?
            have := al_new w.drew (.cells ((s.data.map fun b => Value.int .u8 b.toNat) ++ Array.replicate (cap - s.size) (.int .u8 0)) el)
            rw [show w.drew.heap.size = w.heap.size from rfl] at this
            rw [this]; simp only [hcs]
          have hsh' : World.shape? { heap := w.heap.push (.cells ((s.data.map fun b => Value.int .u8 b.toNat) ++ Array.replicate (cap - s.size) (.int .u8 0)) el), tape := w.tape, drawn := w.drawn + 1, os := w.os, output := w.output } w.heap.size = some (el, cap) := hsh
          rw [hsh']
          simp only [run_freeze, Result.andThen_ok]
          exact congrArg _ (freeze_new w.drew _ _ hcs)
        · intro q hq
          rw [hcs] at hq
          simp only [Bool.and_eq_false_iff, decide_eq_false_iff_not]; omega
        · simp only [sat, St.ctx]
          refine .inr ⟨w.heap.size, 1, cap, _, el, (cap, cap + 1), by rw [upd_same]; rfl, by rw [upd_same], by simp, hge, al_new w.drew _, by rw [hcs]; omega, by omega⟩
  case h_6 => cases hn
end
end Go.Av
