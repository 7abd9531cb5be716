/- A part of the proof that a law of the seat holds: ZAv9. -/
import Derived.Test.YtleaogcnndhdgaaAv8
namespace Go.Av
open Go Go.RowKit

def upd {α : Type} (f : Nat → α) (n : Nat) (x : α) : Nat → α := fun u => if u = n then x else f u
theorem upd_same {α : Type} (f : Nat → α) (n : Nat) (x : α) : upd f n x n = x := by simp [upd]
theorem upd_ne {α : Type} (f : Nat → α) {n u : Nat} (x : α) (h : u ≠ n) : upd f n x u = f u := by simp [upd, h]

def St.put (st : St) (dst : Option Tmp) (av : AV) : St :=
  match dst with
  | none => st
  | some t => { st with env := upd st.env t av }

def St.set (st : St) (nm : Nat) (o : Option AObj) : St := { st with objs := upd st.objs nm o }

theorem St.put_objs (st : St) (d : Option Tmp) (av : AV) : (st.put d av).objs = st.objs := by cases d <;> rfl
theorem St.put_nx (st : St) (d : Option Tmp) (av : AV) : (st.put d av).nx = st.nx := by cases d <;> rfl
theorem St.put_ctx (st : St) (d : Option Tmp) (av : AV) (m : Nat → Option Nat) (L : Nat → Lay) (w : World) : (st.put d av).ctx m L w = st.ctx m L w := by cases d <;> rfl

theorem al_old (w : World) (o : Obj) {b : Nat} (h : b < w.heap.size) : (w.alloc o).heap[b]? = w.heap[b]? := by
  show (w.heap.push o)[b]? = w.heap[b]?
  rw [Array.getElem?_push, if_neg (Nat.ne_of_lt h)]
theorem al_new (w : World) (o : Obj) : (w.alloc o).heap[w.heap.size]? = some o := by
  show (w.heap.push o)[w.heap.size]? = some o
  simp

section
variable {B : Base} {F : Nat → Prop} {st : St} {m : Nat → Option Nat} {L : Nat → Lay} {a : Act} {w : World}

theorem Rep.put (h : Rep B F st m L a w) {dst : Option Tmp} (hd : ∀ t, dst = some t → t < B.nt) {av : AV} {y : Value} (hs : sat (st.ctx m L w) av y) : Rep B F (st.put dst av) m L (a.put dst y) w := by
  refine ⟨?_, ?_, fun t => ?_, ?_, ?_, ?_, h.mb, h.ev, ?_, h.base, h.n0⟩
  · cases dst <;> simp [Act.put, h.sz]
  · cases dst <;> exact h.df
  · rw [St.put_ctx]
    cases dst with
    | none => exact h.slots t
    | some d =>
      have hdl := hd d rfl
      by_cases ht : t = d
      · subst ht
        simp only [St.put, upd_same, Act.put]
        have : (a.tmps.setIfInBounds t y).getD t undef = y := by simp [h.sz, hdl]
        rw [this]; exact hs
      · simp only [St.put, upd_ne _ _ ht, Act.put]
        have : (a.tmps.setIfInBounds d y).getD t undef = a.tmps.getD t undef := by
          simp [Array.getElem?_setIfInBounds_ne (fun e => ht e.symm)]
        rw [this]; exact h.slots t
  · rw [St.put_objs]; rw [St.put_ctx]; exact h.obj
  · rw [St.put_objs]; exact h.inj
  · rw [St.put_objs]; exact h.mf
  · rw [St.put_objs]; exact h.fr

theorem satCells_block {c c' : Ctx} (H : Step c c') {b : Nat} (hb : c'.w.heap[b]? = c.w.heap[b]?) : ∀ (l : List AV) (o : Nat), satCells c b o l → satCells c' b o l
  | [], _, _ => by simp only [satCells]
  | a :: l, o, h => by
    simp only [satCells] at h ⊢
    obtain ⟨⟨y, h1, h2, h3⟩, h4⟩ := h
    exact ⟨⟨y, by rw [World.cell?_of_block (w := c.w) hb]; exact h1, h2, sat_step H a y h3⟩, satCells_block H hb l (o + 1) h4⟩

theorem objOK_step {c c' : Ctx} (H : Step c c') {nm : Nat} {o : AObj} (hm : c'.m nm = c.m nm) (hL : c'.L nm = c.L nm) (hb : ∀ b, c.m nm = some b → c'.w.heap[b]? = c.w.heap[b]?) (h : objOK c nm o) : objOK c' nm o := by
  rcases h with ⟨h1, h2, k, h3, h4⟩ | ⟨b, cur, fr, h1, h2, h3, h4, h5⟩
  · exact .inl ⟨by rw [hm]; exact h1, h2, k, h3, by rw [hL]; exact h4⟩
  · refine .inr ⟨b, cur, fr, by rw [hm]; exact h1, by rw [hb b h1]; exact h2, h3, ?_, by rw [hL]; exact h5⟩
    rw [satSegs_flat] at h4 ⊢
    exact satCells_block H (hb b h1) _ _ h4

/-- the world has grown, nothing of it has turned -/
theorem Rep.grow (h : Rep B F st m L a w) {w' : World} (he : Ev (fun _ => False) w w') : Rep B F st m L a w' := by
  have H : Step (st.ctx m L w) (st.ctx m L w') := ⟨he.mono (fun _ h => h.elim), fun _ _ h => h, fun _ _ h => ⟨h, rfl⟩⟩
  refine ⟨h.sz, h.df, fun t => sat_step H _ _ (h.slots t), fun nm o ho => objOK_step H rfl rfl (fun b hb => he.block b (h.mb nm b hb) (fun h => h)) (h.obj nm o ho), h.inj, h.mf,
    fun nm b hb => Nat.lt_of_lt_of_le (h.mb nm b hb) he.size, h.ev.trans he (fun _ h => h.elim), h.fr, h.base, h.n0⟩

theorem Ev.drew (w : World) : Ev (fun _ => False) w w.drew := ⟨rfl, rfl, rfl, Nat.le_refl _, fun _ _ _ => rfl, fun _ cur _ _ h => ⟨cur, h, rfl⟩⟩
theorem Ev.alloc (w : World) (o : Obj) : Ev (fun _ => False) w (w.alloc o) :=
  ⟨rfl, rfl, rfl, by simp, fun b hb _ => al_old w o hb, fun b cur _ _ h => ⟨cur, by rw [al_old w o (Array.getElem?_eq_some_iff.1 h).1]; exact h, rfl⟩⟩

/-- a new block under a free name -/
theorem Rep.newObj (h : Rep B F st m L a w) {nm : Nat} (hF : F nm) (ob : AObj) (cells : Array Value) (lay : Lay) (rest vs : List Value)
    (hcells : cells.toList = vs ++ rest) (hs : satList (st.ctx m L w) ob.segs.flatten vs)
    (hlay : (∃ k cap, ob.k = some k ∧ lay = .uni k ∧ (∀ e ∈ ob.segs, e.length = k) ∧ cells.size = cap * k ∧ ob.segs.length ≤ cap ∧ cap ≤ maxLen) ∨
      (ob.k = none ∧ lay = .segs (ob.segs.map List.length) ∧ cells.size = ob.segs.flatten.length)) (fr : Nat × Nat) (hfr : noFr fr cells.size) :
    Rep B (fun x => F x ∧ x ≠ nm) (st.set nm (some ob)) (upd m nm (some w.heap.size)) (upd L nm lay) a (w.alloc (.cells cells ob.ty fr)) := by
  obtain ⟨hm0, ho0⟩ := h.mf nm hF
  have hX : ∀ b, b < w.heap.size → (st.set nm (some ob)).X (upd m nm (some w.heap.size)) b → st.X m b := by
    rintro b hb ⟨n, o, h1, h2⟩
    simp only [St.set] at h1
    by_cases hn : n = nm
    · subst hn; rw [upd_same] at h2; simp only [Option.some.injEq] at h2; omega
    · rw [upd_ne _ _ hn] at h1 h2; exact ⟨n, o, h1, h2⟩
  have H : Step (st.ctx m L w) ((st.set nm (some ob)).ctx (upd m nm (some w.heap.size)) (upd L nm lay) (w.alloc (.cells cells ob.ty fr))) := by
    refine ⟨(Ev.alloc w _).mono (fun _ h => h.elim), hX, fun n b hb => ?_⟩
    have hn : n ≠ nm := by rintro rfl; simp only [St.ctx] at hb; rw [hm0] at hb; cases hb
    exact ⟨by simp only [St.ctx]; rw [upd_ne _ _ hn]; exact hb, by simp only [St.ctx]; rw [upd_ne _ _ hn]⟩
  refine ⟨h.sz, h.df, fun t => sat_step H _ _ (h.slots t), fun n o ho => ?_, fun n n' o o' b h1 h2 h3 h4 => ?_, fun x hx => ?_, fun n b hb => ?_, h.ev.trans (Ev.alloc w _) (fun _ h => h.elim), fun n o b h1 h2 => ?_, fun p hp => ?_, fun p hp hx => h.n0 p hp hx.1⟩
  · simp only [St.set] at ho
    by_cases hn : n = nm
    · subst hn
      rw [upd_same] at ho
      simp only [Option.some.injEq] at ho
      subst ho
      refine .inr ⟨w.heap.size, cells, fr, by simp only [St.ctx]; rw [upd_same], al_new w _, hfr, ?_, by simp only [St.ctx]; rw [upd_same]; exact hlay⟩
      rw [satSegs_flat]
      have hs' := satList_step H _ _ hs
      refine satCells_of fun q av hq => ?_
      obtain ⟨y, h1, h2, h3⟩ := satList_get hs' hq
      refine ⟨y, ?_, h2, h3⟩
      have : (w.alloc (.cells cells ob.ty fr)).cell? ⟨w.heap.size, 0 + q, none⟩ = cells[q]? := by
        rw [Nat.zero_add]; exact cell_of_row _ _ _ _ _ fr (al_new w _)
      rw [show ((st.set n (some ob)).ctx (upd m n (some w.heap.size)) (upd L n lay) (w.alloc (.cells cells ob.ty fr))).w = w.alloc (.cells cells ob.ty fr) from rfl, this,
        ← Array.getElem?_toList, hcells, List.getElem?_append_left (List.getElem?_eq_some_iff.1 h1).1]
      exact h1
    · rw [upd_ne _ _ hn] at ho
      refine objOK_step H (by simp only [St.ctx]; rw [upd_ne _ _ hn]) (by simp only [St.ctx]; rw [upd_ne _ _ hn]) (fun b hb => al_old w _ (h.mb n b hb)) (h.obj n o ho)
  · simp only [St.set] at h1 h2
    by_cases hn : n = nm <;> by_cases hn' : n' = nm
    · rw [hn, hn']
    · exfalso; subst hn; rw [upd_same] at h3; rw [upd_ne _ _ hn'] at h4
      simp only [Option.some.injEq] at h3; subst h3; exact absurd (h.mb n' _ h4) (Nat.lt_irrefl _)
    · exfalso; subst hn'; rw [upd_same] at h4; rw [upd_ne _ _ hn] at h3
      simp only [Option.some.injEq] at h4; subst h4; exact absurd (h.mb n _ h3) (Nat.lt_irrefl _)
    · rw [upd_ne _ _ hn] at h1 h3; rw [upd_ne _ _ hn'] at h2 h4; exact h.inj n n' o o' b h1 h2 h3 h4
  · simp only [St.set]
    rw [upd_ne _ _ hx.2, upd_ne _ _ hx.2]; exact h.mf x hx.1
  · by_cases hn : n = nm
    · subst hn; rw [upd_same] at hb; simp only [Option.some.injEq] at hb; subst hb; simp
    · rw [upd_ne _ _ hn] at hb; have := h.mb n b hb; simp; omega
  · simp only [St.set] at h1
    by_cases hn : n = nm
    · subst hn; rw [upd_same] at h2; simp only [Option.some.injEq] at h2; subst h2; exact .inr h.ev.size
    · rw [upd_ne _ _ hn] at h1 h2; exact h.fr n o b h1 h2
  · have hn : p ≠ nm := by rintro rfl; exact h.n0 p hp hF
    rw [upd_ne _ _ hn, upd_ne _ _ hn]; exact h.base p hp

/-- an empty row without a block -/
theorem Rep.newVirt (h : Rep B F st m L a w) {nm : Nat} (hF : F nm) (ty : TypeId) (k : Nat) :
    Rep B (fun x => F x ∧ x ≠ nm) (st.set nm (some ⟨ty, some k, []⟩)) m (upd L nm (.uni k)) a w := by
  obtain ⟨hm0, ho0⟩ := h.mf nm hF
  have H : Step (st.ctx m L w) ((st.set nm (some ⟨ty, some k, []⟩)).ctx m (upd L nm (.uni k)) w) := by
    refine ⟨Ev.refl _ _, ?_, fun n b hb => ?_⟩
    · rintro b hb ⟨n, o, h1, h2⟩
      simp only [St.set] at h1
      have hn : n ≠ nm := by rintro rfl; rw [hm0] at h2; cases h2
      rw [upd_ne _ _ hn] at h1; exact ⟨n, o, h1, h2⟩
    · have hn : n ≠ nm := by rintro rfl; simp only [St.ctx] at hb; rw [hm0] at hb; cases hb
      exact ⟨hb, by simp only [St.ctx]; rw [upd_ne _ _ hn]⟩
  refine ⟨h.sz, h.df, fun t => sat_step H _ _ (h.slots t), fun n o ho => ?_, fun n n' o o' b h1 h2 h3 h4 => ?_, fun x hx => ?_, h.mb, h.ev, fun n o b h1 h2 => ?_, fun p hp => ?_, fun p hp hx => h.n0 p hp hx.1⟩
  · simp only [St.set] at ho
    by_cases hn : n = nm
    · subst hn
      rw [upd_same] at ho
      simp only [Option.some.injEq] at ho
      subst ho
      exact .inl ⟨hm0, rfl, k, rfl, by simp only [St.ctx]; rw [upd_same]⟩
    · rw [upd_ne _ _ hn] at ho
      exact objOK_step H rfl (by simp only [St.ctx]; rw [upd_ne _ _ hn]) (fun b hb => rfl) (h.obj n o ho)
  · simp only [St.set] at h1 h2
    have hn : n ≠ nm := by rintro rfl; rw [hm0] at h3; cases h3
    have hn' : n' ≠ nm := by rintro rfl; rw [hm0] at h4; cases h4
    rw [upd_ne _ _ hn] at h1; rw [upd_ne _ _ hn'] at h2; exact h.inj n n' o o' b h1 h2 h3 h4
  · simp only [St.set]
    rw [upd_ne _ _ hx.2]; exact h.mf x hx.1
  · simp only [St.set] at h1
    have hn : n ≠ nm := by rintro rfl; rw [hm0] at h2; cases h2
    rw [upd_ne _ _ hn] at h1; exact h.fr n o b h1 h2
  · have hn : p ≠ nm := by rintro rfl; exact h.n0 p hp hF
    rw [upd_ne _ _ hn]; exact h.base p hp

/-- an object is given up -/
theorem Rep.kill (h : Rep B F st m L a w) (nm : Nat) : Rep B F (st.set nm none) m L a w := by
  have hx : ∀ n o, (st.set nm none).objs n = some o → st.objs n = some o := by
    intro n o ho
    simp only [St.set] at ho
    by_cases hn : n = nm
    · subst hn; rw [upd_same] at ho; cases ho
    · rwa [upd_ne _ _ hn] at ho
  have H : Step (st.ctx m L w) ((st.set nm none).ctx m L w) := ⟨Ev.refl _ _, fun b _ ⟨n, o, h1, h2⟩ => ⟨n, o, hx n o h1, h2⟩, fun _ _ h => ⟨h, rfl⟩⟩
  refine ⟨h.sz, h.df, fun t => sat_step H _ _ (h.slots t), fun n o ho => objOK_step H rfl rfl (fun _ _ => rfl) (h.obj n o (hx n o ho)), fun n n' o o' b h1 h2 => h.inj n n' o o' b (hx n o h1) (hx n' o' h2),
    fun x hF => ⟨(h.mf x hF).1, ?_⟩, h.mb, h.ev, fun n o b h1 h2 => h.fr n o b (hx n o h1) h2, h.base, h.n0⟩
  have := (h.mf x hF).2
  simp only [St.set]
  by_cases hn : x = nm
  · subst hn; rw [upd_same]
  · rw [upd_ne _ _ hn]; exact this

theorem Rep.weakF (h : Rep B F st m L a w) {F' : Nat → Prop} (hF : ∀ x, F' x → F x) : Rep B F' st m L a w :=
  ⟨h.sz, h.df, h.slots, h.obj, h.inj, fun x hx => h.mf x (hF x hx), h.mb, h.ev, h.fr, h.base, fun p hp hx => h.n0 p hp (hF p hx)⟩

end

/-! ### stores -/
theorem splice_rel {c : Ctx} {fl x : List AV} {cur vs : List Value} {p : Nat} (hcl : ∀ (q : Nat) (av : AV), fl[q]? = some av → ∃ y, cur[q]? = some y ∧ y.oneCell' = true ∧ sat c av y)
    (hv : satList c x vs) (hp : p + x.length ≤ fl.length) (hfit : fl.length ≤ cur.length) :
    ∀ (q : Nat) (av : AV), (fl.take p ++ x ++ fl.drop (p + x.length))[q]? = some av → ∃ y, (cur.take p ++ vs ++ cur.drop (p + vs.length))[q]? = some y ∧ y.oneCell' = true ∧ sat c av y := by
  intro q av hq
  have hvl := satList_len hv
  have e6 : (fl.take p).length = p := by simp; omega
  have e7 : (cur.take p).length = p := by simp; omega
  by_cases h1 : q < p
  · rw [List.append_assoc, List.getElem?_append_left (by omega), List.getElem?_take, if_pos h1] at hq ⊢
    exact hcl q av hq
  · by_cases h2 : q < p + x.length
    · rw [List.append_assoc, List.getElem?_append_right (by omega), List.getElem?_append_left (by omega)] at hq ⊢
      rw [e6] at hq
      rw [e7]
      exact satList_get hv hq
    · rw [List.append_assoc, List.getElem?_append_right (by omega), List.getElem?_append_right (by omega), List.getElem?_drop] at hq ⊢
      rw [e6] at hq
      rw [e7, hvl]
      exact hcl _ av hq

theorem run_storeCells_fr (P : Program) (g o : Nat) (t : TypeId) (fr : Nat × Nat) : ∀ (vs : List Value) (i : Nat) (cur : Array Value) (w : World), w.heap[g]? = some (.cells cur t fr) → noFr fr cur.size → o + i + vs.length ≤ cur.size → (∀ v ∈ vs, v.oneCell' = true) →
    (storeCells ⟨g, o, none⟩ vs i).run P w = .ok () (w.setRow g (cur.toList.take (o + i) ++ vs ++ cur.toList.drop (o + i + vs.length)).toArray)
  | [], i, cur, w, hg, _, _, _ => by
    simp only [storeCells, List.append_nil, List.length_nil, Nat.add_zero, List.take_append_drop, Array.toArray_toList]
    rw [setRow_self w g cur t fr hg]
    rfl
  | v :: rest, i, cur, w, hg, hf, hl, h1 => by
    have hi : o + i < cur.size := by simp at hl; omega
    have hcell : w.cell? ⟨g, o + i, none⟩ = some cur[o + i] := by simp [World.cell?, hg, hi]
    have hfro : w.frozen? ⟨g, o + i, none⟩ = false := by simp only [World.frozen?, hg]; exact hf _ hi
    have hst : (store ((⟨g, o, none⟩ : Addr).add i) v).run P w = .ok () (w.setRow g (cur.setIfInBounds (o + i) v)) := by
      rw [add_plain, run_store P w _ v _ (h1 v (by simp)), hcell]
      simp [hfro, setCell_eq_setRow w g (o + i) cur t fr v hg]
    have ih := run_storeCells_fr P g o t fr rest (i + 1) (cur.setIfInBounds (o + i) v) (w.setRow g (cur.setIfInBounds (o + i) v)) (setRow_heap w g cur _ t _ hg) (by simpa using hf) (by simp at hl ⊢; omega) (fun x hx => h1 x (by simp [hx]))
    simp only [storeCells, Sem.run_bind, hst, Result.andThen_ok, ih, setRow_setRow]
    congr 3
    have e := list_seg_step cur.toList (o + i) v rest (by simp at hl ⊢; omega)
    simpa [Array.toList_setIfInBounds, Nat.add_assoc] using e

theorem Ev.setRow {X : Nat → Prop} {w : World} {g : Nat} {old : Array Value} {t : TypeId} {fr : Nat × Nat} (hg : w.heap[g]? = some (.cells old t fr)) (hX : X g) (cs : Array Value) (hsz : cs.size = old.size) : Ev X w (w.setRow g cs) := by
  refine ⟨rfl, rfl, rfl, by simp, fun b hb hnx => setRow_other w g b cs (by rintro rfl; exact hnx hX), fun b cur ty fr' hc => ?_⟩
  by_cases hb : b = g
  · subst hb
    rw [hg] at hc; injection hc with hc; injection hc with h1 h2 h3; subst h1; subst h2; subst h3
    exact ⟨cs, setRow_heap w b old cs t fr hg, hsz⟩
  · exact ⟨cur, by rw [setRow_other w g b cs hb]; exact hc, rfl⟩

section
variable {B : Base} {F : Nat → Prop} {st : St} {m : Nat → Option Nat} {L : Nat → Lay} {a : Act} {w : World}

/-- a row of an object's block turns -/
theorem Rep.setSegs (h : Rep B F st m L a w) {nm b : Nat} {o : AObj} (ho : st.objs nm = some o) (hm : m nm = some b) {segs' : List (List AV)} {cur cur' : Array Value} {fr : Nat × Nat}
    (hcur : w.heap[b]? = some (.cells cur o.ty fr)) (hsz : cur'.size = cur.size) (hlen : segs'.map List.length = o.segs.map List.length)
    (hs : ∀ (q : Nat) (av : AV), segs'.flatten[q]? = some av → ∃ y, cur'[q]? = some y ∧ y.oneCell' = true ∧ sat (st.ctx m L w) av y) :
    Rep B F (st.set nm (some { o with segs := segs' })) m L a (w.setRow b cur') := by
  have hXb : st.X m b := ⟨nm, o, ho, hm⟩
  have hE : Ev (st.X m) w (w.setRow b cur') := Ev.setRow hcur hXb cur' hsz
  have hx : ∀ n o', (st.set nm (some { o with segs := segs' })).objs n = some o' → ∃ o'', st.objs n = some o'' ∧ (n ≠ nm → o'' = o') := by
    intro n o' ho'
    simp only [St.set] at ho'
    by_cases hn : n = nm
    · subst hn; exact ⟨o, ho, fun h => absurd rfl h⟩
    · rw [upd_ne _ _ hn] at ho'; exact ⟨o', ho', fun _ => rfl⟩
  have H : Step (st.ctx m L w) ((st.set nm (some { o with segs := segs' })).ctx m L (w.setRow b cur')) :=
    ⟨hE, fun b' _ ⟨n, o', h1, h2⟩ => let ⟨o'', h3, _⟩ := hx n o' h1; ⟨n, o'', h3, h2⟩, fun _ _ h => ⟨h, rfl⟩⟩
  refine ⟨h.sz, h.df, fun t => sat_step H _ _ (h.slots t), fun n o' ho' => ?_, fun n n' o1 o2 b' h1 h2 => ?_, fun x hF => ?_, fun n b' hb => by simpa using h.mb n b' hb, ?_, fun n o' b' h1 h2 => ?_, h.base, h.n0⟩
  · by_cases hn : n = nm
    · subst hn
      simp only [St.set, upd_same, Option.some.injEq] at ho'
      subst ho'
      rcases h.obj n o ho with ⟨e1, _⟩ | ⟨b2, cur2, fr2, e1, e2, e3, e4, e5⟩
      · simp only [St.ctx] at e1; rw [hm] at e1; cases e1
      · have hb2 : b2 = b := by simp only [St.ctx] at e1; rw [hm] at e1; injection e1 with e1; exact e1.symm
        subst hb2
        simp only [St.ctx] at e2
        rw [hcur] at e2; injection e2 with e2; injection e2 with c1 c2 c3; subst c1; subst c3
        have hfl : segs'.flatten.length = o.segs.flatten.length := by rw [List.length_flatten, List.length_flatten, hlen]
        have hsl : segs'.length = o.segs.length := by have := congrArg List.length hlen; simpa using this
        refine .inr ⟨b2, cur', fr, hm, setRow_heap w b2 cur cur' o.ty fr hcur, by rw [hsz]; exact e3, ?_, ?_⟩
        · rw [satSegs_flat]
          refine satCells_of fun q av hq => ?_
          obtain ⟨y, k1, k2, k3⟩ := hs q av hq
          refine ⟨y, ?_, k2, sat_step H _ _ k3⟩
          rw [Nat.zero_add]
          exact (cell_of_row _ b2 q cur' o.ty fr (setRow_heap w b2 cur cur' o.ty fr hcur)).trans k1
        · rcases e5 with ⟨k, cap, f1, f2, f3, f4, f5, f6⟩ | ⟨f1, f2, f3⟩
          · refine .inl ⟨k, cap, f1, f2, ?_, by rw [hsz]; exact f4, by rw [hsl]; exact f5, f6⟩
            intro e he
            have : e.length ∈ segs'.map List.length := List.mem_map.2 ⟨e, he, rfl⟩
            rw [hlen] at this
            obtain ⟨e', he', hee⟩ := List.mem_map.1 this
            rw [← hee]; exact f3 e' he'
          · exact .inr ⟨f1, by simp only [St.ctx] at f2 ⊢; rw [f2, hlen], by rw [hsz, hfl]; exact f3⟩
    · have ho2 : st.objs n = some o' := by simp only [St.set] at ho'; rwa [upd_ne _ _ hn] at ho'
      refine objOK_step H rfl rfl (fun b' hb' => setRow_other w b b' cur' ?_) (h.obj n o' ho2)
      rintro rfl
      exact hn (h.inj n nm o' o b' ho2 ho hb' hm)
  · obtain ⟨o1', g1, _⟩ := hx n o1 h1
    obtain ⟨o2', g2, _⟩ := hx n' o2 h2
    exact h.inj n n' o1' o2' b' g1 g2
  · have := h.mf x hF
    refine ⟨this.1, ?_⟩
    simp only [St.set]
    by_cases hn : x = nm
    · subst hn; rw [this.2] at ho; cases ho
    · rw [upd_ne _ _ hn]; exact this.2
  · refine h.ev.trans hE ?_
    rintro q ⟨n, o', h1, h2⟩
    exact h.fr n o' q h1 h2
  · obtain ⟨o2, g2, _⟩ := hx n o' h1
    exact h.fr n o2 b' g2 h2

variable {P : Program} (G : Sg P)

/-- what a store leaves -/
def stA (t : TypeId) (st : St) (x v : AV) : Option (Nat × AObj) :=
  match x with
  | .ptr nm s j => (st.objs nm).bind fun o => if (cellsA v).length = G.sz t ∧ 0 < G.sz t ∧ s ≤ o.segs.length then (stS o.segs s j v).map fun segs' => (nm, { o with segs := segs' }) else none
  | _ => none

theorem st_sound (h : Rep B F st m L a w) {t : TypeId} {x v : AV} {vx vv : Value} (hx : sat (st.ctx m L w) x vx) (hv : sat (st.ctx m L w) v vv) {nm : Nat} {o' : AObj} (hs : stA G t st x v = some (nm, o')) :
    ∃ w', (Instr.storeAt t vx vv).run P w = .ok () w' ∧ Rep B F (st.set nm (some o')) m L a w' := by
  unfold stA at hs
  split at hs
  case h_2 => cases hs
  case h_1 nm' s j =>
    cases ho : st.objs nm' with
    | none => rw [ho] at hs; cases hs
    | some o =>
      rw [ho] at hs
      simp only [Option.bind_some] at hs
      split at hs
      case isFalse => cases hs
      case isTrue hc =>
        obtain ⟨hc, hpos, hsl⟩ := hc
        cases hst : stS o.segs s j v with
        | none => rw [hst] at hs; cases hs
        | some segs' =>
          rw [hst] at hs
          simp only [Option.map_some, Option.some.injEq, Prod.mk.injEq] at hs
          obtain ⟨rfl, rfl⟩ := hs
          obtain ⟨k1, k2, k3, k4⟩ := stS_spec hst
          simp only [sat] at hx
          obtain ⟨b, hb, rfl⟩ := hx
          rcases h.obj nm' o ho with ⟨e1, _⟩ | ⟨b2, cur, fr, e1, e2, e3, e4, e5⟩
          · rw [hb] at e1; cases e1
          · have hb2 : b2 = b := by rw [hb] at e1; injection e1 with e1; exact e1.symm
            subst hb2
            have hpre := (h.obj nm' o ho).pre hsl
            have hvl := cells_sat k1 hv
            have hvlen := satList_len hvl
            simp only [Array.length_toList] at hvlen
            have hfit : o.segs.flatten.length ≤ cur.size := by
              rcases e5 with ⟨k, cap, f1, f2, f3, f4, f5, f6⟩ | ⟨f1, f2, f3⟩
              · have := presegs_uni f3 (Nat.le_refl o.segs.length)
                rw [presegs_eq, List.take_length] at this
                rw [this, f4]; exact Nat.mul_le_mul_right _ f5
              · omega
            refine ⟨_, ?_, h.setSegs ho hb (cur' := (cur.toList.take (presegs o.segs s + j) ++ vv.cells.toList ++ cur.toList.drop (presegs o.segs s + j + vv.cells.toList.length)).toArray) e2 ?_ k3 ?_⟩
            · have hrun := run_storeCells_fr P b2 (presegs o.segs s + j) o.ty fr vv.cells.toList 0 cur w e2 e3 (by simp; omega) (satList_one hvl)
              simp only [Nat.add_zero] at hrun
              have hne : ¬ vv.cells.size ≠ G.sz t := by omega
              rw [hpre]
              simp only [Instr.storeAt, Instr.sureAddr, storeVar, Sem.run_bind, Sem.run_pure, Result.andThen_ok, G.sz_run hpos]
              rw [if_neg hne]
              simpa using hrun
            · simp; omega
            · intro q av hq
              rw [k2] at hq
              simp only [List.getElem?_toArray]
              have hcl : ∀ (q : Nat) (av : AV), o.segs.flatten[q]? = some av → ∃ y, cur.toList[q]? = some y ∧ y.oneCell' = true ∧ sat (st.ctx m L w) av y := by
                intro q av hq
                rw [satSegs_flat] at e4
                obtain ⟨y, g1, g2, g3⟩ := satCells_get e4 hq
                refine ⟨y, ?_, g2, g3⟩
                rw [Nat.zero_add, cell_of_row _ b2 q cur o.ty fr e2] at g1
                rw [Array.getElem?_toList]; exact g1
              exact splice_rel hcl hvl k4 (by simpa using hfit) q av hq
end
end Go.Av
