/- How a typed evaluator tells the code of a function: definitions and soundness, part 6. -/
import Derived.Test.YtifcbamdncpahaaDoorZ5
import Derived.Laws.Cover3
set_option linter.unusedVariables false
set_option linter.unusedSimpArgs false
namespace Go.Tv
open Go Go.RowKit
set_option linter.unusedSectionVars false
variable [Inv]
section
variable {P : Program} {B : Base} {ops : Array Oper}
def RWL (P : Program) (B : Base) (ops : Array Oper) (l : List Oper) (st : St) (Q : St → Prop) : Prop :=
  ∀ (tail : List Oper) (QQ : Exit → Act → World → Prop) (m : Nat → Option Nat) (L : Nat → Option (Nat × Nat)) (a : Act) (w : World), Rep B (fun x => st.nx ≤ x) st m L a w →
    (∀ st' m' L' a' w', Q st' → Rep B (fun x => st'.nx ≤ x) st' m' L' a' w' → wpList P ops QQ tail a' w') → wpList P ops QQ (l ++ tail) a w
theorem RWL.nil {st : St} {Q : St → Prop} (h : Q st) : RWL P B ops [] st Q := fun _ _ m L a w hr hk => hk st m L a w h hr
theorem RWL.mono {l : List Oper} {st : St} {Q Q' : St → Prop} (h : RWL P B ops l st Q) (hq : ∀ st', Q st' → Q' st') : RWL P B ops l st Q' :=
  fun tail QQ m L a w hr hk => h tail QQ m L a w hr fun st' m' L' a' w' q => hk st' m' L' a' w' (hq st' q)
theorem RWL.app {l1 l2 : List Oper} {st : St} {Q1 Q : St → Prop} (h1 : RWL P B ops l1 st Q1) (h2 : ∀ st', Q1 st' → RWL P B ops l2 st' Q) : RWL P B ops (l1 ++ l2) st Q :=
  fun tail QQ m L a w hr hk => by
    rw [List.append_assoc]
    exact h1 (l2 ++ tail) QQ m L a w hr fun st' m' L' a' w' q hr' => h2 st' q tail QQ m' L' a' w' hr' hk
theorem RWL.cons {o : Oper} {l : List Oper} {st : St} {Q1 Q : St → Prop} (h1 : RWL P B ops [o] st Q1) (h2 : ∀ st', Q1 st' → RWL P B ops l st' Q) : RWL P B ops (o :: l) st Q :=
  RWL.app (l1 := [o]) h1 h2
theorem RWL.view {l : List Oper} {st : St} {Q : St → Prop} {s : Sh} (hn0 : s.n0 = B.n0) {x : TupT s.tys} (hm : s.mat st = some x) (h : RWL P B ops l (s.dec x) Q) : RWL P B ops l st Q :=
  fun tail QQ m L a w hr hk => by
    obtain ⟨m', L', hr'⟩ := hr.view hn0 hm
    exact h tail QQ m' L' a w hr' hk
theorem RWL.sub {l : List Oper} {st st' : St} {Q : St → Prop} (ho : ∀ nm o, nm < st.nx → st'.objs nm = some o → st.objs nm = some o) (hb : ∀ nm, st.nx ≤ nm → st'.objs nm = none) (he : ∀ t, st'.env t = .any ∨ st'.env t = st.env t) (hx : st.nx ≤ st'.nx)
    (h : RWL P B ops l st' Q) : RWL P B ops l st Q := fun tail QQ m L a w hr hk => by
  refine h tail QQ m L a w ((hr.sub (fun nm o hn => ?_) he).weakF fun x hx' => Nat.le_trans hx hx') hk
  rcases Nat.lt_or_ge nm st.nx with hlt | hge
  · exact ho nm o hlt hn
  · rw [hb nm hge] at hn; cases hn
theorem RWL.init {l : List Oper} {st : St} {Q : St → Prop} (h : (∀ nm, st.nx ≤ nm → st.objs nm = none) → RWL P B ops l st Q) : RWL P B ops l st Q :=
  fun tail QQ m L a w hr hk => h (fun nm hn => (hr.mf nm hn).2.2) tail QQ m L a w hr hk
theorem Rep.next {F : Nat → Prop} {st : St} {d : Dlt} {k : Nat} {m : Nat → Option Nat} {L : Nat → Option (Nat × Nat)} {a : Act} {w : World} (h : Rep B F (st.app d) m L a w) (hF : ∀ x, st.nx + k ≤ x → F x) :
    Rep B (fun x => (st.next d k).nx ≤ x) (st.next d k) m L a w := by
  have h2 := h.weakF (F' := fun x => st.nx + k ≤ x) hF
  exact ⟨h2.sz, h2.df, h2.slots, h2.obj, h2.inj, h2.mf, h2.mb, h2.ev, h2.fr, h2.yb, h2.base, h2.n0⟩
def Wants (B : Base) (ops : Array Oper) (o : Oper) (st : St) : Prop :=
  ∀ (F : Nat → Prop) (m : Nat → Option Nat) (L : Nat → Option (Nat × Nat)) (a : Act) (w : World), Rep B F st m L a w → Region.wanted o (yielded ops a.tmps) = true
theorem RWL.step {o : Oper} {st : St} {Q : St → Prop} {d : Dlt} {k : Nat} (hw : Wants B ops o st) (hd : ∀ t, o.dst = some t → t < B.nt) (hs : Stp P o st.nx k st.env st.objs d) (h : Q (st.next d k)) : RWL P B ops [o] st Q :=
  fun tail QQ m L a w hr hk => by
    refine wpList_step fun K hK => ?_
    rw [if_pos (hw _ m L a w hr)]
    exact Oper.wp_mono (fun a' w' ⟨m', L', hr'⟩ => hK a' w' (hk _ m' L' a' w' h (hr'.next fun x hx => ⟨by omega, by omega⟩))) (hs hr (fun x hx _ => hx) (evOK_rep hr) (fun _ _ h => h) hd _)
theorem yielded_of {ops : Array Oper} {a : Act} {g : Nat} {t : Tmp} {b : Bool} (hg : (ops[g]?).bind (·.dst) = some t) (ht : t < a.tmps.size) (hv : a.tmps.getD t undef = .bool b) : yielded ops a.tmps g = some b := by
  unfold yielded
  rw [hg]
  have : a.tmps[t]? = some (.bool b) := by
    rw [Array.getElem?_eq_getElem ht]
    rw [Array.getD_eq_getD_getElem?, Array.getElem?_eq_getElem ht] at hv
    simpa using hv
  simp [this]
theorem yielded_none {ops : Array Oper} {a : Act} {g : Nat} {t : Tmp} (hg : (ops[g]?).bind (·.dst) = some t) (ht : t < a.tmps.size) (hv : a.tmps.getD t undef = undef) : yielded ops a.tmps g = none := by
  unfold yielded
  rw [hg]
  have : a.tmps[t]? = some undef := by
    rw [Array.getElem?_eq_getElem ht]
    rw [Array.getD_eq_getD_getElem?, Array.getElem?_eq_getElem ht] at hv
    simpa using hv
  simp [this, undef]
theorem eqG_eq {a b : Option (Nat × Bool)} (h : eqG a b = true) : a = b := by
  unfold eqG at h
  split at h
  · rfl
  · rename_i x y z u
    split at h
    case h_1 hb =>
      have := Nat.eq_of_beq_eq_true hb
      subst this
      cases y <;> cases u <;> first | rfl | cases h
    case h_2 => cases h
  · cases h
theorem memN_iff {n : Nat} : ∀ {l : List Nat}, memN n l = true ↔ n ∈ l
  | [] => by simp [memN]
  | m :: l => by
    simp only [memN, List.mem_cons]
    cases hb : Nat.beq n m with
    | true => simp [Nat.eq_of_beq_eq_true hb]
    | false =>
      have : n ≠ m := fun h => by subst h; rw [Nat.beq_refl] at hb; cases hb
      simp only [this, false_or]
      exact memN_iff
theorem dstOK_spec {gs : List Tmp} {d : Option Tmp} (h : dstOK gs d = true) {t : Tmp} (ht : t ∈ gs) : d ≠ some t := by
  rintro rfl
  simp only [dstOK, Bool.not_eq_true'] at h
  rw [memN_iff.2 ht] at h; cases h
theorem guardT_bind (all : List Oper) (g : Nat) : (all.toArray[g]?).bind (·.dst) = guardT all g := by
  unfold guardT
  rw [List.getElem?_toArray]
  cases all[g]? <;> rfl
theorem guardT_lt {all : List Oper} (hall : all.all (dstB B.nt) = true) {g : Nat} {t : Tmp} (h : guardT all g = some t) : t < B.nt := by
  unfold guardT at h
  split at h
  case h_2 => cases h
  case h_1 o ho =>
    have := List.all_eq_true.1 hall o (List.mem_of_getElem? ho)
    unfold dstB at this
    rw [h] at this
    exact Nat.le_of_ble_eq_true this
theorem dstB_lt {o : Oper} {n : Nat} (h : dstB n o = true) : ∀ t, o.dst = some t → t < n := fun t ht => by
  unfold dstB at h
  rw [ht] at h
  exact Nat.le_of_ble_eq_true h
def HoldG (all : List Oper) (gs : List Tmp) (st : St) : Option (Nat × Bool) → Prop
  | none => True
  | some (g, w) => ∃ t s, guardT all g = some t ∧ t ∈ gs ∧ st.env t = .val s .bool w
theorem wants_of {all : List Oper} (hall : all.all (dstB B.nt) = true) {gs : List Tmp} {st : St} {outer : Option (Nat × Bool)} (h : HoldG all gs st outer) {o : Oper} (hg : eqG o.guard outer = true) : Wants B all.toArray o st := by
  intro F m L a w hr
  have hg := eqG_eq hg
  cases outer with
  | none => simp [Region.wanted, hg]
  | some gw =>
    obtain ⟨g, want⟩ := gw
    obtain ⟨t, s, h1, _, h2⟩ := h
    have hv := hr.slots t
    rw [h2] at hv
    have hy := yielded_of (ops := all.toArray) (b := want) ((guardT_bind all g).trans h1) (by rw [hr.sz]; exact guardT_lt hall h1) (sat_bool.1 hv)
    simp [Region.wanted, hg, hy]
structure Frame (l : List Oper) (gs : List Tmp) (lim : Option Nat) (st st' : St) : Prop where
  env : ∀ t, (∀ o ∈ l, o.dst ≠ some t) → st'.env t = st.env t
  gs : ∀ t, t ∈ gs → st'.env t = st.env t
  objs : ∀ n, lim = some n → ∀ nm, nm < n → st'.objs nm = st.objs nm
  nx : st.nx ≤ st'.nx
theorem Frame.refl {l : List Oper} {gs : List Tmp} {lim : Option Nat} {st : St} : Frame l gs lim st st := ⟨fun _ _ => rfl, fun _ _ => rfl, fun _ _ _ _ => rfl, Nat.le_refl _⟩
theorem Frame.app {l1 l2 : List Oper} {gs : List Tmp} {lim : Option Nat} {a b c : St} (h : Frame l1 gs lim a b) (k : Frame l2 gs lim b c) : Frame (l1 ++ l2) gs lim a c :=
  ⟨fun t ht => (k.env t fun o ho => ht o (List.mem_append.2 (.inr ho))).trans (h.env t fun o ho => ht o (List.mem_append.2 (.inl ho))), fun t ht => (k.gs t ht).trans (h.gs t ht),
    fun n hn nm hm => (k.objs n hn nm hm).trans (h.objs n hn nm hm), Nat.le_trans h.nx k.nx⟩
theorem HoldG.frame {all : List Oper} {gs : List Tmp} {st st' : St} {outer : Option (Nat × Bool)} (h : HoldG all gs st outer) (hf : ∀ t, t ∈ gs → st'.env t = st.env t) : HoldG all gs st' outer := by
  cases outer with
  | none => trivial
  | some gw =>
    obtain ⟨t, s, h1, h2, h3⟩ := h
    exact ⟨t, s, h1, h2, (hf t h2).trans h3⟩
theorem put_env_ne {st : St} {d : Option Tmp} {v : TV} {t : Tmp} (h : d ≠ some t) : (st.put d v).env t = st.env t := by
  cases d with
  | none => rfl
  | some u => exact upd_ne _ _ fun hh => h (by rw [hh])
theorem put_env_eq {st : St} {v : TV} {t : Tmp} : (st.put (some t) v).env t = v := upd_same _ _ _
theorem frame_step {o : Oper} {gs : List Tmp} {lim : Option Nat} {st : St} {d : Dlt} {k : Nat} (hd : d.dst = o.dst) (hgs : dstOK gs o.dst = true) (hal : (d.ups.all fun p => allowed lim p.1) = true) : Frame [o] gs lim st (st.next d k) := by
  refine ⟨fun t ht => ?_, fun t ht => ?_, fun n hn nm hm => ?_, Nat.le_add_right _ _⟩
  · show ((St.put { st with objs := setAll st.objs d.ups } d.dst d.av).env t) = _
    rw [put_env_ne]
    rw [hd]; exact ht o (by simp)
  · show ((St.put { st with objs := setAll st.objs d.ups } d.dst d.av).env t) = _
    rw [put_env_ne]
    rw [hd]; exact dstOK_spec hgs ht
  · show (St.put { st with objs := setAll st.objs d.ups } d.dst d.av).objs nm = _
    rw [St.put_objs]
    show setAll st.objs d.ups nm = st.objs nm
    subst hn
    generalize d.ups = ups at hal
    induction ups with
    | nil => rfl
    | cons p ups ih =>
      obtain ⟨x, u⟩ := p
      simp only [List.all_cons, Bool.and_eq_true] at hal
      have hx : n ≤ x := Nat.le_of_ble_eq_true hal.1
      simp only [setAll]
      rw [upd_ne _ _ (by omega : nm ≠ x)]
      exact ih hal.2
theorem hide_upd (t : Tmp) : ∀ (l : List Oper) (e : Nat → TV), hide l (upd e t .any) = upd (hide l e) t .any
  | [], e => rfl
  | o :: l, e => by
    simp only [hide]
    rw [hide_upd t l e]
    cases o.dst with
    | none => rfl
    | some u =>
      funext x
      dsimp only
      by_cases h1 : x = u
      · subst h1
        rw [upd_same]
        by_cases h2 : x = t
        · subst h2; rw [upd_same]
        · rw [upd_ne _ _ h2, upd_same]
      · rw [upd_ne _ _ h1]
        by_cases h2 : x = t
        · subst h2; rw [upd_same, upd_same]
        · rw [upd_ne _ _ h2, upd_ne _ _ h2, upd_ne _ _ h1]
theorem hide_spec : ∀ (l : List Oper) (e : Nat → TV) (t : Tmp), ((∃ o ∈ l, o.dst = some t) ∧ hide l e t = .any) ∨ ((∀ o ∈ l, o.dst ≠ some t) ∧ hide l e t = e t)
  | [], e, t => .inr ⟨by simp, rfl⟩
  | o :: l, e, t => by
    by_cases hd : o.dst = some t
    · left
      refine ⟨⟨o, by simp, hd⟩, ?_⟩
      simp only [hide]
      rw [hd]; exact upd_same _ _ _
    · have hs : hide (o :: l) e t = hide l e t := by
        simp only [hide]
        cases ho : o.dst with
        | none => rfl
        | some u => exact upd_ne _ _ fun h => hd (by rw [ho, h])
      rw [hs]
      rcases hide_spec l e t with ⟨⟨o', h1, h2⟩, h3⟩ | ⟨h1, h2⟩
      · exact .inl ⟨⟨o', by simp [h1], h2⟩, h3⟩
      · refine .inr ⟨fun o' ho' => ?_, h2⟩
        rcases List.mem_cons.1 ho' with rfl | ho'
        · exact hd
        · exact h1 o' ho'
theorem skip_sound {all : List Oper} (hall : all.all (dstB B.nt) = true) {g : Nat} {want gb : Bool} {gt : Tmp} (hgt : guardT all g = some gt) (hne : gb ≠ want) :
    ∀ (l : List Oper) (un : List Tmp), l.all (dstB B.nt) = true → skipOK all g want l un = true → (∀ o ∈ l, o.dst ≠ some gt) →
    ∀ (F : Nat → Prop) (st : St) (m : Nat → Option Nat) (L : Nat → Option (Nat × Nat)) (a : Act) (w : World) (s : Bool), Rep B F st m L a w → st.env gt = .val s .bool gb → (∀ t, t ∈ un → t < B.nt → a.tmps.getD t undef = undef) →
    ∀ (tail : List Oper) (QQ : Exit → Act → World → Prop), (∀ a', Rep B F ⟨hide l st.env, st.objs, st.nx⟩ m L a' w → wpList P all.toArray QQ tail a' w) → wpList P all.toArray QQ (l ++ tail) a w := by
  intro l
  induction l with
  | nil => intro un _ _ _ F st m L a w s hr _ _ tail QQ hk; exact hk a hr
  | cons o l ih =>
    intro un hl hsk hng F st m L a w s hr hgv hun tail QQ hk
    simp only [List.all_cons, Bool.and_eq_true] at hl
    simp only [skipOK, Bool.and_eq_true] at hsk
    have hnw : Region.wanted o (yielded all.toArray a.tmps) = false := by
      obtain ⟨h1, _⟩ := hsk
      split at h1
      case h_1 => cases h1
      case h_2 g' w' hg =>
        split at h1
        case h_1 he =>
          have he := eqG_eq he
          injection he with he
          injection he with e1 e2
          subst e1; subst e2
          have hv := hr.slots gt
          rw [hgv] at hv
          have hy := yielded_of (ops := all.toArray) (b := gb) ((guardT_bind all g').trans hgt) (by rw [hr.sz]; exact guardT_lt hall hgt) (sat_bool.1 hv)
          simp [Region.wanted, hg, hy, hne]
        case h_2 =>
          split at h1
          case h_2 => cases h1
          case h_1 t ht =>
            have htl := guardT_lt (B := B) hall ht
            have hy := yielded_none (ops := all.toArray) ((guardT_bind all g').trans ht) (by rw [hr.sz]; exact htl) (hun t (memN_iff.1 h1) htl)
            simp [Region.wanted, hg, hy]
    have hr' : Rep B F (st.put o.dst .any) m L (a.put o.dst undef) w := hr.put (dstB_lt hl.1) sat_any
    refine wpList_step fun K hK => ?_
    rw [if_neg (by rw [hnw]; simp)]
    refine hK _ _ (ih _ hl.2 hsk.2 (fun o' ho' => hng o' (by simp [ho'])) F _ m L _ w s hr' (by rw [put_env_ne (hng o (by simp))]; exact hgv) (fun t ht htl => ?_) tail QQ fun a' hra => hk a' ?_)
    · have hput : ∀ u, o.dst = some u → (a.put o.dst undef).tmps.getD u undef = undef := fun u hu => by
        rw [hu]
        simp [Act.put]
      by_cases hd : o.dst = some t
      · exact hput t hd
      · have h2 : t ∈ un := by
          cases ho : o.dst with
          | none => rw [ho] at ht; exact ht
          | some u =>
            rw [ho] at ht
            rcases List.mem_cons.1 ht with rfl | ht
            · exact absurd ho hd
            · exact ht
        have h3 := hun t h2 htl
        cases ho : o.dst with
        | none => exact h3
        | some u =>
          have : u ≠ t := fun h => hd (by rw [ho, h])
          simp only [Act.put]
          rw [Array.getD_eq_getD_getElem?, Array.getElem?_setIfInBounds_ne this, ← Array.getD_eq_getD_getElem?]
          exact h3
    · have : hide l (st.put o.dst .any).env = hide (o :: l) st.env := by
        simp only [hide]
        cases o.dst with
        | none => rfl
        | some t => exact hide_upd t l st.env
      rw [this, St.put_objs, St.put_nx] at hra
      exact hra
theorem splitG_spec {outer : Option (Nat × Bool)} : ∀ {l inner rest : List Oper} {pk : Oper}, splitG outer l = some (inner, pk, rest) → l = inner ++ pk :: rest ∧ eqG pk.guard outer = true
  | [], inner, rest, pk, h => by cases h
  | o :: l, inner, rest, pk, h => by
    simp only [splitG] at h
    split at h
    case h_1 hg =>
      simp only [Option.some.injEq, Prod.mk.injEq] at h
      obtain ⟨rfl, rfl, rfl⟩ := h
      exact ⟨rfl, hg⟩
    case h_2 =>
      split at h
      case h_2 => cases h
      case h_1 a p r hs =>
        simp only [Option.some.injEq, Prod.mk.injEq] at h
        obtain ⟨rfl, rfl, rfl⟩ := h
        obtain ⟨h1, h2⟩ := splitG_spec hs
        exact ⟨by rw [h1]; rfl, h2⟩
theorem pickOf_spec {gt : Option Tmp} {ok : Bool} {op : Op} {a b : Operand} (h : pickOf gt ok op = some (a, b)) : ∃ t, gt = some t ∧ ok = true ∧ op = .pick (.tmp t) a b := by
  unfold pickOf at h
  split at h
  case h_2 => cases h
  case h_1 t a' b' =>
    split at h
    case h_2 => cases h
    case h_1 t' =>
      split at h
      case h_2 => cases h
      case h_1 hb =>
        simp only [Option.some.injEq, Prod.mk.injEq] at h
        obtain ⟨rfl, rfl⟩ := h
        exact ⟨t', rfl, rfl, by rw [Nat.eq_of_beq_eq_true hb]⟩
theorem RWL.pick {pk : Oper} {st : St} {Q : St → Prop} {gt : Tmp} {x y : Operand} {s gb : Bool} (hop : pk.op = .pick (.tmp gt) x y) (hw : Wants B ops pk st) (hd : ∀ t, pk.dst = some t → t < B.nt) (hg : st.env gt = .val s .bool gb)
    (h : Q (st.put pk.dst (evA st.env (selW gb x y)))) : RWL P B ops [pk] st Q := fun tail QQ m L a w hr hk => by
  refine wpList_step fun K hK => ?_
  rw [if_pos (hw _ m L a w hr)]
  have hv := hr.slots gt
  rw [hg] at hv
  have hv : a.eval (.tmp gt) = .bool gb := sat_bool.1 hv
  have hrun : (execOp a.eval pk).run P w = .ok (.value (a.eval (selW gb x y))) w := by
    unfold execOp
    simp only [hop, hv, asBool, Sem.run_bind, Sem.run_pure, Result.andThen_ok]
    cases gb <;> rfl
  unfold Oper.wp
  rw [hrun, Oper.upon_value]
  refine hK _ _ (hk _ m L _ w h ?_)
  have := hr.put hd (evOK_rep hr (selW gb x y))
  rw [St.put_nx]
  exact this
theorem endV_some {t : Ty} {v : TV} {x : t.den} (h : endV t v = some x) : v = .val true t x := by
  unfold endV at h
  split at h
  case h_2 => cases h
  case h_1 t' y =>
    split at h
    case h_2 => cases h
    case h_1 z hz =>
      have hz' := castT_eq hz
      injection hz' with e1 e2
      subst e1
      have e2 := eq_of_heq e2
      have h : some z = some x := h
      injection h with h
      subst h; subst e2; rfl
theorem ob1T_some {β : Type} {t : Ty} {o : Opt t.den} {k : t.den → Opt β} {r : β} (h : ob1T t o k = some r) : ∃ x, o = some x ∧ k x = some r := by
  unfold ob1T ob at h
  split at h
  · exact ⟨_, rfl, h⟩
  · cases h
theorem bools_val {v : TV} {b : Ty.bool.den} (h : bools v = some b) : ∃ s, v = .val s .bool b := by
  unfold bools at h
  split at h
  case h_2 => cases h
  case h_1 s x => injection h with h; subst h; exact ⟨s, rfl⟩
end
end Go.Tv
namespace Go.Tv
open Go Go.RowKit
set_option linter.unusedSectionVars false
variable [Inv]
section
variable {P : Program} {B : Base}
def nilQ (q : Option Chk) (b : Bool) : Prop := match q with
  | none => b = true
  | some em => em = false → b = false
theorem nilD_sound {F : Nat → Prop} {st : St} {m : Nat → Option Nat} {L : Nat → Option (Nat × Nat)} {a : Act} {w : World} (h : Rep B F st m L a w) {v : TV} {y : Value} (hs : sat (st.ctx B m L w) v y) {q : Option Chk} (hq : nilD st.objs v = some q) :
    ∃ ad len cap, y = .slice ad len cap ∧ nilQ q ad.isNone := by
  cases v with
  | nil =>
    simp only [nilD, Option.some.injEq] at hq; subst hq
    simp only [sat, isTup, satV, aggT, satC, List.cons.injEq, and_true] at hs
    exact ⟨none, 0, 0, hs, rfl⟩
  | val s t l =>
    cases t with
    | sl e =>
      simp only [nilD, Option.some.injEq] at hq; subst hq
      simp only [sat, isTup, satV, aggT, Ty.agg, satC, VS, List.cons.injEq, and_true] at hs
      obtain ⟨ad, cap, rfl, _, _, h3⟩ := hs
      refine ⟨ad, _, cap, rfl, fun hem => ?_⟩
      rcases h3 with h3 | ⟨b, off, us, rfl, _⟩
      · subst h3; cases hem
      · rfl
    | _ => cases hq
  | own nm =>
    simp only [nilD] at hq
    split at hq
    case h_2 => cases hq
    case h_1 ty s e l ho =>
      simp only [Option.some.injEq] at hq; subst hq
      simp only [sat, isTup, satV, aggT, satC] at hs
      obtain ⟨y', k, ln, hy, hL, hown⟩ := hs
      simp only [List.cons.injEq, and_true] at hy
      subst hy
      have hob := h.obj nm _ ho
      obtain ⟨hL', _⟩ := hob
      have hL : (st.ctx B m L w).L nm = some (k, ln) := hL
      rw [hL] at hL'
      simp only [Option.some.injEq, Prod.mk.injEq] at hL'
      rcases hown with ⟨h0, ad, rfl⟩ | ⟨b, k', ln', cap, cur, ty', fr, _, _, rfl, _⟩
      · refine ⟨ad, 0, 0, rfl, fun hem => ?_⟩
        exfalso
        rw [hL'.2] at h0
        have : l = ([] : List e.den) := List.eq_nil_of_length_eq_zero h0
        subst this; cases hem
      · exact ⟨_, _, _, rfl, fun _ => rfl⟩
  | _ => cases hq
theorem isNilEq_spec {G : Tab} {op : Op} {w : Bool} {x : Operand} (h : isNilEq G op = some (w, x)) : ∃ t t' e, tyOf G t = some (.sl e) ∧ op = .binOp (selW w .eql .neq) t x (.const (.slice none 0 0)) t' := by
  unfold isNilEq at h
  split at h
  case h_3 => cases h
  case h_1 t x' t' =>
    split at h
    case h_2 => cases h
    case h_1 hb =>
      simp only [Option.some.injEq, Prod.mk.injEq] at h
      obtain ⟨rfl, rfl⟩ := h
      unfold slB at hb
      split at hb
      case h_2 => cases hb
      case h_1 e he => exact ⟨t, t', e, he, rfl⟩
  case h_2 t x' t' =>
    split at h
    case h_2 => cases h
    case h_1 hb =>
      simp only [Option.some.injEq, Prod.mk.injEq] at h
      obtain ⟨rfl, rfl⟩ := h
      unfold slB at hb
      split at hb
      case h_2 => cases hb
      case h_1 e he => exact ⟨t, t', e, he, rfl⟩
theorem nil_run {G : Tab} (hG : TabOK P G) {o : Oper} {w : Bool} {t t' : TypeId} {x : Operand} {e : Ty} (ht : tyOf G t = some (.sl e)) (ho : o.op = .binOp (selW w .eql .neq) t x (.const (.slice none 0 0)) t') {a : Act} {ad : Option Addr} {len cap : Nat} (hx : a.eval x = .slice ad len cap) (wd : World) :
    (execOp a.eval o).run P wd = .ok (.value (.bool (selW w ad.isNone (!ad.isNone)))) wd := by
  obtain ⟨tx, htx, htt⟩ := tyOf_look ht
  have hdd := (tyB_sl (hG.ty htx) htt).1
  have h1 : (Op.equal t (.slice ad len cap) (.slice none 0 0)).run P wd = .ok ad.isNone wd := run_equal_slice_nil wd t _ ad len cap hdd
  unfold execOp
  cases w with
  | true =>
    simp only [selW] at ho ⊢
    have hrun : (do eqGuard .eql t x (.const (.slice none 0 0)) (a.eval x) (a.eval (.const (.slice none 0 0))); binOp .eql t (a.eval x) (a.eval (.const (.slice none 0 0))) : Sem Value).run P wd = .ok (.bool ad.isNone) wd := by
      rw [hx]
      simp only [Act.eval]
      show (do pure (); binOp .eql t (.slice ad len cap) (.slice none 0 0) : Sem Value).run P wd = _
      simp only [Sem.run_bind, Sem.run_pure, Result.andThen_ok, binOp]
      simp only [Sem.run_bind, h1, Result.andThen_ok, Sem.run_pure]
    simp only [ho]
    simp only [Sem.run_bind, hrun, Result.andThen_ok, Sem.run_pure]
  | false =>
    simp only [selW] at ho ⊢
    have hrun : (do eqGuard .neq t x (.const (.slice none 0 0)) (a.eval x) (a.eval (.const (.slice none 0 0))); binOp .neq t (a.eval x) (a.eval (.const (.slice none 0 0))) : Sem Value).run P wd = .ok (.bool !ad.isNone) wd := by
      rw [hx]
      simp only [Act.eval]
      show (do pure (); binOp .neq t (.slice ad len cap) (.slice none 0 0) : Sem Value).run P wd = _
      simp only [Sem.run_bind, Sem.run_pure, Result.andThen_ok, binOp]
      simp only [Sem.run_bind, h1, Result.andThen_ok, Sem.run_pure]
    simp only [ho]
    simp only [Sem.run_bind, hrun, Result.andThen_ok, Sem.run_pure]
theorem ambT_some {β : Type} {e : Bool} {f : Ty.bool.den → Opt β} {r : β} (h : ambT e f = some r) (b : Bool) (hb : e = false → b = false) : f b = some r := by
  unfold ambT amb at h
  cases e with
  | false => rw [hb rfl]; exact h
  | true =>
    simp only at h
    split at h
    case isTrue heq => cases b <;> first | exact h | (rw [heq]; exact h)
    case isFalse => cases h
theorem next_put {st : St} {d : Option Tmp} {v : TV} : st.next ⟨d, v, []⟩ 0 = st.put d v := by
  unfold St.next St.app
  simp only [setAll, Nat.add_zero]
  cases d <;> rfl
theorem evS_sound {cx : Cx} (hG : TabOK P cx.G) (hcall : CallsOK P cx) (hH : ∀ i sh, look cx.H i = some sh → sh.n0 = B.n0) {i : Nat} {all : List Oper} (hall : all.all (dstB B.nt) = true) :
    ∀ (fuel : Nat) (R : Type) (l : List Oper) (outer : Option (Nat × Bool)) (gs : List Tmp) (lim : Option Nat) (st : St) (K : St → Opt R) (r : R), l.all (dstB B.nt) = true → HoldG all gs st outer → evS cx i all fuel R l outer gs lim st K = some r →
      RWL P B all.toArray l st fun st' => K st' = some r ∧ (outer.isSome = true → Frame l gs lim st st') := by
  intro fuel
  induction fuel with
  | zero => intro R l outer gs lim st K r _ _ h; cases h
  | succ fuel ih =>
    intro R l outer gs lim st K r hl hold h
    cases l with
    | nil => exact RWL.nil ⟨h, fun _ => .refl⟩
    | cons o l =>
      have hl0 := hl
      simp only [List.all_cons, Bool.and_eq_true] at hl
      have hd := dstB_lt hl.1
      simp only [evS] at h
      split at h
      case h_1 => cases h
      case h_2 hgs heq =>
        have hw := wants_of hall hold heq
        have plain : (opD cx o st.env st.objs st.nx fun d k => match d.ups.all fun p => allowed lim p.1 with
            | true => evS cx i all fuel R l outer gs lim (st.next d k) K
            | false => nope 12) = some r → RWL P B all.toArray (o :: l) st fun st' => K st' = some r ∧ (outer.isSome = true → Frame (o :: l) gs lim st st') := by
          intro h
          obtain ⟨d, k, hs, h, hdd⟩ := opD_sound hG hcall h
          split at h
          case h_2 => cases h
          case h_1 hal =>
            have hf := frame_step (k := k) (st := st) hdd hgs hal
            refine RWL.cons (RWL.step hw hd hs (Q := fun s => s = st.next d k) rfl) fun st' hst => ?_
            subst hst
            exact (ih R l outer gs lim _ K r hl.2 (hold.frame hf.gs) h).mono fun st' ⟨h1, h2⟩ => ⟨h1, fun hs => hf.app (h2 hs)⟩
        split at h
        case h_2 => exact plain h
        case h_1 w x hnil =>
          obtain ⟨t, t', e, ht, ho⟩ := isNilEq_spec hnil
          intro tail QQ m L a wd hr hk
          have key : ∀ q, nilD st.objs (evA st.env x) = some q → (∀ b : Bool, nilQ q b → evS cx i all fuel R l none gs lim (st.put o.dst (.val true .bool (selW w b (!b)))) K = some r) →
              wpList P all.toArray QQ (o :: l ++ tail) a wd := by
            intro q hq hev
            obtain ⟨ad, len, cap, hy, hq'⟩ := nilD_sound hr (evOK_rep hr x) hq
            refine wpList_step fun KK hKK => ?_
            rw [if_pos (hw _ m L a wd hr)]
            unfold Oper.wp
            rw [nil_run hG ht ho hy, Oper.upon_value]
            have hsat : sat (st.ctx B m L wd) (.val true .bool (selW w ad.isNone (!ad.isNone))) (.bool (selW w ad.isNone (!ad.isNone))) := by
              exact sat_bool.2 rfl
            have hr' := hr.put hd hsat
            refine hKK _ _ (ih R l none gs lim _ K r hl.2 trivial (hev ad.isNone hq') tail QQ m L _ wd ?_ fun st' m' L' a' w' ⟨q1, _⟩ hr2 => hk st' m' L' a' w' ⟨q1, fun hs => by cases hs⟩ hr2)
            rw [St.put_nx]; exact hr'
          split at h
          case h_1 hq =>
            refine key _ hq fun b hb => ?_
            have hb : b = true := hb
            subst hb
            cases w <;> exact h
          case h_2 em hq =>
            refine key _ hq fun b hb => ?_
            exact ambT_some h b hb
          case h_3 => cases h
      case h_3 hgs heq =>
        split at h
        case h_2 => cases h
        case h_1 g w inner pk rest hg hsp =>
          obtain ⟨hlist, hpg⟩ := splitG_spec hsp
          have hla : (inner ++ pk :: rest).all (dstB B.nt) = true := by rw [← hlist]; exact hl0
          simp only [List.all_append, List.all_cons, Bool.and_eq_true] at hla
          obtain ⟨hli, hlp, hlr⟩ := hla
          split at h
          case h_2 => cases h
          case h_1 gt x y gb hgt hck hpk hgv =>
            simp only [Bool.and_eq_true] at hck
            obtain ⟨t', ht', hnd, hop⟩ := pickOf_spec hpk
            rw [hgt] at ht'
            injection ht' with ht'
            subst ht'
            have hin : ∀ o ∈ inner, ∀ t, t ∈ gt :: gs → o.dst ≠ some t := by
              intro o' ho' t ht
              have := List.all_eq_true.1 hnd o' ho'
              unfold guardTL at this
              rw [hgt] at this
              exact dstOK_spec this ht
            obtain ⟨s, hgve⟩ : ∃ s, st.env gt = .val s .bool gb := by
              unfold guardV at hgv
              unfold guardT at hgt
              cases ho : all[g]? with
              | none => rw [ho] at hgt; cases hgt
              | some og =>
                rw [ho] at hgt hgv
                simp only at hgt hgv
                rw [hgt] at hgv
                exact bools_val hgv
            change Bool at gb
            have hpd := dstB_lt hlp
            have noB : gb ≠ w → ∀ (Q : St → Prop), (∀ v, v = evA (hide inner st.env) (selW w y x) → Q (St.put ⟨hide inner st.env, st.objs, st.nx⟩ pk.dst v)) → RWL P B all.toArray (inner ++ [pk]) st Q := by
              intro hne Q hQ tail QQ m L a wd hr hk
              rw [List.append_assoc]
              refine skip_sound hall hgt hne inner [] hli hck.2 (fun o ho => hin o ho gt (by simp)) _ st m L a wd s hr hgve (fun t ht => by cases ht) _ QQ fun a' hr' => ?_
              have henv : hide inner st.env gt = .val s .bool gb := by
                rcases hide_spec inner st.env gt with ⟨⟨o', h1, h2⟩, _⟩ | ⟨_, h2⟩
                · exact absurd h2 (hin o' h1 gt (by simp))
                · rw [h2]; exact hgve
              have hhold : HoldG all gs ⟨hide inner st.env, st.objs, st.nx⟩ outer := hold.frame fun t ht => by
                rcases hide_spec inner st.env t with ⟨⟨o', h1, h2⟩, _⟩ | ⟨_, h2⟩
                · exact absurd h2 (hin o' h1 t (by simp [ht]))
                · exact h2
              refine RWL.pick hop (wants_of hall hhold hpg) hpd henv (Q := Q) (hQ _ ?_) tail QQ m L a' wd hr' hk
              cases w <;> cases gb <;> first | rfl | exact absurd rfl hne
            have yesB : gb = w → ∀ (lim' : Option Nat) (R' : Type) (K' : St → Opt R') (r' : R'), evS cx i all fuel R' inner (some (g, w)) (gt :: gs) lim' st K' = some r' → ∀ (Q : St → Prop),
                (∀ st', K' st' = some r' → Frame inner (gt :: gs) lim' st st' → Q (st'.put pk.dst (evA st'.env (selW w x y)))) → RWL P B all.toArray (inner ++ [pk]) st Q := by
              intro hgw lim' R' K' r' hev Q hQ
              subst hgw
              refine RWL.app (ih R' inner (some (g, gb)) (gt :: gs) lim' st K' r' hli ⟨gt, s, hgt, by simp, hgve⟩ hev) fun st' ⟨h1, h2⟩ => ?_
              have hf := h2 rfl
              refine RWL.pick hop (wants_of hall (hold.frame fun t ht => hf.gs t (by simp [ht])) hpg) hpd ((hf.gs gt (by simp)).trans hgve) ?_
              have := hQ st' h1 hf
              cases gb <;> exact this
            rw [hlist]
            have happ : inner ++ pk :: rest = (inner ++ [pk]) ++ rest := by simp
            rw [happ]
            obtain ⟨qq, hsh⟩ : ∃ qq, look cx.H (keyG i (all.length - (l.length + 1))) = qq := ⟨_, rfl⟩
            rw [hsh] at h
            cases qq with
            | some sh =>
             cases outer with
             | some _ => cases h
             | none =>
              unfold jnT jn at h
              have h : brW w gb (evS cx i all fuel R inner (some (g, w)) (gt :: gs) none st fun st' => shMat (sh.mat (st'.put pk.dst (evA st'.env (selW w x y)))) fun s => evS cx i all fuel R rest none gs lim (sh.dec s) K)
                  (shMat (sh.mat (St.put ⟨hide inner st.env, st.objs, st.nx⟩ pk.dst (evA (hide inner st.env) (selW w y x)))) fun s => evS cx i all fuel R rest none gs lim (sh.dec s) K) = some r := h
              have fin : ∀ st1, (shMat (sh.mat st1) fun s => evS cx i all fuel R rest none gs lim (sh.dec s) K) = some r → RWL P B all.toArray rest st1 fun st' => K st' = some r ∧ ((none : Option (Nat × Bool)).isSome = true → Frame ((inner ++ [pk]) ++ rest) gs lim st st') := by
                intro st1 h1
                obtain ⟨s1, hs1, hk1⟩ := shMat_some h1
                exact RWL.view (hH _ _ hsh) hs1 ((ih R rest none gs lim _ K r hlr trivial hk1).mono fun st' ⟨q1, _⟩ => ⟨q1, fun hs => by cases hs⟩)
              by_cases hgw : gb = w
              · have h1 : (evS cx i all fuel R inner (some (g, w)) (gt :: gs) none st fun st' => shMat (sh.mat (st'.put pk.dst (evA st'.env (selW w x y)))) fun s => evS cx i all fuel R rest none gs lim (sh.dec s) K) = some r := by
                  subst hgw; cases gb <;> exact h
                refine RWL.app (yesB hgw none R _ r h1 (fun st1 => (shMat (sh.mat st1) fun s => evS cx i all fuel R rest none gs lim (sh.dec s) K) = some r) fun st' hk1 _ => hk1) fin
              · have h1 : (shMat (sh.mat (St.put ⟨hide inner st.env, st.objs, st.nx⟩ pk.dst (evA (hide inner st.env) (selW w y x)))) fun s => evS cx i all fuel R rest none gs lim (sh.dec s) K) = some r := by
                  cases w <;> cases gb <;> first | exact h | exact absurd rfl hgw
                refine RWL.app (noB hgw (fun st1 => (shMat (sh.mat st1) fun s => evS cx i all fuel R rest none gs lim (sh.dec s) K) = some r) fun v hv => by rw [hv]; exact h1) fin
            | none =>
              simp only at h
              split at h
              case h_2 => cases h
              case h_1 t no hno =>
                obtain ⟨z, hz, h⟩ := ob1T_some h
                refine RWL.init fun hin0 => ?_
                have hcont : ∀ st1, st1 = St.put ⟨hide inner st.env, st.objs, st.nx + 8 * inner.length⟩ pk.dst (.val true t z) → RWL P B all.toArray rest st1 fun st' => K st' = some r ∧ (outer.isSome = true → Frame ((inner ++ [pk]) ++ rest) gs lim st st') := by
                  intro st1 hst1
                  subst hst1
                  have hgsE : ∀ t', t' ∈ gs → (St.put ⟨hide inner st.env, st.objs, st.nx + 8 * inner.length⟩ pk.dst (.val true t z)).env t' = st.env t' := fun t' ht' => by
                    rw [put_env_ne (dstOK_spec hck.1 ht')]
                    rcases hide_spec inner st.env t' with ⟨⟨o', h1, h2⟩, _⟩ | ⟨_, h2⟩
                    · exact absurd h2 (hin o' h1 t' (by simp [ht']))
                    · exact h2
                  have hf : Frame (inner ++ [pk]) gs lim st (St.put ⟨hide inner st.env, st.objs, st.nx + 8 * inner.length⟩ pk.dst (.val true t z)) := by
                    refine ⟨fun t' ht' => ?_, hgsE, fun n hn nm hm => by rw [St.put_objs], by rw [St.put_nx]; exact Nat.le_add_right _ _⟩
                    rw [put_env_ne (ht' pk (by simp))]
                    rcases hide_spec inner st.env t' with ⟨⟨o', h1, h2⟩, _⟩ | ⟨_, h2⟩
                    · exact absurd h2 (ht' o' (by simp [h1]))
                    · exact h2
                  exact (ih R rest outer gs lim _ K r hlr (hold.frame hgsE) h).mono fun st' ⟨q1, q2⟩ => ⟨q1, fun hs => hf.app (q2 hs)⟩
                by_cases hgw : gb = w
                · have h1 : (evS cx i all fuel t.den inner (some (g, w)) (gt :: gs) (some st.nx) st fun st' => match Nat.ble st'.nx (st.nx + 8 * inner.length) with
                      | true => endV t (evA st'.env (selW w x y))
                      | false => nope 19) = some z := by
                    subst hgw; cases gb <;> exact hz
                  refine RWL.app (Q1 := fun st1 => ∃ st', Frame inner (gt :: gs) (some st.nx) st st' ∧ st'.nx ≤ st.nx + 8 * inner.length ∧ st1 = st'.put pk.dst (.val true t z)) (yesB hgw (some st.nx) _ _ z h1 _ fun st' hk1 hf => ?_) fun st1 ⟨st', hf, hnx, hst1⟩ => ?_
                  · split at hk1
                    case h_2 => cases hk1
                    case h_1 hb =>
                      rw [endV_some hk1]
                      exact ⟨st', hf, Nat.le_of_ble_eq_true hb, rfl⟩
                  · subst hst1
                    refine RWL.sub (st' := St.put ⟨hide inner st.env, st.objs, st.nx + 8 * inner.length⟩ pk.dst (.val true t z)) (fun nm o hlt ho => ?_) (fun nm hge => ?_) (fun t' => ?_) (by rw [St.put_nx, St.put_nx]; exact hnx) (hcont _ rfl)
                    · rw [St.put_objs] at ho ⊢
                      rcases Nat.lt_or_ge nm st.nx with h1 | h1
                      · rw [hf.objs _ rfl nm h1]; exact ho
                      · have ho : st.objs nm = some o := ho
                        rw [hin0 nm h1] at ho; cases ho
                    · rw [St.put_nx] at hge
                      rw [St.put_objs]
                      exact hin0 nm (Nat.le_trans hf.nx hge)
                    · by_cases hp : pk.dst = some t'
                      · right; rw [hp, put_env_eq, put_env_eq]
                      · rw [put_env_ne hp, put_env_ne hp]
                        rcases hide_spec inner st.env t' with ⟨_, h2⟩ | ⟨h1, h2⟩
                        · exact .inl h2
                        · right; rw [hf.env t' h1]; exact h2
                · have h1 : no = z := by
                    have : ret1 t no = some z := by cases w <;> cases gb <;> first | exact hz | exact absurd rfl hgw
                    injection this
                  subst h1
                  refine RWL.app (noB hgw (fun st1 => st1 = St.put ⟨hide inner st.env, st.objs, st.nx⟩ pk.dst (.val true t no)) fun v hv => by rw [hv, hno]) fun st1 hst1 => ?_
                  subst hst1
                  refine RWL.sub (st' := St.put ⟨hide inner st.env, st.objs, st.nx + 8 * inner.length⟩ pk.dst (.val true t no)) (fun nm o hlt ho => ?_) (fun nm hge => ?_) (fun t' => ?_) (by rw [St.put_nx, St.put_nx]; exact Nat.le_add_right _ _) (hcont _ rfl)
                  · rw [St.put_objs] at ho ⊢; exact ho
                  · rw [St.put_nx] at hge
                    rw [St.put_objs]
                    exact hin0 nm hge
                  · right
                    cases pk.dst <;> rfl
end
end Go.Tv
namespace Go.Tv
open Go Go.RowKit
set_option linter.unusedSectionVars false
variable [Inv]
theorem setAll_ups (ob : Nat → Option TObj) : ∀ (l : List (Nat × Option TObj)) (x : Nat), setAll ob l x = match upsGet l x with | some u => u | none => ob x
  | [], x => rfl
  | (n, o) :: l, x => by
    simp only [setAll, upsGet, upd]
    cases hb : Nat.beq x n with
    | true => rfl
    | false => exact setAll_ups ob l x
theorem updLast_congr {nm : Nat} {D D' : Nat → Bool} : ∀ {l : List DItem} {i : Nat}, (∀ k x, l[k]? = some x → (upsGet x.d.ups nm).isSome = true → D (i + k) = D' (i + k)) → updLast l nm i D = updLast l nm i D'
  | [], _, _ => rfl
  | x :: l, i, h => by
    have ih := updLast_congr (l := l) (i := i + 1) (nm := nm) (D := D) (D' := D') fun k y hk hy => by
      have := h (k + 1) y (by simpa using hk) hy
      rw [show i + 1 + k = i + (k + 1) by omega]; exact this
    simp only [updLast, ih]
    cases hu : upsGet x.d.ups nm with
    | none => cases D i <;> cases D' i <;> rfl
    | some u =>
      have := h 0 x (by simp) (by rw [hu]; rfl)
      rw [Nat.add_zero] at this
      rw [this]
theorem updLast_same {nm : Nat} {D : Nat → Bool} : ∀ {l l' : List DItem} {i : Nat}, l.length = l'.length → (∀ (k : Nat) (x y : DItem), l[k]? = some x → l'[k]? = some y → upsGet x.d.ups nm = upsGet y.d.ups nm) → updLast l nm i D = updLast l' nm i D
  | [], [], _, _, _ => rfl
  | x :: l, y :: l', i, hl, h => by
    have ih := updLast_same (l := l) (l' := l') (i := i + 1) (nm := nm) (D := D) (by simpa using hl) fun k x y hx hy => h (k + 1) x y (by simpa using hx) (by simpa using hy)
    have := h 0 x y (by simp) (by simp)
    simp only [updLast, ih, this]
  | [], _ :: _, _, hl, _ => by simp at hl
  | _ :: _, [], _, hl, _ => by simp at hl
theorem updLast_none {nm : Nat} {D : Nat → Bool} {l : List DItem} {i : Nat} (h : ∀ k x, l[k]? = some x → (upsGet x.d.ups nm).isSome = true → D (i + k) = false) : updLast l nm i D = none := by
  rw [updLast_congr (D' := fun _ => false) h]
  clear h
  induction l generalizing i with
  | nil => rfl
  | cons x l ih => simp [updLast, ih]
theorem updLast_app {nm : Nat} {D : Nat → Bool} : ∀ {l r : List DItem} {i : Nat}, (∀ k, D (i + l.length + k) = false) → updLast (l ++ r) nm i D = updLast l nm i D
  | [], r, i, h => by
    have := updLast_none (nm := nm) (D := D) (l := r) (i := i) fun k x _ _ => by have := h k; simpa using this
    simpa [updLast] using this
  | x :: l, r, i, h => by
    have ih := updLast_app (l := l) (r := r) (i := i + 1) (nm := nm) (D := D) fun k => by
      have := h k
      rw [List.length_cons] at this
      rw [show i + 1 + l.length + k = i + (l.length + 1) + k by omega]; exact this
    simp only [List.cons_append, updLast, ih]
theorem updLast_some {nm : Nat} {D : Nat → Bool} {u : Option TObj} : ∀ {l : List DItem} {i k : Nat} {x : DItem}, l[k]? = some x → D (i + k) = true → upsGet x.d.ups nm = some u → (∀ k' y, k < k' → l[k']? = some y → (upsGet y.d.ups nm).isSome = true → D (i + k') = false) → updLast l nm i D = some u
  | x :: l, i, 0, z, hx, hD, hu, hl => by
    simp only [List.getElem?_cons_zero, Option.some.injEq] at hx; subst hx
    rw [Nat.add_zero] at hD
    have := updLast_none (nm := nm) (D := D) (l := l) (i := i + 1) fun k y hk hy => by
      have := hl (k + 1) y (by omega) (by simpa using hk) hy
      rw [show i + 1 + k = i + (k + 1) by omega]; exact this
    simp only [updLast, this, hD, hu]
  | x :: l, i, k + 1, z, hx, hD, hu, hl => by
    have := updLast_some (l := l) (i := i + 1) (k := k) (x := z) (nm := nm) (D := D) (u := u) (by simpa using hx) (by rw [show i + 1 + k = i + (k + 1) by omega]; exact hD) hu fun k' y hk hy hys => by
      have := hl (k' + 1) y (by omega) (by simpa using hy) hys
      rw [show i + 1 + k' = i + (k' + 1) by omega]; exact this
    simp only [updLast, this]
  | [], _, _, _, h, _, _, _ => by simp at h
theorem writer_spec : ∀ {dl : List DItem} {t : Tmp} {i j : Nat} {av : TV}, writer dl t i = some (j, av) → ∃ x, i ≤ j ∧ dl[j - i]? = some x ∧ x.d.dst = some t ∧ x.d.av = av
  | x :: l, t, i, j, av, h => by
    simp only [writer] at h
    have go : writer l t (i + 1) = some (j, av) → ∃ y, i ≤ j ∧ (x :: l)[j - i]? = some y ∧ y.d.dst = some t ∧ y.d.av = av := fun h => by
      obtain ⟨y, h1, h2, h3⟩ := writer_spec h
      refine ⟨y, by omega, ?_, h3⟩
      rw [show j - i = (j - (i + 1)) + 1 by omega]; simpa using h2
    split at h
    case h_1 u hu =>
      split at h
      case h_1 hb =>
        simp only [Option.some.injEq, Prod.mk.injEq] at h
        obtain ⟨rfl, rfl⟩ := h
        exact ⟨x, by omega, by simp, by rw [hu, Nat.eq_of_beq_eq_true hb], rfl⟩
      case h_2 => exact go h
    case h_2 => exact go h
  | [], _, _, _, _, h => by simp [writer] at h
theorem writer_of : ∀ {dl : List DItem} {t : Tmp} {i j : Nat} {x : DItem}, (dl.filterMap (·.d.dst)).Nodup → dl[j]? = some x → x.d.dst = some t → writer dl t i = some (i + j, x.d.av)
  | y :: l, t, i, 0, x, _, h, hx => by simp only [List.getElem?_cons_zero, Option.some.injEq] at h; subst h; simp [writer, hx, Nat.beq_refl]
  | y :: l, t, i, j + 1, x, hn, h, hx => by
    simp only [List.getElem?_cons_succ] at h
    have hm : t ∈ l.filterMap (·.d.dst) := List.mem_filterMap.2 ⟨x, List.mem_of_getElem? h, hx⟩
    have hy : y.d.dst ≠ some t := fun hy => by
      rw [List.filterMap_cons, hy] at hn
      exact (List.nodup_cons.1 hn).1 hm
    have hn' : (l.filterMap (·.d.dst)).Nodup := by
      rw [List.filterMap_cons] at hn
      split at hn
      · exact hn
      · exact (List.nodup_cons.1 hn).2
    have ih := writer_of (i := i + 1) hn' h hx
    rw [show i + 1 + j = i + (j + 1) by omega] at ih
    simp only [writer]
    cases hd : y.d.dst with
    | none => exact ih
    | some u =>
      have : Nat.beq u t = false := by
        cases hb : Nat.beq u t with
        | false => rfl
        | true => exact absurd (by rw [hd, Nat.eq_of_beq_eq_true hb]) hy
      simp only [this]
      exact ih
  | [], _, _, _, _, _, h, _ => by simp at h
theorem upsGet_mem : ∀ {l : List (Nat × Option TObj)} {nm : Nat} {u : Option TObj}, upsGet l nm = some u → ∃ v, (nm, v) ∈ l
  | (n, o) :: l, nm, u, h => by
    simp only [upsGet] at h
    split at h
    case h_1 h1 => have := Nat.eq_of_beq_eq_true h1; subst this; exact ⟨o, by simp⟩
    case h_2 => obtain ⟨v, hv⟩ := upsGet_mem h; exact ⟨v, List.mem_cons_of_mem _ hv⟩
  | [], _, _, h => by simp [upsGet] at h
theorem upsGet_isSome {l : List (Nat × Option TObj)} {p : Nat × Option TObj} (h : p ∈ l) : (upsGet l p.1).isSome = true := by
  induction l with
  | nil => cases h
  | cons q l ih =>
    obtain ⟨n, o⟩ := q
    simp only [upsGet]
    cases hb : Nat.beq p.1 n with
    | true => rfl
    | false =>
      rcases List.mem_cons.1 h with rfl | h
      · rw [Nat.beq_refl] at hb; cases hb
      · exact ih h
def CompP (ps : List (List Nat)) (i k : Nat) : Prop := predOf ps i k = true ∨ k = i ∨ predOf ps k i = true
theorem compAll_get {ps : List (List Nat)} {i nm : Nat} : ∀ {l : List DItem} {j k : Nat} {x : DItem}, compAll ps i nm l j = true → l[k]? = some x → (upsGet x.d.ups nm).isSome = true → CompP ps i (j + k)
  | y :: l, j, 0, x, h, hx, hs => by
    simp only [List.getElem?_cons_zero, Option.some.injEq] at hx; subst hx
    simp only [compAll, Bool.and_eq_true] at h
    obtain ⟨u, hu⟩ := Option.isSome_iff_exists.1 hs
    rw [hu] at h
    simp only [Bool.or_eq_true] at h
    rw [Nat.add_zero]
    rcases h.1 with (h | h) | h
    · exact .inl h
    · exact .inr (.inl (Nat.eq_of_beq_eq_true h))
    · exact .inr (.inr h)
  | y :: l, j, k + 1, x, h, hx, hs => by
    simp only [compAll, Bool.and_eq_true] at h
    have := compAll_get (k := k) h.2 (by simpa using hx) hs
    rwa [show j + 1 + k = j + (k + 1) by omega] at this
  | [], _, _, _, _, h, _ => by simp at h
theorem compHid_get {n0 : Nat} {ps : List (List Nat)} {i : Nat} : ∀ {l : List DItem} {j k : Nat} {y : DItem}, compHid n0 ps i l j = true → l[k]? = some y → CompP ps i (j + k) ∨ ∀ p ∈ y.d.ups, n0 + 8 * (j + k) ≤ p.1
  | y :: l, j, 0, x, h, hx => by
    simp only [List.getElem?_cons_zero, Option.some.injEq] at hx; subst hx
    simp only [compHid, Bool.and_eq_true, Bool.or_eq_true, List.all_eq_true] at h
    rw [Nat.add_zero]
    rcases h.1 with ((h | h) | h) | h
    · exact .inl (.inl h)
    · exact .inl (.inr (.inl (Nat.eq_of_beq_eq_true h)))
    · exact .inl (.inr (.inr h))
    · exact .inr fun p hp => Nat.le_of_ble_eq_true (h p hp)
  | y :: l, j, k + 1, x, h, hx => by
    simp only [compHid, Bool.and_eq_true] at h
    have := compHid_get (k := k) h.2 (by simpa using hx)
    rwa [show j + 1 + k = j + (k + 1) by omega] at this
  | [], _, _, _, _, h => by simp at h
theorem readsB_get {ps : List (List Nat)} {dl : List DItem} {i : Nat} : ∀ {l : List Tmp} {t : Tmp}, readsB ps dl i l = true → t ∈ l → ∀ {j : Nat} {av : TV}, writer dl t 0 = some (j, av) → predOf ps i j = true ∨ predOf ps j i = true
  | u :: l, t, h, ht, j, av, hw => by
    simp only [readsB, Bool.and_eq_true] at h
    rcases List.mem_cons.1 ht with rfl | ht
    · have := h.1
      rw [hw] at this
      simpa using this
    · exact readsB_get h.2 ht hw
  | [], _, _, ht, _, _, _ => by cases ht
theorem preds1_mem {acc : List (List Nat)} : ∀ {l : List Nat} {j : Nat}, memN j (preds1 acc l) = true → ∃ j0 ∈ l, j = j0 ∨ ∃ a, acc[j0]? = some a ∧ memN j a = true
  | [], j, h => by simp [preds1, memN] at h
  | j0 :: l, j, h => by
    rw [memN_iff] at h
    simp only [preds1, List.cons_append, List.mem_cons, List.mem_append] at h
    rcases h with rfl | h | h
    · exact ⟨_, by simp, .inl rfl⟩
    · cases ha : acc[j0]? with
      | none => rw [ha] at h; cases h
      | some a => rw [ha] at h; exact ⟨j0, by simp, .inr ⟨a, ha, memN_iff.2 h⟩⟩
    · obtain ⟨j1, h1, h2⟩ := preds1_mem (memN_iff.2 h)
      exact ⟨j1, by simp [h1], h2⟩
theorem predsAll_get : ∀ {l : List Oper} {acc : List (List Nat)}, (predsAll acc l).length = acc.length + l.length ∧ (∀ i, i < acc.length → (predsAll acc l)[i]? = acc[i]?) ∧
    ∀ k o, l[k]? = some o → ∃ a, (predsAll acc l)[acc.length + k]? = some a ∧ ∀ j, memN j a = true → ∃ j0 ∈ bindsOn o, j = j0 ∨ ∃ b, j0 < acc.length + k ∧ (predsAll acc l)[j0]? = some b ∧ memN j b = true
  | [], acc => ⟨by simp [predsAll], fun i _ => rfl, fun k o h => by simp at h⟩
  | o :: l, acc => by
    obtain ⟨h1, h2, h3⟩ := predsAll_get (l := l) (acc := acc ++ [preds1 acc (bindsOn o)])
    simp only [predsAll]
    have hg : ∀ i, i < acc.length → (predsAll (acc ++ [preds1 acc (bindsOn o)]) l)[i]? = acc[i]? := fun i hi => by
      rw [h2 i (by simp; omega), List.getElem?_append_left hi]
    refine ⟨by rw [h1]; simp; omega, hg, fun k o' hk => ?_⟩
    cases k with
    | zero =>
      simp only [List.getElem?_cons_zero, Option.some.injEq] at hk
      subst hk
      refine ⟨preds1 acc (bindsOn o), by rw [Nat.add_zero, h2 _ (by simp), List.getElem?_append_right (Nat.le_refl _)]; simp, fun j hj => ?_⟩
      obtain ⟨j0, g1, g2⟩ := preds1_mem hj
      refine ⟨j0, g1, g2.imp (fun h => h) fun ⟨a, ha, hm⟩ => ⟨a, ?_, ?_, hm⟩⟩
      · exact (List.getElem?_eq_some_iff.1 ha).1
      · rw [hg j0 (List.getElem?_eq_some_iff.1 ha).1]; exact ha
    | succ k =>
      obtain ⟨a, g1, g2⟩ := h3 k o' (by simpa using hk)
      have e : (acc ++ [preds1 acc (bindsOn o)]).length + k = acc.length + (k + 1) := by simp; omega
      rw [e] at g1 g2
      exact ⟨a, g1, g2⟩
theorem pred_step {all : List Oper} {i j : Nat} (h : predOf (predsAll [] all) i j = true) : ∃ o, all[i]? = some o ∧ ∃ j0 ∈ bindsOn o, j = j0 ∨ (j0 < i ∧ predOf (predsAll [] all) j0 j = true) := by
  obtain ⟨h1, _, h3⟩ := predsAll_get (l := all) (acc := [])
  unfold predOf at h
  split at h
  case h_2 => cases h
  case h_1 a ha =>
    have hlt := (List.getElem?_eq_some_iff.1 ha).1
    rw [h1] at hlt
    simp only [List.length_nil, Nat.zero_add] at hlt h3
    obtain ⟨a', g1, g2⟩ := h3 i all[i] (List.getElem?_eq_getElem hlt)
    rw [ha] at g1
    injection g1 with g1
    subst g1
    obtain ⟨j0, k1, k2⟩ := g2 j h
    refine ⟨_, List.getElem?_eq_getElem hlt, j0, k1, k2.imp (fun h => h) fun ⟨b, b1, b2, b3⟩ => ⟨b1, ?_⟩⟩
    unfold predOf; rw [b2]; exact b3
structure StatOK (all : List Oper) (ps : List (List Nat)) : Prop where
  nodup : (all.filterMap (·.dst)).Nodup
  lt : ∀ i o, all[i]? = some o → ∀ j ∈ bindsOn o, j < i
  guard : ∀ i o g w, all[i]? = some o → o.guard = some (g, w) → predOf ps i g = true
theorem nodupN_spec : ∀ {l : List Nat}, nodupN l = true → l.Nodup
  | [], _ => by simp
  | a :: l, h => by
    simp only [nodupN, Bool.and_eq_true, Bool.not_eq_true'] at h
    refine List.nodup_cons.2 ⟨fun hm => ?_, nodupN_spec h.2⟩
    rw [memN_iff.2 hm] at h; cases h.1
theorem drawA_spec {ps : List (List Nat)} : ∀ {l : List Oper} {i : Nat}, drawA ps l i = true → ∀ k o, l[k]? = some o → (∀ j ∈ bindsOn o, j < i + k) ∧ predG ps (i + k) o.guard = true
  | o :: l, i, h, 0, o', ho => by
    simp only [List.getElem?_cons_zero, Option.some.injEq] at ho; subst ho
    simp only [drawA, Bool.and_eq_true, List.all_eq_true] at h
    exact ⟨fun j hj => Nat.le_of_ble_eq_true (h.1.1 j hj), h.1.2⟩
  | o :: l, i, h, k + 1, o', ho => by
    simp only [drawA, Bool.and_eq_true] at h
    have := drawA_spec h.2 k o' (by simpa using ho)
    rwa [show i + 1 + k = i + (k + 1) by omega] at this
  | [], _, _, k, _, ho => by simp at ho
theorem statOK_of {all : List Oper} (h : (nodupN (all.filterMap (·.dst)) && drawA (predsAll [] all) all 0) = true) : StatOK all (predsAll [] all) := by
  rw [Bool.and_eq_true] at h
  refine ⟨nodupN_spec h.1, fun i o ho j hj => ?_, fun i o g w ho hg => ?_⟩
  · have := (drawA_spec h.2 i o ho).1 j hj; omega
  · have := (drawA_spec h.2 i o ho).2
    rw [hg, Nat.zero_add] at this; exact this
theorem StatOK.predlt {all : List Oper} (h : StatOK all (predsAll [] all)) : ∀ {i j : Nat}, predOf (predsAll [] all) i j = true → j < i := by
  intro i
  induction i using Nat.strongRecOn with
  | _ i ih =>
    intro j hj
    obtain ⟨o, ho, j0, h0, h1⟩ := pred_step hj
    have := h.lt i o ho j0 h0
    rcases h1 with rfl | ⟨_, h1⟩
    · exact this
    · have := ih j0 (by omega) h1; omega
theorem StatOK.closed {all : List Oper} (h : StatOK all (predsAll [] all)) {D : Nat → Bool} (hD : ∀ j o, all[j]? = some o → D j = true → ∀ q ∈ bindsOn o, D q = true) : ∀ {i j : Nat}, (∀ o, all[i]? = some o → ∀ q ∈ bindsOn o, D q = true) → predOf (predsAll [] all) i j = true → D j = true := by
  intro i
  induction i using Nat.strongRecOn with
  | _ i ih =>
    intro j hi hj
    obtain ⟨o, ho, j0, h0, h1⟩ := pred_step hj
    have h2 := hi o ho j0 h0
    rcases h1 with rfl | ⟨hlt, h1⟩
    · exact h2
    · exact ih j0 hlt (fun o' ho' q hq => hD j0 o' ho' h2 q hq) h1
def addD (D : Nat → Bool) (i : Nat) : Nat → Bool := fun j => D j || j == i
def dSt (dl : List DItem) (st : St) (D : Nat → Bool) : St := ⟨dEnv dl st D, dObj dl st D, st.nx⟩
theorem St.ext3 : ∀ {s : St} {e : Nat → TV} {o : Nat → Option TObj} {n : Nat}, s.env = e → s.objs = o → s.nx = n → s = ⟨e, o, n⟩
  | ⟨_, _, _⟩, _, _, _, rfl, rfl, rfl => rfl
theorem dSt_add {dl : List DItem} {st : St} {D : Nat → Bool} {i : Nat} {x : DItem} (h1 : (dl.filterMap (·.d.dst)).Nodup) (hx : dl[i]? = some x)
    (h2 : ∀ nm, (upsGet x.d.ups nm).isSome = true → ∀ k y, i < k → dl[k]? = some y → (upsGet y.d.ups nm).isSome = true → D k = false) :
    (dSt dl st D).app x.d = dSt dl st (addD D i) := by
  have henv : ((dSt dl st D).app x.d).env = dEnv dl st (addD D i) := by
    funext t
    have base : dEnv dl st (addD D i) t = if x.d.dst = some t then x.d.av else dEnv dl st D t := by
      by_cases hd : x.d.dst = some t
      · rw [if_pos hd]
        have := writer_of (i := 0) h1 hx hd
        simp only [dEnv, this, Nat.zero_add, addD, beq_self_eq_true, Bool.or_true]
      · rw [if_neg hd]
        simp only [dEnv]
        cases hw : writer dl t 0 with
        | none => rfl
        | some p =>
          obtain ⟨j, av⟩ := p
          obtain ⟨y, _, hy, hy2, _⟩ := writer_spec hw
          have hne : j ≠ i := fun hji => by
            subst hji
            rw [Nat.sub_zero, hx] at hy; injection hy with hy; subst hy; exact hd hy2
          have : (j == i) = false := by simpa using hne
          simp only [addD, this, Bool.or_false]
    rw [base]
    unfold St.app
    by_cases hd : x.d.dst = some t
    · rw [if_pos hd, hd, put_env_eq]
    · rw [if_neg hd, put_env_ne hd]; rfl
  have hobj : ((dSt dl st D).app x.d).objs = dObj dl st (addD D i) := by
    rw [show ((dSt dl st D).app x.d).objs = setAll (dObj dl st D) x.d.ups by unfold St.app; rw [St.put_objs]; rfl]
    funext nm
    rw [setAll_ups]
    cases hu : upsGet x.d.ups nm with
    | some u =>
      have hs : (upsGet x.d.ups nm).isSome = true := by rw [hu]; rfl
      have := updLast_some (D := addD D i) (i := 0) hx (by simp [addD]) hu fun k' y hk hy hys => by
        have h3 := h2 nm hs k' y hk hy hys
        have hne : (k' == i) = false := by simp; omega
        simp [addD, h3, hne]
      simp only [dObj, this]
    | none =>
      have : updLast dl nm 0 (addD D i) = updLast dl nm 0 D := updLast_congr fun k y hk hy => by
        have hne : k ≠ i := fun hki => by subst hki; rw [hx] at hk; injection hk with hk; subst hk; rw [hu] at hy; cases hy
        have : (k == i) = false := by simpa using hne
        simp [addD, this]
      simp only [dObj, this]
  have hnx : ((dSt dl st D).app x.d).nx = st.nx := by unfold St.app; rw [St.put_nx]; rfl
  exact St.ext3 henv hobj hnx
end Go.Tv
namespace Go.Tv
open Go Go.RowKit
set_option linter.unusedSectionVars false
variable [Inv]
section
variable {P : Program} {B : Base}
def StpR (P : Program) (ps : List (List Nat)) (st : St) (R : List DItem) (i : Nat) (o : Oper) (x : DItem) : Prop :=
  ∃ (e : Nat → TV) (ob : Nat → Option TObj) (k : Nat), k ≤ 8 ∧ Stp P o (st.nx + 8 * i) k e ob x.d ∧
    (∀ t, e t = .any ∨ (e t = dEnv R st (predOf ps i) t ∧ ∀ j av, writer R t 0 = some (j, av) → predOf ps i j = true ∨ predOf ps j i = true)) ∧
    (∀ nm o', ob nm = some o' → dObj R st (predOf ps i) nm = some o' ∧ ∀ (k : Nat) (y : DItem), R[k]? = some y → (upsGet y.d.ups nm).isSome = true → CompP ps i k)
def OpG (P : Program) (all : List Oper) (ps : List (List Nat)) (st : St) (R : List DItem) (i : Nat) (o : Oper) (x : DItem) : Prop := match o.guard with
  | none => StpR P ps st R i o x
  | some (g, want) => ∃ t z, guardT all g = some t ∧ R[g]? = some z ∧ ((∃ s b, z.d.av = .val s .bool b ∧ ((b : Bool) = want → StpR P ps st R i o x) ∧ ((b : Bool) ≠ want → x.d = ⟨o.dst, .und, []⟩)) ∨ (z.d.av = .und ∧ x.d = ⟨o.dst, .und, []⟩))
structure RealOK (P : Program) (B : Base) (all : List Oper) (ps : List (List Nat)) (st : St) (R : List DItem) : Prop where
  len : R.length = all.length
  dst : ∀ (i : Nat) (o : Oper) (x : DItem), all[i]? = some o → R[i]? = some x → o.dst = x.d.dst
  ups : ∀ (i : Nat) (x : DItem), R[i]? = some x → ∀ p ∈ x.d.ups, ∀ (k : Nat) (y : DItem), R[k]? = some y → (upsGet y.d.ups p.1).isSome = true → CompP ps i k
  nt : ∀ (i : Nat) (o : Oper) (t : Tmp), all[i]? = some o → o.dst = some t → t < B.nt
  item : ∀ (i : Nat) (o : Oper) (x : DItem), all[i]? = some o → R[i]? = some x → OpG P all ps st R i o x
def freeD (len n0 : Nat) (D : Nat → Bool) : Nat → Prop := fun x => n0 + 8 * len ≤ x ∨ ∃ i, i < len ∧ D i = false ∧ n0 + 8 * i ≤ x ∧ x < n0 + 8 * i + 8
theorem ready_iff {ops : List Oper} {listed : Array Bool} {i : Nat} : i ∈ Region.ready .any ops.toArray listed ↔ ∃ o, ops[i]? = some o ∧ listed.getD i true = false ∧ ∀ j ∈ bindsOn o, listed.getD j false = true := by
  unfold Region.ready
  simp only [List.mem_filter, List.mem_range, Bool.and_eq_true, Bool.not_eq_true', List.size_toArray, List.getElem?_toArray]
  constructor
  · rintro ⟨h1, h2, h3⟩
    rw [List.getElem?_eq_getElem h1] at h3 ⊢
    refine ⟨_, rfl, h2, fun j hj => ?_⟩
    simp only [Option.map_some, Option.getD_some] at h3
    rw [Array.all_eq_true'] at h3
    unfold bindsOn at hj
    obtain ⟨e, he, rfl⟩ := List.mem_map.1 hj
    obtain ⟨he1, he2⟩ := List.mem_filter.1 he
    have := h3 e (by simpa using he1)
    simpa [he2] using this
  · rintro ⟨o, h1, h2, h3⟩
    obtain ⟨hlt, ho⟩ := List.getElem?_eq_some_iff.1 h1
    refine ⟨hlt, h2, ?_⟩
    rw [h1]
    simp only [Option.map_some, Option.getD_some]
    rw [Array.all_eq_true']
    intro e he
    by_cases hb : Region.binds .any e = true
    · have := h3 e.on (by unfold bindsOn; exact List.mem_map.2 ⟨e, List.mem_filter.2 ⟨by simpa using he, hb⟩, rfl⟩)
      simp [this]
    · simp [hb]
theorem count_set_true : ∀ {l : List Bool} {i : Nat}, l[i]? = some false → (l.set i true).count false + 1 = l.count false
  | b :: l, 0, h => by simp only [List.getElem?_cons_zero, Option.some.injEq] at h; subst h; simp
  | b :: l, i + 1, h => by
    have := count_set_true (l := l) (i := i) (by simpa using h)
    simp only [List.set_cons_succ, List.count_cons]; omega
  | [], _, h => by simp at h
theorem RealOK.nodup {all : List Oper} {ps : List (List Nat)} {st : St} {R : List DItem} (h : RealOK P B all ps st R) (hs : StatOK all ps) : (R.filterMap (·.d.dst)).Nodup := by
  have : R.filterMap (·.d.dst) = all.filterMap (·.dst) := by
    have e : R.map (·.d.dst) = all.map (·.dst) := by
      refine List.ext_getElem? fun i => ?_
      simp only [List.getElem?_map]
      cases ho : all[i]? with
      | none =>
        have := List.getElem?_eq_none_iff.1 ho
        rw [List.getElem?_eq_none (by rw [h.len]; exact this)]; rfl
      | some o =>
        have hlt := (List.getElem?_eq_some_iff.1 ho).1
        rw [List.getElem?_eq_getElem (by rw [h.len]; exact hlt)]
        exact congrArg some (h.dst i o _ ho (List.getElem?_eq_getElem (by rw [h.len]; exact hlt))).symm
    have e1 : ∀ R : List DItem, R.filterMap (fun x => x.d.dst) = (R.map fun x => x.d.dst).filterMap id := fun R => by rw [List.filterMap_map]; rfl
    have e2 : ∀ R : List Oper, R.filterMap (fun x => x.dst) = (R.map fun x => x.dst).filterMap id := fun R => by rw [List.filterMap_map]; rfl
    rw [e1, e2, e]
  rw [this]; exact hs.nodup
theorem draw_wp (hmix : P.follows .mixedOrders = true) {id : Nat} {all : List Oper} {st : St} {R : List DItem} (hst : StatOK all (predsAll [] all)) (hR : RealOK P B all (predsAll [] all) st R) {QQ : Exit → Act → World → Prop}
    {m : Nat → Option Nat} {L : Nat → Option (Nat × Nat)} {a : Act} {w : World} (hr : Rep B (fun x => st.nx ≤ x) st m L a w)
    (hQ : ∀ m L a w, Rep B (fun x => st.nx + 8 * R.length ≤ x) (dSt R st fun _ => true) m L a w → QQ .normal a w) : (Code.region id all.toArray true).wp P QQ a w := by
  have hlen := hR.len
  have hd1 := hR.nodup hst
  refine wp_region_any hmix ?_
  have key : ∀ (fuel : Nat) (listed : Array Bool), listed.size = all.length → listed.toList.count false ≤ fuel →
      (∀ j o, all[j]? = some o → listed.getD j false = true → ∀ q ∈ bindsOn o, listed.getD q false = true) →
      ∀ (m : Nat → Option Nat) (L : Nat → Option (Nat × Nat)) (a : Act) (w : World), Rep B (freeD R.length st.nx fun j => listed.getD j false) (dSt R st fun j => listed.getD j false) m L a w →
      wpAny P .any all.toArray QQ fuel listed a w := by
    have done : ∀ (listed : Array Bool), listed.size = all.length → (∀ j, j < all.length → listed.getD j false = true) → ∀ (m : Nat → Option Nat) (L : Nat → Option (Nat × Nat)) (a : Act) (w : World),
        Rep B (freeD R.length st.nx fun j => listed.getD j false) (dSt R st fun j => listed.getD j false) m L a w → QQ .normal a w := by
      intro listed hsz hl m L a w hr
      refine hQ m L a w ?_
      have e1 : dEnv R st (fun j => listed.getD j false) = dEnv R st fun _ => true := by
        funext t
        simp only [dEnv]
        cases hw : writer R t 0 with
        | none => rfl
        | some p =>
          obtain ⟨x, _, hx, _⟩ := writer_spec hw
          have hlt := (List.getElem?_eq_some_iff.1 hx).1
          simp only [hl p.1 (by omega)]
      have e2 : dObj R st (fun j => listed.getD j false) = dObj R st fun _ => true := by
        funext nm
        have : updLast R nm 0 (fun j => listed.getD j false) = updLast R nm 0 fun _ => true := updLast_congr fun k y hk hy => by
          have hlt := (List.getElem?_eq_some_iff.1 hk).1
          rw [Nat.zero_add]; exact hl k (by omega)
        simp only [dObj, this]
      have h2 := hr.weakF (F' := fun x => st.nx + 8 * R.length ≤ x) fun x hx => .inl hx
      unfold dSt at h2
      rw [e1, e2] at h2
      exact h2
    have rdy : ∀ (listed : Array Bool), listed.size = all.length → Region.ready .any all.toArray listed = [] → ∀ j, j < all.length → listed.getD j false = true := by
      intro listed hsz hre j
      induction j using Nat.strongRecOn with
      | _ j ih =>
        intro hj
        cases hb : listed.getD j false with
        | true => rfl
        | false =>
          exfalso
          have hmem : j ∈ Region.ready .any all.toArray listed := by
            refine ready_iff.2 ⟨all[j], List.getElem?_eq_getElem hj, ?_, fun q hq => ?_⟩
            · rw [Array.getD_eq_getD_getElem?, Array.getElem?_eq_getElem (by omega)] at hb ⊢; exact hb
            · have hqj := hst.lt j _ (List.getElem?_eq_getElem hj) q hq
              exact ih q hqj (by omega)
          rw [hre] at hmem; cases hmem
    intro fuel
    induction fuel with
    | zero =>
      intro listed hsz hc hcl m L a w hr
      have hl : ∀ j, j < all.length → listed.getD j false = true := fun j hj => by
        have hn : false ∉ listed.toList := List.count_eq_zero.1 (by omega)
        rw [Array.getD_eq_getD_getElem?, Array.getElem?_eq_getElem (by omega), Option.getD_some]
        cases hb : listed[j] with
        | true => rfl
        | false => exact (hn (by rw [← hb]; simp)).elim
      have hre : Region.ready .any all.toArray listed = [] := by
        cases hre : Region.ready .any all.toArray listed with
        | nil => rfl
        | cons i l =>
          obtain ⟨o, h1, h2, _⟩ := ready_iff.1 (show i ∈ Region.ready .any all.toArray listed by rw [hre]; simp)
          have hlt := (List.getElem?_eq_some_iff.1 h1).1
          have := hl i hlt
          rw [Array.getD_eq_getD_getElem?, Array.getElem?_eq_getElem (by omega), Option.getD_some] at this h2
          rw [this] at h2; cases h2
      exact ⟨hre, done listed hsz hl m L a w hr⟩
    | succ fuel ih =>
      intro listed hsz hc hcl m L a w hr
      refine ⟨fun hre => done listed hsz (rdy listed hsz hre) m L a w hr, fun i hi => ?_⟩
      obtain ⟨o, ho, hli, hpre⟩ := ready_iff.1 hi
      have hlt := (List.getElem?_eq_some_iff.1 ho).1
      have hDi : listed.getD i false = false := by
        rw [Array.getD_eq_getD_getElem?, Array.getElem?_eq_getElem (by omega), Option.getD_some] at hli ⊢; exact hli
      obtain ⟨x, hx⟩ : ∃ x, R[i]? = some x := ⟨R[i], List.getElem?_eq_getElem (by omega)⟩
      have hnt : ∀ t, o.dst = some t → t < B.nt := fun t ht => hR.nt i o t ho ht
      have hdst := hR.dst i o x ho hx
      have hbef : ∀ j, predOf (predsAll [] all) i j = true → listed.getD j false = true := fun j hj =>
        hst.closed (D := fun j => listed.getD j false) hcl (fun o' ho' q hq => by rw [ho] at ho'; injection ho' with ho'; subst ho'; exact hpre q hq) hj
      have hbeh : ∀ k, predOf (predsAll [] all) k i = true → listed.getD k false = false := fun k hk => by
        cases hD : listed.getD k false with
        | false => rfl
        | true =>
          exfalso
          obtain ⟨ok, hok, _⟩ := pred_step hk
          have := hst.closed (D := fun j => listed.getD j false) hcl (i := k) (fun o' ho' q hq => hcl k o' ho' hD q hq) hk
          have this : listed.getD i false = true := this
          rw [hDi] at this; cases this
      have hget : ∀ j, (listed.setIfInBounds i true).getD j false = addD (fun j => listed.getD j false) i j := by
        intro j
        simp only [addD]
        rw [Array.getD_eq_getD_getElem?, Array.getElem?_setIfInBounds]
        by_cases hji : j = i
        · subst hji; simp [hsz, hlt]
        · have : (j == i) = false := by simpa using hji
          have hij : i ≠ j := fun h => hji h.symm
          simp [this, hij]
      have hnext : ∀ (m : Nat → Option Nat) (L : Nat → Option (Nat × Nat)) (a : Act) (w : World), Rep B (fun z => freeD R.length st.nx (fun j => listed.getD j false) z ∧ ¬ (st.nx + 8 * i ≤ z ∧ z < st.nx + 8 * i + 8)) ((dSt R st fun j => listed.getD j false).app x.d) m L a w →
          wpAny P .any all.toArray QQ fuel (listed.setIfInBounds i true) a w := by
        intro m L a w hr
        have hlater : ∀ nm, (upsGet x.d.ups nm).isSome = true → ∀ k y, i < k → R[k]? = some y → (upsGet y.d.ups nm).isSome = true → listed.getD k false = false := by
          intro nm hn k y hik hy hyn
          obtain ⟨u, hu⟩ := Option.isSome_iff_exists.1 hn
          obtain ⟨v, hv⟩ := upsGet_mem hu
          rcases hR.ups i x hx _ hv k y hy hyn with h | h | h
          · have := hst.predlt h; omega
          · omega
          · exact hbeh k h
        rw [dSt_add hd1 hx hlater] at hr
        have hfun : addD (fun j => listed.getD j false) i = fun j => (listed.setIfInBounds i true).getD j false := by funext j; exact (hget j).symm
        rw [hfun] at hr
        refine ih _ (by simpa using hsz) ?_ (fun j o' ho' hj q hq => ?_) m L a w (hr.weakF fun z hz => ?_)
        · have hq : listed.toList[i]? = some false := by
            rw [Array.getElem?_toList, Array.getElem?_eq_getElem (by omega)]
            rw [Array.getD_eq_getD_getElem?, Array.getElem?_eq_getElem (by omega), Option.getD_some] at hDi
            rw [hDi]
          have := count_set_true hq
          rw [Array.toList_setIfInBounds]; omega
        · rw [hget] at hj ⊢
          simp only [addD, Bool.or_eq_true, beq_iff_eq] at hj ⊢
          rcases hj with hj | rfl
          · exact .inl (hcl j o' ho' hj q hq)
          · rw [ho] at ho'; injection ho' with ho'; subst ho'
            exact .inl (hpre q hq)
        · rcases hz with hz | ⟨j, h1, h2, h3, h4⟩
          · exact ⟨.inl hz, fun hx => by omega⟩
          · have h2 : (listed.setIfInBounds i true).getD j false = false := h2
            rw [hget] at h2
            simp only [addD, Bool.or_eq_false_iff, beq_eq_false_iff_ne] at h2
            refine ⟨.inr ⟨j, h1, h2.1, h3, h4⟩, fun hx => h2.2 ?_⟩
            omega
      have stpd : StpR P (predsAll [] all) st R i o x → o.wp P a w (wpAny P .any all.toArray QQ fuel (listed.setIfInBounds i true)) QQ := by
        rintro ⟨e, ob, k, hk, hstp, he, hob⟩
        have hEv : EvOK ((dSt R st fun j => listed.getD j false).ctx B m L w) e a := evOK_of fun t => by
          rcases he t with h | ⟨h, hc⟩
          · rw [h]; exact sat_any
          · have : e t = (dSt R st fun j => listed.getD j false).env t := by
              rw [h]
              show dEnv R st _ t = dEnv R st _ t
              simp only [dEnv]
              cases hw : writer R t 0 with
              | none => rfl
              | some p =>
                obtain ⟨j, av⟩ := p
                rcases hc j av hw with h | h
                · simp only [h, hbef j h]
                · have h2 : predOf (predsAll [] all) i j = false := by
                    cases h3 : predOf (predsAll [] all) i j with
                    | false => rfl
                    | true => have := hst.predlt h; have := hst.predlt h3; omega
                  simp only [h2, hbeh j h]
            rw [this]; exact hr.slots t
        have hsub : Sub ob (dSt R st fun j => listed.getD j false).objs := fun nm o' ho' => by
          obtain ⟨h1, h2⟩ := hob nm o' ho'
          show dObj R st _ nm = some o'
          rw [← h1]
          have : updLast R nm 0 (fun j => listed.getD j false) = updLast R nm 0 (predOf (predsAll [] all) i) := updLast_congr fun k y hk hy => by
            rw [Nat.zero_add]
            rcases h2 k y hk hy with h | h | h
            · rw [h, hbef k h]
            · subst h
              rw [hDi]
              cases h3 : predOf (predsAll [] all) k k with
              | false => rfl
              | true => have := hst.predlt h3; omega
            · rw [hbeh k h]
              cases h3 : predOf (predsAll [] all) i k with
              | false => rfl
              | true => have := hst.predlt h; have := hst.predlt h3; omega
          simp only [dObj, this]
        have hfree : ∀ z, st.nx + 8 * i ≤ z → z < st.nx + 8 * i + k → freeD R.length st.nx (fun j => listed.getD j false) z := fun z h1 h2 => .inr ⟨i, by omega, hDi, h1, by omega⟩
        have hw := hstp hr hfree hEv hsub hnt QQ
        exact Oper.wp_mono (fun a' w' ⟨m', L', hr'⟩ => hnext m' L' a' w' (hr'.weakF fun z hz => ⟨hz.1, fun hx => hz.2 ⟨hx.1, by omega⟩⟩)) hw
      unfold wpOp
      simp only [List.getElem?_toArray, ho]
      have hitem := hR.item i o x ho hx
      unfold OpG at hitem
      cases hg : o.guard with
      | none =>
        rw [hg] at hitem
        have : Region.wanted o (yielded all.toArray a.tmps) = true := by simp [Region.wanted, hg]
        rw [if_pos this]
        exact .inl (stpd hitem)
      | some gw =>
        obtain ⟨g, want⟩ := gw
        rw [hg] at hitem
        obtain ⟨t, z, hgt, hz, hitem⟩ := hitem
        have hgp := hst.guard i o g want ho hg
        have hgl : listed.getD g false = true := hbef g hgp
        obtain ⟨og, hog⟩ : ∃ og, all[g]? = some og := by
          have := (List.getElem?_eq_some_iff.1 hz).1
          exact ⟨all[g], List.getElem?_eq_getElem (by omega)⟩
        have hogd : og.dst = some t := by
          unfold guardT at hgt; rw [hog] at hgt; exact hgt
        have htn : t < B.nt := hR.nt g og t hog hogd
        have hzd : z.d.dst = some t := by rw [← hR.dst g og z hog hz]; exact hogd
        have hv := hr.slots t
        have henv : (dSt R st fun j => listed.getD j false).env t = z.d.av := by
          show dEnv R st _ t = _
          have := writer_of (i := 0) hd1 hz hzd
          simp only [dEnv, this, Nat.zero_add, hgl]
        rw [henv] at hv
        have hskip : Region.wanted o (yielded all.toArray a.tmps) = false → x.d = ⟨o.dst, .und, []⟩ →
            (if Region.wanted o (yielded all.toArray a.tmps) = true then o.wp P a w (wpAny P .any all.toArray QQ fuel (listed.setIfInBounds i true)) QQ ∨ (o.asks P a w ∧ LetsOut QQ) else wpAny P .any all.toArray QQ fuel (listed.setIfInBounds i true) (a.put o.dst undef) w) := by
          intro this hn
          rw [if_neg (by rw [this]; simp)]
          refine hnext m L _ w ?_
          rw [hn]
          exact (hr.put hnt (sat_und.2 rfl)).weakF fun z hz => hz.1
        rcases hitem with ⟨s, b, hb, hs, hn⟩ | ⟨hb, hn⟩
        · rw [hb] at hv
          have hy := yielded_of (ops := all.toArray) (g := g) (b := b) ((guardT_bind all g).trans hgt) (by rw [hr.sz]; exact htn) (sat_bool.1 hv)
          by_cases hbw : (b : Bool) = want
          · have : Region.wanted o (yielded all.toArray a.tmps) = true := by simp [Region.wanted, hg, hy]; exact congrArg some hbw
            rw [if_pos this]
            exact .inl (stpd (hs hbw))
          · refine hskip ?_ (hn hbw)
            simp [Region.wanted, hg, hy]; exact fun h => hbw (Option.some.inj h)
        · rw [hb] at hv
          have hy := yielded_none (ops := all.toArray) (g := g) ((guardT_bind all g).trans hgt) (by rw [hr.sz]; exact htn) (sat_und.1 hv)
          exact hskip (by simp [Region.wanted, hg, hy]) hn
  have hff : ∀ j, (Array.replicate all.length false).getD j false = false := fun j => by
    rw [Array.getD_eq_getD_getElem?, Array.getElem?_replicate]; split <;> rfl
  have hr0 : Rep B (freeD R.length st.nx fun j => (Array.replicate all.length false).getD j false) (dSt R st fun j => (Array.replicate all.length false).getD j false) m L a w.drew := by
    have hst : dSt R st (fun j => (Array.replicate all.length false).getD j false) = st := by
      have : (fun j => (Array.replicate all.length false).getD j false) = fun _ => false := funext hff
      rw [this]
      have e1 : dEnv R st (fun _ => false) = st.env := by funext t; simp only [dEnv]; cases writer R t 0 <;> rfl
      have e2 : dObj R st (fun _ => false) = st.objs := by funext t; simp only [dObj, updLast_none (D := fun _ => false) (fun _ _ _ _ => rfl)]
      unfold dSt; rw [e1, e2]
    rw [hst]
    refine (hr.grow (Ev.drew w)).weakF fun z hz => ?_
    rcases hz with hz | ⟨j, _, _, h3, _⟩
    · omega
    · omega
  refine key _ _ (by simp) ?_ (fun j o _ hj => ?_) m L a _ hr0
  · simp [List.count_replicate]
  · exfalso
    rw [show all.toArray.size = all.length by simp, hff] at hj; cases hj
end
end Go.Tv
namespace Go.Tv
open Go Go.RowKit
set_option linter.unusedSectionVars false
variable [Inv]
def RelI (y x : DItem) : Prop := y = x ∨ (y.hid = true ∧ y.d = ⟨x.d.dst, .any, []⟩ ∧ x.d.ups = [])
structure RelL (all : List Oper) (acc racc : List DItem) : Prop where
  len : acc.length = racc.length
  le : acc.length ≤ all.length
  it : ∀ (i : Nat) (o : Oper) (y x : DItem), all[i]? = some o → acc[i]? = some y → racc[i]? = some x → RelI y x ∧ x.d.dst = o.dst
theorem RelI.dst {y x : DItem} (h : RelI y x) : y.d.dst = x.d.dst := by
  rcases h with rfl | ⟨_, h, _⟩
  · rfl
  · rw [h]
theorem RelI.ups {y x : DItem} (h : RelI y x) : y.d.ups = x.d.ups := by
  rcases h with rfl | ⟨_, h, h2⟩
  · rfl
  · rw [h, h2]
theorem RelL.app {all : List Oper} {acc racc tE rE : List DItem} (h : RelL all acc racc) (hl : tE.length = rE.length) (hle : acc.length + tE.length ≤ all.length)
    (hit : ∀ (k : Nat) (o : Oper) (y x : DItem), all[acc.length + k]? = some o → tE[k]? = some y → rE[k]? = some x → RelI y x ∧ x.d.dst = o.dst) : RelL all (acc ++ tE) (racc ++ rE) := by
  refine ⟨by simp [h.len, hl], by simpa using hle, fun i o y x ho hy hx => ?_⟩
  rcases Nat.lt_or_ge i acc.length with hlt | hge
  · rw [List.getElem?_append_left hlt] at hy
    rw [List.getElem?_append_left (by rw [← h.len]; exact hlt)] at hx
    exact h.it i o y x ho hy hx
  · rw [List.getElem?_append_right hge] at hy
    rw [List.getElem?_append_right (by rw [← h.len]; exact hge), ← h.len] at hx
    exact hit (i - acc.length) o y x (by rw [show acc.length + (i - acc.length) = i by omega]; exact ho) hy hx
theorem RelL.take {all : List Oper} {acc racc : List DItem} (h : RelL all acc racc) (n : Nat) : RelL all (acc.take n) (racc.take n) := by
  refine ⟨by simp [h.len], by have := h.le; simp; omega, fun i o y x ho hy hx => ?_⟩
  rw [List.getElem?_take] at hy hx
  split at hy
  case isFalse => cases hy
  case isTrue hlt => rw [if_pos hlt] at hx; exact h.it i o y x ho hy hx
theorem RelL.get {all : List Oper} {acc racc : List DItem} (h : RelL all acc racc) {i : Nat} {y : DItem} (hy : acc[i]? = some y) : ∃ o x, all[i]? = some o ∧ racc[i]? = some x ∧ RelI y x ∧ x.d.dst = o.dst := by
  have hlt := (List.getElem?_eq_some_iff.1 hy).1
  have h1 : all[i]? = some (all[i]'(by have := h.le; omega)) := List.getElem?_eq_getElem _
  have h2 : racc[i]? = some (racc[i]'(by have := h.len; omega)) := List.getElem?_eq_getElem _
  exact ⟨_, _, h1, h2, h.it i _ y _ h1 hy h2⟩
theorem filterMap_dst : ∀ (R : List DItem), R.filterMap (fun x => x.d.dst) = (R.map fun x => x.d.dst).filterMap id := fun R => by rw [List.filterMap_map]; rfl
theorem filterMap_odst : ∀ (R : List Oper), R.filterMap (fun x => x.dst) = (R.map fun x => x.dst).filterMap id := fun R => by rw [List.filterMap_map]; rfl
theorem RelL.nodup {all : List Oper} {ps : List (List Nat)} {acc racc : List DItem} (h : RelL all acc racc) (hs : StatOK all ps) : (acc.filterMap (·.d.dst)).Nodup := by
  have e : acc.map (·.d.dst) = (all.take acc.length).map (·.dst) := by
    refine List.ext_getElem? fun i => ?_
    simp only [List.getElem?_map, List.getElem?_take]
    cases hy : acc[i]? with
    | none =>
      have := List.getElem?_eq_none_iff.1 hy
      rw [if_neg (by omega)]; rfl
    | some y =>
      obtain ⟨o, x, h1, h2, h3, h4⟩ := h.get hy
      have := (List.getElem?_eq_some_iff.1 hy).1
      rw [if_pos this, h1]
      exact congrArg some (h3.dst.trans h4)
  rw [filterMap_dst, e, ← filterMap_odst]
  exact hs.nodup.sublist ((List.take_sublist _ _).filterMap _)
theorem writer_told {all : List Oper} {ps : List (List Nat)} {acc racc : List DItem} (h : RelL all acc racc) (hs : StatOK all ps) {g : Nat} {y : DItem} {t : Tmp} (hy : acc[g]? = some y) (ht : y.d.dst = some t) : writer acc t 0 = some (g, y.d.av) := by
  have := writer_of (i := 0) (h.nodup hs) hy ht
  rwa [Nat.zero_add] at this
theorem dst_inj : ∀ {l : List Oper} {i j : Nat} {a b : Oper} {t : Tmp}, (l.filterMap (·.dst)).Nodup → l[i]? = some a → l[j]? = some b → a.dst = some t → b.dst = some t → i = j
  | o :: l, 0, 0, _, _, _, _, _, _, _, _ => rfl
  | o :: l, 0, j + 1, a, b, t, hn, ha, hb, h1, h2 => by
    simp only [List.getElem?_cons_zero, Option.some.injEq] at ha; subst ha
    simp only [List.getElem?_cons_succ] at hb
    rw [List.filterMap_cons, h1] at hn
    exact ((List.nodup_cons.1 hn).1 (List.mem_filterMap.2 ⟨b, List.mem_of_getElem? hb, h2⟩)).elim
  | o :: l, i + 1, 0, a, b, t, hn, ha, hb, h1, h2 => by
    simp only [List.getElem?_cons_zero, Option.some.injEq] at hb; subst hb
    simp only [List.getElem?_cons_succ] at ha
    rw [List.filterMap_cons, h2] at hn
    exact ((List.nodup_cons.1 hn).1 (List.mem_filterMap.2 ⟨a, List.mem_of_getElem? ha, h1⟩)).elim
  | o :: l, i + 1, j + 1, a, b, t, hn, ha, hb, h1, h2 => by
    simp only [List.getElem?_cons_succ] at ha hb
    have hn' : (l.filterMap (·.dst)).Nodup := by
      rw [List.filterMap_cons] at hn
      split at hn
      · exact hn
      · exact (List.nodup_cons.1 hn).2
    rw [dst_inj hn' ha hb h1 h2]
  | [], _, _, _, _, _, _, ha, _, _, _ => by simp at ha
section
variable {P : Program} {cx : Cx} {all : List Oper} {st : St}
def StpA (P : Program) (ps : List (List Nat)) (st : St) (acc : List DItem) (i : Nat) (o : Oper) (x : DItem) : Prop :=
  ∃ k, k ≤ 8 ∧ Stp P o (st.nx + 8 * i) k (restE (tmpsOf o.op.operands.toList) (dEnv acc st (predOf ps i))) (restr x.rd (dObj acc st (predOf ps i))) x.d
def GuardA (P : Program) (all : List Oper) (ps : List (List Nat)) (st : St) (acc real : List DItem) (i : Nat) (o : Oper) (x : DItem) : Prop := match o.guard with
  | none => StpA P ps st acc i o x
  | some (g, w) => ∃ t z, guardT all g = some t ∧ real[g]? = some z ∧ ((∃ s b, z.d.av = .val s .bool b ∧ ((b : Bool) = w → StpA P ps st acc i o x) ∧ ((b : Bool) ≠ w → x.d = ⟨o.dst, .und, []⟩)) ∨ (z.d.av = .und ∧ x.d = ⟨o.dst, .und, []⟩))
theorem opReads_no {ob : Nat → Option TObj} {e : Nat → TV} {op : Op} (h : noRead op = true) : opReads ob e op = [] := by
  cases op <;> first | rfl | cases h
theorem no_of {ob : Nat → Option TObj} {e : Nat → TV} {op : Op} {rd : List Nat} (h : opReads ob e op = rd) {nm : Nat} (hm : nm ∈ rd) : noRead op = false := by
  cases hn : noRead op with
  | false => rfl
  | true => rw [← h, opReads_no hn] at hm; cases hm
def InF (ps : List (List Nat)) (st : St) (acc : List DItem) (i : Nat) (o : Oper) (x : DItem) : Prop := x.d.ups = [] ∧ ∀ nm ∈ x.rd, nm < st.nx + 8 * i ∧ compAll ps i nm acc 0 = true ∧ noRead o.op = false
def Fact (P : Program) (all : List Oper) (ps : List (List Nat)) (st : St) (out : Bool) (told real : List DItem) (i : Nat) : Prop :=
  ∃ o x y acc racc, all[i]? = some o ∧ real[i]? = some x ∧ told[i]? = some y ∧ acc.length = i ∧ RelL all acc racc ∧ racc <+: real ∧ GuardA P all ps st acc real i o x ∧ (InF ps st acc i o x ∨ (out = true ∧ y = x))
theorem get_app {α : Type} {l r : List α} {i : Nat} {x : α} (h : l[i]? = some x) : (l ++ r)[i]? = some x := by
  rw [List.getElem?_append_left (List.getElem?_eq_some_iff.1 h).1]; exact h
theorem GuardA.mono {ps : List (List Nat)} {acc real : List DItem} {i : Nat} {o : Oper} {x : DItem} (h : GuardA P all ps st acc real i o x) (r : List DItem) : GuardA P all ps st acc (real ++ r) i o x := by
  unfold GuardA at h ⊢
  split
  case h_1 hg => rw [hg] at h; exact h
  case h_2 g w hg =>
    rw [hg] at h
    obtain ⟨t, z, h1, h2, h3⟩ := h
    exact ⟨t, z, h1, get_app h2, h3⟩
def HoldD (all : List Oper) (racc : List DItem) : Option (Nat × Bool) → Prop
  | none => True
  | some (g, w) => ∃ t z s, guardT all g = some t ∧ racc[g]? = some z ∧ z.d.av = .val s .bool w
theorem guardA_of {ps : List (List Nat)} {acc racc : List DItem} {i : Nat} {o : Oper} {x : DItem} {outer : Option (Nat × Bool)} (hg : o.guard = outer) (hh : HoldD all racc outer) (hs : StpA P ps st acc i o x) (r : List DItem) : GuardA P all ps st acc (racc ++ r) i o x := by
  unfold GuardA
  rw [hg]
  cases outer with
  | none => exact hs
  | some gw =>
    obtain ⟨g, w⟩ := gw
    obtain ⟨t, z, s, h1, h2, h3⟩ := hh
    exact ⟨t, z, h1, get_app h2, .inl ⟨s, w, h3, fun _ => hs, fun h => absurd rfl h⟩⟩
theorem guard_val (hst : StatOK all (predsAll [] all)) {acc racc : List DItem} (hrel : RelL all acc racc) {i g : Nat} (hp : predOf (predsAll [] all) i g = true) (hi : i = acc.length) {gb : Ty.bool.den} (hg : guardV all (dEnv acc st (predOf (predsAll [] all) i)) g = some gb) :
    ∃ t z s, guardT all g = some t ∧ acc[g]? = some z ∧ racc[g]? = some z ∧ z.d.dst = some t ∧ z.d.av = .val s .bool gb := by
  have hlt := hst.predlt hp
  have hy : acc[g]? = some (acc[g]'(by omega)) := List.getElem?_eq_getElem _
  obtain ⟨o, x, h1, h2, h3, h4⟩ := hrel.get hy
  unfold guardV at hg
  rw [h1] at hg
  simp only at hg
  cases hd : o.dst with
  | none => rw [hd] at hg; cases hg
  | some t =>
    rw [hd] at hg
    simp only at hg
    obtain ⟨s, hv⟩ := bools_val hg
    have hw := writer_told hrel hst hy (t := t) (by rw [h3.dst, h4, hd])
    simp only [dEnv, hw, hp] at hv
    rcases h3 with h3 | ⟨_, h3, _⟩
    · rw [h3] at hy hv
      exact ⟨t, x, s, by unfold guardT; rw [h1]; exact hd, hy, h2, by rw [h4, hd], hv⟩
    · rw [h3] at hv; cases hv
theorem Stp.pickD {pk : Oper} {gt : Tmp} {x y : Operand} {e : Nat → TV} {ob : Nat → Option TObj} {n0 : Nat} {s gb : Bool} (hop : pk.op = .pick (.tmp gt) x y) (hg : e gt = .val s .bool gb) : Stp P pk n0 0 e ob ⟨pk.dst, evA e (selW gb x y), []⟩ := by
  intro B F st m L a w hr _ he _ hd Q
  have hv := he (.tmp gt)
  change sat _ (e gt) _ at hv
  rw [hg] at hv
  have hv : a.eval (.tmp gt) = .bool gb := sat_bool.1 hv
  have hrun : (execOp a.eval pk).run P w = .ok (.value (a.eval (selW gb x y))) w := by
    unfold execOp
    simp only [hop, hv, asBool, Sem.run_bind, Sem.run_pure, Result.andThen_ok]
    cases gb <;> rfl
  unfold Oper.wp
  rw [hrun, Oper.upon_value]
  exact ⟨m, L, (hr.put hd (he (selW gb x y))).weakF fun z hz => hz.1⟩
theorem tmpsOf_mem {l : List Operand} {t : Tmp} (h : .tmp t ∈ l) : t ∈ tmpsOf l := List.mem_filterMap.2 ⟨_, h, rfl⟩
theorem restE_mem {l : List Nat} {e : Nat → TV} {t : Nat} (h : t ∈ l) : restE l e t = e t := by simp only [restE, memN_iff.2 h]
theorem restE_or (l : List Nat) (e : Nat → TV) (t : Nat) : restE l e t = .any ∨ (t ∈ l ∧ restE l e t = e t) := by
  cases h : memN t l with
  | true => exact .inr ⟨memN_iff.1 h, by simp only [restE, h]⟩
  | false => exact .inl (by simp only [restE, h])
theorem restE_op {l : List Operand} {e : Nat → TV} {x : Operand} (h : x ∈ l) : evA (restE (tmpsOf l) e) x = evA e x := by
  cases x with
  | tmp t => exact restE_mem (tmpsOf_mem h)
  | const v => rfl
  | func f => rfl
  | global g => rfl
theorem StpA.pick (hst : StatOK all (predsAll [] all)) {acc racc : List DItem} (hrel : RelL all acc racc) {p g : Nat} (hp : predOf (predsAll [] all) p g = true) {pk : Oper} {gt : Tmp} {x y : Operand} {z : DItem} {s gb : Bool}
    (hop : pk.op = .pick (.tmp gt) x y) (hz : acc[g]? = some z) (hzd : z.d.dst = some gt) (hzv : z.d.av = .val s .bool gb) {v : TV} (hv : evA (dEnv acc st (predOf (predsAll [] all) p)) (selW gb x y) = v) :
    StpA P (predsAll [] all) st acc p pk ⟨⟨pk.dst, v, []⟩, [], false⟩ := by
  have hops : pk.op.operands.toList = [.tmp gt, x, y] := by rw [hop]; rfl
  have he : restE (tmpsOf pk.op.operands.toList) (dEnv acc st (predOf (predsAll [] all) p)) gt = .val s .bool gb := by
    rw [restE_mem (by rw [hops]; exact tmpsOf_mem (by simp))]
    have hw := writer_told hrel hst hz hzd
    simp only [dEnv, hw, hp]; exact hzv
  have hv' : evA (restE (tmpsOf pk.op.operands.toList) (dEnv acc st (predOf (predsAll [] all) p))) (selW gb x y) = v := by
    rw [restE_op, hv]
    rw [hops]
    cases gb <;> simp [selW]
  refine ⟨0, by omega, ?_⟩
  have : Stp P pk (st.nx + 8 * p) 0 (restE (tmpsOf pk.op.operands.toList) (dEnv acc st (predOf (predsAll [] all) p))) (restr [] (dObj acc st (predOf (predsAll [] all) p))) ⟨pk.dst, evA (restE (tmpsOf pk.op.operands.toList) (dEnv acc st (predOf (predsAll [] all) p))) (selW gb x y), []⟩ := Stp.pickD hop he
  rw [hv'] at this
  exact @this
theorem skip_get {g : Nat} {w : Bool} : ∀ {l : List Oper} {un : List Tmp}, skipOK all g w l un = true → ∀ (k : Nat) (o : Oper), l[k]? = some o → ∃ g' w', o.guard = some (g', w') ∧
    ((g' = g ∧ w' = w) ∨ ∃ t, guardT all g' = some t ∧ (t ∈ un ∨ ∃ k' o', k' < k ∧ l[k']? = some o' ∧ o'.dst = some t))
  | [], _, _, k, o, h => by simp at h
  | o :: l, un, hs, 0, o', h => by
    simp only [List.getElem?_cons_zero, Option.some.injEq] at h; subst h
    simp only [skipOK, Bool.and_eq_true] at hs
    have h1 := hs.1
    split at h1
    case h_1 => cases h1
    case h_2 g' w' hg =>
      refine ⟨g', w', hg, ?_⟩
      split at h1
      case h_1 he =>
        have he := eqG_eq he
        injection he with he
        injection he with e1 e2
        exact .inl ⟨e1, e2⟩
      case h_2 =>
        split at h1
        case h_2 => cases h1
        case h_1 t ht => exact .inr ⟨t, ht, .inl (memN_iff.1 h1)⟩
  | o :: l, un, hs, k + 1, o', h => by
    simp only [skipOK, Bool.and_eq_true] at hs
    obtain ⟨g', w', h1, h2⟩ := skip_get hs.2 k o' (by simpa using h)
    refine ⟨g', w', h1, h2.imp (fun h => h) fun ⟨t, ht, h3⟩ => ⟨t, ht, ?_⟩⟩
    rcases h3 with h3 | ⟨k', o'', h4, h5, h6⟩
    · cases hd : o.dst with
      | none => rw [hd] at h3; exact .inl h3
      | some u =>
        rw [hd] at h3
        rcases List.mem_cons.1 h3 with rfl | h3
        · exact .inr ⟨0, o, by omega, rfl, hd⟩
        · exact .inl h3
    · exact .inr ⟨k' + 1, o'', by omega, by simpa using h5, h6⟩
def unds (l : List Oper) : List DItem := l.map fun o => ⟨⟨o.dst, .und, []⟩, [], false⟩
end
end Go.Tv
