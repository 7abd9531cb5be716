/- A part of the proof that a law of the seat holds: ZAv17. -/
import Derived.Test.YtleaogcnndhdgaaAv16
namespace Go.Av
open Go Go.RowKit

/-! ### regions that draw their order -/
structure DItem where
  d : Dlt
  k : Nat

def bindsOn (o : Oper) : List Nat := (o.after.toList.filter (Region.binds .any)).map (·.on)

def writer : List DItem → Tmp → Nat → Option (Nat × AV)
  | [], _, _ => none
  | x :: l, t, i => if x.d.dst = some t then some (i, x.d.av) else writer l t (i + 1)

def upsGet : List (Nat × Option AObj) → Nat → Option (Option AObj)
  | [], _ => none
  | (n, o) :: l, x => if x = n then some o else upsGet l x

/-- the last of the done ones that writes the name -/
def updLast : List DItem → Nat → Nat → (Nat → Bool) → Option (Option AObj)
  | [], _, _, _ => none
  | x :: l, nm, i, D => match updLast l nm (i + 1) D with
    | some u => some u
    | none => if D i = true then upsGet x.d.ups nm else none

theorem setAll_ups (ob : Nat → Option AObj) : ∀ (l : List (Nat × Option AObj)) (x : Nat), setAll ob l x = match upsGet l x with | some u => u | none => ob x
  | [], x => rfl
  | (n, o) :: l, x => by
    simp only [setAll, upsGet, upd]
    by_cases h : x = n
    · simp [h]
    · simp only [h, if_false]; exact setAll_ups ob l x

theorem updLast_congr {nm : Nat} {D D' : Nat → Bool} : ∀ {l : List DItem} {i : Nat}, (∀ k x, l[k]? = some x → (upsGet x.d.ups nm).isSome = true → D (i + k) = D' (i + k)) → updLast l nm i D = updLast l nm i D'
  | [], _, _ => rfl
  | x :: l, i, h => by
    have ih := updLast_congr (l := l) (i := i + 1) (nm := nm) (D := D) (D' := D') fun k y hk hy => by
      have := h (k + 1) y (by simpa using hk) hy
      rw [show i + 1 + k = i + (k + 1) by omega]; exact this
    simp only [updLast, ih]
    cases hu : upsGet x.d.ups nm with
    | none => simp
    | some u =>
      have := h 0 x (by simp) (by rw [hu]; rfl)
      rw [Nat.add_zero] at this
      rw [this]

theorem updLast_none {nm : Nat} {D : Nat → Bool} {l : List DItem} {i : Nat} (h : ∀ k x, l[k]? = some x → (upsGet x.d.ups nm).isSome = true → D (i + k) = false) : updLast l nm i D = none := by
  rw [updLast_congr (D' := fun _ => false) h]
  clear h
  induction l generalizing i with
  | nil => rfl
  | cons x l ih => simp [updLast, ih]

theorem updLast_some {nm : Nat} {D : Nat → Bool} {u : Option AObj} : ∀ {l : List DItem} {i k : Nat} {x : DItem}, l[k]? = some x → D (i + k) = true → upsGet x.d.ups nm = some u → (∀ k' y, k < k' → l[k']? = some y → (upsGet y.d.ups nm).isSome = true → D (i + k') = false) → updLast l nm i D = some u
  | x :: l, i, 0, z, hx, hD, hu, hl => by
    simp only [List.getElem?_cons_zero, Option.some.injEq] at hx; subst hx
    rw [Nat.add_zero] at hD
    have := updLast_none (nm := nm) (D := D) (l := l) (i := i + 1) fun k y hk hy => by
      have := hl (k + 1) y (by omega) (by simpa using hk) hy
      rw [show i + 1 + k = i + (k + 1) by omega]; exact this
    simp only [updLast, this, hD, if_true, hu]
  | x :: l, i, k + 1, z, hx, hD, hu, hl => by
    have := updLast_some (l := l) (i := i + 1) (k := k) (x := z) (nm := nm) (D := D) (u := u) (by simpa using hx) (by rw [show i + 1 + k = i + (k + 1) by omega]; exact hD) hu fun k' y hk hy hys => by
      have := hl (k' + 1) y (by omega) (by simpa using hy) hys
      rw [show i + 1 + k' = i + (k' + 1) by omega]; exact this
    simp only [updLast, this]
  | [], _, _, _, h, _, _, _ => by simp at h

def dEnv (dl : List DItem) (st : St) (D : Nat → Bool) : Nat → AV := fun t => match writer dl t 0 with
  | some (j, av) => if D j = true then av else st.env t
  | none => st.env t
def dObj (dl : List DItem) (st : St) (D : Nat → Bool) : Nat → Option AObj := fun nm => match updLast dl nm 0 D with
  | some u => u
  | none => st.objs nm
def dSt (dl : List DItem) (st : St) (D : Nat → Bool) : St := ⟨dEnv dl st D, dObj dl st D, st.nx⟩

/-- what operation i sees, whatever else is done -/
def predOf (ops : List Oper) (i : Nat) : Nat → Bool := fun j => ((ops[i]?).map fun o => (bindsOn o).contains j).getD false
def iEnv (ops : List Oper) (dl : List DItem) (st : St) (i : Nat) : Nat → AV := dEnv dl st (predOf ops i)
/-- each that writes the name is before or behind operation i -/
def compAll (ops : List Oper) (i nm : Nat) : List DItem → Nat → Bool
  | [], _ => true
  | x :: l, j => (!(upsGet x.d.ups nm).isSome || predOf ops i j || Nat.beq j i || predOf ops j i) && compAll ops i nm l (j + 1)
def iObj (ops : List Oper) (dl : List DItem) (st : St) (i : Nat) : Nat → Option AObj := fun nm => if compAll ops i nm dl 0 = true then dObj dl st (predOf ops i) nm else none

theorem compAll_get {ops : List Oper} {i nm : Nat} : ∀ {l : List DItem} {j k : Nat} {x : DItem}, compAll ops i nm l j = true → l[k]? = some x → (upsGet x.d.ups nm).isSome = true → predOf ops i (j + k) = true ∨ j + k = i ∨ predOf ops (j + k) i = true
  | y :: l, j, 0, x, h, hx, hs => by
    simp only [List.getElem?_cons_zero, Option.some.injEq] at hx; subst hx
    simp only [compAll, Bool.and_eq_true, Bool.or_eq_true, hs, Bool.not_true, Bool.false_eq_true, false_or] at h
    rw [Nat.add_zero]
    rcases h.1 with (h | h) | h
    · exact .inl h
    · exact .inr (.inl (Nat.eq_of_beq_eq_true h))
    · exact .inr (.inr h)
  | y :: l, j, k + 1, x, h, hx, hs => by
    simp only [compAll, Bool.and_eq_true] at h
    have := compAll_get (k := k) h.2 (by simpa using hx) hs
    rwa [show j + 1 + k = j + (k + 1) by omega] at this
  | [], _, _, _, _, h, _ => by simp at h

def offs : List DItem → Nat → Nat
  | [], _ => 0
  | _ :: _, 0 => 0
  | x :: l, i + 1 => x.k + offs l i
def total : List DItem → Nat
  | [] => 0
  | x :: l => x.k + total l

def tmpsOf (l : List Operand) : List Tmp := l.filterMap fun | .tmp t => some t | _ => none
def readsOf (ops : List Oper) (o : Oper) : List Tmp := tmpsOf o.op.operands.toList ++ (match o.guard with | some (g, _) => ((ops[g]?).bind (·.dst)).toList | none => [])

def drawOK (ops : List Oper) (dl : List DItem) : Bool :=
  dl.length == ops.length &&
  decide ((dl.filterMap (·.d.dst)).Nodup) &&
  (List.range ops.length).all fun i => match ops[i]?, dl[i]? with
    | some o, some x => o.dst == x.d.dst && (bindsOn o).all (fun j => decide (j < i)) &&
      (List.range i).all (fun j => (bindsOn o).contains j || x.d.ups.all fun p => match dl[j]? with | some y => !(upsGet y.d.ups p.1).isSome | none => true) &&
      (readsOf ops o).all (fun t => match writer dl t 0 with
        | some (j, _) => (bindsOn o).contains j || ((ops[j]?).map fun o => (bindsOn o).contains i).getD false
        | none => true)
    | _, _ => false

theorem writer_spec : ∀ {dl : List DItem} {t : Tmp} {i j : Nat} {av : AV}, writer dl t i = some (j, av) → ∃ x, i ≤ j ∧ dl[j - i]? = some x ∧ x.d.dst = some t ∧ x.d.av = av
  | x :: l, t, i, j, av, h => by
    simp only [writer] at h
    split at h
    case isTrue h1 => simp only [Option.some.injEq, Prod.mk.injEq] at h; obtain ⟨rfl, rfl⟩ := h; exact ⟨x, by omega, by simp, h1, rfl⟩
    case isFalse =>
      obtain ⟨y, h1, h2, h3⟩ := writer_spec h
      refine ⟨y, by omega, ?_, h3⟩
      rw [show j - i = (j - (i + 1)) + 1 by omega]; simpa using h2
  | [], _, _, _, _, h => by simp [writer] at h

theorem writer_of : ∀ {dl : List DItem} {t : Tmp} {i j : Nat} {x : DItem}, (dl.filterMap (·.d.dst)).Nodup → dl[j]? = some x → x.d.dst = some t → writer dl t i = some (i + j, x.d.av)
  | y :: l, t, i, 0, x, _, h, hx => by simp only [List.getElem?_cons_zero, Option.some.injEq] at h; subst h; simp [writer, hx]
  | y :: l, t, i, j + 1, x, hn, h, hx => by
    simp only [List.getElem?_cons_succ] at h
    have hm : t ∈ l.filterMap (·.d.dst) := List.mem_filterMap.2 ⟨x, List.mem_of_getElem? h, hx⟩
    have hy : y.d.dst ≠ some t := fun hy => by
      rw [List.filterMap_cons, hy] at hn
      exact (List.nodup_cons.1 hn).1 hm
    have hn' : (l.filterMap (·.d.dst)).Nodup := by
      rw [List.filterMap_cons] at hn
      split at hn
      · exact hn
      · exact (List.nodup_cons.1 hn).2
    simp only [writer, hy, if_false]
    rw [writer_of hn' h hx, show i + 1 + j = i + (j + 1) by omega]
  | [], _, _, _, _, _, h, _ => by simp at h

theorem upsGet_mem : ∀ {l : List (Nat × Option AObj)} {nm : Nat} {u : Option AObj}, upsGet l nm = some u → ∃ v, (nm, v) ∈ l
  | (n, o) :: l, nm, u, h => by
    simp only [upsGet] at h
    split at h
    case isTrue h1 => subst h1; exact ⟨o, by simp⟩
    case isFalse => obtain ⟨v, hv⟩ := upsGet_mem h; exact ⟨v, List.mem_cons_of_mem _ hv⟩
  | [], _, _, h => by simp [upsGet] at h

theorem count_set_true : ∀ {l : List Bool} {i : Nat}, l[i]? = some false → (l.set i true).count false + 1 = l.count false
  | b :: l, 0, h => by simp only [List.getElem?_cons_zero, Option.some.injEq] at h; subst h; simp
  | b :: l, i + 1, h => by
    have := count_set_true (l := l) (i := i) (by simpa using h)
    simp only [List.set_cons_succ, List.count_cons]; omega
  | [], _, h => by simp at h

def addD (D : Nat → Bool) (i : Nat) : Nat → Bool := fun j => D j || j == i

theorem St.ext3 : ∀ {s : St} {e : Nat → AV} {o : Nat → Option AObj} {n : Nat}, s.env = e → s.objs = o → s.nx = n → s = ⟨e, o, n⟩
  | ⟨_, _, _⟩, _, _, _, rfl, rfl, rfl => rfl

theorem dSt_add {dl : List DItem} {st : St} {D : Nat → Bool} {i : Nat} {x : DItem} (h1 : (dl.filterMap (·.d.dst)).Nodup) (hx : dl[i]? = some x)
    (h2 : ∀ nm, (upsGet x.d.ups nm).isSome = true → ∀ k y, i < k → dl[k]? = some y → (upsGet y.d.ups nm).isSome = true → D k = false) :
    (dSt dl st D).app x.d = dSt dl st (addD D i) := by
  have henv : ((dSt dl st D).app x.d).env = dEnv dl st (addD D i) := by
    funext t
    have base : dEnv dl st (addD D i) t = if x.d.dst = some t then x.d.av else dEnv dl st D t := by
      by_cases hd : x.d.dst = some t
      · rw [if_pos hd]
        have := writer_of (i := 0) h1 hx hd
        simp only [dEnv, this, Nat.zero_add, addD, beq_self_eq_true, Bool.or_true, if_true]
      · rw [if_neg hd]
        simp only [dEnv]
        cases hw : writer dl t 0 with
        | none => rfl
        | some p =>
          obtain ⟨j, av⟩ := p
          obtain ⟨y, _, hy, hy2, _⟩ := writer_spec hw
          have hne : j ≠ i := fun hji => by
            subst hji
            rw [Nat.sub_zero, hx] at hy; injection hy with hy; subst hy; exact hd hy2
          have : (j == i) = false := by simpa using hne
          simp only [addD, this, Bool.or_false]
    rw [base]
    unfold St.app St.put
    cases hd : x.d.dst with
    | none => simp [dSt]
    | some t' =>
      by_cases ht : t = t'
      · subst ht; simp [upd_same]
      · have : t' ≠ t := fun h => ht h.symm
        simp [upd_ne _ _ ht, this, dSt]
  have hobj : ((dSt dl st D).app x.d).objs = dObj dl st (addD D i) := by
    rw [show ((dSt dl st D).app x.d).objs = setAll (dObj dl st D) x.d.ups by unfold St.app; rw [St.put_objs]; rfl]
    funext nm
    rw [setAll_ups]
    cases hu : upsGet x.d.ups nm with
    | some u =>
      have hs : (upsGet x.d.ups nm).isSome = true := by rw [hu]; rfl
      have := updLast_some (D := addD D i) (i := 0) hx (by simp [addD]) hu fun k' y hk hy hys => by
        have h3 := h2 nm hs k' y hk hy hys
        have hne : (k' == i) = false := by simp; omega
        simp [addD, h3, hne]
      simp only [dObj, this]
    | none =>
      have : updLast dl nm 0 (addD D i) = updLast dl nm 0 D := updLast_congr fun k y hk hy => by
        have hne : k ≠ i := fun hki => by subst hki; rw [hx] at hk; injection hk with hk; subst hk; rw [hu] at hy; cases hy
        have : (k == i) = false := by simpa using hne
        simp [addD, this]
      simp only [dObj, this]
  have hnx : ((dSt dl st D).app x.d).nx = st.nx := by unfold St.app; rw [St.put_nx]; rfl
  exact St.ext3 henv hobj hnx

theorem offs_lt : ∀ {dl : List DItem} {i : Nat} {x : DItem}, dl[i]? = some x → offs dl i + x.k ≤ total dl
  | y :: l, 0, x, h => by simp only [List.getElem?_cons_zero, Option.some.injEq] at h; subst h; simp [offs, total]
  | y :: l, i + 1, x, h => by
    have := offs_lt (dl := l) (by simpa using h)
    simp only [offs, total]; omega
  | [], _, _, h => by simp at h

theorem offs_mono : ∀ {dl : List DItem} {i j : Nat} {x : DItem}, i < j → dl[i]? = some x → offs dl i + x.k ≤ offs dl j ∨ dl.length ≤ j ∧ True
  | y :: l, 0, j + 1, x, _, h => by simp only [List.getElem?_cons_zero, Option.some.injEq] at h; subst h; left; simp [offs]
  | y :: l, i + 1, j + 1, x, hij, h => by
    rcases offs_mono (dl := l) (i := i) (j := j) (by omega) (by simpa using h) with h1 | h1
    · left; simp only [offs]; omega
    · right; simp; omega
  | [], _, _, _, _, h => by simp at h

section
variable {P : Program} {B : Base}

/-- an operation of such a region: what is to be shown of it -/
def OpVC (P : Program) (B : Base) (ops : List Oper) (dl : List DItem) (st : St) (i : Nat) : Prop :=
  match ops[i]?, dl[i]? with
  | some o, some x => (∀ t, o.dst = some t → t < B.nt) ∧ (match o.guard with
    | none => Stp P o (st.nx + offs dl i) x.k (iEnv ops dl st i) (iObj ops dl st i) x.d
    | some (g, want) => ∃ t, (ops[g]?).bind (·.dst) = some t ∧ t < B.nt ∧ ((∃ b, iEnv ops dl st i t = .v (.bool b) ∧
        (b = want → Stp P o (st.nx + offs dl i) x.k (iEnv ops dl st i) (iObj ops dl st i) x.d) ∧ (b ≠ want → x.d = ⟨o.dst, .tup [], []⟩)) ∨ (iEnv ops dl st i t = .tup [] ∧ x.d = ⟨o.dst, .tup [], []⟩)))
  | _, _ => False

def freeD (dl : List DItem) (n0 : Nat) (D : Nat → Bool) : Nat → Prop := fun x => n0 + total dl ≤ x ∨ ∃ i y, dl[i]? = some y ∧ D i = false ∧ n0 + offs dl i ≤ x ∧ x < n0 + offs dl i + y.k

theorem ready_iff {ops : List Oper} {listed : Array Bool} {i : Nat} : i ∈ Region.ready .any ops.toArray listed ↔ ∃ o, ops[i]? = some o ∧ listed.getD i true = false ∧ ∀ j ∈ bindsOn o, listed.getD j false = true := by
  unfold Region.ready
  simp only [List.mem_filter, List.mem_range, Bool.and_eq_true, Bool.not_eq_true', List.size_toArray, List.getElem?_toArray]
  constructor
  · rintro ⟨h1, h2, h3⟩
    rw [List.getElem?_eq_getElem h1] at h3 ⊢
    refine ⟨_, rfl, h2, fun j hj => ?_⟩
    simp only [Option.map_some, Option.getD_some] at h3
    rw [Array.all_eq_true'] at h3
    unfold bindsOn at hj
    obtain ⟨e, he, rfl⟩ := List.mem_map.1 hj
    obtain ⟨he1, he2⟩ := List.mem_filter.1 he
    have := h3 e (by simpa using he1)
    simpa [he2] using this
  · rintro ⟨o, h1, h2, h3⟩
    obtain ⟨hlt, ho⟩ := List.getElem?_eq_some_iff.1 h1
    refine ⟨hlt, h2, ?_⟩
    rw [h1]
    simp only [Option.map_some, Option.getD_some]
    rw [Array.all_eq_true']
    intro e he
    by_cases hb : Region.binds .any e = true
    · have := h3 e.on (by unfold bindsOn; exact List.mem_map.2 ⟨e, List.mem_filter.2 ⟨by simpa using he, hb⟩, rfl⟩)
      simp [this]
    · simp [hb]

theorem AWp.draw {G : Sg P} {id : Nat} {ops : List Oper} (dl : List DItem) {st : St} {Q : Exit → St → Prop} (chk : drawOK ops dl = true) (vc : ∀ i, i < ops.length → OpVC P B ops dl st i)
    (hQ : Q .normal ⟨dEnv dl st fun _ => true, dObj dl st fun _ => true, st.nx + total dl⟩) : AWp P B (.region id ops.toArray true) st Q := fun m L a w hr => by
  unfold drawOK at chk
  simp only [Bool.and_eq_true, beq_iff_eq, decide_eq_true_eq, List.all_eq_true, List.mem_range] at chk
  obtain ⟨⟨hlen, hd1⟩, hall⟩ := chk
  have hrw : ∀ w', Ev (fun _ => False) w w' → Rep B (fun x => st.nx ≤ x) st m L a w' := fun w' he => hr.grow he
  refine wp_region_any G.mixed ?_
  have key : ∀ (fuel : Nat) (listed : Array Bool), listed.size = ops.length → listed.toList.count false ≤ fuel →
      (∀ j o, ops[j]? = some o → listed.getD j false = true → ∀ q ∈ bindsOn o, listed.getD q false = true) →
      ∀ (m : Nat → Option Nat) (L : Nat → Lay) (a : Act) (w : World), Rep B (freeD dl st.nx fun j => listed.getD j false) (dSt dl st fun j => listed.getD j false) m L a w →
      wpAny P .any ops.toArray (Qc B Q) fuel listed a w := by
    have done : ∀ (listed : Array Bool), listed.size = ops.length → (∀ j, j < ops.length → listed.getD j false = true) → ∀ (m : Nat → Option Nat) (L : Nat → Lay) (a : Act) (w : World),
        Rep B (freeD dl st.nx fun j => listed.getD j false) (dSt dl st fun j => listed.getD j false) m L a w → Qc B Q .normal a w := by
      intro listed hsz hl m L a w hr
      refine ⟨_, m, L, hQ, ?_⟩
      have e1 : dEnv dl st (fun j => listed.getD j false) = dEnv dl st fun _ => true := by
        funext t
        simp only [dEnv]
        cases hw : writer dl t 0 with
        | none => rfl
        | some p =>
          obtain ⟨x, _, hx, _⟩ := writer_spec hw
          have hlt := (List.getElem?_eq_some_iff.1 hx).1
          simp only [hl p.1 (by omega)]
      have e2 : dObj dl st (fun j => listed.getD j false) = dObj dl st fun _ => true := by
        funext nm
        have : updLast dl nm 0 (fun j => listed.getD j false) = updLast dl nm 0 fun _ => true := updLast_congr fun k y hk hy => by
          have hlt := (List.getElem?_eq_some_iff.1 hk).1
          rw [Nat.zero_add]; exact hl k (by omega)
        simp only [dObj, this]
      have h2 := hr.weakF (F' := fun x => st.nx + total dl ≤ x) fun x hx => .inl hx
      unfold dSt at h2
      rw [e1, e2] at h2
      exact ⟨h2.sz, h2.df, h2.slots, h2.obj, h2.inj, h2.mf, h2.mb, h2.ev, h2.fr, h2.base, h2.n0⟩
    have rdy : ∀ (listed : Array Bool), listed.size = ops.length → Region.ready .any ops.toArray listed = [] → ∀ j, j < ops.length → listed.getD j false = true := by
      intro listed hsz hre j
      induction j using Nat.strongRecOn with
      | _ j ih =>
        intro hj
        cases hb : listed.getD j false with
        | true => rfl
        | false =>
          exfalso
          have hmem : j ∈ Region.ready .any ops.toArray listed := by
            refine ready_iff.2 ⟨ops[j], List.getElem?_eq_getElem hj, ?_, fun q hq => ?_⟩
            · rw [Array.getD_eq_getD_getElem?, Array.getElem?_eq_getElem (by omega)] at hb ⊢; exact hb
            · have := hall j hj
              rw [List.getElem?_eq_getElem hj, List.getElem?_eq_getElem (by omega)] at this
              simp only [Bool.and_eq_true, List.all_eq_true, decide_eq_true_eq] at this
              have hqj := this.1.1.2 q hq
              exact ih q hqj (by omega)
          rw [hre] at hmem; cases hmem
    intro fuel
    induction fuel with
    | zero =>
      intro listed hsz hc hcl m L a w hr
      have hl : ∀ j, j < ops.length → listed.getD j false = true := fun j hj => by
        have hn : false ∉ listed.toList := List.count_eq_zero.1 (by omega)
        rw [Array.getD_eq_getD_getElem?, Array.getElem?_eq_getElem (by omega), Option.getD_some]
        cases hb : listed[j] with
        | true => rfl
        | false => exact (hn (by rw [← hb]; simp)).elim
      have hre : Region.ready .any ops.toArray listed = [] := by
        cases hre : Region.ready .any ops.toArray listed with
        | nil => rfl
        | cons i l =>
          obtain ⟨o, h1, h2, _⟩ := ready_iff.1 (show i ∈ Region.ready .any ops.toArray listed by rw [hre]; simp)
          have hlt := (List.getElem?_eq_some_iff.1 h1).1
          have := hl i hlt
          rw [Array.getD_eq_getD_getElem?, Array.getElem?_eq_getElem (by omega), Option.getD_some] at this h2
          rw [this] at h2; cases h2
      exact ⟨hre, done listed hsz hl m L a w hr⟩
    | succ fuel ih =>
      intro listed hsz hc hcl m L a w hr
      refine ⟨fun hre => done listed hsz (rdy listed hsz hre) m L a w hr, fun i hi => ?_⟩
      obtain ⟨o, ho, hli, hpre⟩ := ready_iff.1 hi
      have hlt := (List.getElem?_eq_some_iff.1 ho).1
      have hDi : listed.getD i false = false := by
        rw [Array.getD_eq_getD_getElem?, Array.getElem?_eq_getElem (by omega), Option.getD_some] at hli ⊢; exact hli
      obtain ⟨x, hx⟩ : ∃ x, dl[i]? = some x := ⟨dl[i], List.getElem?_eq_getElem (by omega)⟩
      have hchk := hall i hlt
      rw [ho, hx] at hchk
      simp only [Bool.and_eq_true, List.all_eq_true, decide_eq_true_eq, beq_iff_eq] at hchk
      obtain ⟨⟨⟨hdst, hlow⟩, hchain⟩, hreads⟩ := hchk
      have hvc := vc i hlt
      unfold OpVC at hvc
      rw [ho, hx] at hvc
      obtain ⟨hnt, hvc⟩ := hvc
      -- the next listing
      have hget : ∀ j, (listed.setIfInBounds i true).getD j false = addD (fun j => listed.getD j false) i j := by
        intro j
        simp only [addD]
        rw [Array.getD_eq_getD_getElem?, Array.getElem?_setIfInBounds]
        by_cases hji : j = i
        · subst hji; simp [hsz, hlt]
        · have : (j == i) = false := by simpa using hji
          have hij : i ≠ j := fun h => hji h.symm
          simp [this, hij]
      have hnext : ∀ (m : Nat → Option Nat) (L : Nat → Lay) (a : Act) (w : World), Rep B (fun z => freeD dl st.nx (fun j => listed.getD j false) z ∧ ¬ (st.nx + offs dl i ≤ z ∧ z < st.nx + offs dl i + x.k)) ((dSt dl st fun j => listed.getD j false).app x.d) m L a w →
          wpAny P .any ops.toArray (Qc B Q) fuel (listed.setIfInBounds i true) a w := by
        intro m L a w hr
        have hlater : ∀ nm, (upsGet x.d.ups nm).isSome = true → ∀ k y, i < k → dl[k]? = some y → (upsGet y.d.ups nm).isSome = true → listed.getD k false = false := by
          intro nm hn k y hik hy hyn
          cases hD : listed.getD k false with
          | false => rfl
          | true =>
            exfalso
            have hkl := (List.getElem?_eq_some_iff.1 hy).1
            have hck := hall k (by omega)
            rw [List.getElem?_eq_getElem (by omega : k < ops.length), hy] at hck
            simp only [Bool.and_eq_true, List.all_eq_true, List.mem_range, Bool.or_eq_true] at hck
            rcases hck.1.2 i hik with h | h
            · have := hcl k _ (List.getElem?_eq_getElem (by omega)) hD i (by simpa using h)
              rw [hDi] at this; cases this
            · obtain ⟨u, hu⟩ := Option.isSome_iff_exists.1 hyn
              obtain ⟨v, hv⟩ := upsGet_mem hu
              have := h _ hv
              rw [hx] at this
              simp [hn] at this
        rw [dSt_add hd1 hx hlater] at hr
        have hfun : addD (fun j => listed.getD j false) i = fun j => (listed.setIfInBounds i true).getD j false := by funext j; exact (hget j).symm
        rw [hfun] at hr
        refine ih (listed.setIfInBounds i true) (by simpa using hsz) ?_ (fun j o' ho' hj q hq => ?_) m L a w (hr.weakF fun z hz => ?_)
        · have hcs : (listed.setIfInBounds i true).toList.count false + 1 = listed.toList.count false := by
            rw [Array.toList_setIfInBounds]
            refine count_set_true ?_
            rw [Array.getD_eq_getD_getElem?, Array.getElem?_eq_getElem (by omega), Option.getD_some] at hDi
            rw [Array.getElem?_toList, Array.getElem?_eq_getElem (by omega), hDi]
          omega
        · rw [hget] at hj ⊢
          simp only [addD, Bool.or_eq_true, beq_iff_eq] at hj ⊢
          left
          rcases hj with hj | hj
          · exact hcl j o' ho' hj q hq
          · subst hj; rw [ho] at ho'; injection ho' with ho'; subst ho'; exact hpre q hq
        · rcases hz with hz | ⟨j, y, h1, h2, h3, h4⟩
          · exact ⟨.inl hz, fun hzz => by have := offs_lt hx; omega⟩
          · have h2 := (hget j).symm.trans h2
            simp only [addD, Bool.or_eq_false_iff, beq_eq_false_iff_ne] at h2
            have hjl := (List.getElem?_eq_some_iff.1 h1).1
            refine ⟨.inr ⟨j, y, h1, h2.1, h3, h4⟩, fun hzz => ?_⟩
            rcases Nat.lt_or_gt_of_ne h2.2 with hlt2 | hlt2
            · rcases offs_mono hlt2 h1 with h5 | h5
              · omega
              · omega
            · rcases offs_mono hlt2 hx with h5 | h5
              · omega
              · omega
      -- what the operation sees
      have hseen : ∀ t ∈ readsOf ops o, (dSt dl st fun j => listed.getD j false).env t = iEnv ops dl st i t := by
        intro t ht
        have := hreads t ht
        simp only [dSt, dEnv, iEnv, predOf]
        cases hw : writer dl t 0 with
        | none => rfl
        | some p =>
          rw [hw] at this
          simp only [ho, Option.map_some, Option.getD_some]
          simp only [Bool.or_eq_true] at this
          by_cases hb : (bindsOn o).contains p.1 = true
          · have hD := hpre p.1 (by simpa using hb)
            simp only [hb, hD]
          · have h2 := this.resolve_left hb
            have hD : listed.getD p.1 false = false := by
              cases hD : listed.getD p.1 false with
              | false => rfl
              | true =>
                exfalso
                cases hop : ops[p.1]? with
                | none => rw [hop] at h2; cases h2
                | some o' =>
                  rw [hop] at h2
                  simp only [Option.map_some, Option.getD_some] at h2
                  have := hcl p.1 o' hop hD i (by simpa using h2)
                  rw [hDi] at this; cases this
            simp only [hb, hD]
      have hops : opEnv o.op (iEnv ops dl st i) (dSt dl st fun j => listed.getD j false).env := by
        intro y hy
        cases y with
        | tmp t => exact hseen t (by unfold readsOf; exact List.mem_append.2 (.inl (by unfold tmpsOf; exact List.mem_filterMap.2 ⟨_, hy, rfl⟩)))
        | const v => rfl
        | func f => rfl
        | global g => rfl
      have hsub : Sub (iObj ops dl st i) (dSt dl st fun j => listed.getD j false).objs := by
        intro nm ob hob
        simp only [iObj] at hob
        split at hob
        case isFalse => cases hob
        case isTrue hc =>
          have hcong : updLast dl nm 0 (fun j => listed.getD j false) = updLast dl nm 0 (predOf ops i) := updLast_congr fun k y hk hy => by
            have hkl := (List.getElem?_eq_some_iff.1 hk).1
            have h3 := compAll_get hc hk hy
            rw [Nat.zero_add] at h3 ⊢
            have hpi : predOf ops i k = (bindsOn o).contains k := by simp [predOf, ho]
            rcases h3 with h3 | h3 | h3
            · rw [h3]; rw [hpi] at h3; exact hpre k (by simpa using h3)
            · subst h3
              rw [hDi, hpi]
              cases hcc : (bindsOn o).contains k with
              | false => rfl
              | true => have := hlow k (by simpa using hcc); omega
            · have hki : k ≠ i := fun hki => by
                subst hki
                rw [hpi] at h3
                have := hlow k (by simpa using h3); omega
              have h4 : predOf ops i k = false := by
                cases hcc : predOf ops i k with
                | false => rfl
                | true =>
                  rw [hpi] at hcc
                  have h5 := hlow k (by simpa using hcc)
                  have hck := hall k (by omega)
                  rw [List.getElem?_eq_getElem (by omega : k < ops.length), hk] at hck
                  simp only [Bool.and_eq_true, List.all_eq_true, decide_eq_true_eq] at hck
                  have h6 : (bindsOn ops[k]).contains i = true := by simpa [predOf, List.getElem?_eq_getElem (by omega : k < ops.length)] using h3
                  have := hck.1.1.2 i (by simpa using h6)
                  omega
              rw [h4]
              cases hD : listed.getD k false with
              | false => rfl
              | true =>
                exfalso
                have h6 : (bindsOn (ops[k]'(by omega))).contains i = true := by simpa [predOf, List.getElem?_eq_getElem (by omega : k < ops.length)] using h3
                have := hcl k _ (List.getElem?_eq_getElem (by omega)) hD i (by simpa using h6)
                rw [hDi] at this; cases this
          simp only [dSt, dObj, hcong] at hob ⊢
          exact hob
      have hfree : ∀ z, st.nx + offs dl i ≤ z → z < st.nx + offs dl i + x.k → freeD dl st.nx (fun j => listed.getD j false) z := fun z h1 h2 => .inr ⟨i, x, hx, hDi, h1, h2⟩
      unfold wpOp
      simp only [List.getElem?_toArray, ho]
      cases hg : o.guard with
      | none =>
        rw [hg] at hvc
        have : Region.wanted o (yielded ops.toArray a.tmps) = true := by simp [Region.wanted, hg]
        rw [if_pos this]
        exact .inl (Oper.wp_mono (fun a' w' ⟨m', L', hr'⟩ => hnext m' L' a' w' hr') (hvc hr hfree hops hsub hnt _))
      | some gw =>
        obtain ⟨g, want⟩ := gw
        rw [hg] at hvc
        obtain ⟨t, hgd, htn, hvc⟩ := hvc
        have hv := hr.slots t
        rw [hseen t (by unfold readsOf; rw [hg]; exact List.mem_append.2 (.inr (by simp only; rw [hgd]; simp)))] at hv
        have hskip : Region.wanted o (yielded ops.toArray a.tmps) = false → x.d = ⟨o.dst, .tup [], []⟩ →
            (if Region.wanted o (yielded ops.toArray a.tmps) = true then o.wp P a w (wpAny P .any ops.toArray (Qc B Q) fuel (listed.setIfInBounds i true)) (Qc B Q) ∨ (o.asks P a w ∧ LetsOut (Qc B Q)) else wpAny P .any ops.toArray (Qc B Q) fuel (listed.setIfInBounds i true) (a.put o.dst undef) w) := by
          intro this hn
          rw [if_neg (by rw [this]; simp)]
          refine hnext m L _ w ?_
          rw [hn]
          exact (hr.put hnt sat_undef).weakF fun z hz => hz.1
        rcases hvc with ⟨b, hb, hs, hn⟩ | ⟨hb, hn⟩
        · rw [hb] at hv
          simp only [sat] at hv
          have hy := yielded_of (ops := ops.toArray) (by simpa using hgd) (by rw [hr.sz]; exact htn) hv.1
          by_cases hbw : b = want
          · have : Region.wanted o (yielded ops.toArray a.tmps) = true := by simp [Region.wanted, hg, hy, hbw]
            rw [if_pos this]
            exact .inl (Oper.wp_mono (fun a' w' ⟨m', L', hr'⟩ => hnext m' L' a' w' hr') (hs hbw hr hfree hops hsub hnt _))
          · exact hskip (by simp [Region.wanted, hg, hy, hbw]) (hn hbw)
        · rw [hb] at hv
          have hy := yielded_none (ops := ops.toArray) (by simpa using hgd) (by rw [hr.sz]; exact htn) (undef_sat hv)
          exact hskip (by simp [Region.wanted, hg, hy]) hn
  have hr0 : Rep B (freeD dl st.nx fun j => (Array.replicate ops.length false).getD j false) (dSt dl st fun j => (Array.replicate ops.length false).getD j false) m L a w.drew := by
    have hff : ∀ j, (Array.replicate ops.length false).getD j false = false := fun j => by
      rw [Array.getD_eq_getD_getElem?, Array.getElem?_replicate]; split <;> rfl
    have hst : dSt dl st (fun j => (Array.replicate ops.length false).getD j false) = st := by
      have : (fun j => (Array.replicate ops.length false).getD j false) = fun _ => false := funext hff
      rw [this]
      have e1 : dEnv dl st (fun _ => false) = st.env := by funext t; simp only [dEnv]; cases writer dl t 0 <;> rfl
      have e2 : dObj dl st (fun _ => false) = st.objs := by funext t; simp only [dObj, updLast_none (D := fun _ => false) (fun _ _ _ _ => rfl)]
      unfold dSt; rw [e1, e2]
    rw [hst]
    refine (hrw _ (Ev.drew w)).weakF fun z hz => ?_
    rcases hz with hz | ⟨j, y, _, _, h3, _⟩
    · omega
    · omega
  refine key _ _ (by simp) ?_ (fun j o _ hj => ?_) m L a _ hr0
  · simp [List.count_replicate]
  · exfalso
    rw [Array.getD_eq_getD_getElem?, Array.getElem?_replicate] at hj
    split at hj <;> cases hj
end
end Go.Av
