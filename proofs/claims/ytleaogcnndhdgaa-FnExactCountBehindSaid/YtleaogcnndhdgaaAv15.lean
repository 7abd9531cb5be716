/- A part of the proof that a law of the seat holds: ZAv15. -/
import Derived.Test.YtleaogcnndhdgaaAv14
namespace Go.Av
open Go Go.RowKit

section
variable {P : Program} {G : Sg P}

def killOf : Option Nat → List (Nat × Option AObj)
  | some k => [(k, none)]
  | none => []

theorem Stp.append {o : Oper} {e : Nat → AV} {ob : Nat → Option AObj} {n0 : Nat} {t : TypeId} {x y : Operand} (ho : o.op = .call ⟨.builtin .append, #[x, y], #[t, t]⟩) {ko : Option Nat} {len : Nat} {obj : AObj} (h : appA G t ob (evA e x) (evA e y) = some (ko, len, obj)) :
    Stp P o n0 1 e ob ⟨o.dst, .sl n0 0 len, (n0, some obj) :: killOf ko⟩ := by
  intro B F st m L a w hr hF he hob hd Q
  have hx : evA st.env x = evA e x := he x (by simp [ho, Op.operands, Call.operands])
  have hv : evA st.env y = evA e y := he y (by simp [ho, Op.operands, Call.operands])
  rw [← hx, ← hv] at h
  obtain ⟨v, w', m', L', hrun, hr', hs⟩ := app_sound (G := G) hr (ty := o.type) (evA_sat hr x) (evA_sat hr y) (hF n0 (by omega) (by omega)) (appA_mono G hob h)
  unfold Oper.wp execOp
  simp only [ho, resolve, invoke, builtin, Sem.run_bind, Sem.run_pure, List.map_toArray, List.map_cons, List.map_nil, Result.andThen, hrun]
  refine ⟨m', L', ?_⟩
  cases ko with
  | none => exact (hr'.put hd hs).weakF fun x hx => ⟨hx.1, fun hxx => hx.2 (by omega)⟩
  | some k => exact (hr'.put hd hs).weakF fun x hx => ⟨hx.1, fun hxx => hx.2 (by omega)⟩

/-! ### calls -/
def Own (P : Program) (k : FuncId) : Prop := ∃ fn, P.funcs[k]? = some fn ∧ fn.body.isSome = true ∧ (fn.name == "runtime.NumGoroutine") = false

structure DCall (P : Program) (k : FuncId) (args : List AV) (fo : List AObj) (av : AV) (fo' : List (Option AObj)) : Prop where
  own : Own P k
  call : VCall P k args fo (fun a o => a = av ∧ o = fo')

def posIn : List Nat → Nat → Option Nat
  | [], _ => none
  | x :: l, n => if n = x then some 0 else (posIn l n).map (· + 1)

theorem posIn_get : ∀ {l : List Nat} {n p : Nat}, posIn l n = some p → l[p]? = some n
  | x :: l, n, p, h => by
    simp only [posIn] at h
    split at h
    case isTrue h1 => simp only [Option.some.injEq] at h; subst h; subst h1; rfl
    case isFalse =>
      cases hp : posIn l n with
      | none => rw [hp] at h; cases h
      | some q => rw [hp] at h; simp only [Option.map_some, Option.some.injEq] at h; subst h; simpa using posIn_get hp

theorem posIn_none : ∀ {l : List Nat} {n : Nat}, posIn l n = none → n ∉ l
  | [], _, _ => by simp
  | x :: l, n, h => by
    simp only [posIn] at h
    split at h
    case isTrue => cases h
    case isFalse h1 =>
      cases hp : posIn l n with
      | some q => rw [hp] at h; cases h
      | none => simp only [List.mem_cons, not_or]; exact ⟨h1, posIn_none hp⟩

def foVw (ob : Nat → Option AObj) (σ : Nat → Option Nat) : List Nat → List AObj → Prop
  | [], [] => True
  | nm :: sel, o' :: fo => (∃ o, ob nm = some o ∧ o'.ty = o.ty ∧ o'.k = o.k ∧ vwSegs ob true σ o.segs o'.segs) ∧ foVw ob σ sel fo
  | _, _ => False

theorem foVw_get {ob : Nat → Option AObj} {σ : Nat → Option Nat} : ∀ {sel : List Nat} {fo : List AObj}, foVw ob σ sel fo → sel.length = fo.length ∧ ∀ (p : Nat) (o' : AObj), fo[p]? = some o' → ∃ nm o, sel[p]? = some nm ∧ ob nm = some o ∧ o'.ty = o.ty ∧ o'.k = o.k ∧ vwSegs ob true σ o.segs o'.segs
  | [], [], _ => ⟨rfl, fun p o' h => by simp at h⟩
  | nm :: sel, o1 :: fo, h => by
    simp only [foVw] at h
    obtain ⟨⟨o, h1, h2, h3, h4⟩, h⟩ := h
    obtain ⟨g1, g2⟩ := foVw_get h
    refine ⟨by simp [g1], fun p o' hp => ?_⟩
    cases p with
    | zero => simp only [List.getElem?_cons_zero, Option.some.injEq] at hp; subst hp; exact ⟨nm, o, by simp, h1, h2, h3, h4⟩
    | succ p => simpa using g2 p o' (by simpa using hp)
  | [], _ :: _, h => by simp only [foVw] at h
  | _ :: _, [], h => by simp only [foVw] at h

/-- what is in the hands after a call, by the caller's names -/
def backVw (τ : Nat → Option Nat) : List (Option AObj) → List (Option AObj) → Prop
  | [], [] => True
  | none :: l, u :: us => u = none ∧ backVw τ l us
  | some o' :: l, u :: us => (∃ o, u = some o ∧ o.ty = o'.ty ∧ o.k = o'.k ∧ vwSegs (fun _ => none) false τ o'.segs o.segs) ∧ backVw τ l us
  | _, _ => False

theorem backVw_get {τ : Nat → Option Nat} : ∀ {l us : List (Option AObj)}, backVw τ l us → l.length = us.length ∧ ∀ (p : Nat) (o : AObj), us[p]? = some (some o) → ∃ o', l[p]? = some (some o') ∧ o.ty = o'.ty ∧ o.k = o'.k ∧ vwSegs (fun _ => none) false τ o'.segs o.segs
  | [], [], _ => ⟨rfl, fun p o' h => by simp at h⟩
  | none :: l, u :: us, h => by
    simp only [backVw] at h
    obtain ⟨rfl, h⟩ := h
    obtain ⟨g1, g2⟩ := backVw_get h
    refine ⟨by simp [g1], fun p o' hp => ?_⟩
    cases p with
    | zero => simp at hp
    | succ p => simpa using g2 p o' (by simpa using hp)
  | some o' :: l, u :: us, h => by
    simp only [backVw] at h
    obtain ⟨⟨o, rfl, h2, h3, h4⟩, h⟩ := h
    obtain ⟨g1, g2⟩ := backVw_get h
    refine ⟨by simp [g1], fun p o' hp => ?_⟩
    cases p with
    | zero => simp only [List.getElem?_cons_zero, Option.some.injEq] at hp; subst hp; exact ⟨_, by simp, h2, h3, h4⟩
    | succ p => simpa using g2 p o' (by simpa using hp)
  | [], _ :: _, h => by simp only [backVw] at h
  | none :: _, [], h => by simp only [backVw] at h
  | some _ :: _, [], h => by simp only [backVw] at h

theorem setAll_get (ob : Nat → Option AObj) : ∀ (ns : List Nat) (us : List (Option AObj)), ns.length = us.length → ∀ x, setAll ob (ns.zip us) x = match posIn ns x with | some p => us.getD p none | none => ob x
  | [], [], _, x => rfl
  | n :: ns, u :: us, h, x => by
    have ih := setAll_get ob ns us (by simpa using h) x
    simp only [List.zip_cons_cons, setAll, posIn]
    by_cases hx : x = n
    · subst hx; simp [upd_same]
    · simp only [upd_ne _ _ hx, hx, if_false, ih]
      cases posIn ns x <;> simp
  | [], _ :: _, h, _ => by simp at h
  | _ :: _, [], h, _ => by simp at h

theorem satTup_of_list {c : Ctx} : ∀ {l : List AV} {vs : List Value}, satList c l vs → satTup c l vs
  | [], vs, h => by simp only [satList] at h; simp only [satTup]; exact h
  | a :: l, vs, h => by
    simp only [satList] at h
    obtain ⟨v, r, rfl, _, h1, h2⟩ := h
    simp only [satTup]
    exact ⟨v, r, rfl, h1, satTup_of_list h2⟩

theorem satTup_app {c : Ctx} : ∀ {l r : List AV} {vs us : List Value}, satTup c l vs → satTup c r us → satTup c (l ++ r) (vs ++ us)
  | [], r, vs, us, h, h2 => by simp only [satTup] at h; subst h; simpa using h2
  | a :: l, r, vs, us, h, h2 => by
    simp only [satTup] at h
    obtain ⟨v, r', rfl, h1, h⟩ := h
    simp only [List.cons_append, satTup]
    exact ⟨v, r' ++ us, by simp, h1, satTup_app h h2⟩

theorem posIn_of_get : ∀ {l : List Nat} {n p : Nat}, l.Nodup → l[p]? = some n → posIn l n = some p
  | x :: l, n, 0, _, h => by simp only [List.getElem?_cons_zero, Option.some.injEq] at h; simp [posIn, h]
  | x :: l, n, p + 1, hn, h => by
    simp only [List.getElem?_cons_succ] at h
    have hx : n ≠ x := fun hx => by
      subst hx
      exact (List.nodup_cons.1 hn).1 (List.mem_of_getElem? h)
    simp [posIn, hx, posIn_of_get (List.nodup_cons.1 hn).2 h]

/-- A CALL -/
theorem Stp.call {o : Oper} {e : Nat → AV} {ob : Nat → Option AObj} {n0 : Nat} {f : Operand} {vs : Array Operand} {ts : Array TypeId} (ho : o.op = .call ⟨.value f, vs, ts⟩) {k : FuncId} {caps : List AV} (hf : evA e f = .clo k caps)
    {sel : List Nat} {args' : List AV} {fo : List AObj} {av' av : AV} {fo' us : List (Option AObj)} {n : Nat}
    (hcall : DCall P k args' fo av' fo') (hargs : vwList ob true (fun p => sel[p]?) (vs.toList.map (evA e) ++ caps) args') (hfo : foVw ob (fun p => sel[p]?) sel fo)
    (hnd : sel.Nodup) (hn : fo'.length = sel.length + n) (hback : backVw (posIn (sel ++ List.range' n0 n)) fo' us) (hav : vw (fun _ => none) false (posIn (sel ++ List.range' n0 n)) av' av) :
    Stp P o n0 n e ob ⟨o.dst, av, (sel ++ List.range' n0 n).zip us⟩ := by
  intro B F st m L a w hr hF he hob hd Q
  have hfe : evA st.env f = .clo k caps := by rw [he f (by simp [ho, Op.operands, Call.operands])]; exact hf
  have hae : vs.toList.map (evA st.env) = vs.toList.map (evA e) := map_evA fun x hx => he x (by simp only [ho, Op.operands, Call.operands, Array.toList_append, List.mem_append]; exact .inr hx)
  have hfs := evA_sat hr f
  rw [hfe] at hfs
  simp only [sat] at hfs
  obtain ⟨cvs, hfv, hcs⟩ := hfs
  obtain ⟨hlen, hfoG⟩ := foVw_get hfo
  obtain ⟨hlenU, hbackG⟩ := backVw_get hback
  have hselO : ∀ (p nm : Nat), sel[p]? = some nm → ∃ ox, st.objs nm = some ox := fun p nm hp => by
    have hlt := (List.getElem?_eq_some_iff.1 hp).1
    obtain ⟨nm', ox, g1, g2, _⟩ := hfoG p fo[p] (List.getElem?_eq_getElem (by omega))
    rw [hp] at g1; injection g1 with g1; subst g1
    exact ⟨ox, hob _ _ g2⟩
  have hselI : ∀ p q nm : Nat, sel[p]? = some nm → sel[q]? = some nm → p = q := fun p q nm hp hq => by
    have hlt := (List.getElem?_eq_some_iff.1 hp).1
    exact (List.getElem?_inj hlt hnd).1 (hp.trans hq.symm)
  -- the callee's names
  let mC : Nat → Option Nat := fun p => (sel[p]?).bind m
  let LC : Nat → Lay := fun p => match sel[p]? with | some nm => L nm | none => L p
  have hmC : ∀ (p nm : Nat), sel[p]? = some nm → mC p = m nm ∧ LC p = L nm := fun p nm h => by simp [mC, LC, h]
  have hXC : ∀ b, fX mC (lo fo) b → st.X m b := by
    rintro b ⟨p, o', h1, h2⟩
    obtain ⟨nm, ox, g1, g2, _⟩ := hfoG p o' h1
    rw [(hmC p nm g1).1] at h2
    exact ⟨nm, ox, hob _ _ g2, h2⟩
  have hXC2 : ∀ b, fX mC (lo fo) b → ∃ (p nm : Nat), sel[p]? = some nm ∧ m nm = some b := by
    rintro b ⟨p, o', h1, h2⟩
    obtain ⟨nm, ox, g1, g2, _⟩ := hfoG p o' h1
    rw [(hmC p nm g1).1] at h2
    exact ⟨p, nm, g1, h2⟩
  have H : View (st.ctx m L w) ⟨w, fX mC (lo fo), mC, LC⟩ ob true (fun p => sel[p]?) := by
    refine ⟨rfl, fun _ nm ox h => hr.obj nm ox (hob nm ox h), fun p nm b h1 h2 => ?_, fun _ b _ hx => hXC b hx, fun _ nm ox b h1 h2 h3 => ⟨fun hx => ?_, hr.mb nm b h3⟩⟩
    · exact ⟨(hmC p nm h1).1.trans h2, (hmC p nm h1).2⟩
    · obtain ⟨p, nm', g1, g2⟩ := hXC2 b hx
      obtain ⟨ox', g3⟩ := hselO p nm' g1
      have := hr.inj nm nm' ox ox' b (hob _ _ h1) g3 h3 g2
      subst this
      exact h2 p g1
  have hcin : CallIn w mC LC fo := by
    refine ⟨fun p o' hp => ?_, fun p q o1 o2 b h1 h2 h3 h4 => ?_, fun p hp => ?_, fun p b hb => ?_⟩
    · obtain ⟨nm, ox, g1, g2, g3, g4, g5⟩ := hfoG p o' hp
      exact objOK_view H (fun p nm h1 h2 => ⟨(hmC p nm h1).1.trans h2, (hmC p nm h1).2⟩) g1 g3 g4 g5 (hr.obj nm ox (hob _ _ g2))
    · obtain ⟨nm, ox, g1, g2, _⟩ := hfoG p o1 h1
      obtain ⟨nm', ox', g1', g2', _⟩ := hfoG q o2 h2
      rw [(hmC p nm g1).1] at h3
      rw [(hmC q nm' g1').1] at h4
      have := hr.inj nm nm' ox ox' b (hob _ _ g2) (hob _ _ g2') h3 h4
      subst this
      exact hselI p q nm g1 g1'
    · simp [mC, List.getElem?_eq_none (by omega : sel.length ≤ p)]
    · cases hs : sel[p]? with
      | none => simp [mC, hs] at hb
      | some nm => rw [(hmC p nm hs).1] at hb; exact hr.mb nm b hb
  have hsat : satTup ⟨w, fX mC (lo fo), mC, LC⟩ args' (vs.toList.map a.eval ++ cvs) := by
    refine vwTup_sound H _ _ _ hargs (satTup_app ?_ (satTup_of_list hcs))
    rw [← hae]
    exact evs_sat hr _
  have hrun := hcall.call w mC LC _ hcin hsat
  obtain ⟨fn, hfn, hbody, hname⟩ := hcall.own
  have hbody' : fn.body.isNone = false := by
    cases h : fn.body with
    | none => rw [h] at hbody; cases hbody
    | some _ => rfl
  unfold Oper.wp execOp
  have hargsv : (#[] : Array Value) ++ vs.map a.eval ++ cvs.toArray = (vs.toList.map a.eval ++ cvs).toArray := by
    apply Array.ext'; simp
  simp only [ho, resolve, hfv, Deferred.ofValue, invoke, callFunc, Sem.run_bind, Sem.run_pure, show (program : Sem Program).run P w = .ok P w from rfl, hfn, hname, hbody', if_false, Oper.upon_enter, Bool.false_eq_true, Result.andThen]
  rw [hargsv]
  refine hrun.mono fun ed w' ⟨y, av0, fo0, m', L', hed, ⟨hav0, hfo0⟩, hout, hsy⟩ => ?_
  subst hed; subst hav0; subst hfo0
  dsimp only
  -- the caller's names
  generalize hall : sel ++ List.range' n0 n = all at *
  have hallL : all.length = fo0.length := by rw [← hall]; simp; omega
  have hnew : ∀ x, n0 ≤ x → x < n0 + n → m x = none ∧ st.objs x = none := fun x h1 h2 => hr.mf x (hF x h1 h2)
  have hselN : ∀ (p nm : Nat), sel[p]? = some nm → ¬ (n0 ≤ nm ∧ nm < n0 + n) := fun p nm hp hx => by
    obtain ⟨ox, h⟩ := hselO p nm hp
    rw [(hnew nm hx.1 hx.2).2] at h; cases h
  have hallS : ∀ p, p < sel.length → all[p]? = sel[p]? := fun p hp => by rw [← hall, List.getElem?_append_left hp]
  have hallN : ∀ (p x : Nat), sel.length ≤ p → all[p]? = some x → x = n0 + (p - sel.length) ∧ p - sel.length < n := fun p x hp hx => by
    rw [← hall, List.getElem?_append_right hp] at hx
    have hlt := (List.getElem?_eq_some_iff.1 hx).1
    rw [List.length_range'] at hlt
    rw [List.getElem?_range' hlt] at hx
    simp only [Option.some.injEq] at hx
    exact ⟨by omega, hlt⟩
  have hallND : all.Nodup := by
    rw [← hall]
    refine List.nodup_append.2 ⟨hnd, List.nodup_range', fun x hx y hy hxy => ?_⟩
    subst hxy
    obtain ⟨p, hp⟩ := List.getElem?_of_mem hx
    rw [List.mem_range'_1] at hy
    exact hselN p x hp hy
  let m2 : Nat → Option Nat := fun x => match posIn all x with | some p => m' p | none => m x
  let L2 : Nat → Lay := fun x => match posIn all x with | some p => L' p | none => L x
  have hm2n : ∀ x, posIn all x = none → m2 x = m x ∧ L2 x = L x := fun x h => by simp [m2, L2, h]
  have hm2p : ∀ x p, posIn all x = some p → m2 x = m' p ∧ L2 x = L' p := fun x p h => by simp [m2, L2, h]
  have hkeep : ∀ (p nm : Nat), sel[p]? = some nm → m' p = m nm ∧ L' p = L nm := fun p nm hp => by
    have hlt := (List.getElem?_eq_some_iff.1 hp).1
    obtain ⟨g1, g2⟩ := hout.keep p (by omega)
    rw [g1, g2]; exact hmC p nm hp
  have hm2s : ∀ (p nm : Nat), sel[p]? = some nm → m2 nm = m nm ∧ L2 nm = L nm ∧ posIn all nm = some p := fun p nm hp => by
    have hlt := (List.getElem?_eq_some_iff.1 hp).1
    have := posIn_of_get hallND (by rw [hallS p hlt]; exact hp)
    rw [(hm2p nm p this).1, (hm2p nm p this).2]
    exact ⟨(hkeep p nm hp).1, (hkeep p nm hp).2, this⟩
  have hobj2 : ∀ x, (setAll st.objs (all.zip us)) x = match posIn all x with | some p => us.getD p none | none => st.objs x := setAll_get st.objs all us (by omega)
  -- each object after the call: where it comes from
  have horig : ∀ x ox, setAll st.objs (all.zip us) x = some ox → (posIn all x = none ∧ st.objs x = some ox) ∨
      ∃ p o', posIn all x = some p ∧ lo' fo0 p = some o' ∧ ox.ty = o'.ty ∧ ox.k = o'.k ∧ vwSegs (fun _ => none) false (posIn all) o'.segs ox.segs := by
    intro x ox hx
    rw [hobj2] at hx
    cases hp : posIn all x with
    | none => rw [hp] at hx; exact .inl ⟨rfl, hx⟩
    | some p =>
      rw [hp] at hx
      right
      have : us[p]? = some (some ox) := by
        simp only [List.getD_eq_getElem?_getD] at hx
        cases hu : us[p]? with
        | none => rw [hu] at hx; cases hx
        | some u => rw [hu] at hx; simp only [Option.getD_some] at hx; rw [hx]
      obtain ⟨o', g1, g2, g3, g4⟩ := hbackG p ox this
      exact ⟨p, o', rfl, by simp [lo', g1], g2, g3, g4⟩
  have hXnew : ∀ b, b < w.heap.size → St.X { st with objs := setAll st.objs (all.zip us) } m2 b → st.X m b := by
    rintro b hb ⟨x, ox, h1, h2⟩
    rcases horig x ox h1 with ⟨g1, g2⟩ | ⟨p, o', g1, g2, _⟩
    · rw [(hm2n x g1).1] at h2; exact ⟨x, ox, g2, h2⟩
    · rw [(hm2p x p g1).1] at h2
      rcases hout.fr p o' b g2 h2 with h | h
      · exact hXC b h
      · omega
  have hstep : Step (st.ctx m L w) (St.ctx { st with objs := setAll st.objs (all.zip us) } m2 L2 w') := by
    refine ⟨hout.ev.mono hXC, fun b hb hx => hXnew b hb hx, fun x b hx => ?_⟩
    cases hp : posIn all x with
    | none => exact ⟨(hm2n x hp).1.trans hx, (hm2n x hp).2⟩
    | some p =>
      have hg := posIn_get hp
      rcases Nat.lt_or_ge p sel.length with hlt | hge
      · rw [hallS p hlt] at hg
        exact ⟨(hm2s p x hg).1.trans hx, (hm2s p x hg).2.1⟩
      · obtain ⟨e1, e2⟩ := hallN p x hge hg
        exact absurd ((hnew x (by omega) (by omega)).1.symm.trans hx) (by simp)
  have HB : View ⟨w', fun _ => True, m', L'⟩ (St.ctx { st with objs := setAll st.objs (all.zip us) } m2 L2 w') (fun _ => none) false (posIn all) := by
    refine ⟨rfl, fun h => (by cases h), fun x p b h1 h2 => ?_, fun h => (by cases h), fun h => (by cases h)⟩
    exact ⟨(hm2p x p h1).1.trans h2, (hm2p x p h1).2⟩
  refine ⟨m2, L2, Rep.put ?_ hd (vw_sound HB _ _ _ hav hsy)⟩
  refine ⟨hr.sz, hr.df, fun t => sat_step hstep _ _ (hr.slots t), fun x ox hx => ?_, fun x x' ox ox' b h1 h2 h3 h4 => ?_, fun x hx => ?_, fun x b hb => ?_, ?_, fun x ox b h1 h2 => ?_, fun p hp => ?_, fun p hp hx => hr.n0 p hp hx.1⟩
  · rcases horig x ox hx with ⟨g1, g2⟩ | ⟨p, o', g1, g2, g3, g4, g5⟩
    · refine objOK_step hstep (hm2n x g1).1 (hm2n x g1).2 (fun b hb => ?_) (hr.obj x ox g2)
      refine hout.ev.block b (hr.mb x b hb) fun hxx => ?_
      obtain ⟨q, nm, e1, e2⟩ := hXC2 b hxx
      obtain ⟨ox', e3⟩ := hselO q nm e1
      have := hr.inj x nm ox ox' b g2 e3 hb e2
      subst this
      rw [(hm2s q x e1).2.2] at g1; cases g1
    · exact objOK_view HB (fun x p h1 h2 => ⟨(hm2p x p h1).1.trans h2, (hm2p x p h1).2⟩) g1 g3 g4 g5 (hout.obj p o' g2)
  · have cross : ∀ {x x' : Nat} {ox : AObj} {p : Nat} {o' : AObj}, posIn all x = none → st.objs x = some ox → m2 x = some b → posIn all x' = some p → lo' fo0 p = some o' → m2 x' = some b → False := by
      intro x x' ox p o' g1 g2 h3 g1' g2' h4
      rw [(hm2n x g1).1] at h3
      rw [(hm2p x' p g1').1] at h4
      have hb := hr.mb x b h3
      rcases hout.fr p o' b g2' h4 with h | h
      · obtain ⟨q, nm, e1, e2⟩ := hXC2 b h
        obtain ⟨ox', e3⟩ := hselO q nm e1
        have := hr.inj x nm ox ox' b g2 e3 h3 e2
        subst this
        rw [(hm2s q x e1).2.2] at g1; cases g1
      · omega
    rcases horig x ox h1 with ⟨g1, g2⟩ | ⟨p, o', g1, g2, _⟩
    · rcases horig x' ox' h2 with ⟨g1', g2'⟩ | ⟨p', o'', g1', g2', _⟩
      · rw [(hm2n x g1).1] at h3
        rw [(hm2n x' g1').1] at h4
        exact hr.inj x x' ox ox' b g2 g2' h3 h4
      · exact (cross g1 g2 h3 g1' g2' h4).elim
    · rcases horig x' ox' h2 with ⟨g1', g2'⟩ | ⟨p', o'', g1', g2', _⟩
      · exact (cross g1' g2' h4 g1 g2 h3).elim
      · rw [(hm2p x p g1).1] at h3
        rw [(hm2p x' p' g1').1] at h4
        have := hout.inj p p' o' o'' b g2 g2' h3 h4
        subst this
        have e1 := posIn_get g1
        have e2 := posIn_get g1'
        rw [e1] at e2; injection e2
  · obtain ⟨h1, h2⟩ := hr.mf x hx.1
    have hp : posIn all x = none := by
      cases hp : posIn all x with
      | none => rfl
      | some p =>
        exfalso
        have hg := posIn_get hp
        rcases Nat.lt_or_ge p sel.length with hlt | hge
        · rw [hallS p hlt] at hg
          obtain ⟨ox, h⟩ := hselO p x hg
          rw [h2] at h; cases h
        · obtain ⟨e1, e2⟩ := hallN p x hge hg
          exact hx.2 ⟨by omega, by omega⟩
    refine ⟨(hm2n x hp).1.trans h1, ?_⟩
    have := hobj2 x
    rw [hp] at this
    exact this.trans h2
  · cases hp : posIn all x with
    | none => rw [(hm2n x hp).1] at hb; exact Nat.lt_of_lt_of_le (hr.mb x b hb) hout.ev.size
    | some p => rw [(hm2p x p hp).1] at hb; exact hout.mb p b hb
  · refine hr.ev.trans (hout.ev.mono hXC) fun q hq => ?_
    obtain ⟨nm, ox, h1, h2⟩ := hq
    exact hr.fr nm ox q h1 h2
  · rcases horig x ox h1 with ⟨g1, g2⟩ | ⟨p, o', g1, g2, _⟩
    · rw [(hm2n x g1).1] at h2; exact hr.fr x ox b g2 h2
    · rw [(hm2p x p g1).1] at h2
      rcases hout.fr p o' b g2 h2 with h | h
      · obtain ⟨nm, ox', e1, e2⟩ := hXC b h
        exact hr.fr nm ox' b e1 e2
      · exact .inr (Nat.le_trans hr.ev.size h)
  · have hp' : posIn all p = none ∨ ∃ q : Nat, sel[q]? = some p := by
      cases hpp : posIn all p with
      | none => exact .inl rfl
      | some q =>
        right
        have hg := posIn_get hpp
        rcases Nat.lt_or_ge q sel.length with hlt | hge
        · exact ⟨q, by rw [← hallS q hlt]; exact hg⟩
        · obtain ⟨e1, e2⟩ := hallN q p hge hg
          exact (hr.n0 p hp (hF p (by omega) (by omega))).elim
    rcases hp' with hp' | ⟨q, hq⟩
    · rw [(hm2n p hp').1, (hm2n p hp').2]; exact hr.base p hp
    · rw [(hm2s q p hq).1, (hm2s q p hq).2.1]; exact hr.base p hp
end
end Go.Av
