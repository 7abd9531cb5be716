/- A part of the proof that a law of the seat holds: ZAv13. -/
import Derived.Test.YtleaogcnndhdgaaAv12
namespace Go.Av
open Go Go.RowKit

/-! ### what a call is told by -/
def fX (m : Nat → Option Nat) (fo : Nat → Option AObj) : Nat → Prop := fun b => ∃ p o, fo p = some o ∧ m p = some b
def lo (fo : List AObj) : Nat → Option AObj := fun p => fo[p]?
def lo' (fo : List (Option AObj)) : Nat → Option AObj := fun p => (fo[p]?).bind id

structure CallIn (w : World) (m : Nat → Option Nat) (L : Nat → Lay) (fo : List AObj) : Prop where
  obj : ∀ p o, lo fo p = some o → objOK ⟨w, fX m (lo fo), m, L⟩ p o
  inj : ∀ p q o o' b, lo fo p = some o → lo fo q = some o' → m p = some b → m q = some b → p = q
  mf : ∀ p, fo.length ≤ p → m p = none
  mb : ∀ p b, m p = some b → b < w.heap.size

structure CallOut (w w' : World) (m m' : Nat → Option Nat) (L L' : Nat → Lay) (fo : List AObj) (fo' : List (Option AObj)) : Prop where
  ev : Ev (fX m (lo fo)) w w'
  len : fo.length ≤ fo'.length
  keep : ∀ p, p < fo.length → m' p = m p ∧ L' p = L p
  obj : ∀ p o, lo' fo' p = some o → objOK ⟨w', fun _ => True, m', L'⟩ p o
  inj : ∀ p q o o' b, lo' fo' p = some o → lo' fo' q = some o' → m' p = some b → m' q = some b → p = q
  mf : ∀ p, fo'.length ≤ p → m' p = none
  mb : ∀ p b, m' p = some b → b < w'.heap.size
  fr : ∀ p o b, lo' fo' p = some o → m' p = some b → fX m (lo fo) b ∨ w.heap.size ≤ b

/-- THE CONTRACT of function k: arguments, the objects that are handed over, and what comes back -/
def VCall (P : Program) (k : FuncId) (args : List AV) (fo : List AObj) (R : AV → List (Option AObj) → Prop) : Prop :=
  ∀ (w : World) (m : Nat → Option Nat) (L : Nat → Lay) (vals : List Value), CallIn w m L fo → satTup ⟨w, fX m (lo fo), m, L⟩ args vals →
    Calls P k vals.toArray w fun e w' => ∃ y av fo' m' L', e = .returned y ∧ R av fo' ∧ CallOut w w' m m' L L' fo fo' ∧ sat ⟨w', fun _ => True, m', L'⟩ av y

theorem VCall.mono {P : Program} {k : FuncId} {args : List AV} {fo : List AObj} {R R' : AV → List (Option AObj) → Prop} (h : VCall P k args fo R) (hr : ∀ av fo', R av fo' → R' av fo') : VCall P k args fo R' :=
  fun w m L vals h1 h2 => (h w m L vals h1 h2).mono fun _ _ ⟨y, av, fo', m', L', e, r, rest⟩ => ⟨y, av, fo', m', L', e, hr _ _ r, rest⟩

theorem objOK_view {c c' : Ctx} {ob : Nat → Option AObj} {lend : Bool} {σ : Nat → Option Nat} (H : View c c' ob lend σ) (hn : ∀ p nm, σ p = some nm → c.m nm = none → c'.m p = none ∧ c'.L p = c.L nm)
    {p nm : Nat} {o o' : AObj} (hσ : σ p = some nm) (hty : o'.ty = o.ty) (hk : o'.k = o.k) (hv : vwSegs ob lend σ o.segs o'.segs) (h : objOK c nm o) : objOK c' p o' := by
  rcases h with ⟨h1, h2, k, h3, h4⟩ | ⟨b, cur, fr, h1, h2, h3, h4, h5⟩
  · obtain ⟨g1, g2⟩ := hn p nm hσ h1
    refine .inl ⟨g1, ?_, k, by rw [hk]; exact h3, by rw [g2]; exact h4⟩
    have := vwSegs_len hv
    rw [h2] at this
    exact List.eq_nil_of_length_eq_zero (by simpa using this.symm)
  · obtain ⟨g1, g2⟩ := H.m p nm b hσ h1
    refine .inr ⟨b, cur, fr, g1, by rw [H.w, hty]; exact h2, h3, vwSegs_sound H _ _ b 0 hv h4, ?_⟩
    have hl := vwSegs_lens hv
    have hlen := vwSegs_len hv
    rcases h5 with ⟨k, cap, f1, f2, f3, f4, f5, f6⟩ | ⟨f1, f2, f3⟩
    · exact .inl ⟨k, cap, by rw [hk]; exact f1, by rw [g2]; exact f2, vwSegs_uni hv f3, f4, by omega, f6⟩
    · exact .inr ⟨by rw [hk]; exact f1, by rw [g2, f2, hl], by rw [f3, List.length_flatten, List.length_flatten, hl]⟩

/-! ### the same state, told anew (loops, joins) -/
structure StV (n0 : Nat) (st : St) (σ : Nat → Option Nat) (st' : St) : Prop where
  env : ∀ t, vw st.objs true σ (st.env t) (st'.env t)
  objs : ∀ p o', st'.objs p = some o' → (∃ nm o, σ p = some nm ∧ st.objs nm = some o ∧ o'.ty = o.ty ∧ o'.k = o.k ∧ vwSegs st.objs true σ o.segs o'.segs) ∨ (σ p = none ∧ o'.segs = [] ∧ o'.k ≠ none ∧ p < st'.nx)
  inj : ∀ p q nm, σ p = some nm → σ q = some nm → p = q
  only : ∀ p nm, σ p = some nm → p < st'.nx
  base : ∀ p, p < n0 → σ p = some p
  live : ∀ p nm, σ p = some nm → n0 ≤ p → ∃ o, st'.objs p = some o

def virtL (ob : Nat → Option AObj) (L : Nat → Lay) (σ : Nat → Option Nat) : Nat → Lay := fun p => match σ p with
  | some nm => L nm
  | none => match (ob p).bind (·.k) with
    | some k => .uni k
    | none => L p

theorem virtL_some {ob : Nat → Option AObj} {L : Nat → Lay} {σ : Nat → Option Nat} {p nm : Nat} (h : σ p = some nm) : virtL ob L σ p = L nm := by simp only [virtL, h]
theorem virtL_none {ob : Nat → Option AObj} {L : Nat → Lay} {σ : Nat → Option Nat} {p k : Nat} {o : AObj} (h : σ p = none) (ho : ob p = some o) (hk : o.k = some k) : virtL ob L σ p = .uni k := by
  simp only [virtL, h, ho, Option.bind_some, hk]

theorem Rep.view {B : Base} {F : Nat → Prop} {st st' : St} {m : Nat → Option Nat} {L : Nat → Lay} {a : Act} {w : World} (h : Rep B F st m L a w) {σ : Nat → Option Nat} (hv : StV B.n0 st σ st') :
    ∃ m' L', Rep B (fun x => st'.nx ≤ x) st' m' L' a w := by
  refine ⟨fun p => (σ p).bind m, virtL st'.objs L σ, ?_⟩
  have hX : ∀ b, st'.X (fun p => (σ p).bind m) b → ∃ nm o p, σ p = some nm ∧ st.objs nm = some o ∧ m nm = some b := by
    rintro b ⟨p, o', h1, h2⟩
    rcases hv.objs p o' h1 with ⟨nm, o, g1, g2, _⟩ | ⟨g1, _⟩
    · simp only [g1, Option.bind_some] at h2
      exact ⟨nm, o, p, g1, g2, h2⟩
    · simp [g1] at h2
  have H : View (st.ctx m L w) (st'.ctx (fun p => (σ p).bind m) (virtL st'.objs L σ) w) st.objs true σ := by
    refine ⟨rfl, fun _ => h.obj, fun p nm b h1 h2 => ?_, fun _ b _ hx => ?_, fun _ nm o b h1 h2 h3 => ⟨fun hx => ?_, h.mb nm b h3⟩⟩
    · simp only [St.ctx, h1, virtL_some h1]; exact ⟨h2, trivial⟩
    · obtain ⟨nm, o, p, g1, g2, g3⟩ := hX b hx; exact ⟨nm, o, g2, g3⟩
    · obtain ⟨nm', o', p, g1, g2, g3⟩ := hX b hx
      have := h.inj nm nm' o o' b h1 g2 h3 g3
      subst this
      exact h2 p g1
  have Hn : ∀ p nm, σ p = some nm → (st.ctx m L w).m nm = none → (st'.ctx (fun p => (σ p).bind m) (virtL st'.objs L σ) w).m p = none ∧
      (st'.ctx (fun p => (σ p).bind m) (virtL st'.objs L σ) w).L p = (st.ctx m L w).L nm := by
    intro p nm h1 h2
    simp only [St.ctx, h1, virtL_some h1]; exact ⟨h2, trivial⟩
  refine ⟨h.sz, h.df, fun t => vw_sound H _ _ _ (hv.env t) (h.slots t), fun p o' ho' => ?_, fun p q o1 o2 b h1 h2 h3 h4 => ?_, fun x hx => ?_, fun p b hb => ?_, h.ev, fun p o' b h1 h2 => ?_, fun p hp => ?_, fun p hp hx => ?_⟩
  · rcases hv.objs p o' ho' with ⟨nm, o, g1, g2, g3, g4, g5⟩ | ⟨g1, g2, g3, _⟩
    · exact objOK_view H Hn g1 g3 g4 g5 (h.obj nm o g2)
    · cases hk : o'.k with
      | none => exact absurd hk g3
      | some k => exact .inl ⟨by simp [St.ctx, g1], g2, k, hk, virtL_none g1 ho' hk⟩
  · rcases hv.objs p o1 h1 with ⟨nm, o, g1, g2, _⟩ | ⟨g1, _⟩
    case inr => simp [g1] at h3
    rcases hv.objs q o2 h2 with ⟨nm', o', g1', g2', _⟩ | ⟨g1', _⟩
    case inr => simp [g1'] at h4
    simp only [g1, g1', Option.bind_some] at h3 h4
    have := h.inj nm nm' o o' b g2 g2' h3 h4
    subst this
    exact hv.inj p q nm g1 g1'
  · have hσ : σ x = none := by
      cases hs : σ x with
      | none => rfl
      | some nm => have := hv.only x nm hs; omega
    refine ⟨by simp [hσ], ?_⟩
    cases ho : st'.objs x with
    | none => rfl
    | some o' =>
      rcases hv.objs x o' ho with ⟨nm, o, g1, _⟩ | ⟨_, _, _, g1⟩
      · rw [hσ] at g1; cases g1
      · omega
  · cases hs : σ p with
    | none => simp [hs] at hb
    | some nm => simp only [hs, Option.bind_some] at hb; exact h.mb nm b hb
  · rcases hv.objs p o' h1 with ⟨nm, o, g1, g2, _⟩ | ⟨g1, _⟩
    · simp only [g1, Option.bind_some] at h2
      exact h.fr nm o b g2 h2
    · simp [g1] at h2
  · have := hv.base p hp
    simp only [this, Option.bind_some, virtL_some this]; exact h.base p hp
  · have := hv.only p p (hv.base p hp); omega

/-! ### entering a function -/
section
variable {P : Program} (G : Sg P)

def resAV (st : St) : ResultVar → Option AV
  | .tmp t => some (st.env t)
  | .cell a t => match st.env a with
    | .ptr nm s j => (st.objs nm).bind fun o => ldA G t o.segs s j
    | _ => none

def resList (st : St) : List ResultVar → Option (List AV)
  | [] => some []
  | r :: l => match resAV G st r, resList st l with
    | some x, some xs => some (x :: xs)
    | _, _ => none

def tupOf : List AV → AV
  | [x] => x
  | l => .tup l

structure RetV (n0 : Nat) (st : St) (av : AV) (R : AV → List (Option AObj) → Prop) (av' : AV) (fo' : List (Option AObj)) (σ : Nat → Option Nat) : Prop where
  r : R av' fo'
  av : vw st.objs false σ av av'
  objs : ∀ p o', lo' fo' p = some o' → (∃ nm o, σ p = some nm ∧ st.objs nm = some o ∧ o'.ty = o.ty ∧ o'.k = o.k ∧ vwSegs st.objs false σ o.segs o'.segs) ∨ (σ p = none ∧ o'.segs = [] ∧ o'.k ≠ none)
  inj : ∀ p q nm, σ p = some nm → σ q = some nm → p = q
  only : ∀ p nm, σ p = some nm → p < fo'.length
  base : ∀ p, p < n0 → σ p = some p
  len : n0 ≤ fo'.length

def retQ (fn : Func) (n0 : Nat) (R : AV → List (Option AObj) → Prop) : Exit → St → Prop
  | .normal, st | .ret, st => ∃ avs av' fo' σ, resList G st fn.results.toList = some avs ∧ RetV n0 st (tupOf avs) R av' fo' σ
  | _, _ => False

/-- THE CODE'S PREDICATE: from each frame and world that the state tells of -/
def AWp (P : Program) (B : Base) (c : Code) (st : St) (Q : Exit → St → Prop) : Prop :=
  ∀ (m : Nat → Option Nat) (L : Nat → Lay) (a : Act) (w : World), Rep B (fun x => st.nx ≤ x) st m L a w →
    c.wp P (fun e a' w' => ∃ st' m' L', Q e st' ∧ Rep B (fun x => st'.nx ≤ x) st' m' L' a' w') a w

variable {G}
def resSem (a : Act) : ResultVar → Sem Value
  | .tmp t => pure (a.tmps.getD t undef)
  | .cell x t => do loadVar t (← asAddr (a.tmps.getD x undef))

theorem resAV_sound {B : Base} {F : Nat → Prop} {st : St} {m : Nat → Option Nat} {L : Nat → Lay} {a : Act} {w : World} (h : Rep B F st m L a w) (r : ResultVar) {av : AV} (hr : resAV G st r = some av) :
    ∃ y, sat (st.ctx m L w) av y ∧ (resSem a r).run P w = .ok y w := by
  cases r with
  | tmp t =>
    simp only [resAV, Option.some.injEq] at hr; subst hr
    exact ⟨_, h.slots t, rfl⟩
  | cell x t =>
    have hx := h.slots x
    simp only [resAV] at hr
    split at hr
    case h_2 => cases hr
    case h_1 nm s j he =>
      rw [he] at hx
      simp only [sat] at hx
      obtain ⟨b, hb, hv⟩ := hx
      cases ho : st.objs nm with
      | none => rw [ho] at hr; cases hr
      | some o =>
        rw [ho] at hr
        simp only [Option.bind_some] at hr
        rcases h.obj nm o ho with ⟨hn, _⟩ | ⟨b', cur, fr, e1, e2, e3, e4, e5⟩
        · rw [hn] at hb; cases hb
        · have : b' = b := by rw [hb] at e1; injection e1 with e1; exact e1.symm
          subst this
          obtain ⟨y, hy, hrun⟩ := ld_sound G e4 hr
          refine ⟨y, hy, ?_⟩
          have hs : s ≤ o.segs.length := by
            obtain ⟨f, hf, hcase⟩ := ldA_spec G hr
            rcases Nat.lt_or_ge o.segs.length s with hlt | hle
            · exfalso
              have hpos := (G.ok t f hf).pos
              have hpre : presegs o.segs s = o.segs.flatten.length := by rw [presegs_eq, List.take_of_length_le (by omega)]
              rcases hcase with ⟨_, segs', _, g1, g2⟩ | ⟨_, g1⟩
              · rw [g1, hpre] at g2; simp at g2; omega
              · rw [hpre] at g1; simp at g1
            · exact hle
          have hpre := (h.obj nm o ho).pre hs
          have := hrun w (Same.refl w)
          rw [Nat.zero_add] at this
          simp only [resSem]
          rw [hv, hpre]
          simpa [asAddr] using this

theorem results_eq (fn : Func) (a : Act) : results fn a.tmps = (do
    let vs ← fn.results.mapM (resSem a)
    pure (if h : vs.size = 1 then vs[0] else .tuple vs)) := by
  unfold results
  congr 2

theorem results_sound {B : Base} {F : Nat → Prop} {st : St} {m : Nat → Option Nat} {L : Nat → Lay} {a : Act} {w : World} (h : Rep B F st m L a w) (fn : Func) {avs : List AV} (hr : resList G st fn.results.toList = some avs) (hlen : fn.results.size ≤ 4) :
    ∃ y, sat (st.ctx m L w) (tupOf avs) y ∧ (results fn a.tmps).run P w = .ok y w := by
  obtain ⟨rs, hrs⟩ : ∃ rs, fn.results.toList = rs := ⟨_, rfl⟩
  have he : fn.results = rs.toArray := by rw [← hrs]
  have hsz : rs.length ≤ 4 := by rw [← hrs]; simpa using hlen
  rw [hrs] at hr
  have cons : ∀ {r : ResultVar} {l : List ResultVar} {avs : List AV}, resList G st (r :: l) = some avs → ∃ x xs, avs = x :: xs ∧ resAV G st r = some x ∧ resList G st l = some xs := by
    intro r l avs hh
    simp only [resList] at hh
    split at hh
    case h_1 x xs h1 h2 => simp only [Option.some.injEq] at hh; exact ⟨x, xs, hh.symm, h1, h2⟩
    case h_2 => cases hh
  match rs, hsz with
  | [], _ =>
    simp only [resList, Option.some.injEq] at hr; subst hr
    exact ⟨.tuple #[], by simp only [tupOf, sat]; exact ⟨[], rfl, by simp only [satTup]⟩, by simp [results, he]⟩
  | [r1], _ =>
    obtain ⟨x1, xs, rfl, h1, hr⟩ := cons hr
    simp only [resList, Option.some.injEq] at hr; subst hr
    obtain ⟨y1, s1, e1⟩ := resAV_sound h r1 h1
    exact ⟨y1, s1, by rw [results_eq, he]; simp [e1]⟩
  | [r1, r2], _ =>
    obtain ⟨x1, xs, rfl, h1, hr⟩ := cons hr
    obtain ⟨x2, xs, rfl, h2, hr⟩ := cons hr
    simp only [resList, Option.some.injEq] at hr; subst hr
    obtain ⟨y1, s1, e1⟩ := resAV_sound h r1 h1
    obtain ⟨y2, s2, e2⟩ := resAV_sound h r2 h2
    refine ⟨.tuple #[y1, y2], by simp only [tupOf, sat]; exact ⟨[y1, y2], rfl, by simp only [satTup]; exact ⟨_, _, rfl, s1, _, _, rfl, s2, rfl⟩⟩, ?_⟩
    rw [results_eq, he]; simp [e1, e2]
  | [r1, r2, r3], _ =>
    obtain ⟨x1, xs, rfl, h1, hr⟩ := cons hr
    obtain ⟨x2, xs, rfl, h2, hr⟩ := cons hr
    obtain ⟨x3, xs, rfl, h3, hr⟩ := cons hr
    simp only [resList, Option.some.injEq] at hr; subst hr
    obtain ⟨y1, s1, e1⟩ := resAV_sound h r1 h1
    obtain ⟨y2, s2, e2⟩ := resAV_sound h r2 h2
    obtain ⟨y3, s3, e3⟩ := resAV_sound h r3 h3
    refine ⟨.tuple #[y1, y2, y3], by simp only [tupOf, sat]; exact ⟨[y1, y2, y3], rfl, by simp only [satTup]; exact ⟨_, _, rfl, s1, _, _, rfl, s2, _, _, rfl, s3, rfl⟩⟩, ?_⟩
    rw [results_eq, he]; simp [e1, e2, e3]
  | [r1, r2, r3, r4], _ =>
    obtain ⟨x1, xs, rfl, h1, hr⟩ := cons hr
    obtain ⟨x2, xs, rfl, h2, hr⟩ := cons hr
    obtain ⟨x3, xs, rfl, h3, hr⟩ := cons hr
    obtain ⟨x4, xs, rfl, h4, hr⟩ := cons hr
    simp only [resList, Option.some.injEq] at hr; subst hr
    obtain ⟨y1, s1, e1⟩ := resAV_sound h r1 h1
    obtain ⟨y2, s2, e2⟩ := resAV_sound h r2 h2
    obtain ⟨y3, s3, e3⟩ := resAV_sound h r3 h3
    obtain ⟨y4, s4, e4⟩ := resAV_sound h r4 h4
    refine ⟨.tuple #[y1, y2, y3, y4], by simp only [tupOf, sat]; exact ⟨[y1, y2, y3, y4], rfl, by simp only [satTup]; exact ⟨_, _, rfl, s1, _, _, rfl, s2, _, _, rfl, s3, _, _, rfl, s4, rfl⟩⟩, ?_⟩
    rw [results_eq, he]; simp [e1, e2, e3, e4]

def envOf (args : List AV) : Nat → AV := fun t => args.getD t .any

theorem satTup_len {c : Ctx} : ∀ {l : List AV} {vs : List Value}, satTup c l vs → vs.length = l.length
  | [], vs, h => by simp only [satTup] at h; subst h; rfl
  | a :: l, vs, h => by
    simp only [satTup] at h
    obtain ⟨v, r, rfl, _, h⟩ := h
    simp [satTup_len h]

/-- A CONTRACT OUT OF THE BODY'S WALK -/
theorem VCall.enter {k : FuncId} {fn : Func} {c : Code} {args : List AV} {fo : List AObj} {R : AV → List (Option AObj) → Prop} (hf : P.funcs[k]? = some fn) (hb : fn.body = some c) (hn : args.length ≤ fn.ntmps) (hres : fn.results.size ≤ 4)
    (h : ∀ B : Base, B.nt = fn.ntmps → B.n0 = fo.length → AWp P B c ⟨envOf args, lo fo, fo.length⟩ (retQ G fn fo.length R)) : VCall P k args fo R := by
  intro w m L vals hin hargs
  refine calls_of_wp hf hb ?_
  have hlen := satTup_len hargs
  let B : Base := ⟨w, fX m (lo fo), m, L, fo.length, fn.ntmps⟩
  have hrep : Rep B (fun x => fo.length ≤ x) ⟨envOf args, lo fo, fo.length⟩ m L { tmps := vals.toArray ++ Array.replicate (fn.ntmps - vals.toArray.size) undef, defers := [] } w := by
    refine ⟨by simp [B, hlen]; omega, rfl, fun t => ?_, hin.obj, hin.inj, fun x hx => ⟨hin.mf x hx, by simp [lo, hx]⟩, hin.mb, Ev.refl _ _, fun nm o b h1 h2 => .inl ⟨nm, o, h1, h2⟩, fun p _ => ⟨rfl, rfl⟩, fun p hp hx => by simp only [B] at hp; omega⟩
    simp only [envOf]
    cases ha : args[t]? with
    | none => rw [List.getD_eq_getElem?_getD, ha]; simp only [Option.getD_none, sat]
    | some av =>
      obtain ⟨y, hy, hs⟩ := satTup_get hargs ha
      rw [List.getD_eq_getElem?_getD, ha]
      have ht := (List.getElem?_eq_some_iff.1 hy).1
      have : (vals.toArray ++ Array.replicate (fn.ntmps - vals.toArray.size) undef).getD t undef = y := by
        rw [Array.getD_eq_getD_getElem?, Array.getElem?_append_left (by simpa using ht)]
        simp [hy]
      simp only [Option.getD_some]
      rw [this]; exact hs
  refine Code.wp_mono (fun e a' w' ⟨st', m', L', hq, hr⟩ => ?_) (h B rfl rfl m L _ w hrep)
  have post : (∃ avs av' fo' σ, resList G st' fn.results.toList = some avs ∧ RetV fo.length st' (tupOf avs) R av' fo' σ) →
      a'.defers = [] ∧ ∃ v, (results fn a'.tmps).run P w' = .ok v w' ∧ (∃ y av fo' m' L', Ending.returned v = .returned y ∧ R av fo' ∧ CallOut w w' m m' L L' fo fo' ∧ sat ⟨w', fun _ => True, m', L'⟩ av y) := by
    rintro ⟨avs, av', fo', σ, hres', hv⟩
    obtain ⟨y, hy, hrun⟩ := results_sound hr fn hres' hres
    refine ⟨hr.df, y, hrun, y, av', fo', fun p => (σ p).bind m', virtL (lo' fo') L' σ, rfl, hv.r, ?_, ?_⟩
    all_goals have H : View (st'.ctx m' L' w') ⟨w', fun _ => True, fun p => (σ p).bind m', virtL (lo' fo') L' σ⟩ st'.objs false σ :=
      ⟨rfl, fun h => (by cases h), fun p nm b h1 h2 => (by simp only [h1, virtL_some h1]; exact ⟨h2, rfl⟩), fun h => (by cases h), fun h => (by cases h)⟩
    · refine ⟨hr.ev, hv.len, fun p hp => ?_, fun p o' ho' => ?_, fun p q o1 o2 b h1 h2 h3 h4 => ?_, fun p hp => ?_, fun p b hb => ?_, fun p o' b h1 h2 => ?_⟩
      · simp only [hv.base p hp, Option.bind_some, virtL_some (hv.base p hp)]; exact hr.base p hp
      · rcases hv.objs p o' ho' with ⟨nm, o, g1, g2, g3, g4, g5⟩ | ⟨g1, g2, g3⟩
        case inr =>
          cases hk : o'.k with
          | none => exact absurd hk g3
          | some k => exact .inl ⟨by simp [g1], g2, k, hk, virtL_none g1 ho' hk⟩
        refine objOK_view H (fun p nm h1 h2 => by simp only [h1, virtL_some h1]; exact ⟨h2, rfl⟩) g1 g3 g4 g5 (hr.obj nm o g2)
      · rcases hv.objs p o1 h1 with ⟨nm, o, g1, g2, _⟩ | ⟨g1, _⟩
        case inr => simp [g1] at h3
        rcases hv.objs q o2 h2 with ⟨nm', o', g1', g2', _⟩ | ⟨g1', _⟩
        case inr => simp [g1'] at h4
        simp only [g1, g1', Option.bind_some] at h3 h4
        have := hr.inj nm nm' o o' b g2 g2' h3 h4
        subst this
        exact hv.inj p q nm g1 g1'
      · cases hs : σ p with
        | none => rfl
        | some nm => have := hv.only p nm hs; omega
      · cases hs : σ p with
        | none => simp [hs] at hb
        | some nm => simp only [hs, Option.bind_some] at hb; exact hr.mb nm b hb
      · rcases hv.objs p o' h1 with ⟨nm, o, g1, g2, _⟩ | ⟨g1, _⟩
        · simp only [g1, Option.bind_some] at h2
          exact hr.fr nm o b g2 h2
        · simp [g1] at h2
    · exact vw_sound H _ _ _ hv.av hy
  cases e with
  | normal => exact post hq
  | ret => exact post hq
  | _ => exact hq.elim
end
end Go.Av
