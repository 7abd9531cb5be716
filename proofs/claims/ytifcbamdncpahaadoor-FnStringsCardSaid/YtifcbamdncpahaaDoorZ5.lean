/- How a typed evaluator tells the code of a function: definitions and soundness, part 5. -/
import Derived.Test.YtifcbamdncpahaaDoorZ4
set_option linter.unusedVariables false
set_option linter.unusedSimpArgs false
namespace Go.Tv
set_option linter.unusedSectionVars false
open Go Go.RowKit
def callX (objs : Nat → Option TObj) (m : Nat → Option Nat) : Nat → Prop := fun b => ∃ p o, objs p = some o ∧ m p = some b
structure CallIn [Inv] (w : World) (Y : Nat → Prop) (m : Nat → Option Nat) (L : Nat → Option (Nat × Nat)) (objs : Nat → Option TObj) (n : Nat) : Prop where
  obj : ∀ p o, objs p = some o → objOK ⟨w, callX objs m, Y, m, L⟩ p o
  inj : ∀ p q o o' b, objs p = some o → objs q = some o' → m p = some b → m q = some b → p = q
  mf : ∀ p, n ≤ p → m p = none ∧ L p = none ∧ objs p = none
  mb : ∀ p b, m p = some b → b < w.heap.size
  yb : ∀ p o b, objs p = some o → m p = some b → ¬ Y b
  hY : ∀ b, Y b → b < w.heap.size
  inv : Inv.holds w ∧ ∀ b, Inv.blk b → b < w.heap.size ∧ ¬ callX objs m b
structure CallOut (w w' : World) (Y : Nat → Prop) (m m' : Nat → Option Nat) (L L' : Nat → Option (Nat × Nat)) (n n' : Nat) (objs objs' : Nat → Option TObj) : Prop where
  ev : Ev (callX objs m) w w'
  len : n ≤ n'
  keep : ∀ p, p < n → m' p = m p ∧ L' p = L p
  obj : ∀ p o, objs' p = some o → objOK ⟨w', callX objs' m', Y, m', L'⟩ p o
  inj : ∀ p q o o' b, objs' p = some o → objs' q = some o' → m' p = some b → m' q = some b → p = q
  mf : ∀ p, n' ≤ p → m' p = none ∧ L' p = none ∧ objs' p = none
  mb : ∀ p b, m' p = some b → b < w'.heap.size
  fr : ∀ p o b, objs' p = some o → m' p = some b → callX objs m b ∨ w.heap.size ≤ b
  yb : ∀ p o b, objs' p = some o → m' p = some b → ¬ Y b
def RSh.decR (s : RSh) (x : TupT s.tys) : TV × (Nat → Option TObj) := match decV id true s.ret (untup s.tys x) with
  | (v, d) => (v, nthO (decOs id true s.objs d))
def CallOK [Inv] (P : Program) (k : FuncId) (ish : CSh) (osh : RSh) (x : TupT ish.tys) (r : TupT osh.tys) : Prop :=
  ∀ (w : World) (Y : Nat → Prop) (m : Nat → Option Nat) (L : Nat → Option (Nat × Nat)) (vals : List Value), CallIn w Y m L (ish.dec x).objs ish.objs.length → vals.length = ish.args.length →
    (∀ i, i < vals.length → sat ⟨w, callX (ish.dec x).objs m, Y, m, L⟩ ((ish.dec x).env i) (vals.getD i undef)) →
    Calls P k vals.toArray w fun e w' => ∃ y m' L', e = .returned y ∧ CallOut w w' Y m m' L L' ish.objs.length osh.objs.length (ish.dec x).objs (osh.decR r).2 ∧ sat ⟨w', callX (osh.decR r).2 m', Y, m', L'⟩ (osh.decR r).1 y
def EntOK [Inv] (P : Program) (E : Ent) : Prop := ∀ x r, E.f x = some r → CallOK P E.k E.ish E.osh x r
section
variable [Inv] {B : Base} {F : Nat → Prop} {st : St} {m : Nat → Option Nat} {L : Nat → Option (Nat × Nat)} {a : Act} {w : World}
theorem Rep.ret (h : Rep B F st m L a w) {s : RSh} {v : TV} {y : Value} (hy : sat (st.ctx B m L w) v y) {r : TupT s.tys} (hm : s.mat B.n0 st v = some r) :
    ∃ m' L', B.n0 ≤ s.objs.length ∧ sat ⟨w, callX (s.decR r).2 m', B.Y, m', L'⟩ (s.decR r).1 y ∧ (∀ p, p < B.n0 → m' p = B.m0 p ∧ L' p = B.L0 p) ∧
      (∀ p o, (s.decR r).2 p = some o → objOK ⟨w, callX (s.decR r).2 m', B.Y, m', L'⟩ p o) ∧
      (∀ p q o o' b, (s.decR r).2 p = some o → (s.decR r).2 q = some o' → m' p = some b → m' q = some b → p = q) ∧ (∀ p, s.objs.length ≤ p → m' p = none ∧ L' p = none ∧ (s.decR r).2 p = none) ∧ (∀ p b, m' p = some b → b < w.heap.size) ∧
      ∀ p o b, (s.decR r).2 p = some o → m' p = some b → (B.X0 b ∨ B.w0.heap.size ≤ b) ∧ ¬ B.Y b := by
  unfold RSh.mat at hm
  split at hm
  case h_2 => cases hm
  case h_1 d ms1 hmE =>
    split at hm
    case h_2 => cases hm
    case h_1 d' ms2 hmO =>
      split at hm
      case h_2 => cases hm
      case h_1 hok =>
        have hok := ok_spec hok
        have hu := mktup_untup _ _ _ hm
        have hob := h.obj
        have facts : ∀ {X' Y' : Nat → Prop} (ob' : Nat → Option TObj), View (st.ctx B m L w) ⟨w, X', Y', viewM ms2.σ m B.n0, viewL ms2.σ ms2.tr L B.n0 ob'⟩ ms2 false →
            Ext st.objs ⟨idN B.n0 0 s.objs, [], [], true, []⟩ ms2 ∧ TrOK (st.ctx B m L w) ms2 ∧ ∃ v', decV id true s.ret (d ++ d') = (v', d') ∧ (∀ y, sat (st.ctx B m L w) v y → sat ⟨w, X', Y', viewM ms2.σ m B.n0, viewL ms2.σ ms2.tr L B.n0 ob'⟩ v' y) ∧
              ∀ i, ObjTold (st.ctx B m L w) ⟨w, X', Y', viewM ms2.σ m B.n0, viewL ms2.σ ms2.tr L B.n0 ob'⟩ st.objs ms2 i (nthO (decOs id true s.objs d') i) := by
          intro X' Y' ob' V
          obtain ⟨e1, _⟩ := matV_sound hob V s.ret v _ ms1 d d' hmE
          obtain ⟨e2, t2, f2⟩ := matOs_sound hob V s.objs 0 ms1 ms2 d' [] hmO
          have ht0 : TrOK (st.ctx B m L w) ⟨idN B.n0 0 s.objs, [], [], true, []⟩ := fun nm len hl => by simp [look] at hl
          have ht := t2 (mat_tr hmE hy ht0)
          obtain ⟨v', hv', hs⟩ := mat_sat hob V s.ret v _ ms1 d d' hmE e2
          refine ⟨e1.trans e2, ht, v', hv', hs, fun i => ?_⟩
          have := f2 (.refl _) ht i
          rwa [Nat.zero_add, List.append_nil] at this
        have hdummyX : ∀ b, (fun _ : Nat => False) b → ∃ p nm o, look ms2.σ p = some (some nm) ∧ st.objs nm = some o ∧ m nm = some b := fun b hb => hb.elim
        have hlive : ∀ q, (q ∈ ms2.froz ∨ q ∈ ms2.lent) → ∃ o, st.objs q = some o := by
          have V0 : View (st.ctx B m L w) ⟨w, fun _ => False, fun _ => False, viewM ms2.σ m B.n0, viewL ms2.σ ms2.tr L B.n0 (fun _ => none)⟩ ⟨ms2.σ, [], [], ms2.kf, ms2.tr⟩ false :=
            mkView h (ms := ⟨ms2.σ, [], [], ms2.kf, ms2.tr⟩) (n0 := B.n0) (n := s.objs.length) ⟨(fun q hq => nomatch hq), (fun q hq => nomatch hq), hok.le, hok.ids⟩ (fun q hq => by rcases hq with hq | hq <;> cases hq) hdummyX (fun _ h => h.elim) _
          obtain ⟨e1, _⟩ := matV_sound hob V0 s.ret v _ ms1 d d' hmE
          obtain ⟨e2, _, _⟩ := matOs_sound hob V0 s.objs 0 ms1 ms2 d' [] hmO
          intro q hq
          rcases (e1.trans e2).live q hq with hq | hq
          · rcases hq with hq | hq <;> cases hq
          · exact hq
        have V0 := mkView h hok hlive hdummyX (Y' := fun _ => False) (fun _ h => h.elim) (fun _ => none)
        obtain ⟨hE, hT, v0, hv0, _, hO0⟩ := facts _ V0
        have hinj := hE.inj (fun p q n hp hq => by have h1 := idN_spec hp; have h2 := idN_spec hq; injection h1 with h1; injection h2 with h2; rw [← h1, h2])
        have hdec : s.decR r = (v0, nthO (decOs id true s.objs d')) := by
          unfold RSh.decR
          rw [hu, hv0]
        have hst : ∀ q o', nthO (decOs id true s.objs d') q = some o' → (∃ nm o, look ms2.σ q = some (some nm) ∧ st.objs nm = some o) ∨ look ms2.σ q = some none := by
          intro q o' ho'
          have := hO0 q
          rw [ho'] at this
          rcases this with ⟨nm, o, g1, g2, _⟩ | ⟨g1, _⟩
          · exact .inl ⟨nm, o, g1, g2⟩
          · exact .inr g1
        rw [hdec]
        generalize hobjs : nthO (decOs id true s.objs d') = objs' at *
        have hX : ∀ b, callX objs' (viewM ms2.σ m B.n0) b → ∃ p nm o, look ms2.σ p = some (some nm) ∧ st.objs nm = some o ∧ m nm = some b := by
          rintro b ⟨p, o', h1, h2⟩
          rcases hst p o' h1 with ⟨nm, o, g1, g2⟩ | g1
          · rw [viewM_some g1] at h2; exact ⟨p, nm, o, g1, g2, h2⟩
          · rw [viewM_virt g1] at h2; cases h2
        have V := mkView h hok hlive hX (Y' := B.Y) (fun _ h => h) objs'
        obtain ⟨_, _, v1, hv1, hS, hO⟩ := facts _ V
        rw [hv0] at hv1
        injection hv1 with hv1
        subst hv1
        refine ⟨viewM ms2.σ m B.n0, viewL ms2.σ ms2.tr L B.n0 objs', hok.le, hS y hy, fun p hp => ?_, fun p o' ho' => ?_, fun p q o1 o2 b h1 h2 h3 h4 => ?_, fun p hp => ?_, fun p b hb => ?_, fun p o' b h1 h2 => ?_⟩
        · have hb := h.base p hp
          cases hl : look ms2.σ p with
          | none => exact ⟨(viewM_base hl hp).trans hb.1, by simp only [viewL, hl, if_pos hp]; exact hb.2⟩
          | some y =>
            rcases (hok.ids p y hl).2 with h0 | ⟨rfl, ht⟩
            · omega
            · exact ⟨(viewM_some hl).trans hb.1, by simp only [viewL, hl, ht]; exact hb.2⟩
        · have := hO p
          simp only at ho'
          rw [ho'] at this
          rcases this with ⟨nm, o, g1, g2, g3⟩ | ⟨g1, ty, s', e, rfl⟩
          · exact g3
          · refine ⟨?_, .inl ⟨viewM_virt g1, rfl⟩⟩
            show viewL ms2.σ ms2.tr L B.n0 objs' p = some (e.size, 0)
            simp only [viewL, g1, ho']
        · rcases hst p o1 h1 with ⟨nm, o, g1, g2⟩ | g1
          case inr => rw [viewM_virt g1] at h3; cases h3
          rcases hst q o2 h2 with ⟨nm', o', g1', g2'⟩ | g1'
          case inr => rw [viewM_virt g1'] at h4; cases h4
          rw [viewM_some g1] at h3
          rw [viewM_some g1'] at h4
          have := h.inj nm nm' o o' b g2 g2' h3 h4
          subst this
          exact hinj p q nm g1 g1'
        · have hl : look ms2.σ p = none := by
            cases hl : look ms2.σ p with
            | none => rfl
            | some y => have := (hok.ids p y hl).1; omega
          have hnp : ¬ p < B.n0 := by have := hok.le; omega
          refine ⟨viewM_none hl hnp, by simp only [viewL, hl, if_neg hnp], ?_⟩
          show objs' p = none
          cases ho : objs' p with
          | none => rfl
          | some o' => rcases hst p o' ho with ⟨nm, o, g1, _⟩ | g1 <;> (rw [hl] at g1; cases g1)
        · cases hl : look ms2.σ p with
          | none =>
            by_cases hp : p < B.n0
            · rw [viewM_base hl hp] at hb; exact h.mb p b hb
            · rw [viewM_none hl hp] at hb; cases hb
          | some y =>
            cases y with
            | none => rw [viewM_virt hl] at hb; cases hb
            | some nm => rw [viewM_some hl] at hb; exact h.mb nm b hb
        · obtain ⟨p', nm, o, _, g2, g3⟩ := hX b ⟨p, o', h1, h2⟩
          exact ⟨h.fr nm o b g2 g3, h.yb nm o b g2 g3⟩
end
end Go.Tv
namespace Go.Tv
set_option linter.unusedSectionVars false
open Go Go.RowKit
section
variable {P : Program} {cx : Cx} (hG : TabOK P cx.G) [Inv] {B : Base} {F : Nat → Prop} {st : St} {m : Nat → Option Nat} {L : Nat → Option (Nat × Nat)} {a : Act} {w : World}
def resSem (a : Act) : ResultVar → Sem Value
  | .tmp t => pure (a.tmps.getD t undef)
  | .cell x t => do loadVar t (← asAddr (a.tmps.getD x undef))
include hG in
theorem resV_sound (h : Rep B F st m L a w) (r : ResultVar) {v : TV} (hr : resV cx st r = some v) : ∃ y, sat (st.ctx B m L w) v y ∧ (resSem a r).run P w = .ok y w := by
  cases r with
  | tmp t =>
    simp only [resV, Option.some.injEq] at hr; subst hr
    exact ⟨_, h.slots t, rfl⟩
  | cell x t =>
    simp only [resV] at hr
    split at hr
    case h_2 => cases hr
    case h_1 ck v' hl =>
      simp only [Option.some.injEq] at hr
      subst hr
      have hc : ck = true := by
        unfold ldT at hl
        repeat' (split at hl)
        all_goals first | (cases hl; done) | (simp only [Option.some.injEq, Prod.mk.injEq] at hl; exact hl.1.symm)
      subst hc
      obtain ⟨y, hy, hrun⟩ := ld_sound hG h.obj (h.slots x) hl
      refine ⟨y, hy, ?_⟩
      have hp : ∃ ad, a.tmps.getD x undef = .pointer (some ad) := by
        have hs := h.slots x
        unfold ldT at hl
        split at hl
        case h_1 nm p heq => rw [heq] at hs; obtain ⟨b, k, ln, _, hv, _⟩ := sat_ptr.1 hs; exact ⟨_, hv⟩
        case h_2 s t' x' heq => rw [heq] at hs; obtain ⟨b, off, us, hv, _⟩ := sat_rptr.1 hs; exact ⟨_, hv⟩
        case h_3 => cases hl
      obtain ⟨ad, had⟩ := hp
      simp only [resSem]
      rw [had] at hrun ⊢
      change (Instr.loadAt t (.pointer (some ad))).run P w = .ok y w at hrun
      simpa [asAddr, Instr.loadAt, Instr.sureAddr] using hrun
theorem results_eq (fn : Func) (a : Act) : results fn a.tmps = (do
    let vs ← fn.results.mapM (resSem a)
    pure (if h : vs.size = 1 then vs[0] else .tuple vs)) := by
  unfold results
  congr 2
theorem satV_of {c : Ctx} {v : TV} {y : Value} (ht : isTup v = false) (h : sat c v y) : satV c v y := by
  unfold sat at h; rw [ht] at h; exact h
include hG in
theorem results_sound (h : Rep B F st m L a w) (fn : Func) {v : TV} (hr : resL cx st fn.results.toList = some v) (hlen : fn.results.size ≤ 4) :
    ∃ y, sat (st.ctx B m L w) (tupOf v) y ∧ (results fn a.tmps).run P w = .ok y w := by
  obtain ⟨rs, hrs⟩ : ∃ rs, fn.results.toList = rs := ⟨_, rfl⟩
  have he : fn.results = rs.toArray := by rw [← hrs]
  have hsz : rs.length ≤ 4 := by rw [← hrs]; simpa using hlen
  rw [hrs] at hr
  have cons : ∀ {r : ResultVar} {l : List ResultVar} {v : TV}, resL cx st (r :: l) = some v → ∃ x xs, v = .tcons x xs ∧ resV cx st r = some x ∧ resL cx st l = some xs ∧ isTup x = false := by
    intro r l v hh
    simp only [resL] at hh
    split at hh
    case h_2 => cases hh
    case h_1 x xs h1 h2 =>
      split at hh
      case h_2 => cases hh
      case h_1 ht => simp only [Option.some.injEq] at hh; exact ⟨x, xs, hh.symm, h1, h2, ht⟩
  match rs, hsz with
  | [], _ =>
    simp only [resL, Option.some.injEq] at hr; subst hr
    exact ⟨.tuple #[], by simp only [tupOf, sat, isTup]; exact ⟨[], rfl, by simp only [satT]⟩, by simp [results, he]⟩
  | [r1], _ =>
    obtain ⟨x1, xs, rfl, h1, hr, _⟩ := cons hr
    simp only [resL, Option.some.injEq] at hr; subst hr
    obtain ⟨y1, s1, e1⟩ := resV_sound hG h r1 h1
    exact ⟨y1, s1, by rw [results_eq, he]; simp [e1]⟩
  | [r1, r2], _ =>
    obtain ⟨x1, xs, rfl, h1, hr, t1⟩ := cons hr
    obtain ⟨x2, xs, rfl, h2, hr, t2⟩ := cons hr
    simp only [resL, Option.some.injEq] at hr; subst hr
    obtain ⟨y1, s1, e1⟩ := resV_sound hG h r1 h1
    obtain ⟨y2, s2, e2⟩ := resV_sound hG h r2 h2
    refine ⟨.tuple #[y1, y2], by simp only [tupOf, sat, isTup]; exact ⟨[y1, y2], rfl, by simp only [satT]; exact ⟨_, _, rfl, satV_of t1 s1, _, _, rfl, satV_of t2 s2, rfl⟩⟩, ?_⟩
    rw [results_eq, he]; simp [e1, e2]
  | [r1, r2, r3], _ =>
    obtain ⟨x1, xs, rfl, h1, hr, t1⟩ := cons hr
    obtain ⟨x2, xs, rfl, h2, hr, t2⟩ := cons hr
    obtain ⟨x3, xs, rfl, h3, hr, t3⟩ := cons hr
    simp only [resL, Option.some.injEq] at hr; subst hr
    obtain ⟨y1, s1, e1⟩ := resV_sound hG h r1 h1
    obtain ⟨y2, s2, e2⟩ := resV_sound hG h r2 h2
    obtain ⟨y3, s3, e3⟩ := resV_sound hG h r3 h3
    refine ⟨.tuple #[y1, y2, y3], by simp only [tupOf, sat, isTup]; exact ⟨[y1, y2, y3], rfl, by simp only [satT]; exact ⟨_, _, rfl, satV_of t1 s1, _, _, rfl, satV_of t2 s2, _, _, rfl, satV_of t3 s3, rfl⟩⟩, ?_⟩
    rw [results_eq, he]; simp [e1, e2, e3]
  | [r1, r2, r3, r4], _ =>
    obtain ⟨x1, xs, rfl, h1, hr, t1⟩ := cons hr
    obtain ⟨x2, xs, rfl, h2, hr, t2⟩ := cons hr
    obtain ⟨x3, xs, rfl, h3, hr, t3⟩ := cons hr
    obtain ⟨x4, xs, rfl, h4, hr, t4⟩ := cons hr
    simp only [resL, Option.some.injEq] at hr; subst hr
    obtain ⟨y1, s1, e1⟩ := resV_sound hG h r1 h1
    obtain ⟨y2, s2, e2⟩ := resV_sound hG h r2 h2
    obtain ⟨y3, s3, e3⟩ := resV_sound hG h r3 h3
    obtain ⟨y4, s4, e4⟩ := resV_sound hG h r4 h4
    refine ⟨.tuple #[y1, y2, y3, y4], by simp only [tupOf, sat, isTup]; exact ⟨[y1, y2, y3, y4], rfl, by simp only [satT]; exact ⟨_, _, rfl, satV_of t1 s1, _, _, rfl, satV_of t2 s2, _, _, rfl, satV_of t3 s3, _, _, rfl, satV_of t4 s4, rfl⟩⟩, ?_⟩
    rw [results_eq, he]; simp [e1, e2, e3, e4]
theorem nthV_len : ∀ {l : List TV} {i : Nat}, l.length ≤ i → nthV l i = .any
  | [], i, _ => by cases i <;> rfl
  | a :: l, 0, h => by simp at h
  | a :: l, i + 1, h => nthV_len (l := l) (by simpa using h)
theorem decVs_len (ρ : Nat → Nat) (kf : Bool) : ∀ (l : List SV) (d : List DV), (decVs ρ kf l d).1.length = l.length
  | [], d => rfl
  | a :: l, d => by simp only [decVs, List.length_cons]; rw [decVs_len ρ kf l]
include hG in
theorem evF_sound {k : FuncId} {fn : Func} {ish : CSh} {osh : RSh} {x : TupT ish.tys} {r : TupT osh.tys} (hf : P.funcs[k]? = some fn) (hb : fn.body.isSome = true)
    (hreg : ∀ B : Base, B.n0 = ish.objs.length → RegOK P B cx) (h : evF cx fn ish osh x = some r) : CallOK P k ish osh x r := by
  unfold evF at h
  split at h
  case h_2 => cases h
  case h_1 c hc hH =>
   split at h
   case h_2 => cases h
   case h_1 htc =>
    simp only [Bool.and_eq_true] at hH
    obtain ⟨⟨hH, hn⟩, hres⟩ := hH
    have hn := Nat.le_of_ble_eq_true hn
    have hres := Nat.le_of_ble_eq_true hres
    intro w Y m L vals hin hlen hargs
    refine calls_of_wp hf hc ?_
    have hdl : (ish.dec x).nx = ish.objs.length := rfl
    let B : Base := ⟨w, callX (ish.dec x).objs m, Y, m, L, ish.objs.length, fn.ntmps, hin.hY, hin.inv⟩
    have hrep : Rep B (fun p => (ish.dec x).nx ≤ p) (ish.dec x) m L { tmps := vals.toArray ++ Array.replicate (fn.ntmps - vals.toArray.size) undef, defers := [] } w := by
      refine ⟨by simp [B, hlen]; omega, rfl, fun t => ?_, hin.obj, hin.inj, fun p hp => hin.mf p hp, hin.mb, Ev.refl _ _, fun nm o b h1 h2 => .inl ⟨nm, o, h1, h2⟩, fun nm o b h1 h2 => hin.yb nm o b h1 h2, fun p _ => ⟨rfl, rfl⟩, fun p hp hx => ?_⟩
      · by_cases ht : t < vals.length
        · have hs := hargs t ht
          have : (vals.toArray ++ Array.replicate (fn.ntmps - vals.toArray.size) undef).getD t undef = vals.getD t undef := by
            rw [Array.getD_eq_getD_getElem?, Array.getElem?_append_left (by simpa using ht)]
            simp
          rw [this]; exact hs
        · have : (ish.dec x).env t = .any := by
            unfold CSh.dec
            exact nthV_len (by rw [decVs_len]; omega)
          rw [this]; exact sat_any
      · rw [hdl] at hx; simp only [B] at hp; omega
    have hHs : ∀ i sh, look cx.H i = some sh → sh.n0 = B.n0 := fun i sh hl => Nat.eq_of_beq_eq_true (List.all_eq_true.1 hH _ (look_mem hl))
    have hwp := ev_sound (hreg B rfl) hHs c 0 (ish.dec x) _ htc h m L _ w hrep
    refine Code.wp_mono (fun e a' w' ⟨st', m', L', hq, hr⟩ => ?_) hwp
    have post : (∃ v, resL cx st' fn.results.toList = some v ∧ osh.mat ish.objs.length st' (tupOf v) = some r) →
        a'.defers = [] ∧ ∃ v, (results fn a'.tmps).run P w' = .ok v w' ∧ (∃ y m' L', Ending.returned v = .returned y ∧ CallOut w w' Y m m' L L' ish.objs.length osh.objs.length (ish.dec x).objs (osh.decR r).2 ∧ sat ⟨w', callX (osh.decR r).2 m', Y, m', L'⟩ (osh.decR r).1 y) := by
      rintro ⟨v, hv, hm⟩
      obtain ⟨y, hy, hrun⟩ := results_sound hG hr fn hv hres
      obtain ⟨m2, L2, g1, g2, g3, g4, g5, g6, g7, g8⟩ := hr.ret hy hm
      exact ⟨hr.df, y, hrun, y, m2, L2, rfl, ⟨hr.ev, g1, g3, g4, g5, g6, g7, fun p o b h1 h2 => (g8 p o b h1 h2).1, fun p o b h1 h2 => (g8 p o b h1 h2).2⟩, g2⟩
    have fin : ∀ st', (match resL cx st' fn.results.toList with
        | some v => shMat (osh.mat ish.objs.length st' (tupOf v)) (retT osh.tys)
        | none => nope 51) = some r → ∃ v, resL cx st' fn.results.toList = some v ∧ osh.mat ish.objs.length st' (tupOf v) = some r := by
      intro st' hq
      split at hq
      case h_2 => cases hq
      case h_1 v hv =>
        obtain ⟨s, hs, hk⟩ := shMat_some hq
        have : s = r := by
          have : some s = some r := hk
          injection this
        subst this
        exact ⟨v, hv, hs⟩
    cases e with
    | normal => exact post (fin st' hq)
    | ret => exact post (fin st' hq)
    | _ => cases hq
end
end Go.Tv
namespace Go.Tv
open Go Go.RowKit
set_option linter.unusedSectionVars false
variable [Inv]
def Stp (P : Program) (o : Oper) (n0 k : Nat) (e : Nat → TV) (ob : Nat → Option TObj) (d : Dlt) : Prop :=
  ∀ {B : Base} {F : Nat → Prop} {st : St} {m : Nat → Option Nat} {L : Nat → Option (Nat × Nat)} {a : Act} {w : World}, Rep B F st m L a w → (∀ x, n0 ≤ x → x < n0 + k → F x) →
    EvOK (st.ctx B m L w) e a → Sub ob st.objs → (∀ t, o.dst = some t → t < B.nt) → ∀ Q,
    o.wp P a w (fun a' w' => ∃ m' L', Rep B (fun x => F x ∧ ¬ (n0 ≤ x ∧ x < n0 + k)) (st.app d) m' L' a' w') Q
section
variable {P : Program} {cx : Cx} (hG : TabOK P cx.G)
include hG in
theorem Stp.pure {o : Oper} {e : Nat → TV} {ob : Nat → Option TObj} {v : TV} (n0 : Nat) (h : pv cx.G o.op e ob = some (true, v)) : Stp P o n0 0 e ob ⟨o.dst, v, []⟩ := by
  intro B F st m L a w hr _ he hs hd Q
  obtain ⟨y, hy, hrun⟩ := pv_sound hG (c := st.ctx B m L w) (fun n ob' ho => hr.obj n ob' (hs n ob' ho)) he o h
  have hrun : (execOp a.eval o).run P w = .ok (.value y) w := hrun
  unfold Oper.wp
  rw [hrun, Oper.upon_value]
  exact ⟨m, L, (hr.put hd hy).weakF fun x hx => hx.1⟩
include hG in
theorem Stp.new {o : Oper} {e : Nat → TV} {ob : Nat → Option TObj} {v : TV} {obj : TObj} {kills : List Nat} {n0 : Nat} (h : newT cx.G o.op e ob n0 = some (true, v, obj, kills)) : Stp P o n0 1 e ob ⟨o.dst, v, (n0, some obj) :: killsOf kills⟩ := by
  intro B F st m L a w hr hF he hs hd Q
  obtain ⟨y, w', m', L', hrun, hr', hy⟩ := new_sound hG hr he hs o (hF n0 (by omega) (by omega)) h
  unfold Oper.wp
  rw [hrun, Oper.upon_value]
  exact ⟨m', L', (hr'.put hd hy).weakF fun x hx => ⟨hx.1, fun hxx => hx.2 (by omega)⟩⟩
include hG in
theorem Stp.store {o : Oper} {e : Nat → TV} {ob : Nat → Option TObj} (n0 : Nat) {t : TypeId} {x v : Operand} (ho : o.op = .store t x v) {nm : Nat} {hb : Bool} {o' : TObj} {kills : List Nat} (h : stT cx.G t ob (evA e x) (evA e v) = some (nm, hb, o', kills)) :
    Stp P o n0 0 e ob ⟨o.dst, .any, (nm, some o') :: killsOf kills⟩ := by
  intro B F st m L a w hr _ he hs hd Q
  obtain ⟨w', hrun, hr'⟩ := st_sound hG hr hs (he x) (he v) h
  unfold Oper.wp execOp
  simp only [ho, Sem.run_bind, hrun, Sem.run_pure]
  exact ⟨m, L, (hr'.put hd (av := .any) (y := undef) sat_any).weakF fun x hx => hx.1⟩
include hG in
theorem Stp.append {o : Oper} {e : Nat → TV} {ob : Nat → Option TObj} {n0 : Nat} {t t2 : TypeId} {x y : Operand} (ho : o.op = .call ⟨.builtin .append, #[x, y], #[t, t2]⟩) {obj : TObj} {kills : List Nat} (h : appT cx.G t t2 ob (evA e x) (evA e y) = some (true, obj, kills)) :
    Stp P o n0 1 e ob ⟨o.dst, .own n0, (n0, some obj) :: killsOf kills⟩ := by
  intro B F st m L a w hr hF he hs hd Q
  obtain ⟨v, w', m', L', hrun, hr', hy⟩ := app_sound (ty := o.type) hG hr hs (he x) (he y) (hF n0 (by omega) (by omega)) h
  unfold Oper.wp execOp
  simp only [ho, resolve, invoke, builtin, Sem.run_bind, Sem.run_pure, List.map_toArray, List.map_cons, List.map_nil, Result.andThen, hrun]
  exact ⟨m', L', (hr'.put hd hy).weakF fun x hx => ⟨hx.1, fun hxx => hx.2 (by omega)⟩⟩
include hG in
theorem Stp.clear {o : Oper} {e : Nat → TV} {ob : Nat → Option TObj} (n0 : Nat) {t : TypeId} {x : Operand} (ho : o.op = .call ⟨.builtin .clear, #[x], #[t]⟩) {nm : Nat} {o' : TObj} (h : clT cx.G t ob (evA e x) = some (nm, o')) :
    Stp P o n0 0 e ob ⟨o.dst, .any, [(nm, some o')]⟩ := by
  intro B F st m L a w hr _ he hs hd Q
  obtain ⟨w', hrun, hr'⟩ := cl_sound (ty0 := o.type) hG hr hs (he x) h
  unfold Oper.wp execOp
  simp only [ho, resolve, invoke, builtin, Sem.run_bind, Sem.run_pure, List.map_toArray, List.map_cons, List.map_nil, Result.andThen, hrun]
  exact ⟨m, L, (hr'.put hd (av := .any) sat_any).weakF fun x hx => hx.1⟩
theorem ckD_some {R : Type} {c : Chk} {k : Opt R} {r : R} (h : ckD c k = some r) : c = true ∧ k = some r := by
  cases c with
  | true => exact ⟨rfl, h⟩
  | false => cases h
theorem emitT_eq {R : Type} (h : Bool) (v : TV) (K : TV → Opt R) : emitT h v K = K v := by
  unfold emitT
  split <;> rfl
theorem emitO_eq {R : Type} (h : Bool) (o : TObj) (K : TObj → Opt R) : emitO h o K = K o := by
  unfold emitO
  split <;> rfl
def CallsOK (P : Program) (cx : Cx) : Prop := ∀ (o : Oper) (f : Operand) (vs : Array Operand) (ts : Array TypeId) (e : Nat → TV) (ob : Nat → Option TObj) (nx : Nat) (R : Type) (K : Dlt → Nat → Opt R) (r : R), o.op = .call ⟨.value f, vs, ts⟩ →
  callD cx o.dst (evA e f) (vs.toList.map (evA e)) ob nx K = some r → ∃ d k, Stp P o nx k e ob d ∧ K d k = some r ∧ d.dst = o.dst
include hG in
theorem opD_sound (hcall : CallsOK P cx) {R : Type} {o : Oper} {e : Nat → TV} {ob : Nat → Option TObj} {nx : Nat} {K : Dlt → Nat → Opt R} {r : R} (h : opD cx o e ob nx K = some r) : ∃ d k, Stp P o nx k e ob d ∧ K d k = some r ∧ d.dst = o.dst := by
  unfold opD at h
  split at h
  case h_1 => cases h
  case h_2 =>
    split at h
    case h_1 c v hp =>
      obtain ⟨rfl, h⟩ := ckD_some h
      rw [emitT_eq] at h
      exact ⟨_, 0, Stp.pure hG nx hp, h, rfl⟩
    case h_2 =>
      split at h
      case h_1 c v obj kills hn =>
        obtain ⟨rfl, h⟩ := ckD_some h
        exact ⟨_, 1, Stp.new hG hn, h, rfl⟩
      case h_2 =>
        split at h
        case h_1 t x v ho =>
          split at h
          case h_2 => cases h
          case h_1 nm hb obj kills hs =>
            rw [emitO_eq] at h
            exact ⟨_, 0, Stp.store hG nx ho hs, h, rfl⟩
        case h_2 c ho =>
          obtain ⟨callee, args, argTypes⟩ := c
          simp only at h
          split at h
          case h_1 x y t t2 hx ht =>
            have e1 : args = #[x, y] := by rw [← Array.toList_inj]; exact hx
            have e2 : argTypes = #[t, t2] := by rw [← Array.toList_inj]; exact ht
            subst e1; subst e2
            split at h
            case h_2 => cases h
            case h_1 c obj kills ha =>
              obtain ⟨rfl, h⟩ := ckD_some h
              exact ⟨_, 1, Stp.append hG ho ha, h, rfl⟩
          case h_2 x t hx ht =>
            have e1 : args = #[x] := by rw [← Array.toList_inj]; exact hx
            have e2 : argTypes = #[t] := by rw [← Array.toList_inj]; exact ht
            subst e1; subst e2
            split at h
            case h_2 => cases h
            case h_1 nm obj hc => exact ⟨_, 0, Stp.clear hG nx ho hc, h, rfl⟩
          case h_3 f => exact hcall o f args argTypes e ob nx R K r ho h
          case h_4 => cases h
        case h_3 => cases h
end
end Go.Tv
namespace Go.Tv
open Go Go.RowKit
set_option linter.unusedSectionVars false
variable [Inv]
structure Ren (c c' : Ctx) (ρ : Nat → Nat) (kf : Bool) : Prop where
  w : c'.w = c.w
  m : ∀ p b, c.m p = some b → c'.m (ρ p) = some b
  L : ∀ p x, c.L p = some x → c'.L (ρ p) = some x
  ok : ∀ b, okB c true b → okB c' kf b
structure RenV (c c' : Ctx) (v v' : TV) : Prop where
  sat : ∀ vs, satC c v vs → satC c' v' vs
  size : sizeT v' = sizeT v
  agg : aggT v' = aggT v
  tup : isTup v' = isTup v
section
variable {c c' : Ctx} {ρ : Nat → Nat} {kf : Bool} (H : Ren c c' ρ kf)
theorem Ren.le (H : Ren c c' ρ kf) : Le c true c' kf := ⟨fun b hb => H.ok b hb, fun b o us _ hm => by rw [H.w]; exact hm⟩
theorem ownV_ren (H : Ren c c' ρ kf) {p off len : Nat} {y : Value} (h : ownV c p off len y) : ownV c' (ρ p) off len y := by
  rcases h with h | ⟨b, k, ln, cap, cur, ty, fr, hb, hL, rfl, g1, g2, g3, g4, g5⟩
  · exact .inl h
  · exact .inr ⟨b, k, ln, cap, cur, ty, fr, H.m p b hb, H.L p _ hL, rfl, g1, by rw [H.w]; exact g2, g3, g4, g5⟩
include H in
theorem decV_ren : ∀ (a : SV) (d : List DV), keptV a = true → (decV ρ kf a d).2 = (decV id true a d).2 ∧ RenV c c' (decV id true a d).1 (decV ρ kf a d).1 := by
  have anyR : RenV c c' .any .any := ⟨fun vs _ => by simp only [satC], rfl, rfl, rfl⟩
  intro a
  induction a with
  | any => intro d _; exact ⟨rfl, anyR⟩
  | nil => intro d _; exact ⟨rfl, ⟨fun vs h => by simp only [decV, satC] at h ⊢; exact h, rfl, rfl, rfl⟩⟩
  | data keep t =>
    intro d hk
    simp only [keptV] at hk
    subst hk
    cases d with
    | nil => exact ⟨rfl, anyR⟩
    | cons x d =>
      refine ⟨rfl, ⟨fun vs h => ?_, rfl, rfl, rfl⟩⟩
      simp only [decV, Bool.and_true] at h
      simp only [mkv, satC] at h
      simp only [decV, Bool.true_and]
      exact satC_mkv (VS_le H.le (VS_of_or h))
  | fl keep e =>
    intro d hk
    simp only [keptV] at hk
    subst hk
    cases d with
    | nil => exact ⟨rfl, anyR⟩
    | cons x d =>
      obtain ⟨t, x⟩ := x
      cases t with
      | sl e' =>
        refine ⟨rfl, ⟨fun vs h => ?_, rfl, rfl, rfl⟩⟩
        simp only [decV, Bool.and_true, Bool.true_and, satC] at h ⊢
        obtain ⟨a, rfl, h1, h2⟩ := h
        exact ⟨a, rfl, h1, slM_le H.le (fun _ _ _ h => VS_le H.le h) h2⟩
      | _ => exact ⟨rfl, anyR⟩
  | rptr keep t =>
    intro d hk
    simp only [keptV] at hk
    subst hk
    cases d with
    | nil => exact ⟨rfl, anyR⟩
    | cons x d =>
      refine ⟨rfl, ⟨fun vs h => ?_, rfl, rfl, rfl⟩⟩
      simp only [decV, Bool.and_true, Bool.true_and, satC] at h ⊢
      obtain ⟨b, off, us, rfl, h1, h2, h3⟩ := h
      exact ⟨b, off, us, rfl, H.ok b h1, VS_le H.le h2, by rw [H.w]; exact h3⟩
  | own p =>
    intro d _
    refine ⟨rfl, ⟨fun vs h => ?_, rfl, rfl, rfl⟩⟩
    simp only [decV, satC, id] at h ⊢
    obtain ⟨y, k, ln, rfl, h1, h2⟩ := h
    exact ⟨y, k, ln, rfl, H.L p _ h1, ownV_ren H h2⟩
  | ownp p =>
    intro d _
    match d with
    | ⟨.int k, x⟩ :: ⟨.int k', y⟩ :: d =>
      refine ⟨rfl, ⟨fun vs h => ?_, rfl, rfl, rfl⟩⟩
      simp only [decV, satC, id] at h ⊢
      obtain ⟨y, rfl, h2⟩ := h
      exact ⟨y, rfl, ownV_ren H h2⟩
    | [] => exact ⟨rfl, anyR⟩
    | [⟨.int _, _⟩] => exact ⟨rfl, anyR⟩
    | [⟨.bool, _⟩] | [⟨.str, _⟩] | [⟨.arr _ _, _⟩] | [⟨.pair _ _, _⟩] | [⟨.sl _, _⟩] => exact ⟨rfl, anyR⟩
    | ⟨.bool, _⟩ :: _ :: _ | ⟨.str, _⟩ :: _ :: _ | ⟨.arr _ _, _⟩ :: _ :: _ | ⟨.pair _ _, _⟩ :: _ :: _ | ⟨.sl _, _⟩ :: _ :: _ => exact ⟨rfl, anyR⟩
    | ⟨.int _, _⟩ :: ⟨.bool, _⟩ :: _ | ⟨.int _, _⟩ :: ⟨.str, _⟩ :: _ | ⟨.int _, _⟩ :: ⟨.arr _ _, _⟩ :: _ | ⟨.int _, _⟩ :: ⟨.pair _ _, _⟩ :: _ | ⟨.int _, _⟩ :: ⟨.sl _, _⟩ :: _ => exact ⟨rfl, anyR⟩
  | ptr p q =>
    intro d _
    refine ⟨rfl, ⟨fun vs h => ?_, rfl, rfl, rfl⟩⟩
    simp only [decV, satC, id] at h ⊢
    obtain ⟨b, k, ln, h1, rfl, h2, h3⟩ := h
    exact ⟨b, k, ln, H.m p b h1, rfl, H.L p _ h2, h3⟩
  | pr a b iha ihb =>
    intro d hk
    simp only [keptV, Bool.and_eq_true] at hk
    obtain ⟨e1, r1⟩ := iha d hk.1
    obtain ⟨e2, r2⟩ := ihb (decV id true a d).2 hk.2
    refine ⟨by simp only [decV, e1, e2], ?_⟩
    simp only [decV, e1]
    refine ⟨fun vs h => ?_, by simp only [sizeT, r1.size, r2.size], rfl, rfl⟩
    simp only [satC] at h ⊢
    obtain ⟨v, r, rfl, h1, h2, h3, h4⟩ := h
    exact ⟨v, r, rfl, by rw [r1.size]; exact h1, by rw [r2.size]; exact h2, r1.sat v h3, r2.sat r h4⟩
  | tnil => intro d _; exact ⟨rfl, ⟨fun vs h => by simp only [decV, satC] at h ⊢; exact h, rfl, rfl, rfl⟩⟩
  | tcons a b iha ihb =>
    intro d hk
    simp only [keptV, Bool.and_eq_true] at hk
    obtain ⟨e1, r1⟩ := iha d hk.1
    obtain ⟨e2, r2⟩ := ihb (decV id true a d).2 hk.2
    refine ⟨by simp only [decV, e1, e2], ?_⟩
    simp only [decV, e1]
    refine ⟨fun vs h => ?_, rfl, rfl, rfl⟩
    simp only [satC] at h ⊢
    obtain ⟨v, r, rfl, h1, h2, h3⟩ := h
    exact ⟨v, r, rfl, h1, r1.sat _ h2, r2.sat r h3⟩
  | clo f b ih =>
    intro d hk
    simp only [keptV] at hk
    obtain ⟨e1, r1⟩ := ih d hk
    refine ⟨by simp only [decV, e1], ?_⟩
    simp only [decV]
    refine ⟨fun vs h => ?_, rfl, rfl, rfl⟩
    simp only [satC] at h ⊢
    obtain ⟨us, rfl, h⟩ := h
    exact ⟨us, rfl, r1.sat us h⟩
theorem RenV.satV {v v' : TV} (h : RenV c c' v v') {y : Value} (hs : satV c v y) : Tv.satV c' v' y := by
  unfold Tv.satV at hs ⊢
  rw [h.agg]
  cases ha : aggT v with
  | true => rw [ha] at hs; obtain ⟨vs, rfl, hs⟩ := hs; exact ⟨vs, rfl, h.sat vs hs⟩
  | false => rw [ha] at hs; exact h.sat _ hs
end
end Go.Tv
namespace Go.Tv
open Go Go.RowKit
set_option linter.unusedSectionVars false
variable [Inv]
section
variable {c c' : Ctx} {ρ : Nat → Nat} {kf : Bool} (H : Ren c c' ρ kf)
include H in
theorem decT_ren : ∀ (a : SV) (d : List DV) (vs : List Value), keptV a = true → satT c (decV id true a d).1 vs → satT c' (decV ρ kf a d).1 vs := by
  intro a
  induction a with
  | tcons a b iha ihb =>
    intro d vs hk h
    simp only [keptV, Bool.and_eq_true] at hk
    obtain ⟨e1, r1⟩ := decV_ren H a d hk.1
    simp only [decV, e1]
    simp only [decV, satT] at h
    obtain ⟨v, r, rfl, h1, h2⟩ := h
    simp only [satT]
    exact ⟨v, r, rfl, r1.satV h1, ihb _ r hk.2 h2⟩
  | tnil => intro d vs _ h; simp only [decV, satT] at h ⊢; exact h
  | any => intro d vs _ h; simp [decV, satT] at h
  | nil => intro d vs _ h; simp [decV, satT] at h
  | data keep t => intro d vs _ h; cases d <;> simp [decV, satT, mkv] at h
  | fl keep e =>
    intro d vs _ h
    cases d with
    | nil => simp [decV, satT] at h
    | cons x d => obtain ⟨t, x⟩ := x; cases t <;> simp [decV, satT] at h
  | rptr keep e => intro d vs _ h; cases d <;> simp [decV, satT] at h
  | own p => intro d vs _ h; simp [decV, satT] at h
  | ownp p =>
    intro d vs _ h
    have : isTup (decV id true (.ownp p) d).1 = false := by
      simp only [decV]
      split <;> rfl
    cases hq : (decV id true (.ownp p) d).1 <;> rw [hq] at h this <;> first | (cases this; done) | (simp [satT] at h)
  | ptr p q => intro d vs _ h; simp [decV, satT] at h
  | pr a b => intro d vs _ h; simp [decV, satT] at h
  | clo f b => intro d vs _ h; simp [decV, satT] at h
include H in
theorem dec_ren (a : SV) (d : List DV) (hk : keptV a = true) {y : Value} (h : sat c (decV id true a d).1 y) : sat c' (decV ρ kf a d).1 y := by
  obtain ⟨_, r⟩ := decV_ren H a d hk
  unfold sat at h ⊢
  rw [r.tup]
  cases ht : isTup (decV id true a d).1 with
  | true => rw [ht] at h; obtain ⟨vs, rfl, h⟩ := h; exact ⟨vs, rfl, decT_ren H a d vs hk h⟩
  | false => rw [ht] at h; exact r.satV h
include H in
theorem decO_ren (hv : ∀ p x, c.L p = some x → c.m p = none → c'.m (ρ p) = none) (a : SO) (d : List DV) (hk : keptO a = true) : (decO ρ kf a d).2 = (decO id true a d).2 ∧
    match (decO id true a d).1, (decO ρ kf a d).1 with
    | none, none => True
    | some o, some o' => ∀ p, objOK c p o → objOK c' (ρ p) o'
    | _, _ => False := by
  cases a with
  | gone => exact ⟨rfl, trivial⟩
  | var ty s =>
    obtain ⟨e1, r⟩ := decV_ren H s d hk
    refine ⟨by simp only [decO, e1], ?_⟩
    simp only [decO]
    rintro p ⟨h0, b, cur, fr, h1, h2, h3, h4, h5⟩
    exact ⟨H.L p _ h0, b, cur, fr, H.m p b h1, by rw [H.w]; exact h2, h3, r.sat _ h4, by rw [r.size]; exact h5⟩
  | rows ty keep e =>
    simp only [keptO] at hk
    subst hk
    cases d with
    | nil => exact ⟨rfl, trivial⟩
    | cons x d =>
      obtain ⟨t, x⟩ := x
      cases t with
      | sl e' =>
        refine ⟨rfl, ?_⟩
        simp only [decO, Bool.and_true, Bool.true_and, Bool.true_or]
        rintro p ⟨h0, h⟩
        refine ⟨H.L p _ h0, ?_⟩
        rcases h with ⟨h1, h2⟩ | ⟨b, cur, fr, cap, us, rest, h1, h2, h3, h4, h5, h6, h7, h8⟩
        · exact .inl ⟨hv p _ h0 h1, h2⟩
        · exact .inr ⟨b, cur, fr, cap, us, rest, H.m p b h1, by rw [H.w]; exact h2, h3, h4, h5, h6, h7, rowsS_mono (fun _ _ _ h => VS_or (VS_le H.le h)) h8⟩
      | _ => exact ⟨rfl, trivial⟩
include H in
theorem decOs_ren (hv : ∀ p x, c.L p = some x → c.m p = none → c'.m (ρ p) = none) : ∀ (l : List SO) (d : List DV) (i : Nat), l.all keptO = true → match nthO (decOs id true l d) i, nthO (decOs ρ kf l d) i with
    | none, none => True
    | some o, some o' => ∀ p, objOK c p o → objOK c' (ρ p) o'
    | _, _ => False
  | [], d, i, _ => by simp only [decOs, nthO]
  | a :: l, d, 0, hk => by
    simp only [List.all_cons, Bool.and_eq_true] at hk
    have := (decO_ren H hv a d hk.1).2
    simp only [decOs, nthO]
    exact this
  | a :: l, d, i + 1, hk => by
    simp only [List.all_cons, Bool.and_eq_true] at hk
    have e1 := (decO_ren H hv a d hk.1).1
    have := decOs_ren hv l (decO id true a d).2 i hk.2
    simp only [decOs, nthO, e1]
    exact this
end
end Go.Tv
namespace Go.Tv
open Go Go.RowKit
set_option linter.unusedSectionVars false
variable [Inv]
theorem selOf_spec : ∀ {n : Nat} {σ : List (Nat × Option Nat)} {p : Nat} {l : List Nat}, selOf n σ p = some l → l.length = n ∧ ∀ i nm, l[i]? = some nm → look σ (p + i) = some (some nm)
  | 0, σ, p, l, h => by simp only [selOf, Option.some.injEq] at h; subst h; exact ⟨rfl, fun i nm hi => by simp at hi⟩
  | n + 1, σ, p, l, h => by
    simp only [selOf] at h
    split at h
    case h_2 => cases h
    case h_1 nm l' hl hs =>
      simp only [Option.some.injEq] at h
      subst h
      obtain ⟨h1, h2⟩ := selOf_spec hs
      refine ⟨by simp [h1], fun i nm' hi => ?_⟩
      cases i with
      | zero => simp only [List.getElem?_cons_zero, Option.some.injEq] at hi; subst hi; exact hl
      | succ i =>
        have := h2 i nm' (by simpa using hi)
        rw [show p + (i + 1) = p + 1 + i by omega]; exact this
theorem selB_spec {ob : Nat → Option TObj} : ∀ {l : List Nat}, selB ob l = true → ∀ nm, nm ∈ l → ∃ o, ob nm = some o
  | [], _, nm, h => by simp at h
  | n :: l, hb, nm, h => by
    simp only [selB] at hb
    split at hb
    case h_2 => cases hb
    case h_1 o ho =>
      rcases List.mem_cons.1 h with rfl | h
      · exact ⟨o, ho⟩
      · exact selB_spec hb nm h
structure FoundOK (ob : Nat → Option TObj) (k : FuncId) (args : List TV) (T : List Ent) (f : Found) : Prop where
  mem : f.E ∈ T
  k : f.E.k = k
  kept : f.E.osh.kept = true
  live : ∀ nm, nm ∈ f.sel → ∃ o, ob nm = some o
  mat : ∃ d d' ms1 ms, matVs ob true f.E.ish.args args ⟨[], [], [], true, []⟩ = some (d, ms1) ∧ matOs ob true 0 f.E.ish.objs ms1 = some (d', ms) ∧ OkSpec 0 f.E.ish.objs.length ms ∧ ms.tr = [] ∧
    f.sel.length = f.E.ish.objs.length ∧ (∀ i nm, f.sel[i]? = some nm → look ms.σ i = some (some nm)) ∧ untup f.E.ish.tys f.x = d ++ d' ∧ f.froz = ms.froz ∧ f.kf = ms.kf
theorem findE_spec {ob : Nat → Option TObj} {k : FuncId} {args : List TV} : ∀ {T : List Ent} {f : Found}, findE ob k args T = some f → FoundOK ob k args T f
  | [], f, h => by cases h
  | E :: T, f, h => by
    have step : ∀ {f : Found}, FoundOK ob k args T f → FoundOK ob k args (E :: T) f := fun h => ⟨List.mem_cons_of_mem _ h.mem, h.k, h.kept, h.live, h.mat⟩
    simp only [findE] at h
    split at h
    case h_1 => exact step (findE_spec h)
    case h_2 hk =>
      split at h
      case h_1 => exact step (findE_spec h)
      case h_2 d ms1 h1 =>
        split at h
        case h_1 => exact step (findE_spec h)
        case h_2 d' ms h2 =>
          split at h
          case h_2 => exact step (findE_spec h)
          case h_1 sel x hok hsel hx =>
           split at h
           case h_2 => exact step (findE_spec h)
           case h_1 hsb =>
            simp only [Option.some.injEq] at h
            subst h
            obtain ⟨g1, g2⟩ := selOf_spec hsel
            rw [Bool.and_eq_true, Bool.and_eq_true] at hok
            have htr : ms.tr = [] := by
              cases hq : ms.tr with
              | nil => rfl
              | cons _ _ => rw [hq] at hok; cases hok.1.2
            have hkept := hok.2
            have hok := hok.1.1
            exact ⟨by simp, Nat.eq_of_beq_eq_true hk, hkept, selB_spec hsb, d, d', ms1, ms, h1, h2, ok_spec hok, htr, g1, fun i nm hi => by have := g2 i nm hi; rwa [Nat.zero_add] at this, mktup_untup _ _ _ hx, rfl, rfl⟩
theorem nthN_sel : ∀ {l : List Nat} {i d nm : Nat}, l[i]? = some nm → nthN l i d = nm
  | a :: l, 0, d, nm, h => by simp only [List.getElem?_cons_zero, Option.some.injEq] at h; exact h
  | a :: l, i + 1, d, nm, h => by simp only [List.getElem?_cons_succ] at h; exact nthN_sel (l := l) h
  | [], i, d, nm, h => by simp at h
theorem nthN_new : ∀ {l : List Nat} {i d : Nat}, l.length ≤ i → nthN l i d = d + (i - l.length)
  | [], i, d, _ => by cases i <;> simp [nthN]
  | a :: l, 0, d, h => by simp at h
  | a :: l, i + 1, d, h => by
    simp only [nthN, List.length_cons]
    rw [nthN_new (by simpa using h)]
    congr 1; omega
theorem callView {B : Base} {F : Nat → Prop} {st : St} {m : Nat → Option Nat} {L : Nat → Option (Nat × Nat)} {a : Act} {w : World} (h : Rep B F st m L a w) {ob : Nat → Option TObj} (hs : Sub ob st.objs) {ms : MS} {n : Nat} (hok : OkSpec 0 n ms)
    (hlive : ∀ q, (q ∈ ms.froz ∨ q ∈ ms.lent) → ∃ o, ob q = some o) {X' Y' : Nat → Prop} (hX : ∀ b, X' b → ∃ p nm o, look ms.σ p = some (some nm) ∧ ob nm = some o ∧ m nm = some b)
    (hY : ∀ b, Y' b → (ms.kf = true ∧ B.Y b) ∨ (st.X m b ∧ ¬ ∃ nm, nm ∈ ms.froz ∧ m nm = some b)) {L' : Nat → Option (Nat × Nat)} (hL : L' = viewL ms.σ ms.tr L 0 (fun _ => none)) :
    View (st.ctx B m L w) ⟨w, X', Y', viewM ms.σ m 0, L'⟩ ms true := by
  subst hL
  have nX : ∀ nm b, (nm ∈ ms.froz ∨ nm ∈ ms.lent) → m nm = some b → memI nm ms.σ = false → ¬ X' b := by
    intro nm b hn hb hmi hx
    obtain ⟨o1, ho1⟩ := hlive nm hn
    obtain ⟨p, nm', o, g1, g2, g3⟩ := hX b hx
    have := h.inj nm nm' o1 o b (hs _ _ ho1) (hs _ _ g2) hb g3
    subst this
    rw [memI_look g1] at hmi; cases hmi
  refine ⟨rfl, fun p nm hp => viewM_some hp, fun p nm hp ht => ?_, fun p nm len hp ht => ?_, fun p hp => ⟨viewM_virt hp, ?_⟩, fun keep s b hb hk => ⟨hb.1, fun hx => ?_, fun hkk hy => ?_⟩, fun nm b hn hb hlt => ⟨hlt, nX nm b (.inr hn) hb (hok.lent nm hn), fun h => by cases h⟩,
    fun nm b hn hb hlt => ⟨hlt, nX nm b (.inl hn) hb (hok.froz nm hn).1, fun _ hy => ?_⟩⟩
  · simp only [viewL, hp, ht]; rfl
  · refine ⟨_, by simp only [viewL, hp, ht]; rfl, fun k' ln hL => ?_⟩
    have hL : L nm = some (k', ln) := hL
    rw [hL]
  · exact ⟨_, by simp only [viewL, hp]; rfl⟩
  · obtain ⟨p, nm, o, _, g2, g3⟩ := hX b hx
    exact hb.2.1 ⟨nm, o, hs _ _ g2, g3⟩
  · rcases hY b hy with ⟨hkf, hy⟩ | ⟨hx, _⟩
    · rcases hk hkk with hs | ⟨_, hc⟩
      · exact hb.2.2 hs hy
      · rw [hkf] at hc; cases hc
    · exact hb.2.1 hx
  · obtain ⟨o1, ho1⟩ := hlive nm (.inl hn)
    rcases hY b hy with ⟨_, hy⟩ | ⟨_, hx⟩
    · exact h.yb nm o1 b (hs _ _ ho1) hb hy
    · exact hx ⟨nm, hn, hb⟩
end Go.Tv
namespace Go.Tv
open Go Go.RowKit
set_option linter.unusedSectionVars false
variable [Inv]
section
variable {B : Base} {F : Nat → Prop} {st : St} {m : Nat → Option Nat} {L : Nat → Option (Nat × Nat)} {a : Act} {w : World} {ob : Nat → Option TObj}
def callY (B : Base) (st : St) (m : Nat → Option Nat) (w : World) (f : Found) : Nat → Prop := fun b => b < w.heap.size ∧ ((f.kf = true ∧ B.Y b) ∨ (st.X m b ∧ (¬ ∃ nm, nm ∈ f.froz ∧ m nm = some b) ∧ ¬ ∃ nm, nm ∈ f.sel ∧ m nm = some b))
theorem call_in (h : Rep B F st m L a w) (hs : Sub ob st.objs) {k : FuncId} {args : List TV} {T : List Ent} {f : Found} (fo : FoundOK ob k args T f) {vals : List Value} (hlen : vals.length = args.length)
    (hargs : ∀ i, i < args.length → sat (st.ctx B m L w) (nthV args i) (vals.getD i undef)) :
    ∃ mC LC, CallIn w (callY B st m w f) mC LC (f.E.ish.dec f.x).objs f.E.ish.objs.length ∧ vals.length = f.E.ish.args.length ∧
      (∀ i, i < vals.length → sat ⟨w, callX (f.E.ish.dec f.x).objs mC, callY B st m w f, mC, LC⟩ ((f.E.ish.dec f.x).env i) (vals.getD i undef)) ∧
      (∀ i nm : Nat, f.sel[i]? = some nm → mC i = m nm ∧ LC i = L nm) ∧ (∀ i j nm : Nat, f.sel[i]? = some nm → f.sel[j]? = some nm → i = j) ∧
      (∀ b, callX (f.E.ish.dec f.x).objs mC b → ∃ (i nm : Nat) (o : TObj), f.sel[i]? = some nm ∧ ob nm = some o ∧ m nm = some b) ∧ (∀ nm, nm ∈ f.froz → (∃ o, ob nm = some o) ∧ nm ∉ f.sel) ∧ f.sel.length = f.E.ish.objs.length := by
  obtain ⟨d, d', ms1, ms, hA, hO, hok, htr, hsl, hsel, hu, hfz, hkf⟩ := fo.mat
  have hob : ∀ n o, ob n = some o → objOK (st.ctx B m L w) n o := fun n o ho => h.obj n o (hs n o ho)
  have facts : ∀ {X' Y' : Nat → Prop}, View (st.ctx B m L w) ⟨w, X', Y', viewM ms.σ m 0, viewL ms.σ ms.tr L 0 (fun _ => none)⟩ ms true →
      Ext ob ⟨[], [], [], true, []⟩ ms ∧ f.E.ish.args.length = args.length ∧ ∃ X0, decVs id true f.E.ish.args (d ++ d') = (X0, d') ∧ (∀ i y, i < args.length → sat (st.ctx B m L w) (nthV args i) y → sat ⟨w, X', Y', viewM ms.σ m 0, viewL ms.σ ms.tr L 0 (fun _ => none)⟩ (nthV X0 i) y) ∧
        ∀ i, ObjTold (st.ctx B m L w) ⟨w, X', Y', viewM ms.σ m 0, viewL ms.σ ms.tr L 0 (fun _ => none)⟩ ob ms i (nthO (decOs id true f.E.ish.objs d') i) := by
    intro X' Y' V
    obtain ⟨e1, t1, f1⟩ := matVs_sound hob V f.E.ish.args args _ ms1 d d' hA
    obtain ⟨e2, _, f2⟩ := matOs_sound hob V f.E.ish.objs 0 ms1 ms d' [] hO
    obtain ⟨X0, hX0, _, hs0⟩ := f1 e2
    refine ⟨e1.trans e2, t1, X0, hX0, hs0, fun i => ?_⟩
    have := f2 (.refl _) (fun nm len hl => by rw [htr] at hl; simp [look] at hl) i
    rwa [Nat.zero_add, List.append_nil] at this
  have hlive : ∀ q, (q ∈ ms.froz ∨ q ∈ ms.lent) → ∃ o, ob q = some o := by
    have V0 : View (st.ctx B m L w) ⟨w, fun _ => False, fun _ => False, viewM ms.σ m 0, viewL ms.σ ms.tr L 0 (fun _ => none)⟩ ⟨ms.σ, [], [], ms.kf, ms.tr⟩ true :=
      callView h hs (ms := ⟨ms.σ, [], [], ms.kf, ms.tr⟩) (n := f.E.ish.objs.length) ⟨(fun q hq => nomatch hq), (fun q hq => nomatch hq), hok.le, hok.ids⟩ (fun q hq => by rcases hq with hq | hq <;> cases hq) (fun _ h => h.elim) (fun _ h => h.elim) rfl
    obtain ⟨e1, _, _⟩ := matVs_sound hob V0 f.E.ish.args args _ ms1 d d' hA
    obtain ⟨e2, _, _⟩ := matOs_sound hob V0 f.E.ish.objs 0 ms1 ms d' [] hO
    intro q hq
    rcases (e1.trans e2).live q hq with hq | hq
    · rcases hq with hq | hq <;> cases hq
    · exact hq
  have V0 := callView h hs hok hlive (X' := fun _ => False) (Y' := fun _ => False) (fun _ h => h.elim) (fun _ h => h.elim) rfl
  obtain ⟨hE, hl, X0, hX0, _, hO0⟩ := facts V0
  have hinj := hE.inj (fun p q n hp _ => by simp [look] at hp)
  have hdec : f.E.ish.dec f.x = ⟨nthV X0, nthO (decOs id true f.E.ish.objs d'), f.E.ish.objs.length⟩ := by
    unfold CSh.dec
    rw [hu, hX0]
  have hselI : ∀ i j nm : Nat, f.sel[i]? = some nm → f.sel[j]? = some nm → i = j := fun i j nm hi hj => hinj i j nm (hsel i nm hi) (hsel j nm hj)
  have hlt : ∀ {q : Nat} {o' : TObj}, nthO (decOs id true f.E.ish.objs d') q = some o' → ∃ (nm : Nat) (o : TObj), f.sel[q]? = some nm ∧ ob nm = some o := by
    intro q o' ho'
    have := hO0 q
    rw [ho'] at this
    have hq : q < f.E.ish.objs.length := by
      rcases this with ⟨nm, o, g1, _⟩ | ⟨g1, _⟩ <;> exact (hok.ids q _ g1).1
    have hs1 : f.sel[q]? = some f.sel[q] := List.getElem?_eq_getElem (by omega)
    have hl1 := hsel q _ hs1
    rcases this with ⟨nm, o, g1, g2, _⟩ | ⟨g1, _⟩
    · rw [hl1] at g1
      simp only [Option.some.injEq] at g1
      exact ⟨_, o, hs1, by rw [g1]; exact g2⟩
    · rw [hl1] at g1; cases g1
  rw [hdec]
  have hX : ∀ b, callX (nthO (decOs id true f.E.ish.objs d')) (viewM ms.σ m 0) b → ∃ (i nm : Nat) (o : TObj), f.sel[i]? = some nm ∧ ob nm = some o ∧ m nm = some b := by
    rintro b ⟨p, o', h1, h2⟩
    obtain ⟨nm, o, g1, g2⟩ := hlt h1
    rw [viewM_some (hsel p nm g1)] at h2
    exact ⟨p, nm, o, g1, g2, h2⟩
  have V := callView h hs hok hlive (X' := callX (nthO (decOs id true f.E.ish.objs d')) (viewM ms.σ m 0)) (Y' := callY B st m w f) (fun b hb => by obtain ⟨i, nm, o, g1, g2, g3⟩ := hX b hb; exact ⟨i, nm, o, hsel i nm g1, g2, g3⟩)
    (fun b hb => by rcases hb.2 with hb | hb
                    · exact .inl ⟨hkf ▸ hb.1, hb.2⟩
                    · exact .inr ⟨hb.1, by rw [← hfz]; exact hb.2.1⟩) rfl
  obtain ⟨_, _, X1, hX1, hS, hOo⟩ := facts V
  rw [hX0] at hX1
  injection hX1 with hX1
  subst hX1
  refine ⟨viewM ms.σ m 0, viewL ms.σ ms.tr L 0 (fun _ => none), ⟨fun p o' ho' => ?_, fun p q o1 o2 b h1 h2 h3 h4 => ?_, fun p hp => ?_, fun p b hb => ?_, fun p o' b h1 h2 hy => ?_, fun b hb => hb.1, ⟨Inv.keep B.w0 w B.inv.1 fun b hb hlt => h.ev.block b hlt (B.inv.2 b hb).2, fun b hb => ⟨Nat.lt_of_lt_of_le (B.inv.2 b hb).1 h.ev.size, fun hx => ?_⟩⟩⟩, by omega, fun i hi => hS i _ (by omega) (hargs i (by omega)), fun i nm hi => ⟨viewM_some (hsel i nm hi), ?_⟩, hselI, hX, fun nm hn => ⟨hlive nm (.inl (hfz ▸ hn)), fun hc => ?_⟩, hsl⟩
  · have := hOo p
    simp only at ho'
    rw [ho'] at this
    rcases this with ⟨nm, o, g1, g2, g3⟩ | ⟨g1, _⟩
    · exact g3
    · obtain ⟨nm, o, g3, _⟩ := hlt ho'
      rw [hsel p nm g3] at g1; cases g1
  · obtain ⟨nm, o, g1, g2⟩ := hlt h1
    obtain ⟨nm', o', g1', g2'⟩ := hlt h2
    rw [viewM_some (hsel p nm g1)] at h3
    rw [viewM_some (hsel q nm' g1')] at h4
    have := h.inj nm nm' o o' b (hs _ _ g2) (hs _ _ g2') h3 h4
    subst this
    exact hselI p q nm g1 g1'
  · have hl : look ms.σ p = none := by
      cases hl : look ms.σ p with
      | none => rfl
      | some y => have := (hok.ids p y hl).1; omega
    refine ⟨viewM_none hl (Nat.not_lt_zero _), by simp only [viewL, hl, if_neg (Nat.not_lt_zero _)], ?_⟩
    show nthO (decOs id true f.E.ish.objs d') p = none
    cases ho : nthO (decOs id true f.E.ish.objs d') p with
    | none => rfl
    | some o' =>
      obtain ⟨nm, o, g1, _⟩ := hlt ho
      rw [hsel p nm g1] at hl; cases hl
  · cases hl : look ms.σ p with
    | none => rw [viewM_none hl (Nat.not_lt_zero _)] at hb; cases hb
    | some y =>
      cases y with
      | none => rw [viewM_virt hl] at hb; cases hb
      | some nm => rw [viewM_some hl] at hb; exact h.mb nm b hb
  · obtain ⟨i, nm, o, g1, g2, g3⟩ := hX b ⟨p, o', h1, h2⟩
    rcases hy.2 with ⟨_, hy⟩ | ⟨_, _, hy⟩
    · exact h.yb nm o b (hs _ _ g2) g3 hy
    · exact hy ⟨nm, List.mem_of_getElem? g1, g3⟩
  · obtain ⟨i, nm, o, g1, g2, g3⟩ := hX b hx
    rcases h.fr nm o b (hs _ _ g2) g3 with h1 | h1
    · exact (B.inv.2 b hb).2 h1
    · have := (B.inv.2 b hb).1
      omega
  · simp only [viewL, hsel i nm hi, htr, look]
  · obtain ⟨i, hi⟩ := List.getElem?_of_mem hc
    have h1 := memI_look (hsel i nm hi)
    rw [(hok.froz nm (hfz ▸ hn)).1] at h1; cases h1
end
end Go.Tv
namespace Go.Tv
open Go Go.RowKit
def posIn : List Nat → Nat → Option Nat
  | [], _ => none
  | x :: l, n => if n = x then some 0 else (posIn l n).map (· + 1)
theorem posIn_get : ∀ {l : List Nat} {n p : Nat}, posIn l n = some p → l[p]? = some n
  | x :: l, n, p, h => by
    simp only [posIn] at h
    split at h
    case isTrue h1 => simp only [Option.some.injEq] at h; subst h; subst h1; rfl
    case isFalse =>
      cases hp : posIn l n with
      | none => rw [hp] at h; cases h
      | some q => rw [hp] at h; simp only [Option.map_some, Option.some.injEq] at h; subst h; simpa using posIn_get hp
theorem posIn_none : ∀ {l : List Nat} {n : Nat}, posIn l n = none → n ∉ l
  | [], _, _ => by simp
  | x :: l, n, h => by
    simp only [posIn] at h
    split at h
    case isTrue => cases h
    case isFalse h1 =>
      cases hp : posIn l n with
      | some q => rw [hp] at h; cases h
      | none => simp only [List.mem_cons, not_or]; exact ⟨h1, posIn_none hp⟩
theorem posIn_of_get : ∀ {l : List Nat} {n p : Nat}, l.Nodup → l[p]? = some n → posIn l n = some p
  | x :: l, n, 0, _, h => by simp only [List.getElem?_cons_zero, Option.some.injEq] at h; simp [posIn, h]
  | x :: l, n, p + 1, hn, h => by
    simp only [List.getElem?_cons_succ] at h
    have hx : n ≠ x := fun hx => by
      subst hx
      exact (List.nodup_cons.1 hn).1 (List.mem_of_getElem? h)
    simp [posIn, hx, posIn_of_get (List.nodup_cons.1 hn).2 h]
theorem setAll_zipU (ob : Nat → Option TObj) : ∀ (ns : List Nat) (us : List (Option TObj)), ns.length = us.length → ∀ x, setAll ob (zipU ns us) x = match posIn ns x with | some p => nthO us p | none => ob x
  | [], [], _, x => rfl
  | n :: ns, u :: us, h, x => by
    have ih := setAll_zipU ob ns us (by simpa using h) x
    simp only [zipU, setAll, posIn]
    by_cases hx : x = n
    · subst hx; simp [upd_same, nthO]
    · simp only [upd_ne _ _ hx, hx, if_false, ih]
      cases posIn ns x <;> simp [nthO]
  | [], _ :: _, h, _ => by simp at h
  | _ :: _, [], h, _ => by simp at h
theorem setAll_app (ob : Nat → Option TObj) : ∀ (l r : List (Nat × Option TObj)), setAll ob (l ++ r) = setAll (setAll ob r) l
  | [], r => rfl
  | (n, o) :: l, r => by simp only [List.cons_append, setAll, setAll_app ob l r]
theorem decOs_len (ρ : Nat → Nat) (kf : Bool) : ∀ (l : List SO) (d : List DV), (decOs ρ kf l d).length = l.length
  | [], _ => rfl
  | a :: l, d => by simp only [decOs, List.length_cons, decOs_len ρ kf l]
theorem rangeN_get : ∀ {a n i : Nat}, i < n → (rangeN a n)[i]? = some (a + i)
  | a, n + 1, 0, _ => rfl
  | a, n + 1, i + 1, h => by
    simp only [rangeN, List.getElem?_cons_succ]
    rw [rangeN_get (by omega)]
    congr 1; omega
theorem rangeN_len : ∀ (a n : Nat), (rangeN a n).length = n
  | _, 0 => rfl
  | a, n + 1 => by simp only [rangeN, List.length_cons, rangeN_len]
end Go.Tv
namespace Go.Tv
open Go Go.RowKit
set_option linter.unusedSectionVars false
variable [Inv]
def Own (P : Program) (k : FuncId) : Prop := ∃ fn, P.funcs[k]? = some fn ∧ fn.body.isSome = true ∧ (fn.name == "runtime.NumGoroutine") = false
theorem rangeN_mem : ∀ {a n x : Nat}, x ∈ rangeN a n ↔ a ≤ x ∧ x < a + n
  | a, 0, x => by simp only [rangeN, List.not_mem_nil, false_iff]; omega
  | a, n + 1, x => by
    simp only [rangeN, List.mem_cons, rangeN_mem]
    omega
theorem rangeN_nodup : ∀ {a n : Nat}, (rangeN a n).Nodup
  | a, 0 => by simp [rangeN]
  | a, n + 1 => by
    simp only [rangeN, List.nodup_cons, rangeN_mem]
    exact ⟨by omega, rangeN_nodup⟩
theorem nthO_none : ∀ {l : List (Option TObj)} {p : Nat}, l.length ≤ p → nthO l p = none
  | [], p, _ => by cases p <;> rfl
  | a :: l, 0, h => by simp at h
  | a :: l, p + 1, h => nthO_none (l := l) (by simpa using h)
section
variable {P : Program} {B : Base} {F : Nat → Prop} {st : St} {m : Nat → Option Nat} {L : Nat → Option (Nat × Nat)} {a : Act} {w : World} {ob : Nat → Option TObj}
theorem call_out (hr : Rep B F st m L a w) (hs : Sub ob st.objs) {f : Found} {nx : Nat} {mC : Nat → Option Nat} {LC : Nat → Option (Nat × Nat)} {w' : World} {m' : Nat → Option Nat} {L' : Nat → Option (Nat × Nat)} {objsC : Nat → Option TObj} {r : TupT f.E.osh.tys} {y : Value}
    (hkept : f.E.osh.kept = true)
    (hout : CallOut w w' (callY B st m w f) mC m' LC L' f.E.ish.objs.length f.E.osh.objs.length objsC (f.E.osh.decR r).2)
    (hy : sat ⟨w', callX (f.E.osh.decR r).2 m', callY B st m w f, m', L'⟩ (f.E.osh.decR r).1 y)
    (hselm : ∀ i nm : Nat, f.sel[i]? = some nm → mC i = m nm ∧ LC i = L nm) (hselI : ∀ i j nm : Nat, f.sel[i]? = some nm → f.sel[j]? = some nm → i = j)
    (hselO : ∀ i nm : Nat, f.sel[i]? = some nm → ∃ o, st.objs nm = some o)
    (hX : ∀ b, callX objsC mC b → ∃ (i nm : Nat) (o : TObj), f.sel[i]? = some nm ∧ ob nm = some o ∧ m nm = some b)
    (hfroz : ∀ nm, nm ∈ f.froz → (∃ o, ob nm = some o) ∧ nm ∉ f.sel) (hsl : f.sel.length = f.E.ish.objs.length)
    (hF : ∀ x, nx ≤ x → x < nx + (f.E.osh.objs.length - f.sel.length) → F x) (dst : Option Tmp) (hd : ∀ t, dst = some t → t < B.nt) {v : TV} {d : List DV}
    (hdv : decV (fun p => nthN f.sel p nx) f.kf f.E.osh.ret (untup f.E.osh.tys r) = (v, d)) :
    ∃ m2 L2, Rep B (fun x => F x ∧ ¬ (nx ≤ x ∧ x < nx + (f.E.osh.objs.length - f.sel.length)))
      (st.app ⟨dst, v, killsOf f.froz ++ zipU (f.sel ++ rangeN nx (f.E.osh.objs.length - f.sel.length)) (decOs (fun p => nthN f.sel p nx) f.kf f.E.osh.objs d)⟩) m2 L2 (a.put dst y) w' := by
  generalize hn : f.E.osh.objs.length - f.sel.length = n at *
  have hlen := hout.len
  have hnn : f.E.osh.objs.length = f.sel.length + n := by omega
  generalize hall : f.sel ++ rangeN nx n = all at *
  have hallL : all.length = f.E.osh.objs.length := by rw [← hall, List.length_append, rangeN_len]; omega
  have hnew : ∀ x, nx ≤ x → x < nx + n → m x = none ∧ L x = none ∧ st.objs x = none := fun x h1 h2 => hr.mf x (hF x h1 h2)
  have hallS : ∀ p, p < f.sel.length → all[p]? = f.sel[p]? := fun p hp => by rw [← hall, List.getElem?_append_left hp]
  have hallN : ∀ (p x : Nat), f.sel.length ≤ p → all[p]? = some x → x = nx + (p - f.sel.length) ∧ p - f.sel.length < n := fun p x hp hx => by
    rw [← hall, List.getElem?_append_right hp] at hx
    have hlt := (List.getElem?_eq_some_iff.1 hx).1
    rw [rangeN_len] at hlt
    rw [rangeN_get hlt] at hx
    simp only [Option.some.injEq] at hx
    exact ⟨hx.symm, hlt⟩
  have hnd : f.sel.Nodup := by
    refine List.pairwise_iff_getElem.2 fun i j hi hj hij heq => ?_
    have := hselI i j _ (List.getElem?_eq_getElem hi) (by rw [List.getElem?_eq_getElem hj, heq])
    omega
  have hallND : all.Nodup := by
    rw [← hall]
    refine List.nodup_append.2 ⟨hnd, rangeN_nodup, fun x hx z hz hxz => ?_⟩
    subst hxz
    obtain ⟨p, hp⟩ := List.getElem?_of_mem hx
    obtain ⟨ox, h⟩ := hselO p x hp
    rw [rangeN_mem] at hz
    rw [(hnew x hz.1 hz.2).2.2] at h; cases h
  have hρ : ∀ p, p < f.E.osh.objs.length → all[p]? = some (nthN f.sel p nx) := fun p hp => by
    rcases Nat.lt_or_ge p f.sel.length with hlt | hge
    · rw [hallS p hlt, List.getElem?_eq_getElem hlt, nthN_sel (List.getElem?_eq_getElem hlt)]
    · rw [nthN_new hge, ← hall, List.getElem?_append_right hge, rangeN_get (by omega)]
  have hρp : ∀ p, p < f.E.osh.objs.length → posIn all (nthN f.sel p nx) = some p := fun p hp => posIn_of_get hallND (hρ p hp)
  let m2 : Nat → Option Nat := fun x => match posIn all x with | some p => m' p | none => m x
  let L2 : Nat → Option (Nat × Nat) := fun x => match posIn all x with | some p => L' p | none => L x
  have hm2n : ∀ x, posIn all x = none → m2 x = m x ∧ L2 x = L x := fun x h => by simp [m2, L2, h]
  have hm2p : ∀ x p, posIn all x = some p → m2 x = m' p ∧ L2 x = L' p := fun x p h => by simp [m2, L2, h]
  have hkeep : ∀ (p nm : Nat), f.sel[p]? = some nm → m' p = m nm ∧ L' p = L nm := fun p nm hp => by
    have hlt := (List.getElem?_eq_some_iff.1 hp).1
    obtain ⟨g1, g2⟩ := hout.keep p (by omega)
    rw [g1, g2]; exact hselm p nm hp
  have hm2s : ∀ (p nm : Nat), f.sel[p]? = some nm → m2 nm = m nm ∧ L2 nm = L nm ∧ posIn all nm = some p := fun p nm hp => by
    have hlt := (List.getElem?_eq_some_iff.1 hp).1
    have := posIn_of_get hallND (by rw [hallS p hlt]; exact hp)
    rw [(hm2p nm p this).1, (hm2p nm p this).2]
    exact ⟨(hkeep p nm hp).1, (hkeep p nm hp).2, this⟩
  have hXC : ∀ b, callX objsC mC b → st.X m b := fun b hb => by
    obtain ⟨i, nm, o, _, g2, g3⟩ := hX b hb
    exact ⟨nm, o, hs _ _ g2, g3⟩
  generalize hrun' : decOs (fun p => nthN f.sel p nx) f.kf f.E.osh.objs d = us at *
  have husl : us.length = f.E.osh.objs.length := by rw [← hrun', decOs_len]
  let objs2 : Nat → Option TObj := setAll st.objs (killsOf f.froz ++ zipU all us)
  have hobj2 : ∀ x, objs2 x = if x ∈ f.froz then none else match posIn all x with | some p => nthO us p | none => st.objs x := fun x => by
    simp only [objs2]
    rw [setAll_app, setAll_kills, setAll_zipU st.objs all us (by omega)]
    all_goals rfl
  have hdec0 : (f.E.osh.decR r).2 = nthO (decOs id true f.E.osh.objs (decV id true f.E.osh.ret (untup f.E.osh.tys r)).2) := rfl
  have hdec1 : (f.E.osh.decR r).1 = (decV id true f.E.osh.ret (untup f.E.osh.tys r)).1 := rfl
  simp only [RSh.kept, Bool.and_eq_true] at hkept
  let c : Ctx := ⟨w', callX (f.E.osh.decR r).2 m', callY B st m w f, m', L'⟩
  let st2 : St := { st with objs := objs2 }
  let c' : Ctx := st2.ctx B m2 L2 w'
  have hd2 : d = (decV id true f.E.osh.ret (untup f.E.osh.tys r)).2 := by
    have h0 : Ren ⟨w', fun _ => True, fun _ => True, fun _ => none, fun _ => none⟩ ⟨w', fun _ => True, fun _ => True, fun _ => none, fun _ => none⟩ (fun p => nthN f.sel p nx) f.kf :=
      ⟨rfl, fun p b h => (by cases h), fun p x h => (by cases h), fun b h => absurd trivial h.2.1⟩
    rw [← (decV_ren h0 f.E.osh.ret (untup f.E.osh.tys r) hkept.1).1, hdv]
  have horig : ∀ x ox, objs2 x = some ox → x ∉ f.froz ∧ ((posIn all x = none ∧ st.objs x = some ox) ∨ ∃ p o', posIn all x = some p ∧ p < f.E.osh.objs.length ∧ x = nthN f.sel p nx ∧ (f.E.osh.decR r).2 p = some o' ∧ nthO us p = some ox) := by
    intro x ox hx
    rw [hobj2] at hx
    split at hx
    case isTrue => cases hx
    case isFalse hfz =>
      refine ⟨hfz, ?_⟩
      cases hp : posIn all x with
      | none => rw [hp] at hx; exact .inl ⟨rfl, hx⟩
      | some p =>
        rw [hp] at hx
        simp only at hx
        have hpl : p < f.E.osh.objs.length := by
          have := (List.getElem?_eq_some_iff.1 (posIn_get hp)).1; omega
        have h0 : Ren ⟨w', fun _ => True, fun _ => True, fun _ => none, fun _ => none⟩ ⟨w', fun _ => True, fun _ => True, fun _ => none, fun _ => none⟩ (fun p => nthN f.sel p nx) f.kf :=
          ⟨rfl, fun p b h => (by cases h), fun p x h => (by cases h), fun b h => absurd trivial h.2.1⟩
        have := decOs_ren h0 (fun p x h => by cases h) f.E.osh.objs d p hkept.2
        rw [hrun', hx] at this
        cases ho : nthO (decOs id true f.E.osh.objs d) p with
        | none => rw [ho] at this; exact this.elim
        | some o' =>
          refine .inr ⟨p, o', rfl, hpl, ?_, by rw [hdec0, ← hd2]; exact ho, hx⟩
          have := posIn_get hp
          rw [hρ p hpl] at this
          injection this with this; exact this.symm
  have hselFr : ∀ q nm : Nat, f.sel[q]? = some nm → posIn all nm = some q := fun q nm h => (hm2s q nm h).2.2
  have hnotC : ∀ {x : Nat} {ox : TObj} {b : Nat}, posIn all x = none → st.objs x = some ox → m x = some b → ¬ callX objsC mC b := by
    intro x ox b g1 g2 hb hxx
    obtain ⟨q, nm, o, e1, e2, e3⟩ := hX b hxx
    have := hr.inj x nm ox o b g2 (hs _ _ e2) hb e3
    subst this
    rw [hselFr q x e1] at g1; cases g1
  have hXnew : ∀ b, b < w.heap.size → st2.X m2 b → st.X m b := by
    rintro b hb ⟨x, ox, h1, h2⟩
    obtain ⟨_, ⟨g1, g2⟩ | ⟨p, o', g1, _, _, g2, _⟩⟩ := horig x ox h1
    · rw [(hm2n x g1).1] at h2; exact ⟨x, ox, g2, h2⟩
    · rw [(hm2p x p g1).1] at h2
      rcases hout.fr p o' b g2 h2 with h | h
      · exact hXC b h
      · omega
  have hren : Ren c c' (fun p => nthN f.sel p nx) f.kf := by
    refine ⟨rfl, fun p b hb => ?_, fun p x hx => ?_, fun b hb => ⟨hb.1, fun hx => ?_, fun hk hY => ?_⟩⟩
    · have hb : m' p = some b := hb
      have hp : p < f.E.osh.objs.length := Nat.lt_of_not_le fun hge => by rw [(hout.mf p hge).1] at hb; cases hb
      show m2 _ = some b
      rw [(hm2p _ p (hρp p hp)).1]; exact hb
    · have hx : L' p = some x := hx
      have hp : p < f.E.osh.objs.length := Nat.lt_of_not_le fun hge => by rw [(hout.mf p hge).2.1] at hx; cases hx
      show L2 _ = some x
      rw [(hm2p _ p (hρp p hp)).2]; exact hx
    · obtain ⟨x, ox, h1, h2⟩ := hx
      obtain ⟨hfz, ⟨g1, g2⟩ | ⟨p, o', g1, _, _, g2, _⟩⟩ := horig x ox h1
      · rw [(hm2n x g1).1] at h2
        refine hb.2.2 rfl ⟨hr.mb x b h2, .inr ⟨⟨x, ox, g2, h2⟩, ?_, ?_⟩⟩
        · rintro ⟨nm, hnm, hmb⟩
          obtain ⟨⟨o, ho⟩, _⟩ := hfroz nm hnm
          have := hr.inj x nm ox o b g2 (hs _ _ ho) h2 hmb
          subst this; exact hfz hnm
        · rintro ⟨nm, hnm, hmb⟩
          obtain ⟨q, hq⟩ := List.getElem?_of_mem hnm
          obtain ⟨o, ho⟩ := hselO q nm hq
          have := hr.inj x nm ox o b g2 ho h2 hmb
          subst this
          rw [hselFr q x hq] at g1; cases g1
      · rw [(hm2p x p g1).1] at h2
        exact hb.2.1 ⟨p, o', g2, h2⟩
    · have hY : B.Y b := hY
      exact hb.2.2 rfl ⟨Nat.lt_of_lt_of_le (B.hY b hY) hr.ev.size, .inl ⟨hk, hY⟩⟩
  have hstep : WStep (st.ctx B m L w) c' := by
    have aux : ∀ x p, posIn all x = some p → (∃ q, f.sel[q]? = some x) ∨ (m x = none ∧ L x = none) := fun x p hp => by
      have hg := posIn_get hp
      rcases Nat.lt_or_ge p f.sel.length with hlt | hge
      · rw [hallS p hlt] at hg; exact .inl ⟨p, hg⟩
      · obtain ⟨e1, e2⟩ := hallN p x hge hg
        have := hnew x (by omega) (by omega)
        exact .inr ⟨this.1, this.2.1⟩
    refine ⟨hout.ev.mono hXC, fun b hb hx => hXnew b hb hx, fun _ _ h => h, fun x b hx => ?_, fun x z hx => ?_⟩
    · have hx : m x = some b := hx
      show m2 x = some b
      cases hp : posIn all x with
      | none => exact (hm2n x hp).1.trans hx
      | some p =>
        rcases aux x p hp with ⟨q, hq⟩ | hq
        · exact (hm2s q x hq).1.trans hx
        · rw [hq.1] at hx; cases hx
    · have hx : L x = some z := hx
      show L2 x = some z
      cases hp : posIn all x with
      | none => exact (hm2n x hp).2.trans hx
      | some p =>
        rcases aux x p hp with ⟨q, hq⟩ | hq
        · exact (hm2s q x hq).2.1.trans hx
        · rw [hq.2] at hx; cases hx
  have hvirt : ∀ p x, c.L p = some x → c.m p = none → c'.m (nthN f.sel p nx) = none := fun p x hx hm => by
    have hx : L' p = some x := hx
    have hp : p < f.E.osh.objs.length := Nat.lt_of_not_le fun hge => by rw [(hout.mf p hge).2.1] at hx; cases hx
    show m2 _ = none
    rw [(hm2p _ p (hρp p hp)).1]; exact hm
  have hrep : Rep B (fun x => F x ∧ ¬ (nx ≤ x ∧ x < nx + n)) st2 m2 L2 a w' := by
    refine ⟨hr.sz, hr.df, fun t => sat_step hstep (hr.slots t), fun x ox hx => ?_, fun x x' ox ox' b h1 h2 h3 h4 => ?_, fun x hx => ?_, fun x b hb => ?_, ?_, fun x ox b h1 h2 => ?_, fun x ox b h1 h2 => ?_, fun p hp => ?_, fun p hp hx => hr.n0 p hp hx.1⟩
    · obtain ⟨hfz, ⟨g1, g2⟩ | ⟨p, o', g1, g5, g6, g2, g3⟩⟩ := horig x ox hx
      · refine objOK_step hstep (hm2n x g1).1 (hm2n x g1).2 (fun b hb => ?_) (hr.obj x ox g2)
        exact hout.ev.block b (hr.mb x b hb) (hnotC g1 g2 hb)
      · have := decOs_ren hren hvirt f.E.osh.objs d p hkept.2
        rw [hrun', g3] at this
        have g2' := g2
        rw [hdec0, ← hd2] at g2'
        rw [g2'] at this
        rw [g6]
        exact this p (hout.obj p o' g2)
    · have cross : ∀ {x x' : Nat} {ox : TObj} {p : Nat} {o' : TObj}, posIn all x = none → st.objs x = some ox → m2 x = some b → posIn all x' = some p → (f.E.osh.decR r).2 p = some o' → m2 x' = some b → False := by
        intro x x' ox p o' g1 g2 h3 g1' g2' h4
        rw [(hm2n x g1).1] at h3
        rw [(hm2p x' p g1').1] at h4
        have hb := hr.mb x b h3
        rcases hout.fr p o' b g2' h4 with h | h
        · exact hnotC g1 g2 h3 h
        · omega
      obtain ⟨_, ⟨g1, g2⟩ | ⟨p, o', g1, _, _, g2, _⟩⟩ := horig x ox h1
      · obtain ⟨_, ⟨g1', g2'⟩ | ⟨p', o'', g1', _, _, g2', _⟩⟩ := horig x' ox' h2
        · rw [(hm2n x g1).1] at h3
          rw [(hm2n x' g1').1] at h4
          exact hr.inj x x' ox ox' b g2 g2' h3 h4
        · exact (cross g1 g2 h3 g1' g2' h4).elim
      · obtain ⟨_, ⟨g1', g2'⟩ | ⟨p', o'', g1', _, _, g2', _⟩⟩ := horig x' ox' h2
        · exact (cross g1' g2' h4 g1 g2 h3).elim
        · rw [(hm2p x p g1).1] at h3
          rw [(hm2p x' p' g1').1] at h4
          have := hout.inj p p' o' o'' b g2 g2' h3 h4
          subst this
          have e1 := posIn_get g1
          have e2 := posIn_get g1'
          rw [e1] at e2; injection e2
    · obtain ⟨h1, h2, h3⟩ := hr.mf x hx.1
      have hp : posIn all x = none := by
        cases hp : posIn all x with
        | none => rfl
        | some p =>
          exfalso
          have hg := posIn_get hp
          rcases Nat.lt_or_ge p f.sel.length with hlt | hge
          · rw [hallS p hlt] at hg
            obtain ⟨ox, h⟩ := hselO p x hg
            rw [h3] at h; cases h
          · obtain ⟨e1, e2⟩ := hallN p x hge hg
            exact hx.2 ⟨by omega, by omega⟩
      refine ⟨(hm2n x hp).1.trans h1, (hm2n x hp).2.trans h2, ?_⟩
      show objs2 x = none
      rw [hobj2, hp]
      split
      · rfl
      · exact h3
    · cases hp : posIn all x with
      | none => rw [(hm2n x hp).1] at hb; exact Nat.lt_of_lt_of_le (hr.mb x b hb) hout.ev.size
      | some p => rw [(hm2p x p hp).1] at hb; exact hout.mb p b hb
    · refine hr.ev.trans (hout.ev.mono hXC) fun q hq => ?_
      obtain ⟨nm, ox, h1, h2⟩ := hq
      exact hr.fr nm ox q h1 h2
    · obtain ⟨_, ⟨g1, g2⟩ | ⟨p, o', g1, _, _, g2, _⟩⟩ := horig x ox h1
      · rw [(hm2n x g1).1] at h2; exact hr.fr x ox b g2 h2
      · rw [(hm2p x p g1).1] at h2
        rcases hout.fr p o' b g2 h2 with h | h
        · obtain ⟨nm, ox', e1, e2⟩ := hXC b h
          exact hr.fr nm ox' b e1 e2
        · exact .inr (Nat.le_trans hr.ev.size h)
    · obtain ⟨_, ⟨g1, g2⟩ | ⟨p, o', g1, _, _, g2, _⟩⟩ := horig x ox h1
      · rw [(hm2n x g1).1] at h2; exact hr.yb x ox b g2 h2
      · rw [(hm2p x p g1).1] at h2
        rcases hout.fr p o' b g2 h2 with h | h
        · obtain ⟨nm, ox', e1, e2⟩ := hXC b h
          exact hr.yb nm ox' b e1 e2
        · intro hY
          have := B.hY b hY
          have := hr.ev.size
          omega
    · have hp' : posIn all p = none ∨ ∃ q : Nat, f.sel[q]? = some p := by
        cases hpp : posIn all p with
        | none => exact .inl rfl
        | some q =>
          right
          have hg := posIn_get hpp
          rcases Nat.lt_or_ge q f.sel.length with hlt | hge
          · exact ⟨q, by rw [← hallS q hlt]; exact hg⟩
          · obtain ⟨e1, e2⟩ := hallN q p hge hg
            exact (hr.n0 p hp (hF p (by omega) (by omega))).elim
      rcases hp' with hp' | ⟨q, hq⟩
      · rw [(hm2n p hp').1, (hm2n p hp').2]; exact hr.base p hp
      · rw [(hm2s q p hq).1, (hm2s q p hq).2.1]; exact hr.base p hp
  refine ⟨m2, L2, hrep.put hd (av := v) ?_⟩
  have := dec_ren hren f.E.osh.ret (untup f.E.osh.tys r) hkept.1 (y := y) hy
  rw [hdv] at this
  exact this
end
end Go.Tv
namespace Go.Tv
open Go Go.RowKit
set_option linter.unusedSectionVars false
variable [Inv]
theorem caps_list {c : Ctx} : ∀ {caps : TV} {us : List Value}, capsB caps = true → satC c caps us → us.length = (listT caps).length ∧ ∀ i, i < us.length → sat c (nthV (listT caps) i) (us.getD i undef)
  | .tnil, us, _, h => by
    simp only [satC] at h; subst h
    exact ⟨rfl, fun i hi => by simp at hi⟩
  | .tcons a b, us, hc, h => by
    simp only [capsB, Bool.and_eq_true, Bool.not_eq_true'] at hc
    simp only [satC] at h
    obtain ⟨v, r, rfl, _, h1, h2⟩ := h
    obtain ⟨g1, g2⟩ := caps_list hc.2 h2
    refine ⟨by simp [listT, g1], fun i hi => ?_⟩
    cases i with
    | zero =>
      show sat c a v
      unfold sat satV
      rw [hc.1.2, hc.1.1]; exact h1
    | succ i => exact g2 i (by simpa using hi)
  | .any, _, h, _ | .und, _, h, _ | .nil, _, h, _ | .val .., _, h, _ | .fl .., _, h, _ | .pr .., _, h, _ | .ptr .., _, h, _ | .rptr .., _, h, _ | .own _, _, h, _ | .ownp .., _, h, _ | .sv .., _, h, _ | .clo .., _, h, _ => by cases h
theorem nthV_app : ∀ (l r : List TV) (i : Nat), nthV (l ++ r) i = if i < l.length then nthV l i else nthV r (i - l.length)
  | [], r, i => by simp
  | a :: l, r, 0 => by simp [nthV]
  | a :: l, r, i + 1 => by
    have := nthV_app l r i
    simp only [List.cons_append, nthV, this, List.length_cons, Nat.add_lt_add_iff_right, Nat.add_sub_add_right]
theorem nthV_map {f : Operand → TV} : ∀ (l : List Operand) (i : Nat) (h : i < l.length), nthV (l.map f) i = f l[i]
  | a :: l, 0, _ => rfl
  | a :: l, i + 1, h => nthV_map l i (by simpa using h)
theorem obT_some {R : Type} {l : List Ty} {o : Opt (TupT l)} {k : TupT l → Opt R} {r : R} (h : obT l o k = some r) : ∃ a, o = some a ∧ k a = some r := by
  unfold obT ob at h
  split at h
  · exact ⟨_, rfl, h⟩
  · cases h
section
variable {P : Program} {cx : Cx}
def ExtOK (P : Program) (E : Ent) : Prop := E.osh.objs = [] ∧ E.ish.objs = [] ∧ ∀ x r, E.f x = some r → ∀ (c : Ctx) (vals : List Value), vals.length = E.ish.args.length → (∀ i, i < vals.length → sat c ((E.ish.dec x).env i) (vals.getD i undef)) →
  ∃ y, (∀ c', sat c' (E.osh.decR r).1 y) ∧ ∀ w, (callFunc E.k vals.toArray).run P w = .ok (.value y) w
theorem calls_sound (hT : ∀ E, E ∈ cx.T → (EntOK P E ∧ Own P E.k) ∨ ExtOK P E) : CallsOK P cx := by
  intro o f vs ts e ob nx R K r ho h
  unfold callD at h
  split at h
  case h_2 => cases h
  case h_1 k caps hfe =>
    split at h
    case h_1 => cases h
    case h_2 hcb =>
      split at h
      case h_2 => cases h
      case h_1 E x sel froz kf hfind =>
        have fo := findE_spec hfind
        have hTE := hT E fo.mem
        have hk : E.k = k := fo.k
        subst hk
        obtain ⟨r0, hr0, h⟩ := obT_some h
        cases hdv : decV (fun p => nthN sel p nx) kf E.osh.ret (untup E.osh.tys r0) with
        | mk v d =>
        rw [hdv] at h
        refine ⟨_, _, ?_, h, rfl⟩
        intro B F st m L a w hr hF he hs hd Q
        have hfs := he f
        rw [hfe] at hfs
        simp only [sat, isTup, satV, aggT, satC, List.cons.injEq, and_true] at hfs
        obtain ⟨us, hfv, hcs⟩ := hfs
        obtain ⟨hul, hus⟩ := caps_list hcb hcs
        have hargs : ∀ i, i < (vs.toList.map (evA e) ++ listT caps).length → sat (st.ctx B m L w) (nthV (vs.toList.map (evA e) ++ listT caps) i) ((vs.toList.map a.eval ++ us).getD i undef) := by
          intro i hi
          rw [nthV_app]
          simp only [List.length_map, List.length_append] at hi ⊢
          split
          case isTrue hlt =>
            rw [nthV_map _ _ hlt]
            have : (vs.toList.map a.eval ++ us).getD i undef = a.eval vs.toList[i] := by
              rw [List.getD_eq_getElem?_getD, List.getElem?_append_left (by simpa using hlt), List.getElem?_map, List.getElem?_eq_getElem hlt]
              rfl
            rw [this]; exact he _
          case isFalse hge =>
            have hge : vs.toList.length ≤ i := by omega
            have : (vs.toList.map a.eval ++ us).getD i undef = us.getD (i - vs.toList.length) undef := by
              rw [List.getD_eq_getElem?_getD, List.getElem?_append_right (by simpa using hge)]
              simp
            rw [this]; exact hus _ (by omega)
        obtain ⟨mC, LC, hin, hvl, hsat, hselm, hselI, hX, hfroz, hsl⟩ := call_in hr hs fo (vals := vs.toList.map a.eval ++ us) (by simp [hul]) hargs
        have hselO : ∀ i nm : Nat, sel[i]? = some nm → ∃ o, st.objs nm = some o := fun i nm hi => by
          obtain ⟨o, ho⟩ := fo.live nm (List.mem_of_getElem? hi)
          exact ⟨o, hs _ _ ho⟩
        have hargsv : (#[] : Array Value) ++ vs.map a.eval ++ us.toArray = (vs.toList.map a.eval ++ us).toArray := by
          apply Array.ext'; simp
        rcases hTE with ⟨hE, hown⟩ | hX'
        case inr =>
          obtain ⟨ho0, hi0, hX'⟩ := hX'
          obtain ⟨y, hy, hrun⟩ := hX' x r0 hr0 _ _ hvl hsat
          unfold Oper.wp execOp
          simp only [ho, resolve, hfv, Deferred.ofValue, invoke, Sem.run_bind, Sem.run_pure, Result.andThen]
          rw [hargsv, hrun]
          simp only [Oper.upon_value]
          have hobjs : (E.osh.decR r0).2 = fun _ => none := by
            unfold RSh.decR
            have : ∀ d, decOs id true E.osh.objs d = [] := fun d => by rw [ho0]; rfl
            simp only [this]
            funext z; cases z <;> rfl
          have hout : CallOut w w (callY B st m w ⟨E, x, sel, froz, kf⟩) mC mC LC LC E.ish.objs.length E.osh.objs.length (E.ish.dec x).objs (E.osh.decR r0).2 := by
            rw [hobjs]
            refine ⟨Ev.refl _ _, by rw [ho0, hi0]; exact Nat.le_refl _, fun p _ => ⟨rfl, rfl⟩, fun p o h => (by cases h), fun p q o o' b h => (by cases h), fun p hp => ?_, hin.mb, fun p o b h => (by cases h), fun p o b h => (by cases h)⟩
            have := hin.mf p (by rw [hi0]; exact Nat.zero_le _)
            exact ⟨this.1, this.2.1, rfl⟩
          exact call_out (f := ⟨E, x, sel, froz, kf⟩) hr hs fo.kept hout (hy _) hselm hselI hselO hX hfroz hsl hF o.dst hd hdv
        have hrun := hE x r0 hr0 w _ mC LC _ hin hvl hsat
        obtain ⟨fn, hfn, hbody, hname⟩ := hown
        have hbody' : fn.body.isNone = false := by
          cases h : fn.body with
          | none => rw [h] at hbody; cases hbody
          | some _ => rfl
        unfold Oper.wp execOp
        simp only [ho, resolve, hfv, Deferred.ofValue, invoke, callFunc, Sem.run_bind, Sem.run_pure, show (program : Sem Program).run P w = .ok P w from rfl, hfn, hname, hbody', if_false, Oper.upon_enter, Bool.false_eq_true, Result.andThen]
        rw [hargsv]
        refine hrun.mono fun ed w' ⟨y, m', L', hed, hout, hsy⟩ => ?_
        subst hed
        dsimp only
        exact call_out (f := ⟨E, x, sel, froz, kf⟩) hr hs fo.kept hout hsy hselm hselI hselO hX hfroz hsl hF o.dst hd hdv
end
end Go.Tv
