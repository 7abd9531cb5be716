/- A part of the proof that a law of the seat holds: ZAv8. -/
import Derived.Test.YtleaogcnndhdgaaAv7
namespace Go.Av
open Go Go.RowKit

section
variable {P : Program} (G : Sg P)

def pval (op : Op) (e : Nat → AV) (ob : Nat → Option AObj) : Option AV :=
  match op with
  | .move x | .assign x => some (evA e x)
  | .pick c a b => match evA e c with | .v (.bool t) => some (if t = true then evA e a else evA e b) | _ => none
  | .load t x => match evA e x with
    | .ptr nm s j => (ob nm).bind fun o => ldA G t o.segs s j
    | .rp segs s j => ldA G t segs s j
    | _ => none
  | .nilCheck x => match evA e x with
    | .ptr nm s j => some (.ptr nm s j)
    | .rp segs s j => some (.rp segs s j)
    | _ => none
  | .binOp op t x y _ => binA G op t (evA e x) (evA e y)
  | .unOp op _ x => unA op (evA e x)
  | .convert s d x => cvA G s d ob (evA e x)
  | .makeFunc (.func f) first caps => if first.size = 0 ∧ (caps.toList.map (evA e)).all AV.isCell = true then some (.clo f (caps.toList.map (evA e))) else none
  | .slice t x lo hi mx => slA G t ob (evA e x) (lo.map (evA e)) (hi.map (evA e)) (mx.map (evA e))
  | .fieldAddr t x f => faA G t ob (evA e x) f
  | .field t x f => fdA G t (evA e x) f
  | .indexAddr t x i => ixA G t ob (evA e x) (evA e i)
  | .index t x i => inA G t (evA e x) (evA e i)
  | .extract x n => match evA e x with | .tup l => l[n]? | _ => none
  | .build t parts => bdA G t (parts.toList.map fun p => (p.1, evA e p.2))
  | .sliceToArrayPointer t x => match kindOf G t, evA e x with
    | some (.array n _), .ro els _ => if n ≤ els.length ∧ 0 < n then some (.rp els 0 0) else none
    | some (.array n _), .sl nm off len => if n ≤ len ∧ 0 < n then some (.ptr nm off 0) else none
    | _, _ => none
  | .call c => match c.callee, c.args.toList, c.argTypes.toList with
    | .builtin .len, [x], [t] => lenA G t (evA e x)
    | .builtin .min, l, _ => mmA .min (l.map (evA e))
    | .builtin .max, l, _ => mmA .max (l.map (evA e))
    | _, _, _ => none
  | _ => none

theorem satTup_get {c : Ctx} : ∀ {l : List AV} {vs : List Value} {n : Nat} {a : AV}, satTup c l vs → l[n]? = some a → ∃ y, vs[n]? = some y ∧ sat c a y
  | [], _, _, _, _, h => by simp at h
  | x :: l, vs, 0, a, h, hq => by
    simp only [satTup] at h
    obtain ⟨v, r, rfl, h2, _⟩ := h
    simp only [List.getElem?_cons_zero, Option.some.injEq] at hq
    subst hq
    exact ⟨v, rfl, h2⟩
  | x :: l, vs, n + 1, a, h, hq => by
    simp only [satTup] at h
    obtain ⟨v, r, rfl, _, h⟩ := h
    simp only [List.getElem?_cons_succ] at hq ⊢
    exact satTup_get h hq

theorem binA_sound {c : Ctx} {op : BinOp} {t : TypeId} {x y : AV} {vx vy : Value} (ox oy : Operand) {av : AV} (hx : sat c x vx) (hy : sat c y vy) (h : binA G op t x y = some av) :
    ∃ u, sat c av u ∧ ∀ w, (do eqGuard op t ox oy vx vy; binOp op t vx vy : Sem Value).run P w = .ok u w := by
  unfold binA at h
  split at h
  case h_1 k a k' b =>
    simp only [sat] at hx hy
    obtain ⟨rfl, _⟩ := hx
    obtain ⟨rfl, _⟩ := hy
    split at h
    case h_1 => exact shA_sound h c P t ox oy
    case h_2 => exact shA_sound h c P t ox oy
    case h_3 h1 h2 =>
      split at h
      case isFalse => cases h
      case isTrue hk => subst hk; exact intA_sound h ⟨h1, h2⟩ c P t ox oy
  case h_2 a b =>
    simp only [sat] at hx hy
    obtain ⟨rfl, _⟩ := hx
    obtain ⟨rfl, _⟩ := hy
    exact strA_sound h c P t ox oy
  case h_3 a b =>
    simp only [sat] at hx hy
    obtain ⟨rfl, _⟩ := hx
    obtain ⟨rfl, _⟩ := hy
    split at h
    case isFalse => cases h
    case isTrue hk =>
      obtain ⟨d, hd, hfit⟩ := kindOf_und G hk
      simp only [TK.fits] at hfit
      subst hfit
      have he : ∀ w, (eqGuard op t ox oy (.bool a) (.bool b)).run P w = .ok () w := fun w => by rw [eqGuard_at_bool]; rfl
      cases op <;> simp only [boolA] at h <;> first
        | (cases h; done)
        | (simp only [Option.some.injEq] at h; subst h
           refine ⟨_, sat_v rfl, fun w => ?_⟩
           rw [Sem.run_bind, he, Result.andThen_ok]
           first | exact run_eql_bool w t a b hd | exact run_neq_bool w t a b hd)
  case h_4 s1 s2 =>
    split at h
    case h_1 => cases h
    case h_2 sh hsh =>
      split at h
      case isFalse => cases h
      case isTrue hc =>
        simp only [sat] at hx hy
        obtain ⟨vs, rfl, hvs⟩ := hx
        obtain ⟨us, rfl, hus⟩ := hy
        rw [satAgg_flat] at hvs hus
        have heq := eqAV_vals hc.1 hc.2 hvs hus
        have hrun := G.eqok t sh hsh op ox oy vs us
        split at h
        case h_3 => cases h
        case h_1 =>
          simp only [Option.some.injEq] at h; subst h
          refine ⟨_, sat_v rfl, fun w => ?_⟩
          obtain ⟨h1, h2⟩ := hrun w (fitsAV_vals hc.1 hvs) (fitsAV_vals hc.2 hus)
          rw [Sem.run_bind, h1, Result.andThen_ok, run_eql_struct, h2, heq]
          rfl
        case h_2 =>
          simp only [Option.some.injEq] at h; subst h
          refine ⟨_, sat_v rfl, fun w => ?_⟩
          obtain ⟨h1, h2⟩ := hrun w (fitsAV_vals hc.1 hvs) (fitsAV_vals hc.2 hus)
          rw [Sem.run_bind, h1, Result.andThen_ok, run_neq_struct, h2, heq]
          rfl
  case h_5 => cases h

theorem mm_sound {c : Ctx} {b : Builtin} {l : List AV} {vs : List Value} {av : AV} (t : Array TypeId) (ty : TypeId) (hl : satTup c l vs) (h : mmA b l = some av) :
    ∃ u, sat c av u ∧ ∀ w, (match b with | .min => Builtin.min_ t ty vs.toArray | _ => Builtin.max_ t ty vs.toArray : Sem Value).run P w = .ok u w ∧ (b = .min ∨ b = .max) := by
  unfold mmA at h
  split at h <;> first
    | (cases h; done)
    | (simp only [Option.some.injEq] at h; subst h
       simp only [satTup, sat] at hl
       obtain ⟨v1, r1, rfl, ⟨rfl, _⟩, v2, r2, rfl, ⟨rfl, _⟩, rfl⟩ := hl
       exact ⟨_, sat_v rfl, fun w => ⟨by simp [Builtin.min_, Builtin.max_, Builtin.min2, Builtin.max2], by first | exact .inl rfl | exact .inr rfl⟩⟩)
    | (simp only [Option.some.injEq] at h; subst h
       simp only [satTup, sat] at hl
       obtain ⟨v1, r1, rfl, ⟨rfl, _⟩, v2, r2, rfl, ⟨rfl, _⟩, v3, r3, rfl, ⟨rfl, _⟩, rfl⟩ := hl
       exact ⟨_, sat_v rfl, fun w => ⟨by simp [Builtin.min_, Builtin.max_, Builtin.min2, Builtin.max2], by first | exact .inl rfl | exact .inr rfl⟩⟩)

theorem map_ev (f : Operand → Value) (l : Array Operand) : (l.toList.map f).toArray = l.map f := by
  rw [← Array.toList_map]

theorem evs_sat {B : Base} {F : Nat → Prop} {st : St} {m : Nat → Option Nat} {L : Nat → Lay} {a : Act} {w : World} (h : Rep B F st m L a w) : ∀ l : List Operand, satTup (st.ctx m L w) (l.map (evA st.env)) (l.map a.eval)
  | [] => by simp only [List.map_nil, satTup]
  | x :: l => by simp only [List.map_cons, satTup]; exact ⟨_, _, rfl, evA_sat h x, evs_sat h l⟩

theorem tup_list {c : Ctx} : ∀ {l : List AV} {vs : List Value}, satTup c l vs → (∀ a ∈ l, a.isCell = true) → satList c l vs
  | [], vs, h, _ => by simp only [satTup] at h; simp only [satList]; exact h
  | a :: l, vs, h, hc => by
    simp only [satTup] at h
    obtain ⟨v, r, rfl, h1, h2⟩ := h
    simp only [satList]
    exact ⟨v, r, rfl, isCell_one (hc a (by simp)) h1, h1, tup_list h2 (fun x hx => hc x (by simp [hx]))⟩

theorem opt_sat {B : Base} {F : Nat → Prop} {st : St} {m : Nat → Option Nat} {L : Nat → Lay} {a : Act} {w : World} (h : Rep B F st m L a w) (x : Option Operand) :
    match x.map (evA st.env), x.map a.eval with | none, none => True | some p, some v => sat (st.ctx m L w) p v | _, _ => False := by
  cases x with
  | none => trivial
  | some x => exact evA_sat h x

theorem parts_sat {B : Base} {F : Nat → Prop} {st : St} {m : Nat → Option Nat} {L : Nat → Lay} {a : Act} {w : World} (h : Rep B F st m L a w) : ∀ l : List (Nat × Operand),
    satParts (st.ctx m L w) (l.map fun p => (p.1, evA st.env p.2)) (l.map fun p => (p.1, a.eval p.2))
  | [] => by simp only [List.map_nil, satParts]
  | p :: l => by simp only [List.map_cons, satParts]; exact ⟨_, _, rfl, evA_sat h p.2, parts_sat h l⟩

/-- THE PURE OPERATIONS: one value, in every world that keeps what there was. -/
theorem pval_sound {B : Base} {F : Nat → Prop} {st : St} {m : Nat → Option Nat} {L : Nat → Lay} {a : Act} {w : World} (h : Rep B F st m L a w) (o : Oper) {av : AV} (hp : pval G o.op st.env st.objs = some av) :
    ∃ y, sat (st.ctx m L w) av y ∧ ∀ w', Same w w' → (execOp a.eval o).run P w' = .ok (.value y) w' := by
  have hob : ∀ nm o, st.objs nm = some o → objOK (st.ctx m L w) nm o := h.obj
  have wrap : ∀ {s : Sem Value} {av : AV}, (∃ y, sat (st.ctx m L w) av y ∧ ∀ w', Same w w' → s.run P w' = .ok y w') →
      ∃ y, sat (st.ctx m L w) av y ∧ ∀ w', Same w w' → (do pure (Next.value (← s)) : Sem Next).run P w' = .ok (.value y) w' := by
    rintro s av ⟨y, hy, hr⟩
    exact ⟨y, hy, fun w' hw => by rw [Sem.run_bind, hr w' hw]; rfl⟩
  obtain ⟨dst, op, type, pos, after, guard⟩ := o
  unfold pval at hp
  simp only at hp
  unfold execOp
  simp only
  split at hp
  case h_1 x =>
    simp only [Option.some.injEq] at hp; subst hp
    exact ⟨a.eval x, evA_sat h x, fun w' _ => rfl⟩
  case h_2 x =>
    simp only [Option.some.injEq] at hp; subst hp
    exact ⟨a.eval x, evA_sat h x, fun w' _ => rfl⟩
  case h_3 c x y =>
    split at hp
    case h_2 => cases hp
    case h_1 t hc =>
      simp only [Option.some.injEq] at hp; subst hp
      have h1 := evA_sat h c
      rw [hc] at h1
      simp only [sat] at h1
      cases t with
      | true => exact ⟨a.eval x, evA_sat h x, fun w' _ => by simp [h1.1, asBool]⟩
      | false => exact ⟨a.eval y, evA_sat h y, fun w' _ => by simp [h1.1, asBool]⟩
  case h_4 t x =>
    apply wrap
    have h1 := evA_sat h x
    split at hp
    case h_1 nm s j hx =>
      rw [hx] at h1
      simp only [sat] at h1
      obtain ⟨b, hb, hv⟩ := h1
      cases ho : st.objs nm with
      | none => rw [ho] at hp; cases hp
      | some o =>
        rw [ho] at hp
        simp only [Option.bind_some] at hp
        rcases hob nm o ho with ⟨hn, _⟩ | ⟨b', cur, fr, e1, e2, e3, e4, e5⟩
        · rw [hn] at hb; cases hb
        · have : b' = b := by rw [hb] at e1; injection e1 with e1; exact e1.symm
          subst this
          obtain ⟨y, hy, hr⟩ := ld_sound G e4 hp
          refine ⟨y, hy, fun w' hw => ?_⟩
          have hs : s ≤ o.segs.length := by
            obtain ⟨f, hf, hcase⟩ := ldA_spec G hp
            rcases Nat.lt_or_ge o.segs.length s with hlt | hle
            · exfalso
              have hnil : o.segs.drop s = [] := List.drop_eq_nil_of_le (by omega)
              have hpos := (G.ok t f hf).pos
              have hpre : presegs o.segs s = o.segs.flatten.length := by rw [presegs_eq, List.take_of_length_le (by omega)]
              rcases hcase with ⟨_, segs', _, g1, g2⟩ | ⟨_, g1⟩
              · rw [g1, hpre] at g2; simp at g2; omega
              · rw [hpre] at g1; simp at g1
            · exact hle
          have hpre := (hob nm o ho).pre hs
          rw [hv, hpre]
          have := hr w' hw
          rw [Nat.zero_add] at this
          simpa [Instr.loadAt, Instr.sureAddr] using this
    case h_2 segs s j hx =>
      rw [hx] at h1
      simp only [sat] at h1
      obtain ⟨b, off, hv, hlt, hX, hs⟩ := h1
      obtain ⟨y, hy, hr⟩ := ld_sound G hs hp
      exact ⟨y, hy, fun w' hw => by rw [hv]; simpa [Instr.loadAt, Instr.sureAddr] using hr w' hw⟩
    case h_3 => cases hp
  case h_5 x =>
    have h1 := evA_sat h x
    split at hp
    case h_1 nm s j hx =>
      simp only [Option.some.injEq] at hp; subst hp
      rw [hx] at h1
      refine ⟨a.eval x, h1, fun w' _ => ?_⟩
      simp only [sat] at h1
      obtain ⟨b, hb, hv⟩ := h1
      simp [hv]
    case h_2 segs s j hx =>
      simp only [Option.some.injEq] at hp; subst hp
      rw [hx] at h1
      refine ⟨a.eval x, h1, fun w' _ => ?_⟩
      simp only [sat] at h1
      obtain ⟨b, off, hv, _⟩ := h1
      simp [hv]
    case h_3 => cases hp
  case h_6 op t x y yt =>
    apply wrap
    obtain ⟨u, hu, hr⟩ := binA_sound G x y (evA_sat h x) (evA_sat h y) hp
    exact ⟨u, hu, fun w' _ => hr w'⟩
  case h_7 op t x =>
    apply wrap
    obtain ⟨u, hu, hr⟩ := un_sound (P := P) (evA_sat h x) hp
    exact ⟨u, hu, fun w' _ => hr w'⟩
  case h_8 s d x =>
    apply wrap
    exact cv_sound G hob (evA_sat h x) hp
  case h_9 f first caps =>
    split at hp
    case isFalse => cases hp
    case isTrue hc =>
      simp only [Option.some.injEq] at hp; subst hp
      apply wrap
      have hcl := tup_list (evs_sat h caps.toList) (fun x hx => List.all_eq_true.1 hc.2 x hx)
      have hf0 : first = #[] := Array.eq_empty_of_size_eq_zero hc.1
      refine ⟨.func (.func f) #[] (caps.toList.map a.eval).toArray, by simp only [sat]; exact ⟨_, rfl, hcl⟩, fun w' _ => ?_⟩
      rw [map_ev, hf0]; simp [Instr.makeFunc]
  case h_10 t x lo hi mx =>
    apply wrap
    obtain ⟨y, hy, hr⟩ := sl_sound G hob (evA_sat h x) (opt_sat h lo) (opt_sat h hi) (opt_sat h mx) hp
    exact ⟨y, hy, fun w' _ => hr w'⟩
  case h_11 t x f =>
    apply wrap
    obtain ⟨y, hy, hr⟩ := fa_sound G hob (evA_sat h x) hp
    exact ⟨y, hy, fun w' _ => hr w'⟩
  case h_12 t x f =>
    apply wrap
    obtain ⟨y, hy, hr⟩ := fd_sound G (evA_sat h x) hp
    exact ⟨y, hy, fun w' _ => hr w'⟩
  case h_13 t x i =>
    apply wrap
    obtain ⟨y, hy, hr⟩ := ix_sound G hob (evA_sat h x) (evA_sat h i) hp
    exact ⟨y, hy, fun w' _ => hr w'⟩
  case h_14 t x i =>
    apply wrap
    obtain ⟨y, hy, hr⟩ := in_sound G (evA_sat h x) (evA_sat h i) hp
    exact ⟨y, hy, fun w' _ => hr w'⟩
  case h_15 x n =>
    apply wrap
    have h1 := evA_sat h x
    split at hp
    case h_2 => cases hp
    case h_1 l hx =>
      rw [hx] at h1
      simp only [sat] at h1
      obtain ⟨vs, hv, hs⟩ := h1
      obtain ⟨y, hy, hsy⟩ := satTup_get hs hp
      exact ⟨y, hsy, fun w' _ => by rw [hv]; simp [Instr.extract, hy]⟩
  case h_16 t parts =>
    apply wrap
    obtain ⟨y, hy, hr⟩ := bd_sound G (parts_sat h parts.toList) hp
    refine ⟨y, hy, fun w' _ => ?_⟩
    have := hr w'
    have e1 : (parts.toList.map fun p => (p.1, a.eval p.2)).toArray = parts.map fun p => (p.1, a.eval p.2) := by rw [← Array.toList_map]
    rw [e1] at this
    exact this
  case h_17 t x =>
    apply wrap
    have h1 := evA_sat h x
    split at hp
    case h_1 n e els fl hk hx =>
      split at hp
      case isFalse => cases hp
      case isTrue hn =>
        simp only [Option.some.injEq] at hp; subst hp
        obtain ⟨d, hd, hfit⟩ := kindOf_und G hk
        simp only [TK.fits] at hfit; subst hfit
        rw [hx] at h1
        simp only [sat] at h1
        obtain ⟨ad, cap, hv, g1, g2, g3, g4⟩ := h1
        rcases g4 with g4 | ⟨b, off, k, rfl, g5, g6, g7, g8⟩
        · rw [g4] at hn; simp at hn; omega
        · refine ⟨.pointer (some ⟨b, off + presegs els 0 + 0, none⟩), by simp only [sat]; exact ⟨b, off, rfl, g5, g6, g8⟩, fun w' _ => ?_⟩
          have hlt : ¬ els.length < n := by omega
          simp [hv, Instr.arrayAt, run_underlying hd, hlt, presegs]
    case h_2 n e nm off len hk hx =>
      split at hp
      case isFalse => cases hp
      case isTrue hn =>
        simp only [Option.some.injEq] at hp; subst hp
        obtain ⟨d, hd, hfit⟩ := kindOf_und G hk
        simp only [TK.fits] at hfit; subst hfit
        rw [hx] at h1
        simp only [sat] at h1
        rcases h1 with ⟨h0, _⟩ | ⟨b, k', cap, cur, ty, fr, hm, hL, hv, _⟩
        · omega
        · refine ⟨.pointer (some ⟨b, (L nm).pre off + 0, none⟩), by simp only [sat]; exact ⟨b, hm, rfl⟩, fun w' _ => ?_⟩
          have hL' : L nm = .uni k' := hL
          have hlt : ¬ len < n := by omega
          simp [hv, Instr.arrayAt, run_underlying hd, hlt, hL', Lay.pre]
    case h_3 => cases hp
  case h_18 c =>
    obtain ⟨callee, args, argTypes⟩ := c
    simp only at hp
    split at hp
    case h_1 x t hx ht =>
      have e1 : args = #[x] := by rw [← Array.toList_inj]; exact hx
      have e2 : argTypes = #[t] := by rw [← Array.toList_inj]; exact ht
      subst e1; subst e2
      obtain ⟨y, hy, hr⟩ := len_sound G (ty := type) (evA_sat h x) hp
      exact ⟨y, hy, fun w' _ => by simp [resolve, invoke, builtin, hr w']⟩
    case h_2 =>
      obtain ⟨y, hy, hr⟩ := mm_sound (P := P) argTypes type (evs_sat h args.toList) hp
      refine ⟨y, hy, fun w' _ => ?_⟩
      have := (hr w').1
      rw [map_ev] at this
      simp [resolve, invoke, builtin, this]
    case h_3 =>
      obtain ⟨y, hy, hr⟩ := mm_sound (P := P) argTypes type (evs_sat h args.toList) hp
      refine ⟨y, hy, fun w' _ => ?_⟩
      have := (hr w').1
      rw [map_ev] at this
      simp [resolve, invoke, builtin, this]
    case h_4 => cases hp
  case h_19 => cases hp
end
end Go.Av
