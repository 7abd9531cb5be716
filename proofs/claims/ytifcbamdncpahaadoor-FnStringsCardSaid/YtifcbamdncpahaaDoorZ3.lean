/- How a typed evaluator tells the code of a function: definitions and soundness, part 3. -/
import Derived.Test.YtifcbamdncpahaaDoorZ2
set_option linter.unusedVariables false
set_option linter.unusedSimpArgs false
namespace Go.Tv
open Go Go.RowKit
theorem satC_weak {c : Ctx} {s s' : Bool} {t : Ty} {x : t.den} {vs : List Value} (hs : s' = true → s = true) (h : satC c (.val s t x) vs) : satC c (.val s' t x) vs := by
  simp only [satC] at h ⊢; exact VS_weak hs h
theorem sat_weak {c : Ctx} {s s' : Bool} {t : Ty} {x : t.den} {y : Value} (hs : s' = true → s = true) (h : sat c (.val s t x) y) : sat c (.val s' t x) y := by
  cases ha : t.agg with
  | true =>
    obtain ⟨vs, rfl, h1⟩ := (sat_agg (v := .val s t x) rfl ha).1 h
    exact (sat_agg (v := .val s' t x) rfl ha).2 ⟨vs, rfl, satC_weak hs h1⟩
  | false => exact (sat_one (v := .val s' t x) rfl ha).2 (satC_weak hs ((sat_one (v := .val s t x) rfl ha).1 h))
theorem map_ev (f : Operand → Value) (l : Array Operand) : (l.toList.map f).toArray = l.map f := by
  rw [← Array.toList_map]
section
variable {P : Program} {c : Ctx} {G : Tab} (hG : TabOK P G) {ob : Nat → Option TObj} (hob : ∀ nm o, ob nm = some o → objOK c nm o) {e : Nat → TV} {a : Act} (he : EvOK c e a)
include hG hob in
theorem ld_sound {t : TypeId} {x v : TV} {vx : Value} (hx : sat c x vx) (h : ldT G ob t x = some (true, v)) : ∃ y, sat c v y ∧ (Instr.loadAt t vx).run P c.w = .ok y c.w := by
  unfold ldT at h
  split at h
  case h_3 => cases h
  case h_1 hx nm p =>
    split at h
    case h_2 => cases h
    case h_1 o ho =>
      split at h
      case h_2 => cases h
      case h_1 v' hg =>
        split at h
        case h_2 => cases h
        case h_1 hf =>
          simp only [Option.some.injEq, Prod.mk.injEq] at h
          obtain ⟨_, rfl⟩ := h
          obtain ⟨b, k, ln, h1, rfl, h2, h3⟩ := sat_ptr.1 hx
          obtain ⟨cur, ty, fr, k1, k2, k3⟩ := getO_sound (hob nm o ho) h1 h2 h3 hg
          obtain ⟨f1, f2⟩ := fitG_spec hG hf
          obtain ⟨y, hy, hr⟩ := run_load (P := P) (t := t) (fun w => (f2 w).1) (fun w => (f2 w).2) f1 k2 (mem_of_row k1 _ _)
          exact ⟨y, hy, by simpa [Instr.loadAt, Instr.sureAddr] using hr⟩
  case h_2 hx s t' x' =>
    split at h
    case h_2 => cases h
    case h_1 hf =>
      simp only [Option.some.injEq, Prod.mk.injEq] at h
      obtain ⟨_, rfl⟩ := h
      obtain ⟨b, off, us, rfl, g1, g2, g3⟩ := sat_rptr.1 hx
      obtain ⟨f1, f2⟩ := fitG_spec hG hf
      obtain ⟨y, hy, hr⟩ := run_load (P := P) (t := t) (fun w => (f2 w).1) (fun w => (f2 w).2) f1 (satC_mkv g2) g3
      exact ⟨y, hy, by simpa [Instr.loadAt, Instr.sureAddr] using hr⟩
theorem opt_sat (he : EvOK c e a) (x : Option Operand) : OptSat c (x.map (evA e)) (x.map a.eval) := by
  cases x with
  | none => trivial
  | some x => exact he x
include hG hob he in
theorem pv_sound (o : Oper) {v : TV} (hp : pv G o.op e ob = some (true, v)) : ∃ y, sat c v y ∧ (execOp a.eval o).run P c.w = .ok (.value y) c.w := by
  have wrap : ∀ {s : Sem Value} {v : TV}, (∃ y, sat c v y ∧ s.run P c.w = .ok y c.w) → ∃ y, sat c v y ∧ (do pure (Next.value (← s)) : Sem Next).run P c.w = .ok (.value y) c.w := by
    rintro s v ⟨y, hy, hr⟩
    exact ⟨y, hy, by rw [Sem.run_bind, hr]; rfl⟩
  have wrap' : ∀ {s : Sem Value} {v : TV}, (∃ y, sat c v y ∧ ∀ w', s.run P w' = .ok y w') → ∃ y, sat c v y ∧ (do pure (Next.value (← s)) : Sem Next).run P c.w = .ok (.value y) c.w := by
    rintro s v ⟨y, hy, hr⟩
    exact ⟨y, hy, by rw [Sem.run_bind, hr]; rfl⟩
  obtain ⟨dst, op, type, pos, after, guard⟩ := o
  unfold pv at hp
  simp only at hp
  unfold execOp
  simp only
  split at hp
  case h_1 x =>
    simp only [Option.some.injEq, Prod.mk.injEq] at hp; obtain ⟨_, rfl⟩ := hp
    exact ⟨a.eval x, he x, rfl⟩
  case h_2 x =>
    simp only [Option.some.injEq, Prod.mk.injEq] at hp; obtain ⟨_, rfl⟩ := hp
    exact ⟨a.eval x, he x, rfl⟩
  case h_3 cc x y =>
    have h1 := he cc
    have h2 := he x
    have h3 := he y
    split at hp
    case h_2 => cases hp
    case h_1 s0 b s t p s' t' q e1 e2 e3 =>
      rw [e1] at h1; rw [e2] at h2; rw [e3] at h3
      split at hp
      case h_2 => cases hp
      case h_1 q' hq =>
        simp only [Option.some.injEq, Prod.mk.injEq] at hp; obtain ⟨_, rfl⟩ := hp
        have := castT_eq hq
        injection this with g1 g2
        subst g1; cases g2
        have h1 := sat_bool.1 h1
        change Bool at b
        cases b with
        | true => exact ⟨a.eval x, sat_weak (s := s) (fun h => (Bool.and_eq_true _ _ ▸ h).1) h2, by simp [h1, asBool]⟩
        | false => exact ⟨a.eval y, sat_weak (s := s') (fun h => (Bool.and_eq_true _ _ ▸ h).2) h3, by simp [h1, asBool]⟩
  case h_4 t x =>
    apply wrap
    exact ld_sound hG hob (he x) hp
  case h_5 x =>
    have h1 := he x
    split at hp
    case h_1 nm p hx =>
      simp only [Option.some.injEq, Prod.mk.injEq] at hp; obtain ⟨_, rfl⟩ := hp
      rw [hx] at h1
      refine ⟨a.eval x, h1, ?_⟩
      obtain ⟨b, k, ln, _, hv, _⟩ := sat_ptr.1 h1
      simp [hv]
    case h_2 s t' x' hx =>
      simp only [Option.some.injEq, Prod.mk.injEq] at hp; obtain ⟨_, rfl⟩ := hp
      rw [hx] at h1
      refine ⟨a.eval x, h1, ?_⟩
      obtain ⟨b, off, us, hv, _⟩ := sat_rptr.1 h1
      simp [hv]
    case h_3 => cases hp
  case h_6 op t x y yt =>
    apply wrap'
    exact bin_sound hG x y (he x) (he y) hp
  case h_7 op t x =>
    have h1 := he x
    apply wrap'
    split at hp
    case h_1 s k n hx =>
      simp only [Option.some.injEq, Prod.mk.injEq] at hp; obtain ⟨_, rfl⟩ := hp
      rw [hx] at h1
      have h1 := sat_int.1 h1
      refine ⟨_, sat_int.2 rfl, fun w' => ?_⟩
      rw [h1]
      simp [Op.unary, Op.intArith, negD]
      exact (wK_eq k _).symm
    case h_2 s b hx =>
      simp only [Option.some.injEq, Prod.mk.injEq] at hp; obtain ⟨_, rfl⟩ := hp
      rw [hx] at h1
      have h1 := sat_bool.1 h1
      refine ⟨_, sat_bool.2 rfl, fun w' => ?_⟩
      rw [h1]
      simp [Op.unary, notD]
    case h_3 => cases hp
  case h_8 s d x =>
    apply wrap
    split at hp
    case h_2 => cases hp
    case h_1 v' hv =>
      simp only [Option.some.injEq, Prod.mk.injEq] at hp; obtain ⟨_, rfl⟩ := hp
      exact cv_sound hG hob (he x) hv
  case h_9 f first caps =>
    split at hp
    case h_2 => cases hp
    case h_1 hf hc =>
      simp only [Option.some.injEq, Prod.mk.injEq] at hp; obtain ⟨_, rfl⟩ := hp
      apply wrap'
      have hf0 : first = #[] := by rw [← Array.toList_inj]; exact hf
      refine ⟨.func (.func f) #[] (caps.toList.map a.eval).toArray, sat_clo.2 ⟨_, rfl, caps_sound he hc⟩, fun w' => ?_⟩
      rw [map_ev, hf0]; simp [Instr.makeFunc]
  case h_10 t x lo hi mx =>
    apply wrap'
    exact sl_sound hG hob (he x) (opt_sat he lo) (opt_sat he hi) (opt_sat he mx) hp
  case h_11 t x f =>
    apply wrap'
    exact fa_sound hG (he x) hp
  case h_12 t x f =>
    apply wrap'
    exact fd_sound hG (he x) hp
  case h_13 t x i =>
    apply wrap'
    exact ix_sound hG hob (he x) (he i) hp
  case h_14 t x i =>
    apply wrap'
    exact in_sound hG (he x) (he i) hp
  case h_15 x n =>
    apply wrap'
    have h1 := he x
    split at hp
    case h_2 => cases hp
    case h_1 u hu =>
      split at hp
      case h_2 => cases hp
      case h_1 ht =>
        simp only [Option.some.injEq, Prod.mk.injEq] at hp; obtain ⟨_, rfl⟩ := hp
        have htup : isTup (evA e x) = true := by
          cases hq : evA e x <;> first | rfl | (rw [hq] at hu; simp [nthT] at hu)
        simp only [sat, htup] at h1
        obtain ⟨vs, hv, hs⟩ := h1
        obtain ⟨y, hy, hsy⟩ := nthT_sound hu hs
        exact ⟨y, by simp only [sat, ht]; exact hsy, fun w' => by rw [hv]; simp [Instr.extract, hy]⟩
  case h_16 t parts =>
    apply wrap'
    split at hp
    case h_2 => cases hp
    case h_1 ty hty =>
      split at hp
      case h_2 => cases hp
      case h_1 v' hag hfi =>
        split at hp
        case h_2 => cases hp
        case h_1 hva =>
          simp only [Option.some.injEq, Prod.mk.injEq] at hp; obtain ⟨_, rfl⟩ := hp
          obtain ⟨y, hy, hr⟩ := bd_sound hG he hty hag hfi hva
          refine ⟨y, hy, fun w' => ?_⟩
          have := hr w'
          have e1 : (parts.toList.map fun p => (p.1, a.eval p.2)).toArray = parts.map fun p => (p.1, a.eval p.2) := by rw [← Array.toList_map]
          rw [e1] at this
          exact this
  case h_17 t x =>
    apply wrap'
    have h1 := he x
    split at hp
    case h_2 => cases hp
    case h_1 n e0 s e' l ht hx =>
      simp only [Option.some.injEq, Prod.mk.injEq] at hp; obtain ⟨hb, rfl⟩ := hp
      rw [hx] at h1
      obtain ⟨q, hq, hqt⟩ := tyOf_look ht
      have hok := hG.ty hq
      obtain ⟨el, hu, hie⟩ := tyB_arr hok hqt
      have hpos := (tyB_inf hok).pos
      rw [hqt] at hpos
      have hn : 0 < n := Nat.pos_of_mul_pos_right (show 0 < n * e0.size from hpos)
      obtain ⟨ad, cap, hv, g1, g2, g3⟩ := sat_sl.1 h1
      have hb : slb 0 n (List.length l) = true := hb
      have hle : n ≤ List.length l := by have := (slb_spec hb).2.2; omega
      rcases g3 with g3 | ⟨b, off, us, rfl, k1, k2, k3⟩
      · have : List.length l = 0 := by rw [g3]; rfl
        omega
      · have hr := rowsS_sub (k := e'.size) (fun _ _ => VS_len) k2 0 n (Nat.zero_le _)
        refine ⟨.pointer (some ⟨b, off, none⟩), sat_rptr.2 ⟨b, off, (us.drop (0 * e'.size)).take (((List.drop 0 (l : List e'.den)).take n).length * e'.size), rfl, k1, ?_, ?_⟩, fun w' => ?_⟩
        · simp only [VS]
          have e1 : Arr.els n (aofD n e' l) = List.take n (List.drop 0 (l : List e'.den)) := Arr.of_els (α := e'.den) e'.zero l hle
          rw [e1]; exact hr
        · have := k3.sub (0 * e'.size) (((List.drop 0 (l : List e'.den)).take n).length * e'.size)
          have e0 : off + 0 * e'.size = off := by rw [Nat.zero_mul, Nat.add_zero]
          rwa [e0] at this
        · have hlt : ¬ List.length l < n := by omega
          simp [hv, Instr.arrayAt, run_underlying hu, hlt]
  case h_18 cc =>
    obtain ⟨callee, args, argTypes⟩ := cc
    simp only at hp
    split at hp
    case h_1 x t hx ht =>
      have e1 : args = #[x] := by rw [← Array.toList_inj]; exact hx
      have e2 : argTypes = #[t] := by rw [← Array.toList_inj]; exact ht
      subst e1; subst e2
      have h1 := he x
      split at hp
      case h_1 n e' ht' =>
        simp only [Option.some.injEq, Prod.mk.injEq] at hp; obtain ⟨_, rfl⟩ := hp
        obtain ⟨q, hq, hqt⟩ := tyOf_look ht'
        obtain ⟨el, hu, hie⟩ := tyB_arr (hG.ty hq) hqt
        exact ⟨.int .i64 n, sat_int.2 rfl, by simp [resolve, invoke, builtin, Builtin.len_, run_underlying hu, goInt]⟩
      case h_2 ht' =>
        split at hp
        case h_2 => cases hp
        case h_1 S hs =>
          simp only [Option.some.injEq, Prod.mk.injEq] at hp; obtain ⟨_, rfl⟩ := hp
          obtain ⟨q, hq, hqt⟩ := tyOf_look ht'
          have hu := tyB_str (hG.ty hq) hqt
          have hv := strs_spec h1 hs
          exact ⟨.int .i64 (ByteArray.size S), sat_int.2 rfl, by simp [resolve, invoke, builtin, Builtin.len_, run_underlying hu, goInt, hv]⟩
      case h_3 e' ht' =>
        split at hp
        case h_2 => cases hp
        case h_1 n hs hl =>
          simp only [Option.some.injEq, Prod.mk.injEq] at hp; obtain ⟨_, rfl⟩ := hp
          obtain ⟨q, hq, hqt⟩ := tyOf_look ht'
          obtain ⟨hu, _⟩ := tyB_sl (hG.ty hq) hqt
          obtain ⟨ad, cap, hv⟩ := len_spec hob h1 hl hs
          exact ⟨.int .i64 n, sat_int.2 rfl, by simp [resolve, invoke, builtin, Builtin.len_, run_underlying hu, goInt, hv]⟩
      case h_4 => cases hp
    case h_2 x t hx ht =>
      have e1 : args = #[x] := by rw [← Array.toList_inj]; exact hx
      have e2 : argTypes = #[t] := by rw [← Array.toList_inj]; exact ht
      subst e1; subst e2
      have h1 := he x
      split at hp
      case h_1 e' ht' hx' =>
        simp only [Option.some.injEq, Prod.mk.injEq] at hp; obtain ⟨_, rfl⟩ := hp
        obtain ⟨q, hq, hqt⟩ := tyOf_look ht'
        obtain ⟨hu, _⟩ := tyB_sl (hG.ty hq) hqt
        rw [hx'] at h1
        have hv := sat_nil.1 h1
        exact ⟨.int .i64 0, sat_int.2 rfl, by simp [resolve, invoke, builtin, Builtin.cap_, run_underlying hu, goInt, hv]⟩
      case h_2 e' s2 e2 l ht' hx' =>
        simp only [Option.some.injEq, Prod.mk.injEq] at hp; obtain ⟨_, rfl⟩ := hp
        obtain ⟨q, hq, hqt⟩ := tyOf_look ht'
        obtain ⟨hu, _⟩ := tyB_sl (hG.ty hq) hqt
        rw [hx'] at h1
        obtain ⟨ad, hv, _⟩ := sat_fl.1 h1
        exact ⟨.int .i64 (List.length l : Nat), sat_int.2 rfl, by simp [resolve, invoke, builtin, Builtin.cap_, run_underlying hu, goInt, hv]⟩
      case h_3 => cases hp
    case h_3 x y l hx =>
      split at hp
      case h_2 => cases hp
      case h_1 v' hv =>
        simp only [Option.some.injEq, Prod.mk.injEq] at hp; obtain ⟨_, rfl⟩ := hp
        obtain ⟨u, k1, k2⟩ := foldT_sound (P := P) (F := Builtin.min2) (fun k p q w => by simp [Builtin.min2, minD, mnI]) c.w he hv (he x)
        refine ⟨u, k1, ?_⟩
        have e1 : args.map a.eval = (a.eval x :: (y :: l).map a.eval).toArray := by rw [← map_ev, hx]; rfl
        simp only [resolve, Sem.run_bind, Sem.run_pure, Result.andThen_ok, e1, invoke, builtin, Builtin.min_, k2]
    case h_4 x y l hx =>
      split at hp
      case h_2 => cases hp
      case h_1 v' hv =>
        simp only [Option.some.injEq, Prod.mk.injEq] at hp; obtain ⟨_, rfl⟩ := hp
        obtain ⟨u, k1, k2⟩ := foldT_sound (P := P) (F := Builtin.max2) (fun k p q w => by simp [Builtin.max2, maxD, mxI]) c.w he hv (he x)
        refine ⟨u, k1, ?_⟩
        have e1 : args.map a.eval = (a.eval x :: (y :: l).map a.eval).toArray := by rw [← map_ev, hx]; rfl
        simp only [resolve, Sem.run_bind, Sem.run_pure, Result.andThen_ok, e1, invoke, builtin, Builtin.max_, k2]
    case h_5 => cases hp
  case h_19 => cases hp
end
end Go.Tv
namespace Go.Tv
set_option linter.unusedSectionVars false
open Go Go.RowKit
theorem setAll_kills (ob : Nat → Option TObj) : ∀ (l : List Nat) (x : Nat), setAll ob (killsOf l) x = if x ∈ l then none else ob x
  | [], x => rfl
  | n :: l, x => by
    show upd (setAll ob (killsOf l)) n none x = _
    by_cases h : x = n
    · subst h; rw [upd_same]; simp
    · rw [upd_ne _ _ h, setAll_kills ob l x]; simp [h]
def St.killL (st : St) (l : List Nat) : St := { st with objs := setAll st.objs (killsOf l) }
theorem killL_some {st : St} {l : List Nat} {x : Nat} {o : TObj} (h : (st.killL l).objs x = some o) : st.objs x = some o ∧ x ∉ l := by
  simp only [St.killL, setAll_kills] at h
  split at h
  · cases h
  · rename_i hx; exact ⟨h, hx⟩
theorem killL_of {st : St} {l : List Nat} {x : Nat} {o : TObj} (h : st.objs x = some o) (hx : x ∉ l) : (st.killL l).objs x = some o := by
  simp only [St.killL, setAll_kills, if_neg hx]; exact h
def Sub (ob ob' : Nat → Option TObj) : Prop := ∀ nm o, ob nm = some o → ob' nm = some o
theorem asD_names {ob : Nat → Option TObj} : ∀ {v : TV} {t : Ty} {s : Bool} {n : List Nat} {d : DV}, asD ob t v = some (s, n, d) → ∀ nm ∈ n, ∃ o, ob nm = some o := by
  intro v
  induction v with
  | val s0 t0 x =>
    intro t s n d h
    simp only [asD, Option.some.injEq, Prod.mk.injEq] at h
    obtain ⟨_, rfl, _⟩ := h
    intro nm hn; cases hn
  | fl s0 e l =>
    intro t s n d h
    simp only [asD, Option.some.injEq, Prod.mk.injEq] at h
    obtain ⟨_, rfl, _⟩ := h
    intro nm hn; cases hn
  | nil =>
    intro t s n d h
    cases t <;> first
      | (simp [asD] at h; done)
      | (simp only [asD, Option.some.injEq, Prod.mk.injEq] at h
         obtain ⟨_, rfl, _⟩ := h
         intro nm hn; cases hn)
  | own nm =>
    intro t s n d h
    simp only [asD] at h
    split at h
    case h_2 => cases h
    case h_1 ho =>
      simp only [Option.some.injEq, Prod.mk.injEq] at h
      obtain ⟨_, rfl, _⟩ := h
      intro x hx; simp only [List.mem_singleton] at hx; subst hx; exact ⟨_, ho⟩
  | ownp nm off len =>
    intro t s n d h
    simp only [asD] at h
    split at h
    case h_2 => cases h
    case h_1 ho =>
      simp only [Option.some.injEq, Prod.mk.injEq] at h
      obtain ⟨_, rfl, _⟩ := h
      intro x hx; simp only [List.mem_singleton] at hx; subst hx; exact ⟨_, ho⟩
  | sv nm p e len =>
    intro t s n d h
    simp only [asD] at h
    split at h
    case h_2 => cases h
    case h_1 o ho =>
      split at h
      case h_2 => cases h
      case h_1 =>
        split at h
        case h_2 => cases h
        case h_1 =>
          simp only [Option.some.injEq, Prod.mk.injEq] at h
          obtain ⟨_, rfl, _⟩ := h
          intro x hx; simp only [List.mem_singleton] at hx; subst hx; exact ⟨_, ho⟩
  | pr a b iha ihb =>
    intro t s n d h
    cases t with
    | pair ta tb =>
      simp only [asD] at h
      split at h
      case h_2 => cases h
      case h_1 h1 h2 =>
        simp only [Option.some.injEq, Prod.mk.injEq] at h
        obtain ⟨_, rfl, _⟩ := h
        intro x hx
        rcases List.mem_append.1 hx with hx | hx
        · exact iha h1 x hx
        · exact ihb h2 x hx
    | _ => simp [asD] at h
  | _ => intro t s n d h; cases t <;> simp [asD] at h
theorem asT_names {ob : Nat → Option TObj} {v : TV} {t : Ty} {s : Bool} {n : List Nat} {x : t.den} (h : asT ob t v = some (s, n, x)) : ∀ nm ∈ n, ∃ o, ob nm = some o := by
  unfold asT at h
  split at h
  case h_2 => cases h
  case h_1 hd =>
    split at h
    case h_2 => cases h
    case h_1 =>
      simp only [Option.some.injEq, Prod.mk.injEq] at h
      obtain ⟨_, rfl, _⟩ := h
      exact asD_names hd
section
variable [Inv] {B : Base} {F : Nat → Prop} {st : St} {m : Nat → Option Nat} {L : Nat → Option (Nat × Nat)} {a : Act} {w : World}
theorem Rep.killL (h : Rep B F st m L a w) (l : List Nat) : Rep B F (st.killL l) m L a w := h.sub (fun _ _ ho => (killL_some ho).1) fun _ => .inr rfl
theorem Rep.lend (h : Rep B F st m L a w) {l : List Nat} (hl : ∀ nm ∈ l, ∃ o, st.objs nm = some o) : Lend (st.ctx B m L w) ((st.killL l).ctx B m L w) l := by
  refine ⟨rfl, fun s b hb => ⟨hb.1, fun ⟨n, o, h1, h2⟩ => hb.2.1 ⟨n, o, (killL_some h1).1, h2⟩, hb.2.2⟩, fun nm b hn hb hlt => ⟨hlt, fun ⟨n', o, h1, h2⟩ => ?_, fun _ hy => ?_⟩⟩
  · obtain ⟨o1, ho1⟩ := hl nm hn
    obtain ⟨h3, h4⟩ := killL_some h1
    exact h4 (h.inj n' nm o o1 b h3 ho1 h2 hb ▸ hn)
  · obtain ⟨o1, ho1⟩ := hl nm hn
    exact h.yb nm o1 b ho1 hb hy
theorem kill_step (st : St) (l : List Nat) (B : Base) (m : Nat → Option Nat) (L : Nat → Option (Nat × Nat)) (w : World) : WStep (st.ctx B m L w) ((st.killL l).ctx B m L w) :=
  ⟨Ev.refl _ _, fun _ _ ⟨n, o, h1, h2⟩ => ⟨n, o, (killL_some h1).1, h2⟩, fun _ _ h => h, fun _ _ h => h, fun _ _ h => h⟩
end
theorem rep_mod {z : Array Value} (n : Nat) (hz : 0 < z.size) : (Array.range (n * z.size)).map (z[· % z.size]!) = (List.replicate n z.toList).flatten.toArray := by
  apply Array.ext'
  simp only [Array.toList_map, Array.toList_range]
  induction n with
  | zero => simp
  | succ n ih =>
    rw [Nat.succ_mul, List.range_add, List.map_append, ih, List.replicate_succ', List.flatten_append]
    congr 1
    simp only [List.flatten_cons, List.flatten_nil, List.append_nil, List.map_map]
    apply List.ext_getElem?
    intro i
    rw [List.getElem?_map]
    by_cases hi : i < z.size
    · simp [List.getElem?_range, hi, Nat.add_mod, Nat.mod_eq_of_lt hi]
    · rw [List.getElem?_eq_none (by simp; omega), List.getElem?_eq_none (by simp; omega)]; rfl
theorem freeze_new (w : World) (cs : Array Value) (t : TypeId) {n : Nat} (hn : cs.size = n) : (w.alloc (.cells cs t)).freeze ⟨w.heap.size, n, none⟩ 1 = w.alloc (.cells cs t (n, n + 1)) := by
  unfold World.freeze World.alloc
  simp only [Nat.one_ne_zero, if_false]
  congr 1
  apply Array.ext
  · simp
  · intro i h1 h2
    simp only [Array.getElem_modify, Array.getElem_push]
    simp at h2
    by_cases hi : i < w.heap.size
    · simp [hi, Nat.ne_of_gt hi]
    · have : i = w.heap.size := by omega
      subst this; simp
section
variable {P : Program} {G : Tab} (hG : TabOK P G)
include hG in
theorem sizeG_pos {t : TypeId} {n : Nat} (h : sizeG G t = some n) : 0 < n := by
  unfold sizeG tyOf at h
  cases hl : look G.ty t with
  | some x =>
    rw [hl] at h
    simp only [Option.some.injEq] at h
    subst h
    exact (tyB_inf (hG.ty hl)).pos
  | none =>
    rw [hl] at h
    simp only at h
    split at h
    case h_2 => cases h
    case h_1 => simp only [Option.some.injEq] at h; omega
theorem set_app {α : Type} {l ys : List α} {y : α} {i : Nat} (hi : i < l.length) : (l.set i y).take (i + 1) ++ ys ++ (l.set i y).drop (i + 1 + ys.length) = l.take i ++ y :: ys ++ l.drop (i + (ys.length + 1)) := by
  have hA : (l.take i).length = i := by simp; omega
  have e0 : l.set i y = l.take i ++ y :: l.drop (i + 1) := by rw [List.set_eq_take_append_cons_drop, if_pos hi]
  have t1 : (l.set i y).take (i + 1) = l.take i ++ [y] := by
    rw [e0, List.take_append, List.take_of_length_le (by omega), hA, show i + 1 - i = 1 by omega]; rfl
  have t2 : (l.set i y).drop (i + 1 + ys.length) = l.drop (i + (ys.length + 1)) := by
    rw [e0, List.drop_append, List.drop_of_length_le (by omega), hA, List.nil_append, show i + 1 + ys.length - i = ys.length + 1 by omega, List.drop_succ_cons, List.drop_drop]
    congr 1; omega
  rw [t1, t2]; simp
theorem asD_size {ob : Nat → Option TObj} : ∀ {v : TV} {t : Ty} {s : Bool} {n : List Nat} {d : DV}, asD ob t v = some (s, n, d) → sizeT v = d.t.size := by
  intro v
  induction v with
  | pr a b iha ihb =>
    intro t s n d h
    cases t with
    | pair ta tb =>
      simp only [asD] at h
      split at h
      case h_2 => cases h
      case h_1 h1 h2 =>
        simp only [Option.some.injEq, Prod.mk.injEq] at h
        obtain ⟨_, _, rfl⟩ := h
        simp only [sizeT, iha h1, ihb h2]; rfl
    | _ => simp [asD] at h
  | nil =>
    intro t s n d h
    cases t <;> first
      | (simp [asD] at h; done)
      | (simp only [asD, Option.some.injEq, Prod.mk.injEq] at h
         obtain ⟨_, _, rfl⟩ := h; rfl)
  | _ =>
    intro t s n d h
    unfold asD at h
    repeat' (split at h)
    all_goals first
      | (cases h; done)
      | (simp only [Option.some.injEq, Prod.mk.injEq] at h; obtain ⟨_, _, rfl⟩ := h; rfl)
      | skip
theorem asT_size {ob : Nat → Option TObj} {v : TV} {t : Ty} {s : Bool} {n : List Nat} {x : t.den} (h : asT ob t v = some (s, n, x)) : sizeT v = t.size := by
  unfold asT at h
  split at h
  case h_2 => cases h
  case h_1 d hd =>
    split at h
    case h_2 => cases h
    case h_1 x' hx =>
      have := castT_eq hx
      injection this with h1 h2
      rw [asD_size hd, h1]
theorem parts_fill {c c1 : Ctx} {ob : Nat → Option TObj} (hob : ∀ nm o, ob nm = some o → objOK c nm o) {e : Nat → TV} {a : Act} (he : EvOK c e a) {ty : Ty} (hpos : 0 < ty.size) {S : Bool} :
    ∀ {parts : List (Nat × Operand)} {i : Nat} {s : Bool} {n : List Nat} {xs : List ty.den} {l : List ty.den} {cells : Array Value}, elsT ob (evA e) ty i parts = some (s, n, xs) → (S = true → s = true) → Lend c c1 n →
      rowsS (VS c1 S ty) l cells.toList → i + xs.length ≤ l.length →
      ∃ cells', Instr.fill (fun i => some (i * ty.size, ty.size)) cells (parts.map fun p => (p.1, a.eval p.2)) = some cells' ∧ rowsS (VS c1 S ty) (l.take i ++ xs ++ l.drop (i + xs.length)) cells'.toList ∧ cells'.size = cells.size
  | [], i, s, n, xs, l, cells, h, hS, H, hr, hi => by
    simp only [elsT, Option.some.injEq, Prod.mk.injEq] at h
    obtain ⟨_, _, rfl⟩ := h
    exact ⟨cells, rfl, by simpa using hr, rfl⟩
  | (j, x) :: r, i, s, n, xs, l, cells, h, hS, H, hr, hi => by
    simp only [elsT] at h
    split at h
    case h_2 => cases h
    case h_1 s1 n1 y s2 n2 ys hj hy hys =>
      have hj := Nat.eq_of_beq_eq_true hj
      subst hj
      simp only [Option.some.injEq, Prod.mk.injEq] at h
      obtain ⟨rfl, rfl, rfl⟩ := h
      have hS1 : S = true → s1 = true := fun h => (Bool.and_eq_true _ _ ▸ hS h).1
      have hS2 : S = true → s2 = true := fun h => (Bool.and_eq_true _ _ ▸ hS h).2
      have H1 : Lend c c1 n1 := ⟨H.w, H.ok, fun nm b hn => H.nm nm b (by simp [hn])⟩
      have H2 : Lend c c1 n2 := ⟨H.w, H.ok, fun nm b hn => H.nm nm b (by simp [hn])⟩
      simp only [List.length_cons] at hi
      have hcell : ∃ us, VS c1 s1 ty y us ∧ (a.eval x).cells.toList = us := by
        have hv := he x
        have hz : 0 < sizeT (evA e x) := by rw [asT_size hy]; exact hpos
        obtain ⟨k1, k2⟩ := sat_cells hv hz
        exact ⟨_, asT_sound hob hy H1 k1 (by simpa using k2), rfl⟩
      obtain ⟨us, hus, hcu⟩ := hcell
      have hul := VS_len hus
      have hset := rowsS_set (k := ty.size) (fun _ _ => VS_len) hr (i := i) (y := y) (by omega) (VS_weak hS1 hus)
      have hcl := rowsS_len (k := ty.size) (fun _ _ => VS_len) hr
      simp only [Array.length_toList] at hcl
      have hmul : (i + 1) * ty.size ≤ l.length * ty.size := Nat.mul_le_mul_right _ (by omega)
      rw [Nat.succ_mul] at hmul
      have hcs : (a.eval x).cells.size = ty.size := by rw [← hul, ← hcu]; simp
      have hf := foldl_set (i * ty.size) (a.eval x).cells.toList 0 cells (by simp; omega)
      simp only [Nat.add_zero, Array.length_toList] at hf
      have e1 : (a.eval x).cells.zipIdx.foldl (fun cs (q : Value × Nat) => cs.setIfInBounds (i * ty.size + q.2) q.1) cells = ((a.eval x).cells.toList.zipIdx 0).foldl (fun cs (q : Value × Nat) => cs.setIfInBounds (i * ty.size + q.2) q.1) cells := by
        rw [← Array.foldl_toList]; simp
      rw [← e1] at hf
      have hnew : rowsS (VS c1 S ty) (l.set i y) ((a.eval x).cells.zipIdx.foldl (fun cs (q : Value × Nat) => cs.setIfInBounds (i * ty.size + q.2) q.1) cells).toList := by
        rw [hf, hcu]
        have : (a.eval x).cells.size = us.length := by rw [← hcu]; simp
        rw [this]; exact hset
      obtain ⟨cells', q1, q2, q3⟩ := parts_fill hob he hpos hys hS2 H2 hnew (by simp; omega)
      refine ⟨cells', ?_, ?_, ?_⟩
      · simp only [List.map_cons, Instr.fill]
        rw [if_neg (by simp; omega)]
        exact q1
      · have e2 : (l.set i y).take (i + 1) ++ ys ++ (l.set i y).drop (i + 1 + ys.length) = l.take i ++ y :: ys ++ l.drop (i + (ys.length + 1)) := by
          exact set_app (by omega)
        rw [List.length_cons, ← e2]; exact q2
      · rw [q3]
        have := congrArg List.length hf
        simp only [Array.length_toList, List.length_append, List.length_take, List.length_drop] at this
        omega
end
end Go.Tv
namespace Go.Tv
set_option linter.unusedSectionVars false
open Go Go.RowKit
section
variable {P : Program} {G : Tab} (hG : TabOK P G) [Inv] {B : Base} {F : Nat → Prop} {st : St} {m : Nat → Option Nat} {L : Nat → Option (Nat × Nat)} {a : Act} {w : World} {e : Nat → TV} {ob : Nat → Option TObj}
theorem mk_spec {b : Nat} {n m : Int} (h : mkok b n m = true) : 0 ≤ n ∧ n ≤ m ∧ (b : Int) * m ≤ 281474976710656 ∧ m ≤ 9223372036854775807 := by
  simp only [mkok, decide_eq_true_eq] at h; exact h
theorem ctx_m {st : St} {nm b : Nat} {o : Option TObj} {lay : Nat × Nat} {w' : World} : ((st.set nm o).ctx B (upd m nm (some b)) (upd L nm (some lay)) w').m nm = some b := by simp only [St.ctx]; rw [upd_same]
theorem ctx_L {st : St} {nm : Nat} {o : Option TObj} {lay : Nat × Nat} {w' : World} {m' : Nat → Option Nat} : ((st.set nm o).ctx B m' (upd L nm (some lay)) w').L nm = some lay := by simp only [St.ctx]; rw [upd_same]
theorem Rep.newRow (h : Rep B F st m L a w) {nm : Nat} (hF : F nm) {ty : TypeId} {s : Bool} {e : Ty} {l : List e.den} {cells : Array Value} {fr : Nat × Nat} {cap : Nat} {us rest : List Value}
    (hr : rowsS (VS (st.ctx B m L w) s e) l us) (hc : cells.toList = us ++ rest) (hsz : cells.size = cap * e.size) {n : Nat} (hn : l.length = n) (hle : n ≤ cap) (hmax : cap ≤ maxLen) (hfr : noFr fr cells.size) :
    ∃ m' L', Rep B (fun x => F x ∧ x ≠ nm) (st.set nm (some (.rows ty s e l))) m' L' a (w.alloc (.cells cells ty fr)) ∧
      sat ((st.set nm (some (.rows ty s e l))).ctx B m' L' (w.alloc (.cells cells ty fr))) (.own nm) (.slice (some ⟨w.heap.size, 0, none⟩) n cap) := by
  subst hn
  refine ⟨_, _, h.newObj hF (.rows ty s e l) cells ty fr (e.size, l.length) ?_, ?_⟩
  · intro c' H hw hm hL
    refine ⟨hL, .inr ⟨w.heap.size, cells, fr, cap, us, rest, hm, by rw [hw]; exact al_new w _, hfr, hsz, hle, hmax, hc, rowsS_mono (fun _ _ _ h => VS_le (H.le s) h) hr⟩⟩
  · refine sat_own.2 ⟨e.size, l.length, ctx_L, .inr ⟨w.heap.size, e.size, l.length, cap, cells, ty, fr, ctx_m, ctx_L, by simp, hle, al_new w _, by rw [Nat.zero_add]; exact hsz, by omega, by omega⟩⟩
theorem rowsS_flatrep {c : Ctx} (s : Bool) (e : Ty) (n : Nat) : rowsS (VS c s e) (List.replicate n e.zero) (List.replicate n e.zcells).flatten := rowsS_rep (VS_zero c s e) n
theorem info_uniq {t : TypeId} {b : Nat} {i : TypeInfo} (hi : P.info? t = some i) (h : bytesB P t b = true) : i.bytes = b := by
  obtain ⟨j, h1, h2⟩ := bytesB_spec h
  rw [hi] at h1; injection h1 with h1; rw [h1]; exact h2
include hG in
theorem new_sound (h : Rep B F st m L a w) (he : EvOK (st.ctx B m L w) e a) (hs : Sub ob st.objs) (o : Oper) {nm : Nat} (hF : F nm) {v : TV} {obj : TObj} {kills : List Nat} (hn : newT G o.op e ob nm = some (true, v, obj, kills)) :
    ∃ y w' m' L', (execOp a.eval o).run P w = .ok (.value y) w' ∧ Rep B (fun x => F x ∧ x ≠ nm) ((st.killL kills).set nm (some obj)) m' L' a w' ∧ sat (((st.killL kills).set nm (some obj)).ctx B m' L' w') v y := by
  have hob : ∀ n o, ob n = some o → objOK (st.ctx B m L w) n o := fun n o ho => h.obj n o (hs n o ho)
  have h1 := h.killL kills
  obtain ⟨dst, op, type, pos, after, guard⟩ := o
  unfold newT at hn
  simp only at hn
  split at hn
  case h_1 t =>
    split at hn
    case h_2 => cases hn
    case h_1 ty hty =>
      simp only [Option.some.injEq, Prod.mk.injEq] at hn
      obtain ⟨_, rfl, rfl, rfl⟩ := hn
      obtain ⟨x, hx, rfl⟩ := tyOf_look hty
      obtain ⟨i, z, hi, hi1, hi2, hi3⟩ := (tyB_inf (hG.ty hx)).info
      have hzs : z.cells.size = x.t.size := by rw [← zcells_len, ← hi3]; simp
      refine ⟨.pointer (some ⟨w.heap.size, 0, none⟩), _, _, _, ?_, h1.newObj hF (.var t (zeroT x.t)) z.cells t (0, 0) (0, 0) ?_, ?_⟩
      · simp [execOp, Instr.alloc, zeroValue, typeInfo, hi, hi2, newVar, Go.newRow]
      · intro c' H hw hm hL
        refine ⟨hL, w.heap.size, z.cells, (0, 0), hm, by rw [hw]; exact al_new w _, noFr_zero _, ?_, ?_⟩
        · rw [hi3]; exact (zeroT_sat c' x.t).1
        · rw [hzs]; exact (zeroT_sat c' x.t).2.symm
      · exact sat_ptr.2 ⟨w.heap.size, 0, 0, ctx_m, rfl, ctx_L, trivial⟩
  case h_2 t x =>
    split at hn
    case h_2 => cases hn
    case h_1 n hsz =>
      split at hn
      case h_2 => cases hn
      case h_1 hnn =>
        have hnn := Nat.eq_of_beq_eq_true hnn
        simp only [Option.some.injEq, Prod.mk.injEq] at hn
        obtain ⟨_, rfl, rfl, rfl⟩ := hn
        have hpos := sizeG_pos hG hsz
        obtain ⟨k1, k2⟩ := sat_cells (he x) (by omega)
        refine ⟨.pointer (some ⟨w.heap.size, 0, none⟩), _, _, _, ?_, h1.newObj hF (.var t (evA e x)) (a.eval x).cells t (0, 0) (0, 0) ?_, ?_⟩
        · simp [execOp, Instr.box, newVar, Go.newRow]
        · intro c' H hw hm hL
          exact ⟨hL, w.heap.size, _, (0, 0), hm, by rw [hw]; exact al_new w _, noFr_zero _, satC_step H (satC_step (kill_step st [] B m L w) k1), k2⟩
        · exact sat_ptr.2 ⟨w.heap.size, 0, 0, ctx_m, rfl, ctx_L, trivial⟩
  case h_3 t len parts =>
    split at hn
    case h_2 => cases hn
    case h_1 ty el b hl =>
      split at hn
      case h_2 => cases hn
      case h_1 s n xs hel =>
        split at hn
        case h_2 => cases hn
        case h_1 hle hlim =>
          have hle := Nat.le_of_ble_eq_true hle
          have hlim := Nat.le_of_ble_eq_true hlim
          simp only [Option.some.injEq, Prod.mk.injEq] at hn
          obtain ⟨_, rfl, rfl, rfl⟩ := hn
          obtain ⟨hu, hie, _⟩ := tyB_sl (hG.ty hl) rfl
          simp only at hu hie
          obtain ⟨i, z, hi, hi1, hi2, hi3⟩ := hie.info
          have hzs : z.cells.size = ty.size := by rw [← zcells_len, ← hi3]; simp
          have hnames : ∀ nm ∈ n, ∃ o, st.objs nm = some o := by
            intro nm hnm
            have : ∀ {parts : List (Nat × Operand)} {i : Nat} {s : Bool} {n : List Nat} {xs : List ty.den}, elsT ob (evA e) ty i parts = some (s, n, xs) → ∀ nm ∈ n, ∃ o, ob nm = some o := by
              intro parts
              induction parts with
              | nil =>
                intro i s n xs h nm hnm
                simp only [elsT, Option.some.injEq, Prod.mk.injEq] at h
                obtain ⟨_, rfl, _⟩ := h; cases hnm
              | cons q l ih =>
                intro i s n xs h nm hnm
                simp only [elsT] at h
                split at h
                case h_2 => cases h
                case h_1 hj hy hys =>
                  simp only [Option.some.injEq, Prod.mk.injEq] at h
                  obtain ⟨_, rfl, _⟩ := h
                  rcases List.mem_append.1 hnm with hnm | hnm
                  · exact asT_names hy nm hnm
                  · exact ih hys nm hnm
            obtain ⟨o, ho⟩ := this hel nm hnm
            exact ⟨o, hs nm o ho⟩
          have H := h.lend hnames
          have hrep := rowsS_flatrep (c := (st.killL n).ctx B m L w) s ty len
          obtain ⟨cells', k1, k2, k3⟩ := parts_fill (S := s) (cells := (List.replicate len ty.zcells).flatten.toArray) hob he hie.pos hel (fun h => h) H (by simpa using hrep) (by simpa using hle)
          have hcs : cells'.size = len * ty.size := by rw [k3]; simp [zcells_len]
          have hlb : (List.replicate len ty.zero).take 0 ++ xs ++ (List.replicate len ty.zero).drop (0 + xs.length) = lbuildD ty len xs := by
            simp [lbuildD]
          rw [hlb] at k2
          have k2' : rowsS (VS ((st.killL n).ctx B m L w) (s || ty.flat) ty) (lbuildD ty len xs) cells'.toList := rowsS_mono (fun _ _ _ h => VS_or h) k2
          have hll : List.length (lbuildD ty len xs : List ty.den) = len := by
            have := rowsS_len (k := ty.size) (fun _ _ => VS_len) k2
            simp only [Array.length_toList, hcs] at this
            exact (Nat.eq_of_mul_eq_mul_right hie.pos this).symm
          have hmax : len ≤ maxLen := by
            have : len ≤ len * ty.size := Nat.le_mul_of_pos_right _ hie.pos
            simp only [maxLen]; omega
          obtain ⟨m', L', r1, r2⟩ := h1.newRow hF (ty := el) (cap := len) (fr := (0, 0)) k2' (rest := []) (by simp) hcs hll (Nat.le_refl _) hmax (noFr_zero _)
          refine ⟨.slice (some ⟨w.heap.size, 0, none⟩) len len, _, m', L', ?_, r1, r2⟩
          have hfill : Instr.fill (fun i => some (i * ty.size, ty.size)) ((Array.range (len * ty.size)).map fun i => (if len * ty.size = 0 then (#[] : Array Value) else z.cells)[i % (if len * ty.size = 0 then (#[] : Array Value) else z.cells).size]!) (parts.toList.map fun p => (p.1, a.eval p.2)) = some cells' := by
            rw [← k1]
            congr 1
            by_cases h0 : len * ty.size = 0
            · rw [if_pos h0, h0]
              have : len = 0 := by
                rcases Nat.mul_eq_zero.1 h0 with h' | h'
                · exact h'
                · have := hie.pos; omega
              subst this; simp [Array.range_zero']
            · rw [if_neg h0]
              have := rep_mod (z := z.cells) len (by rw [hzs]; exact hie.pos)
              rw [hzs, hi3] at this
              rw [hzs]; exact this
          have hnl : ¬ (len * ty.size > 2 ^ 24) := by omega
          simp only [execOp, Instr.buildSlice, Sem.run_bind, run_underlying hu, Result.andThen_ok, hie.size]
          rw [if_neg hnl]
          by_cases h0 : len * ty.size = 0
          · simp only [h0, if_true] at hfill ⊢
            simp only [Sem.run_bind, Sem.run_pure, Result.andThen_ok, Array.toList_map]
            rw [hfill]
            simp [Go.newRow]
          · rw [if_neg h0] at hfill ⊢
            simp only [Sem.run_bind, Sem.run_pure, Result.andThen_ok, zeroValue, typeInfo, run_program, hi, hi2, Array.toList_map]
            rw [hfill]
            simp [Go.newRow]
  case h_4 t l c =>
    split at hn
    case h_2 => cases hn
    case h_1 ty el b kl n kc n2 hl hnl hnc =>
      simp only [Option.some.injEq, Prod.mk.injEq] at hn
      obtain ⟨hmk, rfl, rfl, rfl⟩ := hn
      change Int at n
      change Int at n2
      obtain ⟨g0, g1, g2, g3⟩ := mk_spec (b := b) (n := n) (m := n2) hmk
      obtain ⟨hu, hie, hby⟩ := tyB_sl (hG.ty hl) rfl
      simp only at hu hie hby
      obtain ⟨i, z, hi, hi1, hi2, hi3⟩ := hie.info
      have hzs : z.cells.size = ty.size := by rw [← zcells_len, ← hi3]; simp
      have hel := ints_spec (he l) hnl
      have hec := ints_spec (he c) hnc
      have hrun := run_make (P := P) w t el i z hu hi hi2 kl kc n n2 g0 g1 (by rw [info_uniq hi hby]; exact g2) g3
      have hmc : madeCells z.cells (n2.toNat * ty.size) = (List.replicate n2.toNat ty.zcells).flatten.toArray := by
        have := rep_mod (z := z.cells) n2.toNat (by rw [hzs]; exact hie.pos)
        rw [hzs, hi3] at this
        unfold madeCells; rw [hzs]; exact this
      rw [hi1, hmc] at hrun
      have hsplit : (List.replicate n2.toNat ty.zcells).flatten = (List.replicate n.toNat ty.zcells).flatten ++ (List.replicate (n2.toNat - n.toNat) ty.zcells).flatten := by
        rw [← List.flatten_append, List.replicate_append_replicate]; congr 2; omega
      have hmax : n2.toNat ≤ maxLen := by simp only [maxLen]; omega
      have hsz : ((List.replicate n2.toNat ty.zcells).flatten.toArray).size = n2.toNat * ty.size := by simp [zcells_len]
      obtain ⟨m', L', r1, r2⟩ := h1.newRow hF (ty := el) (cap := n2.toNat) (fr := (0, 0)) (cells := (List.replicate n2.toNat ty.zcells).flatten.toArray) (rowsS_flatrep true ty n.toNat) (rest := (List.replicate (n2.toNat - n.toNat) ty.zcells).flatten) hsplit hsz (n := n.toNat) (List.length_replicate ..) (by omega) hmax (noFr_zero _)
      refine ⟨_, _, m', L', ?_, r1, r2⟩
      simp only [execOp, hel, hec, Sem.run_bind, hrun]; rfl
  case h_5 src dst' x =>
    split at hn
    case h_2 => cases hn
    case h_1 el b s S hts hld hx hby =>
      simp only [Option.some.injEq, Prod.mk.injEq] at hn
      obtain ⟨hmaxs, rfl, rfl, rfl⟩ := hn
      change ByteArray at S
      have hmaxs : S.size ≤ maxLen := by
        have : stok S.size = true := hmaxs
        simpa [stok] using this
      obtain ⟨q1, g1, e1⟩ := tyOf_look hts
      have u1 := tyB_str (hG.ty g1) e1
      obtain ⟨q, hq, u2, u3⟩ := isByte_spec hG hby ⟨_, by unfold tyOf; rw [hld]⟩
      rw [hld] at hq; injection hq with hq; subst hq
      simp only at u2 u3
      have hel := he x
      rw [hx] at hel
      have hel := sat_str.1 hel
      generalize hcap : (Question.appendCap S.size 0 el).cut (w.tape w.drawn (.appendCap S.size 0 el)) = cap
      have hge : S.size ≤ cap := by rw [← hcap]; simp [Question.cut]
      have hle : cap ≤ maxLen := by
        rw [← hcap]
        simp only [Question.cut, maxLen] at hmaxs ⊢
        have := Nat.mod_lt (w.tape w.drawn (.appendCap S.size 0 el)) (show 0 < 2 ^ 63 - S.size by omega)
        omega
      have hcs : ((S.data.map fun b : UInt8 => Value.int .u8 b.toNat) ++ Array.replicate (cap - S.size) (Value.int .u8 0)).size = cap := by
        simp; have : S.data.size = S.size := rfl; omega
      have hd := h1.grow (Ev.drew w)
      have hrow : rowsS (VS ((st.killL []).ctx B m L w.drew) true (.int .u8)) (sbytes S) (S.data.toList.map fun b => Value.int .u8 b.toNat) := by
        unfold sbytes
        generalize S.data.toList = l
        induction l with
        | nil => simp [rowsS]
        | cons b l ih => simp only [List.map_cons, rowsS]; exact ⟨[_], _, rfl, by simp only [VS], ih⟩
      have hlen : List.length (sbytes S) = S.size := by simp only [sbytes, List.length_map, Array.length_toList]; rfl
      obtain ⟨m', L', r1, r2⟩ := hd.newRow hF (ty := el) (cap := cap) (fr := (cap, cap + 1)) (e := .int .u8) (cells := (S.data.map fun b => Value.int .u8 b.toNat) ++ Array.replicate (cap - S.size) (.int .u8 0)) hrow (rest := List.replicate (cap - S.size) (.int .u8 0)) (by simp)
        (by rw [hcs]; exact (Nat.mul_one cap).symm) hlen hge hle (by
          intro q hq
          rw [hcs] at hq
          simp only [Bool.and_eq_false_iff, decide_eq_false_iff_not]; omega)
      refine ⟨.slice (some ⟨w.heap.size, 0, none⟩) S.size cap, _, m', L', ?_, r1, r2⟩
      simp only [execOp, hel, convert, Sem.run_bind, run_underlying u1, run_underlying u2, run_underlying u3, Result.andThen_ok, Conv.stringToBytes, run_choose, Question.forced, Bool.false_eq_true, if_false, hcap, Go.newRow, run_newObj, Sem.run_pure, markStringish, run_shape, run_freeze]
      have hsh : (w.drew.alloc (.cells ((S.data.map fun b => Value.int .u8 b.toNat) ++ Array.replicate (cap - S.size) (.int .u8 0)) el)).shape? w.heap.size = some (el, cap) := by
        unfold World.shape?
        have := al_new w.drew (.cells ((S.data.map fun b => Value.int .u8 b.toNat) ++ Array.replicate (cap - S.size) (.int .u8 0)) el)
        rw [show w.drew.heap.size = w.heap.size from rfl] at this
        rw [this]; simp only [hcs]
      have hsh' : World.shape? { heap := w.heap.push (.cells ((S.data.map fun b => Value.int .u8 b.toNat) ++ Array.replicate (cap - S.size) (.int .u8 0)) el), tape := w.tape, drawn := w.drawn + 1, os := w.os, output := w.output } w.heap.size = some (el, cap) := hsh
      rw [hsh']
      simp only [run_freeze, Result.andThen_ok]
      exact congrArg _ (freeze_new w.drew _ _ hcs)
  case h_6 => cases hn
end
end Go.Tv
namespace Go.Tv
set_option linter.unusedSectionVars false
open Go Go.RowKit
theorem run_storeCells_fr (P : Program) (g o : Nat) (t : TypeId) (fr : Nat × Nat) : ∀ (vs : List Value) (i : Nat) (cur : Array Value) (w : World), w.heap[g]? = some (.cells cur t fr) → noFr fr cur.size → o + i + vs.length ≤ cur.size → (∀ v ∈ vs, v.oneCell' = true) →
    (storeCells ⟨g, o, none⟩ vs i).run P w = .ok () (w.setRow g (cur.toList.take (o + i) ++ vs ++ cur.toList.drop (o + i + vs.length)).toArray)
  | [], i, cur, w, hg, _, _, _ => by
    simp only [storeCells, List.append_nil, List.length_nil, Nat.add_zero, List.take_append_drop, Array.toArray_toList]
    rw [setRow_self w g cur t fr hg]
    rfl
  | v :: rest, i, cur, w, hg, hf, hl, h1 => by
    have hi : o + i < cur.size := by simp at hl; omega
    have hcell : w.cell? ⟨g, o + i, none⟩ = some cur[o + i] := by simp [World.cell?, hg, hi]
    have hfro : w.frozen? ⟨g, o + i, none⟩ = false := by simp only [World.frozen?, hg]; exact hf _ hi
    have hst : (store ((⟨g, o, none⟩ : Addr).add i) v).run P w = .ok () (w.setRow g (cur.setIfInBounds (o + i) v)) := by
      rw [add_plain, run_store P w _ v _ (h1 v (by simp)), hcell]
      simp [hfro, setCell_eq_setRow w g (o + i) cur t fr v hg]
    have ih := run_storeCells_fr P g o t fr rest (i + 1) (cur.setIfInBounds (o + i) v) (w.setRow g (cur.setIfInBounds (o + i) v)) (setRow_heap w g cur _ t _ hg) (by simpa using hf) (by simp at hl ⊢; omega) (fun x hx => h1 x (by simp [hx]))
    simp only [storeCells, Sem.run_bind, hst, Result.andThen_ok, ih, setRow_setRow]
    congr 3
    have e := list_seg_step cur.toList (o + i) v rest (by simp at hl ⊢; omega)
    simpa [Array.toList_setIfInBounds, Nat.add_assoc] using e
theorem clr_all {α : Type} (d : α) (l : List α) : clr d l 0 l.length = List.replicate l.length d := by simp [clr]
theorem spl3 {α : Type} (A M R Z : List α) : (A ++ M ++ R).take A.length ++ Z ++ (A ++ M ++ R).drop (A.length + M.length) = A ++ Z ++ R := by
  rw [List.append_assoc A M R, List.take_left, ← List.drop_drop, List.drop_left, List.drop_left]
theorem sat_ones {c : Ctx} {v : TV} {vs : List Value} (h : satC c v vs) (hl : vs.length = sizeT v) : ∀ y ∈ vs, y.oneCell' = true := satC_one h hl
section
variable {P : Program} {G : Tab} (hG : TabOK P G) [Inv] {B : Base} {F : Nat → Prop} {st : St} {m : Nat → Option Nat} {L : Nat → Option (Nat × Nat)} {a : Act} {w : World} {ob : Nat → Option TObj}
theorem toArr (l : List Value) : l.toArray.toList = l := by simp
include hG in
theorem st_sound (h : Rep B F st m L a w) (hs : Sub ob st.objs) {t : TypeId} {x v : TV} {vx vv : Value} (hx : sat (st.ctx B m L w) x vx) (hv : sat (st.ctx B m L w) v vv) {nm : Nat} {hb : Bool} {o' : TObj} {kills : List Nat} (hst : stT G t ob x v = some (nm, hb, o', kills)) :
    ∃ w', (Instr.storeAt t vx vv).run P w = .ok () w' ∧ Rep B F ((st.killL kills).set nm (some o')) m L a w' := by
  have hob : ∀ n o, ob n = some o → objOK (st.ctx B m L w) n o := fun n o ho => h.obj n o (hs n o ho)
  unfold stT at hst
  split at hst
  case h_2 => cases hst
  case h_1 hx nm' p n hsz =>
    split at hst
    case h_2 => cases hst
    case h_1 o ho hnn =>
      have hnn := Nat.eq_of_beq_eq_true hnn
      split at hst
      case h_2 => cases hst
      case h_1 o1 ks hset =>
        split at hst
        case h_1 => cases hst
        case h_2 hmem =>
          simp only [Option.some.injEq, Prod.mk.injEq] at hst
          obtain ⟨rfl, _, rfl, rfl⟩ := hst
          have hpos := sizeG_pos hG hsz
          obtain ⟨b, k, ln, g1, rfl, g2, g3⟩ := sat_ptr.1 hx
          obtain ⟨v1, v2⟩ := sat_cells hv (by omega)
          have hone := satC_one v1 (by simpa using v2)
          have hnk : nm' ∉ ks := fun hin => by
            have : memN nm' ks = true := by
              clear hset
              induction ks with
              | nil => cases hin
              | cons q l ih =>
                unfold memN
                cases hq : Nat.beq nm' q with
                | true => rfl
                | false =>
                  rcases List.mem_cons.1 hin with rfl | hin
                  · rw [Nat.beq_refl] at hq; cases hq
                  · refine ih ?_ hin
                    unfold memN at hmem
                    rw [hq] at hmem; exact hmem
            rw [this] at hmem; cases hmem
          have ho1 : (st.killL ks).objs nm' = some o := killL_of (hs _ _ ho) hnk
          have hk := h.killL ks
          have hrun : ∀ {cur : Array Value} {ty : TypeId} {fr : Nat × Nat}, w.heap[b]? = some (.cells cur ty fr) → noFr fr cur.size → offS p + vv.cells.size ≤ cur.size →
              (Instr.storeAt t (.pointer (some ⟨b, offS p, none⟩)) vv).run P w = .ok () (w.setRow b (cur.toList.take (offS p) ++ vv.cells.toList ++ cur.toList.drop (offS p + vv.cells.toList.length)).toArray) := by
            intro cur ty fr hc hf hle
            have hr := run_storeCells_fr P b (offS p) ty fr vv.cells.toList 0 cur w hc hf (by simp; omega) hone
            simp only [Nat.add_zero] at hr
            have hne : ¬ vv.cells.size ≠ n := by omega
            simp only [Instr.storeAt, Instr.sureAddr, storeVar, Sem.run_bind, Sem.run_pure, Result.andThen_ok, sizeG_spec hG hsz]
            rw [if_neg hne]
            simpa using hr
          cases o with
          | var ty cv =>
            simp only [setO] at hset
            split at hset
            case h_2 => cases hset
            case h_1 c' hc' =>
              simp only [Option.some.injEq, Prod.mk.injEq] at hset
              obtain ⟨rfl, rfl⟩ := hset
              obtain ⟨h0, b', cur, fr, k1, k2, k3, k4, k5⟩ := h.obj _ _ (hs _ _ ho)
              have hbb : b' = b := by rw [g1] at k1; injection k1 with k1; exact k1.symm
              subst hbb
              obtain ⟨m1, m2, m3⟩ := setP_sound hc' k4 (by simpa using k5) g3 v1 (by simpa using v2)
              simp only [Array.length_toList] at m1 m3
              refine ⟨_, hrun k2 k3 m3, hk.setObj ho1 g1 k2 ?_ ?_⟩
              · simp; omega
              · intro c2 H hw hm hL
                refine ⟨by rw [hL]; exact h0, b', _, fr, by rw [hm]; exact g1, by rw [hw]; exact setRow_heap w b' cur _ ty fr k2, ?_, ?_, ?_⟩
                · have : (cur.toList.take (offS p) ++ vv.cells.toList ++ cur.toList.drop (offS p + vv.cells.toList.length)).toArray.size = cur.size := by simp; omega
                  rw [this]; exact k3
                · rw [toArr]
                  have : vv.cells.toList.length = vv.cells.size := by simp
                  rw [this]
                  exact satC_step H (satC_step (kill_step st [] B m L w) m1)
                · simp; omega
          | rows ty s e l =>
            cases p with
            | nil => cases hset
            | cons stp p' =>
            cases stp with
            | fst => cases hset
            | snd _ => cases hset
            | idx i k0 bb =>
            cases bb with
            | some _ => cases hset
            | none =>
              simp only [setO] at hset
              split at hset
              case h_2 => cases hset
              case h_1 w1 hke hw1 =>
                have hke := Nat.eq_of_beq_eq_true hke
                subst hke
                split at hset
                case h_2 => cases hset
                case h_1 s' n' y hy =>
                  simp only [Option.some.injEq, Prod.mk.injEq] at hset
                  obtain ⟨rfl, rfl⟩ := hset
                  obtain ⟨h0, hobj⟩ := h.obj _ _ (hs _ _ ho)
                  rw [g2] at h0
                  simp only [Option.some.injEq, Prod.mk.injEq] at h0
                  obtain ⟨rfl, rfl⟩ := h0
                  rcases hobj with ⟨k1, _⟩ | ⟨b', cur, fr, cap, us, rest, k1, k2, k3, k4, k5, k6, k7, k8⟩
                  · rw [g1] at k1; cases k1
                  · have hbb : b' = b := by rw [g1] at k1; injection k1 with k1; exact k1.symm
                    subst hbb
                    simp only [PathOK] at g3
                    have hr := rowsS_get (k := e.size) (fun _ _ => VS_len) k8 (gl_get e.zero (α := e.den) l i g3.1)
                    obtain ⟨m1, m2, m3⟩ := setP_sound hw1 (satC_mkv hr.1) (VS_len hr.1) g3.2 v1 (by simpa using v2)
                    have hrl := VS_len hr.1
                    simp only [hrl, Array.length_toList] at m3 m1
                    have hle := hr.2
                    have H := h.lend (l := n') (fun nm hn => by obtain ⟨o, h1⟩ := asT_names hy nm hn; exact ⟨o, hs _ _ h1⟩)
                    have hvy := asT_sound hob hy H m1 (by rw [m2]; simp [hrl]; rw [sizeT_mkv]; omega)
                    have hlen := VS_len hvy
                    have hrow := rowsS_set (f := VS ((st.killL n').ctx B m L w) (s && s') e) (k := e.size) (fun _ _ => VS_len) (rowsS_mono (fun _ _ _ h => VS_weak (fun h => (Bool.and_eq_true _ _ ▸ h).1) (VS_le (H.le s) h)) k8) (i := i) (y := y) g3.1 (VS_weak (fun h => (Bool.and_eq_true _ _ ▸ h).2) hvy)
                    rw [hlen] at hrow
                    have hmid := spl_mid (vs := us) (x := vv.cells.toList) (i := i * e.size) (k := e.size) (o := offS p') (n := vv.cells.size) m3 hle
                    rw [hmid] at hrow
                    have hcl : cur.size = us.length + rest.length := by have := congrArg List.length k7; simpa using this
                    simp only [offS] at hrun ⊢
                    refine ⟨_, hrun k2 k3 (by omega), hk.setObj ho1 g1 k2 ?_ ?_⟩
                    · simp; omega
                    · intro c2 H2 hw hm hL
                      have hl2 : List.length (lsetD l i y : List e.den) = List.length l := List.length_set
                      refine ⟨by rw [hL, hl2]; exact g2, .inr ⟨b', _, fr, cap, us.take (i * e.size + offS p') ++ vv.cells.toList ++ us.drop (i * e.size + offS p' + vv.cells.size), rest, by rw [hm]; exact g1, by rw [hw]; exact setRow_heap w b' cur _ ty fr k2, ?_, ?_, by rw [hl2]; exact k5, k6, ?_, ?_⟩⟩
                      · have : (cur.toList.take (i * e.size + offS p') ++ vv.cells.toList ++ cur.toList.drop (i * e.size + offS p' + vv.cells.toList.length)).toArray.size = cur.size := by simp; omega
                        rw [this]; exact k3
                      · have : (cur.toList.take (i * e.size + offS p') ++ vv.cells.toList ++ cur.toList.drop (i * e.size + offS p' + vv.cells.toList.length)).toArray.size = cur.size := by simp; omega
                        rw [this]; exact k4
                      · rw [toArr, k7]
                        have : vv.cells.toList.length = vv.cells.size := by simp
                        rw [this]
                        exact spl_left (by omega)
                      · exact rowsS_mono (fun _ _ _ h => VS_le (H2.le (s && s')) h) hrow
theorem Rep.same (h : Rep B F st m L a w) {nm : Nat} {o o' : TObj} (ho : st.objs nm = some o) (hok : objOK (st.ctx B m L w) nm o') : Rep B F (st.set nm (some o')) m L a w := by
  have hx : ∀ n o1, (st.set nm (some o')).objs n = some o1 → ∃ o2, st.objs n = some o2 ∧ (n ≠ nm → o2 = o1) := by
    intro n o1 ho1
    simp only [St.set] at ho1
    by_cases hn : n = nm
    · subst hn; exact ⟨o, ho, fun h => absurd rfl h⟩
    · rw [upd_ne _ _ hn] at ho1; exact ⟨o1, ho1, fun _ => rfl⟩
  have H : WStep (st.ctx B m L w) ((st.set nm (some o')).ctx B m L w) :=
    ⟨Ev.refl _ _, fun b' _ ⟨n, o1, h1, h2⟩ => let ⟨o2, h3, _⟩ := hx n o1 h1; ⟨n, o2, h3, h2⟩, fun _ _ h => h, fun _ _ h => h, fun _ _ h => h⟩
  refine ⟨h.sz, h.df, fun t => sat_step H (h.slots t), fun n o1 ho1 => ?_, fun n n' o1 o2 b' h1 h2 => ?_, fun x hF => ?_, h.mb, h.ev, fun n o1 b' h1 h2 => ?_, fun n o1 b' h1 h2 => ?_, h.base, h.n0⟩
  · by_cases hn : n = nm
    · subst hn
      simp only [St.set, upd_same, Option.some.injEq] at ho1
      subst ho1
      exact objOK_step H rfl rfl (fun _ _ => rfl) hok
    · have ho2 : st.objs n = some o1 := by simp only [St.set] at ho1; rwa [upd_ne _ _ hn] at ho1
      exact objOK_step H rfl rfl (fun _ _ => rfl) (h.obj n o1 ho2)
  · obtain ⟨o1', g1, _⟩ := hx n o1 h1
    obtain ⟨o2', g2, _⟩ := hx n' o2 h2
    exact h.inj n n' o1' o2' b' g1 g2
  · have := h.mf x hF
    refine ⟨this.1, this.2.1, ?_⟩
    simp only [St.set]
    by_cases hn : x = nm
    · subst hn; rw [this.2.2] at ho; cases ho
    · rw [upd_ne _ _ hn]; exact this.2.2
  · obtain ⟨o2, g2, _⟩ := hx n o1 h1
    exact h.fr n o2 b' g2 h2
  · obtain ⟨o2, g2, _⟩ := hx n o1 h1
    exact h.yb n o2 b' g2 h2
theorem zcells_one (t : Ty) : ∀ v ∈ t.zcells, v.oneCell' = true := VS_one (VS_zero ⟨default, fun _ => False, fun _ => False, fun _ => none, fun _ => none⟩ true t)
include hG in
theorem cl_sound (h : Rep B F st m L a w) (hs : Sub ob st.objs) {t ty0 : TypeId} {x : TV} {vx : Value} (hx : sat (st.ctx B m L w) x vx) {nm : Nat} {o' : TObj} (hc : clT G t ob x = some (nm, o')) :
    ∃ w', (Builtin.clear_ #[t] ty0 #[vx]).run P w = .ok (.tuple #[]) w' ∧ Rep B F (st.set nm (some o')) m L a w' := by
  have main : ∀ {nm off len : Nat} {ty : TypeId} {s : Bool} {e : Ty} {l : List e.den}, tyOf G t = some (.sl e) → st.objs nm = some (.rows ty s e l) → ownV (st.ctx B m L w) nm off len vx →
      ∀ S : Bool, (S = true → s = true ∨ (off = 0 ∧ len = l.length)) → ∃ w', (Builtin.clear_ #[t] ty0 #[vx]).run P w = .ok (.tuple #[]) w' ∧ Rep B F (st.set nm (some (.rows ty S e (clr e.zero l off len)))) m L a w' := by
    intro nm off len ty s e l ht ho hown S hS
    obtain ⟨q, hq, hqt⟩ := tyOf_look ht
    obtain ⟨hu, hie, _⟩ := tyB_sl (hG.ty hq) hqt
    obtain ⟨i, z, hi, hi1, hi2, hi3⟩ := hie.info
    have hzs : z.cells.size = e.size := by rw [← zcells_len, ← hi3]; simp
    have hok := h.obj nm _ ho
    obtain ⟨h0, hobj⟩ := hok
    have hz : ∀ n, (Builtin.zeroCells z.cells n).toList = (List.replicate n e.zcells).flatten := by
      intro n
      have := rep_mod (z := z.cells) n (by rw [hzs]; exact hie.pos)
      unfold Builtin.zeroCells
      rw [this, hi3]
    rcases hown with ⟨rfl, ad, rfl⟩ | ⟨b, k, ln, cap, cur, ty2, fr, hb, hL, rfl, g1, g2, g3, g4, g5⟩
    · refine ⟨w, ?_, ?_⟩
      · cases ad <;> simp [Builtin.clear_, run_underlying hu]
      · refine h.same ho ?_
        have e1 : clr e.zero l off 0 = l := by simp [clr]
        rw [e1]
        refine ⟨h0, hobj.imp id fun ⟨b', cur', fr', cap', us, rest, k1, k2, k3, k4, k5, k6, k7, k8⟩ => ⟨b', cur', fr', cap', us, rest, k1, k2, k3, k4, k5, k6, k7, ?_⟩⟩
        refine rowsS_mono (fun q v hq hv => VS_weak (fun hh => ?_) hv) k8
        rcases hS hh with hh | ⟨_, hh⟩
        · exact hh
        · have : l = [] := List.eq_nil_of_length_eq_zero hh.symm
          rw [this] at hq; cases hq
    · rw [hL] at h0
      simp only [Option.some.injEq, Prod.mk.injEq] at h0
      obtain ⟨rfl, rfl⟩ := h0
      rcases hobj with ⟨k1, k2⟩ | ⟨b', cur', fr', cap', us, rest, k1, k2, k3, k4, k5, k6, k7, k8⟩
      · rw [hb] at k1; cases k1
      · have hbb : b' = b := by rw [hb] at k1; injection k1 with k1; exact k1.symm
        subst hbb
        have hcc : cur' = cur := by rw [k2] at g2; injection g2 with g2; injection g2
        subst hcc
        have hl : List.length l = List.length l := rfl
        have e1 : l = l.take off ++ ((l.drop off).take len ++ (l.drop off).drop len) := by rw [List.take_append_drop, List.take_append_drop]
        have k8' := k8
        rw [e1, rowsS_app] at k8'
        obtain ⟨A, U, hU, a1, a2⟩ := k8'
        rw [rowsS_app] at a2
        obtain ⟨M, C, hM, b1, b2⟩ := a2
        have g5' : off + len ≤ List.length l := g5
        have lA := rowsS_len (k := e.size) (fun _ _ => VS_len) a1
        have lM := rowsS_len (k := e.size) (fun _ _ => VS_len) b1
        rw [List.length_take, Nat.min_eq_left (by omega)] at lA
        rw [List.length_take, List.length_drop, Nat.min_eq_left (by omega)] at lM
        have lZ : (List.replicate len e.zcells).flatten.length = len * e.size := by simp [zcells_len]
        have hcl : cur'.toList = A ++ M ++ (C ++ rest) := by rw [k7, hU, hM]; simp
        have hrun := run_storeCells_fr P b' (off * e.size) ty fr' (List.replicate len e.zcells).flatten 0 cur' w k2 k3 (by
          have := congrArg List.length hcl
          simp only [List.length_append, Array.length_toList] at this
          rw [lZ]; omega) (by
          intro v hv
          obtain ⟨r, hr, hv⟩ := List.mem_flatten.1 hv
          rw [List.eq_of_mem_replicate hr] at hv
          exact zcells_one e v hv)
        simp only [Nat.add_zero, lZ] at hrun
        have hnew : cur'.toList.take (off * e.size) ++ (List.replicate len e.zcells).flatten ++ cur'.toList.drop (off * e.size + len * e.size) = A ++ (List.replicate len e.zcells).flatten ++ (C ++ rest) := by
          rw [hcl, ← lA, ← lM]; exact spl3 A M _ _
        rw [hnew] at hrun
        refine ⟨w.setRow b' (A ++ (List.replicate len e.zcells).flatten ++ (C ++ rest)).toArray, ?_, ?_⟩
        · by_cases hlen : len = 0
          · subst hlen
            have hself : (A ++ (List.replicate 0 e.zcells).flatten ++ (C ++ rest)).toArray = cur' := by
              have hM0 : M = [] := List.eq_nil_of_length_eq_zero (by rw [lM]; simp)
              apply Array.toList_inj.1
              rw [toArr, hcl, hM0]; simp
            rw [hself, setRow_self w b' cur' ty fr' k2]
            simp [Builtin.clear_, run_underlying hu]
          · have : ∃ n, len = n + 1 := ⟨len - 1, by omega⟩
            obtain ⟨n, rfl⟩ := this
            simp only [Builtin.clear_, Sem.run_bind, run_underlying hu, Result.andThen_ok, Sem.run_pure, zeroValue, typeInfo, run_program, hi, hi2, hz, hrun, List.getElem?_toArray, List.getElem?_cons_zero]
        · refine h.setObj ho hb k2 ?_ ?_
          · have := congrArg List.length hcl
            simp only [List.length_append, Array.length_toList] at this
            simp only [List.size_toArray, List.length_append, lZ]; omega
          · intro c2 H hw hm hL2
            have hsz : (A ++ (List.replicate len e.zcells).flatten ++ (C ++ rest)).toArray.size = cur'.size := by
              have := congrArg List.length hcl
              simp only [List.length_append, Array.length_toList] at this
              simp only [List.size_toArray, List.length_append, lZ]; omega
            have hll : (clr e.zero l off len).length = List.length l := by simp only [clr, List.length_append, List.length_take, List.length_replicate, List.length_drop]; omega
            refine ⟨by rw [hL2, hll]; exact hL, .inr ⟨b', _, fr', cap', A ++ (List.replicate len e.zcells).flatten ++ C, rest, by rw [hm]; exact hb, by rw [hw]; exact setRow_heap w b' cur' _ ty fr' k2, by rw [hsz]; exact k3, by rw [hsz]; exact k4, by rw [hll]; exact k5, k6, by simp, ?_⟩⟩
            unfold clr
            rw [rowsS_app, ]
            refine ⟨A ++ (List.replicate len e.zcells).flatten, C, rfl, ?_, ?_⟩
            · rw [rowsS_app]
              refine ⟨A, _, rfl, ?_, rowsS_rep (VS_zero c2 S e) len⟩
              refine rowsS_mono (fun q v hq hv => VS_weak (fun hh => ?_) (VS_le (H.le s) hv)) a1
              rcases hS hh with hh | ⟨hh, _⟩
              · exact hh
              · rw [hh] at hq; simp at hq
            · rw [List.drop_drop] at b2
              refine rowsS_mono (fun q v hq hv => VS_weak (fun hh => ?_) (VS_le (H.le s) hv)) b2
              rcases hS hh with hh | ⟨hh, hh2⟩
              · exact hh
              · rw [hh, hh2] at hq; simp at hq
  unfold clT at hc
  split at hc
  case h_3 => cases hc
  case h_1 hx nm' =>
    split at hc
    case h_2 => cases hc
    case h_1 ty s e l ho =>
      split at hc
      case isFalse => cases hc
      case isTrue ht =>
        simp only [Option.some.injEq, Prod.mk.injEq] at hc
        obtain ⟨rfl, rfl⟩ := hc
        obtain ⟨k, ln, hL, hown⟩ := sat_own.1 hx
        have hL' := (h.obj _ _ (hs _ _ ho)).1
        rw [hL] at hL'
        simp only [Option.some.injEq, Prod.mk.injEq] at hL'
        obtain ⟨rfl, rfl⟩ := hL'
        have := main ht (hs _ _ ho) hown true (fun _ => .inr ⟨rfl, rfl⟩)
        have e1 : clr e.zero (l : List e.den) 0 (List.length l) = lrepD e (llenD l) := clr_all (α := e.den) e.zero l
        rw [e1] at this
        exact this
  case h_2 hx nm' off len =>
    split at hc
    case h_2 => cases hc
    case h_1 ty s e l ho =>
      split at hc
      case isFalse => cases hc
      case isTrue ht =>
        simp only [Option.some.injEq, Prod.mk.injEq] at hc
        obtain ⟨rfl, rfl⟩ := hc
        exact main ht (hs _ _ ho) (sat_ownp.1 hx) s (fun h => .inl h)
end
end Go.Tv
namespace Go.Tv
open Go Go.RowKit
theorem run_firstCells {P : Program} (w : World) (size n : Nat) (ad : Option Addr) (cap : Nat) (cs : List Value) (hl : cs.length = n * size) (h : n = 0 ∨ ∃ b o, ad = some ⟨b, o, none⟩ ∧ Mem w b o cs) :
    (Builtin.firstCells size n (.slice ad n cap)).run P w = .ok cs.toArray w := by
  rcases h with rfl | ⟨b, o, rfl, h⟩
  · have : cs = [] := List.eq_nil_of_length_eq_zero (by simpa using hl)
    subst this
    cases ad with
    | none => simp [Builtin.firstCells]
    | some a => simp [Builtin.firstCells, loadCells, loadCellsFrom]
  · exact run_firstCells_some w size n ⟨b, o, none⟩ n cap cs hl (fun j v hj => by rw [add_plain]; exact h j v hj)
def SrcRun (P : Program) (w : World) (e : Ty) (bytes : Nat) (t2 : TypeId) (vy : Value) (n : Nat) (news : List Value) : Prop :=
  (∃ d ad c2, P.underlying t2 = some (.slice d) ∧ vy = .slice ad n c2 ∧ news.length = n * e.size ∧ (n = 0 ∨ ∃ b o, ad = some ⟨b, o, none⟩ ∧ Mem w b o news)) ∨
  (∃ k k' z, P.underlying t2 = some (.int k') ∧ vy = .int k z ∧ 0 ≤ z ∧ z.toNat = n ∧ news = (List.replicate n e.zcells).flatten)
theorem SrcRun.len {P : Program} {w : World} {e : Ty} {bytes : Nat} {t2 : TypeId} {vy : Value} {n : Nat} {news : List Value} (h : SrcRun P w e bytes t2 vy n news) : news.length = n * e.size := by
  rcases h with ⟨_, _, _, _, _, h, _⟩ | ⟨_, _, _, _, _, _, _, rfl⟩
  · exact h
  · simp [zcells_len]
section
variable {P : Program} {t t2 ty el : TypeId} {e : Ty} {i : TypeInfo} {z : Value}
theorem zeroCells_flat (hz : z.cells.toList = e.zcells) (hpos : 0 < e.size) (n : Nat) : Builtin.zeroCells z.cells n = (List.replicate n e.zcells).flatten.toArray := by
  have hzs : z.cells.size = e.size := by rw [← zcells_len, ← hz]; simp
  have := rep_mod (z := z.cells) n (by rw [hzs]; exact hpos)
  unfold Builtin.zeroCells
  rw [this, hz]
theorem run_append_fit (hd : P.underlying t = some (.slice el)) (hi : P.info? el = some i) (hi1 : i.size = e.size) (hi2 : i.zero = some z) (hi3 : z.cells.toList = e.zcells) (hpos : 0 < e.size) (w : World) (ad1 : Option Addr) (n1 c1 n2 : Nat) (vy : Value) (news : List Value)
    (hs : SrcRun P w e i.bytes t2 vy n2 news) (hfit : n1 + n2 ≤ c1) (h63 : n1 + n2 ≤ maxLen) (hb : (n1 + n2) * i.bytes ≤ 140737488355328) :
    (Builtin.append_ #[t, t2] ty #[.slice ad1 n1 c1, vy]).run P w = ((match ad1 with
      | some a => storeCells (a.add (n1 * e.size)) news
      | none => pure () : Sem Unit).run P w).andThen fun _ w' => .ok (.slice ad1 (n1 + n2) c1) w' := by
  rcases hs with ⟨d, ad2, c2, hu2, rfl, hln, hm⟩ | ⟨k, k', zz, hu2, rfl, h0, rfl, rfl⟩
  · have hf2 := run_firstCells (P := P) w e.size n2 ad2 c2 news hln hm
    cases ad1 <;> simp [Builtin.append_, run_underlying hd, run_underlying hu2, Go.sizeOf, typeInfo, hi, hi1, Builtin.lenOf, hfit, hf2, Result.andThen] <;> rfl
  · have hw : IntKind.i64.wrap zz = zz := w64_id h0 (by simp only [maxLen] at h63; omega)
    have hn : ¬ zz < 0 := by omega
    have hbz : ¬ (281474976710656 < zz * (i.bytes : Int)) := by
      have e1 : zz * (i.bytes : Int) = ((zz.toNat * i.bytes : Nat) : Int) := by
        rw [Int.natCast_mul, Int.toNat_of_nonneg h0]
      have : zz.toNat * i.bytes ≤ (n1 + zz.toNat) * i.bytes := Nat.mul_le_mul_right _ (by omega)
      rw [e1]; omega
    have hz := zeroCells_flat hi3 hpos zz.toNat
    by_cases hz0 : zz.toNat = 0
    · have hfit' : n1 ≤ c1 := by omega
      cases ad1 <;> simp [Builtin.append_, run_underlying hd, run_underlying hu2, Go.sizeOf, typeInfo, zeroValue, asInt, asIntOf, hi, hi1, hi2, hw, hn, hbz, hfit', hz0, Result.andThen] <;> rfl
    · have hne : ¬ (zz.toNat * e.size = 0) := fun h => by
        rcases Nat.mul_eq_zero.1 h with h | h <;> omega
      cases ad1 <;> simp [Builtin.append_, run_underlying hd, run_underlying hu2, Go.sizeOf, typeInfo, zeroValue, asInt, asIntOf, hi, hi1, hi2, hw, hn, hbz, hfit, hne, hz, Result.andThen] <;> rfl
theorem run_append_move (hd : P.underlying t = some (.slice el)) (hi : P.info? el = some i) (hi1 : i.size = e.size) (hi2 : i.zero = some z) (hi3 : z.cells.toList = e.zcells) (hpos : 0 < e.size) (w : World) (ad1 : Option Addr) (n1 c1 n2 : Nat) (vy : Value) (olds news : List Value)
    (hlo : olds.length = n1 * e.size) (ho : n1 = 0 ∨ ∃ b o, ad1 = some ⟨b, o, none⟩ ∧ Mem w b o olds)
    (hs : SrcRun P w e i.bytes t2 vy n2 news) (hg : c1 < n1 + n2) (h63 : n1 + n2 ≤ maxLen) (hb : (n1 + n2) * i.bytes ≤ 140737488355328) :
    (Builtin.append_ #[t, t2] ty #[.slice ad1 n1 c1, vy]).run P w =
      .ok (.slice (some ⟨w.heap.size, 0, none⟩) (n1 + n2) (grownCap w (n1 + n2) c1 el))
        (w.drew.alloc (.cells (olds.toArray ++ news.toArray ++ Builtin.zeroCells z.cells (grownCap w (n1 + n2) c1 el - (n1 + n2))) el)) := by
  have hfit := growslice_fits hg hb
  have e0 : ¬ (n1 + n2 ≤ c1) := by omega
  have e1 : ¬ (9223372036854775807 < ((n1 : Int) + (n2 : Int))) := by simp only [maxLen] at h63; omega
  have e2 : ¬ (281474976710656 < Builtin.nextslicecap (n1 + n2) c1 * i.bytes) := by omega
  have hf1 := run_firstCells (P := P) w.drew e.size n1 ad1 c1 olds hlo ho
  rcases hs with ⟨d, ad2, c2, hu2, rfl, hln, hm⟩ | ⟨k, k', zz, hu2, rfl, h0, rfl, rfl⟩
  · have hf2 := run_firstCells (P := P) w.drew e.size n2 ad2 c2 news hln hm
    simp [Builtin.append_, run_underlying hd, run_underlying hu2, Go.sizeOf, typeInfo, zeroValue, hi, hi1, hi2, Builtin.lenOf, e0, e1, e2, Question.forced, hf1, hf2, Go.newRow, grownCap]
    congr 2
    apply Array.ext'
    simp
  · have hw : IntKind.i64.wrap zz = zz := w64_id h0 (by simp only [maxLen] at h63; omega)
    have hn : ¬ zz < 0 := by omega
    have hbz : ¬ (281474976710656 < zz * (i.bytes : Int)) := by
      have e1 : zz * (i.bytes : Int) = ((zz.toNat * i.bytes : Nat) : Int) := by
        rw [Int.natCast_mul, Int.toNat_of_nonneg h0]
      have : zz.toNat * i.bytes ≤ (n1 + zz.toNat) * i.bytes := Nat.mul_le_mul_right _ (by omega)
      rw [e1]; omega
    have e1' : ¬ (9223372036854775807 < ((n1 : Int) + zz)) := by
      have : ((zz.toNat : Nat) : Int) = zz := Int.toNat_of_nonneg h0
      rw [this] at e1; exact e1
    have e1'' : ¬ (9223372036854775807 < ((n1 : Int) + max zz 0)) := by rw [Int.max_eq_left h0]; exact e1'
    have hz := zeroCells_flat hi3 hpos zz.toNat
    by_cases hz0 : zz.toNat = 0
    · simp [Builtin.append_, run_underlying hd, run_underlying hu2, Go.sizeOf, typeInfo, zeroValue, asInt, asIntOf, hi, hi1, hi2, hw, hn, hbz, e0, e1, e1', e1'', e2, Question.forced, hf1, hz0, Go.newRow, grownCap]
      have e0' : ¬ n1 ≤ c1 := by omega
      have e2' : ¬ (281474976710656 < Builtin.nextslicecap n1 c1 * i.bytes) := by rw [hz0, Nat.add_zero] at e2; exact e2
      rw [if_neg e0', if_neg e2']
    · simp [Builtin.append_, run_underlying hd, run_underlying hu2, Go.sizeOf, typeInfo, zeroValue, asInt, asIntOf, hi, hi1, hi2, hw, hn, hbz, e0, e1, e1', e1'', e2, Question.forced, hf1, hz0, hz, Nat.ne_of_gt hpos, Go.newRow, grownCap]
      have hne : ¬ (zz.toNat * e.size = 0) := fun h => by
        rcases Nat.mul_eq_zero.1 h with h | h <;> omega
      rw [if_neg hne]
      congr 3
      apply Array.ext'
      simp
end
end Go.Tv
namespace Go.Tv
set_option linter.unusedSectionVars false
open Go Go.RowKit
theorem ap_spec {b n : Nat} (h : apok b n = true) : n * b ≤ 140737488355328 ∧ n ≤ maxLen := by
  simp only [apok, decide_eq_true_eq] at h; exact h
theorem isE_true {α : Type} {l : List α} (h : l.isEmpty = true) : l.length = 0 := by cases l <;> simp_all
theorem isE_false {α : Type} {l : List α} (h : l.isEmpty = false) : l.length ≠ 0 := by cases l <;> simp_all
theorem cand_spec {a b : Bool} (h : cand a b = true) : a = true ∧ b = true := by
  cases a <;> cases b <;> simp_all [cand]
section
variable {P : Program} {G : Tab} (hG : TabOK P G) [Inv] {B : Base} {F : Nat → Prop} {st : St} {m : Nat → Option Nat} {L : Nat → Option (Nat × Nat)} {a : Act} {w : World} {ob : Nat → Option TObj}
include hG in
theorem src_sound (h : Rep B F st m L a w) (hs : Sub ob st.objs) {t2 : TypeId} {e : Ty} {bytes : Nat} {y : TV} {vy : Value} (hy : sat (st.ctx B m L w) y vy) {s2 : Bool} {l2 : (Ty.sl e).den} (hsrc : srcT G t2 e ob y = some (true, s2, l2)) :
    ∃ news, SrcRun P w e bytes t2 vy (List.length l2) news ∧ rowsS (VS (st.ctx B m L w) s2 e) l2 news := by
  have hob : ∀ n o, ob n = some o → objOK (st.ctx B m L w) n o := fun n o ho => h.obj n o (hs n o ho)
  unfold srcT at hsrc
  split at hsrc
  case h_1 hy k s k' z ht =>
    have := sat_int.1 hy
    subst this
    simp only [Option.some.injEq, Prod.mk.injEq] at hsrc
    obtain ⟨h0, rfl, rfl⟩ := hsrc
    change Int at z
    have h0 : 0 ≤ z := by have : nneg z = true := h0; simpa [nneg] using this
    obtain ⟨q, hq, hqt⟩ := tyOf_look ht
    have hu := tyB_int (hG.ty hq) hqt
    have hl : List.length (lrepD e (toN (k := k') z) : List e.den) = z.toNat := List.length_replicate ..
    rw [hl]
    exact ⟨_, .inr ⟨k', k, z, hu, rfl, h0, rfl, rfl⟩, rowsS_flatrep true e z.toNat⟩
  case h_2 d ht =>
    split at hsrc
    case h_2 => cases hsrc
    case h_1 s n l hl =>
      simp only [Option.some.injEq, Prod.mk.injEq] at hsrc
      obtain ⟨_, rfl, rfl⟩ := hsrc
      obtain ⟨q, hq, hqt⟩ := tyOf_look ht
      obtain ⟨hu, _⟩ := tyB_sl (hG.ty hq) hqt
      obtain ⟨ad, cap, rfl, h1, h2, h3⟩ := asTL_sound hob hl (asT_cell hl hy)
      rcases h3 with h3 | ⟨b, off, us, rfl, g1, g2, g3⟩
      · refine ⟨[], .inl ⟨_, ad, cap, hu, rfl, ?_, .inl ?_⟩, ?_⟩ <;> rw [h3] <;> simp [rowsS]
      · exact ⟨us, .inl ⟨_, _, cap, hu, rfl, rowsS_len (fun _ _ => VS_len) g2, .inr ⟨b, off, rfl, g3⟩⟩, g2⟩
  case h_3 => cases hsrc
theorem app_move (h : Rep B F st m L a w) {nm : Nat} (hF : F nm) {t t2 ty el : TypeId} {e : Ty} {i : TypeInfo} {z : Value} (hd : P.underlying t = some (.slice el)) (hi : P.info? el = some i) (hi1 : i.size = e.size) (hi2 : i.zero = some z) (hi3 : z.cells.toList = e.zcells) (hpos : 0 < e.size)
    {S : Bool} {l1 l2 : List e.den} {olds news : List Value} (r1 : rowsS (VS (st.ctx B m L w) S e) l1 olds) (r2 : rowsS (VS (st.ctx B m L w) S e) l2 news)
    {ad1 : Option Addr} {c1 : Nat} (ho : l1.length = 0 ∨ ∃ b o, ad1 = some ⟨b, o, none⟩ ∧ Mem w b o olds) {vy : Value} (hs : SrcRun P w e i.bytes t2 vy l2.length news)
    (hg : c1 < l1.length + l2.length) (h63 : l1.length + l2.length ≤ maxLen) (hb : (l1.length + l2.length) * i.bytes ≤ 140737488355328) :
    ∃ v w' m' L', (Builtin.append_ #[t, t2] ty #[.slice ad1 l1.length c1, vy]).run P w = .ok v w' ∧
      Rep B (fun x => F x ∧ x ≠ nm) (st.set nm (some (.rows el S e (l1 ++ l2)))) m' L' a w' ∧ sat ((st.set nm (some (.rows el S e (l1 ++ l2)))).ctx B m' L' w') (.own nm) v := by
  have hlo := rowsS_len (k := e.size) (fun _ _ => VS_len) r1
  have hln := hs.len
  have hrun := run_append_move (P := P) (ty := ty) hd hi hi1 hi2 hi3 hpos w ad1 l1.length c1 l2.length vy olds news hlo ho hs hg h63 hb
  have hge := grownCap_ge w (l1.length + l2.length) c1 el
  have hcm := grownCap_le_maxLen w (l1.length + l2.length) c1 el h63
  generalize grownCap w (l1.length + l2.length) c1 el = gc at *
  have hzs : z.cells.size = e.size := by rw [← zcells_len, ← hi3]; simp
  have hsz : (olds.toArray ++ news.toArray ++ Builtin.zeroCells z.cells (gc - (l1.length + l2.length))).size = gc * e.size := by
    simp only [Array.size_append, List.size_toArray, size_zeroCells, hzs, hlo, hln, ← Nat.add_mul]
    congr 1; omega
  have hdr : WStep (st.ctx B m L w) (st.ctx B m L w.drew) := ⟨(Ev.drew w).mono (fun _ h => h.elim), fun _ _ h => h, fun _ _ h => h, fun _ _ h => h, fun _ _ h => h⟩
  have hrows : rowsS (VS (st.ctx B m L w.drew) S e) (l1 ++ l2) (olds ++ news) := rowsS_app.2 ⟨olds, news, rfl, rowsS_mono (fun _ _ _ h => VS_le (hdr.le S) h) r1, rowsS_mono (fun _ _ _ h => VS_le (hdr.le S) h) r2⟩
  obtain ⟨m', L', q1, q2⟩ := (h.grow (Ev.drew w)).newRow hF (ty := el) (cap := gc) (fr := (0, 0)) hrows (rest := (Builtin.zeroCells z.cells (gc - (l1.length + l2.length))).toList) (by simp) hsz (n := l1.length + l2.length) (by simp) hge hcm (noFr_zero _)
  exact ⟨_, _, m', L', hrun, q1, q2⟩
theorem app_own (h : Rep B F st m L a w) {nm1 : Nat} {el : TypeId} {s : Bool} {e : Ty} {l : List e.den} (ho : st.objs nm1 = some (.rows el s e l)) {nm : Nat} (hF : F nm) {t t2 ty : TypeId} {i : TypeInfo} {z : Value} (hd : P.underlying t = some (.slice el)) (hi : P.info? el = some i) (hi1 : i.size = e.size) (hi2 : i.zero = some z) (hi3 : z.cells.toList = e.zcells) (hpos : 0 < e.size)
    {len : Nat} {lb : List e.den} (hlbe : sub l 0 (0 + len) = lb) {vx vy : Value} (hown : ownV (st.ctx B m L w) nm1 0 len vx) {s2 : Bool} {l2 : List e.den} {news : List Value} (r2 : rowsS (VS (st.ctx B m L w) s2 e) l2 news) (hs : SrcRun P w e i.bytes t2 vy l2.length news)
    (h63 : len + l2.length ≤ maxLen) (hb : (len + l2.length) * i.bytes ≤ 140737488355328) :
    ∃ v w' m' L', (Builtin.append_ #[t, t2] ty #[vx, vy]).run P w = .ok v w' ∧ Rep B (fun x => F x ∧ x ≠ nm) ((st.killL [nm1]).set nm (some (.rows el ((s && s2) || e.flat) e (lb ++ l2)))) m' L' a w' ∧
      sat (((st.killL [nm1]).set nm (some (.rows el ((s && s2) || e.flat) e (lb ++ l2)))).ctx B m' L' w') (.own nm) v := by
  subst hlbe
  have hk := h.killL [nm1]
  have hstep := kill_step st [nm1] B m L w
  have up : ∀ {l : List e.den} {us : List Value} {s' : Bool}, ((s && s2) = true → s' = true) → rowsS (VS (st.ctx B m L w) s' e) l us → rowsS (VS ((st.killL [nm1]).ctx B m L w) ((s && s2) || e.flat) e) l us :=
    fun hw hr => rowsS_mono (fun _ _ _ h => VS_or (VS_weak hw (VS_le (hstep.le _) h))) hr
  have n2 := up (fun h => (Bool.and_eq_true _ _ ▸ h).2) r2
  have hln := hs.len
  rcases hown with ⟨rfl, ad, rfl⟩ | ⟨b, k, ln, cap, cur, ty2, fr, hm, hL, rfl, g1, g2, g3, g4, g5⟩
  · have e1 : sub l 0 (0 + 0) = [] := by simp [sub]
    rw [e1]
    by_cases h0 : l2.length = 0
    · have e2 : l2 = [] := List.eq_nil_of_length_eq_zero h0
      subst e2
      have hnil : news = [] := List.eq_nil_of_length_eq_zero (by rw [hln]; simp)
      subst hnil
      have hrun := run_append_fit (P := P) (ty := ty) hd hi hi1 hi2 hi3 hpos w ad 0 0 0 vy [] hs (Nat.le_refl _) (Nat.zero_le _) (by simp)
      refine ⟨.slice ad 0 0, w, m, _, ?_, hk.newVirt hF el _ e, ?_⟩
      · rw [hrun]; cases ad <;> simp [storeCells]
      · exact sat_own.2 ⟨e.size, 0, ctx_L, .inl ⟨rfl, ad, rfl⟩⟩
    · exact app_move (P := P) (ty := ty) hk hF hd hi hi1 hi2 hi3 hpos (l1 := []) (l2 := l2) (olds := []) (by simp [rowsS]) n2 (ad1 := ad) (c1 := 0) (.inl rfl) hs (by show 0 < 0 + l2.length; omega) h63 hb
  · obtain ⟨h0, hobj⟩ := h.obj nm1 _ ho
    rw [hL] at h0
    simp only [Option.some.injEq, Prod.mk.injEq] at h0
    obtain ⟨rfl, rfl⟩ := h0
    rcases hobj with ⟨k1, _⟩ | ⟨b', cur', fr', cap', us, rest, k1, k2, k3, k4, k5, k6, k7, k8⟩
    · rw [hm] at k1; cases k1
    · have hbb : b' = b := by rw [hm] at k1; injection k1 with k1; exact k1.symm
      subst hbb
      have hcc : cur' = cur := by rw [k2] at g2; injection g2 with g2; injection g2
      subst hcc
      have g5' : len ≤ l.length := by omega
      have hlb : (sub l 0 (0 + len)).length = len := sub_len (by omega)
      have hlbr := rowsS_sub (k := e.size) (fun _ _ => VS_len) k8 0 (0 + len - 0) (Nat.zero_le _)
      change rowsS _ (sub l 0 (0 + len)) (List.take ((sub l 0 (0 + len)).length * e.size) _) at hlbr
      rw [hlb, Nat.zero_mul, List.drop_zero] at hlbr
      have hul := rowsS_len (k := e.size) (fun _ _ => VS_len) k8
      have hmul : len * e.size ≤ l.length * e.size := Nat.mul_le_mul_right _ g5'
      have hcl : cur'.size = us.length + rest.length := by have := congrArg List.length k7; simpa using this
      have htk : us.take (len * e.size) = cur'.toList.take (len * e.size) := by rw [k7, List.take_append_of_le_length (by omega)]
      have e0 : 0 * e.size = 0 := Nat.zero_mul _
      rw [e0]
      by_cases hfit : len + l2.length ≤ cap
      · have hrun := run_append_fit (P := P) (ty := ty) hd hi hi1 hi2 hi3 hpos w (some ⟨b', 0, none⟩) len cap l2.length vy news hs hfit h63 hb
        have hone : ∀ v ∈ news, v.oneCell' = true := rowsS_all (fun _ _ h => VS_one h) r2
        have hcap : len * e.size + news.length ≤ cur'.size := by
          rw [hln, g3, Nat.zero_add, ← Nat.add_mul]; exact Nat.mul_le_mul_right _ hfit
        have hst := run_storeCells_fr P b' (len * e.size) el fr' news 0 cur' w k2 k3 (by simpa using hcap) hone
        simp only [Nat.add_zero] at hst
        simp only [add_plain, Nat.zero_add, hst, Result.andThen_ok] at hrun
        have hsz : (cur'.toList.take (len * e.size) ++ news ++ cur'.toList.drop (len * e.size + news.length)).toArray.size = cur'.size := by
          simp; omega
        have hll : (sub l 0 (0 + len) ++ l2).length = len + l2.length := by rw [List.length_append, hlb]
        refine ⟨_, _, _, _, hrun, h.replace ho hm hF (e.size, len + l2.length) k2 hsz ?_, ?_⟩
        · intro c' H hw hm' hL'
          refine ⟨by rw [hL', hll], .inr ⟨b', _, fr', cap, cur'.toList.take (len * e.size) ++ news, cur'.toList.drop (len * e.size + news.length), hm', by rw [hw]; exact setRow_heap w b' cur' _ el fr' k2, by rw [hsz]; exact k3, by rw [hsz, g3, Nat.zero_add], by rw [hll]; exact hfit, by omega, by simp, ?_⟩⟩
          rw [rowsS_app]
          refine ⟨_, _, rfl, ?_, ?_⟩
          · rw [← htk]
            exact rowsS_mono (fun _ _ _ h => VS_or (VS_weak (fun h => (Bool.and_eq_true _ _ ▸ h).1) (VS_le (H.le s) h))) hlbr
          · exact rowsS_mono (fun _ _ _ h => VS_or (VS_weak (fun h => (Bool.and_eq_true _ _ ▸ h).2) (VS_le (H.le s2) h))) r2
        · refine sat_own.2 ⟨e.size, len + l2.length, ctx_L, .inr ⟨b', e.size, len + l2.length, cap, _, el, fr', ?_, ctx_L, by simp, hfit, setRow_heap w b' cur' _ el fr' k2, by rw [hsz]; exact g3, g4, by omega⟩⟩
          simp only [St.ctx]; rw [upd_same]
      · have := app_move (P := P) (ty := ty) hk hF hd hi hi1 hi2 hi3 hpos (l1 := sub l 0 (0 + len)) (l2 := l2) (up (fun h => (Bool.and_eq_true _ _ ▸ h).1) hlbr) n2 (ad1 := some ⟨b', 0, none⟩) (c1 := cap) (.inr ⟨b', 0, rfl, by rw [htk]; have := mem_of_row k2 0 (len * e.size); rwa [List.drop_zero] at this⟩) hs
          (by rw [hlb]; omega) (by rw [hlb]; exact h63) (by rw [hlb]; exact hb)
        rw [hlb] at this
        exact this
include hG in
theorem app_sound (h : Rep B F st m L a w) (hs : Sub ob st.objs) {t t2 ty : TypeId} {x y : TV} {vx vy : Value} (hx : sat (st.ctx B m L w) x vx) (hy : sat (st.ctx B m L w) y vy) {nm : Nat} (hF : F nm) {obj : TObj} {kills : List Nat} (ha : appT G t t2 ob x y = some (true, obj, kills)) :
    ∃ v w' m' L', (Builtin.append_ #[t, t2] ty #[vx, vy]).run P w = .ok v w' ∧ Rep B (fun x => F x ∧ x ≠ nm) ((st.killL kills).set nm (some obj)) m' L' a w' ∧ sat (((st.killL kills).set nm (some obj)).ctx B m' L' w') (.own nm) v := by
  unfold appT at ha
  split at ha
  case h_2 => cases ha
  case h_1 e el b hl =>
    obtain ⟨hd, hie, hby⟩ := tyB_sl (hG.ty hl) rfl
    simp only at hd hie hby
    obtain ⟨i, z, hi, hi1, hi2, hi3⟩ := hie.info
    have hib := info_uniq hi hby
    have hpos := hie.pos
    split at ha
    case h_2 => cases ha
    case h_1 c1 s2 l2 hsrc =>
      have virt : ∀ {st' : St} {vx : Value} {ad : Option Addr} {S : Bool} {news : List Value}, Rep B F st' m L a w → vx = .slice ad 0 0 → List.length l2 = 0 → SrcRun P w e i.bytes t2 vy (List.length l2) news →
          ∃ v w' m' L', (Builtin.append_ #[t, t2] ty #[vx, vy]).run P w = .ok v w' ∧ Rep B (fun x => F x ∧ x ≠ nm) (st'.set nm (some (.rows el S e ([] : List e.den)))) m' L' a w' ∧ sat ((st'.set nm (some (.rows el S e ([] : List e.den)))).ctx B m' L' w') (.own nm) v := by
        intro st' vx ad S news h' hvx h0 hsr
        subst hvx
        rw [h0] at hsr
        have hln := hsr.len
        have hnil : news = [] := List.eq_nil_of_length_eq_zero (by rw [hln]; simp)
        subst hnil
        have hrun := run_append_fit (P := P) (ty := ty) hd hi hi1 hi2 hi3 hpos w ad 0 0 0 vy [] hsr (Nat.le_refl _) (Nat.zero_le _) (by simp)
        refine ⟨.slice ad 0 0, w, m, _, ?_, h'.newVirt hF el S e, ?_⟩
        · rw [hrun]; cases ad <;> simp [storeCells]
        · exact sat_own.2 ⟨e.size, 0, ctx_L, .inl ⟨rfl, ad, rfl⟩⟩
      split at ha
      case h_1 hx =>
        simp only [Option.some.injEq, Prod.mk.injEq] at ha
        obtain ⟨hc, rfl, rfl⟩ := ha
        obtain ⟨rfl, hap⟩ := cand_spec hc
        have hvx := sat_nil.1 hx
        obtain ⟨news, hsr, hrow⟩ := src_sound (bytes := i.bytes) hG h hs hy hsrc
        obtain ⟨hb, h63⟩ := ap_spec hap
        have hk := h.killL []
        by_cases h0 : List.length l2 = 0
        · have e1 : l2 = ([] : List e.den) := List.eq_nil_of_length_eq_zero h0
          have := virt (S := s2) hk hvx h0 hsr
          rw [e1]; exact this
        · subst hvx
          have h63' : 0 + List.length l2 ≤ maxLen := by rw [Nat.zero_add]; exact h63
          have hb' : (0 + List.length l2) * i.bytes ≤ 140737488355328 := by rw [Nat.zero_add, hib]; exact hb
          exact app_move (P := P) (ty := ty) hk hF hd hi hi1 hi2 hi3 hpos (S := s2) (l1 := []) (l2 := l2) (olds := []) (by simp [rowsS]) hrow (ad1 := none) (c1 := 0) (.inl rfl) hsr (by show 0 < 0 + List.length l2; omega) h63' hb'
      case h_2 hx s e' l =>
        split at ha
        case h_2 => cases ha
        case h_1 l' hcast =>
          simp only [Option.some.injEq, Prod.mk.injEq] at ha
          obtain ⟨hc, rfl, rfl⟩ := ha
          have := castT_eq hcast
          injection this with q1 q2
          injection q1 with q1
          subst q1
          cases q2
          obtain ⟨hc1, hcor⟩ := cand_spec hc
          obtain ⟨rfl, hap⟩ := cand_spec hc1
          obtain ⟨hb, h63⟩ := ap_spec hap
          obtain ⟨ad, hvx, hmax, hsl⟩ := sat_fl.1 hx
          obtain ⟨news, hsr, hrow⟩ := src_sound (bytes := i.bytes) hG h hs hy hsrc
          have hk := h.killL []
          have up : ∀ {l : List e'.den} {us : List Value} {s' : Bool}, ((s && s2) = true → s' = true) → rowsS (VS (st.ctx B m L w) s' e') l us → rowsS (VS ((st.killL []).ctx B m L w) ((s && s2) || e'.flat) e') l us := fun hw hr => rowsS_mono (fun _ _ _ h => VS_or (VS_weak hw h)) hr
          have hcase : List.length l = 0 ∨ List.length l2 ≠ 0 := by
            have hcor : cor (List.isEmpty (l : List e'.den)) (!(List.isEmpty (l2 : List e'.den))) = true := hcor
            cases hq : List.isEmpty (l : List e'.den) with
            | true => left; exact isE_true hq
            | false =>
              rw [hq] at hcor; right
              have hcor : (!(List.isEmpty (l2 : List e'.den))) = true := hcor
              exact isE_false (by simpa using hcor)
          by_cases h0 : List.length l2 = 0
          · have hl0 : List.length l = 0 := hcase.resolve_right fun h => h h0
            have e1 : l2 = ([] : List e'.den) := List.eq_nil_of_length_eq_zero h0
            have e2 : l = ([] : List e'.den) := List.eq_nil_of_length_eq_zero hl0
            have := virt (S := (s && s2) || e'.flat) hk (show vx = .slice ad 0 0 by rw [hvx, hl0]) h0 hsr
            have e3 : lappD l l2 = ([] : List e'.den) := by rw [e1, e2]; rfl
            rw [e3]; exact this
          · have hold : ∃ olds, rowsS (VS (st.ctx B m L w) s e') l olds ∧ (List.length l = 0 ∨ ∃ b o, ad = some ⟨b, o, none⟩ ∧ Mem w b o olds) := by
              rcases hsl with hsl | ⟨b, off, us, rfl, g1, g2, g3⟩
              · exact ⟨[], by rw [hsl]; simp [rowsS], .inl (by rw [hsl]; rfl)⟩
              · exact ⟨us, g2, .inr ⟨b, off, rfl, g3⟩⟩
            obtain ⟨olds, ho1, ho2⟩ := hold
            rw [hvx]
            exact app_move (P := P) (ty := ty) hk hF hd hi hi1 hi2 hi3 hpos (l1 := l) (l2 := l2) (up (fun h => (Bool.and_eq_true _ _ ▸ h).1) ho1) (up (fun h => (Bool.and_eq_true _ _ ▸ h).2) hrow) ho2 hsr (by omega) h63 (by rw [hib]; exact hb)
      case h_3 hx nm1 =>
        split at ha
        case h_2 => cases ha
        case h_1 ty' s e' l ho =>
          split at ha
          case h_2 => cases ha
          case h_1 l' hty hcast =>
            simp only [Option.some.injEq, Prod.mk.injEq] at ha
            obtain ⟨hc, rfl, rfl⟩ := ha
            have := castT_eq hcast
            injection this with q1 q2
            injection q1 with q1
            subst q1
            cases q2
            have hty := Nat.eq_of_beq_eq_true hty
            subst hty
            obtain ⟨rfl, hap⟩ := cand_spec hc
            obtain ⟨hb, h63⟩ := ap_spec hap
            obtain ⟨news, hsr, hrow⟩ := src_sound (bytes := i.bytes) hG h hs hy hsrc
            obtain ⟨k, ln, hL, hown⟩ := sat_own.1 hx
            have hL' := (h.obj _ _ (hs _ _ ho)).1
            rw [hL] at hL'
            simp only [Option.some.injEq, Prod.mk.injEq] at hL'
            obtain ⟨rfl, rfl⟩ := hL'
            exact app_own (P := P) (ty := ty) h (hs _ _ ho) hF hd hi hi1 hi2 hi3 hpos (sub_all (α := e'.den) l) hown hrow hsr h63 (by rw [hib]; exact hb)
      case h_4 hx nm1 off len =>
        split at ha
        case h_2 => cases ha
        case h_1 ty' s e' l ho hoff =>
          split at ha
          case h_2 => cases ha
          case h_1 l' hty hcast =>
            simp only [Option.some.injEq, Prod.mk.injEq] at ha
            obtain ⟨hc, rfl, rfl⟩ := ha
            have := castT_eq hcast
            injection this with q1 q2
            injection q1 with q1
            subst q1
            cases q2
            have hty := Nat.eq_of_beq_eq_true hty
            subst hty
            have hoff : off = 0 := Nat.eq_of_beq_eq_true hoff
            subst hoff
            obtain ⟨rfl, hap⟩ := cand_spec hc
            obtain ⟨hb, h63⟩ := ap_spec hap
            obtain ⟨news, hsr, hrow⟩ := src_sound (bytes := i.bytes) hG h hs hy hsrc
            exact app_own (P := P) (ty := ty) h (hs _ _ ho) hF hd hi hi1 hi2 hi3 hpos (congrArg (sub (α := e'.den) l 0) (Nat.zero_add len)) (sat_ownp.1 hx) hrow hsr h63 (by rw [hib]; exact hb)
      case h_5 => cases ha
end
end Go.Tv
