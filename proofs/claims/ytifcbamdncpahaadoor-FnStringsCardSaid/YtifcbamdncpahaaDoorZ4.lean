/- How a typed evaluator tells the code of a function: definitions and soundness, part 4. -/
import Derived.Test.YtifcbamdncpahaaDoorZ3
import Derived.Orders
set_option linter.unusedVariables false
set_option linter.unusedSimpArgs false
namespace Go.Tv
open Go Go.RowKit
def roCtx (c : Ctx) : Ctx := ⟨c.w, fun _ => False, fun _ => False, c.m, c.L⟩
section
variable {c c' : Ctx} {ob : Nat → Option TObj} (hob : ∀ nm o, ob nm = some o → objOK c nm o)
structure Okd (c c' : Ctx) (s S : Bool) (n : List Nat) : Prop where
  w : c'.w = c.w
  ok : ∀ s' b, (s = true → s' = true) → okB c s' b → okB c' S b
  nm : ∀ nm b, nm ∈ n → c.m nm = some b → b < c.w.heap.size → okB c' S b
theorem Okd.le {s S : Bool} {n : List Nat} (H : Okd c c' s S n) {s' : Bool} (h : s = true → s' = true) : Le c s' c' S := ⟨fun b hb => H.ok s' b h hb, fun b o us _ hm => by rw [H.w]; exact hm⟩
theorem Okd.vs {s S : Bool} {n : List Nat} (H : Okd c c' s S n) {t : Ty} {x : t.den} {vs : List Value} (h : VS c s t x vs) : VS c' S t x vs := VS_le (H.le (fun h => h)) h
theorem elsM_to {s S : Bool} {n : List Nat} (H : Okd c c' s S n) {e : Ty} {l : List e.den} {y : Value} (h : elsM c s e l y)
    (hb : ∀ b o' len' cap', y = .slice (some ⟨b, o', none⟩) len' cap' → ¬ l = [] → okB c s b ∨ ∃ nm ∈ n, c.m nm = some b) : VS c' S (.sl e) l [y] := by
  obtain ⟨a, cap, rfl, h1, h2, h3⟩ := h
  simp only [VS]
  refine ⟨a, cap, rfl, h1, h2, ?_⟩
  rcases h3 with h3 | ⟨b, off, us, rfl, g1, g2, g3⟩
  · exact .inl h3
  · by_cases hne : l = []
    · exact .inl hne
    · right
      refine ⟨b, off, us, rfl, ?_, rowsS_mono (fun _ _ _ h => H.vs h) g2, by rw [H.w]; exact g3⟩
      rcases hb b _ _ _ rfl hne with hb | ⟨nm, hn, hb⟩
      · exact H.ok s b (fun h => h) hb
      · exact H.nm nm b hn hb g1
include hob in
theorem asD_to : ∀ {v : TV} {t : Ty} {s S : Bool} {n : List Nat} {d : DV} {vs : List Value}, asD ob t v = some (s, n, d) → Okd c c' s S n → satC c v vs → vs.length = sizeT v → VS c' S d.t d.x vs := by
  have sl : ∀ {v : TV} {t : Ty} {s S : Bool} {n : List Nat} {e : Ty} {l : (Ty.sl e).den} {vs : List Value}, asD ob t v = some (s, n, ⟨.sl e, l⟩) → Okd c c' s S n → satC c v vs → VS c' S (.sl e) l vs := by
    intro v t s S n e l vs h H hs
    obtain ⟨y, rfl, h1, h2⟩ := asL_sound hob h hs
    exact elsM_to H h1 h2
  intro v
  induction v with
  | val s0 t0 x =>
    intro t s S n d vs h H hs hl
    simp only [asD, Option.some.injEq, Prod.mk.injEq] at h
    obtain ⟨rfl, rfl, rfl⟩ := h
    simp only [satC] at hs
    exact H.vs hs
  | pr a b iha ihb =>
    intro t s S n d vs h H hs hl
    cases t with
    | pair ta tb =>
      simp only [asD] at h
      split at h
      case h_2 => cases h
      case h_1 s1 n1 x1 s2 n2 x2 h1 h2 =>
        simp only [Option.some.injEq, Prod.mk.injEq] at h
        obtain ⟨rfl, rfl, rfl⟩ := h
        simp only [satC] at hs
        obtain ⟨u, r, rfl, g1, g2, g3, g4⟩ := hs
        simp only [VS]
        have k1 := iha h1 ⟨H.w, fun s' b hh => H.ok s' b (fun h => hh (Bool.and_eq_true _ _ ▸ h).1), fun nm b hn => H.nm nm b (by simp [hn])⟩ g3 g1
        have k2 := ihb h2 ⟨H.w, fun s' b hh => H.ok s' b (fun h => hh (Bool.and_eq_true _ _ ▸ h).2), fun nm b hn => H.nm nm b (by simp [hn])⟩ g4 g2
        exact ⟨u, r, rfl, k1, k2⟩
    | _ => simp [asD] at h
  | nil =>
    intro t s S n d vs h H hs hl
    cases t <;> first
      | (simp [asD] at h; done)
      | (have h' := h
         simp only [asD, Option.some.injEq, Prod.mk.injEq] at h'
         obtain ⟨_, _, rfl⟩ := h'
         exact sl h H hs)
  | fl s0 e l =>
    intro t s S n d vs h H hs hl
    have h' := h
    simp only [asD, Option.some.injEq, Prod.mk.injEq] at h'
    obtain ⟨_, _, rfl⟩ := h'
    exact sl h H hs
  | own nm =>
    intro t s S n d vs h H hs hl
    have h' := h
    simp only [asD] at h'
    split at h'
    case h_2 => cases h'
    case h_1 =>
      simp only [Option.some.injEq, Prod.mk.injEq] at h'
      obtain ⟨_, _, rfl⟩ := h'
      exact sl h H hs
  | ownp nm off len =>
    intro t s S n d vs h H hs hl
    have h' := h
    simp only [asD] at h'
    split at h'
    case h_2 => cases h'
    case h_1 =>
      simp only [Option.some.injEq, Prod.mk.injEq] at h'
      obtain ⟨_, _, rfl⟩ := h'
      exact sl h H hs
  | sv nm p e len =>
    intro t s S n d vs h H hs hl
    have h' := h
    simp only [asD] at h'
    split at h'
    case h_2 => cases h'
    case h_1 =>
      split at h'
      case h_2 => cases h'
      case h_1 =>
        split at h'
        case h_2 => cases h'
        case h_1 =>
          simp only [Option.some.injEq, Prod.mk.injEq] at h'
          obtain ⟨_, _, rfl⟩ := h'
          exact sl h H hs
  | _ => intro t s S n d vs h; cases t <;> simp [asD] at h
include hob in
theorem asT_to {v : TV} {t : Ty} {s S : Bool} {n : List Nat} {x : t.den} {vs : List Value} (h : asT ob t v = some (s, n, x)) (H : Okd c c' s S n) (hs : satC c v vs) (hl : vs.length = sizeT v) : VS c' S t x vs := by
  unfold asT at h
  split at h
  case h_2 => cases h
  case h_1 s' n' d hd =>
    split at h
    case h_2 => cases h
    case h_1 x' hx =>
      simp only [Option.some.injEq, Prod.mk.injEq] at h
      obtain ⟨hss, rfl, rfl⟩ := h
      have := cast_dv hx
      subst this
      cases hf : t.flat with
      | false => rw [hf, Bool.or_false] at hss; subst hss; exact asD_to hob hd H hs hl
      | true =>
        have := asD_to (c' := roCtx c) (S := true) hob hd ⟨rfl, fun s' b _ hb => ⟨hb.1, fun h => h, fun _ h => h⟩, fun nm b _ hm hb => ⟨hb, fun h => h, fun _ h => h⟩⟩ hs hl
        exact VS_flat hf this
theorem asT_agg {v : TV} {t : Ty} {s : Bool} {n : List Nat} {x : t.den} (h : asT ob t v = some (s, n, x)) : aggT v = t.agg ∧ isTup v = false := by
  have key : ∀ {v : TV} {t : Ty} {s : Bool} {n : List Nat} {d : DV}, asD ob t v = some (s, n, d) → aggT v = d.t.agg ∧ isTup v = false := by
    intro v t s n d h
    cases v with
    | pr a b =>
      cases t with
      | pair ta tb =>
        simp only [asD] at h
        split at h
        case h_2 => cases h
        case h_1 =>
          simp only [Option.some.injEq, Prod.mk.injEq] at h
          obtain ⟨_, _, rfl⟩ := h
          exact ⟨rfl, rfl⟩
      | _ => simp [asD] at h
    | nil =>
      cases t <;> first
        | (simp [asD] at h; done)
        | (simp only [asD, Option.some.injEq, Prod.mk.injEq] at h
           obtain ⟨_, _, rfl⟩ := h; exact ⟨rfl, rfl⟩)
    | _ =>
      unfold asD at h
      repeat' (split at h)
      all_goals first
        | (cases h; done)
        | (simp only [Option.some.injEq, Prod.mk.injEq] at h; obtain ⟨_, _, rfl⟩ := h; exact ⟨rfl, rfl⟩)
        | skip
  unfold asT at h
  split at h
  case h_2 => cases h
  case h_1 d hd =>
    split at h
    case h_2 => cases h
    case h_1 x' hx =>
      have := castT_eq hx
      injection this with h1 h2
      rw [← h1]; exact key hd
end
theorem mktup_untup (l : List Ty) : ∀ (ds : List DV) (x : TupT l), mktup l ds = some x → untup l x = ds := by
  induction l with
  | nil =>
    intro ds x h
    cases ds with
    | nil => rfl
    | cons _ _ => cases h
  | cons a l ih =>
    cases l with
    | nil =>
      intro ds x h
      cases ds with
      | nil => cases h
      | cons d ds =>
        cases ds with
        | nil =>
          have h1 : cast? d.t a d.x = some x := h
          have := castT_eq h1
          show [(⟨a, x⟩ : DV)] = [d]
          rw [← this]
        | cons _ _ => cases h
    | cons b l =>
      intro ds x h
      cases ds with
      | nil => cases h
      | cons d ds =>
        have h1 : (match cast? d.t a d.x, mktup (b :: l) ds with
          | some x, some y => some (x, y)
          | _, _ => none) = some x := h
        cases hy : cast? d.t a d.x with
        | none => rw [hy] at h1; cases h1
        | some y =>
          cases hz : mktup (b :: l) ds with
          | none => rw [hy, hz] at h1; cases h1
          | some z =>
            rw [hy, hz] at h1
            have h2 := Option.some.inj h1
            subst h2
            have := castT_eq hy
            have h3 := ih ds z hz
            show (⟨a, y⟩ : DV) :: untup (b :: l) z = d :: ds
            rw [h3, ← this]
end Go.Tv
namespace Go.Tv
open Go Go.RowKit
theorem look_app {α : Type} : ∀ (l : List (Nat × α)) (p q : Nat) (x : α), look (l ++ [(p, x)]) q = match look l q with | some y => some y | none => if q = p then some x else none
  | [], p, q, x => by
    simp only [List.nil_append, look]
    by_cases h : q = p
    · subst h; rw [Nat.beq_refl]; simp
    · have : Nat.beq p q = false := by
        cases hb : Nat.beq p q with
        | false => rfl
        | true => exact absurd (Nat.eq_of_beq_eq_true hb).symm h
      rw [this]; simp [h]
  | (n, a) :: l, p, q, x => by
    simp only [List.cons_append, look]
    cases Nat.beq n q with
    | true => rfl
    | false => exact look_app l p q x
theorem memI_app : ∀ (l : List (Nat × Option Nat)) (p n : Nat) (x : Option Nat), memI n (l ++ [(p, x)]) = (memI n l || (match x with | some m => Nat.beq n m | none => false))
  | [], p, n, x => by cases x <;> simp [memI]; cases Nat.beq n _ <;> rfl
  | (q, none) :: l, p, n, x => by simp only [List.cons_append, memI]; exact memI_app l p n x
  | (q, some m) :: l, p, n, x => by
    simp only [List.cons_append, memI]
    cases Nat.beq n m with
    | true => rfl
    | false => exact memI_app l p n x
theorem memI_look : ∀ {l : List (Nat × Option Nat)} {p n : Nat}, look l p = some (some n) → memI n l = true
  | (q, none) :: l, p, n, h => by
    simp only [look] at h
    split at h
    · cases h
    · simp only [memI]; exact memI_look h
  | (q, some m) :: l, p, n, h => by
    simp only [look] at h
    split at h
    · simp only [Option.some.injEq] at h; subst h; simp [memI, Nat.beq_refl]
    · simp only [memI]
      cases Nat.beq n m with
      | true => rfl
      | false => exact memI_look h
structure Ext (ob : Nat → Option TObj) (a b : MS) : Prop where
  live : ∀ n, (n ∈ b.froz ∨ n ∈ b.lent) → (n ∈ a.froz ∨ n ∈ a.lent) ∨ ∃ o, ob n = some o
  σ : ∀ p x, look a.σ p = some x → look b.σ p = some x
  mem : ∀ n, memI n a.σ = true → memI n b.σ = true
  tr : ∀ n, memI n a.σ = true → look b.tr n = look a.tr n
  lent : ∀ n, n ∈ a.lent → n ∈ b.lent
  froz : ∀ n, n ∈ a.froz → n ∈ b.froz
  kf : b.kf = true → a.kf = true
  inj : (∀ p q n, look a.σ p = some (some n) → look a.σ q = some (some n) → p = q) → ∀ p q n, look b.σ p = some (some n) → look b.σ q = some (some n) → p = q
theorem Ext.refl {ob : Nat → Option TObj} (a : MS) : Ext ob a a := ⟨fun _ h => .inl h, fun _ _ h => h, fun _ h => h, fun _ _ => rfl, fun _ h => h, fun _ h => h, fun h => h, fun h => h⟩
theorem Ext.trans {ob : Nat → Option TObj} {a b c : MS} (h : Ext ob a b) (k : Ext ob b c) : Ext ob a c :=
  ⟨fun n hn => (k.live n hn).elim (h.live n) .inr, fun p x hx => k.σ p x (h.σ p x hx), fun n hn => k.mem n (h.mem n hn), fun n hn => (k.tr n (h.mem n hn)).trans (h.tr n hn), fun n hn => k.lent n (h.lent n hn), fun n hn => k.froz n (h.froz n hn), fun hk => h.kf (k.kf hk), fun hi => k.inj (h.inj hi)⟩
theorem ext_add {ob : Nat → Option TObj} {ms : MS} {p : Nat} {x : Option Nat} {tr' : List (Nat × NatD)} (h1 : look ms.σ p = none) (h2 : ∀ n, x = some n → memI n ms.σ = false) (h3 : ∀ n, memI n ms.σ = true → look tr' n = look ms.tr n) :
    Ext ob ms { ms with σ := ms.σ ++ [(p, x)], tr := tr' } := by
  refine ⟨fun _ h => .inl h, fun q y hq => ?_, fun n hn => ?_, h3, fun _ h => h, fun _ h => h, fun h => h, fun hi q r n hq hr => ?_⟩
  · simp only [look_app, hq]
  · simp only [memI_app, hn, Bool.true_or]
  · simp only [look_app] at hq hr
    cases hlq : look ms.σ q with
    | some y =>
      rw [hlq] at hq
      simp only [Option.some.injEq] at hq
      subst hq
      cases hlr : look ms.σ r with
      | some z =>
        rw [hlr] at hr
        simp only [Option.some.injEq] at hr
        subst hr
        exact hi q r n hlq hlr
      | none =>
        rw [hlr] at hr
        simp only at hr
        split at hr
        · simp only [Option.some.injEq] at hr
          have := h2 n hr
          rw [memI_look hlq] at this; cases this
        · cases hr
    | none =>
      rw [hlq] at hq
      simp only at hq
      split at hq
      · rename_i hqp
        simp only [Option.some.injEq] at hq
        cases hlr : look ms.σ r with
        | some z =>
          rw [hlr] at hr
          simp only [Option.some.injEq] at hr
          subst hr
          have := h2 n hq
          rw [memI_look hlr] at this; cases this
        | none =>
          rw [hlr] at hr
          simp only at hr
          split at hr
          · rename_i hrp; rw [hqp, hrp]
          · cases hr
      · cases hq
theorem bindN_ext {ob : Nat → Option TObj} {p nm : Nat} {ms ms' : MS} (h : bindN p nm ms = some ms') : Ext ob ms ms' ∧ look ms'.σ p = some (some nm) ∧ look ms'.tr nm = none := by
  unfold bindN at h
  split at h
  case h_1 nm' hl =>
    split at h
    case h_2 => cases h
    case h_1 hb ht =>
      simp only [Option.some.injEq] at h
      subst h
      have := Nat.eq_of_beq_eq_true hb
      subst this
      exact ⟨.refl _, hl, ht⟩
  case h_2 => cases h
  case h_3 hl =>
    split at h
    case h_2 => cases h
    case h_1 hm ht =>
      simp only [Option.some.injEq] at h
      subst h
      exact ⟨ext_add hl (fun n hn => by injection hn with hn; subst hn; exact hm) (fun _ _ => rfl), by simp [look_app, hl], ht⟩
theorem bindT_ext {ob : Nat → Option TObj} {p nm : Nat} {len : NatD} {ms ms' : MS} (h : bindT p nm len ms = some ms') : Ext ob ms ms' ∧ look ms'.σ p = some (some nm) ∧ look ms'.tr nm = some len := by
  unfold bindT at h
  split at h
  case h_2 => cases h
  case h_1 hl hm ht =>
    simp only [Option.some.injEq] at h
    subst h
    refine ⟨ext_add hl (fun n hn => by injection hn with hn; subst hn; exact hm) (fun n hn => ?_), by simp [look_app, hl], by simp [look_app, ht]⟩
    have hne : n ≠ nm := by rintro rfl; rw [hm] at hn; cases hn
    rw [look_app]
    cases look ms.tr n with
    | some _ => rfl
    | none => simp [hne]
theorem bindV_ext {ob : Nat → Option TObj} {p : Nat} {ms ms' : MS} (h : bindV p ms = some ms') : Ext ob ms ms' ∧ look ms'.σ p = some none := by
  unfold bindV at h
  split at h
  case h_1 => cases h
  case h_2 => cases h
  case h_3 hl =>
    simp only [Option.some.injEq] at h
    subst h
    exact ⟨ext_add hl (fun n hn => by cases hn) (fun _ _ => rfl), by simp [look_app, hl]⟩
structure View (c c' : Ctx) (msF : MS) (call : Bool) : Prop where
  w : c'.w = c.w
  m : ∀ p nm, look msF.σ p = some (some nm) → c'.m p = c.m nm
  L0 : ∀ p nm, look msF.σ p = some (some nm) → look msF.tr nm = none → c'.L p = c.L nm
  L1 : ∀ p nm len, look msF.σ p = some (some nm) → look msF.tr nm = some len → ∃ k, c'.L p = some (k, len) ∧ ∀ k' ln, c.L nm = some (k', ln) → k' = k
  V : ∀ p, look msF.σ p = some none → c'.m p = none ∧ ∃ k, c'.L p = some (k, 0)
  ok : ∀ (keep s : Bool) b, okB c s b → (keep = true → s = true ∨ (call = true ∧ msF.kf = false)) → okB c' keep b
  lent : ∀ nm b, nm ∈ msF.lent → c.m nm = some b → b < c.w.heap.size → okB c' false b
  froz : ∀ nm b, nm ∈ msF.froz → c.m nm = some b → b < c.w.heap.size → okB c' true b
theorem samePath_eq : ∀ {q : List (Option Nat)} {p : List Step}, samePath q p = true → pathOf q = p
  | [], [], _ => rfl
  | none :: l, .fst :: p, h => by simp only [samePath] at h; simp only [pathOf, samePath_eq h]
  | some k :: l, .snd k' :: p, h => by
    simp only [samePath] at h
    split at h
    · rename_i hk; rw [Nat.eq_of_beq_eq_true hk]; simp only [pathOf, samePath_eq h]
    · cases h
  | [], _ :: _, h => by simp [samePath] at h
  | none :: _, [], h => by simp [samePath] at h
  | some _ :: _, [], h => by simp [samePath] at h
  | none :: _, .snd _ :: _, h => by simp [samePath] at h
  | none :: _, .idx .. :: _, h => by simp [samePath] at h
  | some _ :: _, .fst :: _, h => by simp [samePath] at h
  | some _ :: _, .idx .. :: _, h => by simp [samePath] at h
section
variable {c c' : Ctx} {ob : Nat → Option TObj} (hob : ∀ nm o, ob nm = some o → objOK c nm o) {msF : MS} {call : Bool} (V : View c c' msF call)
theorem ownV_view (V : View c c' msF call) {p nm off len : Nat} {y : Value} (h1 : look msF.σ p = some (some nm)) (h2 : look msF.tr nm = none) (h : ownV c nm off len y) : ownV c' p off len y := by
  rcases h with h | ⟨b, k, ln, cap, cur, ty, fr, hb, hL, rfl, g1, g2, g3, g4, g5⟩
  · exact .inl h
  · exact .inr ⟨b, k, ln, cap, cur, ty, fr, by rw [V.m p nm h1]; exact hb, by rw [V.L0 p nm h1 h2]; exact hL, rfl, g1, by rw [V.w]; exact g2, g3, g4, g5⟩
structure Told (c c' : Ctx) (a : SV) (v v' : TV) : Prop where
  sat : ∀ vs, satC c v vs → satC c' v' vs ∧ (isData a = true → vs.length = sizeT v → vs.length = sizeT v')
  agg : (a = .any ∧ v' = .any) ∨ (aggT v' = aggT v ∧ isTup v' = isTup v)
theorem one_len {v v' : TV} (h : sizeT v = 1) (h' : sizeT v' = 1) {vs : List Value} (hl : vs.length = sizeT v) : vs.length = sizeT v' := by rw [h', hl, h]
theorem asT_len {v : TV} {t : Ty} {s : Bool} {n : List Nat} {x : t.den} (h : asT ob t v = some (s, n, x)) {vs : List Value} (hs : satC c v vs) : vs.length = sizeT v := by
  cases ha : aggT v with
  | true => exact agg_len ha hs
  | false =>
    refine satC_len hs ?_
    have h1 := (asT_agg h).1
    have h2 := asT_size h
    rw [h1] at ha
    rw [h2]
    cases t <;> first | (cases ha; done) | exact Nat.one_pos
include hob V in
theorem data_told {keep : Bool} {t : Ty} {v : TV} {s : Bool} {n : List Nat} {x : t.den} (h : asT ob t v = some (s, n, x)) (hk : keep = true → s = true ∨ (call = true ∧ msF.kf = false))
    (hn : (∀ nm ∈ n, nm ∈ msF.froz) ∨ (keep = false ∧ ∀ nm ∈ n, nm ∈ msF.lent)) : Told c c' (.data keep t) v (mkv (keep && true) t x) := by
  have hz := asT_size h
  refine ⟨fun vs hs => ?_, .inr ⟨(asT_agg h).1.symm, (asT_agg h).2.symm⟩⟩
  have hl := asT_len h hs
  rw [Bool.and_true]
  refine ⟨satC_mkv (asT_to hob h ⟨V.w, fun s' b hss hb => V.ok keep s' b hb (fun hkk => (hk hkk).imp hss id), fun nm b hnm hm hb => ?_⟩ hs hl), fun _ _ => by rw [hl, hz]; rfl⟩
  rcases hn with hn | ⟨rfl, hn⟩
  · have := V.froz nm b (hn nm hnm) hm hb
    exact okB_weak this
  · exact V.lent nm b (hn nm hnm) hm hb
include hob V in
theorem matV_sound : ∀ (a : SV) (v : TV) (ms ms' : MS) (d rest : List DV), matV ob call a v ms = some (d, ms') →
    Ext ob ms ms' ∧ (Ext ob ms' msF → ∃ v', decV id true a (d ++ rest) = (v', rest) ∧ Told c c' a v v') := by
  intro a
  induction a with
  | any =>
    intro v ms ms' d rest h
    simp only [matV, Option.some.injEq, Prod.mk.injEq] at h
    obtain ⟨rfl, rfl⟩ := h
    exact ⟨.refl _, fun _ => ⟨.any, rfl, fun vs _ => ⟨by simp only [satC], fun h => by cases h⟩, .inl ⟨rfl, rfl⟩⟩⟩
  | nil =>
    intro v ms ms' d rest h
    simp only [matV] at h
    split at h
    case h_2 => cases h
    case h_1 =>
      simp only [Option.some.injEq, Prod.mk.injEq] at h
      obtain ⟨rfl, rfl⟩ := h
      exact ⟨.refl _, fun _ => ⟨.nil, rfl, fun vs hs => ⟨by simp only [satC] at hs ⊢; exact hs, fun _ h => h⟩, .inr ⟨rfl, rfl⟩⟩⟩
  | data keep t =>
    intro v ms ms' d rest h
    simp only [matV] at h
    split at h
    case h_2 => cases h
    case h_1 s n x hx =>
      have fin : ∀ {ms'' : MS}, (keep = true → s = true ∨ (call = true ∧ msF.kf = false)) → ((∀ nm ∈ n, nm ∈ msF.froz) ∨ (keep = false ∧ ∀ nm ∈ n, nm ∈ msF.lent)) → ∃ v', decV id true (.data keep t) ([⟨t, x⟩] ++ rest) = (v', rest) ∧ Told c c' (.data keep t) v v' :=
        fun hk hn => ⟨mkv (keep && true) t x, rfl, data_told hob V hx hk hn⟩
      cases keep <;> cases call <;> simp only at h
      · simp only [Option.some.injEq, Prod.mk.injEq] at h
        obtain ⟨rfl, rfl⟩ := h
        exact ⟨⟨(fun n hn => hn.elim (fun hn => (List.mem_append.1 hn).elim (fun h => .inl (.inl h)) fun h => .inr (asT_names hx n h)) fun h => .inl (.inr h)), fun _ _ h => h, fun _ h => h, fun _ _ => rfl, fun _ h => h, fun _ h => List.mem_append.2 (.inl h), fun h => h, fun h => h⟩, fun hE => fin (ms'' := ms) (fun h => by cases h) (.inl fun nm hn => hE.froz nm (List.mem_append.2 (.inr hn)))⟩
      · simp only [Option.some.injEq, Prod.mk.injEq] at h
        obtain ⟨rfl, rfl⟩ := h
        exact ⟨⟨(fun n hn => hn.elim (fun h => .inl (.inl h)) fun hn => (List.mem_append.1 hn).elim (fun h => .inl (.inr h)) fun h => .inr (asT_names hx n h)), fun _ _ h => h, fun _ h => h, fun _ _ => rfl, fun _ h => List.mem_append.2 (.inl h), fun _ h => h, fun h => h, fun h => h⟩, fun hE => fin (ms'' := ms) (fun h => by cases h) (.inr ⟨rfl, fun nm hn => hE.lent nm (List.mem_append.2 (.inr hn))⟩)⟩
      · split at h
        case h_2 => cases h
        case h_1 =>
          simp only [Option.some.injEq, Prod.mk.injEq] at h
          obtain ⟨rfl, rfl⟩ := h
          exact ⟨⟨(fun n hn => hn.elim (fun hn => (List.mem_append.1 hn).elim (fun h => .inl (.inl h)) fun h => .inr (asT_names hx n h)) fun h => .inl (.inr h)), fun _ _ h => h, fun _ h => h, fun _ _ => rfl, fun _ h => h, fun _ h => List.mem_append.2 (.inl h), fun h => h, fun h => h⟩, fun hE => fin (ms'' := ms) (fun _ => .inl rfl) (.inl fun nm hn => hE.froz nm (List.mem_append.2 (.inr hn)))⟩
      · simp only [Option.some.injEq, Prod.mk.injEq] at h
        obtain ⟨rfl, rfl⟩ := h
        refine ⟨⟨(fun n hn => hn.elim (fun hn => (List.mem_append.1 hn).elim (fun h => .inl (.inl h)) fun h => .inr (asT_names hx n h)) fun h => .inl (.inr h)), fun _ _ h => h, fun _ h => h, fun _ _ => rfl, fun _ h => h, fun _ h => List.mem_append.2 (.inl h), fun h => (Bool.and_eq_true _ _ ▸ h).1, fun h => h⟩, fun hE => fin (ms'' := ms) (fun _ => ?_) (.inl fun nm hn => hE.froz nm (List.mem_append.2 (.inr hn)))⟩
        cases hk : msF.kf with
        | false => exact .inr ⟨rfl, rfl⟩
        | true => have := hE.kf hk; simp only [Bool.and_eq_true] at this; exact .inl this.2
  | fl keep e =>
    intro v ms ms' d rest h
    simp only [matV] at h
    split at h
    case h_1 s e' l =>
      split at h
      case h_1 => cases h
      case h_2 hk =>
        simp only [Option.some.injEq, Prod.mk.injEq] at h
        obtain ⟨rfl, rfl⟩ := h
        refine ⟨⟨fun _ h => .inl h, fun _ _ h => h, fun _ h => h, fun _ _ => rfl, fun _ h => h, fun _ h => h, fun h => (Bool.and_eq_true _ _ ▸ h).1, fun h => h⟩, fun hE => ⟨.fl (keep && true) e' l, rfl, fun vs hs => ⟨?_, fun _ h => h⟩, .inr ⟨rfl, rfl⟩⟩⟩
        rw [Bool.and_true]
        simp only [satC] at hs ⊢
        obtain ⟨a, rfl, h1, h2⟩ := hs
        have hok : keep = true → s = true ∨ (call = true ∧ msF.kf = false) := by
          intro hkk
          subst hkk
          cases hkf : msF.kf with
          | false =>
            cases s with
            | true => exact .inl rfl
            | false => cases call with
              | true => exact .inr ⟨rfl, rfl⟩
              | false => cases hk
          | true => have := hE.kf hkf; simp only [Bool.and_eq_true, Bool.not_true, Bool.or_false] at this; exact .inl this.2
        have H : Le c s c' keep := ⟨fun b hb => V.ok keep s b hb hok, fun b o us _ hm => by rw [V.w]; exact hm⟩
        exact ⟨a, rfl, h1, slM_le H (fun _ _ _ h => VS_le H h) h2⟩
    case h_2 =>
      simp only [Option.some.injEq, Prod.mk.injEq] at h
      obtain ⟨rfl, rfl⟩ := h
      refine ⟨.refl _, fun _ => ⟨.fl (keep && true) e (lnilD e), rfl, fun vs hs => ⟨?_, fun _ h => h⟩, .inr ⟨rfl, rfl⟩⟩⟩
      simp only [satC] at hs ⊢
      exact ⟨none, hs, Nat.zero_le _, .inl rfl⟩
    case h_3 => cases h
  | rptr keep t =>
    intro v ms ms' d rest h
    simp only [matV] at h
    split at h
    case h_2 => cases h
    case h_1 s t' x =>
      split at h
      case h_1 => cases h
      case h_2 hk =>
        simp only [Option.some.injEq, Prod.mk.injEq] at h
        obtain ⟨rfl, rfl⟩ := h
        refine ⟨⟨fun _ h => .inl h, fun _ _ h => h, fun _ h => h, fun _ _ => rfl, fun _ h => h, fun _ h => h, fun h => (Bool.and_eq_true _ _ ▸ h).1, fun h => h⟩, fun hE => ⟨.rptr (keep && true) t' x, rfl, fun vs hs => ⟨?_, fun _ h => h⟩, .inr ⟨rfl, rfl⟩⟩⟩
        rw [Bool.and_true]
        simp only [satC] at hs ⊢
        obtain ⟨b, off, us, rfl, h1, h2, h3⟩ := hs
        have hok : keep = true → s = true ∨ (call = true ∧ msF.kf = false) := by
          intro hkk
          subst hkk
          cases hkf : msF.kf with
          | false =>
            cases s with
            | true => exact .inl rfl
            | false => cases call with
              | true => exact .inr ⟨rfl, rfl⟩
              | false => cases hk
          | true => have := hE.kf hkf; simp only [Bool.and_eq_true, Bool.not_true, Bool.or_false] at this; exact .inl this.2
        have H : Le c s c' keep := ⟨fun b hb => V.ok keep s b hb hok, fun b o us _ hm => by rw [V.w]; exact hm⟩
        exact ⟨b, off, us, rfl, H.ok b h1, VS_le H h2, by rw [V.w]; exact h3⟩
  | own p =>
    intro v ms ms' d rest h
    simp only [matV] at h
    split at h
    case h_1 nm =>
      split at h
      case h_2 => cases h
      case h_1 ms1 hb =>
        simp only [Option.some.injEq, Prod.mk.injEq] at h
        obtain ⟨rfl, rfl⟩ := h
        obtain ⟨g1, g2, g3⟩ := bindN_ext hb
        refine ⟨g1, fun hE => ⟨.own p, rfl, fun vs hs => ⟨?_, fun _ h => h⟩, .inr ⟨rfl, rfl⟩⟩⟩
        have q1 := hE.σ p _ g2
        have q2 := (hE.tr nm (memI_look g2)).trans g3
        simp only [satC] at hs ⊢
        obtain ⟨y, k, ln, rfl, h1, h2⟩ := hs
        exact ⟨y, k, ln, rfl, by rw [V.L0 p nm q1 q2]; exact h1, ownV_view V q1 q2 h2⟩
    case h_2 nm off len =>
      split at h
      case h_2 => cases h
      case h_1 ms1 hz hb =>
        simp only [Option.some.injEq, Prod.mk.injEq] at h
        obtain ⟨rfl, rfl⟩ := h
        simp only [Bool.and_eq_true] at hz
        have hz := Nat.eq_of_beq_eq_true hz.1
        subst hz
        obtain ⟨g1, g2, g3⟩ := bindT_ext hb
        refine ⟨g1, fun hE => ⟨.own p, rfl, fun vs hs => ⟨?_, fun _ h => h⟩, .inr ⟨rfl, rfl⟩⟩⟩
        have q1 := hE.σ p _ g2
        have q2 := (hE.tr nm (memI_look g2)).trans g3
        simp only [satC] at hs ⊢
        obtain ⟨y, rfl, h2⟩ := hs
        rcases h2 with ⟨rfl, a, rfl⟩ | ⟨b, k, ln, cap, cur, ty, fr, e1, e2, rfl, e3, e4, e5, e6, e7⟩
        · obtain ⟨k, hL, _⟩ := V.L1 p nm 0 q1 q2
          exact ⟨_, k, 0, rfl, hL, .inl ⟨rfl, a, rfl⟩⟩
        · obtain ⟨k0, hL, hk0⟩ := V.L1 p nm len q1 q2
          have := hk0 k ln e2
          subst this
          exact ⟨_, k, len, rfl, hL, .inr ⟨b, k, len, cap, cur, ty, fr, by rw [V.m p nm q1]; exact e1, hL, rfl, e3, by rw [V.w]; exact e4, e5, e6, by omega⟩⟩
    case h_3 =>
      split at h
      case h_1 => cases h
      case h_2 =>
        split at h
        case h_2 => cases h
        case h_1 ms1 hb =>
          simp only [Option.some.injEq, Prod.mk.injEq] at h
          obtain ⟨rfl, rfl⟩ := h
          obtain ⟨g1, g2⟩ := bindV_ext hb
          refine ⟨g1, fun hE => ⟨.own p, rfl, fun vs hs => ⟨?_, fun _ h => h⟩, .inr ⟨rfl, rfl⟩⟩⟩
          obtain ⟨_, k, hL⟩ := V.V p (hE.σ p _ g2)
          simp only [satC] at hs ⊢
          exact ⟨.slice none 0 0, k, 0, hs, hL, .inl ⟨rfl, none, rfl⟩⟩
    case h_4 => cases h
  | ownp p =>
    intro v ms ms' d rest h
    simp only [matV] at h
    split at h
    case h_2 => cases h
    case h_1 nm off len =>
      split at h
      case h_2 => cases h
      case h_1 ms1 hb =>
        simp only [Option.some.injEq, Prod.mk.injEq] at h
        obtain ⟨rfl, rfl⟩ := h
        obtain ⟨g1, g2, g3⟩ := bindN_ext hb
        refine ⟨g1, fun hE => ⟨.ownp p off len, rfl, fun vs hs => ⟨?_, fun _ h => h⟩, .inr ⟨rfl, rfl⟩⟩⟩
        have q1 := hE.σ p _ g2
        have q2 := (hE.tr nm (memI_look g2)).trans g3
        simp only [satC] at hs ⊢
        obtain ⟨y, rfl, h2⟩ := hs
        exact ⟨y, rfl, ownV_view V q1 q2 h2⟩
  | ptr p q =>
    intro v ms ms' d rest h
    simp only [matV] at h
    split at h
    case h_2 => cases h
    case h_1 nm q' =>
      split at h
      case h_2 => cases h
      case h_1 ms1 hp hb =>
        simp only [Option.some.injEq, Prod.mk.injEq] at h
        obtain ⟨rfl, rfl⟩ := h
        have := samePath_eq hp
        subst this
        obtain ⟨g1, g2, g3⟩ := bindN_ext hb
        refine ⟨g1, fun hE => ⟨.ptr p (pathOf q), rfl, fun vs hs => ⟨?_, fun _ h => h⟩, .inr ⟨rfl, rfl⟩⟩⟩
        have q1 := hE.σ p _ g2
        have q2 := (hE.tr nm (memI_look g2)).trans g3
        simp only [satC] at hs ⊢
        obtain ⟨b, k, ln, h1, rfl, h2, h3⟩ := hs
        exact ⟨b, k, ln, by rw [V.m p nm q1]; exact h1, rfl, by rw [V.L0 p nm q1 q2]; exact h2, h3⟩
  | pr a b iha ihb =>
    intro v ms ms' d rest h
    simp only [matV] at h
    split at h
    case h_2 => cases h
    case h_1 x y hd hx hy =>
      split at h
      case h_2 => cases h
      case h_1 d1 ms1 h1 =>
        split at h
        case h_2 => cases h
        case h_1 d2 ms2 h2 =>
          simp only [Option.some.injEq, Prod.mk.injEq] at h
          obtain ⟨rfl, rfl⟩ := h
          simp only [Bool.and_eq_true] at hd
          obtain ⟨e1, f1⟩ := iha x ms ms1 d1 (d2 ++ rest) h1
          obtain ⟨e2, f2⟩ := ihb y ms1 ms2 d2 rest h2
          refine ⟨e1.trans e2, fun hE => ?_⟩
          obtain ⟨x', hx', tx⟩ := f1 (e2.trans hE)
          obtain ⟨y', hy', ty⟩ := f2 hE
          refine ⟨.pr x' y', by simp only [decV, List.append_assoc, hx', hy'], fun vs hs => ?_, .inr ?_⟩
          · obtain ⟨u, r, rfl, k1, k2, k3, k4, k5⟩ := splitT hx hy hs
            obtain ⟨m1, m2⟩ := tx.sat u k3
            obtain ⟨n1, n2⟩ := ty.sat r k4
            have l1 := m2 hd.1 k1
            have l2 := n2 hd.2 k2
            refine ⟨by simp only [satC]; exact ⟨u, r, rfl, l1, l2, m1, n1⟩, fun _ _ => by rw [List.length_append, l1, l2]; rfl⟩
          · cases v with
            | val s t x => cases t <;> first | exact ⟨rfl, rfl⟩ | (simp [fstT] at hx)
            | pr _ _ => exact ⟨rfl, rfl⟩
            | _ => simp [fstT] at hx
  | tnil =>
    intro v ms ms' d rest h
    simp only [matV] at h
    split at h
    case h_2 => cases h
    case h_1 =>
      simp only [Option.some.injEq, Prod.mk.injEq] at h
      obtain ⟨rfl, rfl⟩ := h
      exact ⟨.refl _, fun _ => ⟨.tnil, rfl, fun vs hs => ⟨by simp only [satC] at hs ⊢; exact hs, fun h => by cases h⟩, .inr ⟨rfl, rfl⟩⟩⟩
  | tcons a b iha ihb =>
    intro v ms ms' d rest h
    simp only [matV] at h
    split at h
    case h_2 => cases h
    case h_1 x y htup =>
      split at h
      case h_2 => cases h
      case h_1 d1 ms1 h1 =>
        split at h
        case h_2 => cases h
        case h_1 d2 ms2 h2 =>
          simp only [Option.some.injEq, Prod.mk.injEq] at h
          obtain ⟨rfl, rfl⟩ := h
          obtain ⟨e1, f1⟩ := iha x ms ms1 d1 (d2 ++ rest) h1
          obtain ⟨e2, f2⟩ := ihb y ms1 ms2 d2 rest h2
          refine ⟨e1.trans e2, fun hE => ?_⟩
          obtain ⟨x', hx', tx⟩ := f1 (e2.trans hE)
          obtain ⟨y', hy', ty⟩ := f2 hE
          refine ⟨.tcons x' y', by simp only [decV, List.append_assoc, hx', hy'], fun vs hs => ?_, .inr ⟨rfl, rfl⟩⟩
          simp only [satC] at hs ⊢
          obtain ⟨u, r, rfl, k1, k2, k3⟩ := hs
          exact ⟨⟨u, r, rfl, k1, (tx.sat _ k2).1, (ty.sat _ k3).1⟩, fun h => by cases h⟩
  | clo f b ih =>
    intro v ms ms' d rest h
    simp only [matV] at h
    split at h
    case h_2 => cases h
    case h_1 f' x =>
      split at h
      case h_2 => cases h
      case h_1 hf =>
        have hf := Nat.eq_of_beq_eq_true hf
        subst hf
        obtain ⟨e1, f1⟩ := ih x ms ms' d rest h
        refine ⟨e1, fun hE => ?_⟩
        obtain ⟨x', hx', tx⟩ := f1 hE
        refine ⟨.clo f x', by simp only [decV, hx'], fun vs hs => ?_, .inr ⟨rfl, rfl⟩⟩
        simp only [satC] at hs ⊢
        obtain ⟨us, rfl, h1⟩ := hs
        exact ⟨⟨us, rfl, (tx.sat _ h1).1⟩, fun _ h => h⟩
end
end Go.Tv
namespace Go.Tv
open Go Go.RowKit
section
variable {c c' : Ctx} {ob : Nat → Option TObj} (hob : ∀ nm o, ob nm = some o → objOK c nm o) {msF : MS} {call : Bool} (V : View c c' msF call)
theorem told_V {a : SV} {v v' : TV} (h : Told c c' a v v') {y : Value} (hs : satV c v y) : satV c' v' y := by
  rcases h.agg with ⟨_, rfl⟩ | ⟨h1, _⟩
  · simp only [satV, aggT, satC]
  · unfold satV at hs ⊢
    rw [h1]
    cases ha : aggT v with
    | true => rw [ha] at hs; obtain ⟨vs, rfl, hs⟩ := hs; exact ⟨vs, rfl, (h.sat vs hs).1⟩
    | false => rw [ha] at hs; exact (h.sat _ hs).1
include hob V in
theorem matT_sound : ∀ (a : SV) (v : TV) (ms ms' : MS) (d rest : List DV), matV ob call a v ms = some (d, ms') → isTup v = true → a ≠ .any → Ext ob ms' msF →
    ∃ v', decV id true a (d ++ rest) = (v', rest) ∧ isTup v' = true ∧ ∀ vs, satT c v vs → satT c' v' vs := by
  intro a
  induction a with
  | any => intro v ms ms' d rest h ht ha; exact absurd rfl ha
  | tnil =>
    intro v ms ms' d rest h ht _ hE
    simp only [matV] at h
    split at h
    case h_2 => cases h
    case h_1 =>
      simp only [Option.some.injEq, Prod.mk.injEq] at h
      obtain ⟨rfl, rfl⟩ := h
      exact ⟨.tnil, rfl, rfl, fun vs hs => by simp only [satT] at hs ⊢; exact hs⟩
  | tcons a b iha ihb =>
    intro v ms ms' d rest h ht _ hE
    simp only [matV] at h
    split at h
    case h_2 => cases h
    case h_1 x y htup =>
      split at h
      case h_2 => cases h
      case h_1 d1 ms1 h1 =>
        split at h
        case h_2 => cases h
        case h_1 d2 ms2 h2 =>
          simp only [Option.some.injEq, Prod.mk.injEq] at h
          obtain ⟨rfl, rfl⟩ := h
          obtain ⟨e1, f1⟩ := matV_sound hob V a x ms ms1 d1 (d2 ++ rest) h1
          obtain ⟨e2, f2⟩ := matV_sound hob V b y ms1 ms2 d2 rest h2
          obtain ⟨x', hx', tx⟩ := f1 (e2.trans hE)
          obtain ⟨y', hy', ty⟩ := f2 hE
          refine ⟨.tcons x' y', by simp only [decV, List.append_assoc, hx', hy'], rfl, fun vs hs => ?_⟩
          simp only [satT] at hs ⊢
          obtain ⟨u, r, rfl, k1, k2⟩ := hs
          have hty : isTup y = true := by cases y <;> first | rfl | (simp [satT] at k2)
          refine ⟨u, r, rfl, told_V tx k1, ?_⟩
          by_cases hb : b = .any
          · rw [hb] at htup; cases htup
          · obtain ⟨y2, hy2, _, hT⟩ := ihb y ms1 ms2 d2 rest h2 hty hb hE
            rw [hy'] at hy2
            injection hy2 with hy2
            subst hy2
            exact hT r k2
  | data keep t =>
    intro v ms ms' d rest h ht
    simp only [matV] at h
    split at h
    case h_2 => cases h
    case h_1 hx => have := (asT_agg hx).2; rw [ht] at this; cases this
  | pr a b =>
    intro v ms ms' d rest h ht
    simp only [matV] at h
    split at h
    case h_2 => cases h
    case h_1 hx _ => cases v <;> first | (cases ht; done) | (simp [fstT] at hx)
  | _ =>
    intro v ms ms' d rest h ht
    cases v <;> first | (cases ht; done) | (simp [matV] at h)
include hob V in
theorem mat_sat (a : SV) (v : TV) (ms ms' : MS) (d rest : List DV) (h : matV ob call a v ms = some (d, ms')) (hE : Ext ob ms' msF) : ∃ v', decV id true a (d ++ rest) = (v', rest) ∧ ∀ y, sat c v y → sat c' v' y := by
  obtain ⟨_, f⟩ := matV_sound hob V a v ms ms' d rest h
  obtain ⟨v', h1, tv⟩ := f hE
  refine ⟨v', h1, fun y hs => ?_⟩
  rcases tv.agg with ⟨_, rfl⟩ | ⟨_, ht⟩
  · exact sat_any
  · cases hv : isTup v with
    | false =>
      unfold sat at hs ⊢
      rw [hv] at hs ht
      rw [ht]
      exact told_V tv hs
    | true =>
      by_cases ha : a = .any
      · subst ha
        simp only [decV] at h1
        injection h1 with h1 _
        subst h1; exact sat_any
      · obtain ⟨v2, h2, ht2, hT⟩ := matT_sound hob V a v ms ms' d rest h hv ha hE
        rw [h1] at h2
        injection h2 with h2
        subst h2
        unfold sat at hs ⊢
        rw [hv] at hs
        rw [ht2]
        obtain ⟨vs, rfl, hs⟩ := hs
        exact ⟨vs, rfl, hT vs hs⟩
def TrOK (c : Ctx) (ms : MS) : Prop := ∀ nm len, look ms.tr nm = some len → ∀ k ln, c.L nm = some (k, ln) → len ≤ ln
theorem bindN_tr {p nm : Nat} {ms ms' : MS} (h : bindN p nm ms = some ms') : ms'.tr = ms.tr := by
  unfold bindN at h
  split at h
  case h_1 => split at h <;> first | (cases h; done) | (simp only [Option.some.injEq] at h; rw [h])
  case h_2 => cases h
  case h_3 => split at h <;> first | (cases h; done) | (simp only [Option.some.injEq] at h; rw [← h])
theorem bindV_tr {p : Nat} {ms ms' : MS} (h : bindV p ms = some ms') : ms'.tr = ms.tr := by
  unfold bindV at h
  split at h <;> first | (cases h; done) | (simp only [Option.some.injEq] at h; rw [← h])
theorem matV_tr : ∀ (a : SV) (v : TV) (ms ms' : MS) (d : List DV), matV ob call a v ms = some (d, ms') → (∃ vs, satC c v vs) → TrOK c ms → TrOK c ms' := by
  intro a
  induction a with
  | data keep t =>
    intro v ms ms' d h hs ht
    simp only [matV] at h
    split at h
    case h_2 => cases h
    case h_1 =>
      cases keep <;> cases call <;> simp only at h
      all_goals first
        | (simp only [Option.some.injEq, Prod.mk.injEq] at h; obtain ⟨_, rfl⟩ := h; exact ht)
        | (split at h
           · simp only [Option.some.injEq, Prod.mk.injEq] at h; obtain ⟨_, rfl⟩ := h; exact ht
           · cases h)
  | own p =>
    intro v ms ms' d h hs ht
    simp only [matV] at h
    split at h
    case h_1 nm =>
      split at h
      case h_2 => cases h
      case h_1 ms1 hb =>
        simp only [Option.some.injEq, Prod.mk.injEq] at h
        obtain ⟨_, rfl⟩ := h
        unfold TrOK; rw [bindN_tr hb]; exact ht
    case h_2 nm off len =>
      split at h
      case h_2 => cases h
      case h_1 ms1 hz hb =>
        simp only [Option.some.injEq, Prod.mk.injEq] at h
        obtain ⟨_, rfl⟩ := h
        simp only [Bool.and_eq_true] at hz
        have hz := Nat.eq_of_beq_eq_true hz.1
        subst hz
        unfold bindT at hb
        split at hb
        case h_2 => cases hb
        case h_1 =>
          simp only [Option.some.injEq] at hb
          subst hb
          intro nm' len' hl k ln hL
          simp only [look_app] at hl
          split at hl
          · rename_i y hy; simp only [Option.some.injEq] at hl; subst hl; exact ht nm' y hy k ln hL
          · split at hl
            · rename_i hn
              subst hn
              simp only [Option.some.injEq] at hl
              subst hl
              obtain ⟨vs, hs⟩ := hs
              simp only [satC] at hs
              obtain ⟨y, _, h2⟩ := hs
              rcases h2 with ⟨rfl, _⟩ | ⟨b, k', ln', cap, cur, ty, fr, _, e2, _, _, _, _, _, e7⟩
              · exact Nat.zero_le _
              · rw [hL] at e2; simp only [Option.some.injEq, Prod.mk.injEq] at e2; obtain ⟨_, rfl⟩ := e2; exact Nat.le_trans (Nat.le_of_eq (Nat.zero_add len).symm) e7
            · cases hl
    case h_3 =>
      split at h
      case h_1 => cases h
      case h_2 =>
        split at h
        case h_2 => cases h
        case h_1 ms1 hb =>
          simp only [Option.some.injEq, Prod.mk.injEq] at h
          obtain ⟨_, rfl⟩ := h
          unfold TrOK; rw [bindV_tr hb]; exact ht
    case h_4 => cases h
  | pr a b iha ihb =>
    intro v ms ms' d h hs ht
    simp only [matV] at h
    split at h
    case h_2 => cases h
    case h_1 x y hd hx hy =>
      split at h
      case h_2 => cases h
      case h_1 d1 ms1 h1 =>
        split at h
        case h_2 => cases h
        case h_1 d2 ms2 h2 =>
          simp only [Option.some.injEq, Prod.mk.injEq] at h
          obtain ⟨_, rfl⟩ := h
          obtain ⟨vs, hs⟩ := hs
          obtain ⟨u, r, rfl, _, _, k3, k4, _⟩ := splitT hx hy hs
          exact ihb y ms1 ms2 d2 h2 ⟨r, k4⟩ (iha x ms ms1 d1 h1 ⟨u, k3⟩ ht)
  | tcons a b iha ihb =>
    intro v ms ms' d h hs ht
    simp only [matV] at h
    split at h
    case h_2 => cases h
    case h_1 x y htup =>
      split at h
      case h_2 => cases h
      case h_1 d1 ms1 h1 =>
        split at h
        case h_2 => cases h
        case h_1 d2 ms2 h2 =>
          simp only [Option.some.injEq, Prod.mk.injEq] at h
          obtain ⟨_, rfl⟩ := h
          obtain ⟨vs, hs⟩ := hs
          simp only [satC] at hs
          obtain ⟨u, r, rfl, _, k3, k4⟩ := hs
          exact ihb y ms1 ms2 d2 h2 ⟨r, k4⟩ (iha x ms ms1 d1 h1 ⟨_, k3⟩ ht)
  | clo f b ih =>
    intro v ms ms' d h hs ht
    simp only [matV] at h
    split at h
    case h_2 => cases h
    case h_1 f' x =>
      split at h
      case h_2 => cases h
      case h_1 =>
        obtain ⟨vs, hs⟩ := hs
        simp only [satC] at hs
        obtain ⟨us, _, h1⟩ := hs
        exact ih x ms ms' d h ⟨us, h1⟩ ht
  | _ =>
    intro v ms ms' d h hs ht
    simp only [matV] at h
    repeat' (split at h)
    all_goals first
      | (cases h; done)
      | (simp only [Option.some.injEq, Prod.mk.injEq] at h; obtain ⟨_, rfl⟩ := h; exact ht)
      | (rename_i hb; simp only [Option.some.injEq, Prod.mk.injEq] at h; obtain ⟨_, rfl⟩ := h; unfold TrOK; rw [bindN_tr hb]; exact ht)
end
end Go.Tv
namespace Go.Tv
open Go Go.RowKit
section
variable {c c' : Ctx} {ob : Nat → Option TObj} (hob : ∀ nm o, ob nm = some o → objOK c nm o) {msF : MS} {call : Bool} (V : View c c' msF call)
theorem take_len {α : Type} {l : List α} {n : Nat} (h : n ≤ l.length) : (l.take n).length = n := by rw [List.length_take]; exact Nat.min_eq_left h
theorem rowsS_take {α : Type} {f : α → List Value → Prop} {k : Nat} (hk : ∀ x v, f x v → v.length = k) {l : List α} {vs : List Value} (h : rowsS f l vs) (n : Nat) : rowsS f (l.take n) (vs.take ((l.take n).length * k)) := by
  have := rowsS_sub hk h 0 n (Nat.zero_le _)
  simpa using this
theorem satV_some {v : TV} {y : Value} (h : satV c v y) : ∃ vs, satC c v vs := by
  unfold satV at h
  cases ha : aggT v with
  | true => rw [ha] at h; obtain ⟨vs, _, h⟩ := h; exact ⟨vs, h⟩
  | false => rw [ha] at h; exact ⟨_, h⟩
theorem matT_tr : ∀ (a : SV) (v : TV) (ms ms' : MS) (d : List DV), matV ob call a v ms = some (d, ms') → (∃ vs, satT c v vs) → TrOK c ms → TrOK c ms' := by
  intro a
  induction a with
  | tcons a b iha ihb =>
    intro v ms ms' d h hs ht
    simp only [matV] at h
    split at h
    case h_2 => cases h
    case h_1 x y htup =>
      split at h
      case h_2 => cases h
      case h_1 d1 ms1 h1 =>
        split at h
        case h_2 => cases h
        case h_1 d2 ms2 h2 =>
          simp only [Option.some.injEq, Prod.mk.injEq] at h
          obtain ⟨_, rfl⟩ := h
          obtain ⟨vs, hs⟩ := hs
          simp only [satT] at hs
          obtain ⟨u, r, rfl, k3, k4⟩ := hs
          exact ihb y ms1 ms2 d2 h2 ⟨r, k4⟩ (matV_tr a x ms ms1 d1 h1 (satV_some k3) ht)
  | tnil =>
    intro v ms ms' d h hs ht
    simp only [matV] at h
    split at h
    case h_2 => cases h
    case h_1 => simp only [Option.some.injEq, Prod.mk.injEq] at h; obtain ⟨_, rfl⟩ := h; exact ht
  | any =>
    intro v ms ms' d h hs ht
    simp only [matV, Option.some.injEq, Prod.mk.injEq] at h
    obtain ⟨_, rfl⟩ := h; exact ht
  | data keep t =>
    intro v ms ms' d h hs ht
    simp only [matV] at h
    split at h
    case h_2 => cases h
    case h_1 hx =>
      have := (asT_agg hx).2
      obtain ⟨vs, hs⟩ := hs
      cases v <;> first | (cases this; done) | (simp [satT] at hs)
  | pr a b =>
    intro v ms ms' d h hs ht
    simp only [matV] at h
    split at h
    case h_2 => cases h
    case h_1 hx _ =>
      obtain ⟨vs, hs⟩ := hs
      cases v <;> first | (simp [fstT] at hx; done) | (simp [satT] at hs)
  | _ =>
    intro v ms ms' d h hs ht
    obtain ⟨vs, hs⟩ := hs
    cases v <;> first | (simp [satT] at hs; done) | (simp [matV] at h)
theorem mat_tr {a : SV} {v : TV} {ms ms' : MS} {d : List DV} (h : matV ob call a v ms = some (d, ms')) {y : Value} (hs : sat c v y) (ht : TrOK c ms) : TrOK c ms' := by
  unfold sat at hs
  cases hv : isTup v with
  | false => rw [hv] at hs; exact matV_tr a v ms ms' d h (satV_some hs) ht
  | true => rw [hv] at hs; obtain ⟨vs, _, hs⟩ := hs; exact matT_tr a v ms ms' d h ⟨vs, hs⟩ ht
include hob in
theorem matE_sound (V : View c c' msF false) {e : Nat → TV} : ∀ (l : List (Tmp × SV)) (ms ms' : MS) (d rest : List DV), matE ob e l ms = some (d, ms') →
    Ext ob ms ms' ∧ ((∀ t, ∃ y, sat c (e t) y) → TrOK c ms → TrOK c ms') ∧ (Ext ob ms' msF → ∃ E', decE id l (d ++ rest) = (E', rest) ∧ ∀ t y, sat c (e t) y → sat c' (tabE E' t) y)
  | [], ms, ms', d, rest, h => by
    simp only [matE, Option.some.injEq, Prod.mk.injEq] at h
    obtain ⟨rfl, rfl⟩ := h
    exact ⟨.refl _, fun _ h => h, fun _ => ⟨[], rfl, fun t y _ => sat_any⟩⟩
  | a :: l, ms, ms', d, rest, h => by
    simp only [matE] at h
    split at h
    case h_2 => cases h
    case h_1 d1 ms1 h1 =>
      split at h
      case h_2 => cases h
      case h_1 d2 ms2 h2 =>
        simp only [Option.some.injEq, Prod.mk.injEq] at h
        obtain ⟨rfl, rfl⟩ := h
        obtain ⟨e1, _⟩ := matV_sound hob V a.2 (e a.1) ms ms1 d1 (d2 ++ rest) h1
        obtain ⟨e2, t2, f2⟩ := matE_sound V l ms1 ms2 d2 rest h2
        refine ⟨e1.trans e2, fun hs ht => t2 hs ?_, fun hE => ?_⟩
        · obtain ⟨y, hy⟩ := hs a.1
          exact mat_tr h1 hy ht
        · obtain ⟨x', hx', hx⟩ := mat_sat hob V a.2 (e a.1) ms ms1 d1 (d2 ++ rest) h1 (e2.trans hE)
          obtain ⟨E', hE', hs⟩ := f2 hE
          refine ⟨(a.1, x') :: E', by simp only [decE, List.append_assoc, hx', hE'], fun t y hy => ?_⟩
          unfold tabE look
          cases hb : Nat.beq a.1 t with
          | true =>
            have := Nat.eq_of_beq_eq_true hb
            subst this
            exact hx y hy
          | false => exact hs t y hy
include hob V in
theorem matVs_sound : ∀ (l : List SV) (xs : List TV) (ms ms' : MS) (d rest : List DV), matVs ob call l xs ms = some (d, ms') →
    Ext ob ms ms' ∧ l.length = xs.length ∧ (Ext ob ms' msF → ∃ X', decVs id true l (d ++ rest) = (X', rest) ∧ X'.length = l.length ∧ ∀ i y, i < xs.length → sat c (nthV xs i) y → sat c' (nthV X' i) y)
  | [], [], ms, ms', d, rest, h => by
    simp only [matVs, Option.some.injEq, Prod.mk.injEq] at h
    obtain ⟨rfl, rfl⟩ := h
    exact ⟨.refl _, rfl, fun _ => ⟨[], rfl, rfl, fun i y hi => by simp at hi⟩⟩
  | [], _ :: _, ms, ms', d, rest, h => by simp [matVs] at h
  | _ :: _, [], ms, ms', d, rest, h => by simp [matVs] at h
  | a :: l, x :: xs, ms, ms', d, rest, h => by
    simp only [matVs] at h
    split at h
    case h_2 => cases h
    case h_1 d1 ms1 h1 =>
      split at h
      case h_2 => cases h
      case h_1 d2 ms2 h2 =>
        simp only [Option.some.injEq, Prod.mk.injEq] at h
        obtain ⟨rfl, rfl⟩ := h
        obtain ⟨e1, _⟩ := matV_sound hob V a x ms ms1 d1 (d2 ++ rest) h1
        obtain ⟨e2, t2, f2⟩ := matVs_sound l xs ms1 ms2 d2 rest h2
        refine ⟨e1.trans e2, by simp [t2], fun hE => ?_⟩
        obtain ⟨x', hx', hx⟩ := mat_sat hob V a x ms ms1 d1 (d2 ++ rest) h1 (e2.trans hE)
        obtain ⟨X', hX', hl, hs⟩ := f2 hE
        refine ⟨x' :: X', by simp only [decVs, List.append_assoc, hx', hX'], by simp [hl], fun i y hi hy => ?_⟩
        cases i with
        | zero => exact hx y hy
        | succ i => exact hs i y (by simpa using hi) hy
def ObjTold (c c' : Ctx) (ob : Nat → Option TObj) (msF : MS) (q : Nat) : Option TObj → Prop
  | none => True
  | some o' => (∃ nm o, look msF.σ q = some (some nm) ∧ ob nm = some o ∧ objOK c' q o') ∨ (look msF.σ q = some none ∧ ∃ ty s e, o' = .rows ty s e ([] : List e.den))
include hob V in
theorem matO_sound {p : Nat} {o : SO} {ms ms' : MS} {d rest : List DV} (h : matO ob call p o ms = some (d, ms')) :
    Ext ob ms ms' ∧ (TrOK c ms → TrOK c ms') ∧ (Ext ob ms' msF → TrOK c msF → ∃ o', decO id true o (d ++ rest) = (o', rest) ∧ ObjTold c c' ob msF p o' ∧ (o ≠ .gone → ∃ x, look msF.σ p = some x)) := by
  unfold matO at h
  split at h
  case h_1 =>
    simp only [Option.some.injEq, Prod.mk.injEq] at h
    obtain ⟨rfl, rfl⟩ := h
    exact ⟨.refl _, fun h => h, fun _ _ => ⟨none, rfl, trivial, fun h => absurd rfl h⟩⟩
  case h_2 hg =>
    split at h
    case h_3 => cases h
    case h_2 hl =>
      split at h
      case h_2 => cases h
      case h_1 ty keep e =>
        simp only [Option.some.injEq, Prod.mk.injEq] at h
        obtain ⟨rfl, rfl⟩ := h
        exact ⟨.refl _, fun h => h, fun hE _ => ⟨_, rfl, .inr ⟨hE.σ p _ hl, ty, _, e, rfl⟩, fun _ => ⟨_, hE.σ p _ hl⟩⟩⟩
    case h_1 nm hl =>
      split at h
      case h_3 => cases h
      case h_1 ty keep e ty' s e' l ho =>
        split at h
        case h_2 => cases h
        case h_1 l' hty hcast hflag =>
          have hty := Nat.eq_of_beq_eq_true hty
          subst hty
          have := castT_eq hcast
          injection this with q1 q2
          injection q1 with q1
          subst q1
          cases q2
          have rows : ∀ {ms'' : MS} {us : List Value} {l : List e'.den}, (msF.kf = true → (ms''.kf && (!keep || s || e'.flat)) = true) → rowsS (VS c s e') l us → rowsS (VS c' ((keep && true) || e'.flat) e') l us := by
            intro ms'' us l hkf hr
            rw [Bool.and_true]
            refine rowsS_mono (fun _ _ _ hv => ?_) hr
            cases hf : e'.flat with
            | true => exact VS_flat hf hv
            | false =>
              rw [Bool.or_false]
              have hok : keep = true → s = true ∨ (call = true ∧ msF.kf = false) := by
                intro hk
                subst hk
                cases s with
                | true => exact .inl rfl
                | false =>
                  right
                  rw [hf] at hflag hkf
                  refine ⟨by simpa using hflag, ?_⟩
                  cases hq : msF.kf with
                  | false => rfl
                  | true => have := hkf hq; simp at this
              exact VS_le ⟨fun b hb => V.ok keep s b hb hok, fun b o us _ hm => by rw [V.w]; exact hm⟩ hv
          have obj : ∀ {l2 : List e'.den}, (∀ q1 : look msF.σ p = some (some nm), c'.L p = some (e'.size, l2.length)) → l2.length ≤ List.length l → (∃ k, l2 = List.take k l) → look msF.σ p = some (some nm) →
              (msF.kf = true → (true && (!keep || s || e'.flat)) = true) → objOK c' p (.rows ty ((keep && true) || e'.flat) e' l2) := by
            intro l2 hL hle ⟨k, hk⟩ q1 hkf
            obtain ⟨g0, g⟩ := hob nm _ ho
            refine ⟨hL q1, ?_⟩
            rcases g with ⟨g1, g2⟩ | ⟨b, cur, fr, cap, us, rst, g1, g2, g3, g4, g5, g6, g7, g8⟩
            · left
              refine ⟨(V.m p nm q1).trans g1, ?_⟩
              have : List.length l = 0 := by rw [g2]; rfl
              exact List.eq_nil_of_length_eq_zero (by omega)
            · right
              have hr := rowsS_take (k := e'.size) (fun _ _ => VS_len) g8 k
              rw [← hk] at hr
              refine ⟨b, cur, fr, cap, us.take (l2.length * e'.size), us.drop (l2.length * e'.size) ++ rst, (V.m p nm q1).trans g1, by rw [V.w]; exact g2, g3, g4, Nat.le_trans hle g5, g6, by rw [g7, ← List.append_assoc, List.take_append_drop], ?_⟩
              exact rows (ms'' := ⟨[], [], [], true, []⟩) hkf hr
          split at h
          case h_1 ht =>
            simp only [Option.some.injEq, Prod.mk.injEq] at h
            obtain ⟨rfl, rfl⟩ := h
            refine ⟨⟨fun _ h => .inl h, fun _ _ h => h, fun _ h => h, fun _ _ => rfl, fun _ h => h, fun _ h => h, fun h => (Bool.and_eq_true _ _ ▸ h).1, fun h => h⟩, fun h => h, fun hE hT => ?_⟩
            have q1 := hE.σ p _ hl
            have q2 := (hE.tr nm (memI_look hl)).trans ht
            refine ⟨_, rfl, .inl ⟨nm, _, q1, ho, obj (fun q1 => ?_) (Nat.le_refl _) ⟨List.length l, (List.take_length (l := (l : List e'.den))).symm⟩ q1 (fun h => by have := hE.kf h; simp only [Bool.and_eq_true] at this; simp only [Bool.true_and]; exact this.2)⟩, fun _ => ⟨_, q1⟩⟩
            rw [V.L0 p nm q1 q2]; exact (hob nm _ ho).1
          case h_2 len ht =>
            simp only [Option.some.injEq, Prod.mk.injEq] at h
            obtain ⟨rfl, rfl⟩ := h
            refine ⟨⟨fun _ h => .inl h, fun _ _ h => h, fun _ h => h, fun _ _ => rfl, fun _ h => h, fun _ h => h, fun h => (Bool.and_eq_true _ _ ▸ h).1, fun h => h⟩, fun h => h, fun hE hT => ?_⟩
            have q1 := hE.σ p _ hl
            have q2 := (hE.tr nm (memI_look hl)).trans ht
            have hlen := hT nm len q2 _ _ (hob nm _ ho).1
            change Nat at len
            have e1 : (lsubD l (nlit 0) len : List e'.den) = List.take len l := by
              show List.take (len - 0) (List.drop 0 (l : List e'.den)) = _
              rw [Nat.sub_zero]; rfl
            have e2 : (List.take len (l : List e'.den)).length = len := take_len (α := e'.den) hlen
            refine ⟨_, rfl, .inl ⟨nm, _, q1, ho, ?_⟩, fun _ => ⟨_, q1⟩⟩
            have := obj (l2 := List.take len l) (fun q1 => ?_) (by rw [e2]; exact hlen) ⟨len, rfl⟩ q1 (fun h => by have := hE.kf h; simp only [Bool.and_eq_true] at this; simp only [Bool.true_and]; exact this.2)
            · exact this
            · obtain ⟨k, h1, h2⟩ := V.L1 p nm len q1 q2
              rw [h1, e2, h2 _ _ (hob nm _ ho).1]
      case h_2 ty cs ty' v ho =>
        split at h
        case h_2 => cases h
        case h_1 hty =>
          simp only [Bool.and_eq_true] at hty
          have hd := hty.2
          have hty := Nat.eq_of_beq_eq_true hty.1
          subst hty
          obtain ⟨g0, b, cur, fr, g1, g2, g3, g4, g5⟩ := hob nm _ ho
          obtain ⟨e1, f1⟩ := matV_sound hob V cs v ms ms' d rest h
          refine ⟨e1, fun ht => matV_tr cs v ms ms' d h ⟨_, g4⟩ ht, fun hE hT => ?_⟩
          obtain ⟨v', hv', tv⟩ := f1 hE
          have q1 := (e1.trans hE).σ p _ hl
          refine ⟨some (.var ty v'), by simp only [decO, hv'], .inl ⟨nm, _, q1, ho, ?_⟩, fun _ => ⟨_, q1⟩⟩
          obtain ⟨k1, k2⟩ := tv.sat _ g4
          have hL : c'.L p = some (0, 0) := by
            cases ht : look msF.tr nm with
            | none => rw [V.L0 p nm q1 ht]; exact g0
            | some len =>
              obtain ⟨k, h1, h2⟩ := V.L1 p nm len q1 ht
              have h3 := hT nm len ht _ _ g0
              have h4 := h2 _ _ g0
              have h3 : len = 0 := Nat.le_zero.1 h3
              rw [h1, ← h4, h3]
          exact ⟨hL, b, cur, fr, (V.m p nm q1).trans g1, by rw [V.w]; exact g2, g3, k1, by have := k2 hd (by simpa using g5); simpa using this⟩
end
end Go.Tv
namespace Go.Tv
set_option linter.unusedSectionVars false
open Go Go.RowKit
section
variable {c c' : Ctx} {ob : Nat → Option TObj} (hob : ∀ nm o, ob nm = some o → objOK c nm o) {msF : MS} {call : Bool} (V : View c c' msF call)
include hob V in
theorem matOs_sound : ∀ (l : List SO) (p : Nat) (ms ms' : MS) (d rest : List DV), matOs ob call p l ms = some (d, ms') →
    Ext ob ms ms' ∧ (TrOK c ms → TrOK c ms') ∧ (Ext ob ms' msF → TrOK c msF → ∀ i, ObjTold c c' ob msF (p + i) (nthO (decOs id true l (d ++ rest)) i))
  | [], p, ms, ms', d, rest, h => by
    simp only [matOs, Option.some.injEq, Prod.mk.injEq] at h
    obtain ⟨rfl, rfl⟩ := h
    exact ⟨.refl _, fun h => h, fun _ _ i => by simp only [decOs, nthO]; trivial⟩
  | a :: l, p, ms, ms', d, rest, h => by
    simp only [matOs] at h
    split at h
    case h_2 => cases h
    case h_1 d1 ms1 h1 =>
      split at h
      case h_2 => cases h
      case h_1 d2 ms2 h2 =>
        simp only [Option.some.injEq, Prod.mk.injEq] at h
        obtain ⟨rfl, rfl⟩ := h
        obtain ⟨e1, t1, f1⟩ := matO_sound hob V (d := d1) (rest := d2 ++ rest) h1
        obtain ⟨e2, t2, f2⟩ := matOs_sound l (p + 1) ms1 ms2 d2 rest h2
        refine ⟨e1.trans e2, fun h => t2 (t1 h), fun hE hT i => ?_⟩
        obtain ⟨o', ho', hot, _⟩ := f1 (e2.trans hE) hT
        simp only [decOs, List.append_assoc, ho']
        cases i with
        | zero => exact hot
        | succ i =>
          have := f2 hE hT i
          rw [show p + (i + 1) = p + 1 + i by omega]
          exact this
end
theorem idN_spec : ∀ {n p : Nat} {l : List SO} {q : Nat} {y : Option Nat}, look (idN n p l) q = some y → y = some q
  | 0, p, l, q, y, h => by simp [idN, look] at h
  | n + 1, p, [], q, y, h => by simp [idN, look] at h
  | n + 1, p, .gone :: l, q, y, h => by simp only [idN] at h; exact idN_spec h
  | n + 1, p, .var ty c :: l, q, y, h => by
    simp only [idN, look] at h
    split at h
    · rename_i hb; simp only [Option.some.injEq] at h; rw [← h, Nat.eq_of_beq_eq_true hb]
    · exact idN_spec h
  | n + 1, p, .rows ty k e :: l, q, y, h => by
    simp only [idN, look] at h
    split at h
    · rename_i hb; simp only [Option.some.injEq] at h; rw [← h, Nat.eq_of_beq_eq_true hb]
    · exact idN_spec h
def viewM (σ : List (Nat × Option Nat)) (m : Nat → Option Nat) (n0 : Nat) : Nat → Option Nat := fun p => match look σ p with
  | some (some nm) => m nm
  | some none => none
  | none => if p < n0 then m p else none
def viewL (σ : List (Nat × Option Nat)) (tr : List (Nat × NatD)) (L : Nat → Option (Nat × Nat)) (n0 : Nat) (ob' : Nat → Option TObj) : Nat → Option (Nat × Nat) := fun p => match look σ p with
  | some (some nm) => (match look tr nm with
    | none => L nm
    | some len => some ((match L nm with | some (k, _) => k | none => 1), len))
  | some none => some ((match ob' p with | some (.rows _ _ e _) => e.size | _ => 1), 0)
  | none => if p < n0 then L p else none
structure OkSpec (n0 n : Nat) (ms : MS) : Prop where
  froz : ∀ q, q ∈ ms.froz → memI q ms.σ = false ∧ memN q ms.lent = false
  lent : ∀ q, q ∈ ms.lent → memI q ms.σ = false
  le : n0 ≤ n
  ids : ∀ p x, look ms.σ p = some x → p < n ∧ (n0 ≤ p ∨ (x = some p ∧ look ms.tr p = none))
theorem ok_spec {n0 n : Nat} {ms : MS} (h : ms.ok n0 n = true) : OkSpec n0 n ms := by
  simp only [MS.ok, Bool.and_eq_true] at h
  obtain ⟨⟨⟨h1, h2⟩, h3⟩, h4⟩ := h
  refine ⟨fun q hq => ?_, fun q hq => ?_, Nat.le_of_ble_eq_true h3, fun p x hp => ?_⟩
  · have := List.all_eq_true.1 h1 q hq
    simpa using this
  · have := List.all_eq_true.1 h2 q hq
    simpa using this
  · have := List.all_eq_true.1 h4 _ (look_mem hp)
    simp only [Bool.and_eq_true, Bool.or_eq_true] at this
    refine ⟨Nat.le_of_ble_eq_true this.1, this.2.imp (fun h => Nat.le_of_ble_eq_true h) fun ⟨g1, g2⟩ => ⟨?_, ?_⟩⟩
    · cases x with
      | none => cases g1
      | some q => simp only [isSelf] at g1; rw [Nat.eq_of_beq_eq_true g1]
    · unfold noTr at g2
      split at g2
      · rename_i h; exact h
      · cases g2
section
variable [Inv] {B : Base} {F : Nat → Prop} {st : St} {m : Nat → Option Nat} {L : Nat → Option (Nat × Nat)} {a : Act} {w : World}
theorem viewM_some {σ : List (Nat × Option Nat)} {m : Nat → Option Nat} {n0 p nm : Nat} (h : look σ p = some (some nm)) : viewM σ m n0 p = m nm := by simp only [viewM, h]
theorem viewM_virt {σ : List (Nat × Option Nat)} {m : Nat → Option Nat} {n0 p : Nat} (h : look σ p = some none) : viewM σ m n0 p = none := by simp only [viewM, h]
theorem viewM_base {σ : List (Nat × Option Nat)} {m : Nat → Option Nat} {n0 p : Nat} (h : look σ p = none) (hp : p < n0) : viewM σ m n0 p = m p := by simp only [viewM, h, if_pos hp]
theorem viewM_none {σ : List (Nat × Option Nat)} {m : Nat → Option Nat} {n0 p : Nat} (h : look σ p = none) (hp : ¬ p < n0) : viewM σ m n0 p = none := by simp only [viewM, h, if_neg hp]
theorem mkView (h : Rep B F st m L a w) {ms : MS} {n0 n : Nat} (hok : OkSpec n0 n ms) (hlive : ∀ q, (q ∈ ms.froz ∨ q ∈ ms.lent) → ∃ o, st.objs q = some o) {X' Y' : Nat → Prop}
    (hX : ∀ b, X' b → ∃ p nm o, look ms.σ p = some (some nm) ∧ st.objs nm = some o ∧ m nm = some b) (hY : ∀ b, Y' b → B.Y b) (ob' : Nat → Option TObj) :
    View (st.ctx B m L w) ⟨w, X', Y', viewM ms.σ m n0, viewL ms.σ ms.tr L n0 ob'⟩ ms false := by
  have nX : ∀ nm b, (nm ∈ ms.froz ∨ nm ∈ ms.lent) → m nm = some b → memI nm ms.σ = false → ¬ X' b := by
    intro nm b hn hb hmi hx
    obtain ⟨o1, ho1⟩ := hlive nm hn
    obtain ⟨p, nm', o, g1, g2, g3⟩ := hX b hx
    have := h.inj nm nm' o1 o b ho1 g2 hb g3
    subst this
    rw [memI_look g1] at hmi; cases hmi
  refine ⟨rfl, fun p nm hp => viewM_some hp, fun p nm hp ht => ?_, fun p nm len hp ht => ?_, fun p hp => ⟨viewM_virt hp, ?_⟩, fun keep s b hb hk => ⟨hb.1, fun hx => ?_, fun hkk hy => ?_⟩, fun nm b hn hb hlt => ⟨hlt, nX nm b (.inr hn) hb (hok.lent nm hn), fun h => by cases h⟩,
    fun nm b hn hb hlt => ⟨hlt, nX nm b (.inl hn) hb (hok.froz nm hn).1, fun _ hy => ?_⟩⟩
  · simp only [viewL, hp, ht]; rfl
  · refine ⟨_, by simp only [viewL, hp, ht]; rfl, fun k' ln hL => ?_⟩
    have hL : L nm = some (k', ln) := hL
    rw [hL]
  · exact ⟨_, by simp only [viewL, hp]; rfl⟩
  · obtain ⟨p, nm, o, _, g2, g3⟩ := hX b hx
    exact hb.2.1 ⟨nm, o, g2, g3⟩
  · rcases hk hkk with hs | ⟨hc, _⟩
    · exact hb.2.2 hs (hY b hy)
    · cases hc
  · obtain ⟨o1, ho1⟩ := hlive nm (.inl hn)
    exact h.yb nm o1 b ho1 hb (hY b hy)
theorem Rep.view (h : Rep B F st m L a w) {s : Sh} (hn0 : s.n0 = B.n0) {x : TupT s.tys} (hm : s.mat st = some x) : ∃ m' L', Rep B (fun p => s.objs.length ≤ p) (s.dec x) m' L' a w := by
  unfold Sh.mat at hm
  split at hm
  case h_2 => cases hm
  case h_1 d ms1 hmE =>
    split at hm
    case h_2 => cases hm
    case h_1 d' ms2 hmO =>
      split at hm
      case h_2 => cases hm
      case h_1 hok =>
        have hok := ok_spec hok
        rw [hn0] at hok hmE
        have hu := mktup_untup _ _ _ hm
        have hob := h.obj
        have facts : ∀ {X' Y' : Nat → Prop} (ob' : Nat → Option TObj), View (st.ctx B m L w) ⟨w, X', Y', viewM ms2.σ m B.n0, viewL ms2.σ ms2.tr L B.n0 ob'⟩ ms2 false →
            Ext st.objs ⟨idN B.n0 0 s.objs, [], [], true, []⟩ ms2 ∧ TrOK (st.ctx B m L w) ms2 ∧ ∃ E, decE id s.env (d ++ d') = (E, d') ∧ (∀ t y, sat (st.ctx B m L w) (st.env t) y → sat ⟨w, X', Y', viewM ms2.σ m B.n0, viewL ms2.σ ms2.tr L B.n0 ob'⟩ (tabE E t) y) ∧
              ∀ i, ObjTold (st.ctx B m L w) ⟨w, X', Y', viewM ms2.σ m B.n0, viewL ms2.σ ms2.tr L B.n0 ob'⟩ st.objs ms2 i (nthO (decOs id true s.objs d') i) := by
          intro X' Y' ob' V
          obtain ⟨e1, t1, f1⟩ := matE_sound hob V s.env _ ms1 d d' hmE
          obtain ⟨e2, t2, f2⟩ := matOs_sound hob V s.objs 0 ms1 ms2 d' [] hmO
          have ht0 : TrOK (st.ctx B m L w) ⟨idN B.n0 0 s.objs, [], [], true, []⟩ := fun nm len hl => by simp [look] at hl
          have ht := t2 (t1 (fun t => ⟨_, h.slots t⟩) ht0)
          obtain ⟨E, hE, hs⟩ := f1 e2
          refine ⟨e1.trans e2, ht, E, hE, hs, fun i => ?_⟩
          have := f2 (.refl _) ht i
          rwa [Nat.zero_add, List.append_nil] at this
        have hdummyX : ∀ b, (fun _ : Nat => False) b → ∃ p nm o, look ms2.σ p = some (some nm) ∧ st.objs nm = some o ∧ m nm = some b := fun b hb => hb.elim
        have hlive : ∀ q, (q ∈ ms2.froz ∨ q ∈ ms2.lent) → ∃ o, st.objs q = some o := by
          have V0 : View (st.ctx B m L w) ⟨w, fun _ => False, fun _ => False, viewM ms2.σ m B.n0, viewL ms2.σ ms2.tr L B.n0 (fun _ => none)⟩ ⟨ms2.σ, [], [], ms2.kf, ms2.tr⟩ false :=
            mkView h (ms := ⟨ms2.σ, [], [], ms2.kf, ms2.tr⟩) (n0 := B.n0) (n := s.objs.length) ⟨(fun q hq => nomatch hq), (fun q hq => nomatch hq), hok.le, hok.ids⟩ (fun q hq => by rcases hq with hq | hq <;> cases hq) hdummyX (fun _ h => h.elim) _
          obtain ⟨e1, _, _⟩ := matE_sound hob V0 s.env _ ms1 d d' hmE
          obtain ⟨e2, _, _⟩ := matOs_sound hob V0 s.objs 0 ms1 ms2 d' [] hmO
          intro q hq
          rcases (e1.trans e2).live q hq with hq | hq
          · rcases hq with hq | hq <;> cases hq
          · exact hq
        have V0 := mkView h hok hlive hdummyX (Y' := fun _ => False) (fun _ h => h.elim) (fun _ => none)
        obtain ⟨hE, hT, E0, hE0, _, hO0⟩ := facts _ V0
        have hinj := hE.inj (fun p q n hp hq => by have h1 := idN_spec hp; have h2 := idN_spec hq; injection h1 with h1; injection h2 with h2; rw [← h1, h2])
        have hdec : s.dec x = ⟨tabE E0, nthO (decOs id true s.objs d'), s.objs.length⟩ := by
          unfold Sh.dec
          rw [hu, hE0]
        have hst : ∀ q o', nthO (decOs id true s.objs d') q = some o' → (∃ nm o, look ms2.σ q = some (some nm) ∧ st.objs nm = some o) ∨ look ms2.σ q = some none := by
          intro q o' ho'
          have := hO0 q
          rw [ho'] at this
          rcases this with ⟨nm, o, g1, g2, _⟩ | ⟨g1, _⟩
          · exact .inl ⟨nm, o, g1, g2⟩
          · exact .inr g1
        rw [hdec]
        generalize hst' : (⟨tabE E0, nthO (decOs id true s.objs d'), s.objs.length⟩ : St) = st'
        have hobjs : st'.objs = nthO (decOs id true s.objs d') := by rw [← hst']
        have henv : st'.env = tabE E0 := by rw [← hst']
        have hX : ∀ b, st'.X (viewM ms2.σ m B.n0) b → ∃ p nm o, look ms2.σ p = some (some nm) ∧ st.objs nm = some o ∧ m nm = some b := by
          rintro b ⟨p, o', h1, h2⟩
          rw [hobjs] at h1
          rcases hst p o' h1 with ⟨nm, o, g1, g2⟩ | g1
          · rw [viewM_some g1] at h2; exact ⟨p, nm, o, g1, g2, h2⟩
          · rw [viewM_virt g1] at h2; cases h2
        have V := mkView h hok hlive hX (Y' := B.Y) (fun _ h => h) st'.objs
        obtain ⟨_, _, E1, hE1, hS, hO⟩ := facts _ V
        rw [hE0] at hE1
        injection hE1 with hE1
        subst hE1
        refine ⟨viewM ms2.σ m B.n0, viewL ms2.σ ms2.tr L B.n0 st'.objs, h.sz, h.df, fun t => by rw [henv]; exact hS t _ (h.slots t), fun p o' ho' => ?_, fun p q o1 o2 b h1 h2 h3 h4 => ?_, fun p hp => ?_, fun p b hb => ?_, h.ev, fun p o' b h1 h2 => ?_, fun p o' b h1 h2 => ?_, fun p hp => ?_, fun p hp hx => ?_⟩
        · have := hO p
          have ho2 := ho'
          rw [hobjs] at ho2
          rw [ho2] at this
          rcases this with ⟨nm, o, g1, g2, g3⟩ | ⟨g1, ty, s', e, rfl⟩
          · exact g3
          · refine ⟨?_, .inl ⟨viewM_virt g1, rfl⟩⟩
            show viewL ms2.σ ms2.tr L B.n0 st'.objs p = some (e.size, 0)
            simp only [viewL, g1, ho']
        · rw [hobjs] at h1 h2
          rcases hst p o1 h1 with ⟨nm, o, g1, g2⟩ | g1
          case inr => rw [viewM_virt g1] at h3; cases h3
          rcases hst q o2 h2 with ⟨nm', o', g1', g2'⟩ | g1'
          case inr => rw [viewM_virt g1'] at h4; cases h4
          rw [viewM_some g1] at h3
          rw [viewM_some g1'] at h4
          have := h.inj nm nm' o o' b g2 g2' h3 h4
          subst this
          exact hinj p q nm g1 g1'
        · have hl : look ms2.σ p = none := by
            cases hl : look ms2.σ p with
            | none => rfl
            | some y => have := (hok.ids p y hl).1; omega
          have hnp : ¬ p < B.n0 := by have := hok.le; omega
          refine ⟨viewM_none hl hnp, by simp only [viewL, hl, if_neg hnp], ?_⟩
          cases ho : st'.objs p with
          | none => rfl
          | some o' =>
            rw [hobjs] at ho
            rcases hst p o' ho with ⟨nm, o, g1, _⟩ | g1 <;> (rw [hl] at g1; cases g1)
        · cases hl : look ms2.σ p with
          | none =>
            by_cases hp : p < B.n0
            · rw [viewM_base hl hp] at hb; exact h.mb p b hb
            · rw [viewM_none hl hp] at hb; cases hb
          | some y =>
            cases y with
            | none => rw [viewM_virt hl] at hb; cases hb
            | some nm => rw [viewM_some hl] at hb; exact h.mb nm b hb
        · obtain ⟨p', nm, o, _, g2, g3⟩ := hX b ⟨p, o', h1, h2⟩
          exact h.fr nm o b g2 g3
        · obtain ⟨p', nm, o, _, g2, g3⟩ := hX b ⟨p, o', h1, h2⟩
          exact h.yb nm o b g2 g3
        · have hb := h.base p hp
          cases hl : look ms2.σ p with
          | none => exact ⟨(viewM_base hl hp).trans hb.1, by simp only [viewL, hl, if_pos hp]; exact hb.2⟩
          | some y =>
            rcases (hok.ids p y hl).2 with h0 | ⟨rfl, ht⟩
            · omega
            · exact ⟨(viewM_some hl).trans hb.1, by simp only [viewL, hl, ht]; exact hb.2⟩
        · have := hok.le; omega
end
end Go.Tv
namespace Go.Tv
set_option linter.unusedSectionVars false
open Go Go.RowKit
def Qc [Inv] (B : Base) (Q : Exit → St → Prop) : Exit → Act → World → Prop := fun e a' w' => ∃ st' m' L', Q e st' ∧ Rep B (fun x => st'.nx ≤ x) st' m' L' a' w'
def AWp [Inv] (P : Program) (B : Base) (c : Code) (st : St) (Q : Exit → St → Prop) : Prop :=
  ∀ (m : Nat → Option Nat) (L : Nat → Option (Nat × Nat)) (a : Act) (w : World), Rep B (fun x => st.nx ≤ x) st m L a w → c.wp P (Qc B Q) a w
section
variable {P : Program} [Inv] {B : Base}
theorem AWp.mono {c : Code} {st : St} {Q Q' : Exit → St → Prop} (h : AWp P B c st Q) (hq : ∀ e st', Q e st' → Q' e st') : AWp P B c st Q' :=
  fun m L a w hr => Code.wp_mono (fun _ _ _ ⟨st', m', L', q, r⟩ => ⟨st', m', L', hq _ _ q, r⟩) (h m L a w hr)
theorem AWp.skip {st : St} {Q : Exit → St → Prop} (h : Q .normal st) : AWp P B .skip st Q := fun m L _ _ hr => wp_skip ⟨st, m, L, h, hr⟩
theorem AWp.exit {st : St} {id : Nat} {Q : Exit → St → Prop} (h : Q (.exit id) st) : AWp P B (.exit id) st Q := fun m L _ _ hr => wp_exit ⟨st, m, L, h, hr⟩
theorem AWp.ret {st : St} {Q : Exit → St → Prop} (h : Q .ret st) : AWp P B .ret st Q := fun m L _ _ hr => wp_ret ⟨st, m, L, h, hr⟩
theorem AWp.seq {x y : Code} {st : St} {Q Q1 : Exit → St → Prop} (h : AWp P B x st Q1) (hn : ∀ st', Q1 .normal st' → AWp P B y st' Q) (he : ∀ e st', e ≠ .normal → Q1 e st' → Q e st') : AWp P B (.seq x y) st Q := fun m L a w hr => by
  refine wp_seq (Code.wp_mono (fun e a' w' ⟨st', m', L', q, r⟩ => ?_) (h m L a w hr))
  cases e with
  | normal => exact hn st' q m' L' a' w' r
  | exit id => exact ⟨st', m', L', he _ _ (fun h => by cases h) q, r⟩
  | goto id => exact ⟨st', m', L', he _ _ (fun h => by cases h) q, r⟩
  | ret => exact ⟨st', m', L', he _ _ (fun h => by cases h) q, r⟩
  | panic c => exact ⟨st', m', L', he _ _ (fun h => by cases h) q, r⟩
  | outgrown => exact ⟨st', m', L', he _ _ (fun h => by cases h) q, r⟩
theorem evOK_rep {F : Nat → Prop} {st : St} {m : Nat → Option Nat} {L : Nat → Option (Nat × Nat)} {a : Act} {w : World} (h : Rep B F st m L a w) : EvOK (st.ctx B m L w) st.env a := evOK_of h.slots
theorem bools_spec {c : Ctx} {v : TV} {b : Ty.bool.den} {y : Value} (h : bools v = some b) (hs : sat c v y) : y = .bool b := by
  unfold bools at h
  split at h
  case h_2 => cases h
  case h_1 hs s x =>
    injection h with h; subst h
    exact sat_bool.1 hs
theorem AWp.cond {c : Operand} {x y : Code} {st : St} {Q : Exit → St → Prop} {t : Bool} (hc : bools (evA st.env c) = some t) (ht : t = true → AWp P B x st Q) (hf : t = false → AWp P B y st Q) : AWp P B (.cond c x y) st Q := fun m L a w hr => by
  have := bools_spec hc (evOK_rep hr c)
  exact wp_cond_split this (fun h => ht h m L a w hr) (fun h => hf h m L a w hr)
theorem AWp.block {id : Nat} {c : Code} {st : St} {Q Q1 : Exit → St → Prop} (h : AWp P B c st Q1) (h1 : ∀ st', Q1 (.exit id) st' → Q .normal st') (h2 : ∀ e st', e ≠ .exit id → Q1 e st' → Q e st') : AWp P B (.block id c) st Q := fun m L a w hr => by
  refine wp_block (Code.wp_mono (fun e a' w' ⟨st', m', L', q, r⟩ => ?_) (h m L a w hr))
  cases e with
  | exit id' =>
    simp only [Exit.inBlock]
    split
    · rename_i hid; subst hid; exact ⟨st', m', L', h1 _ q, r⟩
    · rename_i hid; exact ⟨st', m', L', h2 _ _ (fun h => by injection h with h; exact hid h) q, r⟩
  | normal => exact ⟨st', m', L', h2 _ _ (fun h => by cases h) q, r⟩
  | goto id => exact ⟨st', m', L', h2 _ _ (fun h => by cases h) q, r⟩
  | ret => exact ⟨st', m', L', h2 _ _ (fun h => by cases h) q, r⟩
  | panic c => exact ⟨st', m', L', h2 _ _ (fun h => by cases h) q, r⟩
  | outgrown => exact ⟨st', m', L', h2 _ _ (fun h => by cases h) q, r⟩
theorem AWp.view {c : Code} {st : St} {Q : Exit → St → Prop} {s : Sh} (hn0 : s.n0 = B.n0) {x : TupT s.tys} (hm : s.mat st = some x) (h : AWp P B c (s.dec x) Q) : AWp P B c st Q := fun m L a w hr => by
  obtain ⟨m', L', hr'⟩ := hr.view hn0 hm
  exact h m' L' a w hr'
theorem least {p : Nat → Prop} : ∀ n, p n → ∃ k, p k ∧ ∀ j, p j → k ≤ j := fun n => by
  induction n using Nat.strongRecOn with
  | _ n ih =>
    intro hn
    by_cases h : ∃ k, k < n ∧ p k
    · obtain ⟨k, hk, hp⟩ := h; exact ih k hk hp
    · exact ⟨n, hn, fun j hj => Nat.le_of_not_lt fun hlt => h ⟨j, hlt, hj⟩⟩
theorem AWp.loop {c : Code} {st : St} {Q : Exit → St → Prop} (I : Nat → St → Prop) (n : Nat) (h0 : I n st) {Q1 : Nat → Exit → St → Prop} (round : ∀ n st, I n st → AWp P B c st (Q1 n)) (hn : ∀ n st', Q1 n .normal st' → ∃ n', n' < n ∧ I n' st') (he : ∀ n e st', e ≠ .normal → Q1 n e st' → Q e st') : AWp P B (.loop c) st Q := fun m L a w hr => by
  let J : Nat → Act → World → Prop := fun n a w => ∃ st m L, I n st ∧ Rep B (fun x => st.nx ≤ x) st m L a w
  have hmin : ∀ (a : Act) (w : World), (∃ n, J n a w) → ∃ k, J k a w ∧ ∀ j, J j a w → k ≤ j := fun a w ⟨n, hn⟩ => least n hn
  let μ : Act → World → Nat := fun a w => open Classical in if h : ∃ n, J n a w then Classical.choose (hmin a w h) else 0
  have hμ : ∀ a w (h : ∃ n, J n a w), J (μ a w) a w ∧ ∀ j, J j a w → μ a w ≤ j := fun a w h => by
    have := Classical.choose_spec (hmin a w h)
    simp only [μ, dif_pos h]; exact this
  refine wp_loop (fun a w => ∃ n, J n a w) μ ⟨n, st, m, L, h0, hr⟩ fun a w hJ => ?_
  obtain ⟨⟨st1, m1, L1, hI, hr1⟩, _⟩ := hμ a w hJ
  refine Code.wp_mono (fun e a' w' ⟨st', m', L', q, r⟩ => ?_) (round _ st1 hI m1 L1 a w hr1)
  cases e with
  | normal =>
    obtain ⟨n', hlt, hI'⟩ := hn _ _ q
    have hJ' : J n' a' w' := ⟨st', m', L', hI', r⟩
    exact ⟨⟨n', hJ'⟩, Nat.lt_of_le_of_lt ((hμ a' w' ⟨n', hJ'⟩).2 n' hJ') hlt⟩
  | exit id => exact ⟨st', m', L', he _ _ _ (fun h => by cases h) q, r⟩
  | goto id => exact ⟨st', m', L', he _ _ _ (fun h => by cases h) q, r⟩
  | ret => exact ⟨st', m', L', he _ _ _ (fun h => by cases h) q, r⟩
  | panic c => exact ⟨st', m', L', he _ _ _ (fun h => by cases h) q, r⟩
  | outgrown => exact ⟨st', m', L', he _ _ _ (fun h => by cases h) q, r⟩
def RegOK (P : Program) (B : Base) (cx : Cx) : Prop := ∀ (id i : Nat) (ops : Array Oper) (d : Bool) (st : St) (R : Type) (K : St → Opt R) (r : R), ops.toList.all (dstB B.nt) = true → evR cx i ops d st K = some r → AWp P B (.region id ops d) st fun e st' => e = .normal ∧ K st' = some r
theorem shMat_some {R S : Type} {o : Option S} {k : S → Opt R} {r : R} (h : shMat o k = some r) : ∃ s, o = some s ∧ k s = some r := by
  cases o with
  | none => cases h
  | some s => exact ⟨s, rfl, h⟩
theorem thenK_ne {R : Type} {next : St → Opt R} {K : Exit → St → Opt R} {e : Exit} {st : St} (h : e ≠ .normal) : thenK next K e st = K e st := by
  cases e <;> first | rfl | exact absurd rfl h
theorem blockK_exit {R : Type} {id i : Nat} {K : Exit → St → Opt R} {st : St} : blockK id K (.exit i) st = match Nat.beq i id with | true => K .normal st | false => K (.exit i) st := rfl
theorem blockK_ne {R : Type} {id : Nat} {K : Exit → St → Opt R} {e : Exit} {st : St} (h : e ≠ .exit id) : blockK id K e st = K e st := by
  cases e with
  | exit i =>
    rw [blockK_exit]
    cases hb : Nat.beq i id with
    | false => rfl
    | true => exact absurd (congrArg Exit.exit (Nat.eq_of_beq_eq_true hb)) h
  | _ => rfl
theorem ev_sound {cx : Cx} (hreg : RegOK P B cx) (hH : ∀ i sh, look cx.H i = some sh → sh.n0 = B.n0) {R : Type} {r : R} : ∀ (c : Code) (i : Nat) (st : St) (K : Exit → St → Opt R), tmpsC B.nt c = true → ev cx c i st K = some r → AWp P B c st fun e st' => K e st' = some r := by
  intro c
  induction c with
  | skip => intro i st K _ h; exact AWp.skip h
  | region id ops d =>
    intro i st K ht h
    exact (hreg id i ops d st R (K .normal) r ht h).mono fun e st' ⟨he, hk⟩ => by rw [he]; exact hk
  | seq x y ihx ihy =>
    intro i st K ht h
    simp only [tmpsC, Bool.and_eq_true] at ht
    simp only [ev] at h
    split at h
    case h_1 =>
      refine AWp.seq (ihx _ _ _ ht.1 h) (fun st' hn => ihy _ _ _ ht.2 hn) fun e st' he hq => ?_
      rw [thenK_ne he] at hq; exact hq
    case h_2 sh hsh =>
      have h : ev cx x (i + 1) st (thenK (fun st' => shMat (sh.mat st') fun s => ev cx y (i + 1 + codeLen x) (sh.dec s) K) K) = some r := h
      refine AWp.seq (ihx _ _ _ ht.1 h) (fun st' hn => ?_) fun e st' he hq => ?_
      · obtain ⟨s, hs, hk⟩ := shMat_some hn
        exact AWp.view (hH _ _ hsh) hs (ihy _ _ _ ht.2 hk)
      · rw [thenK_ne he] at hq; exact hq
  | cond c x y ihx ihy =>
    intro i st K htm h
    simp only [tmpsC, Bool.and_eq_true] at htm
    simp only [ev] at h
    split at h
    case h_2 => cases h
    case h_1 t ht =>
      change Bool at t
      refine AWp.cond ht (fun h1 => ?_) fun h1 => ?_
      · subst h1; exact ihx _ _ _ htm.1 h
      · subst h1; exact ihy _ _ _ htm.2 h
  | block id c ih =>
    intro i st K ht h
    simp only [tmpsC] at ht
    simp only [ev] at h
    refine AWp.block (ih _ _ _ ht h) (fun st' hq => ?_) fun e st' he hq => ?_
    · have : blockK id K (.exit id) st' = K .normal st' := by rw [blockK_exit, Nat.beq_refl]
      rw [this] at hq; exact hq
    · rw [blockK_ne he] at hq; exact hq
  | loop c ih =>
    intro i st K ht h
    simp only [tmpsC] at ht
    simp only [ev] at h
    split at h
    case h_2 => cases h
    case h_1 sh hsh =>
      obtain ⟨s0, hs0, hk⟩ := shMat_some h
      have hk : fx (fun (self : TupT sh.tys → Opt R) s => ev cx c (i + 1) (sh.dec s) (thenK (fun st' => shMat (sh.mat st') self) K)) cx.n s0 = some r := hk
      refine AWp.loop (fun n st => ∃ s, sh.mat st = some s ∧ fx (fun (self : TupT sh.tys → Opt R) s => ev cx c (i + 1) (sh.dec s) (thenK (fun st' => shMat (sh.mat st') self) K)) n s = some r) cx.n ⟨s0, hs0, hk⟩
        (Q1 := fun n e st' => ∃ k, n = k + 1 ∧ thenK (fun st' => shMat (sh.mat st') (fx (fun (self : TupT sh.tys → Opt R) s => ev cx c (i + 1) (sh.dec s) (thenK (fun st' => shMat (sh.mat st') self) K)) k)) K e st' = some r) (fun n st' hI => ?_) (fun n st' hq => ?_) fun n e st' he hq => ?_
      · obtain ⟨s, hs, hf⟩ := hI
        cases n with
        | zero => cases hf
        | succ k => exact AWp.view (hH _ _ hsh) hs ((ih _ _ _ ht hf).mono fun e st' hq => ⟨k, rfl, hq⟩)
      · obtain ⟨k, rfl, hq⟩ := hq
        obtain ⟨s, hs, hf⟩ := shMat_some hq
        exact ⟨k, Nat.lt_succ_self k, s, hs, hf⟩
      · obtain ⟨k, rfl, hq⟩ := hq
        rw [thenK_ne he] at hq; exact hq
  | exit id => intro i st K _ h; exact AWp.exit h
  | ret => intro i st K _ h; exact AWp.ret h
  | _ => intro i st K _ h; cases h
end
end Go.Tv
