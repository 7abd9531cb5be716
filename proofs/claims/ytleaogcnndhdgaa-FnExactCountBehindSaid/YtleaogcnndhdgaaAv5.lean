/- A part of the proof that a law of the seat holds: ZAv5. -/
import Derived.Test.YtleaogcnndhdgaaAv4
namespace Go.Av
open Go Go.RowKit

/-! ### slicing -/
def bnd (d : Nat) : Option AV → Option Int
  | none => some d
  | some (.v (.int _ n)) => some n
  | _ => none

theorem bnd_none {d : Nat} : bnd d none = some (d : Int) := rfl

section
variable {P : Program} (G : Sg P)

def slA (t : TypeId) (ob : Nat → Option AObj) (x : AV) (lo hi mx : Option AV) : Option AV :=
  match G.TF t with
  | none => none
  | some f =>
    match f.kind, x with
    | .string, .v (.string s) =>
      (match mx with
       | some _ => none
       | none => match bnd 0 lo, bnd s.size hi with
         | some l, some h => if 0 ≤ l ∧ l ≤ h ∧ h ≤ s.size then some (.v (.string (s.extract l.toNat h.toNat))) else none
         | _, _ => none)
    | .slice e, .ro els full =>
      (match bnd 0 lo, bnd els.length hi with
       | some l, some h =>
         if 0 ≤ l ∧ l ≤ h ∧ h ≤ els.length ∧ (∀ c ∈ els, c.length = G.sz e) ∧ 0 < G.sz e then
           (match mx with
            | none => some (.ro ((els.drop l.toNat).take (h.toNat - l.toNat)) (full && decide (h = els.length)))
            | some (.v (.int _ m)) => if hi.isSome = true ∧ m = h then some (.ro ((els.drop l.toNat).take (h.toNat - l.toNat)) true) else none
            | some _ => none)
         else none
       | _, _ => none)
    | .slice e, .sl nm off len =>
      (match mx with
       | some _ => none
       | none => match bnd 0 lo, bnd len hi with
         | some l, some h => if 0 ≤ l ∧ l ≤ h ∧ h ≤ len ∧ (ob nm).map (·.k) = some (some (G.sz e)) ∧ 0 < G.sz e then some (.sl nm (off + l.toNat) (h.toNat - l.toNat)) else none
         | _, _ => none)
    | .array n e, .ptr nm s j =>
      (match mx with
       | some _ => none
       | none => match bnd 0 lo, bnd n hi with
         | some l, some h => if 0 ≤ l ∧ l ≤ h ∧ h ≤ n ∧ l < n ∧ G.sz e = 1 ∧ n ≤ 9223372036854775807 then some (.sv nm s (j + l.toNat) (h.toNat - l.toNat)) else none
         | _, _ => none)
    | _, _ => none

theorem bnd_run {c : Ctx} {d : Nat} {x : Option AV} {vx : Option Value} {l : Int} (hx : match x, vx with | none, none => True | some a, some v => sat c a v | _, _ => False) (h : bnd d x = some l) :
    (vx = none ∧ l = d) ∨ ∃ k, vx = some (.int k l) := by
  unfold bnd at h
  split at h
  · left
    simp only [Option.some.injEq] at h
    cases vx with
    | none => exact ⟨rfl, h.symm⟩
    | some _ => exact hx.elim
  · right
    rename_i k n
    simp only [Option.some.injEq] at h
    subst h
    cases vx with
    | none => exact hx.elim
    | some v => simp only [sat] at hx; exact ⟨k, by rw [hx.1]⟩
  · cases h

theorem run_bounds (w : World) (isS : Bool) (len cap : Nat) (lo hi : Option Value) (l h : Int) (hlo : (lo = none ∧ l = 0) ∨ ∃ k, lo = some (.int k l)) (hhi : (hi = none ∧ h = len) ∨ ∃ k, hi = some (.int k h))
    (h0 : 0 ≤ l) (h1 : l ≤ h) (h2 : h ≤ cap) (hlc : len ≤ cap) : (Instr.sliceBounds isS len cap lo hi none).run P w = .ok (l.toNat, h.toNat, cap) w := by
  have hh : 0 ≤ h := by omega
  have hn : ((h.toNat : Nat) : Int) = h := Int.toNat_of_nonneg hh
  rcases hlo with ⟨rfl, rfl⟩ | ⟨k, rfl⟩ <;> rcases hhi with ⟨rfl, rfl⟩ | ⟨k', rfl⟩ <;>
    simp [Instr.sliceBounds, Instr.sliceBound, asIntOf, h0, h1, h2, hh, hn]

theorem run_bounds3 (w : World) (isS : Bool) (len cap : Nat) (lo : Option Value) (l h m : Int) (k k' : IntKind) (hlo : (lo = none ∧ l = 0) ∨ ∃ k, lo = some (.int k l))
    (h0 : 0 ≤ l) (h1 : l ≤ h) (h2 : h ≤ m) (h3 : m ≤ cap) : (Instr.sliceBounds isS len cap lo (some (.int k h)) (some (.int k' m))).run P w = .ok (l.toNat, h.toNat, m.toNat) w := by
  have hh : 0 ≤ h := by omega
  have hm : 0 ≤ m := by omega
  have hn : ((h.toNat : Nat) : Int) = h := Int.toNat_of_nonneg hh
  have hn2 : ((m.toNat : Nat) : Int) = m := Int.toNat_of_nonneg hm
  rcases hlo with ⟨rfl, rfl⟩ | ⟨k2, rfl⟩ <;>
    simp [Instr.sliceBounds, Instr.sliceBound, asIntOf, h0, h1, h2, h3, hh, hm, hn, hn2]

theorem satSegs_sub {c : Ctx} {b o k : Nat} : ∀ {els : List (List AV)} {l n : Nat}, satSegs c b o els → (∀ e ∈ els, e.length = k) → l ≤ els.length → satSegs c b (o + l * k) ((els.drop l).take n) := by
  intro els l n h hk hl
  rw [satSegs_flat] at h ⊢
  have h1 := satCells_sub h (l * k) (((els.drop l).take n).flatten.length)
  rw [← presegs_uni hk hl, ← flatten_drop] at h1
  have h2 : (els.drop l).flatten.take (((els.drop l).take n).flatten.length) = ((els.drop l).take n).flatten := by
    conv => lhs; rw [← List.take_append_drop n (els.drop l), List.flatten_append, List.take_append_drop, List.take_left]
  rw [h2, presegs_uni hk hl] at h1
  exact h1

theorem sl_sound {c : Ctx} {ob : Nat → Option AObj} (hob : ∀ nm o, ob nm = some o → objOK c nm o) {t : TypeId} {x av : AV} {lo hi mx : Option AV} {vx : Value} {vlo vhi vmx : Option Value} (hx : sat c x vx)
    (hlo : match lo, vlo with | none, none => True | some a, some v => sat c a v | _, _ => False)
    (hhi : match hi, vhi with | none, none => True | some a, some v => sat c a v | _, _ => False)
    (hmx : match mx, vmx with | none, none => True | some a, some v => sat c a v | _, _ => False)
    (h : slA G t ob x lo hi mx = some av) : ∃ y, sat c av y ∧ ∀ w', (Instr.sliceAt t vx vlo vhi vmx).run P w' = .ok y w' := by
  unfold slA at h
  cases hf : G.TF t with
  | none => rw [hf] at h; cases h
  | some f =>
    obtain ⟨d, hd, hfit⟩ := (G.ok t f hf).und
    rw [hf] at h
    simp only at h
    split at h
    case h_1 s hk =>
      rw [hk] at hfit
      simp only [TK.fits] at hfit
      subst hfit
      simp only [sat] at hx
      obtain ⟨rfl, _⟩ := hx
      split at h
      case h_1 => cases h
      case h_2 =>
        split at h
        case h_2 => cases h
        case h_1 l h' hl hh =>
          split at h
          case isFalse => cases h
          case isTrue hc =>
            simp only [Option.some.injEq] at h
            subst h
            cases vmx with
            | some _ => exact hmx.elim
            | none =>
              refine ⟨.string (s.extract l.toNat h'.toNat), by simp only [sat, true_and]; rfl, fun w' => ?_⟩
              have := run_bounds (P := P) w' false s.size s.size vlo vhi l h' (by simpa using bnd_run hlo hl) (bnd_run hhi hh) hc.1 hc.2.1 (by omega) (Nat.le_refl _)
              simp [Instr.sliceAt, Instr.slice, run_underlying hd, this]
    case h_2 e els full hk =>
      rw [hk] at hfit
      simp only [TK.fits] at hfit
      subst hfit
      simp only [sat] at hx
      obtain ⟨a, cap, rfl, g1, g2, g3, g4⟩ := hx
      split at h
      case h_2 => cases h
      case h_1 l h' hl hh =>
        split at h
        case isFalse => cases h
        case isTrue hc =>
          obtain ⟨h0, h1, h2, h3, h4⟩ := hc
          have hlo' := bnd_run hlo hl
          have hhi' := bnd_run hhi hh
          have hln : ((els.drop l.toNat).take (h'.toNat - l.toNat)).length = h'.toNat - l.toNat := by simp; omega
          have mem : ∀ (cap' : Nat) (fl : Bool) (a' : Option Addr), h'.toNat - l.toNat ≤ cap' → (fl = true → cap' = h'.toNat - l.toNat) →
              (h'.toNat - l.toNat = 0 ∨ ∀ b off, a = some ⟨b, off, none⟩ → a' = some ⟨b, off + l.toNat * G.sz e, none⟩) →
              sat c (.ro ((els.drop l.toNat).take (h'.toNat - l.toNat)) fl) (.slice a' (h'.toNat - l.toNat) cap') := by
            intro cap' fl a' hc1 hc2 hc3
            simp only [sat]
            refine ⟨a', cap', by rw [hln], by rw [hln]; exact hc1, by rw [hln]; omega, by rw [hln]; exact hc2, ?_⟩
            rcases hc3 with hz | hz
            · exact .inl (List.eq_nil_of_length_eq_zero (by rw [hln]; exact hz))
            · rcases g4 with g4 | ⟨b, off, k, rfl, g5, g6, g7, g8⟩
              · left; rw [g4]; simp
              · have hkk : els = [] ∨ k = G.sz e := by
                  cases els with
                  | nil => exact .inl rfl
                  | cons q r => right; rw [← h3 q (by simp)]; exact (g7 q (by simp)).symm
                rcases hkk with hkk | rfl
                · left; rw [hkk]; simp
                · right
                  refine ⟨b, off + l.toNat * G.sz e, G.sz e, hz b off rfl, g5, g6, fun q hq => g7 q (List.drop_subset _ _ (List.take_subset _ _ hq)), ?_⟩
                  exact satSegs_sub g8 g7 (by omega)
          split at h
          case h_1 =>
            cases vmx with
            | some _ => exact hmx.elim
            | none =>
              simp only [Option.some.injEq] at h
              subst h
              refine ⟨.slice (if cap = l.toNat then a else a.map (·.add (l.toNat * G.sz e))) (h'.toNat - l.toNat) (cap - l.toNat), mem _ _ _ (by omega) (fun hfl => by simp at hfl; have := g3 hfl.1; omega) ?_, fun w' => ?_⟩
              · by_cases hcl : cap = l.toNat
                · left; omega
                · right; intro b off ha; rw [if_neg hcl, ha]; simp [add_plain]
              · have := run_bounds (P := P) w' true els.length cap vlo vhi l h' (by simpa using hlo') hhi' h0 h1 (by omega) g1
                simp [Instr.sliceAt, Instr.slice, run_underlying hd, this, G.sz_run h4]
          case h_2 k m =>
            split at h
            case isFalse => cases h
            case isTrue hm =>
              obtain ⟨hsome, rfl⟩ := hm
              simp only [Option.some.injEq] at h
              subst h
              cases vmx with
              | none => exact hmx.elim
              | some vm =>
                simp only [sat] at hmx
                obtain ⟨rfl, _⟩ := hmx
                rcases hhi' with ⟨hv, _⟩ | ⟨k2, rfl⟩
                · cases hi with
                  | none => cases hsome
                  | some _ => rw [hv] at hhi; exact hhi.elim
                · refine ⟨.slice (if m.toNat = l.toNat then a else a.map (·.add (l.toNat * G.sz e))) (m.toNat - l.toNat) (m.toNat - l.toNat), mem _ _ _ (Nat.le_refl _) (fun _ => rfl) ?_, fun w' => ?_⟩
                  · by_cases hcl : m.toNat = l.toNat
                    · left; omega
                    · right; intro b off ha; rw [if_neg hcl, ha]; simp [add_plain]
                  · have := run_bounds3 (P := P) w' true els.length cap vlo l m m k2 k (by simpa using hlo') h0 h1 (Int.le_refl _) (by omega)
                    simp [Instr.sliceAt, Instr.slice, run_underlying hd, this, G.sz_run h4]
          case h_3 => cases h
    case h_3 e nm off len hk =>
      rw [hk] at hfit
      simp only [TK.fits] at hfit
      subst hfit
      split at h
      case h_1 => cases h
      case h_2 =>
        split at h
        case h_2 => cases h
        case h_1 l h' hl hh =>
          split at h
          case isFalse => cases h
          case isTrue hc =>
            obtain ⟨h0, h1, h2, h3, h4⟩ := hc
            simp only [Option.some.injEq] at h
            subst h
            have hlo' := bnd_run hlo hl
            have hhi' := bnd_run hhi hh
            cases vmx with
            | some _ => exact hmx.elim
            | none =>
              simp only [sat] at hx
              rcases hx with ⟨hlen, a, rfl⟩ | ⟨b, k', cap, cur, ty, fr, hb, hL, rfl, hlc, hcell, hsz, hm⟩
              · subst hlen
                have hl0 : l = 0 := by omega
                have hh0 : h' = 0 := by omega
                subst hl0; subst hh0
                refine ⟨.slice a 0 0, by simp only [sat]; exact .inl ⟨rfl, a, rfl⟩, fun w' => ?_⟩
                have := run_bounds (P := P) w' true 0 0 vlo vhi 0 0 (by simpa using hlo') (by simpa using hhi') (by omega) (by omega) (by omega) (by omega)
                simp [Instr.sliceAt, Instr.slice, run_underlying hd, this, G.sz_run h4]
              · cases ho : ob nm with
                | none => rw [ho] at h3; cases h3
                | some o =>
                  rw [ho] at h3
                  simp only [Option.map_some, Option.some.injEq] at h3
                  have hk : k' = G.sz e := by
                    rcases hob nm o ho with ⟨hn, _⟩ | ⟨_, _, _, _, _, _, _, ⟨k2, _, e1, e2, _⟩ | ⟨e1, _⟩⟩
                    · rw [hb] at hn; cases hn
                    · rw [h3] at e1; rw [hL] at e2; simp only [Option.some.injEq, Lay.uni.injEq] at e1 e2; omega
                    · rw [h3] at e1; cases e1
                  subst hk
                  have hr := fun w' => run_bounds (P := P) w' true len cap vlo vhi l h' (by simpa using hlo') hhi' h0 h1 (by omega) hlc
                  by_cases hcl : cap = l.toNat
                  · refine ⟨.slice (some ⟨b, off * G.sz e, none⟩) (h'.toNat - l.toNat) (cap - l.toNat), ?_, fun w' => ?_⟩
                    · have hz : h'.toNat - l.toNat = 0 := by omega
                      have hz2 : cap - l.toNat = 0 := by omega
                      rw [hz, hz2]
                      simp only [sat]
                      exact .inl ⟨trivial, _, rfl⟩
                    · have := hr w'
                      rw [hcl] at this
                      simp [Instr.sliceAt, Instr.slice, run_underlying hd, this, G.sz_run h4, hcl]
                  · refine ⟨.slice (some ⟨b, (off + l.toNat) * G.sz e, none⟩) (h'.toNat - l.toNat) (cap - l.toNat), ?_, fun w' => ?_⟩
                    · simp only [sat]
                      refine .inr ⟨b, G.sz e, cap - l.toNat, cur, ty, fr, hb, hL, rfl, by omega, hcell, ?_, by omega⟩
                      rw [hsz]; congr 1; omega
                    · simp [Instr.sliceAt, Instr.slice, run_underlying hd, hr w', G.sz_run h4, hcl, add_plain, Nat.add_mul]
    case h_4 n e nm s j hk =>
      rw [hk] at hfit
      simp only [TK.fits] at hfit
      subst hfit
      split at h
      case h_1 => cases h
      case h_2 =>
        split at h
        case h_2 => cases h
        case h_1 l h' hl hh =>
          split at h
          case isFalse => cases h
          case isTrue hc =>
            obtain ⟨h0, h1, h2, h3, h4, h5⟩ := hc
            simp only [Option.some.injEq] at h
            subst h
            cases vmx with
            | some _ => exact hmx.elim
            | none =>
              simp only [sat] at hx
              obtain ⟨b, hb, rfl⟩ := hx
              have hr := fun w' => run_bounds (P := P) w' false n n vlo vhi l h' (by simpa using bnd_run hlo hl) (bnd_run hhi hh) h0 h1 (by omega) (Nat.le_refl _)
              have hne : ¬ n = l.toNat := by omega
              refine ⟨.slice (some ⟨b, (c.L nm).pre s + (j + l.toNat), none⟩) (h'.toNat - l.toNat) (n - l.toNat), by simp only [sat]; exact ⟨b, _, hb, rfl, by omega, by simp only [maxLen]; omega⟩, fun w' => ?_⟩
              simp [Instr.sliceAt, run_underlying hd, Instr.sureAddr, hr w', G.sz_run (show 0 < G.sz e by omega), h4, hne, add_plain, Nat.add_assoc]
    case h_5 => cases h
end
end Go.Av
