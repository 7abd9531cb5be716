/- How a typed evaluator tells the code of a function: definitions and soundness, part 7. -/
import Derived.Test.YtifcbamdncpahaaDoorZ6
import Derived.Test.YtifcbamdncpahaaDoorZ0
import Derived.OpenShut
import Derived.Carry
import Derived.ProofKit
import Derived.WalkKit
import Derived.Lib.Bytealg
import Derived.Laws.Externs
import Derived.Lib.LaidTab
import Derived.Lib.ItoaNum
import Derived.Sort.Grow
import Derived.Deep.Draws
import Derived.Lib.Walk
import Derived.Lib.Slices
import Derived.Lib.Join
import Derived.Lib.AtoiAll
set_option linter.unusedVariables false
set_option linter.unusedSimpArgs false
namespace Go.Tv
open Go Go.RowKit
set_option linter.unusedSectionVars false
variable [Inv]
section
variable {P : Program} {cx : Cx} {all : List Oper} {st : St}
theorem hold_get {l : List Oper} {k : Nat} {y : DItem} (h : (hold l)[k]? = some y) : ∃ o, l[k]? = some o ∧ y = ⟨⟨o.dst, .any, []⟩, [], true⟩ := by
  unfold hold at h
  rw [List.getElem?_map] at h
  cases ho : l[k]? with
  | none => rw [ho] at h; cases h
  | some o => rw [ho] at h; injection h with h; exact ⟨o, rfl, h.symm⟩
theorem hold_of {l : List Oper} {k : Nat} {o : Oper} (h : l[k]? = some o) : (hold l)[k]? = some ⟨⟨o.dst, .any, []⟩, [], true⟩ := by
  unfold hold; rw [List.getElem?_map, h]; rfl
theorem unds_of {l : List Oper} {k : Nat} {o : Oper} (h : l[k]? = some o) : (unds l)[k]? = some ⟨⟨o.dst, .und, []⟩, [], false⟩ := by
  unfold unds; rw [List.getElem?_map, h]; rfl
theorem unds_get {l : List Oper} {k : Nat} {y : DItem} (h : (unds l)[k]? = some y) : ∃ o, l[k]? = some o ∧ y = ⟨⟨o.dst, .und, []⟩, [], false⟩ := by
  unfold unds at h
  rw [List.getElem?_map] at h
  cases ho : l[k]? with
  | none => rw [ho] at h; cases h
  | some o => rw [ho] at h; injection h with h; exact ⟨o, rfl, h.symm⟩
theorem seg_get {acc : List DItem} {inner rest : List Oper} {pk : Oper} (hseg : ∀ (k : Nat) (o : Oper), (inner ++ pk :: rest)[k]? = some o → all[acc.length + k]? = some o) :
    (∀ (k : Nat) (o : Oper), inner[k]? = some o → all[acc.length + k]? = some o) ∧ all[acc.length + inner.length]? = some pk ∧ ∀ (k : Nat) (o : Oper), rest[k]? = some o → all[acc.length + inner.length + 1 + k]? = some o := by
  refine ⟨fun k o h => hseg k o (get_app h), hseg _ _ ?_, fun k o h => ?_⟩
  · rw [List.getElem?_append_right (Nat.le_refl _)]; simp
  · have := hseg (inner.length + (1 + k)) o (by rw [List.getElem?_append_right (by omega), show inner.length + (1 + k) - inner.length = k + 1 by omega]; simpa using h)
    rw [show acc.length + inner.length + 1 + k = acc.length + (inner.length + (1 + k)) by omega]; exact this
theorem group_rel {acc racc rI : List DItem} {inner : List Oper} {pk : Oper} (hrel : RelL all acc racc) (hseg : ∀ (k : Nat) (o : Oper), inner[k]? = some o → all[acc.length + k]? = some o) (hpk : all[acc.length + inner.length]? = some pk) (hl : rI.length = inner.length)
    (hit : ∀ (k : Nat) (o : Oper) (x : DItem), inner[k]? = some o → rI[k]? = some x → x.d.dst = o.dst ∧ x.d.ups = []) (px : DItem) (hpx : px.d.dst = pk.dst) :
    RelL all (acc ++ hold inner) (racc ++ rI) ∧ RelL all (acc ++ hold inner ++ [px]) (racc ++ rI ++ [px]) := by
  have hlh : (hold inner).length = inner.length := by simp [hold]
  have hlt := (List.getElem?_eq_some_iff.1 hpk).1
  have h1 : RelL all (acc ++ hold inner) (racc ++ rI) := by
    refine hrel.app (by rw [hlh, hl]) (by rw [hlh]; omega) fun k o y x ho hy hx => ?_
    obtain ⟨o', ho', rfl⟩ := hold_get hy
    obtain ⟨g1, g2⟩ := hit k o' x ho' hx
    have := hseg k o' ho'
    rw [ho] at this; injection this with this; subst this
    exact ⟨.inr ⟨rfl, by rw [g1], g2⟩, g1⟩
  refine ⟨h1, h1.app rfl (by simp [hlh]; omega) fun k o y x ho hy hx => ?_⟩
  cases k with
  | succ k => simp at hy
  | zero =>
    simp only [List.getElem?_cons_zero, Option.some.injEq] at hy hx
    subst hy; subst hx
    refine ⟨.inl rfl, ?_⟩
    rw [Nat.add_zero, List.length_append, hlh, hpk] at ho
    injection ho with ho; subst ho; exact hpx
theorem Fact.mono {ps : List (List Nat)} {out : Bool} {told real : List DItem} {i : Nat} (h : Fact P all ps st out told real i) (a b : List DItem) : Fact P all ps st out (told ++ a) (real ++ b) i := by
  obtain ⟨o, x, y, acc, racc, h1, h2, h3, h4, h5, h6, h7, h8⟩ := h
  exact ⟨o, x, y, acc, racc, h1, get_app h2, get_app h3, h4, h5, h6.trans (List.prefix_append _ _), h7.mono b, h8⟩
theorem evD_sound (hG : TabOK P cx.G) (hcall : CallsOK P cx) (hst : StatOK all (predsAll [] all)) :
    ∀ (fuel : Nat) (R : Type) (l : List Oper) (outer : Option (Nat × Bool)) (acc racc : List DItem) (K : List DItem → Opt R) (r : R), RelL all acc racc → (∀ (k : Nat) (o : Oper), l[k]? = some o → all[acc.length + k]? = some o) → HoldD all racc outer →
      evD cx all (predsAll [] all) st fuel R l outer acc K = some r →
      ∃ tE rE, K (acc ++ tE) = some r ∧ tE.length = l.length ∧ RelL all (acc ++ tE) (racc ++ rE) ∧ ∀ k, k < l.length → Fact P all (predsAll [] all) st outer.isNone (acc ++ tE) (racc ++ rE) (acc.length + k) := by
  intro fuel
  induction fuel with
  | zero => intro R l outer acc racc K r _ _ _ h; cases h
  | succ fuel ih =>
    intro R l outer acc racc K r hrel hseg hhold h
    cases l with
    | nil => exact ⟨[], [], by rw [List.append_nil]; exact h, rfl, by rw [List.append_nil, List.append_nil]; exact hrel, fun k hk => by simp at hk⟩
    | cons o l =>
      have ho0 : all[acc.length]? = some o := hseg 0 o rfl
      have hlt0 := (List.getElem?_eq_some_iff.1 ho0).1
      simp only [evD] at h
      split at h
      case h_1 heq =>
        have hgo := eqG_eq heq
        obtain ⟨d, k, hstp, h, hdd⟩ := opD_sound hG hcall h
        split at h
        case h_2 => cases h
        case h_1 hck =>
          rw [Bool.and_eq_true] at hck
          generalize hrd : opReads (dObj acc st (predOf (predsAll [] all) acc.length)) (dEnv acc st (predOf (predsAll [] all) acc.length)) o.op = rd at *
          let x : DItem := ⟨d, rd, false⟩
          have hrel1 : RelL all (acc ++ [x]) (racc ++ [x]) := hrel.app rfl (by simp; omega) fun j o' y z ho' hy hz => by
            cases j with
            | succ j => simp at hy
            | zero =>
              simp only [List.getElem?_cons_zero, Option.some.injEq] at hy hz
              subst hy; subst hz
              rw [Nat.add_zero, ho0] at ho'; injection ho' with ho'; subst ho'
              exact ⟨.inl rfl, hdd⟩
          have hhold1 : HoldD all (racc ++ [x]) outer := by
            cases outer with
            | none => trivial
            | some gw => obtain ⟨t, z, s, h1, h2, h3⟩ := hhold; exact ⟨t, z, s, h1, get_app h2, h3⟩
          obtain ⟨tE, rE, g1, g2, g3, g4⟩ := ih R l outer (acc ++ [x]) (racc ++ [x]) K r hrel1 (fun j o' hj => by
            have := hseg (j + 1) o' (by simpa using hj)
            rw [List.length_append, List.length_singleton, show acc.length + 1 + j = acc.length + (j + 1) by omega]; exact this) hhold1 h
          refine ⟨x :: tE, x :: rE, by simpa using g1, by simp [g2], by simpa using g3, fun j hj => ?_⟩
          cases j with
          | zero =>
            refine ⟨o, x, x, acc, racc, ho0, ?_, ?_, rfl, hrel, List.prefix_append _ _, guardA_of hgo hhold ⟨k, Nat.le_of_ble_eq_true hck.1, hstp⟩ _, ?_⟩
            · rw [Nat.add_zero, List.getElem?_append_right (by rw [← hrel.len]; exact Nat.le_refl _), ← hrel.len]; simp
            · rw [Nat.add_zero, List.getElem?_append_right (Nat.le_refl _)]; simp
            · cases outer with
              | none => exact .inr ⟨rfl, rfl⟩
              | some gw =>
                left
                have hi := hck.2
                simp only [innerB, Bool.and_eq_true, List.isEmpty_iff, List.all_eq_true] at hi
                exact ⟨hi.1, fun nm hnm => ⟨Nat.le_of_ble_eq_true (hi.2 nm hnm).1, (hi.2 nm hnm).2, no_of hrd hnm⟩⟩
          | succ j =>
            have := g4 j (by simpa using hj)
            simp only [List.append_assoc, List.singleton_append, List.length_append, List.length_singleton] at this
            rw [show acc.length + (j + 1) = acc.length + 1 + j by omega]; exact this
      case h_2 heq =>
        split at h
        case h_2 => cases h
        case h_1 g w inner pk rest hg hsp =>
          obtain ⟨hlist, hpg⟩ := splitG_spec hsp
          have hpg := eqG_eq hpg
          rw [hlist] at hseg ⊢
          obtain ⟨hsI, hsP, hsR⟩ := seg_get hseg
          split at h
          case h_2 => cases h
          case h_1 a b gb hck hpk hgv =>
            rw [Bool.and_eq_true] at hck
            obtain ⟨gt, hgt, _, hop⟩ := pickOf_spec hpk
            obtain ⟨t, z, s, k1, k2, k3, k4, k5⟩ := guard_val hst hrel (hst.guard _ o g w ho0 hg) rfl hgv
            rw [hgt] at k1
            injection k1 with k1
            subst k1
            change Bool at gb
            split at h
            case h_2 => cases h
            case h_1 t no hno =>
              obtain ⟨v, hv, h⟩ := ob1T_some h
              let px : DItem := ⟨⟨pk.dst, .val true t v, []⟩, [], false⟩
              have hlh : (hold inner).length = inner.length := by simp [hold]
              have fin : ∀ (rI accp : List DItem), rI.length = inner.length → accp.length = acc.length + inner.length → RelL all accp (racc ++ rI) → StpA P (predsAll [] all) st accp (acc.length + inner.length) pk px →
                  (∀ (k : Nat) (o : Oper) (x : DItem), inner[k]? = some o → rI[k]? = some x → x.d.dst = o.dst ∧ x.d.ups = []) →
                  (∀ (k : Nat) (o : Oper) (x : DItem), inner[k]? = some o → rI[k]? = some x → ∃ acc' racc', acc'.length = acc.length + k ∧ RelL all acc' racc' ∧ racc' <+: racc ++ rI ∧ GuardA P all (predsAll [] all) st acc' (racc ++ rI) (acc.length + k) o x ∧ InF (predsAll [] all) st acc' (acc.length + k) o x) →
                  ∃ tE rE, K (acc ++ tE) = some r ∧ tE.length = (inner ++ pk :: rest).length ∧ RelL all (acc ++ tE) (racc ++ rE) ∧ ∀ k, k < (inner ++ pk :: rest).length → Fact P all (predsAll [] all) st outer.isNone (acc ++ tE) (racc ++ rE) (acc.length + k) := by
                intro rI accp hlI hlp hrp hsp hit hfact
                obtain ⟨hr1, hr2⟩ := group_rel hrel hsI hsP hlI hit px rfl
                have hhold2 : HoldD all (racc ++ rI ++ [px]) outer := by
                  cases outer with
                  | none => trivial
                  | some gw => obtain ⟨t, z, s, h1, h2, h3⟩ := hhold; exact ⟨t, z, s, h1, get_app (get_app h2), h3⟩
                obtain ⟨tE, rE, g1, g2, g3, g4⟩ := ih R rest outer (acc ++ hold inner ++ [px]) (racc ++ rI ++ [px]) K r hr2 (fun j o' hj => by
                  have := hsR j o' hj
                  simp only [List.length_append, List.length_singleton, hlh]; exact this) hhold2 h
                have ht : acc ++ (hold inner ++ px :: tE) = acc ++ hold inner ++ [px] ++ tE := by simp
                have hrr : racc ++ (rI ++ px :: rE) = racc ++ rI ++ [px] ++ rE := by simp
                refine ⟨hold inner ++ px :: tE, rI ++ px :: rE, by rw [ht]; exact g1, by simp [hlh, g2], by rw [ht, hrr]; exact g3, fun j hj => ?_⟩
                rw [ht, hrr]
                rcases Nat.lt_trichotomy j inner.length with hlt | rfl | hgt
                · have ho1 : inner[j]? = some inner[j] := List.getElem?_eq_getElem hlt
                  have hx1 : rI[j]? = some (rI[j]'(by omega)) := List.getElem?_eq_getElem _
                  obtain ⟨acc', racc', q1, q2, q3, q4, q5⟩ := hfact j _ _ ho1 hx1
                  have : Fact P all (predsAll [] all) st outer.isNone (acc ++ hold inner) (racc ++ rI) (acc.length + j) := by
                    refine ⟨inner[j], rI[j]'(by omega), ⟨⟨inner[j].dst, .any, []⟩, [], true⟩, acc', racc', hsI j _ ho1, ?_, ?_, q1, q2, q3, q4, .inl q5⟩
                    · rw [List.getElem?_append_right (by rw [← hrel.len]; omega), ← hrel.len, show acc.length + j - acc.length = j by omega]; exact hx1
                    · rw [List.getElem?_append_right (by omega), show acc.length + j - acc.length = j by omega]; exact hold_of ho1
                  exact (this.mono [px] [px]).mono tE rE
                · have : Fact P all (predsAll [] all) st outer.isNone (acc ++ hold inner ++ [px]) (racc ++ rI ++ [px]) (acc.length + inner.length) := by
                    refine ⟨pk, px, px, accp, racc ++ rI, hsP, ?_, ?_, hlp, hrp, List.prefix_append _ _, ?_, .inl ⟨rfl, fun nm hnm => by cases hnm⟩⟩
                    · rw [List.getElem?_append_right (by simp [hlI, hrel.len])]; simp [hlI, hrel.len]
                    · rw [List.getElem?_append_right (by simp [hlh])]; simp [hlh]
                    · rw [List.append_assoc]; exact guardA_of hpg hhold hsp _
                  exact this.mono tE rE
                · have := g4 (j - inner.length - 1) (by simp at hj; omega)
                  simp only [List.length_append, List.length_singleton, hlh] at this
                  rw [show acc.length + inner.length + 1 + (j - inner.length - 1) = acc.length + j by omega] at this
                  exact this
              by_cases hgw : gb = w
              · have h1 : (evD cx all (predsAll [] all) st fuel t.den inner (some (g, w)) acc fun acc' => endV t (evA (dEnv acc' st (predOf (predsAll [] all) acc'.length)) (selW w a b))) = some v := by
                  subst hgw; cases gb <;> exact hv
                obtain ⟨tI, rI, g1, g2, g3, g4⟩ := ih t.den inner (some (g, w)) acc racc _ v hrel hsI ⟨gt, z, s, hgt, k3, by rw [k5, hgw]⟩ h1
                have hlI : rI.length = inner.length := by
                  have := g3.len
                  simp only [List.length_append, hrel.len, g2] at this; omega
                have hg4 : ∀ (k : Nat) (o : Oper) (x : DItem), inner[k]? = some o → rI[k]? = some x → x.d.dst = o.dst ∧ ∃ acc' racc', acc'.length = acc.length + k ∧ RelL all acc' racc' ∧ racc' <+: racc ++ rI ∧ GuardA P all (predsAll [] all) st acc' (racc ++ rI) (acc.length + k) o x ∧ InF (predsAll [] all) st acc' (acc.length + k) o x := by
                  intro k o x ho hx
                  have hlt := (List.getElem?_eq_some_iff.1 ho).1
                  obtain ⟨o', x', y', acc', racc', q1, q2, q3, q4, q5, q6, q7, q8⟩ := g4 k hlt
                  have e1 := hsI k o ho
                  rw [q1] at e1; injection e1 with e1; subst e1
                  have e2 : (racc ++ rI)[acc.length + k]? = some x := by
                    rw [List.getElem?_append_right (by rw [← hrel.len]; omega), ← hrel.len, show acc.length + k - acc.length = k by omega]; exact hx
                  rw [q2] at e2; injection e2 with e2; subst e2
                  refine ⟨(g3.it _ _ _ _ q1 q3 q2).2, acc', racc', q4, q5, q6, q7, ?_⟩
                  rcases q8 with q8 | ⟨q8, _⟩
                  · exact q8
                  · cases q8
                have hlp : (acc ++ tI).length = acc.length + inner.length := by rw [List.length_append, g2]
                refine fin rI (acc ++ tI) hlI hlp g3 ?_ (fun k o x ho hx => ?_) (fun k o x ho hx => (hg4 k o x ho hx).2)
                · refine StpA.pick hst g3 hck.2 (z := z) (s := s) (gb := gb) hop (get_app k2) k4 k5 ?_
                  have := endV_some g1
                  rw [hlp] at this
                  rw [hgw]; exact this
                · obtain ⟨q1, _, _, _, _, _, _, q2⟩ := hg4 k o x ho hx
                  exact ⟨q1, q2.1⟩
              · have h1 : no = v := by
                  have : ret1 t no = some v := by cases w <;> cases gb <;> first | exact hv | exact absurd rfl hgw
                  injection this
                subst h1
                have hlU : (unds inner).length = inner.length := by simp [unds]
                have hit : ∀ (k : Nat) (o : Oper) (x : DItem), inner[k]? = some o → (unds inner)[k]? = some x → x.d.dst = o.dst ∧ x.d.ups = [] := fun k o x ho hx => by
                  rw [unds_of ho] at hx; injection hx with hx; subst hx; exact ⟨rfl, rfl⟩
                obtain ⟨hr1, _⟩ := group_rel hrel hsI hsP hlU hit px rfl
                refine fin (unds inner) (acc ++ hold inner) hlU (by rw [List.length_append, hlh]) hr1 ?_ hit fun k o x ho hx => ?_
                · refine StpA.pick hst hr1 hck.2 (z := z) (s := s) (gb := gb) hop (get_app k2) k4 k5 ?_
                  have : selW gb a b = selW w b a := by cases w <;> cases gb <;> first | rfl | exact absurd rfl hgw
                  rw [this]; exact hno
                · have hlt := (List.getElem?_eq_some_iff.1 ho).1
                  rw [unds_of ho] at hx; injection hx with hx; subst hx
                  refine ⟨(acc ++ hold inner).take (acc.length + k), (racc ++ unds inner).take (acc.length + k), by simp [hlh]; omega, hr1.take _, List.take_prefix _ _, ?_, rfl, fun nm hnm => by cases hnm⟩
                  obtain ⟨g', w', q1, q2⟩ := skip_get hck.1 k o ho
                  unfold GuardA
                  rw [q1]
                  rcases q2 with ⟨rfl, rfl⟩ | ⟨t', q2, q3⟩
                  · exact ⟨gt, z, hgt, get_app k3, .inl ⟨s, gb, k5, fun hh => absurd hh hgw, fun _ => rfl⟩⟩
                  · rcases q3 with q3 | ⟨k', o', q3, q4, q5⟩
                    · cases q3
                    · have q6 := hsI k' o' q4
                      obtain ⟨og, hog⟩ : ∃ og, all[g']? = some og := by
                        unfold guardT at q2
                        cases hq : all[g']? with
                        | none => rw [hq] at q2; cases q2
                        | some og => exact ⟨og, rfl⟩
                      have hogd : og.dst = some t' := by unfold guardT at q2; rw [hog] at q2; exact q2
                      have hgk : g' = acc.length + k' := dst_inj hst.nodup hog q6 hogd q5
                      refine ⟨t', ⟨⟨o'.dst, .und, []⟩, [], false⟩, q2, ?_, .inr ⟨rfl, rfl⟩⟩
                      rw [hgk, List.getElem?_append_right (by rw [← hrel.len]; omega), ← hrel.len, show acc.length + k' - acc.length = k' by omega]
                      exact unds_of q4
end
end Go.Tv
namespace Go.Tv
open Go Go.RowKit
set_option linter.unusedSectionVars false
variable [Inv]
theorem drawB_get {n0 : Nat} {ops : List Oper} {ps : List (List Nat)} {dl : List DItem} : ∀ {l : List Oper} {r : List DItem} {i : Nat}, drawB n0 ops ps dl l r i = true → l.length = r.length ∧ ∀ (k : Nat) (o : Oper) (x : DItem), l[k]? = some o → r[k]? = some x →
    (∀ p ∈ x.d.ups, compAll ps (i + k) p.1 dl 0 = true) ∧ readsB ps dl (i + k) (readsOf ops o) = true ∧ (∀ nm ∈ x.rd, compAll ps (i + k) nm dl 0 = true) ∧ (x.hid = true → noRead o.op = true ∨ compHid n0 ps (i + k) dl 0 = true)
  | [], [], i, _ => ⟨rfl, fun k o x h => by simp at h⟩
  | o :: l, x :: r, i, h => by
    simp only [drawB, Bool.and_eq_true, List.all_eq_true, Bool.or_eq_true, Bool.not_eq_true'] at h
    obtain ⟨⟨⟨⟨h1, h2⟩, h3⟩, h4⟩, h5⟩ := h
    obtain ⟨g1, g2⟩ := drawB_get h5
    refine ⟨by simp [g1], fun k o' x' ho hx => ?_⟩
    cases k with
    | zero =>
      simp only [List.getElem?_cons_zero, Option.some.injEq] at ho hx
      subst ho; subst hx
      exact ⟨h1, h2, h3, fun hh => h4.elim (fun h => h.elim (fun h => by rw [hh] at h; cases h) .inl) .inr⟩
    | succ k =>
      have := g2 k o' x' (by simpa using ho) (by simpa using hx)
      rwa [show i + 1 + k = i + (k + 1) by omega] at this
  | [], _ :: _, _, h => by cases h
  | _ :: _, [], _, h => by cases h
section
variable {P : Program} {B : Base} {all : List Oper} {st : St}
theorem writer_rel (hst : StatOK all (predsAll [] all)) {acc racc : List DItem} (h : RelL all acc racc) {t : Tmp} :
    (writer acc t 0 = none ∧ writer racc t 0 = none) ∨ ∃ j y x, acc[j]? = some y ∧ racc[j]? = some x ∧ writer acc t 0 = some (j, y.d.av) ∧ writer racc t 0 = some (j, x.d.av) ∧ RelI y x := by
  have hn : (racc.filterMap (·.d.dst)).Nodup := by
    have hr : RelL all racc racc := ⟨rfl, by rw [← h.len]; exact h.le, fun i o y x ho hy hx => by
      rw [hy] at hx; injection hx with hx; subst hx
      have h1 : acc[i]? = some (acc[i]'(by rw [h.len]; exact (List.getElem?_eq_some_iff.1 hy).1)) := List.getElem?_eq_getElem _
      exact ⟨.inl rfl, (h.it i o _ _ ho h1 hy).2⟩⟩
    exact hr.nodup hst
  cases hw : writer acc t 0 with
  | none =>
    left
    refine ⟨rfl, ?_⟩
    cases hw2 : writer racc t 0 with
    | none => rfl
    | some p =>
      exfalso
      obtain ⟨j, av⟩ := p
      obtain ⟨x, _, hx, hd, _⟩ := writer_spec hw2
      rw [Nat.sub_zero] at hx
      have h1 : acc[j]? = some (acc[j]'(by rw [h.len]; exact (List.getElem?_eq_some_iff.1 hx).1)) := List.getElem?_eq_getElem _
      obtain ⟨o, x', _, g2, g3, _⟩ := h.get h1
      rw [hx] at g2; injection g2 with g2; subst g2
      rw [writer_told h hst h1 (by rw [g3.dst]; exact hd)] at hw; cases hw
  | some p =>
    right
    obtain ⟨j, av⟩ := p
    obtain ⟨y, _, hy, hd, hav⟩ := writer_spec hw
    rw [Nat.sub_zero] at hy
    obtain ⟨o, x, _, g2, g3, _⟩ := h.get hy
    have := writer_of (i := 0) hn g2 (t := t) (by rw [← g3.dst]; exact hd)
    rw [Nat.zero_add] at this
    exact ⟨j, y, x, hy, g2, by rw [hav], this, g3⟩
theorem writer_prefix {racc R : List DItem} (h : racc <+: R) {t : Tmp} {i j : Nat} {av : TV} (hw : writer racc t i = some (j, av)) : writer R t i = some (j, av) := by
  obtain ⟨r, rfl⟩ := h
  induction racc generalizing i with
  | nil => simp [writer] at hw
  | cons x l ih =>
    simp only [List.cons_append, writer] at hw ⊢
    split
    case h_1 u hu =>
      rw [hu] at hw
      simp only at hw
      split
      case h_1 hb => rw [hb] at hw; exact hw
      case h_2 hb => rw [hb] at hw; exact ih hw
    case h_2 hu => rw [hu] at hw; exact ih hw
theorem writer_ge {racc R : List DItem} (h : racc <+: R) {t : Tmp} (hw : writer racc t 0 = none) {j : Nat} {av : TV} (hw2 : writer R t 0 = some (j, av)) : racc.length ≤ j := by
  obtain ⟨r, rfl⟩ := h
  have : ∀ (l : List DItem) (i : Nat), writer l t i = none → writer (l ++ r) t i = some (j, av) → i + l.length ≤ j := by
    intro l
    induction l with
    | nil => intro i _ h2; obtain ⟨x, h1, _⟩ := writer_spec h2; simpa using h1
    | cons x l ih =>
      intro i h1 h2
      simp only [List.cons_append, writer] at h1 h2
      split at h1
      case h_1 u hu =>
        rw [hu] at h2
        simp only at h2
        split at h1
        case h_1 => cases h1
        case h_2 hb => rw [hb] at h2; have := ih (i + 1) h1 h2; simp; omega
      case h_2 hu => rw [hu] at h2; have := ih (i + 1) h1 h2; simp; omega
  have := this racc 0 hw hw2
  omega
theorem dEnv_rel (hst : StatOK all (predsAll [] all)) {acc racc R : List DItem} (h : RelL all acc racc) (hp : racc <+: R) {i : Nat} (hi : acc.length = i) (t : Tmp) :
    dEnv acc st (predOf (predsAll [] all) i) t = .any ∨ dEnv acc st (predOf (predsAll [] all) i) t = dEnv R st (predOf (predsAll [] all) i) t := by
  rcases writer_rel hst h (t := t) with ⟨h1, h2⟩ | ⟨j, y, x, _, _, h3, h4, h5⟩
  · right
    simp only [dEnv, h1]
    cases hw : writer R t 0 with
    | none => rfl
    | some p =>
      obtain ⟨j, av⟩ := p
      have := writer_ge hp h2 hw
      have hpf : predOf (predsAll [] all) i j = false := by
        cases hq : predOf (predsAll [] all) i j with
        | false => rfl
        | true => have := hst.predlt hq; rw [← h.len] at *; omega
      simp only [hpf]
  · simp only [dEnv, h3, writer_prefix hp h4]
    cases predOf (predsAll [] all) i j with
    | false => right; rfl
    | true =>
      rcases h5 with h5 | ⟨_, h5, _⟩
      · right; rw [h5]
      · left; rw [h5]
theorem dObj_rel (hst : StatOK all (predsAll [] all)) {acc racc R : List DItem} (h : RelL all acc racc) (hp : racc <+: R) {i : Nat} (hi : acc.length = i) (nm : Nat) :
    dObj acc st (predOf (predsAll [] all) i) nm = dObj R st (predOf (predsAll [] all) i) nm := by
  obtain ⟨r, rfl⟩ := hp
  have h1 : updLast (racc ++ r) nm 0 (predOf (predsAll [] all) i) = updLast racc nm 0 (predOf (predsAll [] all) i) := updLast_app fun k => by
    cases hq : predOf (predsAll [] all) i (0 + racc.length + k) with
    | false => rfl
    | true => have := hst.predlt hq; have := h.len; omega
  have h2 : updLast acc nm 0 (predOf (predsAll [] all) i) = updLast racc nm 0 (predOf (predsAll [] all) i) := updLast_same h.len fun k x y hx hy => by
    obtain ⟨o, x', _, g2, g3, _⟩ := h.get hx
    rw [hy] at g2; injection g2 with g2; subst g2
    rw [g3.ups]
  simp only [dObj, h1, h2]
theorem realOK (hst : StatOK all (predsAll [] all)) (hall : all.all (dstB B.nt) = true) {dl R : List DItem} (hrel : RelL all dl R) (hlen : dl.length = all.length) (hfact : ∀ k, k < all.length → Fact P all (predsAll [] all) st true dl R k)
    (hdraw : drawOK st.nx all (predsAll [] all) dl = true) : RealOK P B all (predsAll [] all) st R := by
  obtain ⟨_, hdb⟩ := drawB_get hdraw
  have hRlen : R.length = all.length := by rw [← hrel.len, hlen]
  have fact : ∀ (i : Nat) (o : Oper) (x : DItem), all[i]? = some o → R[i]? = some x → ∃ y acc racc, dl[i]? = some y ∧ RelI y x ∧ acc.length = i ∧ RelL all acc racc ∧ racc <+: R ∧ GuardA P all (predsAll [] all) st acc R i o x ∧ (InF (predsAll [] all) st acc i o x ∨ y = x) ∧ o.dst = x.d.dst := by
    intro i o x ho hx
    obtain ⟨o', x', y, acc, racc, h1, h2, h3, h4, h5, h6, h7, h8⟩ := hfact i (List.getElem?_eq_some_iff.1 ho).1
    rw [ho] at h1; injection h1 with h1; subst h1
    rw [hx] at h2; injection h2 with h2; subst h2
    have := hrel.it i o y x ho h3 hx
    exact ⟨y, acc, racc, h3, this.1, h4, h5, h6, h7, h8.imp (fun h => h) (·.2), this.2.symm⟩
  have told : ∀ (k : Nat) (y : DItem), R[k]? = some y → ∃ z, dl[k]? = some z ∧ RelI z y := fun k y hy => by
    have hlt := (List.getElem?_eq_some_iff.1 hy).1
    obtain ⟨z, _, _, h1, h2, _⟩ := fact k _ y (List.getElem?_eq_getElem (by omega)) hy
    exact ⟨z, h1, h2⟩
  refine ⟨hRlen, fun i o x ho hx => ?_, fun i x hx p hp k y hy hs => ?_, fun i o t ho ht => ?_, fun i o x ho hx => ?_⟩
  · obtain ⟨_, _, _, _, _, _, _, _, _, _, h⟩ := fact i o x ho hx; exact h
  · have hlt := (List.getElem?_eq_some_iff.1 hx).1
    have ho : all[i]? = some (all[i]'(by omega)) := List.getElem?_eq_getElem _
    obtain ⟨z, g1, g2⟩ := told i x hx
    obtain ⟨z', g3, g4⟩ := told k y hy
    have h1 := (hdb i _ z ho g1).1 p (by rw [g2.ups]; exact hp)
    have := compAll_get h1 g3 (by rw [g4.ups]; exact hs)
    simpa using this
  · exact dstB_lt (List.all_eq_true.1 hall o (List.mem_of_getElem? ho)) t ht
  · obtain ⟨y, acc, racc, h1, h2, h3, h4, h5, h6, h7, h8⟩ := fact i o x ho hx
    have hcheck := hdb i o y ho h1
    rw [Nat.zero_add] at hcheck
    have stp : StpA P (predsAll [] all) st acc i o x → StpR P (predsAll [] all) st R i o x := by
      rintro ⟨k, hk, hstp⟩
      refine ⟨_, _, k, hk, hstp, fun t => ?_, fun nm o' ho' => ?_⟩
      · rcases restE_or (tmpsOf o.op.operands.toList) (dEnv acc st (predOf (predsAll [] all) i)) t with h | ⟨hm, h⟩
        · exact .inl h
        · rw [h]
          rcases dEnv_rel (st := st) hst h4 h5 h3 t with h | h
          · exact .inl h
          · refine .inr ⟨h, fun j av hw => ?_⟩
            rcases writer_rel hst hrel (t := t) with ⟨_, q2⟩ | ⟨j', y', x', _, _, q3, q4, _⟩
            · rw [q2] at hw; cases hw
            · rw [q4] at hw
              simp only [Option.some.injEq, Prod.mk.injEq] at hw
              rw [← hw.1]
              exact readsB_get hcheck.2.1 (List.mem_append.2 (.inl hm)) q3
      · simp only [restr] at ho'
        split at ho'
        case h_2 => cases ho'
        case h_1 hm =>
          have hm := memN_iff.1 hm
          rw [dObj_rel hst h4 h5 h3] at ho'
          refine ⟨ho', fun k' y' hy' hs => ?_⟩
          obtain ⟨z, g3, g4⟩ := told k' y' hy'
          have direct : y = x → CompP (predsAll [] all) i k' := fun hyx => by
            have := compAll_get (hcheck.2.2.1 nm (by rw [hyx]; exact hm)) g3 (by rw [g4.ups]; exact hs)
            simpa using this
          rcases h7 with h7 | h7
          · rcases h2 with h2 | ⟨hh, _, _⟩
            · exact direct h2
            · obtain ⟨hn, hc, hno⟩ := h7.2 nm hm
              rcases Nat.lt_trichotomy k' i with hlt | heq | hgt
              · have hk' : acc[k']? = some (acc[k']'(by omega)) := List.getElem?_eq_getElem _
                obtain ⟨o2, x2, _, e2, e3, _⟩ := h4.get hk'
                obtain ⟨rr, hrr⟩ := h5
                have e4 : R[k']? = some x2 := by rw [← hrr]; exact get_app e2
                rw [hy'] at e4; injection e4 with e4; subst e4
                have := compAll_get hc hk' (by rw [e3.ups]; exact hs)
                simpa using this
              · exact .inr (.inl heq)
              · have hch := (hcheck.2.2.2 hh).resolve_left (by rw [hno]; simp)
                rcases compHid_get hch g3 with h | h
                · simpa using h
                · exfalso
                  obtain ⟨u, hu⟩ := Option.isSome_iff_exists.1 hs
                  obtain ⟨v, hv⟩ := upsGet_mem hu
                  have := h (nm, v) (by rw [g4.ups]; exact hv)
                  simp only at this
                  omega
          · exact direct h7
    unfold GuardA at h6
    unfold OpG
    split
    case h_1 hg => rw [hg] at h6; exact stp h6
    case h_2 g w hg =>
      rw [hg] at h6
      obtain ⟨t, z, q1, q2, q3⟩ := h6
      refine ⟨t, z, q1, q2, q3.imp (fun ⟨s, b, k1, k2, k3⟩ => ⟨s, b, k1, fun h => stp (k2 h), k3⟩) fun h => h⟩
end
section
variable {P : Program} {cx : Cx}
theorem regOK (hG : TabOK P cx.G) (hcall : CallsOK P cx) {B : Base} (hH : ∀ i sh, look cx.H i = some sh → sh.n0 = B.n0) : RegOK P B cx := by
  intro id i ops d st R K r hall h
  have hops : ops = ops.toList.toArray := by simp
  unfold evR at h
  split at h
  case h_1 => cases h
  case h_2 =>
    split at h
    case h_1 =>
      intro m L a w hr
      rw [hops]
      refine wp_region_lit ?_
      have := evS_sound hG hcall hH hall _ R ops.toList none [] none st K r hall trivial h [] (Qc B fun e st' => e = .normal ∧ K st' = some r) m L a w hr fun st' m' L' a' w' ⟨q, _⟩ hr' => wpList_nil ⟨st', m', L', ⟨rfl, q⟩, hr'⟩
      rw [List.append_nil] at this
      exact this
    case h_2 =>
      split at h
      case h_1 => cases h
      case h_2 hchk =>
        have hst := statOK_of hchk
        have hnil : RelL ops.toList [] [] := ⟨rfl, Nat.zero_le _, fun i o y x _ hy => by simp at hy⟩
        obtain ⟨tE, rE, g1, g2, g3, g4⟩ := evD_sound (st := st) hG hcall hst _ R ops.toList none [] [] _ r hnil (fun k o hk => by simpa using hk) trivial h
        simp only [List.nil_append] at g1 g3 g4
        split at g1
        case h_2 => cases g1
        case h_1 hdraw =>
          intro m L a w hr
          rw [hops]
          have hR := realOK (B := B) (st := st) hst hall g3 (by rw [g2]) (fun k hk => by have := g4 k hk; simpa using this) hdraw
          refine draw_wp hG.mixed hst hR hr fun m' L' a' w' hr' => ⟨_, m', L', ⟨rfl, g1⟩, ?_⟩
          have hlen : tE.length = rE.length := g3.len
          show Rep B (fun x => st.nx + 8 * tE.length ≤ x) _ m' L' a' w'
          rw [hlen]
          refine Rep.sub (st := dSt rE st fun _ => true) hr' (fun nm o ho => ?_) fun t => ?_
          · have : dObj tE st (fun _ => true) nm = dObj rE st (fun _ => true) nm := by
              have h2 : updLast tE nm 0 (fun _ => true) = updLast rE nm 0 (fun _ => true) := updLast_same g3.len fun k x y hx hy => by
                obtain ⟨o, x', _, k2, k3, _⟩ := g3.get hx
                rw [hy] at k2; injection k2 with k2; subst k2
                rw [k3.ups]
              simp only [dObj, h2]
            show dObj rE st (fun _ => true) nm = some o
            rw [← this]; exact ho
          · show dEnv tE st (fun _ => true) t = .any ∨ dEnv tE st (fun _ => true) t = dEnv rE st (fun _ => true) t
            rcases writer_rel hst g3 (t := t) with ⟨q1, q2⟩ | ⟨j, y, x, _, _, q3, q4, q5⟩
            · right; simp only [dEnv, q1, q2]
            · simp only [dEnv, q3, q4]
              rcases q5 with q5 | ⟨_, q5, _⟩
              · right; rw [q5]
              · left; rw [q5]
theorem evF_ok (hG : TabOK P cx.G) (hT : ∀ E, E ∈ cx.T → (EntOK P E ∧ Own P E.k) ∨ ExtOK P E) {k : FuncId} {fn : Func} {ish : CSh} {osh : RSh} {x : TupT ish.tys} {r : TupT osh.tys} (hf : P.funcs[k]? = some fn) (hb : fn.body.isSome = true) (h : evF cx fn ish osh x = some r) : CallOK P k ish osh x r := by
  have h0 := h
  unfold evF at h
  split at h
  case h_2 => cases h
  case h_1 c hc hH =>
    simp only [Bool.and_eq_true] at hH
    exact evF_sound hG hf hb (fun B hB => regOK hG (calls_sound hT) fun i sh hl => by
      rw [hB]; exact Nat.eq_of_beq_eq_true (List.all_eq_true.1 hH.1.1 _ (look_mem hl))) h0
end
end Go.Tv
namespace Go.Tv
open Go Go.RowKit Go.ChangeShapes Go.WideShapes
def openF (f : TypeId → Ty → Bool) : List Field → Ty → Nat → Bool
  | [x], t, off => Nat.beq x.offset off && f x.type t
  | x :: y :: l, .pair a b, off => Nat.beq x.offset off && f x.type a && openF f (y :: l) b (off + a.size)
  | _, _, _ => false
def openB (P : Program) : Nat → TypeId → Ty → Bool
  | 0, _, _ => false
  | d + 1, t, ty => Nat.beq (P.cellsOf t) ty.size && Nat.blt 0 ty.size && match ty, P.underlying t with
    | .int k, some (.int k') => decide (k = k')
    | .bool, some .bool => true
    | .str, some .string => true
    | .arr n e, some (.array n' el) => Nat.beq n n' && openB P d el e
    | .sl e, some (.slice el) => openB P d el e
    | .pair a b, some (.struct fs) => openF (openB P d) fs.toList (.pair a b) 0
    | _, _ => false
structure Free (c : Ctx) (w : World) : Prop where
  w : c.w = w
  X : ∀ b, ¬ c.X b
  Y : ∀ b, ¬ c.Y b
theorem choose_list {α : Type} {p : Nat → α → Prop} : ∀ n, (∀ i, i < n → ∃ y, p i y) → ∃ l : List α, l.length = n ∧ ∀ (i : Nat) (y : α), l[i]? = some y → p i y
  | 0, _ => ⟨[], rfl, fun i y h => by simp at h⟩
  | n + 1, h => by
    obtain ⟨l, h1, h2⟩ := choose_list n fun i hi => h i (by omega)
    obtain ⟨y, hy⟩ := h n (by omega)
    refine ⟨l ++ [y], by simp [h1], fun i z hz => ?_⟩
    by_cases hi : i < l.length
    · rw [List.getElem?_append_left hi] at hz; exact h2 i z hz
    · rw [List.getElem?_append_right (by omega)] at hz
      have : i - l.length = 0 := by
        have := (List.getElem?_eq_some_iff.1 hz).1
        simp at this; omega
      rw [this] at hz
      simp only [List.getElem?_cons_zero, Option.some.injEq] at hz
      subst hz
      have : i = n := by omega
      rw [this]; exact hy
theorem rowsS_of {α : Type} {f : α → List Value → Prop} {k : Nat} : ∀ {l : List α} {vs : List Value}, vs.length = l.length * k → (∀ (i : Nat) (y : α), l[i]? = some y → f y ((vs.drop (i * k)).take k)) → rowsS f l vs
  | [], vs, hl, _ => by
    simp only [List.length_nil, Nat.zero_mul] at hl
    simp only [rowsS]; exact List.eq_nil_of_length_eq_zero hl
  | x :: l, vs, hl, h => by
    simp only [rowsS]
    rw [List.length_cons, Nat.succ_mul] at hl
    refine ⟨vs.take k, vs.drop k, (List.take_append_drop _ _).symm, ?_, rowsS_of (k := k) (by rw [List.length_drop]; omega) fun i y hy => ?_⟩
    · have := h 0 x (by simp)
      simpa using this
    · have := h (i + 1) y (by simpa using hy)
      rw [List.drop_drop, show k + i * k = (i + 1) * k by rw [Nat.succ_mul]; omega]; exact this
section
variable {P : Program} {H : Type} {enc : TypeId × Value → H}
theorem openF_sound {f : TypeId → Ty → Bool} {w : World} {base : Nat} {spare : Nat → Bool} {held : Bool} {fuel : Nat}
    (hf : ∀ t ty, f t ty = true → P.cellsOf t = ty.size ∧ ∀ {cs : List Value} {x : DataW H × List MemPlace}, DataW.trod enc P w base spare held fuel t cs = some x → ∃ y : ty.den, ty.ok y ∧ ∀ c, Free c w → VS c true ty y cs) :
    ∀ {fs : List Field} {ty : Ty} {off : Nat} {cs : List Value}, openF f fs ty off = true → cs.length = off + ty.size → (∀ g ∈ fs, ∃ x, DataW.trod enc P w base spare held fuel g.type ((cs.drop g.offset).take (P.cellsOf g.type)) = some x) →
      ∃ y : ty.den, ty.ok y ∧ ∀ c, Free c w → VS c true ty y (cs.drop off)
  | [], ty, off, cs, h, _, _ => by simp [openF] at h
  | [g], ty, off, cs, h, hl, ht => by
    simp only [openF, Bool.and_eq_true] at h
    obtain ⟨h1, h2⟩ := hf g.type ty h.2
    obtain ⟨x, hx⟩ := ht g (by simp)
    rw [Nat.eq_of_beq_eq_true h.1, h1, List.take_of_length_le (by rw [List.length_drop]; omega)] at hx
    exact h2 hx
  | g :: g2 :: l, .pair a b, off, cs, h, hl, ht => by
    simp only [openF, Bool.and_eq_true] at h
    obtain ⟨h1, h2⟩ := hf g.type a h.1.2
    obtain ⟨x, hx⟩ := ht g (by simp)
    rw [Nat.eq_of_beq_eq_true h.1.1, h1] at hx
    obtain ⟨y, k1, k2⟩ := h2 hx
    simp only [Ty.size] at hl
    obtain ⟨z, k3, k4⟩ := openF_sound hf (fs := g2 :: l) (ty := b) (off := off + a.size) h.2 (by omega) fun g' hg' => ht g' (by simp [List.mem_cons.1 hg'])
    refine ⟨(y, z), ⟨k1, k3⟩, fun c hc => ?_⟩
    simp only [VS]
    refine ⟨_, _, ?_, k2 c hc, k4 c hc⟩
    rw [← List.drop_drop, List.take_append_drop]
  | g :: g2 :: l, .int _, off, cs, h, _, _ => by simp [openF] at h
  | g :: g2 :: l, .bool, off, cs, h, _, _ => by simp [openF] at h
  | g :: g2 :: l, .str, off, cs, h, _, _ => by simp [openF] at h
  | g :: g2 :: l, .arr _ _, off, cs, h, _, _ => by simp [openF] at h
  | g :: g2 :: l, .sl _, off, cs, h, _, _ => by simp [openF] at h
theorem open_ty {w : World} {base : Nat} {spare : Nat → Bool} {held : Bool} : ∀ (d : Nat) (t : TypeId) (ty : Ty), openB P d t ty = true → P.cellsOf t = ty.size ∧ ∀ (fuel : Nat) {cs : List Value} {x : DataW H × List MemPlace}, DataW.trod enc P w base spare held fuel t cs = some x →
    ∃ y : ty.den, ty.ok y ∧ ∀ c, Free c w → VS c true ty y cs := by
  intro d
  induction d with
  | zero => intro t ty h; cases h
  | succ d ih =>
    intro t ty h
    simp only [openB, Bool.and_eq_true] at h
    obtain ⟨⟨hc0, hpos⟩, h⟩ := h
    have hc := Nat.eq_of_beq_eq_true hc0
    clear hc0 hpos
    refine ⟨hc, fun fuel {cs x} htr => ?_⟩
    split at h
    case h_1 k k' hu =>
      have h := of_decide_eq_true h; subst h
      obtain ⟨n, rfl, _, hw⟩ := DataW.trod_int hu htr
      exact ⟨n, hw, fun c _ => by simp only [VS]⟩
    case h_2 hu =>
      obtain ⟨b, rfl, _⟩ := DataW.trod_bool hu htr
      exact ⟨b, trivial, fun c _ => by simp only [VS]⟩
    case h_3 hu =>
      obtain ⟨s, rfl, _, hs⟩ := DataW.trod_string hu htr
      exact ⟨s, hs, fun c _ => by simp only [VS]⟩
    case h_4 n e n' el hu =>
      rw [Bool.and_eq_true] at h
      have hn := Nat.eq_of_beq_eq_true h.1; subst hn
      obtain ⟨hce, hop⟩ := ih el e h.2
      obtain ⟨xs, m, _, _, hl, hx, hall⟩ := DataW.trod_array hu htr
      obtain ⟨l, hll, hp⟩ := choose_list (p := fun i (y : e.den) => e.ok y ∧ ∀ c, Free c w → VS c true e y ((cs.drop (i * e.size)).take e.size)) n fun i hi => by
        have h1 := hall i hi
        rw [List.getElem?_eq_getElem (by omega), hce] at h1
        exact hop m h1
      have hels : Arr.els n (Arr.of e.zero n l) = l := by rw [Arr.of_els _ _ (by omega), List.take_of_length_le (by omega)]
      refine ⟨Arr.of e.zero n l, ?_, fun c hc' => ?_⟩
      · simp only [Ty.ok]
        rw [hels]
        intro y hy
        obtain ⟨i, hi⟩ := List.getElem?_of_mem hy
        exact (hp i y hi).1
      · simp only [VS]
        rw [hels]
        refine rowsS_of (k := e.size) (by rw [hl, hc, hll]; rfl) fun i y hy => (hp i y hy).2 c hc'
    case h_5 e el hu =>
      obtain ⟨hce, hop⟩ := ih el e h
      have hpe : 0 < e.size := by
        cases d with
        | zero => cases h
        | succ d => simp only [openB, Bool.and_eq_true] at h; exact Nat.le_of_ble_eq_true h.1.2
      rcases DataW.trod_slice hu htr with ⟨hcs, _⟩ | ⟨a, len', cap', elems, rest, n, _, hcs, _, hb, hlc, hcm, hel, hall, _, _⟩
      · refine ⟨([] : List e.den), ⟨Nat.zero_le _, fun y hy => by cases hy⟩, fun c _ => ?_⟩
        simp only [VS]
        exact ⟨none, 0, hcs, Nat.le_refl _, Nat.zero_le _, .inl rfl⟩
      · -- each element's cells
        obtain ⟨l, hll, hp⟩ := choose_list (p := fun i (p : e.den × List Value) => e.ok p.1 ∧ (∀ c, Free c w → VS c true e p.1 p.2) ∧ p.2.length = e.size ∧ ∀ q v, p.2[q]? = some v → w.cell? (a.add (i * e.size + q)) = some v) len' fun i hi => by
          have h1 := hall i hi
          rw [List.getElem?_eq_getElem (by omega), hce] at h1
          obtain ⟨us, hus, htr'⟩ := Option.bind_eq_some_iff.1 h1
          obtain ⟨y, hy1, hy2⟩ := hop n htr'
          have hlen : us.length = e.size := VS_len (hy2 ⟨w, fun _ => False, fun _ => False, fun _ => none, fun _ => none⟩ ⟨rfl, fun _ h => h, fun _ h => h⟩)
          refine ⟨(y, us), hy1, hy2, hlen, fun q v hv => ?_⟩
          unfold World.cells? at hus
          split at hus
          case isFalse => cases hus
          case isTrue =>
            have hqk : q < e.size := by rw [← hlen]; exact (List.getElem?_eq_some_iff.1 hv).1
            have := mapM_some_get hus q q (by simp [hqk])
            have hv : us[q]? = some v := hv
            rw [← hv, ← this]
            congr 1
            by_cases g1 : i * e.size = 0 <;> by_cases g2 : q = 0 <;> simp [Addr.add, g1, g2, Nat.add_assoc]
        refine ⟨(l.map Prod.fst : List e.den), ⟨by rw [List.length_map]; omega, fun y hy => ?_⟩, fun c hcf => ?_⟩
        · obtain ⟨p, hpm, rfl⟩ := List.mem_map.1 hy
          obtain ⟨i, hi⟩ := List.getElem?_of_mem hpm
          exact (hp i p hi).1
        · simp only [VS]
          have hlm : List.length (l.map Prod.fst : List e.den) = len' := by rw [List.length_map, hll]
          refine ⟨some a, cap', by rw [hlm]; exact hcs, by rw [hlm]; exact hlc, by rw [hlm]; omega, ?_⟩
          by_cases h0 : len' = 0
          · left
            have : l = [] := List.eq_nil_of_length_eq_zero (by omega)
            subst this; rfl
          · right
            obtain ⟨p0, hp0⟩ : ∃ p0, l[0]? = some p0 := ⟨l[0]'(by omega), List.getElem?_eq_getElem _⟩
            obtain ⟨_, _, hlen0, hcell0⟩ := hp 0 p0 hp0
            obtain ⟨v0, hv0⟩ : ∃ v0, p0.2[0]? = some v0 := ⟨p0.2[0]'(by omega), List.getElem?_eq_getElem _⟩
            have hz := hcell0 0 v0 hv0
            have hspot : a.spot = none := by simpa [Addr.add] using World.cell?_spot hz
            obtain ⟨b, off, spot⟩ := a
            simp only at hspot; subst hspot
            have hbl : b < w.heap.size := by simpa [Addr.add] using World.block_lt_of_cell? w _ hz
            have hflat : (l.flatMap Prod.snd).length = l.length * e.size := by
              have : ∀ (r : List (e.den × List Value)), (∀ p ∈ r, p.2.length = e.size) → (r.flatMap Prod.snd).length = r.length * e.size := by
                intro r
                induction r with
                | nil => intro _; simp
                | cons p r ihr =>
                  intro hr
                  rw [List.flatMap_cons, List.length_append, hr p (by simp), ihr fun q hq => hr q (by simp [hq]), List.length_cons, Nat.succ_mul]; omega
              exact this l fun p hpm => by
                obtain ⟨i, hi⟩ := List.getElem?_of_mem hpm
                exact (hp i p hi).2.2.1
            have hrow : ∀ (r : List (e.den × List Value)) (s : Nat), (∀ (i : Nat) (p : e.den × List Value), r[i]? = some p → (∀ c, Free c w → VS c true e p.1 p.2) ∧ p.2.length = e.size ∧ ∀ q v, p.2[q]? = some v → w.cell? ⟨b, off + ((s + i) * e.size + q), none⟩ = some v) →
                rowsS (VS c true e) (r.map Prod.fst) (r.flatMap Prod.snd) ∧ Mem w b (off + s * e.size) (r.flatMap Prod.snd) := by
              intro r
              induction r with
              | nil => intro s _; exact ⟨by simp [rowsS], fun q v h => by simp at h⟩
              | cons p r ihr =>
                intro s hr
                obtain ⟨g1, g2, g3⟩ := hr 0 p (by simp)
                obtain ⟨k1, k2⟩ := ihr (s + 1) fun i q hq => by
                  have := hr (i + 1) q (by simpa using hq)
                  rwa [show s + (i + 1) = s + 1 + i by omega] at this
                refine ⟨?_, fun q v hv => ?_⟩
                · simp only [List.map_cons, List.flatMap_cons, rowsS]
                  exact ⟨_, _, rfl, g1 c hcf, k1⟩
                · rw [List.flatMap_cons] at hv
                  rcases Nat.lt_or_ge q p.2.length with hlt | hge
                  · rw [List.getElem?_append_left hlt] at hv
                    have := g3 q v hv
                    rwa [Nat.add_zero, ← Nat.add_assoc] at this
                  · rw [List.getElem?_append_right hge] at hv
                    have := k2 (q - p.2.length) v hv
                    rwa [show off + (s + 1) * e.size + (q - p.2.length) = off + s * e.size + q by rw [Nat.succ_mul]; omega] at this
            obtain ⟨k1, k2⟩ := hrow l 0 fun i p hi => by
              obtain ⟨_, g1, g2, g3⟩ := hp i p hi
              refine ⟨g1, g2, fun q v hv => ?_⟩
              have := g3 q v hv
              rw [Nat.zero_add]
              rw [add_plain] at this
              exact this
            refine ⟨b, off, l.flatMap Prod.snd, rfl, ⟨by rw [hcf.w]; exact hbl, hcf.X b, fun _ => hcf.Y b⟩, k1, ?_⟩
            rw [hcf.w]
            simpa using k2
    case h_6 a b fs hu =>
      obtain ⟨xs, m, _, _, hl, hx, hall⟩ := DataW.trod_struct hu htr
      obtain ⟨y, h1, h2⟩ := openF_sound (P := P) (enc := enc) (f := openB P d) (w := w) (base := base) (spare := spare) (held := held) (fuel := m) (fun t' ty' h' => by
        obtain ⟨g1, g2⟩ := ih t' ty' h'
        exact ⟨g1, fun {_ _} ht => g2 m ht⟩) (fs := fs.toList) (ty := .pair a b) (off := 0) (cs := cs) h (by rw [hl, hc]; omega) (fun f hf => by
        obtain ⟨i, hi⟩ := List.getElem?_of_mem hf
        have hlt := (List.getElem?_eq_some_iff.1 hi).1
        have := hall i f (by simpa using hi)
        rw [List.getElem?_eq_getElem (by rw [hx]; simpa using hlt)] at this
        exact ⟨_, this⟩)
      exact ⟨y, h1, fun c hcf => by have := h2 c hcf; rwa [List.drop_zero] at this⟩
    case h_7 => cases h
end
end Go.Tv
namespace Go.Tv
open Go Go.RowKit Go.ChangeShapes Go.WideShapes
set_option linter.unusedSectionVars false
variable [Inv]
section
variable {P : Program} {H : Type} {enc : TypeId × Value → H}
theorem oneCell_cells {v : Value} (h : v.oneCell' = true) : v.cells.toList = [v] := by
  cases v <;> first | rfl | simp [Value.oneCell'] at h
theorem open_arg {w : World} {base b0 : Nat} {spare : Nat → Bool} {held : Bool} {t : TypeId} {v : Value} {d : DataW H} {ps : List MemPlace} (D : Nat) (ty : Ty) (ho : openB P D t ty = true) (hval : Value.okWide P w .any b0 t v) (hd : DataW.Trod enc P w base spare held t v d ps) :
    ∃ y : ty.den, ty.ok y ∧ ∀ c, Free c w → ∀ s, sat c (.val s ty y) v := by
  obtain ⟨fuel, hf⟩ := hd
  obtain ⟨hc, hop⟩ := open_ty (enc := enc) (w := w) (base := base) (spare := spare) (held := held) D t ty ho
  have agg : ∀ cs, v = .agg cs → ty.agg = true → ∃ y : ty.den, ty.ok y ∧ ∀ c, Free c w → ∀ s, sat c (.val s ty y) v := by
    rintro cs rfl ha
    obtain ⟨y, h1, h2⟩ := hop fuel hf
    refine ⟨y, h1, fun c hcf s => ?_⟩
    simp only [sat, isTup, satV, aggT, ha]
    exact ⟨cs.toList, by simp, by simp only [satC]; exact VS_weak (fun _ => rfl) (h2 c hcf)⟩
  have one : v.oneCell' = true → ty.agg = false → ∃ y : ty.den, ty.ok y ∧ ∀ c, Free c w → ∀ s, sat c (.val s ty y) v := by
    intro hv ha
    rw [oneCell_cells hv] at hf
    obtain ⟨y, h1, h2⟩ := hop fuel hf
    refine ⟨y, h1, fun c hcf s => ?_⟩
    simp only [sat, isTup, satV, aggT, ha]
    simp only [satC]; exact VS_weak (fun _ => rfl) (h2 c hcf)
  cases D with
  | zero => cases ho
  | succ D =>
  simp only [openB, Bool.and_eq_true] at ho
  replace ho := ho.2
  clear hop
  split at ho
  case h_1 k k' hu => obtain ⟨n, rfl⟩ := okWide_int hu hval; exact one rfl rfl
  case h_2 hu => obtain ⟨n, rfl⟩ := okWide_bool hu hval; exact one rfl rfl
  case h_3 hu => obtain ⟨n, rfl⟩ := okWide_string hu hval; exact one rfl rfl
  case h_4 n e n' el hu =>
    simp only [Value.okWide, hu] at hval
    obtain ⟨cs, hv, _⟩ := hval
    exact agg cs hv rfl
  case h_5 e el hu => obtain ⟨a, l, c, rfl⟩ := okWide_slice hu hval; exact one rfl rfl
  case h_6 a b fs hu =>
    simp only [Value.okWide, hu] at hval
    obtain ⟨cs, hv, _⟩ := hval
    exact agg cs hv rfl
  case h_7 => cases ho
theorem trodAll_len {w : World} {base : Nat} {spare : Nat → Bool} {held : Bool} : ∀ {ts : List TypeId} {vs : List Value} {ds : List (DataW H)} {ps : List MemPlace}, DataW.TrodAll enc P w base spare held ts vs ds ps → ts.length = vs.length ∧ ts.length = ds.length
  | [], [], [], _, _ => ⟨rfl, rfl⟩
  | t :: ts, v :: vs, d :: ds, ps, h => by
    obtain ⟨p, q, _, h, _⟩ := h
    obtain ⟨h1, h2⟩ := trodAll_len h
    exact ⟨by simp [h1], by simp [h2]⟩
  | [], _ :: _, _, _, h => h.elim
  | [], [], _ :: _, _, h => h.elim
  | _ :: _, [], _, _, h => h.elim
  | _ :: _, _ :: _, [], _, h => h.elim
theorem trodAll_below (hl : laidOutB P = true) {W W' : World} (hb : Below W.heap.size W W') : ∀ {ts : List TypeId} {vs : List Value} {ds : List (DataW H)} {ps : List MemPlace}, (∀ t ∈ ts, P.readableRec t = true ∧ t < P.types.size) → (∀ x ∈ ps, x.block < W.heap.size) →
    DataW.TrodAll enc P W 0 (fun _ => true) true ts vs ds ps → DataW.TrodAll enc P W' 0 (fun b => decide (b < W.heap.size)) true ts vs ds ps
  | [], [], [], ps, _, _, h => h
  | t :: ts, v :: vs, d :: ds, ps, ht, hp, h => by
    obtain ⟨p, q, h1, h2, rfl⟩ := h
    obtain ⟨r1, r2⟩ := ht t (by simp)
    exact ⟨p, q, Below.trod hl r1 r2 h1 hb (fun x hx => hp x (by simp [hx])), trodAll_below hl hb (fun t ht' => ht t (by simp [ht'])) (fun x hx => hp x (by simp [hx])) h2, rfl⟩
  | [], _ :: _, _, _, _, _, h => h.elim
  | [], [], _ :: _, _, _, _, h => h.elim
  | _ :: _, [], _, _, _, _, h => h.elim
  | _ :: _, _ :: _, [], _, _, _, h => h.elim
theorem law_post (hl : laidOutB P = true) {f : Func} {s : ChangeSpec} {tb : TypeId} (hvars : s.vars = []) (hs : ∀ ds : List (DataW H), ds.length = f.params.size → s.fn H ds = { results := [.lit (.bool true)], args := ds }) (hres : f.resultTypes = #[tb]) (htb : P.underlying tb = some .bool)
    (hr : (f.params.toList.all fun t => P.readableRec t && Nat.blt t P.types.size) = true) {W W' : World} {args : Array Value} {ds gs : List (DataW H)} {before : List MemPlace} (hW : DataW.Whole enc P f.params.toList s.vars false W args.toList ds gs before) (hb : Below W.heap.size W W') :
    s.post enc P f false true false false W args (.bool true) W' := by
  have hW' := hW
  obtain ⟨p, q, hA, hV, rfl, hfz, hnd⟩ := hW
  rw [hvars] at hV
  obtain ⟨rfl, rfl⟩ := trodVars_none hV
  have hlen := trodAll_len hA
  have hfn : s.fn H (ds ++ []) = { results := [.lit (.bool true)], args := ds } := by rw [List.append_nil]; exact hs ds (by rw [← hlen.2]; simp)
  refine ⟨ds, [], p ++ [], [], p, [], hW', ?_, ?_, ?_, hb.frame _, fun h => by cases h⟩
  · rw [hfn, hres]
    exact trodAll_cons_mk (shut_bool htb _) trodAll_mk0
  · rw [hfn]
    refine trodAll_below hl hb (fun t ht => ?_) (fun x hx => hW'.lt x (by simpa using hx)) hA
    have := List.all_eq_true.1 hr t ht
    rw [Bool.and_eq_true] at this
    exact ⟨this.1, Nat.le_of_ble_eq_true this.2⟩
  · rw [hvars, hfn]; rfl
theorem law_call {k : FuncId} {ish : CSh} {osh : RSh} {x : TupT ish.tys} {r : TupT osh.tys} (hc : CallOK P k ish osh x r) {W : World} {vals : List Value} (hi : ish.objs = []) (ho : osh.objs = []) (hlen : vals.length = ish.args.length)
    (hargs : ∀ c, Free c W → ∀ i, i < vals.length → sat c ((ish.dec x).env i) (vals.getD i undef)) (hinv : Inv.holds W ∧ ∀ b, Inv.blk b → b < W.heap.size) {s : Bool} (hr : (osh.decR r).1 = .val s .bool true) :
    Calls P k vals.toArray W fun e W' => e = .returned (.bool true) ∧ Below W.heap.size W W' := by
  have hobjs : (ish.dec x).objs = fun _ => none := by
    unfold CSh.dec
    have : ∀ d, decOs id true ish.objs d = [] := fun d => by rw [hi]; rfl
    simp only [this]
    funext n; cases n <;> rfl
  have hX : callX (ish.dec x).objs (fun _ => none) = fun _ => False := by funext b; simp [callX]
  have hin : CallIn W (fun _ => False) (fun _ => none) (fun _ => none) (ish.dec x).objs ish.objs.length := by
    rw [hobjs]
    exact ⟨fun p o h => (by cases h), fun p q o o' b h => (by cases h), fun _ _ => ⟨rfl, rfl, rfl⟩, fun _ _ h => (by cases h), fun _ _ _ h => (by cases h), fun _ h => h.elim, hinv.1, fun b hb => ⟨hinv.2 b hb, fun ⟨p, o, h, _⟩ => (by cases h)⟩⟩
  have := hc W (fun _ => False) (fun _ => none) (fun _ => none) vals hin hlen fun i hi' => hargs _ ⟨rfl, fun b => by rw [hX]; exact fun h => h, fun b h => h⟩ i hi'
  refine this.mono fun e W' ⟨y, m', L', he, hout, hy⟩ => ?_
  rw [hr] at hy
  rw [sat_bool.1 hy] at he
  refine ⟨he, ?_⟩
  have hev := hout.ev
  rw [hX] at hev
  exact ⟨hev.os, hev.tape, hev.output, hev.size, fun b hb => hev.block b hb (fun h => h)⟩
def AllOK (P : Program) : List Ent → Prop
  | [] => True
  | E :: l => ((EntOK P E ∧ Own P E.k) ∨ ExtOK P E) ∧ AllOK P l
theorem AllOK.nil : AllOK P [] := trivial
theorem AllOK.cons {E : Ent} {l : List Ent} (h : EntOK P E ∧ Own P E.k) (t : AllOK P l) : AllOK P (E :: l) := ⟨.inl h, t⟩
theorem AllOK.consX {E : Ent} {l : List Ent} (h : ExtOK P E) (t : AllOK P l) : AllOK P (E :: l) := ⟨.inr h, t⟩
theorem AllOK.get : ∀ {l : List Ent}, AllOK P l → ∀ E, E ∈ l → (EntOK P E ∧ Own P E.k) ∨ ExtOK P E
  | E :: l, h, E', hE => by
    rcases List.mem_cons.1 hE with rfl | hE
    · exact h.1
    · exact AllOK.get h.2 E' hE
theorem ent_ok {G : Tab} {T : List Ent} {n : Nat} {Hs : List (Nat × Sh)} (hG : TabOK P G) (hT : AllOK P T) {k : FuncId} {fn : Func} (hf : P.funcs[k]? = some fn) (hb : fn.body.isSome = true) (hn : (fn.name == "runtime.NumGoroutine") = false)
    {ish : CSh} {osh : RSh} {F : TupT ish.tys → Opt (TupT osh.tys)} (h : ∀ x, evF ⟨G, T, n, Hs⟩ fn ish osh x = F x) : EntOK P ⟨k, ish, osh, F⟩ ∧ Own P k :=
  ⟨fun x r hx => evF_ok (cx := ⟨G, T, n, Hs⟩) hG hT.get hf hb ((h x).trans hx), ⟨fn, hf, hb, hn⟩⟩
theorem ext_indexByte {k : FuncId} {fn : Func} (hf : P.funcs[k]? = some fn) (hname : (fn.name == "runtime.NumGoroutine") = false) (hb : fn.body.isNone = true) (hn : Extern.findNext fn = none) (he : Extern.find fn = some Extern.BytealgIndexByte.indexByte)
    (F : TupT (CSh.tys ⟨[.data true .str, .data true (.int .u8)], []⟩) → Opt (TupT (RSh.tys ⟨.data true (.int .i64), []⟩))) (hF : ∀ x, F x = some (Lib.indexByte (ByteArray.data x.1).toList (Int.toNat x.2).toUInt8)) :
    ExtOK P ⟨k, ⟨[.data true .str, .data true (.int .u8)], []⟩, ⟨.data true (.int .i64), []⟩, F⟩ := by
  refine ⟨rfl, rfl, fun x r hx c vals hlen hs => ?_⟩
  have hx : F x = some r := hx
  rw [hF] at hx
  injection hx with hx
  have hlen : vals.length = 2 := hlen
  match vals, hlen with
  | [v0, v1], _ =>
    have h0 := hs 0 (by simp)
    have h1 := hs 1 (by simp)
    have h0 : sat c (.val true .str x.1) v0 := h0
    have h1 : sat c (.val true (.int .u8) x.2) v1 := h1
    have e0 : v0 = .string x.1 := by simpa [sat, isTup, satV, aggT, Ty.agg, satC, VS] using h0
    have e1 : v1 = .int .u8 x.2 := by simpa [sat, isTup, satV, aggT, Ty.agg, satC, VS] using h1
    refine ⟨.int .i64 r, fun c' => ?_, fun w => ?_⟩
    · show sat c' (.val true (.int .i64) r) (.int .i64 r)
      simp [sat, isTup, satV, aggT, Ty.agg, satC, VS]
    · rw [run_callFunc_extern hf hname hb hn he, e0, e1]
      have := Lib.run_indexByteString (P := P) x.1 x.2 w
      rw [show ([Value.string x.1, .int .u8 x.2] : List Value).toArray = #[.string x.1, .int .u8 x.2] from rfl, this, ← hx]
      rfl
theorem ent_rec {G : Tab} {T : List Ent} {n : Nat} {Hs : List (Nat × Sh)} (hG : TabOK P G) (hT : AllOK P T) {k : FuncId} {fn : Func} (hf : P.funcs[k]? = some fn) (hb : fn.body.isSome = true) (hn : (fn.name == "runtime.NumGoroutine") = false)
    {ish : CSh} {osh : RSh} {R : (TupT ish.tys → Opt (TupT osh.tys)) → TupT ish.tys → Opt (TupT osh.tys)} (h : ∀ go x, evF ⟨G, ⟨k, ish, osh, go⟩ :: T, n, Hs⟩ fn ish osh x = R go x) (j : Nat) : EntOK P ⟨k, ish, osh, fx R j⟩ ∧ Own P k := by
  have own : Own P k := ⟨fn, hf, hb, hn⟩
  refine ⟨?_, own⟩
  induction j with
  | zero => intro x r hx; cases hx
  | succ j ih => exact (ent_ok hG (T := ⟨k, ish, osh, fx R j⟩ :: T) ⟨.inl ⟨ih, own⟩, hT⟩ hf hb hn (h (fx R j))).1
end
end Go.Tv
namespace Go.Tv
open Go Go.RowKit
set_option linter.unusedSectionVars false
abbrev Inv.none : Inv := ⟨fun _ => False, fun _ => True, fun _ _ _ _ => trivial⟩
abbrev Inv.tab (P : Program) (name : String) (cs : Array Value) : Inv where
  blk b := P.globalNamed name = some b
  holds w := w.var? P name = some cs
  keep w w' h k := by
    unfold World.var? at h ⊢
    cases hg : P.globalNamed name with
    | none => rw [hg] at h; cases h
    | some g =>
      rw [hg] at h
      simp only [Option.bind_some] at h ⊢
      have hlt : g < w.heap.size := by
        cases hh : w.heap[g]? with
        | none => rw [hh] at h; cases h
        | some o => exact (Array.getElem?_eq_some_iff.1 hh).1
      rw [k g hg hlt]; exact h
theorem Inv.tab_start {P : Program} {name : String} {cs : Array Value} {w : World} (h : w.var? P name = some cs) :
    (Inv.tab P name cs).holds w ∧ ∀ b, (Inv.tab P name cs).blk b → b < w.heap.size := by
  refine ⟨h, fun b hb => ?_⟩
  have hb : P.globalNamed name = some b := hb
  unfold World.var? at h
  rw [hb] at h
  simp only [Option.bind_some] at h
  cases hh : w.heap[b]? with
  | none => rw [hh] at h; cases h
  | some o => exact (Array.getElem?_eq_some_iff.1 hh).1
section
variable {P : Program} [Inv]
theorem ent_plain {k : FuncId} (own : Own P k) {ish : CSh} {osh : RSh} (hi : ish.objs = []) (ho : osh.objs = []) {F : TupT ish.tys → Opt (TupT osh.tys)}
    (h : ∀ x r, F x = some r → ∀ (c : Ctx) (vals : List Value), vals.length = ish.args.length → (∀ i, i < vals.length → sat c ((ish.dec x).env i) (vals.getD i undef)) → Inv.holds c.w →
      Calls P k vals.toArray c.w fun e w' => ∃ y, e = .returned y ∧ (∀ c', sat c' (osh.decR r).1 y) ∧ Below c.w.heap.size c.w w') : EntOK P ⟨k, ish, osh, F⟩ ∧ Own P k := by
  refine ⟨fun x r hx w Y m L vals hin hlen hs => ?_, own⟩
  refine (h x r hx ⟨w, _, Y, m, L⟩ vals hlen hs hin.inv.1).mono fun e w' ⟨y, he, hy, hb⟩ => ⟨y, m, L, he, ?_, hy _⟩
  have hobjs : (osh.decR r).2 = fun _ => none := by
    unfold RSh.decR
    have : ∀ d, decOs id true osh.objs d = [] := fun d => by rw [ho]; rfl
    simp only [this]
    funext z; cases z <;> rfl
  rw [hobjs]
  refine ⟨Ev.of_below hb, by show ish.objs.length ≤ osh.objs.length; rw [ho, hi]; exact Nat.le_refl _, fun p _ => ⟨rfl, rfl⟩, fun p o h => (by cases h), fun p q o o' b h => (by cases h), fun p hp => ?_, fun p b h => Nat.lt_of_lt_of_le (hin.mb p b h) hb.size, fun p o b h => (by cases h), fun p o b h => (by cases h)⟩
  have := hin.mf p (by show ish.objs.length ≤ p; rw [hi]; exact Nat.zero_le _)
  exact ⟨this.1, this.2.1, rfl⟩
theorem below_grow_drewN (w : World) (k : Nat) (os : Array Obj) : Below w.heap.size w (Sort.grow (w.drewN k) os) :=
  ⟨rfl, rfl, rfl, by simp [Sort.grow, World.drewN], fun b hb => by
    show (w.heap ++ os)[b]? = w.heap[b]?
    exact Array.getElem?_append_left hb⟩
theorem sat_int' {c : Ctx} {s : Bool} {n : Int} {v : Value} (h : sat c (.val s (.int .i64) n) v) : v = .int .i64 n := by
  simpa [sat, isTup, satV, aggT, Ty.agg, satC, VS] using h
theorem sat_str' {c : Ctx} {s : Bool} {n : ByteArray} {v : Value} (h : sat c (.val s .str n) v) : v = .string n := by
  simpa [sat, isTup, satV, aggT, Ty.agg, satC, VS] using h
theorem sat_str_mk {c : Ctx} {s : Bool} (n : ByteArray) : sat c (.val s .str n) (.string n) := by
  simp [sat, isTup, satV, aggT, Ty.agg, satC, VS]
def itoaF (n : Int) : Opt ByteArray := if decide (-9223372036854775808 ≤ n) && decide (n ≤ 9223372036854775807) then some ⟨(Lib.itoa n).toArray⟩ else none
theorem ent_itoa {k : FuncId} {fn : Func} (hf : P.funcs[k]? = some fn) (hb : fn.body.isSome = true) (hn : (fn.name == "runtime.NumGoroutine") = false)
    (hc : ∀ (n : Int) (w : World), -9223372036854775808 ≤ n → n ≤ 9223372036854775807 → Inv.holds w → Calls P k #[.int .i64 n] w fun e w' => e = .returned (.string ⟨(Lib.itoa n).toArray⟩) ∧ ∃ k os, w' = Sort.grow (w.drewN k) os)
    (F : TupT (CSh.tys ⟨[.data true (.int .i64)], []⟩) → Opt (TupT (RSh.tys ⟨.data true .str, []⟩))) (hF : ∀ x, F x = itoaF x) :
    EntOK P ⟨k, ⟨[.data true (.int .i64)], []⟩, ⟨.data true .str, []⟩, F⟩ ∧ Own P k := by
  refine ent_plain ⟨fn, hf, hb, hn⟩ rfl rfl fun x r hx c vals hlen hs hI => ?_
  have hx : F x = some r := hx
  rw [hF] at hx
  unfold itoaF at hx
  split at hx
  case isFalse => cases hx
  case isTrue hr =>
    simp only [Bool.and_eq_true, decide_eq_true_eq] at hr
    have hlen : vals.length = 1 := hlen
    match vals, hlen with
    | [v0], _ =>
      have h0 := hs 0 (by simp)
      have h0 : sat c (.val true (.int .i64) x) v0 := h0
      rw [sat_int' h0]
      refine (hc x c.w hr.1 hr.2 hI).mono fun e w' ⟨he, k, os, hw⟩ => ⟨_, he, fun c' => ?_, by rw [hw]; exact below_grow_drewN _ _ _⟩
      injection hx with hx
      subst hx
      exact sat_str_mk _
end
end Go.Tv
namespace Go.Tv
open Go Go.RowKit
set_option linter.unusedSectionVars false
section
variable {P : Program} [Inv]
theorem ext_countString {k : FuncId} {fn : Func} (hf : P.funcs[k]? = some fn) (hname : (fn.name == "runtime.NumGoroutine") = false) (hb : fn.body.isNone = true) (hn : Extern.findNext fn = none) (he : Extern.find fn = some Extern.BytealgCount.count)
    (F : TupT (CSh.tys ⟨[.data true .str, .data true (.int .u8)], []⟩) → Opt (TupT (RSh.tys ⟨.data true (.int .i64), []⟩))) (hF : ∀ x, F x = some ((Lib.countByte (ByteArray.data x.1).toList (Int.toNat x.2).toUInt8 : Nat) : Int)) :
    ExtOK P ⟨k, ⟨[.data true .str, .data true (.int .u8)], []⟩, ⟨.data true (.int .i64), []⟩, F⟩ := by
  refine ⟨rfl, rfl, fun x r hx c vals hlen hs => ?_⟩
  have hx : F x = some r := hx
  rw [hF] at hx
  injection hx with hx
  have hlen : vals.length = 2 := hlen
  match vals, hlen with
  | [v0, v1], _ =>
    have h0 := hs 0 (by simp)
    have h1 := hs 1 (by simp)
    have h0 : sat c (.val true .str x.1) v0 := h0
    have h1 : sat c (.val true (.int .u8) x.2) v1 := h1
    have e0 : v0 = .string x.1 := by simpa [sat, isTup, satV, aggT, Ty.agg, satC, VS] using h0
    have e1 : v1 = .int .u8 x.2 := by simpa [sat, isTup, satV, aggT, Ty.agg, satC, VS] using h1
    refine ⟨.int .i64 r, fun c' => ?_, fun w => ?_⟩
    · show sat c' (.val true (.int .i64) r) (.int .i64 r)
      simp [sat, isTup, satV, aggT, Ty.agg, satC, VS]
    · rw [run_callFunc_extern hf hname hb hn he, e0, e1]
      have := Lib.run_countString (P := P) x.1 x.2 w
      rw [show ([Value.string x.1, .int .u8 x.2] : List Value).toArray = #[.string x.1, .int .u8 x.2] from rfl, this, ← hx]
      rfl
theorem rowsS_str {c : Ctx} {s : Bool} : ∀ {l : List ByteArray} {us : List Value}, rowsS (VS c s .str) l us → us = l.map Value.string
  | [], us, h => h
  | x :: l, us, h => by
    obtain ⟨v, r, rfl, h1, h2⟩ := h
    have h1 : v = [Value.string x] := h1
    rw [h1, rowsS_str h2]; rfl
def joinF (l : List ByteArray) (sep : ByteArray) : Opt ByteArray :=
  if decide (l.length ≤ 140737488355328) && decide ((Lib.join (l.map (·.data.toList)) sep.data.toList).length ≤ 140737488355328) then some ⟨(Lib.join (l.map (·.data.toList)) sep.data.toList).toArray⟩ else none
theorem ent_join {k : FuncId} {fn : Func} (hf : P.funcs[k]? = some fn) (hb : fn.body.isSome = true) (hn : (fn.name == "runtime.NumGoroutine") = false)
    (h0 : ∀ (a : Option Addr) (c : Nat) (sep : ByteArray) (w : World), Calls P k #[.slice a 0 c, .string sep] w fun e w' => e = .returned (.string ⟨#[]⟩) ∧ w' = w)
    (h1 : ∀ (bk o c : Nat) (xs : List ByteArray) (sep : ByteArray) (w : World), (∀ (j : Nat) x, xs[j]? = some x → w.cell? ⟨bk, o + j, none⟩ = some (.string x)) → bk < w.heap.size → xs.length ≤ 140737488355328 → xs.length ≤ c →
      (Lib.join (xs.map (·.data.toList)) sep.data.toList).length ≤ 140737488355328 →
      Calls P k #[.slice (some ⟨bk, o, none⟩) xs.length c, .string sep] w fun e w' => e = .returned (.string ⟨(Lib.join (xs.map (·.data.toList)) sep.data.toList).toArray⟩) ∧ Below w.heap.size w w')
    (F : TupT (CSh.tys ⟨[.data true (.sl .str), .data true .str], []⟩) → Opt (TupT (RSh.tys ⟨.data true .str, []⟩))) (hF : ∀ x, F x = joinF x.1 x.2) :
    EntOK P ⟨k, ⟨[.data true (.sl .str), .data true .str], []⟩, ⟨.data true .str, []⟩, F⟩ ∧ Own P k := by
  have key : ∀ (xs : List ByteArray) (sep r : ByteArray), joinF xs sep = some r → ∀ (c : Ctx) (v0 v1 : Value), sat c (.val true (.sl .str) xs) v0 → sat c (.val true .str sep) v1 →
      Calls P k #[v0, v1] c.w fun e w' => e = .returned (.string r) ∧ Below c.w.heap.size c.w w' := by
    intro xs sep r hx c v0 v1 s0 s1
    unfold joinF at hx
    split at hx
    case isFalse => cases hx
    case isTrue hr =>
      simp only [Bool.and_eq_true, decide_eq_true_eq] at hr
      rw [sat_str' s1]
      obtain ⟨a, cap, rfl, hc, hm, hsl⟩ : ∃ a cap, v0 = .slice a (List.length xs) cap ∧ List.length xs ≤ cap ∧ List.length xs ≤ maxLen ∧ slM c true (VS c true .str) xs a := by
        exact sat_sl.1 s0
      injection hx with hx
      subst hx
      rcases hsl with hnil | ⟨b, off, us, rfl, hb, hrow, hmem⟩
      · subst hnil
        exact (h0 a cap sep c.w).mono fun e w' ⟨he, hw⟩ => ⟨he, by rw [hw]; exact Below.refl _ _⟩
      · have hus := rowsS_str hrow
        refine (h1 b off cap xs sep c.w (fun j x hj => ?_) hb.1 hr.1 hc hr.2).mono fun e w' ⟨he, hw⟩ => ⟨he, hw⟩
        exact hmem j _ (by rw [hus, List.getElem?_map, hj]; rfl)
  refine ent_plain ⟨fn, hf, hb, hn⟩ rfl rfl fun x r hx c vals hlen hs hI => ?_
  have hx : joinF x.1 x.2 = some r := (hF x).symm.trans hx
  have hlen : vals.length = 2 := hlen
  match vals, hlen with
  | [v0, v1], _ =>
    have s0 := hs 0 (by simp)
    have s1 := hs 1 (by simp)
    have s0 : sat c (.val true (.sl .str) x.1) v0 := s0
    have s1 : sat c (.val true .str x.2) v1 := s1
    exact (key x.1 x.2 r hx c v0 v1 s0 s1).mono fun e w' ⟨he, hw⟩ => ⟨_, he, fun c' => sat_str_mk _, hw⟩
end
end Go.Tv
namespace Go.Tv
open Go Go.RowKit
set_option linter.unusedSectionVars false
abbrev Inv.vars (P : Program) (l : List (String × (Array Value → Prop))) : Inv where
  blk b := ∃ x, x ∈ l ∧ P.globalNamed x.1 = some b
  holds w := ∀ x, x ∈ l → ∃ cs, w.var? P x.1 = some cs ∧ x.2 cs
  keep w w' h k := fun x hx => by
    obtain ⟨cs, h1, h2⟩ := h x hx
    refine ⟨cs, (Inv.tab P x.1 cs).keep w w' h1 fun b hb hlt => k b ⟨x, hx, hb⟩ hlt, h2⟩
theorem Inv.vars_start {P : Program} {l : List (String × (Array Value → Prop))} {w : World} (h : ∀ x, x ∈ l → ∃ cs, w.var? P x.1 = some cs ∧ x.2 cs) :
    (Inv.vars P l).holds w ∧ ∀ b, (Inv.vars P l).blk b → b < w.heap.size := by
  refine ⟨h, fun b hb => ?_⟩
  obtain ⟨x, hx, hg⟩ := hb
  obtain ⟨cs, h1, _⟩ := h x hx
  exact (Inv.tab_start h1).2 b hg
def isErr (cs : Array Value) : Prop := ∃ u v, cs = #[.iface u v]
def isTab (k : IntKind) (zs : List Int) (cs : Array Value) : Prop := cs = (zs.map fun z => Value.int k z).toArray
theorem errIs_of_head {P : Program} {W : World} {name nm : String} {d : DataW Unit} {rest : List (String × DataW Unit)} {g : Nat} {t : TypeId} {ms : Array (String × TypeId)}
    (hg : P.globalNamed name = some g) (hty : (P.globals[g]?).map (·.type) = some t) (ht : P.underlying t = some (.interface ms))
    (h : laidMet P ((name, .iface nm d) :: rest) W) : ∃ cs, W.var? P name = some cs ∧ isErr cs := by
  obtain ⟨ps, ⟨g', t', cs, fuel, p, q, hg', ht', hvar, hd, _, _⟩, _⟩ := h
  obtain rfl := Option.some.inj (hg.symm.trans hg')
  obtain rfl := Option.some.inj (hty.symm.trans ht')
  obtain ⟨_, u, v, hcs, _, _⟩ := iface_of_trod ht hd
  refine ⟨cs, hvar, u, v, ?_⟩
  cases cs with | mk l =>
  simpa using hcs
section
variable {P : Program} [Inv]
def parseV (s : ByteArray) : Int × Bool := match Lib.atoiAll s.data.toList with
  | .ok v => if (decide (-999999 ≤ v) && decide (v ≤ 999999)) && decide (Lib.itoa v = s.data.toList) then (v, true) else (0, false)
  | _ => (0, false)
theorem ent_parse {k : FuncId} {fn : Func} (hf : P.funcs[k]? = some fn) (hb : fn.body.isSome = true) (hn : (fn.name == "runtime.NumGoroutine") = false)
    (hc : ∀ (s : ByteArray) (w : World), s.size ≤ 281474976710656 → Inv.holds w → Calls P k #[.string s] w fun e w' => e = .returned (.tuple #[.int .i64 (parseV s).1, .bool (parseV s).2]) ∧ Below w.heap.size w w')
    (F : TupT (CSh.tys ⟨[.data true .str], []⟩) → Opt (TupT (RSh.tys ⟨.tcons (.data true (.int .i64)) (.tcons (.data true .bool) .tnil), []⟩))) (hF : ∀ x, F x = if decide (ByteArray.size x ≤ 281474976710656) then some (parseV x) else none) :
    EntOK P ⟨k, ⟨[.data true .str], []⟩, ⟨.tcons (.data true (.int .i64)) (.tcons (.data true .bool) .tnil), []⟩, F⟩ ∧ Own P k := by
  refine ent_plain ⟨fn, hf, hb, hn⟩ rfl rfl fun x r hx c vals hlen hs hI => ?_
  have hx : F x = some r := hx
  rw [hF] at hx
  split at hx
  case isFalse => cases hx
  case isTrue hr =>
    have hr : ByteArray.size x ≤ 281474976710656 := of_decide_eq_true hr
    have hlen : vals.length = 1 := hlen
    match vals, hlen with
    | [v0], _ =>
      have h0 := hs 0 (by simp)
      have h0 : sat c (.val true .str x) v0 := h0
      rw [sat_str' h0]
      refine (hc x c.w hr hI).mono fun e w' ⟨he, hw⟩ => ⟨_, he, fun c' => ?_, hw⟩
      injection hx with hx
      subst hx
      show sat c' (.tcons (.val true (.int .i64) (parseV x).1) (.tcons (.val true .bool (parseV x).2) .tnil)) (.tuple #[.int .i64 (parseV x).1, .bool (parseV x).2])
      simp [sat, isTup, satT, satV, aggT, Ty.agg, satC, VS]
end
end Go.Tv
