/- A part of the proof that a law of the seat holds: ZAv20. -/
import Derived.Test.YtleaogcnndhdgaaAv19
import Derived.ChangeKeysEq
import Derived.Laws.StructEq
namespace Go.Av
open Go Go.RowKit

/-! ### arrays of integers are compared -/
section
variable {P : Program}

theorem fits_int : ∀ {n : Nat} {k : IntKind} {vs : List Value}, fitsAll (List.replicate n (.int k)) vs = true → vs.length = n ∧ ∀ i, i < n → ∃ a, vs[i]? = some (.int k a)
  | 0, k, [], _ => ⟨rfl, fun i h => by omega⟩
  | 0, k, _ :: _, h => by simp [fitsAll] at h
  | n + 1, k, [], h => by simp [List.replicate_succ, fitsAll] at h
  | n + 1, k, v :: vs, h => by
    simp only [List.replicate_succ, fitsAll, Bool.and_eq_true] at h
    obtain ⟨h1, h2⟩ := fits_int h.2
    refine ⟨by simp [h1], fun i hi => ?_⟩
    cases i with
    | zero =>
      cases v <;> simp [fitsSK] at h
      rename_i k' z
      exact ⟨z, by simp [h.1]⟩
    | succ i => simpa using h2 i (by omega)

theorem run_eqItems_int (w : World) {e : TypeId} {k : IntKind} (hp : P.plainKey e = true) (he : P.underlying e = some (.int k)) (d : Nat) (xs ys : Array Value) : ∀ (m j : Nat) (us vs : List Value),
    xs.toList.drop j = us → ys.toList.drop j = vs → fitsAll (List.replicate m (.int k)) us = true → fitsAll (List.replicate m (.int k)) vs = true →
    (Op.eqItems (d + 1) e 1 xs ys (List.range' j m)).run P w = .ok (veqL us vs) w
  | 0, j, us, vs, _, _, hu, hv => by
    obtain ⟨h1, _⟩ := fits_int hu
    obtain ⟨h2, _⟩ := fits_int hv
    rw [List.eq_nil_of_length_eq_zero h1, List.eq_nil_of_length_eq_zero h2]
    simp [Op.eqItems, veqL]
  | m + 1, j, [], vs, _, _, hu, hv => by simp [List.replicate_succ, fitsAll] at hu
  | m + 1, j, u :: us, [], _, _, hu, hv => by simp [List.replicate_succ, fitsAll] at hv
  | m + 1, j, u :: us, v :: vs, ex, ey, hu, hv => by
    simp only [List.replicate_succ, fitsAll, Bool.and_eq_true] at hu hv
    have get : ∀ {zs : Array Value} {z : Value} {r : List Value}, zs.toList.drop j = z :: r → zs[j]? = some z ∧ zs.toList.drop (j + 1) = r := fun {zs z r} h => by
      have h1 : (zs.toList.drop j)[0]? = some z := by rw [h]; rfl
      rw [List.getElem?_drop] at h1
      have h2 : (zs.toList.drop j).drop 1 = r := by rw [h]; rfl
      rw [List.drop_drop] at h2
      exact ⟨by simpa using h1, h2⟩
    obtain ⟨gx, dx⟩ := get ex
    obtain ⟨gy, dy⟩ := get ey
    have ih := run_eqItems_int w hp he d xs ys m (j + 1) us vs dx dy hu.2 hv.2
    have hua := hu.1
    have hva := hv.1
    cases u <;> simp [fitsSK] at hua
    cases v <;> simp [fitsSK] at hva
    rename_i k1 a k2 b
    subst hua; subst hva
    simp only [List.range'_succ, Op.eqItems, Sem.run_bind, Nat.mul_one, run_part_plain w hp gx, run_part_plain w hp gy, Result.andThen_ok, Op.equalIn, run_underlying he, if_true, Sem.run_pure, veqL, veq]
    cases hab : (a == b)
    · simp
    · simp [ih]

theorem equal_arr {t e : TypeId} {n : Nat} {k : IntKind} (hu : P.underlying t = some (.array n e)) (he : P.underlying e = some (.int k)) (hp : P.plainKey e = true) (hi : (P.info? e).isSome = true) (hc : P.cellsOf e = 1)
    (d : Nat) (vs us : List Value) (w : World) (hv : fitsAll (List.replicate n (.int k)) vs = true) (hus : fitsAll (List.replicate n (.int k)) us = true) :
    (Op.equalIn (d + 1 + 1) t (.agg vs.toArray) (.agg us.toArray)).run P w = .ok (veqL vs us) w := by
  obtain ⟨i, hi'⟩ := Option.isSome_iff_exists.1 hi
  rw [run_equalIn_array w (d + 1) _ _ hu hi', hc, List.range_eq_range']
  exact run_eqItems_int w hp he d _ _ n 0 vs us (by simp) (by simp) hv hus

theorem eq_arr {t e : TypeId} {n : Nat} {k : IntKind} (hu : P.underlying t = some (.array n e)) (he : P.underlying e = some (.int k)) (hp : P.plainKey e = true) (hi : (P.info? e).isSome = true) (hc : P.cellsOf e = 1) (hg : P.eqGuardType P.depth t = false) :
    ∀ (op : BinOp) (x y : Operand) (vs us : List Value) (w : World), fitsAll (List.replicate n (.int k)) vs = true → fitsAll (List.replicate n (.int k)) us = true →
    (eqGuard op t x y (.agg vs.toArray) (.agg us.toArray)).run P w = .ok () w ∧
    (Op.equalIn 10000 t (.agg vs.toArray) (.agg us.toArray)).run P w = .ok (veqL vs us) w :=
  fun op x y vs us w hv hus => ⟨run_eqGuard_agg w op t x y _ _ hg, equal_arr hu he hp hi hc 9998 vs us w hv hus⟩
end
end Go.Av
