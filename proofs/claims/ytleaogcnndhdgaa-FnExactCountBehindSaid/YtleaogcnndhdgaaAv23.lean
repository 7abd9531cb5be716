/- A part of the proof that a law of the seat holds: ZAv23. -/
import Derived.Test.YtleaogcnndhdgaaAv22
import Derived.Laws.Cover3
namespace Go.Av
open Go Go.RowKit

def sb (s : ByteArray) (k : Nat) : Int := ((s[k]?).getD 0).toNat
def sr64 (a b : Int) : Int := a.fdiv (2 ^ (min b.toNat 64))

section
variable {P : Program} {G : Sg P} {e : Nat → AV} {ob : Nat → Option AObj}

theorem P_ix_str {t : TypeId} {x i : Operand} {s : ByteArray} {kk : IntKind} {n : Int} (hx : evA e x = .v (.string s)) (hi : evA e i = .v (.int kk n)) (ht : kindOf G t = some .string) (hb : 0 ≤ n ∧ n < (s.size : Int)) :
    pval G (.index t x i) e ob = some (aK .u8 (sb s n.toNat)) := by
  have hlt : n.toNat < s.size := by omega
  simp only [pval, hx, hi, inA]
  unfold kindOf at ht
  cases hf : G.TF t with
  | none => rw [hf] at ht; cases ht
  | some f =>
    rw [hf] at ht; simp only [Option.map_some, Option.some.injEq] at ht; simp only [ht]
    rw [if_pos hb.1]
    have h1 : s[n.toNat]? = some s[n.toNat] := getElem?_pos s n.toNat hlt
    rw [h1]
    simp only [Option.map_some, aK, sb, h1, Option.getD_some]

theorem P_ix_row {t el : TypeId} {x i : Operand} {row : List AV} {kk : IntKind} {n : Int} {len : Nat} {a : AV} (hx : evA e x = .agg [row]) (hi : evA e i = .v (.int kk n)) (ht : kindOf G t = some (.array len el)) (hp : Nat.beq (G.sz el) 1 = true) (hk : isSc G el = true)
    (hb : 0 ≤ n ∧ n < (len : Int)) (hj : row[n.toNat]? = some a) : pval G (.index t x i) e ob = some a := by
  have hp' : G.sz el = 1 := Nat.eq_of_beq_eq_true hp
  simp only [pval, hx, hi, inA]
  unfold kindOf at ht
  cases hf : G.TF t with
  | none => rw [hf] at ht; cases ht
  | some f =>
    rw [hf] at ht; simp only [Option.map_some, Option.some.injEq] at ht; simp only [ht, hp', if_true]
    rw [if_pos ⟨hb.1, hb.2, rfl⟩]
    exact L_cell hk rfl hj

theorem P_shr {t t' : TypeId} {x y : Operand} {k : IntKind} {a b : Int} (hx : evA e x = .v (.int .i64 a)) (hy : evA e y = .v (.int k b)) (hb : 0 ≤ b) : pval G (.binOp .shr t x y t') e ob = some (aI (sr64 a b)) := by
  have : ¬ b < 0 := by omega
  simp only [pval, hx, hy, binA, shA, if_neg this]
  rfl

/-- a variable's row is lent as a slice -/
theorem vw_lendV {σ : Nat → Option Nat} {nm s off len : Nat} {o : AObj} {row : List AV} {els : List (List AV)} (hn : ∀ p, σ p ≠ some nm) (ho : ob nm = some o) (he : o.segs[s]? = some row) (hl : Nat.ble (off + len) row.length = true)
    (h : vwSegs ob true σ (((row.drop off).take len).map fun c => [c]) els) : vw ob true σ (.sv nm s off len) (.ro els false) := by
  simp only [vw]; exact .inr ⟨trivial, .inr (.inr ⟨trivial, nm, s, off, len, o, row, rfl, hn, ho, he, Nat.le_of_ble_eq_true hl, h⟩)⟩

variable {B : Base}
/-- a slice is compared with nil: not known, where it is empty -/
theorem RW.nilEq {ops : Array Oper} {o : Oper} {l : List Oper} {st : St} {Q : Exit → St → Prop} {t t' : TypeId} {x : Operand} {el : TypeId} {els : List (List AV)} {f : Bool} (hg : o.guard = none) (hd : ∀ t, o.dst = some t → t < B.nt) (ho : o.op = .binOp .eql t x (.const (.slice none 0 0)) t')
    (ht : kindOf G t = some (.slice el)) (hx : evA st.env x = .ro els f) (h : ∀ b : Bool, (els ≠ [] → b = false) → RW P B ops l (st.next ⟨o.dst, .v (.bool b), []⟩ 0) Q) : RW P B ops (o :: l) st Q := fun m L a w hr => by
  obtain ⟨d, hdd, hfit⟩ := kindOf_und G ht
  simp only [TK.fits] at hfit; subst hfit
  have hs := evA_sat hr x
  rw [hx] at hs
  simp only [sat] at hs
  obtain ⟨ad, cap, hv, _, _, _, h4⟩ := hs
  have hb : els ≠ [] → ad.isNone = false := fun hne => by
    rcases h4 with h4 | ⟨b, off, k, rfl, _⟩
    · exact absurd h4 hne
    · rfl
  refine wpList_plain hg fun K hK => ?_
  unfold Oper.wp execOp
  have hrun : (do eqGuard .eql t x (.const (.slice none 0 0)) (a.eval x) (a.eval (.const (.slice none 0 0))); binOp .eql t (a.eval x) (a.eval (.const (.slice none 0 0))) : Sem Value).run P w = .ok (.bool ad.isNone) w := by
    rw [hv]
    have h1 : (Op.equal t (.slice ad els.length cap) (.slice none 0 0)).run P w = .ok ad.isNone w := run_equal_slice_nil w t el ad els.length cap hdd
    simp only [Act.eval]
    show (do pure (); binOp .eql t (.slice ad els.length cap) (.slice none 0 0) : Sem Value).run P w = _
    simp only [Sem.run_bind, Sem.run_pure, Result.andThen_ok, binOp]
    simp only [Sem.run_bind, h1, Result.andThen_ok, Sem.run_pure]
  simp only [ho]
  simp only [Sem.run_bind, hrun, Result.andThen_ok, Sem.run_pure, Oper.upon_value]
  exact hK _ _ (h ad.isNone hb m L _ w ((hr.put hd (av := .v (.bool ad.isNone)) (y := .bool ad.isNone) (sat_v rfl)).next (d := ⟨o.dst, .v (.bool ad.isNone), []⟩) (k := 0) fun x hx => hx))
end
end Go.Av
