/- A part of the proof that a law of the seat holds: ZAv22. -/
import Derived.Test.YtleaogcnndhdgaaAv21
namespace Go.Av
open Go Go.RowKit

section
variable {P : Program} {B : Base}

def VCs (P : Program) (B : Base) (ops : List Oper) (dl : List DItem) (st : St) : Nat → Nat → Prop
  | 0, _ => True
  | k + 1, i => OpVC P B ops dl st i ∧ VCs P B ops dl st k (i + 1)

theorem VCs.n {ops : List Oper} {dl : List DItem} {st : St} {i : Nat} : VCs P B ops dl st 0 i := trivial
theorem VCs.c {ops : List Oper} {dl : List DItem} {st : St} {k i : Nat} (h : OpVC P B ops dl st i) (h2 : VCs P B ops dl st k (i + 1)) : VCs P B ops dl st (k + 1) i := ⟨h, h2⟩
theorem VCs.get {ops : List Oper} {dl : List DItem} {st : St} : ∀ {k i : Nat}, VCs P B ops dl st k i → ∀ j, i ≤ j → j < i + k → OpVC P B ops dl st j
  | 0, i, _, j, h1, h2 => by omega
  | k + 1, i, h, j, h1, h2 => by
    by_cases hj : j = i
    · subst hj; exact h.1
    · exact VCs.get h.2 j (by omega) (by omega)

theorem OpVC.p {ops : List Oper} {dl : List DItem} {st : St} {i : Nat} (o : Oper) (x : DItem) (ho : ops[i]? = some o) (hx : dl[i]? = some x) (hg : o.guard = none) (hd : ∀ t, o.dst = some t → t < B.nt)
    (hs : Stp P o (st.nx + offs dl i) x.k (iEnv ops dl st i) (iObj ops dl st i) x.d) : OpVC P B ops dl st i := by
  unfold OpVC; rw [ho, hx]; refine ⟨hd, ?_⟩; rw [hg]; exact hs

theorem OpVC.gt {ops : List Oper} {dl : List DItem} {st : St} {i g : Nat} {want b : Bool} {t : Tmp} (o : Oper) (x : DItem) (ho : ops[i]? = some o) (hx : dl[i]? = some x) (hg : o.guard = some (g, want)) (hgd : (ops[g]?).bind (·.dst) = some t) (ht : Nat.blt t B.nt = true)
    (hb : iEnv ops dl st i t = .v (.bool b)) (hw : b = want) (hd : ∀ t, o.dst = some t → t < B.nt)
    (hs : Stp P o (st.nx + offs dl i) x.k (iEnv ops dl st i) (iObj ops dl st i) x.d) : OpVC P B ops dl st i := by
  unfold OpVC; rw [ho, hx]; refine ⟨hd, ?_⟩; rw [hg]; exact ⟨t, hgd, Nat.le_of_ble_eq_true ht, .inl ⟨b, hb, fun _ => hs, fun h => absurd hw h⟩⟩

theorem OpVC.gf {ops : List Oper} {dl : List DItem} {st : St} {i g : Nat} {want b : Bool} {t : Tmp} (o : Oper) (ho : ops[i]? = some o) (hx : dl[i]? = some ⟨⟨o.dst, .tup [], []⟩, 0⟩) (hg : o.guard = some (g, want)) (hgd : (ops[g]?).bind (·.dst) = some t) (ht : Nat.blt t B.nt = true)
    (hb : iEnv ops dl st i t = .v (.bool b)) (hw : b = !want) (hd : ∀ t, o.dst = some t → t < B.nt) : OpVC P B ops dl st i := by
  unfold OpVC; rw [ho, hx]; refine ⟨hd, ?_⟩; rw [hg]; exact ⟨t, hgd, Nat.le_of_ble_eq_true ht, .inl ⟨b, hb, (fun h => by subst h; cases b <;> cases hw), fun _ => rfl⟩⟩

theorem OpVC.gu {ops : List Oper} {dl : List DItem} {st : St} {i g : Nat} {want : Bool} {t : Tmp} (o : Oper) (ho : ops[i]? = some o) (hx : dl[i]? = some ⟨⟨o.dst, .tup [], []⟩, 0⟩) (hg : o.guard = some (g, want)) (hgd : (ops[g]?).bind (·.dst) = some t) (ht : Nat.blt t B.nt = true)
    (hb : iEnv ops dl st i t = .tup []) (hd : ∀ t, o.dst = some t → t < B.nt) : OpVC P B ops dl st i := by
  unfold OpVC; rw [ho, hx]; refine ⟨hd, ?_⟩; rw [hg]; exact ⟨t, hgd, Nat.le_of_ble_eq_true ht, .inr ⟨hb, rfl⟩⟩

theorem AWp.drw {G : Sg P} {id : Nat} {ops : List Oper} (dl : List DItem) {st : St} {Q : Exit → St → Prop} (chk : drawOK ops dl = true) (vc : VCs P B ops dl st ops.length 0)
    (hQ : Q .normal ⟨dEnv dl st fun _ => true, dObj dl st fun _ => true, st.nx + total dl⟩) : AWp P B (.region id ops.toArray true) st Q :=
  AWp.draw (G := G) dl chk (fun i hi => vc.get i (Nat.zero_le _) (by omega)) hQ
theorem vw_slq {ob : Nat → Option AObj} {lend : Bool} {σ : Nat → Option Nat} {p nm off len len' : Nat} (h : σ p = some nm) (hl : len = len') : vw ob lend σ (.sl nm off len) (.sl p off len') := by subst hl; exact vw_sl h
theorem vw_lendM {α : Type} {ob : Nat → Option AObj} {σ : Nat → Option Nat} {nm len ty k : Nat} {r : α → List AV} {l : List α} (hn : ∀ p, σ p ≠ some nm) (ho : ob nm = some ⟨ty, some k, l.map r⟩) (hl : len = l.length) (hf : ∀ x, flatL (r x) = true) :
    vw ob true σ (.sl nm 0 len) (.ro (l.map r) false) := by
  subst hl
  exact vw_lend hn ho (by simp) (by simp) (by rw [List.drop_zero, List.take_of_length_le (by simp)]; exact vwSegs_map hf l)
theorem none_ne {nm : Nat} : ∀ p : Nat, (fun _ : Nat => (none : Option Nat)) p ≠ some nm := fun _ h => by cases h
theorem sel_ne {sel : List Nat} {nm : Nat} (h : sel.contains nm = false) : ∀ p : Nat, (fun p : Nat => sel[p]?) p ≠ some nm := fun p hp => by
  have := List.mem_of_getElem? hp
  have h2 : sel.contains nm = true := by simpa using this
  rw [h] at h2; cases h2
theorem tab_ne {l : List (Nat × Nat)} {nm : Nat} (h : (l.all fun p => !(Nat.beq p.2 nm)) = true) : ∀ p : Nat, tabN l p ≠ some nm := fun p hp => by
  have := List.all_eq_true.1 h _ (tabN_mem hp)
  rw [show Nat.beq nm nm = true from Nat.beq_refl nm] at this; cases this

theorem fo_nil {ob : Nat → Option AObj} {σ : Nat → Option Nat} : foVw ob σ [] [] := by simp only [foVw]
theorem fo_cons {ob : Nat → Option AObj} {σ : Nat → Option Nat} {nm : Nat} {sel : List Nat} {o' : AObj} {fo : List AObj} (o : AObj) (ho : ob nm = some o) (ht : o'.ty = o.ty) (hk : o'.k = o.k) (hs : vwSegs ob true σ o.segs o'.segs) (h : foVw ob σ sel fo) : foVw ob σ (nm :: sel) (o' :: fo) := by
  simp only [foVw]; exact ⟨⟨o, ho, ht, hk, hs⟩, h⟩
end

def eqV2 (c d : V2 Int) : Bool := eqAV [V2.row aI c].flatten [V2.row aI d].flatten
def eqV3 (c d : V3 Int) : Bool := eqAV [V3.row aI c].flatten [V3.row aI d].flatten
def eqV4 (c d : V4 Int) : Bool := eqAV [V4.row aI c].flatten [V4.row aI d].flatten
def eqV5 (c d : V5 Int) : Bool := eqAV [V5.row aI c].flatten [V5.row aI d].flatten
def eqV6 (c d : V6 Int) : Bool := eqAV [V6.row aI c].flatten [V6.row aI d].flatten
theorem eqV4_iff {c d : V4 Int} : eqV4 c d = decide (c = d) := by
  cases c; cases d
  simp [eqV4, V4.row, eqAV, veq, aI, Bool.decide_and]
  congr
end Go.Av
