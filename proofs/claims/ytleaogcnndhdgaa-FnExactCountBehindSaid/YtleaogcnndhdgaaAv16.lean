/- A part of the proof that a law of the seat holds: ZAv16. -/
import Derived.Test.YtleaogcnndhdgaaAv15
import Derived.Orders
namespace Go.Av
open Go Go.RowKit

section
variable {P : Program} {B : Base}

def Qc (B : Base) (Q : Exit → St → Prop) : Exit → Act → World → Prop := fun e a' w' => ∃ st' m' L', Q e st' ∧ Rep B (fun x => st'.nx ≤ x) st' m' L' a' w'

theorem AWp.of {c : Code} {st : St} {Q : Exit → St → Prop} (h : ∀ (m : Nat → Option Nat) (L : Nat → Lay) (a : Act) (w : World), Rep B (fun x => st.nx ≤ x) st m L a w → c.wp P (Qc B Q) a w) : AWp P B c st Q := h

theorem AWp.mono {c : Code} {st : St} {Q Q' : Exit → St → Prop} (h : AWp P B c st Q) (hq : ∀ e st', Q e st' → Q' e st') : AWp P B c st Q' :=
  fun m L a w hr => Code.wp_mono (fun _ _ _ ⟨st', m', L', q, r⟩ => ⟨st', m', L', hq _ _ q, r⟩) (h m L a w hr)

theorem AWp.skip {st : St} {Q : Exit → St → Prop} (h : Q .normal st) : AWp P B .skip st Q := fun m L _ _ hr => wp_skip ⟨st, m, L, h, hr⟩
theorem AWp.exit {st : St} {id : Nat} {Q : Exit → St → Prop} (h : Q (.exit id) st) : AWp P B (.exit id) st Q := fun m L _ _ hr => wp_exit ⟨st, m, L, h, hr⟩
theorem AWp.ret {st : St} {Q : Exit → St → Prop} (h : Q .ret st) : AWp P B .ret st Q := fun m L _ _ hr => wp_ret ⟨st, m, L, h, hr⟩

def thenQ (next : St → Prop) (Q : Exit → St → Prop) : Exit → St → Prop
  | .normal, st => next st
  | e, st => Q e st

theorem AWp.seq {x y : Code} {st : St} {Q : Exit → St → Prop} (h : AWp P B x st (thenQ (fun st' => AWp P B y st' Q) Q)) : AWp P B (.seq x y) st Q := fun m L a w hr => by
  refine wp_seq (Code.wp_mono (fun e a' w' ⟨st', m', L', q, r⟩ => ?_) (h m L a w hr))
  cases e with
  | normal => exact q m' L' a' w' r
  | exit id => exact ⟨st', m', L', q, r⟩
  | goto id => exact ⟨st', m', L', q, r⟩
  | ret => exact ⟨st', m', L', q, r⟩
  | panic c => exact ⟨st', m', L', q, r⟩
  | outgrown => exact ⟨st', m', L', q, r⟩

theorem AWp.cond {c : Operand} {x y : Code} {st : St} {Q : Exit → St → Prop} {t : Bool} (hc : evA st.env c = .v (.bool t)) (ht : t = true → AWp P B x st Q) (hf : t = false → AWp P B y st Q) : AWp P B (.cond c x y) st Q := fun m L a w hr => by
  have := evA_sat hr c
  rw [hc] at this
  simp only [sat] at this
  exact wp_cond_split this.1 (fun h => ht h m L a w hr) (fun h => hf h m L a w hr)

def blockQ (id : Nat) (Q : Exit → St → Prop) : Exit → St → Prop
  | .exit id', st => if id' = id then Q .normal st else Q (.exit id') st
  | e, st => Q e st

theorem AWp.block {id : Nat} {c : Code} {st : St} {Q : Exit → St → Prop} (h : AWp P B c st (blockQ id Q)) : AWp P B (.block id c) st Q := fun m L a w hr => by
  refine wp_block (Code.wp_mono (fun e a' w' ⟨st', m', L', q, r⟩ => ?_) (h m L a w hr))
  cases e with
  | exit id' =>
    simp only [Exit.inBlock, blockQ] at q ⊢
    split
    · rename_i hid; rw [if_pos hid] at q; exact ⟨st', m', L', q, r⟩
    · rename_i hid; rw [if_neg hid] at q; exact ⟨st', m', L', q, r⟩
  | normal => exact ⟨st', m', L', q, r⟩
  | goto id => exact ⟨st', m', L', q, r⟩
  | ret => exact ⟨st', m', L', q, r⟩
  | panic c => exact ⟨st', m', L', q, r⟩
  | outgrown => exact ⟨st', m', L', q, r⟩

theorem AWp.view {c : Code} {st st' : St} {Q : Exit → St → Prop} (σ : Nat → Option Nat) (hv : StV B.n0 st σ st') (h : AWp P B c st' Q) : AWp P B c st Q := fun m L a w hr => by
  obtain ⟨m', L', hr'⟩ := hr.view hv
  exact h m' L' a w hr'

theorem least {p : Nat → Prop} : ∀ n, p n → ∃ k, p k ∧ ∀ j, p j → k ≤ j := fun n => by
  induction n using Nat.strongRecOn with
  | _ n ih =>
    intro hn
    by_cases h : ∃ k, k < n ∧ p k
    · obtain ⟨k, hk, hp⟩ := h; exact ih k hk hp
    · exact ⟨n, hn, fun j hj => Nat.le_of_not_lt fun hlt => h ⟨j, hlt, hj⟩⟩

theorem AWp.loop {c : Code} {st : St} {Q : Exit → St → Prop} (I : Nat → St → Prop) (n : Nat) (h0 : I n st) (round : ∀ n st, I n st → AWp P B c st (thenQ (fun st' => ∃ n', n' < n ∧ I n' st') Q)) : AWp P B (.loop c) st Q := fun m L a w hr => by
  let J : Nat → Act → World → Prop := fun n a w => ∃ st m L, I n st ∧ Rep B (fun x => st.nx ≤ x) st m L a w
  have hmin : ∀ (a : Act) (w : World), (∃ n, J n a w) → ∃ k, J k a w ∧ ∀ j, J j a w → k ≤ j := fun a w ⟨n, hn⟩ => least n hn
  let μ : Act → World → Nat := fun a w => open Classical in if h : ∃ n, J n a w then Classical.choose (hmin a w h) else 0
  have hμ : ∀ a w (h : ∃ n, J n a w), J (μ a w) a w ∧ ∀ j, J j a w → μ a w ≤ j := fun a w h => by
    have := Classical.choose_spec (hmin a w h)
    simp only [μ, dif_pos h]; exact this
  refine wp_loop (fun a w => ∃ n, J n a w) μ ⟨n, st, m, L, h0, hr⟩ fun a w hJ => ?_
  obtain ⟨⟨st1, m1, L1, hI, hr1⟩, _⟩ := hμ a w hJ
  refine Code.wp_mono (fun e a' w' ⟨st', m', L', q, r⟩ => ?_) (round _ st1 hI m1 L1 a w hr1)
  cases e with
  | normal =>
    obtain ⟨n', hlt, hI'⟩ := q
    have hJ' : J n' a' w' := ⟨st', m', L', hI', r⟩
    exact ⟨⟨n', hJ'⟩, Nat.lt_of_le_of_lt ((hμ a' w' ⟨n', hJ'⟩).2 n' hJ') hlt⟩
  | exit id => exact ⟨st', m', L', q, r⟩
  | goto id => exact ⟨st', m', L', q, r⟩
  | ret => exact ⟨st', m', L', q, r⟩
  | panic c => exact ⟨st', m', L', q, r⟩
  | outgrown => exact ⟨st', m', L', q, r⟩

/-! ### regions without a draw -/
def RW (P : Program) (B : Base) (ops : Array Oper) (l : List Oper) (st : St) (Q : Exit → St → Prop) : Prop :=
  ∀ (m : Nat → Option Nat) (L : Nat → Lay) (a : Act) (w : World), Rep B (fun x => st.nx ≤ x) st m L a w → wpList P ops (Qc B Q) l a w

def St.next (st : St) (d : Dlt) (k : Nat) : St := ⟨(st.app d).env, (st.app d).objs, st.nx + k⟩

theorem RW.nil {ops : Array Oper} {st : St} {Q : Exit → St → Prop} (h : Q .normal st) : RW P B ops [] st Q := fun m L _ _ hr => wpList_nil ⟨st, m, L, h, hr⟩

theorem Rep.next {F : Nat → Prop} {st : St} {d : Dlt} {k : Nat} {m : Nat → Option Nat} {L : Nat → Lay} {a : Act} {w : World} (h : Rep B F (st.app d) m L a w) (hF : ∀ x, st.nx + k ≤ x → F x) :
    Rep B (fun x => (st.next d k).nx ≤ x) (st.next d k) m L a w := by
  have h2 := h.weakF (F' := fun x => st.nx + k ≤ x) hF
  exact ⟨h2.sz, h2.df, h2.slots, h2.obj, h2.inj, h2.mf, h2.mb, h2.ev, h2.fr, h2.base, h2.n0⟩

theorem RW.step {ops : Array Oper} {o : Oper} {l : List Oper} {st : St} {Q : Exit → St → Prop} {d : Dlt} {k : Nat} (hg : o.guard = none) (hd : ∀ t, o.dst = some t → t < B.nt)
    (hs : Stp P o st.nx k st.env st.objs d) (h : RW P B ops l (st.next d k) Q) : RW P B ops (o :: l) st Q := fun m L a w hr => by
  refine wpList_plain hg fun K hK => Oper.wp_mono (fun a' w' ⟨m', L', hr'⟩ => hK a' w' (h m' L' a' w' (hr'.next fun x hx => ⟨by omega, by omega⟩))) (hs hr (fun x hx _ => hx) (fun x _ => rfl) (fun _ _ h => h) hd _)

theorem yielded_of {ops : Array Oper} {a : Act} {g : Nat} {t : Tmp} {b : Bool} (hg : (ops[g]?).bind (·.dst) = some t) (ht : t < a.tmps.size) (hv : a.tmps.getD t undef = .bool b) : yielded ops a.tmps g = some b := by
  unfold yielded
  rw [hg]
  have : a.tmps[t]? = some (.bool b) := by
    rw [Array.getElem?_eq_getElem ht]
    rw [Array.getD_eq_getD_getElem?, Array.getElem?_eq_getElem ht] at hv
    simpa using hv
  simp [this]

theorem yielded_none {ops : Array Oper} {a : Act} {g : Nat} {t : Tmp} (hg : (ops[g]?).bind (·.dst) = some t) (ht : t < a.tmps.size) (hv : a.tmps.getD t undef = undef) : yielded ops a.tmps g = none := by
  unfold yielded
  rw [hg]
  have : a.tmps[t]? = some undef := by
    rw [Array.getElem?_eq_getElem ht]
    rw [Array.getD_eq_getD_getElem?, Array.getElem?_eq_getElem ht] at hv
    simpa using hv
  simp [this, undef]

theorem sat_undef {c : Ctx} : sat c (.tup []) undef := by simp only [sat, satTup]; exact ⟨[], rfl, rfl⟩
theorem undef_sat {c : Ctx} {y : Value} (h : sat c (.tup []) y) : y = undef := by
  simp only [sat, satTup] at h
  obtain ⟨vs, rfl, rfl⟩ := h; rfl

/-- a guarded operation that is not wanted -/
theorem RW.gf {ops : Array Oper} {o : Oper} {l : List Oper} {st : St} {Q : Exit → St → Prop} {g : Nat} {want b : Bool} {t : Tmp} (hg : o.guard = some (g, want)) (hgd : (ops[g]?).bind (·.dst) = some t) (ht : Nat.blt t B.nt = true) (hb : st.env t = .v (.bool b)) (hw : b = !want) (hd : ∀ t, o.dst = some t → t < B.nt)
    (h : RW P B ops l (st.next ⟨o.dst, .tup [], []⟩ 0) Q) : RW P B ops (o :: l) st Q := fun m L a w hr => by
  refine wpList_step fun K hK => ?_
  have hv := hr.slots t
  rw [hb] at hv
  simp only [sat] at hv
  have hy := yielded_of hgd (by rw [hr.sz]; exact Nat.le_of_ble_eq_true ht) hv.1
  have : Region.wanted o (yielded ops a.tmps) = false := by subst hw; simp [Region.wanted, hg, hy]
  rw [if_neg (by rw [this]; simp)]
  exact hK _ _ (h m L _ w ((hr.put hd sat_undef).next (d := ⟨o.dst, .tup [], []⟩) (k := 0) fun x hx => hx))

/-- its guard was not wanted itself -/
theorem RW.gu {ops : Array Oper} {o : Oper} {l : List Oper} {st : St} {Q : Exit → St → Prop} {g : Nat} {want : Bool} {t : Tmp} (hg : o.guard = some (g, want)) (hgd : (ops[g]?).bind (·.dst) = some t) (ht : Nat.blt t B.nt = true) (hb : st.env t = .tup []) (hd : ∀ t, o.dst = some t → t < B.nt)
    (h : RW P B ops l (st.next ⟨o.dst, .tup [], []⟩ 0) Q) : RW P B ops (o :: l) st Q := fun m L a w hr => by
  refine wpList_step fun K hK => ?_
  have hv := hr.slots t
  rw [hb] at hv
  have hy := yielded_none hgd (by rw [hr.sz]; exact Nat.le_of_ble_eq_true ht) (undef_sat hv)
  have : Region.wanted o (yielded ops a.tmps) = false := by simp [Region.wanted, hg, hy]
  rw [if_neg (by rw [this]; simp)]
  exact hK _ _ (h m L _ w ((hr.put hd sat_undef).next (d := ⟨o.dst, .tup [], []⟩) (k := 0) fun x hx => hx))

theorem RW.guard {ops : Array Oper} {o : Oper} {l : List Oper} {st : St} {Q : Exit → St → Prop} {d : Dlt} {k g : Nat} {want b : Bool} {t : Tmp} (hg : o.guard = some (g, want)) (hgd : (ops[g]?).bind (·.dst) = some t) (ht : t < B.nt) (hb : st.env t = .v (.bool b)) (hd : ∀ t, o.dst = some t → t < B.nt)
    (hs : b = want → Stp P o st.nx k st.env st.objs d ∧ RW P B ops l (st.next d k) Q) (hn : b ≠ want → RW P B ops l (st.next ⟨o.dst, .any, []⟩ 0) Q) : RW P B ops (o :: l) st Q := fun m L a w hr => by
  refine wpList_step fun K hK => ?_
  have hv := hr.slots t
  rw [hb] at hv
  simp only [sat] at hv
  have hy := yielded_of hgd (by rw [hr.sz]; exact ht) hv.1
  by_cases hbw : b = want
  · obtain ⟨hs, h⟩ := hs hbw
    have : Region.wanted o (yielded ops a.tmps) = true := by simp [Region.wanted, hg, hy, hbw]
    rw [if_pos this]
    exact Oper.wp_mono (fun a' w' ⟨m', L', hr'⟩ => hK a' w' (h m' L' a' w' (hr'.next fun x hx => ⟨by omega, by omega⟩))) (hs hr (fun x hx _ => hx) (fun x _ => rfl) (fun _ _ h => h) hd _)
  · have : Region.wanted o (yielded ops a.tmps) = false := by simp [Region.wanted, hg, hy, hbw]
    rw [if_neg (by rw [this]; simp)]
    exact hK _ _ (hn hbw m L _ w ((hr.put hd (av := .any) (y := undef) (by simp only [sat])).next (d := ⟨o.dst, .any, []⟩) (k := 0) fun x hx => hx))

theorem AWp.region {id : Nat} {l : List Oper} {st : St} {Q : Exit → St → Prop} (h : RW P B l.toArray l st Q) : AWp P B (.region id l.toArray false) st Q :=
  fun m L a w hr => wp_region_lit (h m L a w hr)
end
end Go.Av
